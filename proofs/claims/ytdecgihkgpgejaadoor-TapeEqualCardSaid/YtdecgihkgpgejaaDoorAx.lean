/- The memory-free machine, part 11: builtins; every operation. -/
import Derived.Test.YtdecgihkgpgejaaDoorAw
namespace Go.Proofs.YtdecgihkgpgejaaDoor.Am
open Go.RowKit
set_option linter.unusedSimpArgs false
set_option linter.unusedVariables false

section
variable {P : Program} {T : Nat → Option Ty} {N : Nat} {M : Nat → Prop} {L : Lent} {w0 : World} {blk : Nat → Option (Nat × Nat)} {V : Nat → Nat → Prop} {t : Nat → D} {h : Nat → Option Row} {a : Act} {w : World} {e : Nat} {o : Oper} {Γ : Env}

theorem arr_of_list {α : Type} {c : Array α} {l : List α} (h : c.toList = l) : c = l.toArray := by rw [← h]

theorem map_two {β : Type} {f : Operand → β} {l : List Operand} {p q : β} (h : l.map f = [p, q]) : ∃ s x, l = [s, x] ∧ f s = p ∧ f x = q := by
  match l, h with
  | [s, x], h => simp only [List.map_cons, List.map_nil, List.cons.injEq, and_true] at h; exact ⟨s, x, rfl, h.1, h.2⟩
theorem map_one {β : Type} {f : Operand → β} {l : List Operand} {p : β} (h : l.map f = [p]) : ∃ s, l = [s] ∧ f s = p := by
  match l, h with
  | [s], h => simp only [List.map_cons, List.map_nil, List.cons.injEq, and_true] at h; exact ⟨s, rfl, h⟩
theorem map_cons {β : Type} {f : Operand → β} {l : List Operand} {p : β} {r : List β} (h : l.map f = p :: r) : ∃ s l', l = s :: l' ∧ f s = p ∧ l'.map f = r := by
  match l, h with
  | s :: l', h => simp only [List.map_cons, List.cons.injEq] at h; exact ⟨s, l', rfl, h.1, h.2⟩

theorem does_builtin (hT : TOk P T) (hI : Inv N M L w0 blk V t h a w) {c : Call} {b : Builtin} {E : Eff} (ho : o.op = .call c) (hc : c.callee = .builtin b) (hV : ∀ d, o.dst = some d → ¬ V d e)
    (hE : effBuiltin T h e o.dst b c.argTypes.toList (c.args.toList.map (ev t)) = some E) : Does P o a w (After N M L w0 V t h a e o.dst E) := by
  unfold effBuiltin at hE
  split at hE
  · rename_i ty tys x htys hargs
    obtain ⟨s, hs, rfl⟩ := map_one hargs
    have hs' := arr_of_list hs
    have ht' := arr_of_list htys
    split at hE
    · rename_i hal
      split at hE
      · rename_i τ n hτ hn
        have hp := hI.ev s
        obtain ⟨d, hd, hcv⟩ := under hT hτ
        obtain ⟨l1, l2⟩ := RT.lenV hI hn hal hp
        have hexec : ∀ v, (Builtin.len_ c.argTypes o.type #[a.eval s]).run P w = .ok v w → (execOp a.eval o).run P w = .ok (.value v) w := by
          intro v hr
          simp [execOp, ho, resolve, hc, hs', invoke, builtin, hr]
        have ht0 : c.argTypes[0]? = some ty := by rw [ht']; rfl
        split at hE
        · rename_i z hds hz
          rw [hz] at l1
          obtain ⟨hu, hsz⟩ := l1 _ rfl
          rw [hds] at hcv
          have := conv_str hcv
          subst this
          simp only [Option.some.injEq] at hE
          subst hE
          refine does_value (hexec (.int .i64 n) ?_) (After.pure_ hI (RT_of_RP (.int _ _)))
          simp [Builtin.len_, ht0, run_underlying hd, hu, goInt, hsz]
        · rename_i el z1 z2 z3 z4 hds hz
          obtain ⟨A, k, hu⟩ := l2 (by rw [hz]; intro s h; cases h)
          rw [hds] at hcv
          have := conv_slice hcv
          subst this
          simp only [Option.some.injEq] at hE
          subst hE
          refine does_value (hexec (.int .i64 n) ?_) (After.pure_ hI (RT_of_RP (.int _ _)))
          simp [Builtin.len_, ht0, run_underlying hd, hu, goInt]
        · rename_i el z1 z2 z3 z4 z5 hds hz
          obtain ⟨A, k, hu⟩ := l2 (by rw [hz]; intro s h; cases h)
          rw [hds] at hcv
          have := conv_slice hcv
          subst this
          simp only [Option.some.injEq] at hE
          subst hE
          refine does_value (hexec (.int .i64 n) ?_) (After.pure_ hI (RT_of_RP (.int _ _)))
          simp [Builtin.len_, ht0, run_underlying hd, hu, goInt]
        · cases hE
      · cases hE
    · cases hE
  · rename_i ty ty' p q htys hargs
    obtain ⟨s, x, hs, rfl, rfl⟩ := map_two hargs
    split at hE
    · rename_i htt
      subst htt
      split at hE
      · rename_i τ d hτ hd
        exact does_append hT hI ho hc (arr_of_list hs) (arr_of_list htys) hd (hV d hd) hτ hE
      · cases hE
    · cases hE
  · rename_i k x r hargs
    obtain ⟨s, l, hs, h1, h2⟩ := map_cons hargs
    split at hE
    · rename_i z hz
      simp only [Option.some.injEq] at hE
      subst hE
      have hu : a.eval s = .int k x := by have := hI.ev s; rw [h1] at this; exact RT_int this
      have hr := run_maxL (P := P) (w := w) (M := M) (blk := blk) (V := V) (h := h) k r (l.map a.eval) x z hz (by rw [← h2]; simp) (fun j d hj => by
        rw [← h2, List.getElem?_map] at hj
        cases hx : l[j]? with
        | none => simp [hx] at hj
        | some y =>
          simp only [hx, Option.map_some, Option.some.injEq] at hj
          subst hj
          have : (l.map a.eval).getD j undef = a.eval y := by simp [List.getD, hx]
          rw [this]; exact hI.ev y)
      refine does_value (v := .int k z) (w' := w) ?_ (After.pure_ hI (RT_of_RP (.int _ _)))
      have hargs' : c.args.map a.eval = (Value.int k x :: l.map a.eval).toArray := by rw [arr_of_list hs]; simp [hu]
      simp [execOp, ho, resolve, hc, hargs', invoke, builtin, Builtin.max_, hr]
    · cases hE
  · rename_i k x r hargs
    obtain ⟨s, l, hs, h1, h2⟩ := map_cons hargs
    split at hE
    · rename_i z hz
      simp only [Option.some.injEq] at hE
      subst hE
      have hu : a.eval s = .int k x := by have := hI.ev s; rw [h1] at this; exact RT_int this
      have hr := run_minL (P := P) (w := w) (M := M) (blk := blk) (V := V) (h := h) k r (l.map a.eval) x z hz (by rw [← h2]; simp) (fun j d hj => by
        rw [← h2, List.getElem?_map] at hj
        cases hx : l[j]? with
        | none => simp [hx] at hj
        | some y =>
          simp only [hx, Option.map_some, Option.some.injEq] at hj
          subst hj
          have : (l.map a.eval).getD j undef = a.eval y := by simp [List.getD, hx]
          rw [this]; exact hI.ev y)
      refine does_value (v := .int k z) (w' := w) ?_ (After.pure_ hI (RT_of_RP (.int _ _)))
      have hargs' : c.args.map a.eval = (Value.int k x :: l.map a.eval).toArray := by rw [arr_of_list hs]; simp [hu]
      simp [execOp, ho, resolve, hc, hargs', invoke, builtin, Builtin.min_, hr]
    · cases hE
  · cases hE

theorem RC_of_RT {h : Nat → Option Row} {d : D} {u : Value} {M' : Nat → Prop} (hc : okCap d = true) (hr : RT w M' h blk V d u) : RC w M' h blk V d u := by
  cases d with
  | buf _ _ _ _ _ => simp [okCap] at hc
  | clo _ _ _ => simp [okCap] at hc
  | und => simp [okCap] at hc
  | skp => simp [okCap] at hc
  | box1 _ _ _ _ _ => simp [okCap] at hc
  | _ => exact hr

theorem does_makeFunc (hI : Inv N M L w0 blk V t h a w) {f : Nat} {first caps : Array Operand} (ho : o.op = .makeFunc (.func f) first caps) (hc : (first.toList.map (ev t) ++ caps.toList.map (ev t)).all okCap = true) :
    Does P o a w (After N M L w0 V t h a e o.dst ⟨.clo f first.size (first.toList.map (ev t) ++ caps.toList.map (ev t)), []⟩) := by
  refine does_value (v := .func (.func f) (first.map a.eval) (caps.map a.eval)) (w' := w) ?_ (After.pure_ hI ?_)
  · simp [execOp, ho, Instr.makeFunc]
  · refine ⟨first.toList.map a.eval ++ caps.toList.map a.eval, ?_, by simp, fun j x hj => ?_⟩
    · rw [List.take_left' (by simp), List.drop_left' (by simp), ← Array.toList_map, ← Array.toList_map]
    rw [List.all_eq_true] at hc
    have hcx := hc x (List.mem_of_getElem? hj)
    rw [← List.map_append, List.getElem?_map, Option.map_eq_some_iff] at hj
    obtain ⟨q, hq, rfl⟩ := hj
    have : (first.toList.map a.eval ++ caps.toList.map a.eval).getD j undef = a.eval q := by rw [← List.map_append]; simp only [List.getD_eq_getElem?_getD, List.getElem?_map, hq]; rfl
    rw [this]
    exact RC_of_RT hcx (hI.ev q)

/-- Every operation does what its effect says. -/
theorem eff_sound (hT : TOk P T) (hΓ : GOk P Γ) (hI : Inv N M L w0 blk V t h a w) (hV : ∀ d, o.dst = some d → ¬ V d e) {E : Eff} (hE : eff T Γ e o (ev t) h = some E) : Does P o a w (After N M L w0 V t h a e o.dst E) := by
  unfold eff at hE
  split at hE
  · rename_i x ho
    simp only [Option.some.injEq] at hE; subst hE
    exact does_move hI (.inl ho)
  · rename_i x ho
    exact does_asg hI ho hV hE
  · rename_i c x y ho
    split at hE
    · rename_i hc
      simp only [Option.some.injEq] at hE; subst hE
      exact does_pick (b := true) hI ho hc
    · rename_i hc
      simp only [Option.some.injEq] at hE; subst hE
      exact does_pick (b := false) hI ho hc
    · cases hE
  · rename_i ty ho
    split at hE
    · rename_i τ d hτ hd
      split at hE
      · rename_i hz
        simp only [Option.some.injEq] at hE; subst hE
        exact does_alloc (hint := Γ.hint) hT hI ho hd hτ (hV d hd) hz
      · cases hE
    · cases hE
  · rename_i ty x ho
    split at hE
    · rename_i d cs fr hd hc
      split at hE
      · simp only [Option.some.injEq] at hE; subst hE
        exact does_box hI ho hd (hV d hd) hc
      · cases hE
    · cases hE
  · rename_i ty p ho
    split at hE
    · rename_i τ hτ
      exact does_ld hT hI ho hτ hE
    · cases hE
  · rename_i ty p x ho
    split at hE
    · rename_i τ hτ
      exact does_sto hT hI ho hτ hE
    · cases hE
  · rename_i x ho
    exact does_nil hI ho hE
  · rename_i ty x i ho
    split at hE
    · rename_i τ hτ
      exact does_fieldAddr hT hI ho hτ hE
    · cases hE
  · rename_i ty x i ho
    split at hE
    · rename_i τ hτ
      exact does_field hT hI ho hτ hE
    · cases hE
  · rename_i ty x i ho
    split at hE
    · rename_i τ hτ
      exact does_indexAddr hT hI ho hτ hE
    · cases hE
  · rename_i ty x i ho
    split at hE
    · rename_i τ hτ
      exact does_index hT hI ho hτ hE
    · cases hE
  · rename_i ty x lo hi mx ho
    split at hE
    · rename_i τ hτ
      exact does_slice hT hI ho hτ hE
    · cases hE
  · rename_i ty parts ho
    split at hE
    · rename_i τ hτ
      exact does_bld hT hI ho hτ hE
    · cases hE
  · rename_i ty len parts ho
    split at hE
    · rename_i τ d hτ hd
      exact does_buildSlice hT hI ho hd (hV d hd) hτ hE
    · cases hE
  · rename_i ty l c ho
    split at hE
    · rename_i τ d hτ hd
      exact does_make hT hI ho hd (hV d hd) hτ hE
    · cases hE
  · rename_i op ty x y ty' ho
    split at hE
    · rename_i d hd
      simp only [Option.some.injEq] at hE; subst hE
      exact does_binOp hT hI ho hd
    · cases hE
  · rename_i op ty x ho
    split at hE
    · rename_i d hd
      simp only [Option.some.injEq] at hE; subst hE
      exact does_unOp hI ho hd
    · cases hE
  · rename_i src dst x ho
    split at hE
    · rename_i τ k n σ hτ hσ hx
      split at hE
      · rename_i k' hds
        simp only [Option.some.injEq] at hE; subst hE
        exact does_convert hT hI ho hτ hσ hds hx
      · cases hE
    · cases hE
  · rename_i fn first caps ho
    split at hE
    · split at hE
      · rename_i hc
        simp only [Option.some.injEq] at hE; subst hE
        exact does_makeFunc hI ho hc
      · cases hE
    · cases hE
  · rename_i ty ho
    split at hE
    · rename_i τ d hτ hd
      exact does_makeMap hT hI ho hd (hV d hd) hτ hE
    · cases hE
  · rename_i ty m i ok ho
    split at hE
    · rename_i τ hτ
      exact does_lookup hT hI ho hτ hE
    · cases hE
  · rename_i ty m i x ho
    split at hE
    · rename_i τ hτ
      exact does_mapUpdate hT hI (.inr ho) hτ hE
    · cases hE
  · rename_i ty m i x ho
    split at hE
    · rename_i τ hτ
      exact does_mapUpdate hT hI (.inl ho) hτ hE
    · cases hE
  · rename_i x i ho
    split at hE
    · rename_i xs hx
      split at hE
      · rename_i d hd
        simp only [Option.some.injEq] at hE; subst hE
        exact does_extract hI ho hx hd
      · cases hE
    · cases hE
  · rename_i c ho
    split at hE
    · rename_i f hc
      exact does_call hΓ hI ho hc hV hE
    · rename_i b hc
      exact does_builtin hT hI ho hc hV hE
    · cases hE
  · cases hE
end
end Go.Proofs.YtdecgihkgpgejaaDoor.Am
