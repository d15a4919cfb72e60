/- The memory-free machine, part 10: comparison; every operation. -/
import Derived.Test.YtdecgihkgpgejaaDoorAv
namespace Go.Proofs.YtdecgihkgpgejaaDoor.Am
open Go.RowKit
set_option linter.unusedSimpArgs false
set_option linter.unusedVariables false

section
variable {P : Program} {T : Nat → Option Ty} {N : Nat} {M : Nat → Prop} {L : Lent} {w0 : World} {blk : Nat → Option (Nat × Nat)} {V : Nat → Nat → Prop} {t : Nat → D} {h : Nat → Option Row} {a : Act} {w : World} {e : Nat} {o : Oper} {Γ : Env}

theorem scalar_notA {s : Ds} {x : D} (hk : kindOk s x = true) : s.isA = false ∧ scalarDs s = true := by
  cases s <;> cases x <;> simp [kindOk] at hk <;> exact ⟨rfl, rfl⟩

theorem run_eqLoop (hT : TOk P T) (n : Nat) {M' : Nat → Prop} {us vs : List Value} : ∀ (F : List Field) (o : Nat) (xs ys : List D) (b : Bool), (∀ f ∈ F, f.name ≠ "_") → fieldsFlat T o (F.map fun f => (f.type, f.offset)) xs = true → eqL xs ys = some b →
    (∀ j x, xs[j]? = some x → RP w M' x (us.getD (o + j) undef) ∧ o + j < us.length) → (∀ j y, ys[j]? = some y → RP w M' y (vs.getD (o + j) undef) ∧ o + j < vs.length) →
    (forIn F ((none, ()) : Option Bool × Unit) fun f __s =>
      if f.name ≠ "_" then do
        let __do_lift ← part f.type us.toArray f.offset
        let __do_lift_1 ← part f.type vs.toArray f.offset
        let __do_lift ← Op.equalIn (n + 1) f.type __do_lift __do_lift_1
        if (!__do_lift) = true then pure (ForInStep.done (some false, ())) else pure (ForInStep.yield (none, ()))
      else (pure (ForInStep.yield (none, ())) : Sem _)).run P w = .ok (if b then (none, ()) else (some false, ())) w
  | [], o, xs, ys, b, hn, hf, he, hx, hy => by
    cases xs with
    | nil =>
      cases ys with
      | nil =>
        simp only [eqL, Option.some.injEq] at he
        subst he
        rfl
      | cons y ys => simp [eqL] at he
    | cons x xs => simp [fieldsFlat] at hf
  | f :: F, o, xs, ys, b, hn, hf, he, hx, hy => by
    cases xs with
    | nil => simp [fieldsFlat] at hf
    | cons x xs =>
      cases ys with
      | nil => simp [eqL] at he
      | cons y ys =>
        simp only [List.map_cons, fieldsFlat, Bool.and_eq_true, beq_iff_eq] at hf
        obtain ⟨⟨h1, h2⟩, h3⟩ := hf
        simp only [eqL] at he
        split at he
        · rename_i b1 b2 hb1 hb2
          simp only [Option.some.injEq] at he
          subst he
          split at h2
          · rename_i φ hφ
            obtain ⟨hx1, hx2⟩ := hx 0 x rfl
            obtain ⟨hy1, hy2⟩ := hy 0 y rfl
            rw [Nat.add_zero] at hx1 hx2 hy1 hy2
            obtain ⟨hA, hS⟩ := scalar_notA h2
            have hp1 : (part f.type us.toArray f.offset).run P w = .ok (us.getD o undef) w := by
              have hg : us.toArray[f.offset]? = some (us.getD o undef) := by rw [h1]; simp [List.getD, List.getElem?_eq_getElem hx2]
              simp only [part, Sem.run_bind, run_isAgg (hT _ _ hφ), hA, Result.andThen_ok, Bool.false_eq_true, if_false, hg]
              rfl
            have hp2 : (part f.type vs.toArray f.offset).run P w = .ok (vs.getD o undef) w := by
              have hg : vs.toArray[f.offset]? = some (vs.getD o undef) := by rw [h1]; simp [List.getD, List.getElem?_eq_getElem hy2]
              simp only [part, Sem.run_bind, run_isAgg (hT _ _ hφ), hA, Result.andThen_ok, Bool.false_eq_true, if_false, hg]
              rfl
            have heq := (run_eqC hT hφ hS hx1 hy1 hb1 n).2 (eqC_kinds hb1 h2)
            have ih := run_eqLoop hT n F (o + 1) xs ys b2 (fun g hg => hn g (by simp [hg])) h3 hb2 (fun j z hj => by have := hx (j + 1) z hj; rwa [show o + (j + 1) = o + 1 + j by omega] at this) (fun j z hj => by have := hy (j + 1) z hj; rwa [show o + (j + 1) = o + 1 + j by omega] at this)
            rw [List.forIn_cons]
            simp only [Sem.run_bind]
            rw [if_pos (hn f (by simp))]
            simp only [Sem.run_bind, hp1, Result.andThen_ok, hp2, heq]
            cases b1 with
            | false => rfl
            | true =>
              simp only [Bool.not_true, Bool.false_eq_true, if_false, Sem.run_pure, Result.andThen_ok, Bool.true_and]
              exact ih
          · cases h2
        · cases he

theorem run_equalIn_bool (n : Nat) {ty : Nat} (hd : P.underlying ty = some .bool) (i j : Bool) : (Op.equalIn (n + 1) ty (.bool i) (.bool j)).run P w = .ok (i == j) w := by
  simp [Op.equalIn, run_underlying hd]

theorem run_equalIn_struct (n : Nat) {ty : Nat} {F : Array Field} (hd : P.underlying ty = some (.struct F)) (q1 : P.stoodInHeld ty = false) {us vs : List Value} {b : Bool}
    (hloop : (forIn F.toList ((none, ()) : Option Bool × Unit) fun f __s =>
      if f.name ≠ "_" then do
        let __do_lift ← part f.type us.toArray f.offset
        let __do_lift_1 ← part f.type vs.toArray f.offset
        let __do_lift ← Op.equalIn (n + 1) f.type __do_lift __do_lift_1
        if (!__do_lift) = true then pure (ForInStep.done (some false, ())) else pure (ForInStep.yield (none, ()))
      else (pure (ForInStep.yield (none, ())) : Sem _)).run P w = .ok (if b then (none, ()) else (some false, ())) w) :
    (Op.equalIn (n + 1 + 1) ty (.agg us.toArray) (.agg vs.toArray)).run P w = .ok b w := by
  have hprog : (program : Sem Program).run P w = .ok P w := rfl
  rw [Op.equalIn]
  simp only [Sem.run_bind, run_underlying hd, Result.andThen_ok, hprog, q1, Bool.false_eq_true, if_false]
  rw [← Array.forIn_toList, hloop]
  cases b <;> rfl

theorem run_eqD (hT : TOk P T) (hI : Inv N M L w0 blk V t h a w) {ty : Nat} {τ : Ty} (hτ : T ty = some τ) {x y : D} {u v : Value} {b : Bool} (hx : RT w (Own M h blk) h blk V x u) (hy : RT w (Own M h blk) h blk V y v) (hb : eqD T τ x y = some b) :
    (Op.equal ty u v).run P w = .ok b w ∧ (∀ (p q : Operand) (op : BinOp), (eqGuard op ty p q u v).run P w = .ok () w) ∧ (∀ op, op = .eql ∨ op = .neq → binOp op ty u v = (match op with | .eql => (do pure (.bool (← Op.equal ty u v)) : Sem Value) | _ => do pure (.bool (!(← Op.equal ty u v))))) := by
  obtain ⟨d, hd, hc⟩ := under hT hτ
  unfold eqD at hb
  split at hb
  · rename_i i j
    have hu := RT_bool hx
    have hv := RT_bool hy
    subst hu hv
    split at hb
    · rename_i hds
      rw [hds] at hc
      have := conv_bool hc
      subst this
      simp only [Option.some.injEq] at hb
      subst hb
      refine ⟨run_equalIn_bool 9999 hd i j, fun p q op => by cases op <;> rfl, fun op hop => ?_⟩
      rcases hop with rfl | rfl <;> rfl
    · cases hb
  · rename_i nl tg n xs
    have hx' : RP w (Own M h blk) (.sl nl tg n xs) u := hx
    have hy' : RP w (Own M h blk) (.sl true true 0 []) v := hy
    split at hb
    · rename_i el hds
      rw [hds] at hc
      have := conv_slice hc
      subst this
      cases hy' with
      | sl A c _ _ _ _ us h1 h2 h3 h4 h5 h6 h7 h8 =>
        obtain ⟨rfl, rfl⟩ := (h3 rfl).1 rfl
        cases hx' with
        | sl B c' _ _ _ _ us' g1 g2 g3 g4 g5 g6 g7 g8 =>
          have hr := run_equal_slice_nil (P := P) w ty el B n c' hd
          refine ⟨?_, fun p q op => by cases op <;> rfl, fun op hop => ?_⟩
          · rw [hr]
            have hB : B.isNone = b := by
              unfold nilB at hb
              split at hb
              · rename_i hpos
                simp only [Option.some.injEq] at hb
                subst hb
                cases B with
                | none => have := (g4 rfl).1; omega
                | some _ => rfl
              · split at hb
                · rename_i hnl
                  simp only [Option.some.injEq] at hb
                  subst hb
                  cases htg : tg with
                  | true => rw [((g3 hnl).1 htg).1]; rfl
                  | false =>
                    cases B with
                    | none => exact absurd rfl ((g3 hnl).2 htg)
                    | some _ => rfl
                · cases hb
            rw [← hB]
          · rcases hop with rfl | rfl <;> rfl
    · cases hb
  · rename_i xs ys
    have hx' : RP w (Own M h blk) (.agg xs) u := hx
    have hy' : RP w (Own M h blk) (.agg ys) v := hy
    split at hb
    · rename_i fs hds
      rw [hds] at hc
      obtain ⟨F, rfl, hF⟩ := conv_struct hc
      split at hb
      · rename_i hcond
        simp only [Bool.and_eq_true] at hcond
        obtain ⟨q1, q2, q3⟩ := (hT ty τ hτ).eqs hcond.1
        rw [hd] at q3
        simp only at q3
        cases hx' with
        | agg xs us h1 h2 h3 =>
          cases hy' with
          | agg ys vs g1 g2 g3 =>
            have hnames : ∀ f ∈ F.toList, f.name ≠ "_" := by
              intro f hf
              have := Array.all_eq_true_iff_forall_mem.1 q3 f (by simpa using hf)
              simpa using this
            have hloop := run_eqLoop (P := P) (w := w) hT 9998 (M' := Own M h blk) (us := us) (vs := vs) F.toList 0 xs ys b hnames (by rw [hF]; exact hcond.2) hb
              (fun j x hj => by rw [Nat.zero_add]; exact ⟨h2 j x hj, by have := (List.getElem?_eq_some_iff.1 hj).1; omega⟩) (fun j x hj => by rw [Nat.zero_add]; exact ⟨g2 j x hj, by have := (List.getElem?_eq_some_iff.1 hj).1; omega⟩)
            refine ⟨?_, fun p q op => ?_, fun op hop => ?_⟩
            · exact run_equalIn_struct 9998 hd q1 hloop
            · cases op <;> first | rfl | simp [eqGuard, program, Sem.run, q2]
            · rcases hop with rfl | rfl <;> rfl
      · cases hb
    · cases hb
  · cases hb

theorem does_binOp (hT : TOk P T) (hI : Inv N M L w0 blk V t h a w) {x y : Operand} {op : BinOp} {ty ty' : Nat} {d : D} (ho : o.op = .binOp op ty x y ty') (hd : binD T ty op (ev t x) (ev t y) = some d) : Does P o a w (After N M L w0 V t h a e o.dst ⟨d, []⟩) := by
  have hx := hI.ev x
  have hy := hI.ev y
  generalize ev t x = p at *
  generalize ev t y = q at *
  unfold binD at hd
  split at hd
  · rename_i k i k' j
    have hu := RT_int hx
    have hv := RT_int hy
    have hg : (eqGuard op ty x y (.int k i) (.int k' j)).run P w = .ok () w := by cases op <;> rfl
    split at hd
    · rename_i hs
      obtain ⟨v, hr, hp⟩ := run_shiftD (P := P) (w := w) (M := Own M h blk) (ty := ty) (k' := k') hs hd
      exact does_value (by simp [execOp, ho, hu, hv, hg, hr]) (After.pure_ hI (RT_of_RP hp))
    · rename_i hs
      split at hd
      · rename_i hk
        subst hk
        obtain ⟨v, hr, hp⟩ := run_intD (P := P) (w := w) (M := Own M h blk) (ty := ty) (by simpa using hs) hd
        exact does_value (by simp [execOp, ho, hu, hv, hg, hr]) (After.pure_ hI (RT_of_RP hp))
      · cases hd
  · rename_i s s'
    have hu := RT_str hx
    have hv := RT_str hy
    have hg : (eqGuard op ty x y (.string s) (.string s')).run P w = .ok () w := by cases op <;> rfl
    obtain ⟨v, hr, hp⟩ := run_strD (P := P) (w := w) (M := Own M h blk) (ty := ty) hd
    exact does_value (by simp [execOp, ho, hu, hv, hg, hr]) (After.pure_ hI (RT_of_RP hp))
  · split at hd
    · rename_i τ hτ
      split at hd
      · split at hd
        · rename_i c hc
          simp only [Option.some.injEq] at hd
          subst hd
          obtain ⟨r1, r2, r3⟩ := run_eqD (P := P) hT hI hτ hx hy hc
          have hb := r3 .eql (.inl rfl)
          exact does_value (v := .bool c) (w' := w) (by simp [execOp, ho, r2, hb, r1]) (After.pure_ hI (RT_of_RP (.bool _)))
        · cases hd
      · split at hd
        · rename_i c hc
          simp only [Option.some.injEq] at hd
          subst hd
          obtain ⟨r1, r2, r3⟩ := run_eqD (P := P) hT hI hτ hx hy hc
          have hb := r3 .neq (.inr rfl)
          exact does_value (v := .bool !c) (w' := w) (by simp [execOp, ho, r2, hb, r1]) (After.pure_ hI (RT_of_RP (.bool _)))
        · cases hd
      · cases hd
    · cases hd
end
end Go.Proofs.YtdecgihkgpgejaaDoor.Am
