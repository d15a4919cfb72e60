/- The memory-free machine, part 8: equality of structs, the other operations, calls, append; then every operation. -/
import Derived.Test.YtcdckmfiknhiiaaVs
namespace Go.Proofs.Ytcdckmfiknhiiaa.Vm
open Go.RowKit

section
variable {P : Program} {T : Nat → Option Ty} {N : Nat} {M : Nat → Prop} {w0 : World} {blk : Nat → Nat} {V : Nat → Nat → Prop} {t : Nat → D} {h : Nat → Option Row} {a : Act} {w : World} {e : Nat} {o : Oper} {Γ : Nat → List D → Option D}

theorem run_eqC (hT : TOk P T) {ft : Nat} {φ : Ty} (hφ : T ft = some φ) (hs : scalarDs φ.ds = true) {x y : D} {u v : Value} {b : Bool} {M' : Nat → Prop} (hx : RP w M' x u) (hy : RP w M' y v) (hb : eqC x y = some b) (n : Nat) :
    (∃ d, P.underlying ft = some d) ∧ ((∃ k, φ.ds = .int k ∧ ∃ k' i j, x = .int k' i ∧ y = .int k' j) ∨ (φ.ds = .bool ∧ ∃ i j, x = .bool i ∧ y = .bool j) ∨ (φ.ds = .str ∧ ∃ i j, x = .str i ∧ y = .str j) → (Op.equalIn (n + 1) ft u v).run P w = .ok b w) := by
  obtain ⟨d, hd, hc⟩ := under hT hφ
  refine ⟨⟨d, hd⟩, ?_⟩
  rintro (⟨k, hk, k', i, j, rfl, rfl⟩ | ⟨hk, i, j, rfl, rfl⟩ | ⟨hk, i, j, rfl, rfl⟩)
  · rw [hk] at hc
    have := conv_int hc
    subst this
    cases hx; cases hy
    simp only [eqC, if_true, Option.some.injEq] at hb
    subst hb
    simp [Op.equalIn, run_underlying hd]
  · rw [hk] at hc
    have := conv_bool hc
    subst this
    cases hx; cases hy
    simp only [eqC, Option.some.injEq] at hb
    subst hb
    simp [Op.equalIn, run_underlying hd]
  · rw [hk] at hc
    have := conv_str hc
    subst this
    cases hx; cases hy
    simp only [eqC, Option.some.injEq] at hb
    subst hb
    simp [Op.equalIn, run_underlying hd]

theorem eqC_kinds {x y : D} {b : Bool} {s : Ds} (hb : eqC x y = some b) (hk : kindOk s x = true) :
    (∃ k, s = .int k ∧ ∃ k' i j, x = .int k' i ∧ y = .int k' j) ∨ (s = .bool ∧ ∃ i j, x = .bool i ∧ y = .bool j) ∨ (s = .str ∧ ∃ i j, x = .str i ∧ y = .str j) := by
  cases x <;> cases y <;> simp only [eqC] at hb <;> try (cases hb; done)
  · rename_i k i k' j
    split at hb
    · rename_i he
      subst he
      cases s <;> simp [kindOk] at hk
      exact .inl ⟨_, rfl, _, _, _, rfl, rfl⟩
    · cases hb
  · cases s <;> simp [kindOk] at hk
    exact .inr (.inl ⟨rfl, _, _, rfl, rfl⟩)
  · cases s <;> simp [kindOk] at hk
    exact .inr (.inr ⟨rfl, _, _, rfl, rfl⟩)

theorem does_extract (hI : Inv N M w0 blk V t h a w) {x : Operand} {i : Nat} {xs : List D} {d : D} (ho : o.op = .extract x i) (hx : ev t x = .tup xs) (hd : xs[i]? = some d) : Does P o a w (After N M w0 V t h a e o.dst ⟨d, []⟩) := by
  have hp := hI.ev x
  rw [hx] at hp
  have hp' : RP w (Own M h blk) (.tup xs) (a.eval x) := hp
  generalize hu : a.eval x = u at *
  cases hp' with
  | tup xs us h1 h2 =>
    have hlt := (List.getElem?_eq_some_iff.1 hd).1
    refine does_value (v := us.getD i undef) (w' := w) ?_ (After.pure_ hI (RT_of_RP (h2 i d hd)))
    have hget : us[i]? = some (us.getD i undef) := by simp [List.getD, List.getElem?_eq_getElem (show i < us.length by omega)]
    generalize us.getD i undef = v at *
    simp [execOp, ho, Instr.extract, hu, hget]

theorem does_convert (hT : TOk P T) (hI : Inv N M w0 blk V t h a w) {x : Operand} {src ty : Nat} {τ σ : Ty} {k k' : IntKind} {n : Int} (ho : o.op = .convert src ty x) (hτ : T ty = some τ) (hσ : T src = some σ) (hds : τ.ds = .int k') (hx : ev t x = .int k n) :
    Does P o a w (After N M w0 V t h a e o.dst ⟨.int k' (k'.wrap n), []⟩) := by
  have hp := hI.ev x
  rw [hx] at hp
  have hu := RT_int hp
  obtain ⟨d, hd, hc⟩ := under hT hτ
  obtain ⟨d2, hd2, _⟩ := under hT hσ
  rw [hds] at hc
  have := conv_int hc
  subst this
  refine does_value (v := .int k' (k'.wrap n)) (w' := w) ?_ (After.pure_ hI (RT_of_RP (.int _ _)))
  have := run_convert_int (P := P) (w := w) src ty k n (by simp [hd2])
  simp [execOp, ho, hu, convert, run_underlying hd, run_underlying hd2, Conv.intToInt]

theorem does_unOp (hI : Inv N M w0 blk V t h a w) {x : Operand} {op : UnOp} {ty : Nat} {d : D} (ho : o.op = .unOp op ty x) (hd : unD op (ev t x) = some d) : Does P o a w (After N M w0 V t h a e o.dst ⟨d, []⟩) := by
  have hp := hI.ev x
  generalize ev t x = q at *
  cases q with
  | int k n =>
    have hu := RT_int hp
    cases op <;> simp only [unD, Option.some.injEq] at hd <;> try (cases hd; done)
    all_goals
      subst hd
      refine does_value (w' := w) ?_ (After.pure_ hI (RT_of_RP (.int _ _)))
      simp [execOp, ho, hu, Op.unary, Op.intArith, Op.intBits, bitD]
  | bool b =>
    have hu := RT_bool hp
    cases op <;> simp only [unD, Option.some.injEq] at hd <;> try (cases hd; done)
    all_goals
      subst hd
      refine does_value (w' := w) ?_ (After.pure_ hI (RT_of_RP (.bool _)))
      simp [execOp, ho, hu, Op.unary]
  | _ => simp [unD] at hd

theorem flatL_mem : ∀ {xs : List D}, flatL xs = true → ∀ x ∈ xs, flatD x = true
  | [], _, x, hx => by simp at hx
  | y :: ys, h, x, hx => by
    simp only [flatL, Bool.and_eq_true] at h
    rcases List.mem_cons.1 hx with rfl | hx
    · exact h.1
    · exact flatL_mem h.2 x hx

theorem RP.flat {M1 M2 : Nat → Prop} {d : D} {u : Value} (hr : RP w M1 d u) (hf : flatD d = true) : RP w M2 d u := by
  induction hr with
  | int k n => exact .int k n
  | bool b => exact .bool b
  | str s => exact .str s
  | sl A c nl tight n xs us h1 h2 h3 h4 h5 h6 h7 h8 ih => simp [flatD] at hf
  | agg xs us h1 h2 h3 ih =>
    simp only [flatD] at hf
    exact .agg xs us h1 (fun j x hj => ih j x hj (flatL_mem hf x (List.mem_of_getElem? hj))) h3
  | tup xs us h1 h2 ih =>
    simp only [flatD] at hf
    exact .tup xs us h1 (fun j x hj => ih j x hj (flatL_mem hf x (List.mem_of_getElem? hj)))

theorem does_call (hΓ : GOk P Γ) (hI : Inv N M w0 blk V t h a w) {c : Call} {f : Operand} {E : Eff} (ho : o.op = .call c) (hc : c.callee = .value f) (hE : effCall Γ h (ev t f) (c.args.toList.map (ev t)) = some E) : Does P o a w (After N M w0 V t h a e o.dst E) := by
  have hf := hI.ev f
  generalize ev t f = q at *
  cases q with
  | fn g =>
    simp only [effCall] at hE
    split at hE
    · rename_i as fr hca
      split at hE
      · rename_i r hr
        simp only [Option.some.injEq] at hE
        subst hE
        obtain ⟨hcalls, fn, hfn, hname, hbody⟩ := hΓ g as r hr
        have hfv : a.eval f = .func (.func g) #[] #[] := hf
        have hrun : (execOp a.eval o).run P w = .ok (.enter g (c.args.map a.eval)) w := by
          have hn : ¬ fn.name = "runtime.NumGoroutine" := by simpa using hname
          have hb : ¬ fn.body = none := by
            intro h0
            rw [h0] at hbody
            cases hbody
          simp [execOp, ho, resolve, hc, hfv, Deferred.ofValue, invoke, callFunc, program, Sem.run, hfn, hn, hb]
        have hargs : ∀ {M' : Nat → Prop}, Less M h blk fr M' → ArgsR w M' as (c.args.map a.eval) := by
          intro M' hl
          obtain ⟨i1, i2⟩ := hI.cleanArgs (us := (c.args.map a.eval).toList) hca hl (by simp) (fun j d hj => by
            rw [List.getElem?_map] at hj
            cases hx : c.args.toList[j]? with
            | none => simp [hx] at hj
            | some x =>
              simp only [hx, Option.map_some, Option.some.injEq] at hj
              subst hj
              have : (c.args.map a.eval).toList.getD j undef = a.eval x := by
                simp only [Array.toList_map, List.getD_eq_getElem?_getD, List.getElem?_map, hx]
                rfl
              rw [this]
              exact hI.ev x)
          refine ⟨by simpa using i1, fun j d hj => ?_⟩
          have := i2 j d hj
          simpa [List.getD] using this
        by_cases hflat : flatD r = true
        · refine .inr (.inr ⟨g, c.args.map a.eval, hrun, ?_⟩)
          refine (hcalls w _ _ (fun b hb => hI.own_lt hb.1) (hargs (hI.less_lend fr))).mono fun e w' hg => ?_
          obtain ⟨v, he, hv, hb⟩ := hg
          refine ⟨v, he, ?_⟩
          rw [if_pos hflat]
          refine After.pure_ (hI.later hb) (RT_of_RP ?_)
          exact hv.flat hflat
        · refine .inr (.inr ⟨g, c.args.map a.eval, hrun, ?_⟩)
          have hIf := hI.freeze fr
          refine (hcalls w _ _ (fun b hb => hIf.own_lt hb) (hargs (hI.less_freeze fr))).mono fun e w' hg => ?_
          obtain ⟨v, he, hv, hb⟩ := hg
          refine ⟨v, he, ?_⟩
          rw [if_neg hflat]
          exact ⟨blk, (hIf.later hb).weaken fun _ _ h => .inl h, RT_of_RP hv⟩
      · cases hE
    · cases hE
  | _ => simp [effCall] at hE

theorem RT.lenV {d : D} {n : Nat} {u : Value} (hI : Inv N M w0 blk V t h a w) (hl : lenD d = some n) (ha : alive h d = true) (hr : RT w (Own M h blk) h blk V d u) :
    (∀ s, d = .str s → u = .string s ∧ s.size = n) ∧ ((∀ s, d ≠ .str s) → ∃ A c, u = .slice A n c) := by
  cases d with
  | str s =>
    simp only [lenD, Option.some.injEq] at hl
    refine ⟨fun s' hs => ?_, fun hn => absurd rfl (hn s)⟩
    cases hs
    exact ⟨RT_str hr, hl⟩
  | sl nl tight m xs =>
    simp only [lenD, Option.some.injEq] at hl
    subst hl
    refine ⟨fun s' hs => (by cases hs), fun _ => ?_⟩
    have hr' : RP w (Own M h blk) (.sl nl tight m xs) u := hr
    cases hr' with
    | sl A c nl tight n xs us h1 h2 h3 h4 h5 h6 h7 h8 => exact ⟨A, c, rfl⟩
  | buf x v s o m =>
    simp only [lenD, Option.some.injEq] at hl
    subst hl
    refine ⟨fun s' hs => (by cases hs), fun _ => ?_⟩
    simp only [alive, Option.isSome_iff_exists] at ha
    obtain ⟨r, hr'⟩ := ha
    obtain ⟨hx, hv⟩ := live_some hr'
    obtain ⟨o', c, N', t', g1, _⟩ := hr.2 r hx hv
    exact ⟨_, c, g1⟩
  | _ => simp [lenD] at hl

theorem run_maxL (k : IntKind) : ∀ (ds : List D) (us : List Value) (x z : Int), maxL (fun x y => if y > x then y else x) k x ds = some z → us.length = ds.length → (∀ j d, ds[j]? = some d → RT w (Own M h blk) h blk V d (us.getD j undef)) →
    (us.foldlM Builtin.max2 (.int k x)).run P w = .ok (.int k z) w
  | [], us, x, z, hm, hl, _ => by
    have : us = [] := List.eq_nil_of_length_eq_zero hl
    subst this
    simp only [maxL, Option.some.injEq] at hm
    subst hm
    rfl
  | d :: ds, us, x, z, hm, hl, hr => by
    cases us with
    | nil => simp at hl
    | cons u us =>
      have hu := hr 0 d rfl
      cases d with
      | int k' y =>
        simp only [maxL] at hm
        split at hm
        · have hu' := RT_int hu
          simp only [List.getD_cons_zero] at hu'
          subst hu'
          have ih := run_maxL k ds us _ z hm (by simpa using hl) (fun j d hj => by simpa using hr (j + 1) d (by simpa using hj))
          simp only [List.foldlM_cons, Sem.run_bind, Builtin.max2, Sem.run_pure, Result.andThen_ok]
          exact ih
        · cases hm
      | _ => simp [maxL] at hm

theorem run_minL (k : IntKind) : ∀ (ds : List D) (us : List Value) (x z : Int), maxL (fun x y => if y < x then y else x) k x ds = some z → us.length = ds.length → (∀ j d, ds[j]? = some d → RT w (Own M h blk) h blk V d (us.getD j undef)) →
    (us.foldlM Builtin.min2 (.int k x)).run P w = .ok (.int k z) w
  | [], us, x, z, hm, hl, _ => by
    have : us = [] := List.eq_nil_of_length_eq_zero hl
    subst this
    simp only [maxL, Option.some.injEq] at hm
    subst hm
    rfl
  | d :: ds, us, x, z, hm, hl, hr => by
    cases us with
    | nil => simp at hl
    | cons u us =>
      have hu := hr 0 d rfl
      cases d with
      | int k' y =>
        simp only [maxL] at hm
        split at hm
        · have hu' := RT_int hu
          simp only [List.getD_cons_zero] at hu'
          subst hu'
          have ih := run_minL k ds us _ z hm (by simpa using hl) (fun j d hj => by simpa using hr (j + 1) d (by simpa using hj))
          simp only [List.foldlM_cons, Sem.run_bind, Builtin.min2, Sem.run_pure, Result.andThen_ok]
          exact ih
        · cases hm
      | _ => simp [maxL] at hm
end
end Go.Proofs.Ytcdckmfiknhiiaa.Vm
