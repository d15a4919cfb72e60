/- The memory-free machine, part 6: each operation does what its effect says: parts, cuts, arithmetic, comparison, conversion. -/
import Derived.Test.YtdecgihkgpgejaaDoorAq
namespace Go.Proofs.YtdecgihkgpgejaaDoor.Am
open Go.RowKit
set_option linter.unusedSimpArgs false
set_option linter.unusedVariables false

section
variable {P : Program} {T : Nat → Option Ty} {N : Nat} {M : Nat → Prop} {L : Lent} {w0 : World} {blk : Nat → Option (Nat × Nat)} {V : Nat → Nat → Prop} {t : Nat → D} {h : Nat → Option Row} {a : Act} {w : World} {e : Nat} {o : Oper} {Γ : Env}

theorem run_part (hT : TOk P T) {ft off : Nat} {φ : Ty} (hφ : T ft = some φ) {xs : List D} {us : List Value} {d : D} {M' : Nat → Prop} (hl : us.length = xs.length) (h2 : ∀ j x, xs[j]? = some x → RP w M' x (us.getD j undef)) (h3 : ∀ x ∈ xs, plainC x = true)
    (hd : partD φ xs off = some d) : ∃ v, (part ft us.toArray off).run P w = .ok v w ∧ RP w M' d v := by
  unfold partD at hd
  split at hd
  · rename_i hA
    split at hd
    · rename_i hle
      simp only [Option.some.injEq] at hd
      subst hd
      refine ⟨.agg (us.toArray.extract off (off + φ.size)), by simp [part, run_isAgg (hT _ _ hφ), hA, run_sizeOf (hT _ _ hφ)], ?_⟩
      have he : us.toArray.extract off (off + φ.size) = ((us.drop off).take φ.size).toArray := by
        apply Array.ext'
        simp [Array.toList_extract, List.extract]
      rw [he]
      refine .agg _ _ (by simp [hl]) (fun j x hj => ?_) (fun x hx => h3 x (List.mem_of_mem_drop (List.mem_of_mem_take hx)))
      rw [getElem?_drop_take] at hj
      split at hj
      · rename_i hjl
        have := h2 _ x hj
        have hg : ((us.drop off).take φ.size).getD j undef = us.getD (off + j) undef := by
          simp only [List.getD_eq_getElem?_getD, getElem?_drop_take, if_pos hjl]
        rw [hg]; exact this
      · cases hj
    · cases hd
  · rename_i hA
    have hA' : φ.ds.isA = false := by simpa using hA
    have hlt := (List.getElem?_eq_some_iff.1 hd).1
    have h4 := h2 off d hd
    refine ⟨us.getD off undef, ?_, h4⟩
    have : us.toArray[off]? = some (us.getD off undef) := by
      simp [List.getD, List.getElem?_eq_getElem (show off < us.length by omega)]
    simp [part, run_isAgg (hT _ _ hφ), hA', this]

theorem does_field (hT : TOk P T) (hI : Inv N M L w0 blk V t h a w) {x : Operand} {ty i : Nat} {τ : Ty} {E : Eff} (ho : o.op = .field ty x i) (hτ : T ty = some τ) (hE : effPart T τ i (ev t x) = some E) : Does P o a w (After N M L w0 V t h a e o.dst E) := by
  have hp := hI.ev x
  generalize ev t x = q at *
  cases q with
  | agg xs =>
    simp only [effPart] at hE
    split at hE
    · rename_i fs hds
      split at hE
      · rename_i ft off hi
        split at hE
        · rename_i φ hφ
          split at hE
          · rename_i d hd
            simp only [Option.some.injEq] at hE
            subst hE
            have hp' : RP w (Own M h blk) (.agg xs) (a.eval x) := hp
            generalize hu : a.eval x = u at *
            cases hp' with
            | agg xs us h1 h2 h3 =>
              obtain ⟨v, hv1, hv2⟩ := run_part hT hφ h1 h2 h3 hd
              obtain ⟨dd, hdd, hc⟩ := under hT hτ
              rw [hds] at hc
              obtain ⟨F, rfl, hF⟩ := conv_struct hc
              obtain ⟨f, hf, rfl, rfl⟩ := field_of hF hi
              refine does_value (v := v) (w' := w) ?_ (After.pure_ hI (RT_of_RP hv2))
              simp [execOp, ho, Instr.field, run_underlying hdd, hf, hu, asAgg, hv1]
          · cases hE
        · cases hE
      · cases hE
    · cases hE
  | _ => simp [effPart] at hE

theorem does_index (hT : TOk P T) (hI : Inv N M L w0 blk V t h a w) {x ix : Operand} {ty : Nat} {τ : Ty} {E : Eff} (ho : o.op = .index ty x ix) (hτ : T ty = some τ) (hE : effIndex T τ (ev t x) (ev t ix) = some E) :
    Does P o a w (After N M L w0 V t h a e o.dst E) := by
  have hp := hI.ev x
  have hix := hI.ev ix
  generalize ev t x = q at *
  generalize ev t ix = z at *
  obtain ⟨dd, hdd, hc⟩ := under hT hτ
  cases z with
  | int k i =>
    have hiv := RT_int hix
    cases q with
    | str s =>
      have hs := RT_str hp
      simp only [effIndex] at hE
      split at hE
      · rename_i hds
        rw [hds] at hc
        have := conv_str hc
        subst this
        split at hE
        · rename_i h0
          split at hE
          · rename_i b hb
            simp only [Option.some.injEq] at hE
            subst hE
            refine does_value (v := .int .u8 b.toNat) (w' := w) ?_ (After.pure_ hI (RT_of_RP (.int _ _)))
            simp only [execOp, ho, Instr.index, hiv, hs, asIntOf, Sem.run_bind, Sem.run_pure, Result.andThen_ok, run_underlying hdd]
            rw [if_pos h0, hb]
            rfl
          · cases hE
        · cases hE
      · cases hE
    | agg xs =>
      simp only [effIndex] at hE
      split at hE
      · rename_i n el hds
        rw [hds] at hc
        have := conv_arr hc
        subst this
        split at hE
        · rename_i φ hφ
          split at hE
          · rename_i hi
            split at hE
            · rename_i d hd
              simp only [Option.some.injEq] at hE
              subst hE
              have hp' : RP w (Own M h blk) (.agg xs) (a.eval x) := hp
              generalize hu : a.eval x = u at *
              cases hp' with
              | agg xs us h1 h2 h3 =>
                obtain ⟨v, hv1, hv2⟩ := run_part hT hφ h1 h2 h3 hd
                refine does_value (v := v) (w' := w) ?_ (After.pure_ hI (RT_of_RP hv2))
                simp only [execOp, ho, Instr.index, hiv, hu, asIntOf, Sem.run_bind, Sem.run_pure, Result.andThen_ok, run_underlying hdd]
                rw [if_pos hi]
                simp [run_sizeOf (hT _ _ hφ), hv1]
            · cases hE
          · cases hE
        · cases hE
      · cases hE
    | _ => simp [effIndex] at hE
  | _ => cases q <;> simp [effIndex] at hE

theorem natOf_some {d : D} {n : Nat} (h : natOf d = some n) : ∃ k, d = .int k n := by
  cases d with
  | int k i =>
    simp only [natOf] at h
    split at h
    · simp only [Option.some.injEq] at h; exact ⟨k, by rw [← h]; congr 1; omega⟩
    · cases h
  | _ => simp [natOf] at h

theorem run_sliceBound (k : IntKind) (n y : Nat) (c : BoundsCode) (hle : n ≤ y) : (Instr.sliceBound (.int k n) y c).run P w = .ok n w := by
  have h2 : (n : Int) ≤ (y : Int) := by omega
  simp [Instr.sliceBound, asIntOf, h2]

/-- The bounds of a cut, as the model reckons them, where the cut lies within the length. -/
theorem run_bounds (b : Bool) {n cap l k : Nat} {lo hi : Option D} {vlo vhi : Option Value} (hn : n ≤ cap) (hb : bnds n lo hi = some (l, k))
    (hlo : ∀ d, lo = some d → ∃ v, vlo = some v ∧ ∀ k n, d = .int k n → v = .int k n) (hlo' : lo = none → vlo = none)
    (hhi : ∀ d, hi = some d → ∃ v, vhi = some v ∧ ∀ k n, d = .int k n → v = .int k n) (hhi' : hi = none → vhi = none) :
    (Instr.sliceBounds b n cap vlo vhi none).run P w = .ok (l, k, cap) w ∧ l ≤ k ∧ k ≤ n := by
  unfold bnds at hb
  split at hb
  · rename_i k' l' h1 h2
    split at hb
    · rename_i hle
      simp only [Option.some.injEq, Prod.mk.injEq] at hb
      obtain ⟨rfl, rfl⟩ := hb
      refine ⟨?_, hle.1, hle.2⟩
      have hv1 : (hi = none ∧ vhi = none ∧ k' = n) ∨ ∃ q, vhi = some (.int q (k' : Nat)) := by
        cases hi with
        | none => simp at h1; exact .inl ⟨rfl, hhi' rfl, h1.symm⟩
        | some d =>
          obtain ⟨q, rfl⟩ := natOf_some h1
          obtain ⟨v, hv, hv'⟩ := hhi _ rfl
          exact .inr ⟨q, by rw [hv, hv' _ _ rfl]⟩
      have hv2 : (lo = none ∧ vlo = none ∧ l' = 0) ∨ ∃ q, vlo = some (.int q (l' : Nat)) := by
        cases lo with
        | none => simp at h2; exact .inl ⟨rfl, hlo' rfl, h2.symm⟩
        | some d =>
          obtain ⟨q, rfl⟩ := natOf_some h2
          obtain ⟨v, hv, hv'⟩ := hlo _ rfl
          exact .inr ⟨q, by rw [hv, hv' _ _ rfl]⟩
      rcases hv1 with ⟨_, rfl, rfl⟩ | ⟨q1, rfl⟩ <;> rcases hv2 with ⟨_, rfl, rfl⟩ | ⟨q2, rfl⟩
      · simp [Instr.sliceBounds]
      · simp [Instr.sliceBounds, run_sliceBound q2 l' _ _ hle.1]
      · simp [Instr.sliceBounds, run_sliceBound q1 k' cap _ (by omega)]
      · simp [Instr.sliceBounds, run_sliceBound q1 k' cap _ (by omega), run_sliceBound q2 l' _ _ hle.1]
    · cases hb
  · cases hb

theorem run_bounds3 (b : Bool) {n cap l k m : Nat} {lo : Option D} {hi : D} {vlo : Option Value} {vhi vm : Value} {q : IntKind} (hb : bnds n lo (some hi) = some (l, k)) (hm : vm = .int q m) (hmc : m ≤ cap) (hkm : k ≤ m)
    (hlo : ∀ d, lo = some d → ∃ v, vlo = some v ∧ ∀ k n, d = .int k n → v = .int k n) (hlo' : lo = none → vlo = none)
    (hhi : ∀ k n, hi = .int k n → vhi = .int k n) : (Instr.sliceBounds b n cap vlo (some vhi) (some vm)).run P w = .ok (l, k, m) w ∧ l ≤ k ∧ k ≤ n := by
  unfold bnds at hb
  split at hb
  · rename_i k' l' h1 h2
    split at hb
    · rename_i hle
      simp only [Option.some.injEq, Prod.mk.injEq] at hb
      obtain ⟨rfl, rfl⟩ := hb
      refine ⟨?_, hle.1, hle.2⟩
      obtain ⟨q1, rfl⟩ := natOf_some h1
      have hv1 := hhi _ _ rfl
      subst hv1 hm
      have hv2 : (lo = none ∧ vlo = none ∧ l' = 0) ∨ ∃ q, vlo = some (.int q (l' : Nat)) := by
        cases lo with
        | none => simp at h2; exact .inl ⟨rfl, hlo' rfl, h2.symm⟩
        | some d =>
          obtain ⟨q, rfl⟩ := natOf_some h2
          obtain ⟨v, hv, hv'⟩ := hlo _ rfl
          exact .inr ⟨q, by rw [hv, hv' _ _ rfl]⟩
      rcases hv2 with ⟨_, rfl, rfl⟩ | ⟨q2, rfl⟩
      · simp [Instr.sliceBounds, run_sliceBound q m cap _ hmc, run_sliceBound q1 k' m _ hkm]
      · simp [Instr.sliceBounds, run_sliceBound q m cap _ hmc, run_sliceBound q1 k' m _ hkm, run_sliceBound q2 l' _ _ hle.1]
    · cases hb
  · cases hb

theorem Inv.evo (hI : Inv N M L w0 blk V t h a w) (x : Option Operand) : (∀ d, x.map (Am.ev t) = some d → ∃ v, x.map a.eval = some v ∧ ∀ k n, d = .int k n → v = .int k n) ∧ (x.map (Am.ev t) = none → x.map a.eval = none) := by
  cases x with
  | none => exact ⟨fun d hd => by simp at hd, fun _ => rfl⟩
  | some x =>
    refine ⟨fun d hd => ⟨a.eval x, rfl, fun k n hk => ?_⟩, fun hd => by simp at hd⟩
    simp only [Option.map_some, Option.some.injEq] at hd
    have := hI.ev x
    rw [hd, hk] at this
    exact RT_int this

/-- A cut of clean data. -/
theorem RP.cut {M' : Nat → Prop} {A : Option Addr} {c n l k m s : Nat} {nl tight nl' tight' : Bool} {xs : List D} (hr : RP w M' (.sl nl tight n xs) (.slice A n c)) (hlk : l ≤ k) (hkn : k ≤ n) (hkm : k ≤ m) (hmc : m ≤ c) (ht : tight' = true → m = k) (hnl : nl' = true → nl = true ∧ tight = true ∧ tight' = true) :
    RP w M' (.sl nl' tight' (k - l) ((xs.drop (l * s)).take ((k - l) * s))) (.slice (if m = l then A else A.map (·.add (l * s))) (k - l) (m - l)) := by
  cases hr with
  | sl A c nl tight n xs us h1 h2 h3 h4 h5 h6 h7 h8 =>
    refine .sl _ _ nl' tight' _ _ (fun j => us (l * s + j)) (by omega) (by omega) (fun hn => ?_) (fun hn => ?_) (fun ht' => by rw [ht ht']) (fun hne => ?_) (fun j x hj => ?_) (fun x hx => h8 x (List.mem_of_mem_drop (List.mem_of_mem_take hx)))
    · obtain ⟨q1, q2, q3⟩ := hnl hn
      obtain ⟨rfl, rfl⟩ := (h3 q1).1 q2
      refine ⟨fun _ => ⟨by simp, by omega⟩, fun q => by rw [q3] at q; cases q⟩
    · have hA : A = none := by
        cases A with
        | none => rfl
        | some ad => split at hn <;> simp at hn
      have := h4 hA
      omega
    · have hxs : xs ≠ [] := by rintro rfl; simp at hne
      have hkl : l < k := by
        rcases Nat.lt_or_ge l k with h' | h'
        · exact h'
        · have : k - l = 0 := by omega
          simp [this] at hne
      obtain ⟨b, c', rfl, g1, g2, g3⟩ := h6 hxs
      rw [if_neg (by omega)]
      refine ⟨b, c' + l * s, by simp [add_mk], g1, g2, fun j hj => ?_⟩
      simp only [List.length_take, List.length_drop] at hj
      have := g3 (l * s + j) (by omega)
      rw [← Nat.add_assoc] at this
      exact this
    · rw [getElem?_drop_take] at hj
      split at hj
      · exact h7 _ x hj
      · cases hj

theorem does_slice (hT : TOk P T) (hI : Inv N M L w0 blk V t h a w) {x : Operand} {lo hi mx : Option Operand} {ty : Nat} {τ : Ty} {E : Eff} (ho : o.op = .slice ty x lo hi mx) (hτ : T ty = some τ)
    (hE : effSlice T τ h (ev t x) (lo.map (ev t)) (hi.map (ev t)) (mx.map (ev t)) = some E) : Does P o a w (After N M L w0 V t h a e o.dst E) := by
  have hp := hI.ev x
  obtain ⟨hl1, hl2⟩ := hI.evo lo
  obtain ⟨hh1, hh2⟩ := hI.evo hi
  obtain ⟨hm1, hm2⟩ := hI.evo mx
  generalize ev t x = q at *
  obtain ⟨dd, hdd, hc⟩ := under hT hτ
  have hlv : lo.map a.eval = lo.map a.eval := rfl
  cases q with
  | str s =>
    have hs := RT_str hp
    simp only [effSlice] at hE
    split at hE
    · rename_i l k hds hmx hb
      rw [hds] at hc
      have := conv_str hc
      subst this
      simp only [Option.some.injEq] at hE
      subst hE
      obtain ⟨hrun, _, _⟩ := run_bounds (P := P) (w := w) false (Nat.le_refl _) hb hl1 hl2 hh1 hh2
      have hmn := hm2 hmx
      refine does_value (v := .string (s.extract l k)) (w' := w) ?_ (After.pure_ hI (RT_of_RP (.str _)))
      simp only [execOp, ho, Instr.sliceAt, Sem.run_bind, run_underlying hdd, Result.andThen_ok, Instr.slice, hs, hmn]
      simp [hrun]
    · cases hE
  | sl nl tight n xs =>
    have hp' : RP w (Own M h blk) (.sl nl tight n xs) (a.eval x) := hp
    have hex : ∃ A c, a.eval x = .slice A n c ∧ n ≤ c ∧ (tight = true → c = n) := by
      generalize a.eval x = u at *
      cases hp' with
      | sl A c nl tight n xs us h1 h2 h3 h4 h5 h6 h7 h8 => exact ⟨A, c, rfl, h1, h5⟩
    obtain ⟨A, c, hu, hnc, htight⟩ := hex
    rw [hu] at hp'
    simp only [effSlice] at hE
    split at hE
    · rename_i el hds
      rw [hds] at hc
      have := conv_slice hc
      subst this
      split at hE
      · rename_i φ l k hφ hb
        split at hE
        · rename_i hmx
          simp only [Option.some.injEq] at hE
          subst hE
          obtain ⟨hrun, hlk, hkn⟩ := run_bounds (P := P) (w := w) true hnc hb hl1 hl2 hh1 hh2
          have hmn := hm2 hmx
          refine does_value (v := .slice (if c = l then A else A.map (·.add (l * φ.size))) (k - l) (c - l)) (w' := w) ?_ (After.pure_ hI (RT_of_RP (hp'.cut hlk hkn (by omega) (Nat.le_refl _) (fun ht => ?_) (fun hq => ?_))))
          · simp only [execOp, ho, Instr.sliceAt, Sem.run_bind, run_underlying hdd, Result.andThen_ok, Instr.slice, hu, hmn]
            simp [hrun, run_sizeOf (hT _ _ hφ)]
          · simp only [Bool.and_eq_true, beq_iff_eq] at ht
            rw [htight ht.1, ht.2]
          · simp only [Bool.and_eq_true] at hq
            refine ⟨hq.1, hq.2, ?_⟩
            have hc0 : c = 0 ∧ n = 0 := by
              cases hp' with
              | sl A c nl tight n xs us h1 h2 h3 h4 h5 h6 h7 h8 => have := ((h3 hq.1).1 hq.2).2; omega
            simp only [Bool.and_eq_true, beq_iff_eq]
            exact ⟨hq.2, by omega⟩
        · rename_i md hmx
          split at hE
          · rename_i m hd hm hhi
            split at hE
            · rename_i hcond
              simp only [Option.some.injEq] at hE
              subst hE
              obtain ⟨q, rfl⟩ := natOf_some hm
              obtain ⟨vm, hvm, hvm'⟩ := hm1 _ hmx
              obtain ⟨vh, hvh, hvh'⟩ := hh1 _ hhi
              rw [hhi] at hb
              obtain ⟨hrun, hlk, hkn⟩ := run_bounds3 (P := P) (w := w) true (cap := c) hb (hvm' _ _ rfl) (by omega) hcond.1 hl1 hl2 hvh'
              refine does_value (v := .slice (if m = l then A else A.map (·.add (l * φ.size))) (k - l) (m - l)) (w' := w) ?_ (After.pure_ hI (RT_of_RP (hp'.cut hlk hkn hcond.1 (by omega) (fun ht => by simpa using ht) (fun hq => by cases hq))))
              simp only [execOp, ho, Instr.sliceAt, Sem.run_bind, run_underlying hdd, Result.andThen_ok, Instr.slice, hu, hvm, hvh]
              simp [hrun, run_sizeOf (hT _ _ hφ)]
            · cases hE
          · cases hE
      · cases hE
    · cases hE
  | buf y v s c0 n =>
    simp only [effSlice] at hE
    split at hE
    · rename_i r el hl hds hmx
      rw [hds] at hc
      have := conv_slice hc
      subst this
      split at hE
      · rename_i φ l k hφ hb
        split at hE
        · rename_i hs
          obtain ⟨hs, hs0⟩ := hs
          simp only [Option.some.injEq] at hE
          subst hE
          obtain ⟨hx, hv⟩ := live_some hl
          have hmn := hm2 hmx
          rcases hp.2 r hx hv with ⟨g, o', c, N', t', g0, g1, g2, g3, g4, g5⟩ | ⟨g0, g1, A, g2⟩
          · obtain ⟨hrun, hlk, hkn⟩ := run_bounds (P := P) (w := w) true g3 hb hl1 hl2 hh1 hh2
            refine does_value (v := .slice (if c = l then (some ⟨g.1, o', none⟩) else (some ⟨g.1, o' + l * φ.size, none⟩)) (k - l) (c - l)) (w' := w) ?_ (After.pure_ hI ⟨hp.1, fun r' h1 h2 => .inl ?_⟩)
            · simp only [execOp, ho, Instr.sliceAt, Sem.run_bind, run_underlying hdd, Result.andThen_ok, Instr.slice, g1, hmn]
              simp [hrun, run_sizeOf (hT _ _ hφ), add_mk]
            · by_cases hcl : c = l
              · rw [if_pos hcl]
                refine ⟨g, o', c - l, N', t', g0, rfl, fun hh => ?_, by omega, by omega, g5⟩
                rcases hh with hh | hh
                · omega
                · have hl0 : l * s = 0 := by omega
                  have : l = 0 := by
                    rcases Nat.mul_eq_zero.1 hl0 with h' | h'
                    · exact h'
                    · omega
                  subst this
                  obtain ⟨q1, q2⟩ := g2 (.inr (by omega))
                  rw [Nat.sub_zero, hl0]
                  exact ⟨by omega, q2⟩
              · rw [if_neg hcl]
                refine ⟨g, o' + l * φ.size, c - l, N', t', g0, rfl, fun hh => ?_, by omega, by omega, g5⟩
                obtain ⟨q1, q2⟩ := g2 (.inl (by omega))
                have hle : l * s ≤ c * s := Nat.mul_le_mul_right _ (by omega)
                rw [hs, Nat.sub_mul]
                exact ⟨by omega, by omega⟩
          · subst g1
            obtain ⟨hrun, hlk, hkn⟩ := run_bounds (P := P) (w := w) (cap := 0) true (Nat.le_refl _) hb hl1 hl2 hh1 hh2
            have hk0 : k = 0 := by omega
            have hl0 : l = 0 := by omega
            subst hk0 hl0
            refine does_value (v := .slice A 0 0) (w' := w) ?_ (After.pure_ hI ⟨hp.1, fun r' h1 h2 => .inr ⟨g0, rfl, A, rfl⟩⟩)
            simp only [execOp, ho, Instr.sliceAt, Sem.run_bind, run_underlying hdd, Result.andThen_ok, Instr.slice, g2, hmn]
            simp [hrun, run_sizeOf (hT _ _ hφ)]
        · cases hE
      · cases hE
    · cases hE
  | _ => simp [effSlice] at hE
end
end Go.Proofs.YtdecgihkgpgejaaDoor.Am
