/- The laws TapeFree and TapeOrder. -/
import Derived.Test.YtdecgihkgpgejaaDoorT1
namespace Go.Proofs.YtdecgihkgpgejaaDoor.P
open Go.RowKit
set_option linter.unusedSimpArgs false
set_option linter.unusedVariables false

theorem u8_range {n : Int} (h : (Lit.int .u8 n).wf = true) : 0 ≤ n ∧ n ≤ 255 := by
  have h' : (decide (IntKind.u8.min ≤ n) && decide (n ≤ IntKind.u8.max)) = true := h
  simp only [Bool.and_eq_true, decide_eq_true_eq] at h'
  exact h'
theorem mod_u8 {x : Int} {n : Nat} (hx : 0 ≤ x ∧ x ≤ 255) (hn : 0 < n) : ∃ a : Nat, a < n ∧ modI .i64 (IntKind.i64.wrap x) (n : Int) = some (a : Int) := by
  refine ⟨(x % n).toNat, ?_, ?_⟩
  · have := Int.emod_lt_of_pos x (show (0 : Int) < n by omega)
    have := Int.emod_nonneg x (show (n : Int) ≠ 0 by omega)
    omega
  · rw [wrap64 (by omega) (by omega), tmod_of (by omega) (by omega)]
    have := Int.emod_nonneg x (show (n : Int) ≠ 0 by omega)
    congr 1
    omega
theorem emod_inj {c a b m : Int} (ha : 0 ≤ a ∧ a < m) (hb : 0 ≤ b ∧ b < m) (h : (c + a) % m = (c + b) % m) : a = b := by
  have h1 : ((c + a) - c) % m = ((c + b) - c) % m := by rw [Int.sub_emod, h, ← Int.sub_emod]
  have e1 : c + a - c = a := by omega
  have e2 : c + b - c = b := by omega
  rw [e1, e2, Int.emod_eq_of_lt ha.1 ha.2, Int.emod_eq_of_lt hb.1 hb.2] at h1
  exact h1
theorem emod_own {c w m : Int} (hw : 0 ≤ w ∧ w < m) : (c + (w - c % m + m) % m) % m = w := by
  have h1 : (c + (w - c % m + m) % m) % m = (c + (w - c % m + m)) % m := by
    rw [Int.add_emod, Int.emod_emod_of_dvd _ (Int.dvd_refl m), ← Int.add_emod]
  rw [h1]
  have h2 : c + (w - c % m + m) = w + m * (c / m + 1) := by
    have := Int.mul_ediv_add_emod c m
    have e : m * (c / m + 1) = m * (c / m) + m := by rw [Int.mul_add, Int.mul_one]
    omega
  rw [h2, Int.add_mul_emod_self_left, Int.emod_eq_of_lt hw.1 hw.2]

def ownL (want sums : List Int) (n : Int) : List Int := (List.range want.length).map fun j => (want.getD j 0 - sums.getD j 0 + (n - (j : Nat))) % (n - (j : Nat))
theorem ownL_len (want sums : List Int) (n : Int) : (ownL want sums n).length = want.length := by simp [ownL]
theorem ownL_at {want sums : List Int} {n : Int} {j : Nat} (h : j < want.length) : (ownL want sums n)[j]? = some ((want.getD j 0 - sums.getD j 0 + (n - (j : Nat))) % (n - (j : Nat))) := by simp [ownL, h]
theorem rOk_at {row : List Int} {n : Int} (h : rOk row n) {j : Nat} (hj : j < row.length) : 0 ≤ row.getD j 0 ∧ row.getD j 0 < n - (j : Nat) := by
  have e := List.getElem?_eq_getElem hj
  have := h.2.2.2.2 j _ e
  have e2 : row.getD j 0 = row[j] := by simp [List.getD, e]
  rw [e2]
  exact this
theorem get_getD {l : List Int} {j : Nat} (hj : j < l.length) : l[j]? = some (l.getD j 0) := by simp [List.getD, hj]

theorem Free_L4 {want sums : List Int} {n e : Int} (hw : rOk want n) (hs : ∀ j, j < want.length → 0 ≤ sums.getD j 0 ∧ sums.getD j 0 < n - (j : Nat)) (hl : sums.length = want.length) :
    loopL (l50_TapeFree_L4 want n (sums, e)) (0, []) = some (ownL want sums n) := by
  obtain ⟨k1, k2, k3, k4, k5⟩ := hw
  have := trajL (body := l50_TapeFree_L4 want n (sums, e)) want.length (fun j => ((j : Int), (ownL want sums n).take j)) (r := ownL want sums n) (by omega) (fun j hj => by
      obtain ⟨a1, a2⟩ := rOk_at ⟨k1, k2, k3, k4, k5⟩ hj
      obtain ⟨b1, b2⟩ := hs j hj
      have hjl : j < (ownL want sums n).length := by rw [ownL_len]; exact hj
      have ea := ownL_at (sums := sums) (n := n) hj
      rw [List.getElem?_eq_getElem hjl, Option.some.injEq] at ea
      have et := List.take_succ_eq_append_getElem hjl
      rw [ea] at et
      rw [et]
      clear ea et
      unfold l50_TapeFree_L4
      dsimp only
      rw [if_pos (by simp; omega)]
      simp only [idx_of (get_getD hj), idx_of (get_getD (l := sums) (show j < sums.length by omega)), Option.bind_some]
      generalize want.getD j 0 = w at *
      generalize sums.getD j 0 = s at *
      rw [wrap64 (show -9223372036854775808 ≤ w - s by omega) (by omega), wrap64 (show -9223372036854775808 ≤ w - s + n by omega) (by omega), wrap64 (show -9223372036854775808 ≤ w - s + n - (j : Int) by omega) (by omega), wrap64 (show -9223372036854775808 ≤ n - (j : Int) by omega) (by omega), tmod_of (by omega) (by omega)]
      simp only [Option.bind_some]
      rw [app_ok (by simp [ownL_len]; omega) (by omega)]
      simp only [Option.bind_some, wrap_nat (show j < 4611686018427387904 by omega)]
      have e : w - s + n - (j : Int) = w - s + (n - (j : Int)) := by omega
      rw [e]) (by
      unfold l50_TapeFree_L4
      dsimp only
      rw [if_neg (by simp), List.take_of_length_le (by rw [ownL_len]; omega)])
  simpa using this

theorem place_perm {α : Type} {rows : List α} {x : α} {k : Nat} : ∀ r, r ∈ rows.take k ++ [x] ++ rows.drop k ↔ r = x ∨ r ∈ rows := by
  intro r
  have h : r ∈ rows ↔ r ∈ rows.take k ∨ r ∈ rows.drop k := by rw [← List.mem_append, List.take_append_drop]
  simp only [List.mem_append, List.mem_singleton]
  rw [h]
  constructor
  · rintro ((h | h) | h)
    · exact .inr (.inl h)
    · exact .inl h
    · exact .inr (.inr h)
  · rintro (h | h | h)
    · exact .inl (.inr h)
    · exact .inl (.inl h)
    · exact .inr h
theorem place_len {α : Type} {rows : List α} {x : α} {k : Nat} : (rows.take k ++ [x] ++ rows.drop k).length = rows.length + 1 := by
  simp
  omega
theorem colS_place {rows : List (List Int)} {x : List Int} {k j : Nat} : colS (rows.take k ++ [x] ++ rows.drop k) j = colS rows j + x.getD j 0 := by
  have h : colS rows j = colS (rows.take k) j + colS (rows.drop k) j := by rw [← colS_app, List.take_append_drop]
  rw [colS_app, colS_snoc, h]
  omega
theorem tOk_place {rows : List (List Int)} {x : List Int} {k : Nat} {n : Int} (h : tOk rows n (x.length : Int)) (hx : rOk x n) (hl : rows.length ≤ 8) : tOk (rows.take k ++ [x] ++ rows.drop k) n (x.length : Int) := by
  obtain ⟨h1, h2, h3, h4, h5, h6⟩ := h
  refine ⟨h1, h2, h3, h4, by rw [place_len]; omega, fun r hr => ?_⟩
  rcases (place_perm r).1 hr with rfl | hr
  · exact ⟨rfl, hx⟩
  · exact h6 r hr

theorem TapeFree_eq (a0 : List (List Int)) (a1 a2 : List Int) (a3 a4 : Int) (h0 : a0.length * 24 ≤ 140737488351232 ∧ ∀ y ∈ a0, (y.length * 8 ≤ 140737488351232 ∧ ∀ z ∈ y, (Lit.int .i64 z).wf = true))
    (h1 : a1.length * 8 ≤ 140737488351232) (h2 : a2.length * 8 ≤ 140737488351232) (h4 : (Lit.int .u8 a4).wf = true) : l50_TapeFree a0 a1 a2 a3 a4 = some true := by
  have hw0 : ∀ r ∈ a0, r.length < 4611686018427387904 := fun r hr => by have := (h0.2 r hr).1; omega
  unfold l50_TapeFree
  rw [sane_eq]
  simp only [Option.bind_some]
  obtain ⟨b1, e1, k1⟩ := Few_eq a0 (by omega)
  obtain ⟨b2, e2, k2⟩ := FewRow_eq a1
  obtain ⟨b3, e3, k3⟩ := FewRow_eq a2
  rw [e1]
  simp only [Option.bind_some]
  cases b1 with
  | false => rfl
  | true =>
  rw [if_neg (by simp), e2]
  simp only [Option.bind_some]
  cases b2 with
  | false => rfl
  | true =>
  rw [if_neg (by simp), e3]
  simp only [Option.bind_some]
  cases b3 with
  | false => rfl
  | true =>
  rw [if_neg (by simp)]
  by_cases g5 : (a0.length : Int) > 8
  · rw [if_pos (by simp; omega)]; rfl
  rw [if_neg (by simp; omega), Right_eq a3 (by omega)]
  simp only [Option.bind_some]
  by_cases hw : rOk a1 a3
  rotate_left
  · rw [if_pos (by simp [hw])]
  rw [if_neg (by simp [hw]), Tape_eq (by omega) hw0]
  simp only [Option.bind_some]
  by_cases hok : tOk a0 a3 (a1.length : Int)
  rotate_left
  · rw [if_neg hok]
    rfl
  rw [if_pos hok]
  simp only [Int.toNat_natCast, tp_len, bne_self_eq_false, Bool.false_eq_true, if_false, Option.bind_some]
  have hK : a1.length ≤ 100 := hw.2.2.1
  have hKn := hw.2.2.2.1
  have hn := hw.2.1
  have hsum : ∀ j, j < a1.length → (tp a0 a3 a1.length).getD j 0 = colS a0 j % (a3 - (j : Nat)) := fun j hj => by simp [List.getD, tp_at hj]
  have hs : ∀ j, j < a1.length → 0 ≤ (tp a0 a3 a1.length).getD j 0 ∧ (tp a0 a3 a1.length).getD j 0 < a3 - (j : Nat) := fun j hj => by
    rw [hsum j hj]
    exact ⟨Int.emod_nonneg _ (by omega), Int.emod_lt_of_pos _ (by omega)⟩
  rw [Free_L4 hw hs (tp_len _ _ _)]
  simp only [Option.bind_some]
  generalize hown : ownL a1 (tp a0 a3 a1.length) a3 = own
  have hol : own.length = a1.length := by rw [← hown, ownL_len]
  have hoa : ∀ j, j < a1.length → own.getD j 0 = (a1.getD j 0 - colS a0 j % (a3 - (j : Nat)) + (a3 - (j : Nat))) % (a3 - (j : Nat)) := fun j hj => by
    have := ownL_at (sums := tp a0 a3 a1.length) (n := a3) hj
    rw [hown, get_getD (by omega), Option.some.injEq, hsum j hj] at this
    exact this
  have hor : rOk own a3 := ⟨hw.1, hw.2.1, by omega, by omega, fun j x hx => by
    have hj := (List.getElem?_eq_some_iff.1 hx).1
    rw [get_getD hj, Option.some.injEq, hoa j (by omega)] at hx
    rw [← hx]
    exact ⟨Int.emod_nonneg _ (by omega), Int.emod_lt_of_pos _ (by omega)⟩⟩
  have hwr : IntKind.i64.wrap ((a0.length : Int) + 1) = ((a0.length + 1 : Nat) : Int) := wrap_nat (by omega)
  obtain ⟨P, hP, hm⟩ := mod_u8 (n := a0.length + 1) (u8_range h4) (by omega)
  rw [hwr, hm]
  simp only [Option.bind_some]
  rw [slc_nat (by omega)]
  simp only [Option.bind_some]
  rw [app_ok (by simp; omega) (by omega)]
  simp only [Option.bind_some]
  rw [app_ok (by simp; omega) (by omega)]
  simp only [Option.bind_some]
  have hsl : slc a0 (P : Int) (a0.length : Int) = some (a0.drop P) := by
    unfold slc
    rw [if_pos ⟨by omega, by omega, by omega⟩]
    simp only [Int.toNat_natCast]
    rw [List.take_of_length_le (by simp)]
  rw [hsl]
  simp only [Option.bind_some]
  rw [app_ok (by simp; omega) (by omega)]
  simp only [Option.bind_some]
  have hlenA : ∀ x : List Int, (a0.take P ++ [x] ++ a0.drop P).length < 4611686018427387904 := fun x => by rw [place_len]; omega
  have hok1 : tOk (a0.take P ++ [own] ++ a0.drop P) a3 (a1.length : Int) := by rw [← hol]; exact tOk_place (by rw [hol]; exact hok) hor (by omega)
  have htp : tp (a0.take P ++ [own] ++ a0.drop P) a3 a1.length = a1 := by
    apply List.ext_getElem?
    intro j
    by_cases hj : j < a1.length
    · rw [tp_at hj, colS_place, hoa j hj, get_getD hj, emod_own (rOk_at hw hj)]
    · rw [List.getElem?_eq_none (by rw [tp_len]; omega), List.getElem?_eq_none (by omega)]
  rw [Tape_eq (hlenA own) (fun r hr => by rcases (place_perm r).1 hr with rfl | hr; omega; exact hw0 r hr), if_pos hok1]
  simp only [Option.bind_some, Int.toNat_natCast, htp, bne_self_eq_false, Bool.false_eq_true, if_false]
  rw [sameI_eq (by omega), Right_eq a3 (by omega)]
  simp only [Option.bind_some, decide_true, Bool.not_true, Bool.false_eq_true, if_false, hor]
  rw [Right_eq a3 (by omega)]
  simp only [Option.bind_some]
  by_cases hr2 : rOk a2 a3
  rotate_left
  · rw [if_pos (by simp [hr2])]; rfl
  rw [if_neg (by simp [hr2])]
  by_cases hl2 : a2.length = a1.length
  rotate_left
  · rw [if_pos (by simp; omega)]; rfl
  rw [if_neg (by simp [hl2]), sameI_eq (by omega)]
  simp only [Option.bind_some]
  by_cases hne : a2 = own
  · rw [if_pos (by simp [hne])]
  rw [if_neg (by simp [hne]), app_ok (by simp; omega) (by omega)]
  simp only [Option.bind_some]
  rw [app_ok (by simp; omega) (by omega)]
  simp only [Option.bind_some]
  have hok2 : tOk (a0.take P ++ [a2] ++ a0.drop P) a3 (a1.length : Int) := by rw [← hl2]; exact tOk_place (by rw [hl2]; exact hok) hr2 (by omega)
  rw [Tape_eq (hlenA a2) (fun r hr => by rcases (place_perm r).1 hr with rfl | hr; omega; exact hw0 r hr), if_pos hok2]
  simp only [Option.bind_some, Int.toNat_natCast, beq_self_eq_true, if_true]
  rw [sameI_eq (by rw [tp_len]; omega)]
  have hdiff : tp (a0.take P ++ [a2] ++ a0.drop P) a3 a1.length ≠ a1 := by
    intro he
    refine hne (List.ext_getElem? fun j => ?_)
    by_cases hj : j < a1.length
    · have e1 := tp_at (rows := a0.take P ++ [a2] ++ a0.drop P) (n := a3) hj
      have e2 := tp_at (rows := a0.take P ++ [own] ++ a0.drop P) (n := a3) hj
      rw [he] at e1
      rw [htp] at e2
      have e3 := e1.symm.trans e2
      rw [Option.some.injEq, colS_place, colS_place] at e3
      have := emod_inj (rOk_at hr2 (by omega)) (rOk_at hor (by omega)) e3
      rw [get_getD (by omega), get_getD (by omega), this]
    · rw [List.getElem?_eq_none (by omega), List.getElem?_eq_none (by omega)]
  simp only [hdiff, decide_false, Option.bind_some, Bool.not_false]

theorem colS_rot (rows : List (List Int)) (i j : Nat) : colS (rows.drop i ++ rows.take i) j = colS rows j := by
  have h : colS rows j = colS (rows.take i) j + colS (rows.drop i) j := by rw [← colS_app, List.take_append_drop]
  rw [colS_app, h]
  omega
theorem tp_congr {a b : List (List Int)} {n : Int} {k : Nat} (h : ∀ j, colS a j = colS b j) : tp a n k = tp b n k := by
  unfold tp
  exact List.map_congr_left fun j _ => by rw [h j]
theorem mem_rot {α : Type} {rows : List α} {i : Nat} : ∀ r, r ∈ rows.drop i ++ rows.take i ↔ r ∈ rows := by
  intro r
  have h : r ∈ rows ↔ r ∈ rows.take i ∨ r ∈ rows.drop i := by rw [← List.mem_append, List.take_append_drop]
  rw [h, List.mem_append]
  exact Or.comm
theorem tOk_rot {rows : List (List Int)} {n k : Int} {i : Nat} : tOk (rows.drop i ++ rows.take i) n k ↔ tOk rows n k := by
  have hl : (rows.drop i ++ rows.take i).length = rows.length := by simp; omega
  unfold tOk
  rw [hl]
  constructor
  · rintro ⟨h1, h2, h3, h4, h5, h6⟩
    exact ⟨h1, h2, h3, h4, h5, fun r hr => h6 r ((mem_rot r).2 hr)⟩
  · rintro ⟨h1, h2, h3, h4, h5, h6⟩
    exact ⟨h1, h2, h3, h4, h5, fun r hr => h6 r ((mem_rot r).1 hr)⟩
theorem rOk_zero {k : Nat} {n : Int} (h1 : k ≤ 100) (h2 : (k : Int) ≤ n) (h3 : n ≤ 1099511627776) : rOk (List.replicate k 0) n := by
  refine ⟨by omega, h3, by simpa using h1, by simpa using h2, fun i x hx => ?_⟩
  have hi := (List.getElem?_eq_some_iff.1 hx).1
  simp at hi
  rw [List.getElem?_replicate_of_lt hi, Option.some.injEq] at hx
  omega

theorem TapeOrder_eq (a0 : List (List Int)) (a1 a2 a3 : Int) (h0 : a0.length * 24 ≤ 140737488351232 ∧ ∀ y ∈ a0, (y.length * 8 ≤ 140737488351232 ∧ ∀ z ∈ y, (Lit.int .i64 z).wf = true))
    (h3 : (Lit.int .u8 a3).wf = true) : l50_TapeOrder a0 a1 a2 a3 = some true := by
  have hw0 : ∀ r ∈ a0, r.length < 4611686018427387904 := fun r hr => by have := (h0.2 r hr).1; omega
  unfold l50_TapeOrder
  rw [sane_eq]
  simp only [Option.bind_some]
  obtain ⟨b1, e1, k1⟩ := Few_eq a0 (by omega)
  rw [e1]
  simp only [Option.bind_some]
  cases b1 with
  | false => rfl
  | true =>
  rw [if_neg (by simp)]
  by_cases g1 : a0.length = 0
  · rw [if_pos (by simpa using g1)]; rfl
  rw [if_neg (by simpa using g1)]
  simp only [Option.bind_some]
  by_cases g2 : (a0.length : Int) > 8
  · rw [if_pos (by simp; omega)]
  rw [if_neg (by simp; omega)]
  obtain ⟨P, hP, hm⟩ := mod_u8 (n := a0.length) (u8_range h3) (by omega)
  rw [hm]
  simp only [Option.bind_some]
  have hsl : slc a0 (P : Int) (a0.length : Int) = some (a0.drop P) := by
    unfold slc
    rw [if_pos ⟨by omega, by omega, by omega⟩]
    simp only [Int.toNat_natCast]
    rw [List.take_of_length_le (by simp)]
  rw [Tape_eq (by omega) hw0, hsl]
  simp only [Option.bind_some]
  rw [app_ok (by simp; omega) (by omega)]
  simp only [Option.bind_some]
  rw [slc_nat (by omega)]
  simp only [Option.bind_some]
  rw [app_ok (by simp; omega) (by omega)]
  simp only [Option.bind_some]
  rw [Tape_eq (by simp; omega) (fun r hr => hw0 r ((mem_rot r).1 hr))]
  simp only [Option.bind_some]
  by_cases hok : tOk a0 a1 a2
  rotate_left
  · rw [if_neg hok, if_neg (fun h => hok (tOk_rot.1 h))]
    simp only [bne_self_eq_false, Bool.false_eq_true, if_false]
    rw [sameI_eq (by simp)]
    rfl
  rw [if_pos hok, if_pos (tOk_rot.2 hok), tp_congr (colS_rot a0 P)]
  obtain ⟨q1, q2, q3, q4, q5, q6⟩ := hok
  obtain ⟨K, rfl⟩ : ∃ K : Nat, a2 = K := ⟨a2.toNat, by omega⟩
  simp only [bne_self_eq_false, Bool.false_eq_true, if_false, Int.toNat_natCast]
  have htl : (tp a0 a1 K).length < 4611686018427387904 := by rw [tp_len]; omega
  rw [sameI_eq htl]
  simp only [Option.bind_some, decide_true, Bool.not_true, Bool.false_eq_true, if_false]
  rw [if_neg (by simp), ]
  simp only [Option.bind_some]
  rw [if_neg (by simp; omega), app_ok (by simp; omega) (by omega)]
  simp only [Option.bind_some]
  rw [mk_ok (by omega) (by omega)]
  simp only [Option.bind_some]
  rw [app_ok (by simp; omega) (by omega)]
  simp only [Option.bind_some]
  have hokz : tOk (a0 ++ [List.replicate K 0]) a1 (K : Int) := ⟨q1, q2, q3, q4, by simp; omega, fun r hr => by
    rcases List.mem_append.1 hr with hr | hr
    · exact q6 r hr
    · rw [List.mem_singleton] at hr
      subst hr
      exact ⟨by simp, rOk_zero (by omega) q3 q4⟩⟩
  have htz : tp (a0 ++ [List.replicate K 0]) a1 K = tp a0 a1 K := tp_congr fun j => by
    rw [colS_snoc]
    have : (List.replicate K (0 : Int)).getD j 0 = 0 := by
      simp only [List.getD, List.getElem?_replicate]
      split <;> rfl
    omega
  rw [Tape_eq (by simp; omega) (fun r hr => by
    rcases List.mem_append.1 hr with hr | hr
    · exact hw0 r hr
    · rw [List.mem_singleton] at hr; subst hr; simp; omega), if_pos hokz]
  simp only [Option.bind_some, Int.toNat_natCast, htz]
  have hx := List.getElem?_eq_getElem hP
  have hs1 : slc a0 (P : Int) (IntKind.i64.wrap ((P : Int) + 1)) = some [a0[P]] := by
    rw [wrap_nat (by omega)]
    unfold slc
    rw [if_pos ⟨by omega, by omega, by omega⟩, List.drop_eq_getElem_cons (by omega)]
    simp only [Int.toNat_natCast, Nat.add_sub_cancel_left]
    rfl
  rw [hs1]
  simp only [Option.bind_some]
  have hrow := q6 _ (List.getElem_mem hP)
  have hlen1 := hw0 _ (List.getElem_mem hP)
  have hok1 : tOk [a0[P]] a1 (K : Int) := tok_one ⟨q1, q2, q3, q4⟩ hrow.1 hrow.2
  rw [Tape_eq (by simp) (fun r hr => by rw [List.mem_singleton] at hr; subst hr; exact hlen1), if_pos hok1]
  have ht1 : tp [a0[P]] a1 K = a0[P] := by
    apply List.ext_getElem?
    intro j
    by_cases hj : j < K
    · have hjl : j < a0[P].length := by have := hrow.1; omega
      have hr := rOk_at hrow.2 hjl
      rw [tp_at hj, get_getD hjl]
      have : colS [a0[P]] j = a0[P].getD j 0 := by simp [colS]
      rw [this, Int.emod_eq_of_lt hr.1 hr.2]
    · have := hrow.1
      rw [List.getElem?_eq_none (by rw [tp_len]; omega), List.getElem?_eq_none (by omega)]
  simp only [Option.bind_some, Int.toNat_natCast, ht1, beq_self_eq_true, if_true]
  rw [sameI_eq htl]
  simp only [Option.bind_some, decide_true, if_true, idx_of hx]
  rw [sameI_eq hlen1]
  simp
end Go.Proofs.YtdecgihkgpgejaaDoor.P
