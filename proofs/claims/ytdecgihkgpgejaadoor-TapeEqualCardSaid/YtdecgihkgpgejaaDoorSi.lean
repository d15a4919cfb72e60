/- A list's values, collected and sorted: the library's iterators at lists of numbers, walked (after the guide's worked walks of a range over a function). -/
import Derived.RangeFuncBox
import Derived.RangeFuncNested
import Derived.RangeFuncLeaves
import Derived.Shelf.Abstract
import Derived.WalkKit
import Derived.OwnWalkIn
import Derived.TacticsInMore
import Derived.LoopNIn
import Derived.LoopIn
import Derived.Maps.AppendAt
import Derived.Test.YtdecgihkgpgejaaDoorSp
import Derived.Test.YtdecgihkgpgejaaDoorCk
namespace Go.Proofs.YtdecgihkgpgejaaDoor.Am
open Go.RowKit Go.Shelf Go.Proofs.YtdecgihkgpgejaaDoor.P
set_option linter.unusedSimpArgs false
set_option linter.unusedVariables false
attribute [local go_sem] Oper.semAt_some

def upto (f : Nat → Int) (k : Nat) : List Int := (List.range k).map f
theorem upto_succ (f : Nat → Int) (k : Nat) : upto f (k + 1) = upto f k ++ [f k] := by simp [upto, List.range_succ]
theorem upto_length (f : Nat → Int) (k : Nat) : (upto f k).length = k := by simp [upto]
theorem upto_all (zs : List Int) : upto (fun j => zs[j]?.getD 0) zs.length = zs := by
  apply List.ext_getElem
  · simp [upto]
  · intro i h1 h2
    simp [upto, h2]
theorem upto_take (zs : List Int) {k : Nat} (hk : k ≤ zs.length) : upto (fun j => zs[j]?.getD 0) k = zs.take k := by
  apply List.ext_getElem
  · simp [upto, hk]
  · intro i h1 h2
    have : i < zs.length := by simp [upto] at h1; omega
    simp [upto, this]

set_option maxRecDepth 100000 in
set_option maxHeartbeats 2000000 in
/-- The iterator's own text, at a list that lies below n₀. -/
theorem values1_in (F : Fence) (n : Nat) (h7 : F.fn 61) (hro : F.round = none) (hn : 1 ≤ n) (l Bs Bo n₀ b off len cap : Nat) (zs : List Int) (hreach : len * 8 ≤ 140737488351232) (hb : b < n₀) (J Jx : List Int → World → Prop)
    (hY : ∀ pre x W, J pre W → pre.length < len → YieldAt F (n - 1) Tryd.prog l #[.int .i64 x] W fun e W' =>
      (e = .returned (.bool true) ∧ J (pre ++ [x]) W' ∧ Below n₀ W W') ∨ (e = .returned (.bool false) ∧ Jx (pre ++ [x]) W'))
    (W : World) (hBs : W.cell? ⟨Bs, Bo, none⟩ = some (.slice (some ⟨b, off, none⟩) len cap)) (hc : ∀ j, j < len → W.cell? ⟨b, off + j, none⟩ = some (.int .i64 (zs[j]?.getD 0))) (h0 : J [] W) :
    CallsIn F n Tryd.prog 61 #[.func (.yield l) #[] #[], .pointer (some ⟨Bs, Bo, none⟩)] W fun e W' => (∃ v, e = .returned v) ∧
      ((∃ ys, ys = upto (fun j => zs[j]?.getD 0) len ∧ J ys W') ∨ (∃ pre, (∃ k, k ≤ len ∧ pre = upto (fun j => zs[j]?.getD 0) k) ∧ Jx pre W')) := by
  refine callsIn_of_wp Tryd.func61 rfl h7 ?_ hro
  simp only [Tryd.ntmps61, List.size_toArray, List.length_cons, List.length_nil, Nat.reduceAdd, Nat.reduceSub, Array.replicate_succ, Array.replicate_zero, List.push_toArray, List.append_toArray, List.nil_append, List.cons_append]
  gi_wp2
  gi_loopw [7] (fun i wr => ∃ k : Nat, k ≤ len ∧ i = .int .i64 k ∧ J (upto (fun j => zs[j]?.getD 0) k) wr ∧ Below n₀ W wr)
    (fun i _ => len - (intOf i).toNat)
  case atStart => exact ⟨0, Nat.zero_le _, rfl, h0, Below.refl _ _⟩
  case round =>
    obtain ⟨k, hk, rfl, hJs, hnx⟩ := hrel
    have hcx : k < len → wr.cell? ⟨b, off + k, none⟩ = some (.int .i64 (zs[k]?.getD 0)) := fun h => (hnx.cell (p := ⟨b, off + k, none⟩) hb).trans (hc k h)
    by_cases hlt : k < len
    · obtain ⟨fn, tmps, assign, body, hy, hR⟩ := hY _ (zs[k]?.getD 0) wr hJs (by rw [upto_length]; exact hlt)
      have hcx' := hcx hlt
      gi_wp2
      refine hR.mono ?_
      rintro e W3 (⟨rfl, hJ3, hk3⟩ | ⟨rfl, hJx3⟩)
      · gi_wp2
        go_roundw
        case rel => exact ⟨k + 1, by omega, by simp, by rw [upto_succ]; exact hJ3, hnx.trans hk3⟩
        case measure => simp [intOf]; omega
      · gi_wp2
        refine bodyPost_ret (results_none rfl _ _ _) rfl ?_
        exact ⟨⟨_, rfl⟩, .inr ⟨_, ⟨k + 1, by omega, (upto_succ _ _).symm⟩, hJx3⟩⟩
    · obtain rfl : k = len := by omega
      gi_wp2
      go_end0
      exact ⟨⟨_, rfl⟩, .inl ⟨_, rfl, hJs⟩⟩

set_option maxRecDepth 100000 in
set_option maxHeartbeats 1000000 in
/-- The same at a list of nothing. -/
theorem values1_nil_in (F : Fence) (n : Nat) (h7 : F.fn 61) (hro : F.round = none) (l Bs Bo cap : Nat) (A : Option Addr) (J : List Int → World → Prop) (W : World) (hBs : W.cell? ⟨Bs, Bo, none⟩ = some (.slice A 0 cap)) (h0 : J [] W) :
    CallsIn F n Tryd.prog 61 #[.func (.yield l) #[] #[], .pointer (some ⟨Bs, Bo, none⟩)] W fun e W' => (∃ v, e = .returned v) ∧ J [] W' := by
  refine callsIn_of_wp Tryd.func61 rfl h7 ?_ hro
  simp only [Tryd.ntmps61, List.size_toArray, List.length_cons, List.length_nil, Nat.reduceAdd, Nat.reduceSub, Array.replicate_succ, Array.replicate_zero, List.push_toArray, List.append_toArray, List.nil_append, List.cons_append]
  gi_wp2
  gi_loopw [7] (fun i wr => i = .int .i64 0 ∧ J [] wr) (fun _ _ => 0)
  case atStart => exact ⟨rfl, h0⟩
  case round =>
    obtain ⟨rfl, hJs⟩ := hrel
    gi_wp2
    go_end0
    exact ⟨⟨_, rfl⟩, hJs⟩

/-- A slice value holds these numbers, below n₀; or none. -/
def Ints (n₀ : Nat) (W : World) (sv : Value) (zs : List Int) : Prop :=
  (∃ A c, sv = .slice A 0 c ∧ zs = []) ∨ ∃ b off cap, sv = .slice (some ⟨b, off, none⟩) zs.length cap ∧ b < n₀ ∧ ∀ j, j < zs.length → W.cell? ⟨b, off + j, none⟩ = some (.int .i64 (zs[j]?.getD 0))
theorem Ints.below {n₀ : Nat} {A B : World} (h : Below n₀ A B) {sv : Value} {zs : List Int} : Ints n₀ A sv zs → Ints n₀ B sv zs
  | .inl e => .inl e
  | .inr ⟨b, off, cap, e, hb, hc⟩ => .inr ⟨b, off, cap, e, hb, fun j hj => (h.cell (p := ⟨b, off + j, none⟩) hb).trans (hc j hj)⟩

theorem values_stops (F : Fence) (n : Nat) (h7 : F.fn 61) (hro : F.round = none) (hn : 1 ≤ n) (Bs Bo n₀ : Nat) (sv : Value) (zs : List Int) (hreach : zs.length * 8 ≤ 140737488351232) (w : World) (hBs : Bs < w.heap.size) (hn₀ : n₀ ≤ w.heap.size)
    (hc : w.cell? ⟨Bs, Bo, none⟩ = some sv) (hI : Ints n₀ w sv zs) :
    SeqStopsK F n Tryd.prog 61 #[.pointer (some ⟨Bs, Bo, none⟩)] (fun x : Int => #[Value.int .i64 x]) (Below n₀) (fun ys => ys = zs) (fun pre => pre <+: zs) zs.length w := fun l J Jx W hW _ _ hY h0 => by
  have hc' := (hW.cell (p := ⟨Bs, Bo, none⟩) hBs).trans hc
  rcases hI.below (hW.mono hn₀) with ⟨A, c, rfl, rfl⟩ | ⟨b, off, cap, rfl, hb, hcs⟩
  · exact (values1_nil_in F n h7 hro l Bs Bo _ _ J W hc' h0).mono fun e W' ⟨he, hj⟩ => ⟨he, .inl ⟨_, rfl, hj⟩⟩
  · refine (values1_in F n h7 hro hn l Bs Bo n₀ b off zs.length cap zs hreach hb J Jx hY W hc' hcs h0).mono ?_
    rintro e W' ⟨he, ⟨ys, rfl, hj⟩ | ⟨pre, ⟨k, hk, rfl⟩, hj⟩⟩
    · exact ⟨he, .inl ⟨_, upto_all zs, hj⟩⟩
    · exact ⟨he, .inr ⟨_, by rw [upto_take zs hk]; exact List.take_prefix _ _, hj⟩⟩

theorem infoI : (Tryd.prog.info? 3).map (fun i => (i.zero, i.size, i.bytes)) = some (some (.int .i64 0), 1, 8) := by kernel_rfl

set_option maxRecDepth 100000 in
set_option maxHeartbeats 2000000 in
/-- The values collected. -/
theorem appendSeq_in (F : Fence) (n : Nat) (h3 : F.fn 67) (h7 : F.fn 61) (hro : F.round = none) (hn : 3 ≤ n) (Bs Bo : Nat) (sv : Value) (zs : List Int) (hreach : zs.length * 8 ≤ 140737488351232) (w : World)
    (hBs : Bs < w.heap.size) (hc : w.cell? ⟨Bs, Bo, none⟩ = some sv) (hI : Ints w.heap.size w sv zs) :
    CallsIn F n Tryd.prog 67 #[.slice none 0 0, .func (.func 61) #[] #[.pointer (some ⟨Bs, Bo, none⟩)]] w fun e W' => ∃ v, e = .returned v ∧ W'.ownsRow w.heap.size 3 1 v zs.length (zs.map (Value.int .i64)) ∧ (v = .slice none 0 0 ↔ zs = []) ∧ Below w.heap.size w W' := by
  have h1 : 1 ≤ n := by omega
  obtain ⟨i0, hi, hz0, hz1, hz2⟩ := info_parts infoI
  refine callsIn_of_wp_marks Tryd.func67 rfl h3 ?_ hro
  simp only [Tryd.ntmps67, List.size_toArray, List.length_cons, List.length_nil, Nat.reduceAdd, Nat.reduceSub, Array.replicate_succ, Array.replicate_zero, List.push_toArray, List.append_toArray, List.nil_append, List.cons_append]
  gi_wp2
  have bO := Boxed.new w 23 (.slice none 0 0)
  have hB0 : Below w.heap.size w (w.alloc (.cells #[.slice none 0 0] 23)) := (Below.refl _ w).alloc (Nat.le_refl _) _
  refine wpIn_rangeFunc_ownG hro h1 (gf := 61) (lb := #[.pointer (some ⟨Bs, Bo, none⟩)]) rfl h7 (enters_of Tryd.func61 (by kernel_rfl) rfl)
    (values_stops F (n - 1) h7 hro (by omega) Bs Bo w.heap.size sv zs hreach _ (by simp; omega) (by simp) ((hB0.cell (p := ⟨Bs, Bo, none⟩) hBs).trans hc) (hI.below hB0)) belowK_t (belowK_b (by simp)) (Below.refl _ _) (fun _ => rfl)
    (fun pre W => (∃ v, Boxed W w.heap.size 23 v ∧ W.ownsRow w.heap.size 3 1 v pre.length (pre.map (Value.int .i64)) ∧ (v = .slice none 0 0 ↔ pre = [])) ∧ Below w.heap.size w W)
    (fun _ _ _ => False)
    (OwnFrom.and (Own.from (holdsRow_own w.heap.size w.heap.size 23 3 1 (fun pre => pre.length) (fun pre => pre.map (Value.int .i64)) (fun pre v => v = .slice none 0 0 ↔ pre = [])) _) (ownFrom_below (Nat.le_refl _) (by simp)))
    (fun _ _ _ _ _ hs _ _ => hs)
    ⟨⟨_, bO, World.ownsRow_nil _ _ _ _, by simp⟩, hB0⟩
    (fun x => { tmps := #[.slice none 0 0, .func (.func 61) #[] #[.pointer (some ⟨Bs, Bo, none⟩)], .pointer (some ⟨w.heap.size, 0, none⟩), undef, .slice none 0 0, .int .i64 x, .func (.func 61) #[] #[.pointer (some ⟨Bs, Bo, none⟩)], .int .i64 x, undef, undef, undef, undef, undef], defers := [] }) ?assign ?body ?done ?stop
  case assign =>
    intro l x W K hK
    gi_wp2
    exact hK
  case body =>
    rintro l pre x W ⟨⟨v, hv, hrow, hnil⟩, hB⟩ hlt
    have hc := hv.cell
    gi_wp2_with (gi_at_builtin; refine wpListIn_append_own _ rfl _ _ 23 rfl w.heap.size 3 i0 (.int .i64 0) 1 8 Tryd.underlying23 hi hz0 hz1 hz2 rfl (by decide) _ _ _ rfl (hrow.alloc _) ⟨W.heap.size, 0, none⟩ 1 1 [.int .i64 x] rfl rfl (cell_one_new _ _ _) (by simp [Value.oneCell']) (by unfold maxLen; omega) (by omega) (by have := hB.size; simp; omega) ?_; intro v' w1 hown' hgrow _; obtain ⟨g', cap', rfl⟩ := ownsRow_succ hown'; obtain ⟨hv1, hv2, hr2, hk2, hb2⟩ := hv.appended (by decide) hrow hB.size (Nat.le_refl _) hown' hgrow; have hc1 := hv1.cell; have hf1 := hv1.frozen)
    exact ⟨hk2.from _, hb2, ⟨_, hv2, by simpa using hr2, by simp⟩, hB.trans hb2⟩
  case done =>
    rintro D ys W hD rfl ⟨⟨v, hv, hrow, hnil⟩, hB⟩ hK
    have hc := hv.cell
    gi_wp2
    refine ⟨by simp, .inl ⟨_, _, rfl, run_takeDeferred hK, ?_⟩⟩
    exact ⟨_, results_tmp rfl _ _ _, v, rfl, ownsRow_putObj hrow _ hK rfl, hnil, hB.trans (belowK_b (w := w) (Nat.le_refl _) W D _ _ (by simp at hD; omega) hK rfl rfl)⟩
  case stop =>
    rintro D c pre W _ _ h _
    exact h.elim

set_option maxHeartbeats 1000000 in
theorem collect_in (F : Fence) (n : Nat) (h2 : F.fn 59) (h3 : F.fn 67) (h7 : F.fn 61) (hro : F.round = none) (hn : 4 ≤ n) (Bs Bo : Nat) (sv : Value) (zs : List Int) (hreach : zs.length * 8 ≤ 140737488351232) (w : World)
    (hBs : Bs < w.heap.size) (hc : w.cell? ⟨Bs, Bo, none⟩ = some sv) (hI : Ints w.heap.size w sv zs) :
    CallsIn F n Tryd.prog 59 #[.func (.func 61) #[] #[.pointer (some ⟨Bs, Bo, none⟩)]] w fun e W' => ∃ v, e = .returned v ∧ W'.ownsRow w.heap.size 3 1 v zs.length (zs.map (Value.int .i64)) ∧ (v = .slice none 0 0 ↔ zs = []) ∧ Below w.heap.size w W' := by
  have h1 : 1 ≤ n := by omega
  refine callsIn_of_wp Tryd.func59 rfl h2 ?_ hro
  simp only [Tryd.ntmps59, List.size_toArray, List.length_cons, List.length_nil, Nat.reduceAdd, Nat.reduceSub, Array.replicate_succ, Array.replicate_zero, List.push_toArray, List.append_toArray, List.nil_append, List.cons_append]
  gi_wp2_with (gi_at_call 67; refine (appendSeq_in F (n - 1) h3 h7 hro (by omega) Bs Bo sv zs hreach _ hBs hc hI).mono ?_; rintro e w' ⟨v, rfl, hrow, hnil, hb⟩)
  go_ret
  exact ⟨v, rfl, hrow, hnil, hb⟩

theorem valuesB (a : Option Addr) (len cap : Nat) (w : World) :
    Calls Tryd.prog 44 #[.slice a len cap] w fun e w' => e = .returned (.func (.func 61) #[] #[.pointer (some ⟨w.heap.size, 0, none⟩)]) ∧ w' = w.alloc (.cells #[.slice a len cap] 23) := by
  go_enter Tryd.func44, Tryd.ntmps44
  go_wp2
  go_ret
  exact ⟨rfl, rfl⟩

set_option maxHeartbeats 1000000 in
/-- The values collected and sorted. -/
theorem sortedB (Bs Bo : Nat) (sv : Value) (zs : List Int) (hreach : zs.length * 8 ≤ 140737488351232) (w : World) (hBs : Bs < w.heap.size) (hc : w.cell? ⟨Bs, Bo, none⟩ = some sv) (hI : Ints w.heap.size w sv zs) :
    Calls Tryd.prog 43 #[.func (.func 61) #[] #[.pointer (some ⟨Bs, Bo, none⟩)]] w fun e w' => ∃ v, e = .returned v ∧ Below w.heap.size w w' ∧
      ((zs = [] ∧ v = .slice none 0 0) ∨ ∃ g cap cs, v = .slice (some ⟨g, 0, none⟩) zs.length cap ∧ w.heap.size ≤ g ∧ w'.heap[g]? = some (.cells cs 3 (0, 0)) ∧ zs.length ≤ cap ∧ cap ≤ maxLen ∧ cs.size = cap ∧ ∀ j, j < zs.length → cs.getD j undef = .int .i64 ((sortI zs).getD j 0)) := by
  refine (callsIn_wide (n := 6)).1 ?_
  have hN : (1 : Nat) ≤ 6 := by omega
  have cC := collect_in Fence.wide 5 trivial trivial trivial rfl (by omega) Bs Bo sv zs hreach w hBs hc hI
  refine callsIn_of_wp Tryd.func43 rfl trivial ?_ rfl
  simp only [Tryd.ntmps43, List.size_toArray, List.length_cons, List.length_nil, Nat.reduceAdd, Nat.reduceSub, Array.replicate_succ, Array.replicate_zero, List.push_toArray, List.append_toArray, List.nil_append, List.cons_append]
  have hf1 : Fence.wide.fn 59 := trivial
  have hf2 : Fence.wide.fn 60 := trivial
  have cS : SortC Tryd.prog 60 := fun blk off cap zs w hH hb hl => Any.slices_Sort_int Tryd.lays189 blk off cap zs w hH hb hl
  by_cases hz : zs = []
  · subst hz
    gi_wp2_with (first
      | (gi_at_call 59; refine cC.mono ?_; clear cC; rintro e w' ⟨v, rfl, hrow, hnil, hb⟩; obtain rfl : v = .slice none 0 0 := hnil.2 rfl)
      | (gi_at_call 60; refine (callsIn_wide.2 (Any.slices_Sort_int_none Tryd.lays189 _ _ _)).mono ?_; rintro e2 w2 ⟨rfl, rfl⟩))
    go_ret
    first | exact ⟨_, rfl, hb, .inl rfl⟩ | exact ⟨_, rfl, hb, .inl ⟨rfl, rfl⟩⟩
  · gi_wp2_with (gi_at_call 59; refine cC.mono ?_; clear cC; rintro e w' ⟨v, rfl, hrow, hnil, hb⟩; obtain ⟨g, cap, cur, rfl, k1, k2, k3, k4, k5, k6⟩ : ∃ g cap cur, v = .slice (some ⟨g, 0, none⟩) zs.length cap ∧ w.heap.size ≤ g ∧ w'.heap[g]? = some (.cells cur 3 (0, 0)) ∧ zs.length ≤ cap ∧ cap ≤ maxLen ∧ cur.size = cap * 1 ∧ cur.toList.take (zs.length * 1) = zs.map (Value.int .i64) := hrow.2.resolve_left (fun hv => hz (hnil.1 hv.1)))
    rw [Nat.mul_one] at k5 k6
    have hcur : ∀ j, j < zs.length → cur[j]? = some (.int .i64 (zs.getD j 0)) := by
      intro j hj
      have : (cur.toList.take zs.length)[j]? = (zs.map (Value.int .i64))[j]? := by rw [k6]
      rw [List.getElem?_take, if_pos hj, List.getElem?_map, Array.getElem?_toList] at this
      rw [this]
      simp [List.getD, hj]
    have hH : Go.Sort.Holds (Value.int .i64) w' g 0 zs.toArray := by
      intro j hj
      simp only [List.size_toArray] at hj
      refine ⟨?_, by simp [World.frozen?, k2]⟩
      simp only [World.cell?, k2, Nat.zero_add]
      rw [hcur j hj]
      simp [List.getD, hj]
    have hlt : g < w'.heap.size := (Array.getElem?_eq_some_iff.1 k2).1
    gi_wp2_with (gi_at_call 60; refine (callsIn_wide.2 (cS g 0 cap zs w' hH hlt (by omega))).mono ?_; rintro e2 w2 ⟨rfl, q, os, rfl⟩)
    go_ret
    refine ⟨_, rfl, ?_, .inr ⟨g, cap, Go.Sort.putCells (Value.int .i64) 0 (sortI zs).toArray cur, rfl, k1, ?_, k3, k4, ?_, fun j hj => ?_⟩⟩
    · refine ⟨hb.os, hb.tape, hb.output, Nat.le_trans hb.size (by simp [Go.Sort.grow, Go.Sort.ahead]), fun k hk => ?_⟩
      have hk' : k < w'.heap.size := Nat.lt_of_lt_of_le hk hb.size
      rw [Go.Sort.heap_grow_old _ _ (by simpa [Go.Sort.ahead] using hk'), putRow_heap_ne (by omega)]
      exact hb.block k hk
    · rw [Go.Sort.heap_grow_old _ _ (by simpa [Go.Sort.ahead] using hlt)]
      exact putRow_heap k2
    · simp [Go.Sort.putCells, k5]
    · rw [putCells_get (by omega), if_pos (by rw [sortI_len]; omega), Nat.sub_zero]

theorem values_ok : COk Tryd.prog 44 (mkG (as1 (aSl (eI .i64))) valuesW (fun r => .clean (.clo 61 0 [.ip [.sl false false r.length (encL (eI .i64) r)]]))) where
  callable := ⟨_, Tryd.func44, by kernel_rfl, by kernel_rfl⟩
  calls lent ds rk out hg := by
    obtain ⟨rfl, rfl, l, r, rfl, hr, rfl⟩ := mkG_some hg
    cases hr
    intro w M vs hM hargs
    have hsz : vs.size = 1 := hargs.size
    rw [vs_one hsz]
    have hu := hargs.at_ 0 _ rfl
    generalize vs.getD 0 undef = u at *
    have hu' : RP w M (.sl false false l.length (encL (eI .i64) l)) u := hu
    obtain ⟨A, c, rfl, -⟩ := RP_ints hu'
    refine (valuesB A l.length c w).mono fun e w' ⟨he, hw⟩ => ?_
    subst hw
    have hb : Below w.heap.size w (w.alloc (.cells #[.slice A l.length c] 23)) := (Below.refl _ w).alloc (Nat.le_refl _) _
    have hk : ∀ b, b < w.heap.size → ¬ M b → b < (w.alloc (.cells #[.slice A l.length c] 23)).heap.size ∧ ¬ M b ∧ (w.alloc (.cells #[.slice A l.length c] 23)).heap[b]? = w.heap[b]? := fun b h1 h2 => ⟨by simp; omega, h2, hb.block b h1⟩
    refine ⟨_, he, hb, RP.clo _ 0 _ [.pointer (some ⟨w.heap.size, 0, none⟩)] rfl fun j x hj => ?_⟩
    cases j with
    | succ j => simp at hj
    | zero =>
      simp only [List.getElem?_cons_zero, Option.some.injEq] at hj
      subst hj
      refine RP.ip _ ⟨w.heap.size, 0, none⟩ (fun _ => .slice A l.length c) (fun _ => ⟨w.heap.size, 0, rfl, by simp, fun h => by have := hM _ h; omega, fun j hj => ?_⟩) (fun j x hj => ?_) (fun x hx => ?_)
      · simp only [List.length_cons, List.length_nil] at hj
        have : j = 0 := by omega
        subst this
        exact (cell_of_cells (heap_alloc_new w _) (j := 0) (by simp)).trans rfl
      · cases j with
        | succ j => simp at hj
        | zero =>
          simp only [List.getElem?_cons_zero, Option.some.injEq] at hj
          subst hj
          exact hu'.keep hk
      · simp only [List.mem_singleton] at hx
        subst hx
        rfl

theorem sorted_ok : COk Tryd.prog 43 (mkG (as1 (aClo 61 0 (as1 (aIp (eSl (eI .i64)))))) sortedW (fun r => .fresh 3 1 r.length (encL (eI .i64) r))) where
  callable := ⟨_, Tryd.func43, by kernel_rfl, by kernel_rfl⟩
  calls lent ds rk out hg := by
    obtain ⟨rfl, rfl, l, r, rfl, hr, rfl⟩ := mkG_some hg
    unfold sortedW at hr
    split at hr
    rotate_left
    · cases hr
    rename_i hreach
    cases hr
    intro w M vs hM hargs
    have hsz : vs.size = 1 := hargs.size
    rw [vs_one hsz]
    have hu := hargs.at_ 0 _ rfl
    generalize vs.getD 0 undef = u at *
    have hu' : RP w M (.clo 61 0 [.ip [.sl false false l.length (encL (eI .i64) l)]]) u := hu
    cases hu' with
    | clo f kk xs us h1 h2 =>
      have hp := h2 0 _ rfl
      have hus : us = [us.getD 0 undef] := by
        match us, h1 with
        | [x], _ => rfl
      rw [hus]
      generalize us.getD 0 undef = q at *
      cases hp with
      | ip xs ad us2 h6 h7 h8 =>
        obtain ⟨b, o, rfl, hb, hMb, hcell⟩ := h6 (by simp)
        have hcell0 := hcell 0 (by simp)
        rw [Nat.add_zero] at hcell0
        have hs := h7 0 _ rfl
        have hI : Ints w.heap.size w (us2 0) l := by
          obtain ⟨A, c, hA, k1, k2, k3, k4⟩ := RP_ints hs
          rw [hA]
          by_cases hl : l = []
          · subst hl; exact .inl ⟨A, c, rfl, rfl⟩
          · obtain ⟨b', o', rfl, hb', hM', hc'⟩ := k4 hl
            exact .inr ⟨b', o', c, rfl, hb', fun j hj => by rw [hc' j hj]; simp [List.getD]⟩
        refine (sortedB b o (us2 0) l hreach w hb hcell0 hI).mono fun e w' ⟨v, he, hbw, hv⟩ => ?_
        refine ⟨v, he, hbw, ?_⟩
        rcases hv with ⟨rfl, rfl⟩ | ⟨g, cap, cs, rfl, k1, k2, k3, k4, k5, k6⟩
        · refine .inr ⟨?_, ?_, none, rfl⟩
          · rw [sortI_nil]; rfl
          · rw [sortI_nil]; rfl
        · refine .inl ⟨(g, 0), cap, cs, by rw [sortI_len], .inl k1, k2, by rw [sortI_len]; exact k3, k4, by simp only; omega, by rw [encL_int_len, sortI_len]; simp only; omega, fun j d hj => ?_⟩
          have hjl := (List.getElem?_eq_some_iff.1 hj).1
          rw [encL_int_len, sortI_len] at hjl
          rw [encL_int_at, Option.map_eq_some_iff] at hj
          obtain ⟨z, hz, rfl⟩ := hj
          simp only [Nat.zero_add]
          rw [k6 j hjl]
          have : (sortI l).getD j 0 = z := by simp [List.getD, hz]
          rw [this]
          exact ⟨rfl, .int _ _⟩
end Go.Proofs.YtdecgihkgpgejaaDoor.Am
