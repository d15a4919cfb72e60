/- Lists of numbers as text: the builder of strings and what writes into it, walked. -/
import Derived.Shelf.RegionOpenPlain
import Derived.WalkKit
import Derived.RegionTactic
import Derived.Lib.Strings
import Derived.Lib.Builder
import Derived.Lib.AppendStr
import Derived.LoopTactic
import Derived.Lib.ItoaLen
import Derived.Laws.Concat
import Derived.Test.YtdecgihkgpgejaaDoorSp
import Derived.Test.YtdecgihkgpgejaaDoorCk
namespace Go.Proofs.YtdecgihkgpgejaaDoor.Am
open Go.RowKit Go.Proofs.YtdecgihkgpgejaaDoor.P Go.Shelf
set_option linter.unusedSimpArgs false
set_option linter.unusedVariables false

theorem sizeB : (Tryd.prog.info? 79).map (·.size) = some 2 := by kernel_rfl
theorem liesB : liesAt Tryd.prog Tryd.prog.depth 79 (2 / Tryd.prog.cellsOf 79) 0 79 1 = true := by kernel_rfl
theorem infoU8 : (Tryd.prog.info? 5).map (fun i => (i.zero, i.size, i.bytes)) = some (some (.int .u8 0), 1, 1) := by kernel_rfl

set_option maxRecDepth 100000 in
theorem cc_used (b : Nat) (w : World) (h0 : w.cell? ⟨b, 0, none⟩ = some (.pointer (some ⟨b, 0, none⟩))) :
    Calls Tryd.prog 71 #[.pointer (some ⟨b, 0, none⟩)] w fun e w' => e = .returned (.tuple #[]) ∧ w' = w := by
  obtain ⟨j, hj, _⟩ := Option.map_eq_some_iff.1 sizeB
  go_enter Tryd.func71, Tryd.ntmps71
  go_wp2
  rw [Lib.run_neq_ptr_same w _ Tryd.underlying76 hj]
  go_wp2
  go_end0
  exact ⟨rfl, rfl⟩

set_option maxHeartbeats 1000000 in
set_option maxRecDepth 100000 in
theorem cc_fresh (b : Nat) (w : World) (h0 : w.cell? ⟨b, 0, none⟩ = some (.pointer none)) (hsh : w.shape? b = some (79, 2)) (hfz : w.frozen? ⟨b, 0, none⟩ = false) :
    Calls Tryd.prog 71 #[.pointer (some ⟨b, 0, none⟩)] w fun e w' => e = .returned (.tuple #[]) ∧ w' = w.setCell ⟨b, 0, none⟩ (.pointer (some ⟨b, 0, none⟩)) := by
  obtain ⟨j, hj, hjs⟩ := Option.map_eq_some_iff.1 sizeB
  go_enter Tryd.func71, Tryd.ntmps71
  go_wp2
  rw [Lib.run_to_unsafe w ⟨b, 0, none⟩ Tryd.underlying76 Tryd.underlying102 hj (by rw [hjs]; decide) hsh (Nat.zero_lt_succ 1)]
  simp only [Result.andThen]
  rw [Oper.upon_value]
  go_wp2
  rw [run_callFunc_extern Tryd.func85 (by kernel_rfl) (by kernel_rfl) (by kernel_rfl) (e := Extern.AbiNoEscape.same) (by kernel_rfl)]
  rw [Lib.run_noEscape]
  simp only [Result.andThen]
  rw [Oper.upon_value]
  go_wp2
  rw [Lib.run_from_unsafe w ⟨b, 0, none⟩ Tryd.underlying102 Tryd.underlying76 hj hsh liesB]
  simp only [Result.andThen]
  rw [Oper.upon_value]
  go_wp2
  go_end0
  exact ⟨rfl, rfl⟩

theorem copyCheck (B b : Nat) (bs : List Value) (w : World) (h : Lib.IsBuilder 79 5 B b bs w) :
    Calls Tryd.prog 71 #[.pointer (some ⟨b, 0, none⟩)] w fun e w' => e = .returned (.tuple #[]) ∧ (Lib.BuilderAt 79 5 B b (.pointer (some ⟨b, 0, none⟩)) bs w' ∧ Below B w w') := by
  rcases h with h | h
  · refine (cc_fresh b w h.cell0 h.shape h.frozen0).mono ?_
    rintro e w' ⟨rfl, rfl⟩
    exact ⟨rfl, h.used _, (Below.refl B w).setCell (p := ⟨b, 0, none⟩) h.1 _⟩
  · refine (cc_used b w h.cell0).mono ?_
    rintro e w' ⟨rfl, rfl⟩
    exact ⟨rfl, h, Below.refl B _⟩

set_option maxHeartbeats 2000000 in
set_option maxRecDepth 100000 in
theorem writeS (B b : Nat) (bs : List Value) (s : ByteArray) (w : World) (h : Lib.IsBuilder 79 5 B b bs w) (hlen : bs.length + s.size ≤ 140737488355328) (hBw : B ≤ w.heap.size) :
    Calls Tryd.prog 63 #[.pointer (some ⟨b, 0, none⟩), .string s] w fun e w' => e = .returned (.tuple #[.int .i64 s.size, .nilIface]) ∧ (Lib.BuilderAt 79 5 B b (.pointer (some ⟨b, 0, none⟩)) (bs ++ Lib.strCells s) w' ∧ Below B w w') := by
  obtain ⟨i0, hi, hz0, hz1, hz2⟩ := info_parts infoU8
  go_enter Tryd.func63, Tryd.ntmps63
  go_wp2_with (go_at_call 71; refine (copyCheck B b bs _ h).mono ?_)
  rintro e w1 ⟨rfl, h1, hb1⟩
  obtain ⟨hB, v, hbk, hown, hne⟩ := h1
  have c0 : w1.cell? ⟨b, 0, none⟩ = some (.pointer (some ⟨b, 0, none⟩)) := by rw [Lib.cell_of_heap hbk]; rfl
  have c1 : w1.cell? ⟨b, 1, none⟩ = some v := by rw [Lib.cell_of_heap hbk]; rfl
  go_wp2_with (at_builtin; refine Lib.wpList_append_own_string _ rfl _ _ 77 9 rfl B 5 i0 Tryd.underlying77 Tryd.underlying9 hi hz0 hz1 hz2 _ _ _ rfl hown s rfl ?c3 ?c4 ?c5 ?_)
  case c3 => unfold maxLen; omega
  case c4 => omega
  case c5 => have := hb1.size; omega
  intro v' w2 hown' hgrow _
  have hlt : b < w1.heap.size := (Array.getElem?_eq_some_iff.1 hbk).1
  have hb2 : w2.heap[b]? = some (.cells #[.pointer (some ⟨b, 0, none⟩), v] 79 (0, 0)) := by
    rw [hgrow.block b hlt (fun e => hne e.symm)]
    exact hbk
  have d0 : w2.cell? ⟨b, 0, none⟩ = some (.pointer (some ⟨b, 0, none⟩)) := by rw [Lib.cell_of_heap hb2]; rfl
  have d1 : w2.cell? ⟨b, 1, none⟩ = some v := by rw [Lib.cell_of_heap hb2]; rfl
  have f1 : w2.frozen? ⟨b, 1, none⟩ = false := Lib.frozen_of_heap hb2 1
  obtain ⟨ao, n', cap, rfl⟩ : ∃ ao n' cap, v' = .slice ao n' cap := by
    rcases hown'.2 with ⟨hv, _⟩ | ⟨g, cap, cur, hv, _⟩
    · exact ⟨_, _, _, hv⟩
    · exact ⟨_, _, _, hv⟩
  go_wp2
  go_ret2
  refine ⟨rfl, ?_, ?_⟩
  · exact Lib.BuilderAt.put (T := 79) (e := 5) hB hb2 (bs' := bs ++ Lib.strCells s) (by simpa [Lib.strCells_length] using hown') (by decide)
  · exact (hb1.grown hgrow (by have := hb1.size; omega) (fun k hk => (hown.lt k hk).1)).setCell (p := ⟨b, 1, none⟩) hB _

theorem stringB (B b : Nat) (l : List UInt8) (w : World) (h : Lib.IsBuilder 79 5 B b (Lib.byteCells l) w) (hBw : B ≤ w.heap.size) :
    Calls Tryd.prog 65 #[.pointer (some ⟨b, 0, none⟩)] w fun e w' => e = .returned (.string ⟨l.toArray⟩) ∧ Below B w w' := Any.Builder_String_any Tryd.lays169 Tryd.extra169 B b l w h hBw

theorem tabIs_of {P : Program} {w : World} {nm : String} {g ty : Nat} {fr : Nat × Nat} (hg : P.globalNamed nm = some g) (h : w.heap[g]? = some (.cells pow10V ty fr)) : Lib.TabIs P w nm .u64 Lib.pow10Tab := by
  simp only [Lib.TabIs, World.var?, hg, Option.bind_some, h]
  simp [Lib.pow10Tab, pow10V]
theorem below_grow (w : World) (k : Nat) (os : Array Obj) : Below w.heap.size w (Go.Sort.grow (w.drewN k) os) :=
  ⟨rfl, rfl, rfl, by simp [Go.Sort.grow], fun j hj => Go.Sort.heap_grow_old (w.drewN k) os hj⟩
theorem itoaC : ItoaC Tryd.prog 64 := fun n w h0 h1 ht => by
  refine (Any.strconv_Itoa Tryd.laysM171 n h0 h1 w ?_).mono ?_
  · obtain ⟨ty, fr, h⟩ := ht 0 rfl
    exact tabIs_of (by kernel_rfl) h
  · rintro e w' ⟨rfl, k, os, rfl⟩
    exact ⟨rfl, below_grow w k os⟩

theorem ba_app (a b : List UInt8) : (⟨a.toArray⟩ : ByteArray) ++ ⟨b.toArray⟩ = ⟨(a ++ b).toArray⟩ := by
  apply ByteArray.ext
  simp
theorem itoaB_size (n : Int) (h0 : -9223372036854775808 ≤ n) (h1 : n ≤ 9223372036854775807) : (itoaB n).size ≤ 21 := by
  have := Lib.itoa_length_le n h0 h1
  simpa [itoaB, ByteArray.size] using this

theorem wireInt (n : Int) (w : World) (h0 : -9223372036854775808 ≤ n) (h1 : n ≤ 9223372036854775807) (ht : ∀ b, tabBlk = some b → ∃ ty fr, w.heap[b]? = some (.cells pow10V ty fr)) :
    Calls Tryd.prog 50 #[.int .i64 n] w fun e w' => e = .returned (.string ⟨(Lib.itoa n ++ [59]).toArray⟩) ∧ Below w.heap.size w w' := by
  have hsz := itoaB_size n h0 h1
  have e1 : itoaB n ++ ⟨#[59]⟩ = ⟨(Lib.itoa n ++ [59]).toArray⟩ := ba_app (Lib.itoa n) [59]
  go_enter Tryd.func50, Tryd.ntmps50
  go_wp2_with (go_at_call 64; refine (itoaC n _ h0 h1 ht).mono ?_; rintro e w' ⟨rfl, hb⟩)
  go_ret
  exact ⟨rfl, hb⟩

theorem isB_new (w : World) : Lib.IsBuilder 79 5 w.heap.size w.heap.size [] (w.alloc (.cells #[.pointer none, .slice none 0 0] 79)) :=
  .inl ⟨Nat.le_refl _, .slice none 0 0, heap_alloc_new w _, World.ownsRow_nil _ _ _ _, by simp [Value.ownBlock]⟩

theorem writeL (B b : Nat) (bs t : List UInt8) (w : World) (h : Lib.IsBuilder 79 5 B b (Lib.byteCells bs) w) (hlen : bs.length + t.length ≤ 140737488355328) (hBw : B ≤ w.heap.size) :
    Calls Tryd.prog 63 #[.pointer (some ⟨b, 0, none⟩), .string ⟨t.toArray⟩] w fun e w' => ∃ v, e = .returned v ∧ (Lib.BuilderAt 79 5 B b (.pointer (some ⟨b, 0, none⟩)) (Lib.byteCells (bs ++ t)) w' ∧ Below B w w') := by
  have e1 : Lib.strCells ⟨t.toArray⟩ = Lib.byteCells t := rfl
  have e2 : (⟨t.toArray⟩ : ByteArray).size = t.length := List.size_toArray
  generalize hS : (⟨t.toArray⟩ : ByteArray) = S at *
  refine (writeS B b (Lib.byteCells bs) S w h (by rw [Lib.byteCells_length, e2]; exact hlen) hBw).mono ?_
  rintro e w' ⟨he, h1, h2⟩
  rw [e1, ← Lib.byteCells_append] at h1
  exact ⟨_, he, h1, h2⟩

theorem ownsRow_later {w w' : World} {B ty s n : Nat} {v : Value} {xs : List Value} (h : w.ownsRow B ty s v n xs) (hb : Below w.heap.size w w') : w'.ownsRow B ty s v n xs := by
  obtain ⟨h1, h2⟩ := h
  refine ⟨h1, ?_⟩
  rcases h2 with h2 | ⟨g, cap, cur, k1, k2, k3, k4⟩
  · exact .inl h2
  · exact .inr ⟨g, cap, cur, k1, k2, (hb.block g (Array.getElem?_eq_some_iff.1 k3).1).trans k3, k4⟩
theorem builder_later {w w' : World} {B b : Nat} {p : Value} {bs : List Value} (h : Lib.BuilderAt 79 5 B b p bs w) (hb : Below w.heap.size w w') : Lib.BuilderAt 79 5 B b p bs w' := by
  obtain ⟨h1, v, h2, h3, h4⟩ := h
  exact ⟨h1, v, (hb.block b (Array.getElem?_eq_some_iff.1 h2).1).trans h2, ownsRow_later h3 hb, h4⟩
theorem isB_later {w w' : World} {B b : Nat} {bs : List Value} (h : Lib.IsBuilder 79 5 B b bs w) (hb : Below w.heap.size w w') : Lib.IsBuilder 79 5 B b bs w' := h.imp (builder_later · hb) (builder_later · hb)

theorem take_nums (l : List Int) {k : Nat} (hk : k < l.length) : numsL (l.take (k + 1)) = numsL (l.take k) ++ (Lib.itoa (l.getD k 0) ++ [59]) := by
  rw [List.take_add_one, List.getElem?_eq_getElem hk]
  simp only [numsL, List.flatMap_append, Option.toList_some, List.flatMap_cons, List.flatMap_nil, List.append_nil]
  simp [List.getD, hk]
theorem nums_le (l : List Int) (k : Nat) : (numsL (l.take k)).length ≤ (numsL l).length := by
  have : l = l.take k ++ l.drop k := (List.take_append_drop k l).symm
  have h2 : numsL l = numsL (l.take k) ++ numsL (l.drop k) := by
    conv => lhs; rw [this]
    simp only [numsL, List.flatMap_append]
  rw [h2]
  simp

set_option maxHeartbeats 4000000 in
set_option maxRecDepth 100000 in
theorem listB (b o c : Nat) (l : List Int) (w : World) (hb : b < w.heap.size) (hc : ∀ j, j < l.length → w.cell? ⟨b, o + j, none⟩ = some (.int .i64 (l.getD j 0))) (hall : ∀ x ∈ l, -9223372036854775808 ≤ x ∧ x ≤ 9223372036854775807) (hreach : l.length * 8 ≤ 140737488351232) (hsize : (numsB l).length ≤ 140737488355328)
    (ht : ∀ b, tabBlk = some b → ∃ ty fr, w.heap[b]? = some (.cells pow10V ty fr)) (htl : ∀ b, tabBlk = some b → b < w.heap.size) :
    Calls Tryd.prog 49 #[.slice (some ⟨b, o, none⟩) l.length c, .func (.func 50) #[] #[]] w fun e w' => e = .returned (.string ⟨(numsB l).toArray⟩) ∧ Below w.heap.size w w' := by
  have htk : ∀ w', Below w.heap.size w w' → ∀ b, tabBlk = some b → ∃ ty fr, w'.heap[b]? = some (.cells pow10V ty fr) := fun w' hbw b hb => by
    obtain ⟨ty, fr, h⟩ := ht b hb
    exact ⟨ty, fr, (hbw.block b (htl b hb)).trans h⟩
  have hn0 : -9223372036854775808 ≤ (l.length : Int) := by omega
  have hn1 : (l.length : Int) ≤ 9223372036854775807 := by omega
  have hB0 : Below w.heap.size w (w.alloc (.cells #[.pointer none, .slice none 0 0] 79)) := (Below.refl _ w).alloc (Nat.le_refl _) _
  have hsz := itoaB_size l.length hn0 hn1
  have e1 : itoaB l.length ++ ⟨#[91]⟩ = ⟨(Lib.itoa l.length ++ [91]).toArray⟩ := ba_app (Lib.itoa l.length) [91]
  have hnl : (numsB l).length = (Lib.itoa l.length).length + 1 + (numsL l).length + 1 := by simp [numsB]; omega
  go_enter Tryd.func49, Tryd.ntmps49
  have hI0 : Lib.IsBuilder 79 5 w.heap.size w.heap.size (Lib.byteCells []) (w.alloc (.cells #[.pointer none, .slice none 0 0] 79)) := isB_new w
  go_wp2_with (first
    | (go_at_call 64; refine (itoaC l.length _ hn0 hn1 (htk _ hB0)).mono ?_; rintro e w1 ⟨rfl, hb1⟩; have hI1 := isB_later hI0 hb1; have hz1 : w.heap.size ≤ w1.heap.size := Nat.le_trans hB0.size hb1.size)
    | (go_at_call 63; refine (writeL w.heap.size w.heap.size [] (Lib.itoa l.length ++ [91]) _ hI1 (by simp only [List.length_nil, List.length_append, List.length_cons]; omega) hz1).mono ?_; rintro e w2 ⟨v2, rfl, hB2, hb2⟩))
  have hb20 : Below w.heap.size w w2 := (hB0.trans (hb1.mono hB0.size)).trans hb2
  clear hI1 hI0 hB0 hb1 hb2
  go_loopw [15] (fun i wr => ∃ k : Nat, k ≤ l.length ∧ i = .int .i64 k ∧ Lib.BuilderAt 79 5 w.heap.size w.heap.size (.pointer (some ⟨w.heap.size, 0, none⟩)) (Lib.byteCells ((Lib.itoa l.length ++ [91]) ++ numsL (l.take k))) wr ∧ Below w.heap.size w wr)
    (fun i _ => l.length - (intOf i).toNat)
  case atStart => exact ⟨0, Nat.zero_le _, rfl, by simpa [numsL] using hB2, hb20⟩
  case round =>
    obtain ⟨k, hk, rfl, hBk, hbk⟩ := hrel
    have hcx : k < l.length → wr.cell? ⟨b, o + k, none⟩ = some (.int .i64 (l.getD k 0)) := fun h => (hbk.cell (p := ⟨b, o + k, none⟩) hb).trans (hc k h)
    by_cases hlt : k < l.length
    · have hcx' := hcx hlt
      have hx := hall (l.getD k 0) (by rw [List.getD_eq_getElem?_getD, List.getElem?_eq_getElem hlt]; exact List.getElem_mem hlt)
      have hnk := nums_le l (k + 1)
      rw [take_nums l hlt, List.length_append] at hnk
      have hnn := take_nums l hlt
      generalize l.getD k 0 = x at *
      go_wp2_with (first
        | (go_at_call 50; refine (wireInt x _ hx.1 hx.2 (htk _ hbk)).mono ?_; rintro e w3 ⟨rfl, hb3⟩; have hI3 := builder_later hBk hb3; have hz3 : w.heap.size ≤ w3.heap.size := Nat.le_trans hbk.size hb3.size)
        | (go_at_call 63; refine (writeL w.heap.size w.heap.size ((Lib.itoa l.length ++ [91]) ++ numsL (l.take k)) (Lib.itoa x ++ [59]) _ (.inr hI3) (by simp only [List.length_append, List.length_cons, List.length_nil] at *; omega) hz3).mono ?_; rintro e w4 ⟨v4, rfl, hB4, hb4⟩))
      go_roundw
      case rel => exact ⟨k + 1, by omega, by go_num, by rw [hnn, ← List.append_assoc]; exact hB4, (hbk.trans (hb3.mono hbk.size)).trans hb4⟩
      case measure => simp [intOf]; omega
    · obtain rfl : k = l.length := by omega
      have e3 : (⟨((Lib.itoa l.length ++ [91]) ++ numsL l).toArray⟩ : ByteArray) ++ ⟨#[93]⟩ = ⟨(numsB l).toArray⟩ := by
        rw [show (⟨#[93]⟩ : ByteArray) = ⟨([93] : List UInt8).toArray⟩ from rfl, ba_app]
        simp [numsB]
      have hss : (⟨((Lib.itoa l.length ++ [91]) ++ numsL l).toArray⟩ : ByteArray).size + 1 ≤ 9223372036854775807 := by
        show ((Lib.itoa l.length ++ [91]) ++ numsL l).toArray.size + 1 ≤ _
        rw [List.size_toArray]
        simp only [List.length_append, List.length_cons, List.length_nil]
        omega
      rw [List.take_length] at hBk
      have hstr := stringB w.heap.size w.heap.size _ wr (.inr hBk) hbk.size
      generalize (⟨((Lib.itoa l.length ++ [91]) ++ numsL l).toArray⟩ : ByteArray) = S at *
      go_wp2_with (go_at_call 65; refine hstr.mono ?_; rintro e w5 ⟨rfl, hb5⟩)
      go_ret
      first | exact ⟨rfl, hbk.trans hb5⟩ | exact ⟨by rw [← e3], hbk.trans hb5⟩

set_option maxHeartbeats 1000000 in
set_option maxRecDepth 100000 in
theorem listN (A : Option Addr) (c : Nat) (w : World) (ht : ∀ b, tabBlk = some b → ∃ ty fr, w.heap[b]? = some (.cells pow10V ty fr)) (htl : ∀ b, tabBlk = some b → b < w.heap.size) :
    Calls Tryd.prog 49 #[.slice A 0 c, .func (.func 50) #[] #[]] w fun e w' => e = .returned (.string ⟨(numsB []).toArray⟩) ∧ Below w.heap.size w w' := by
  have htk : ∀ w', Below w.heap.size w w' → ∀ b, tabBlk = some b → ∃ ty fr, w'.heap[b]? = some (.cells pow10V ty fr) := fun w' hbw b hb => by
    obtain ⟨ty, fr, h⟩ := ht b hb
    exact ⟨ty, fr, (hbw.block b (htl b hb)).trans h⟩
  have hB0 : Below w.heap.size w (w.alloc (.cells #[.pointer none, .slice none 0 0] 79)) := (Below.refl _ w).alloc (Nat.le_refl _) _
  have hsz := itoaB_size 0 (by decide) (by decide)
  have hll := Lib.itoa_length_le 0 (by decide) (by decide)
  have e1 : itoaB 0 ++ ⟨#[91]⟩ = ⟨(Lib.itoa 0 ++ [91]).toArray⟩ := ba_app (Lib.itoa 0) [91]
  go_enter Tryd.func49, Tryd.ntmps49
  have hI0 : Lib.IsBuilder 79 5 w.heap.size w.heap.size (Lib.byteCells []) (w.alloc (.cells #[.pointer none, .slice none 0 0] 79)) := isB_new w
  go_wp2_with (first
    | (go_at_call 64; refine (itoaC 0 _ (by decide) (by decide) (htk _ hB0)).mono ?_; rintro e w1 ⟨rfl, hb1⟩; have hI1 := isB_later hI0 hb1; have hz1 : w.heap.size ≤ w1.heap.size := Nat.le_trans hB0.size hb1.size)
    | (go_at_call 63; refine (writeL w.heap.size w.heap.size [] (Lib.itoa 0 ++ [91]) _ hI1 (by simp only [List.length_nil, List.length_append, List.length_cons]; omega) hz1).mono ?_; rintro e w2 ⟨v2, rfl, hB2, hb2⟩))
  have hb20 : Below w.heap.size w w2 := (hB0.trans (hb1.mono hB0.size)).trans hb2
  clear hI1 hI0 hB0 hb1 hb2
  go_loopw [15] (fun i wr => i = .int .i64 0 ∧ wr = w2) (fun i _ => 0)
  case atStart => exact ⟨rfl, rfl⟩
  case round =>
    obtain ⟨rfl, rfl⟩ := hrel
    have e3 : (⟨(Lib.itoa 0 ++ [91]).toArray⟩ : ByteArray) ++ ⟨#[93]⟩ = ⟨(numsB []).toArray⟩ := by
      rw [show (⟨#[93]⟩ : ByteArray) = ⟨([93] : List UInt8).toArray⟩ from rfl, ba_app]
      simp [numsB, numsL]
    have hss : (⟨(Lib.itoa 0 ++ [91]).toArray⟩ : ByteArray).size + 1 ≤ 9223372036854775807 := by
      show (Lib.itoa 0 ++ [91]).toArray.size + 1 ≤ _
      rw [List.size_toArray]
      simp only [List.length_append, List.length_cons, List.length_nil]
      omega
    have hstr := stringB w.heap.size w.heap.size _ wr (.inr hB2) hb20.size
    rw [List.nil_append] at hstr
    generalize (⟨(Lib.itoa 0 ++ [91]).toArray⟩ : ByteArray) = S at *
    go_wp2_with (go_at_call 65; refine hstr.mono ?_; rintro e w5 ⟨rfl, hb5⟩)
    go_ret
    first | exact ⟨rfl, hb20.trans hb5⟩ | exact ⟨by rw [← e3], hb20.trans hb5⟩

/-- A list of numbers as text. -/
theorem nums_ok : COk Tryd.prog 32 (mkG (as1 (aSl (eI .i64))) numsW (fun r => .clean (.str r))) :=
  str1_ok Tryd.func32 ⟨by kernel_rfl, by kernel_rfl⟩ fun l r hr w M u hu ht => by
    unfold numsW at hr
    split at hr
    rotate_left
    · cases hr
    rename_i hc
    cases hr
    have hu' : RP w M (.sl false false l.length (encL (eI .i64) l)) u := hu
    obtain ⟨A, c, rfl, -, -, -, k4⟩ := RP_ints hu'
    have hcall : Calls Tryd.prog 49 #[.slice A l.length c, .func (.func 50) #[] #[]] w fun e w' => e = .returned (.string ⟨(numsB l).toArray⟩) ∧ Below w.heap.size w w' := by
      by_cases hl : l = []
      · subst hl
        exact listN A c w (fun b hb => (ht b hb).is) (fun b hb => (ht b hb).lt)
      · obtain ⟨b, o, rfl, hb, hM, hcc⟩ := k4 hl
        exact listB b o c l w hb hcc hc.1 hc.2.1 hc.2.2 (fun b hb => (ht b hb).is) (fun b hb => (ht b hb).lt)
    generalize (⟨(numsB l).toArray⟩ : ByteArray) = S at *
    go_enter Tryd.func32, Tryd.ntmps32
    go_wp2_with (go_at_call 49; refine hcall.mono ?_; rintro e w1 ⟨rfl, hb1⟩)
    go_ret
    exact ⟨rfl, hb1⟩
end Go.Proofs.YtdecgihkgpgejaaDoor.Am
