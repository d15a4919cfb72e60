/- The functions of the program as plain functions (written by wip/dec.py). -/
import Derived.Test.YtnnkcegdkhclcaaCp
namespace Go.Proofs.Ytnnkcegdkhclcaa.P
open Go.RowKit
set_option linter.unusedVariables false

structure TDeed where
  f_Kind : Int
  f_Day : Int
  f_House : Int
  f_Others : (List Int)

def cst0 : ByteArray := ByteArray.mk #[0, 1, 2, 2, 3, 3, 3, 3, 4, 4, 4, 4, 4, 4, 4, 4, 5, 5, 5, 5, 5, 5, 5, 5, 5, 5, 5, 5, 5, 5, 5, 5, 6, 6, 6, 6, 6, 6, 6, 6, 6, 6, 6, 6, 6, 6, 6, 6, 6, 6, 6, 6, 6, 6, 6, 6, 6, 6, 6, 6, 6, 6, 6, 6, 7, 7, 7, 7, 7, 7, 7, 7, 7, 7, 7, 7, 7, 7, 7, 7, 7, 7, 7, 7, 7, 7, 7, 7, 7, 7, 7, 7, 7, 7, 7, 7, 7, 7, 7, 7, 7, 7, 7, 7, 7, 7, 7, 7, 7, 7, 7, 7, 7, 7, 7, 7, 7, 7, 7, 7, 7, 7, 7, 7, 7, 7, 7, 7, 8, 8, 8, 8, 8, 8, 8, 8, 8, 8, 8, 8, 8, 8, 8, 8, 8, 8, 8, 8, 8, 8, 8, 8, 8, 8, 8, 8, 8, 8, 8, 8, 8, 8, 8, 8, 8, 8, 8, 8, 8, 8, 8, 8, 8, 8, 8, 8, 8, 8, 8, 8, 8, 8, 8, 8, 8, 8, 8, 8, 8, 8, 8, 8, 8, 8, 8, 8, 8, 8, 8, 8, 8, 8, 8, 8, 8, 8, 8, 8, 8, 8, 8, 8, 8, 8, 8, 8, 8, 8, 8, 8, 8, 8, 8, 8, 8, 8, 8, 8, 8, 8, 8, 8, 8, 8, 8, 8, 8, 8, 8, 8, 8, 8, 8, 8, 8, 8, 8, 8, 8, 8, 8, 8, 8, 8, 8, 8]

def firm_house (p0 : Int) : Option (Bool) :=
  if decide (p0 ≥ 0) then
    some (decide (p0 < 400))
  else
    some false

def firm_followers (p0 : Int) (p1 : Int) : Option (Bool) :=
  if (p0 == 0) then
    some (p1 == 0)
  else
    if (p0 == 2) then
      some (p1 == 1)
    else
      if (p0 == 1) then
        if decide (p1 ≥ 2) then
          some (decide (p1 ≤ 10))
        else
          some false
      else
        some false

def firm_fits_L2 (p0 : TDeed) : (Int × Int) → Option ((Int × Int) ⊕ ((Unit) ⊕ (Bool)))
  | (s3b, s22b) =>
    if decide (s22b < (p0.f_Others.length : Int)) then
      (P.idx p0.f_Others s22b).bind fun x12 =>
      (firm_house x12).bind fun r13 =>
      if (!r13) then
        some (.inr (.inr false))
      else
        if decide (x12 ≤ s3b) then
          some (.inr (.inr false))
        else
          if (x12 == p0.f_House) then
            some (.inr (.inr false))
          else
            some (.inl (x12, IntKind.i64.wrap (s22b + 1)))
    else
      some (.inr (.inl ()))

def firm_fits (p0 : TDeed) : Option (Bool) :=
  (firm_house p0.f_House).bind fun r1 =>
  (if (!r1) then
    some true
  else
    (firm_followers p0.f_Kind (p0.f_Others.length : Int)).bind fun r18 =>
    some (!r18)).bind fun s18j1 =>
  if s18j1 then
    some false
  else
    (loopL (firm_fits_L2 p0) ((-1), 0)).bind fun q => match q with
    | (.inl _) =>
      some true
    | (.inr rb) =>
      some rb

def firm_book_alive (p0 : (List (Int × TDeed))) (p1 : Int) (p2 : Int) : Option (Bool) :=
  if (!(hasM p0 p1)) then
    some true
  else
    some (decide (((lookM (TDeed.mk 0 0 0 ([])) p0 p1).f_Day) > p2))

def firm_read_1 (p0 : Int) (p1 : (List (Int × TDeed))) (p2 : TDeed) : Option (Bool) :=
  (firm_book_alive p1 p0 p2.f_Day).bind fun r1 =>
  some (!r1)

def slices_IndexFunc_firm_read_1_L1 (p0 : (List Int)) (p1c0 : (List (Int × TDeed))) (p1c1 : TDeed) : (Int) → Option ((Int) ⊕ ((Unit) ⊕ (Int)))
  | s8a =>
    if decide (s8a < (p0.length : Int)) then
      (P.idx p0 s8a).bind fun x7 =>
      (firm_read_1 x7 p1c0 p1c1).bind fun r8 =>
      if r8 then
        some (.inr (.inr s8a))
      else
        some (.inl (IntKind.i64.wrap (s8a + 1)))
    else
      some (.inr (.inl ()))

def slices_IndexFunc_firm_read_1 (p0 : (List Int)) (p1c0 : (List (Int × TDeed))) (p1c1 : TDeed) : Option (Int) :=
  (loopL (slices_IndexFunc_firm_read_1_L1 p0 p1c0 p1c1) 0).bind fun q => match q with
  | (.inl _) =>
    some (-1)
  | (.inr ra) =>
    some ra

def slices_ContainsFunc_firm_read_1 (p0 : (List Int)) (p1c0 : (List (Int × TDeed))) (p1c1 : TDeed) : Option (Bool) :=
  (slices_IndexFunc_firm_read_1 p0 p1c0 p1c1).bind fun r1 =>
  some (decide (r1 ≥ 0))

def firm_read_L1 (p0 : (List TDeed)) : (Int × (List (Int × TDeed))) → Option ((Int × (List (Int × TDeed))) ⊕ (((List (Int × TDeed))) ⊕ ((List (Int × TDeed)) × Int)))
  | (s17a, l14a) =>
    if decide (s17a < (p0.length : Int)) then
      (P.idx p0 s17a).bind fun x12 =>
      (firm_fits x12).bind fun r13 =>
      if (!r13) then
        some (.inr (.inr ([], 1)))
      else
        (if decide (x12.f_Day < 0) then
          some true
        else
          some (decide (x12.f_Day > 100000))).bind fun s32j3 =>
        if s32j3 then
          some (.inr (.inr ([], 18)))
        else
          if hasM l14a x12.f_House then
            some (.inr (.inr ([], 5)))
          else
            some (.inl (IntKind.i64.wrap (s17a + 1), (putM l14a x12.f_House x12)))
    else
      some (.inr (.inl l14a))

def firm_read_L4 (p0 : (List TDeed)) (l14ax : (List (Int × TDeed))) : (Int) → Option ((Int) ⊕ ((Unit) ⊕ ((List (Int × TDeed)) × Int)))
  | s50d =>
    if decide (s50d < (p0.length : Int)) then
      (P.idx p0 s50d).bind fun x25 =>
      (slices_ContainsFunc_firm_read_1 x25.f_Others l14ax x25).bind fun r26 =>
      if r26 then
        some (.inr (.inr ([], 7)))
      else
        some (.inl (IntKind.i64.wrap (s50d + 1)))
    else
      some (.inr (.inl ()))

def firm_read (p0 : (List TDeed)) : Option ((List (Int × TDeed)) × Int) :=
  if decide ((p0.length : Int) > 400) then
    some ([], 6)
  else
    (loopL (firm_read_L1 p0) (0, ([] : (List (Int × TDeed))))).bind fun q => match q with
    | (.inl l14ax) =>
      (loopL (firm_read_L4 p0 l14ax) 0).bind fun q => match q with
      | (.inl _) =>
        some (l14ax, 0)
      | (.inr rd) =>
        some rd
    | (.inr ra) =>
      some ra

def math_bits_Len32 (p0 : Int) : Option (Int) :=
  (if decide (p0 ≥ 65536) then
    (shrI .u32 p0 16).bind fun x10 =>
    some (x10, 16)
  else
    some (p0, 0)).bind fun q => match q with
  | (s0j1, s2j1) =>
    if decide (s0j1 ≥ 256) then
      (shrI .u32 s0j1 8).bind fun x3 =>
      (P.sidx cst0 (IntKind.u8.wrap x3)).bind fun x5 =>
      some (IntKind.i64.wrap ((IntKind.i64.wrap (s2j1 + 8)) + (IntKind.i64.wrap x5)))
    else
      (P.sidx cst0 (IntKind.u8.wrap s0j1)).bind fun x7 =>
      some (IntKind.i64.wrap (s2j1 + (IntKind.i64.wrap x7)))

def math_bits_Len64 (p0 : Int) : Option (Int) :=
  (if decide (p0 ≥ 4294967296) then
    (shrI .u64 p0 32).bind fun x14 =>
    some (x14, 32)
  else
    some (p0, 0)).bind fun q => match q with
  | (s0j1, s2j1) =>
    (if decide (s0j1 ≥ 65536) then
      (shrI .u64 s0j1 16).bind fun x11 =>
      some (x11, IntKind.i64.wrap (s2j1 + 16))
    else
      some (s0j1, s2j1)).bind fun q => match q with
    | (s0j2, s2j2) =>
      if decide (s0j2 ≥ 256) then
        (shrI .u64 s0j2 8).bind fun x4 =>
        (P.sidx cst0 (IntKind.u8.wrap x4)).bind fun x6 =>
        some (IntKind.i64.wrap ((IntKind.i64.wrap (s2j2 + 8)) + (IntKind.i64.wrap x6)))
      else
        (P.sidx cst0 (IntKind.u8.wrap s0j2)).bind fun x8 =>
        some (IntKind.i64.wrap (s2j2 + (IntKind.i64.wrap x8)))

def math_bits_Len (p0 : Int) : Option (Int) :=
  (math_bits_Len64 p0).bind fun r1 =>
  some r1

def cmp_isNaN (p0 : Int) : Option (Bool) :=
  some (p0 != p0)

def cmp_Less (p0 : Int) (p1 : Int) : Option (Bool) :=
  (cmp_isNaN p0).bind fun r1 =>
  if r1 then
    (cmp_isNaN p1).bind fun r3 =>
    if (!r3) then
      some true
    else
      some (decide (p0 < p1))
  else
    some (decide (p0 < p1))

def slices_insertionSortOrdered_w_L5 (p1 : Int) : (Int × (List Int)) → Option ((Int × (List Int)) ⊕ (((List Int))))
  | (s7e, l0e) =>
    (if decide (s7e > p1) then
      (P.idx l0e s7e).bind fun x47 =>
      (P.idx l0e (IntKind.i64.wrap (s7e - 1))).bind fun x48 =>
      (cmp_Less x47 x48).bind fun r49 =>
      some r49
    else
      some false).bind fun s30j7 =>
    if s30j7 then
      (P.idx l0e (IntKind.i64.wrap (s7e - 1))).bind fun x41 =>
      (P.idx l0e s7e).bind fun x42 =>
      (P.idx (l0e.set (s7e).toNat x41) (IntKind.i64.wrap (s7e - 1))).bind fun x44 =>
      some (.inl (IntKind.i64.wrap (s7e - 1), ((l0e.set (s7e).toNat x41).set (IntKind.i64.wrap (s7e - 1)).toNat x42)))
    else
      some (.inr l0e)

def slices_insertionSortOrdered_w_L1 (p1 : Int) (p2 : Int) : (Int × (List Int)) → Option ((Int × (List Int)) ⊕ (((List Int))))
  | (s6a, l0a) =>
    if decide (s6a < p2) then
      (loopL (slices_insertionSortOrdered_w_L5 p1) (s6a, l0a)).bind fun l0ex =>
      some (.inl (IntKind.i64.wrap (s6a + 1), l0ex))
    else
      some (.inr l0a)

def slices_insertionSortOrdered_w_B (p0 : (List Int)) (p1 : Int) (p2 : Int) : Option ((List Int) × (Unit)) :=
  (loopL (slices_insertionSortOrdered_w_L1 p1 p2) (IntKind.i64.wrap (p1 + 1), p0)).bind fun l0ax =>
  some (l0ax, ())

def slices_insertionSortOrdered_w (p0 : (List Int)) (p1 : Int) (p2 : Int) : Option ((List Int) × (Unit)) := (slices_insertionSortOrdered_w_B p0 p1 p2).bind fun r => if r.1.length = p0.length then some r else none

theorem len_slices_insertionSortOrdered_w {p0 : (List Int)} {p1 : Int} {p2 : Int} {r : (List Int) × (Unit)} (h : slices_insertionSortOrdered_w p0 p1 p2 = some r) : r.1.length = p0.length := by
  unfold slices_insertionSortOrdered_w at h
  obtain ⟨q, hq, h⟩ := bindS h
  split at h
  · cases h; assumption
  · cases h

def slices_pdqsortOrdered_w_L1 (p0 : (List Int)) (p1 : Int) (p2 : Int) (p3 : Int) : (Unit) → Option ((Unit) ⊕ (((List Int) × (Unit))))
  | _ =>
    if decide ((IntKind.i64.wrap (p2 - p1)) ≤ 12) then
      (slices_insertionSortOrdered_w p0 p1 p2).bind fun r9 =>
      some (.inr (r9.1, ()))
    else
      if (p3 == 0) then
        none
      else
        none

def slices_pdqsortOrdered_w_B (p0 : (List Int)) (p1 : Int) (p2 : Int) (p3 : Int) : Option ((List Int) × (Unit)) :=
  (loopL (slices_pdqsortOrdered_w_L1 p0 p1 p2 p3) ()).bind fun ra =>
  some ra

def slices_pdqsortOrdered_w (p0 : (List Int)) (p1 : Int) (p2 : Int) (p3 : Int) : Option ((List Int) × (Unit)) := (slices_pdqsortOrdered_w_B p0 p1 p2 p3).bind fun r => if r.1.length = p0.length then some r else none

theorem len_slices_pdqsortOrdered_w {p0 : (List Int)} {p1 : Int} {p2 : Int} {p3 : Int} {r : (List Int) × (Unit)} (h : slices_pdqsortOrdered_w p0 p1 p2 p3 = some r) : r.1.length = p0.length := by
  unfold slices_pdqsortOrdered_w at h
  obtain ⟨q, hq, h⟩ := bindS h
  split at h
  · cases h; assumption
  · cases h

def slices_Sort_w_B (p0 : (List Int)) : Option ((List Int) × (Unit)) :=
  (math_bits_Len (IntKind.u64.wrap ((p0).length : Int))).bind fun r1 =>
  (slices_pdqsortOrdered_w p0 0 ((p0).length : Int) r1).bind fun r3 =>
  some (r3.1, ())

def slices_Sort_w (p0 : (List Int)) : Option ((List Int) × (Unit)) := (slices_Sort_w_B p0).bind fun r => if r.1.length = p0.length then some r else none

theorem len_slices_Sort_w {p0 : (List Int)} {r : (List Int) × (Unit)} (h : slices_Sort_w p0 = some r) : r.1.length = p0.length := by
  unfold slices_Sort_w at h
  obtain ⟨q, hq, h⟩ := bindS h
  split at h
  · cases h; assumption
  · cases h

def sortS_25_w (p0 : (List Int)) : Option ((List Int) × Unit) := if p0.length < 4611686018427387904 then some (sortI p0, ()) else none

theorem len_sortS_25_w {p0 : (List Int)} {r : (List Int) × Unit} (h : sortS_25_w p0 = some r) : r.1.length = p0.length := by
  unfold sortS_25_w at h
  split at h
  · cases h; exact sortI_len p0
  · cases h

def firm_Answers_L4 (r1 : (List (Int × TDeed)) × Int) (x27 : Int) : (Int × (List Int) × (List (Int × Bool))) → Option ((Int × (List Int) × (List (Int × Bool))) ⊕ (((List Int) × (List (Int × Bool)))))
  | (s55d, l11d, l26d) =>
    if decide (s55d < (((lookM (TDeed.mk 0 0 0 ([])) r1.1 x27).f_Others).length : Int)) then
      (P.idx ((lookM (TDeed.mk 0 0 0 ([])) r1.1 x27).f_Others) s55d).bind fun x41 =>
      if (!(lookM false l26d x41)) then
        (appL 8 l11d [x41]).bind fun x43 =>
        some (.inl (IntKind.i64.wrap (s55d + 1), x43, (putM l26d x41 true)))
      else
        some (.inl (IntKind.i64.wrap (s55d + 1), l11d, l26d))
    else
      some (.inr (l11d, l26d))

def firm_Answers_L2 (p2 : Int) (r1 : (List (Int × TDeed)) × Int) : ((List Int) × (List Int) × (List (Int × Bool))) → Option (((List Int) × (List Int) × (List (Int × Bool))) ⊕ (((List Int))))
  | (l9b, l11b, l26b) =>
    if decide (((l11b).length : Int) > 0) then
      (P.idx l11b 0).bind fun x27 =>
      (firm_book_alive r1.1 x27 p2).bind fun r28 =>
      if r28 then
        (appL 8 l9b [x27]).bind fun x30 =>
        (slc l11b 1 (l11b.length : Int)).bind fun x32 =>
        some (.inl (x30, x32, l26b))
      else
        (loopL (firm_Answers_L4 r1 x27) (0, l11b, l26b)).bind fun q => match q with
        | (l11dx, l26dx) =>
          (slc l11dx 1 (l11dx.length : Int)).bind fun x45 =>
          some (.inl (l9b, x45, l26dx))
    else
      some (.inr l9b)

def firm_Answers (p0 : (List TDeed)) (p1 : Int) (p2 : Int) : Option ((List Int)) :=
  (firm_read p0).bind fun r1 =>
  (if (r1.2 != 0) then
    some true
  else
    (firm_house p1).bind fun r51 =>
    some (!r51)).bind fun s25j1 =>
  if s25j1 then
    some ([])
  else
    (loopL (firm_Answers_L2 p2 r1) ([], [p1], (putM ([] : (List (Int × Bool))) p1 true))).bind fun l9bx =>
    (sortS_25_w l9bx).bind fun r48 =>
    some r48.1

def r41_Same_L1 (p0 : (List Int)) (p1 : (List Int)) : (Int) → Option ((Int) ⊕ ((Unit) ⊕ (Bool)))
  | s5a =>
    if decide (s5a < (p0.length : Int)) then
      (P.idx p0 s5a).bind fun x8 =>
      (P.idx p1 s5a).bind fun x9 =>
      if (x8 != x9) then
        some (.inr (.inr false))
      else
        some (.inl (IntKind.i64.wrap (s5a + 1)))
    else
      some (.inr (.inl ()))

def r41_Same (p0 : (List Int)) (p1 : (List Int)) : Option (Bool) :=
  if ((p0.length : Int) != (p1.length : Int)) then
    some false
  else
    (loopL (r41_Same_L1 p0 p1) 0).bind fun q => match q with
    | (.inl _) =>
      some true
    | (.inr ra) =>
      some ra

def firm_Check (p0 : (List TDeed)) : Option (Int) :=
  (firm_read p0).bind fun r1 =>
  some r1.2

def firm_Alive (p0 : (List TDeed)) (p1 : Int) (p2 : Int) : Option (Bool) :=
  (firm_read p0).bind fun r1 =>
  if (r1.2 == 0) then
    (firm_house p1).bind fun r3 =>
    if r3 then
      (firm_book_alive r1.1 p1 p2).bind fun r5 =>
      some r5
    else
      some false
  else
    some false

def l41_example (p0 : (List TDeed)) : Option ((List TDeed)) :=
  (appL 48 [(TDeed.mk 1 10 3 ([4, 5])), (TDeed.mk 2 20 4 ([6])), (TDeed.mk 0 30 5 ([]))] p0).bind fun x1 =>
  some x1

def l41_sane : Option (Bool) :=
  (l41_example ([])).bind fun r2 =>
  (firm_Answers r2 3 9).bind fun r3 =>
  (r41_Same r3 ([3])).bind fun r5 =>
  (if r5 then
    (firm_Answers r2 3 10).bind fun r24 =>
    (r41_Same r24 ([4, 5])).bind fun r26 =>
    if r26 then
      (firm_Answers r2 3 20).bind fun r28 =>
      (r41_Same r28 ([5, 6])).bind fun r30 =>
      if r30 then
        (firm_Answers r2 3 30).bind fun r32 =>
        (r41_Same r32 ([6])).bind fun r34 =>
        some r34
      else
        some false
    else
      some false
  else
    some false).bind fun s2j1 =>
  (l41_example ([(TDeed.mk 2 20 7 ([4]))])).bind fun r8 =>
  (firm_Check r8).bind fun r9 =>
  (l41_example ([(TDeed.mk 2 19 7 ([4]))])).bind fun r11 =>
  (firm_Check r11).bind fun r12 =>
  (l41_example ([(TDeed.mk 2 40 6 ([3]))])).bind fun r14 =>
  (firm_Check r14).bind fun r15 =>
  if s2j1 then
    (firm_Answers r2 5 30).bind fun r17 =>
    if ((r17.length : Int) == 0) then
      (firm_Alive r2 4 19).bind fun r19 =>
      if r19 then
        if (r9 == 7) then
          if (r12 == 0) then
            some (r15 == 7)
          else
            some false
        else
          some false
      else
        some false
    else
      some false
  else
    some false

def r41_Few_L1 (p0 : (List TDeed)) : (Int) → Option ((Int) ⊕ ((Unit) ⊕ (Bool)))
  | s3a =>
    (if decide (s3a < (p0.length : Int)) then
      some (decide (s3a < 411))
    else
      some false).bind fun s11j3 =>
    if s11j3 then
      (P.idx p0 s3a).bind fun x9 =>
      if decide ((x9.f_Others.length : Int) > 14) then
        some (.inr (.inr false))
      else
        some (.inl (IntKind.i64.wrap (s3a + 1)))
    else
      some (.inr (.inl ()))

def r41_Few (p0 : (List TDeed)) : Option (Bool) :=
  (loopL (r41_Few_L1 p0) 0).bind fun q => match q with
  | (.inl _) =>
    if decide ((p0.length : Int) ≤ 20) then
      some true
    else
      if decide ((p0.length : Int) > 400) then
        some (decide ((p0.length : Int) ≤ 410))
      else
        some false
  | (.inr ra) =>
    some ra

def r41_House (p0 : Int) : Option (Bool) :=
  if decide (p0 ≥ 0) then
    some (decide (p0 < 400))
  else
    some false

def r41_fits_L2 (p0 : TDeed) : (Int) → Option ((Int) ⊕ ((Unit) ⊕ (Bool)))
  | s4b =>
    if decide (s4b < (p0.f_Others.length : Int)) then
      (P.idx p0.f_Others s4b).bind fun x14 =>
      (r41_House x14).bind fun r15 =>
      if (!r15) then
        some (.inr (.inr false))
      else
        if (x14 == p0.f_House) then
          some (.inr (.inr false))
        else
          if decide (s4b > 0) then
            (P.idx p0.f_Others (if 0 > (IntKind.i64.wrap (s4b - 1)) then 0 else IntKind.i64.wrap (s4b - 1))).bind fun x19 =>
            if decide (x19 ≥ x14) then
              some (.inr (.inr false))
            else
              some (.inl (IntKind.i64.wrap (s4b + 1)))
          else
            some (.inl (IntKind.i64.wrap (s4b + 1)))
    else
      some (.inr (.inl ()))

def r41_fits (p0 : TDeed) : Option (Bool) :=
  (r41_House p0.f_House).bind fun r1 =>
  (if (!r1) then
    some true
  else
    if decide (p0.f_Kind < 0) then
      some true
    else
      if decide (p0.f_Kind ≥ 3) then
        some true
      else
        if (p0.f_Kind == 0) then
          if ((p0.f_Others.length : Int) != 0) then
            some true
          else
            if (p0.f_Kind == 2) then
              if ((p0.f_Others.length : Int) != 1) then
                some true
              else
                if (p0.f_Kind == 1) then
                  if decide ((p0.f_Others.length : Int) < 2) then
                    some true
                  else
                    some (decide ((p0.f_Others.length : Int) > 10))
                else
                  some false
            else
              if (p0.f_Kind == 1) then
                if decide ((p0.f_Others.length : Int) < 2) then
                  some true
                else
                  some (decide ((p0.f_Others.length : Int) > 10))
              else
                some false
        else
          if (p0.f_Kind == 2) then
            if ((p0.f_Others.length : Int) != 1) then
              some true
            else
              if (p0.f_Kind == 1) then
                if decide ((p0.f_Others.length : Int) < 2) then
                  some true
                else
                  some (decide ((p0.f_Others.length : Int) > 10))
              else
                some false
          else
            if (p0.f_Kind == 1) then
              if decide ((p0.f_Others.length : Int) < 2) then
                some true
              else
                some (decide ((p0.f_Others.length : Int) > 10))
            else
              some false).bind fun s52j1 =>
  if s52j1 then
    some false
  else
    (loopL (r41_fits_L2 p0) 0).bind fun q => match q with
    | (.inl _) =>
      some true
    | (.inr rb) =>
      some rb

def r41_End_L1 (p0 : (List TDeed)) (p1 : Int) : (Int) → Option ((Int) ⊕ ((Unit) ⊕ (Int)))
  | s5a =>
    if decide (s5a < (p0.length : Int)) then
      (P.idx p0 s5a).bind fun x6 =>
      if (x6.f_House == p1) then
        some (.inr (.inr s5a))
      else
        some (.inl (IntKind.i64.wrap (s5a + 1)))
    else
      some (.inr (.inl ()))

def r41_End (p0 : (List TDeed)) (p1 : Int) : Option (Int) :=
  (loopL (r41_End_L1 p0 p1) 0).bind fun q => match q with
  | (.inl _) =>
    some (-1)
  | (.inr ra) =>
    some ra

def r41_Ended (p0 : (List TDeed)) (p1 : Int) (p2 : Int) : Option (Bool) :=
  (r41_End p0 p1).bind fun r1 =>
  if decide (r1 < 0) then
    some false
  else
    (P.idx p0 r1).bind fun x3 =>
    some (decide (x3.f_Day ≤ p2))

def r41_Check_L1 (p0 : (List TDeed)) : (Int) → Option ((Int) ⊕ ((Unit) ⊕ (Int)))
  | s3a =>
    if decide (s3a < (p0.length : Int)) then
      (P.idx p0 s3a).bind fun x15 =>
      (r41_fits x15).bind fun r16 =>
      if (!r16) then
        some (.inr (.inr 1))
      else
        (if decide (x15.f_Day < 0) then
          some true
        else
          some (decide (x15.f_Day > 100000))).bind fun s30j3 =>
        if s30j3 then
          some (.inr (.inr 18))
        else
          (slc p0 0 s3a).bind fun x20 =>
          (r41_End x20 x15.f_House).bind fun r22 =>
          if decide (r22 ≥ 0) then
            some (.inr (.inr 5))
          else
            some (.inl (IntKind.i64.wrap (s3a + 1)))
    else
      some (.inr (.inl ()))

def r41_Check_L6 (p0 : (List TDeed)) (s5d : Int) : (Int) → Option ((Int) ⊕ ((Unit) ⊕ (Int)))
  | s6f =>
    (P.idx p0 s5d).bind fun x45 =>
    if decide (s6f < (x45.f_Others.length : Int)) then
      (P.idx x45.f_Others s6f).bind fun x47 =>
      (r41_Ended p0 x47 x45.f_Day).bind fun r48 =>
      if r48 then
        some (.inr (.inr 7))
      else
        some (.inl (IntKind.i64.wrap (s6f + 1)))
    else
      some (.inr (.inl ()))

def r41_Check_L4 (p0 : (List TDeed)) : (Int) → Option ((Int) ⊕ ((Unit) ⊕ (Int)))
  | s5d =>
    if decide (s5d < (p0.length : Int)) then
      (loopL (r41_Check_L6 p0 s5d) 0).bind fun q => match q with
      | (.inl _) =>
        some (.inl (IntKind.i64.wrap (s5d + 1)))
      | (.inr rf) =>
        some (.inr (.inr rf))
    else
      some (.inr (.inl ()))

def r41_Check (p0 : (List TDeed)) : Option (Int) :=
  if decide ((p0.length : Int) > 400) then
    some 6
  else
    (loopL (r41_Check_L1 p0) 0).bind fun q => match q with
    | (.inl _) =>
      (loopL (r41_Check_L4 p0) 0).bind fun q => match q with
      | (.inl _) =>
        some 0
      | (.inr rd) =>
        some rd
    | (.inr ra) =>
      some ra

def r41_Alive (p0 : (List TDeed)) (p1 : Int) (p2 : Int) : Option (Bool) :=
  (r41_Check p0).bind fun r1 =>
  if (r1 == 0) then
    (r41_House p1).bind fun r3 =>
    if r3 then
      (r41_Ended p0 p1 p2).bind fun r5 =>
      some (!r5)
    else
      some false
  else
    some false

def r41_Answers_L12 (x68 : TDeed) : (Bool × Int × (List Bool)) → Option ((Bool × Int × (List Bool)) ⊕ ((Bool × (List Bool))))
  | (s8l, s10l, l7l) =>
    if decide (s10l < (x68.f_Others.length : Int)) then
      (P.idx x68.f_Others s10l).bind fun x80 =>
      (P.idx l7l x80).bind fun x81 =>
      if (!x81) then
        some (.inl (true, IntKind.i64.wrap (s10l + 1), (l7l.set (x80).toNat true)))
      else
        some (.inl (s8l, IntKind.i64.wrap (s10l + 1), l7l))
    else
      some (.inr (s8l, l7l))

def r41_Answers_L8 (p0 : (List TDeed)) (p2 : Int) : (Bool × Int × (List Bool)) → Option ((Bool × Int × (List Bool)) ⊕ ((Bool × (List Bool))))
  | (s8h, s9h, l7h) =>
    if decide (s9h < (p0.length : Int)) then
      (P.idx p0 s9h).bind fun x68 =>
      (P.idx l7h x68.f_House).bind fun x69 =>
      (if (!x69) then
        some true
      else
        some (decide (x68.f_Day > p2))).bind fun s49j11 =>
      if s49j11 then
        some (.inl (s8h, IntKind.i64.wrap (s9h + 1), l7h))
      else
        (loopL (r41_Answers_L12 x68) (s8h, 0, l7h)).bind fun q => match q with
        | (s8lx, l7lx) =>
          some (.inl (s8lx, IntKind.i64.wrap (s9h + 1), l7lx))
    else
      some (.inr (s8h, l7h))

def r41_Answers_L2 (p0 : (List TDeed)) (p2 : Int) : (Bool × (List Bool)) → Option ((Bool × (List Bool)) ⊕ (((List Bool))))
  | (s8b, l7b) =>
    if s8b then
      (loopL (r41_Answers_L8 p0 p2) (false, 0, l7b)).bind fun q => match q with
      | (s8hx, l7hx) =>
        some (.inl (s8hx, l7hx))
    else
      some (.inr l7b)

def r41_Answers_L13 (p0 : (List TDeed)) (p2 : Int) (l7bx : (List Bool)) : (Int × (List Int)) → Option ((Int × (List Int)) ⊕ (((List Int))))
  | (s12m, l11m) =>
    if decide (s12m < ((l7bx).length : Int)) then
      (P.idx l7bx s12m).bind fun x94 =>
      if x94 then
        (r41_Ended p0 s12m p2).bind fun r96 =>
        if (!r96) then
          (appL 8 l11m [s12m]).bind fun x98 =>
          some (.inl (IntKind.i64.wrap (s12m + 1), x98))
        else
          some (.inl (IntKind.i64.wrap (s12m + 1), l11m))
      else
        some (.inl (IntKind.i64.wrap (s12m + 1), l11m))
    else
      some (.inr l11m)

def r41_Answers (p0 : (List TDeed)) (p1 : Int) (p2 : Int) : Option ((List Int)) :=
  (r41_Check p0).bind fun r1 =>
  (if (r1 != 0) then
    some true
  else
    (r41_House p1).bind fun r101 =>
    some (!r101)).bind fun s20j1 =>
  if s20j1 then
    some ([])
  else
    (mkL 1 400 400 false).bind fun x4 =>
    (P.idx x4 p1).bind fun x6 =>
    (loopL (r41_Answers_L2 p0 p2) (true, (x4.set (p1).toNat true))).bind fun l7bx =>
    (loopL (r41_Answers_L13 p0 p2 l7bx) (0, [])).bind fun l11mx =>
    some l11mx

def l41_FirmTells (p0 : (List TDeed)) (p1 : Int) (p2 : Int) : Option (Bool) :=
  (l41_sane).bind fun r1 =>
  (r41_Few p0).bind fun r2 =>
  if (!r2) then
    some r1
  else
    if r1 then
      (firm_Check p0).bind fun r5 =>
      (r41_Check p0).bind fun r6 =>
      if (r5 == r6) then
        (firm_Alive p0 p1 p2).bind fun r8 =>
        (r41_Alive p0 p1 p2).bind fun r9 =>
        if (r8 == r9) then
          (firm_Answers p0 p1 p2).bind fun r11 =>
          (r41_Answers p0 p1 p2).bind fun r12 =>
          (r41_Same r11 r12).bind fun r13 =>
          some r13
        else
          some false
      else
        some false
    else
      some false

def r41_Has_L1 (p0 : (List Int)) (p1 : Int) : (Int) → Option ((Int) ⊕ ((Unit) ⊕ (Bool)))
  | s5a =>
    if decide (s5a < (p0.length : Int)) then
      (P.idx p0 s5a).bind fun x6 =>
      if (x6 == p1) then
        some (.inr (.inr true))
      else
        some (.inl (IntKind.i64.wrap (s5a + 1)))
    else
      some (.inr (.inl ()))

def r41_Has (p0 : (List Int)) (p1 : Int) : Option (Bool) :=
  (loopL (r41_Has_L1 p0 p1) 0).bind fun q => match q with
  | (.inl _) =>
    some false
  | (.inr ra) =>
    some ra

def l41_FirmAnswers_L2 (p0 : (List TDeed)) (p2 : Int) (r5 : (List Int)) : (Int) → Option ((Int) ⊕ ((Unit) ⊕ (Bool)))
  | s9b =>
    if decide (s9b < (r5.length : Int)) then
      (P.idx r5 s9b).bind fun x15 =>
      (firm_Alive p0 x15 p2).bind fun r16 =>
      if (!r16) then
        some (.inr (.inr false))
      else
        if decide (s9b > 0) then
          (P.idx r5 (if 0 > (IntKind.i64.wrap (s9b - 1)) then 0 else IntKind.i64.wrap (s9b - 1))).bind fun x19 =>
          if decide (x19 ≥ x15) then
            some (.inr (.inr false))
          else
            some (.inl (IntKind.i64.wrap (s9b + 1)))
        else
          some (.inl (IntKind.i64.wrap (s9b + 1)))
    else
      some (.inr (.inl ()))

def l41_FirmAnswers_L6 (p0 : (List TDeed)) (p2 : Int) (r27 : Int) (s12d : Int) : (Bool × Int) → Option ((Bool × Int) ⊕ ((Bool)))
  | (s13f, s14f) =>
    (P.idx p0 r27).bind fun x57 =>
    if decide (s14f < (x57.f_Others.length : Int)) then
      if s13f then
        some (.inl (true, IntKind.i64.wrap (s14f + 1)))
      else
        (P.idx x57.f_Others s14f).bind fun x60 =>
        (firm_Answers p0 x60 p2).bind fun r61 =>
        (r41_Has r61 s12d).bind fun r62 =>
        some (.inl (r62, IntKind.i64.wrap (s14f + 1)))
    else
      some (.inr s13f)

def l41_FirmAnswers_L4 (p0 : (List TDeed)) (p2 : Int) (r5 : (List Int)) (r27 : Int) : (Int × Int) → Option ((Int × Int) ⊕ ((Int) ⊕ (Bool)))
  | (s11d, s12d) =>
    if decide (s12d < 400) then
      (r41_Has r5 s12d).bind fun r48 =>
      if (!r48) then
        some (.inl (s11d, IntKind.i64.wrap (s12d + 1)))
      else
        (loopL (l41_FirmAnswers_L6 p0 p2 r27 s12d) (false, 0)).bind fun s13fx =>
        if (!s13fx) then
          some (.inr (.inr false))
        else
          some (.inl (IntKind.i64.wrap (s11d + 1), IntKind.i64.wrap (s12d + 1)))
    else
      some (.inr (.inl s11d))

def l41_FirmAnswers_L9 (r5 : (List Int)) (r81 : (List Int)) : (Int) → Option ((Int) ⊕ ((Unit) ⊕ (Bool)))
  | s17i =>
    if decide (s17i < (r81.length : Int)) then
      (P.idx r81 s17i).bind fun x88 =>
      (r41_Has r5 x88).bind fun r89 =>
      if (!r89) then
        some (.inr (.inr false))
      else
        some (.inl (IntKind.i64.wrap (s17i + 1)))
    else
      some (.inr (.inl ()))

def l41_FirmAnswers_L7 (p0 : (List TDeed)) (p2 : Int) (r5 : (List Int)) (r27 : Int) : (Int) → Option ((Int) ⊕ ((Unit) ⊕ (Bool)))
  | s15g =>
    (P.idx p0 r27).bind fun x78 =>
    if decide (s15g < (x78.f_Others.length : Int)) then
      (P.idx x78.f_Others s15g).bind fun x80 =>
      (firm_Answers p0 x80 p2).bind fun r81 =>
      (loopL (l41_FirmAnswers_L9 r5 r81) 0).bind fun q => match q with
      | (.inl _) =>
        some (.inl (IntKind.i64.wrap (s15g + 1)))
      | (.inr ri) =>
        some (.inr (.inr ri))
    else
      some (.inr (.inl ()))

def l41_FirmAnswers (p0 : (List TDeed)) (p1 : Int) (p2 : Int) : Option (Bool) :=
  (l41_sane).bind fun r1 =>
  (r41_Few p0).bind fun r2 =>
  (if (!r2) then
    some true
  else
    (firm_Check p0).bind fun r93 =>
    if (r93 != 0) then
      some true
    else
      if decide (p1 < 0) then
        some true
      else
        some (decide (p1 ≥ 400))).bind fun s34j1 =>
  if s34j1 then
    some r1
  else
    (firm_Answers p0 p1 p2).bind fun r5 =>
    (loopL (l41_FirmAnswers_L2 p0 p2 r5) 0).bind fun q => match q with
    | (.inl _) =>
      (firm_Alive p0 p1 p2).bind fun r21 =>
      if r21 then
        (if r1 then
          (r41_Same r5 ([p1])).bind fun r26 =>
          some r26
        else
          some false).bind fun s6j3 =>
        some s6j3
      else
        (r41_End p0 p1).bind fun r27 =>
        if decide (r27 < 0) then
          some false
        else
          (loopL (l41_FirmAnswers_L4 p0 p2 r5 r27) (0, 0)).bind fun q => match q with
          | (.inl s11dx) =>
            (loopL (l41_FirmAnswers_L7 p0 p2 r5 r27) 0).bind fun q => match q with
            | (.inl _) =>
              if r1 then
                some (s11dx == (r5.length : Int))
              else
                some false
            | (.inr rg) =>
              some rg
          | (.inr rd) =>
            some rd
    | (.inr rb) =>
      some rb

def l41_FirmLater_L4 (r6 : (List Int)) (r22 : (List Int)) : (Int) → Option ((Int) ⊕ ((Unit) ⊕ (Bool)))
  | s15d =>
    if decide (s15d < (r22.length : Int)) then
      (P.idx r22 s15d).bind fun x29 =>
      (r41_Has r6 x29).bind fun r30 =>
      if (!r30) then
        some (.inr (.inr false))
      else
        some (.inl (IntKind.i64.wrap (s15d + 1)))
    else
      some (.inr (.inl ()))

def l41_FirmLater_L2 (p0 : (List TDeed)) (p3 : Int) (r5 : (List Int)) (r6 : (List Int)) : (Int) → Option ((Int) ⊕ ((Unit) ⊕ (Bool)))
  | s13b =>
    if decide (s13b < (r5.length : Int)) then
      (P.idx r5 s13b).bind fun x21 =>
      (firm_Answers p0 x21 p3).bind fun r22 =>
      (loopL (l41_FirmLater_L4 r6 r22) 0).bind fun q => match q with
      | (.inl _) =>
        some (.inl (IntKind.i64.wrap (s13b + 1)))
      | (.inr rd) =>
        some (.inr (.inr rd))
    else
      some (.inr (.inl ()))

def l41_FirmLater_L7 (p0 : (List TDeed)) (p3 : Int) (r5 : (List Int)) (r6 : (List Int)) (s16e : Int) : (Bool × Int) → Option ((Bool × Int) ⊕ ((Bool)))
  | (s17g, s18g) =>
    if decide (s18g < (r5.length : Int)) then
      if s17g then
        some (.inl (true, IntKind.i64.wrap (s18g + 1)))
      else
        (P.idx r5 s18g).bind fun x58 =>
        (firm_Answers p0 x58 p3).bind fun r59 =>
        (P.idx r6 s16e).bind fun x60 =>
        (r41_Has r59 x60).bind fun r61 =>
        some (.inl (r61, IntKind.i64.wrap (s18g + 1)))
    else
      some (.inr s17g)

def l41_FirmLater_L5 (p0 : (List TDeed)) (p3 : Int) (r5 : (List Int)) (r6 : (List Int)) : (Int × Int) → Option ((Int × Int) ⊕ ((Int)))
  | (s12e, s16e) =>
    if decide (s16e < (r6.length : Int)) then
      (loopL (l41_FirmLater_L7 p0 p3 r5 r6 s16e) (false, 0)).bind fun s17gx =>
      if s17gx then
        some (.inl (IntKind.i64.wrap (s12e + 1), IntKind.i64.wrap (s16e + 1)))
      else
        some (.inl (s12e, IntKind.i64.wrap (s16e + 1)))
    else
      some (.inr s12e)

def l41_FirmLater (p0 : (List TDeed)) (p1 : Int) (p2 : Int) (p3 : Int) : Option (Bool) :=
  (l41_sane).bind fun r1 =>
  (r41_Few p0).bind fun r2 =>
  (if (!r2) then
    some true
  else
    (firm_Check p0).bind fun r69 =>
    if (r69 != 0) then
      some true
    else
      some (decide (p2 > p3))).bind fun s32j1 =>
  if s32j1 then
    some r1
  else
    (firm_Answers p0 p1 p2).bind fun r5 =>
    (firm_Answers p0 p1 p3).bind fun r6 =>
    (loopL (l41_FirmLater_L2 p0 p3 r5 r6) 0).bind fun q => match q with
    | (.inl _) =>
      (loopL (l41_FirmLater_L5 p0 p3 r5 r6) (0, 0)).bind fun s12ex =>
      if r1 then
        if (s12ex == (r6.length : Int)) then
          (firm_Alive p0 p1 p2).bind fun r65 =>
          if r65 then
            some true
          else
            (firm_Alive p0 p1 p3).bind fun r67 =>
            some (!r67)
        else
          some false
      else
        some false
    | (.inr rb) =>
      some rb

def l41_FirmMore_L6 (p2 : TDeed) (r14 : (List Int)) (r24 : (List Int)) : (Int) → Option ((Int) ⊕ ((Unit) ⊕ (Bool)))
  | s17f =>
    if decide (s17f < (r14.length : Int)) then
      (P.idx r14 s17f).bind fun x37 =>
      if (x37 != p2.f_House) then
        (r41_Has r24 x37).bind fun r39 =>
        if (!r39) then
          some (.inr (.inr false))
        else
          some (.inl (IntKind.i64.wrap (s17f + 1)))
      else
        some (.inl (IntKind.i64.wrap (s17f + 1)))
    else
      some (.inr (.inl ()))

def l41_FirmMore_L9 (r24 : (List Int)) (r56 : (List Int)) : (Int) → Option ((Int) ⊕ ((Unit) ⊕ (Bool)))
  | s20i =>
    if decide (s20i < (r56.length : Int)) then
      (P.idx r56 s20i).bind fun x63 =>
      (r41_Has r24 x63).bind fun r64 =>
      if (!r64) then
        some (.inr (.inr false))
      else
        some (.inl (IntKind.i64.wrap (s20i + 1)))
    else
      some (.inr (.inl ()))

def l41_FirmMore_L7 (p0 : (List TDeed)) (p2 : TDeed) (p4 : Int) (r24 : (List Int)) : (Int) → Option ((Int) ⊕ ((Unit) ⊕ (Bool)))
  | s18g =>
    if decide (s18g < (p2.f_Others.length : Int)) then
      (P.idx p2.f_Others s18g).bind fun x55 =>
      (firm_Answers p0 x55 p4).bind fun r56 =>
      (loopL (l41_FirmMore_L9 r24 r56) 0).bind fun q => match q with
      | (.inl _) =>
        some (.inl (IntKind.i64.wrap (s18g + 1)))
      | (.inr ri) =>
        some (.inr (.inr ri))
    else
      some (.inr (.inl ()))

def l41_FirmMore (p0 : (List TDeed)) (p1 : Int) (p2 : TDeed) (p3 : Int) (p4 : Int) : Option (Bool) :=
  (l41_sane).bind fun r1 =>
  (r41_Few p0).bind fun r2 =>
  (if (!r2) then
    some true
  else
    if decide ((p0.length : Int) > 19) then
      some true
    else
      if decide ((p2.f_Others.length : Int) > 14) then
        some true
      else
        (firm_Check p0).bind fun r79 =>
        some (r79 != 0)).bind fun s40j1 =>
  if s40j1 then
    some r1
  else
    (if decide ((p0.length : Int) > 0) then
      (modI .i64 (IntKind.i64.wrap p1) (p0.length : Int)).bind fun x74 =>
      some x74
    else
      some 0).bind fun s12j2 =>
    (slc p0 s12j2 (p0.length : Int)).bind fun x6 =>
    (appL 48 [] x6).bind fun _ =>
    (slc p0 0 s12j2).bind fun x10 =>
    (appL 48 x6 x10).bind fun x12 =>
    (firm_Answers p0 p3 p4).bind fun r14 =>
    (firm_Check x12).bind fun r15 =>
    (if (r15 != 0) then
      some true
    else
      (firm_Answers x12 p3 p4).bind fun r71 =>
      (r41_Same r71 r14).bind fun r72 =>
      some (!r72)).bind fun s74j3 =>
    if s74j3 then
      some false
    else
      (appL 48 [] p0).bind fun _ =>
      (appL 48 p0 [p2]).bind fun x20 =>
      (firm_Check x20).bind fun r22 =>
      if (r22 != 0) then
        some r1
      else
        (firm_Answers x20 p3 p4).bind fun r24 =>
        (if decide (p4 < p2.f_Day) then
          some true
        else
          (r41_Has r14 p2.f_House).bind fun r69 =>
          some (!r69)).bind fun s99j4 =>
        if s99j4 then
          (if r1 then
            (r41_Same r14 r24).bind fun r29 =>
            some r29
          else
            some false).bind fun s10j5 =>
          some s10j5
        else
          (loopL (l41_FirmMore_L6 p2 r14 r24) 0).bind fun q => match q with
          | (.inl _) =>
            (loopL (l41_FirmMore_L7 p0 p2 p4 r24) 0).bind fun q => match q with
            | (.inl _) =>
              if r1 then
                (r41_Has r24 p2.f_House).bind fun r67 =>
                some (!r67)
              else
                some false
            | (.inr rg) =>
              some rg
          | (.inr rf) =>
            some rf
end Go.Proofs.Ytnnkcegdkhclcaa.P
