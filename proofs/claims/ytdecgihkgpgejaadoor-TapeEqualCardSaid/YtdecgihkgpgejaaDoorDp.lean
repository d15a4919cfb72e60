/- The functions of the program as plain functions (written by wip/dec.py). -/
import Derived.Test.YtdecgihkgpgejaaDoorCq
namespace Go.Proofs.YtdecgihkgpgejaaDoor.P
open Go.RowKit
set_option linter.unusedVariables false

structure TThing where
  f_Text : ByteArray
  f_Value : Int
  f_Blind : Int
  f_Left : Int
  f_Right : Int

structure TVault where
  f_Things : (List TThing)

def slices_Clone (p0 : (List Int)) : Option (List Int) := appL 8 [] p0

def slices_Clone_58 (p0 : (List TThing)) : Option (List TThing) := appL 48 [] p0

def slices_Clip (p0 : (List TThing)) : Option (List TThing) := if p0.length ≤ maxLen then some p0 else none

def vault_within (p0 : Int) (p1 : Int) : Option (Bool) :=
  if decide (p0 ≥ 0) then
    some (decide (p0 ≤ p1))
  else
    some false

def vault_leaf (p0 : TThing) : Option (Bool) :=
  (if (p0.f_Left == (-1)) then
    some (p0.f_Right == (-1))
  else
    some false).bind fun s3j1 =>
  if s3j1 then
    if decide ((p0.f_Text.size : Int) ≤ 8000) then
      (vault_within p0.f_Value 1099511627776).bind fun r4 =>
      if r4 then
        (vault_within p0.f_Blind 1099511627776).bind fun r6 =>
        some r6
      else
        some false
    else
      some false
  else
    some false

def vault_pair (p0 : (List TThing)) (p1 : Int) (p2 : Int) : Option (TThing × Int) :=
  (vault_within p1 (IntKind.i64.wrap ((p0.length : Int) - 1))).bind fun r1 =>
  (if (!r1) then
    some true
  else
    (vault_within p2 (IntKind.i64.wrap ((p0.length : Int) - 1))).bind fun r9 =>
    some (!r9)).bind fun s24j1 =>
  if s24j1 then
    some ((TThing.mk (ByteArray.mk #[]) 0 0 0 0), 4)
  else
    (P.idx p0 p1).bind fun x4 =>
    (P.idx p0 p2).bind fun x5 =>
    if decide ((IntKind.i64.wrap (x4.f_Value + x5.f_Value)) > 1125899906842624) then
      some ((TThing.mk (ByteArray.mk #[]) 0 0 0 0), 3)
    else
      if decide ((IntKind.i64.wrap (x4.f_Blind + x5.f_Blind)) > 1125899906842624) then
        some ((TThing.mk (ByteArray.mk #[]) 0 0 0 0), 3)
      else
        some ((TThing.mk (ByteArray.mk #[]) (IntKind.i64.wrap (x4.f_Value + x5.f_Value)) (IntKind.i64.wrap (x4.f_Blind + x5.f_Blind)) p1 p2), 0)

def vault_Sound_L1 (p0 : TVault) : (Int) → Option ((Int) ⊕ ((Unit) ⊕ (Bool)))
  | s14a =>
    if decide (s14a < (p0.f_Things.length : Int)) then
      (P.idx p0.f_Things s14a).bind fun x13 =>
      (vault_leaf x13).bind fun r14 =>
      if r14 then
        some (.inl (IntKind.i64.wrap (s14a + 1)))
      else
        (slc p0.f_Things 0 s14a).bind fun x16 =>
        (vault_pair x16 x13.f_Left x13.f_Right).bind fun r18 =>
        if (r18.2 != 0) then
          some (.inr (.inr false))
        else
          if (!((x13.f_Text == r18.1.f_Text) && ((x13.f_Value == r18.1.f_Value) && ((x13.f_Blind == r18.1.f_Blind) && ((x13.f_Left == r18.1.f_Left) && (x13.f_Right == r18.1.f_Right)))))) then
            some (.inr (.inr false))
          else
            some (.inl (IntKind.i64.wrap (s14a + 1)))
    else
      some (.inr (.inl ()))

def vault_Sound (p0 : TVault) : Option (Bool) :=
  if decide ((p0.f_Things.length : Int) > 2000) then
    some false
  else
    (loopL (vault_Sound_L1 p0) 0).bind fun q => match q with
    | (.inl _) =>
      some true
    | (.inr ra) =>
      some ra

def vault_put (p0 : TVault) (p1 : TThing) : Option (TVault × Int × Int) :=
  (slices_Clone_58 p0.f_Things).bind fun r1 =>
  (slices_Clip r1).bind fun r2 =>
  (appL 48 r2 [p1]).bind fun x3 =>
  some ((TVault.mk x3), (p0.f_Things.length : Int), 0)

def r35_in (p0 : Int) (p1 : Int) (p2 : Int) : Option (Bool) :=
  if decide (p0 ≥ p1) then
    some (decide (p0 ≤ p2))
  else
    some false

def r35_Leafy (p0 : TThing) : Option (Bool) :=
  if (p0.f_Left == (-1)) then
    some (p0.f_Right == (-1))
  else
    some false

def r35_leaf (p0 : TThing) : Option (Bool) :=
  (r35_Leafy p0).bind fun r1 =>
  if r1 then
    if decide ((p0.f_Text.size : Int) ≤ 8000) then
      (r35_in p0.f_Value 0 1099511627776).bind fun r4 =>
      if r4 then
        (r35_in p0.f_Blind 0 1099511627776).bind fun r6 =>
        some r6
      else
        some false
    else
      some false
  else
    some false

def r35_Sound_L1 (p0 : TVault) : (Int) → Option ((Int) ⊕ ((Unit) ⊕ (Bool)))
  | s3a =>
    if decide (s3a < (p0.f_Things.length : Int)) then
      (P.idx p0.f_Things s3a).bind fun x20 =>
      (r35_leaf x20).bind fun r21 =>
      if r21 then
        some (.inl (IntKind.i64.wrap (s3a + 1)))
      else
        (if (!(x20.f_Text.toList == (ByteArray.mk #[]).toList)) then
          some true
        else
          (r35_in x20.f_Left 0 (IntKind.i64.wrap (s3a - 1))).bind fun r32 =>
          if (!r32) then
            some true
          else
            (r35_in x20.f_Right 0 (IntKind.i64.wrap (s3a - 1))).bind fun r34 =>
            some (!r34)).bind fun s43j3 =>
        if s43j3 then
          some (.inr (.inr false))
        else
          (P.idx p0.f_Things x20.f_Left).bind fun x25 =>
          (P.idx p0.f_Things x20.f_Right).bind fun x26 =>
          if (x20.f_Value != (IntKind.i64.wrap (x25.f_Value + x26.f_Value))) then
            some (.inr (.inr false))
          else
            if (x20.f_Blind != (IntKind.i64.wrap (x25.f_Blind + x26.f_Blind))) then
              some (.inr (.inr false))
            else
              if decide (x20.f_Value > 1125899906842624) then
                some (.inr (.inr false))
              else
                if decide (x20.f_Blind > 1125899906842624) then
                  some (.inr (.inr false))
                else
                  some (.inl (IntKind.i64.wrap (s3a + 1)))
    else
      some (.inr (.inl ()))

def r35_Sound (p0 : TVault) : Option (Bool) :=
  if decide ((p0.f_Things.length : Int) > 2000) then
    some false
  else
    (loopL (r35_Sound_L1 p0) 0).bind fun q => match q with
    | (.inl _) =>
      some true
    | (.inr ra) =>
      some ra

def r35_Few_L1 (p0 : TVault) (p1 : Int) : (Int) → Option ((Int) ⊕ ((Unit) ⊕ (Bool)))
  | s5a =>
    (if decide (s5a < (p0.f_Things.length : Int)) then
      some (decide (s5a < p1))
    else
      some false).bind fun s15j3 =>
    if s15j3 then
      (P.idx p0.f_Things s5a).bind fun x9 =>
      if decide ((x9.f_Text.size : Int) > 100) then
        some (.inr (.inr false))
      else
        some (.inl (IntKind.i64.wrap (s5a + 1)))
    else
      some (.inr (.inl ()))

def r35_Few (p0 : TVault) (p1 : Int) : Option (Bool) :=
  (loopL (r35_Few_L1 p0 p1) 0).bind fun q => match q with
  | (.inl _) =>
    some (decide ((p0.f_Things.length : Int) ≤ p1))
  | (.inr ra) =>
    some ra

def r35_Opens (p0 : TVault) (p1 : Int) (p2 : ByteArray) (p3 : Int) (p4 : Int) : Option (Bool) :=
  (r35_Sound p0).bind fun r1 =>
  (if (!r1) then
    some true
  else
    (r35_in p1 0 (IntKind.i64.wrap ((p0.f_Things.length : Int) - 1))).bind fun r8 =>
    some (!r8)).bind fun s23j1 =>
  if s23j1 then
    some false
  else
    (P.idx p0.f_Things p1).bind fun x4 =>
    if (x4.f_Text.toList == p2.toList) then
      if (x4.f_Value == p3) then
        some (x4.f_Blind == p4)
      else
        some false
    else
      some false

def vault_Opens (p0 : TVault) (p1 : Int) (p2 : ByteArray) (p3 : Int) (p4 : Int) : Option (Bool) :=
  (vault_Sound p0).bind fun r1 =>
  (if (!r1) then
    some true
  else
    (vault_within p1 (IntKind.i64.wrap ((p0.f_Things.length : Int) - 1))).bind fun r8 =>
    some (!r8)).bind fun s23j1 =>
  if s23j1 then
    some false
  else
    (P.idx p0.f_Things p1).bind fun x4 =>
    if (x4.f_Text.toList == p2.toList) then
      if (x4.f_Value == p3) then
        some (x4.f_Blind == p4)
      else
        some false
    else
      some false

def vault_Leaf (p0 : TVault) (p1 : ByteArray) (p2 : Int) (p3 : Int) : Option (TVault × Int × Int) :=
  (vault_Sound p0).bind fun r1 =>
  (if (!r1) then
    some true
  else
    (vault_leaf (TThing.mk p1 p2 p3 (-1) (-1))).bind fun r7 =>
    some (!r7)).bind fun s16j1 =>
  if s16j1 then
    some ((TVault.mk ([])), (-1), 1)
  else
    if decide ((p0.f_Things.length : Int) ≥ 2000) then
      some ((TVault.mk ([])), (-1), 6)
    else
      (vault_put p0 (TThing.mk p1 p2 p3 (-1) (-1))).bind fun r5 =>
      some (r5.1, r5.2.1, r5.2.2)

def wire_Nums (p0 : (List Int)) : Option ByteArray := numsW p0

def r01_digits (p0 : Int) : Option ByteArray := digitsW p0

def r01_Int (p0 : Int) : Option (ByteArray) :=
  if decide (p0 < 0) then
    (r01_digits p0).bind fun r2 =>
    (catS (ByteArray.mk #[45]) r2).bind fun x3 =>
    (catS x3 (ByteArray.mk #[59])).bind fun x5 =>
    some x5
  else
    (r01_digits (IntKind.i64.wrap (0 - p0))).bind fun r7 =>
    (catS r7 (ByteArray.mk #[59])).bind fun x8 =>
    some x8

def r01_Nums_L1 (p0 : (List Int)) : (ByteArray × Int) → Option ((ByteArray × Int) ⊕ ((ByteArray)))
  | (s3a, s4a) =>
    if decide (s4a < (p0.length : Int)) then
      (P.idx p0 s4a).bind fun x11 =>
      (r01_Int x11).bind fun r12 =>
      (catS s3a r12).bind fun x13 =>
      some (.inl (x13, IntKind.i64.wrap (s4a + 1)))
    else
      some (.inr s3a)

def r01_Nums (p0 : (List Int)) : Option (ByteArray) :=
  (r01_digits (IntKind.i64.wrap (0 - (p0.length : Int)))).bind fun r1 =>
  (catS r1 (ByteArray.mk #[91])).bind fun x2 =>
  (loopL (r01_Nums_L1 p0) (x2, 0)).bind fun s3ax =>
  (catS s3ax (ByteArray.mk #[93])).bind fun x15 =>
  some x15

def tape_Text (p0 : (List Int)) : Option (ByteArray) :=
  (wire_Nums p0).bind fun r1 =>
  some r1

def r50_Text (p0 : (List Int)) : Option (ByteArray) :=
  (r01_Nums p0).bind fun r1 =>
  some r1

def tape_Right_L2 (p0 : (List Int)) (p1 : Int) : (Int) → Option ((Int) ⊕ ((Unit) ⊕ (Bool)))
  | s22b =>
    if decide (s22b < (p0.length : Int)) then
      (P.idx p0 s22b).bind fun x9 =>
      if decide (x9 < 0) then
        some (.inr (.inr false))
      else
        if decide (x9 ≥ (IntKind.i64.wrap (p1 - s22b))) then
          some (.inr (.inr false))
        else
          some (.inl (IntKind.i64.wrap (s22b + 1)))
    else
      some (.inr (.inl ()))

def tape_Right (p0 : (List Int)) (p1 : Int) : Option (Bool) :=
  (if decide (p1 < 0) then
    some true
  else
    if decide (p1 > 1099511627776) then
      some true
    else
      some (decide ((p0.length : Int) > (if 100 < p1 then 100 else p1)))).bind fun s19j1 =>
  if s19j1 then
    some false
  else
    (loopL (tape_Right_L2 p0 p1) 0).bind fun q => match q with
    | (.inl _) =>
      some true
    | (.inr rb) =>
      some rb

def r50_Right_L2 (p0 : (List Int)) (p1 : Int) : (Int) → Option ((Int) ⊕ ((Unit) ⊕ (Bool)))
  | s5b =>
    if decide (s5b < (p0.length : Int)) then
      (P.idx p0 s5b).bind fun x9 =>
      if decide (x9 < 0) then
        some (.inr (.inr false))
      else
        if decide (x9 ≥ (IntKind.i64.wrap (p1 - s5b))) then
          some (.inr (.inr false))
        else
          some (.inl (IntKind.i64.wrap (s5b + 1)))
    else
      some (.inr (.inl ()))

def r50_Right (p0 : (List Int)) (p1 : Int) : Option (Bool) :=
  (if decide (p1 < 0) then
    some true
  else
    if decide (p1 > 1099511627776) then
      some true
    else
      if decide ((p0.length : Int) > 100) then
        some true
      else
        some (decide ((p0.length : Int) > p1))).bind fun s22j1 =>
  if s22j1 then
    some false
  else
    (loopL (r50_Right_L2 p0 p1) 0).bind fun q => match q with
    | (.inl _) =>
      some true
    | (.inr rb) =>
      some rb

def tape_Tape_L6 (p1 : Int) (x26 : (List Int)) : (Int × (List Int)) → Option ((Int × (List Int)) ⊕ (((List Int))))
  | (s53f, l8f) =>
    if decide (s53f < (x26.length : Int)) then
      (P.idx x26 s53f).bind fun x37 =>
      (P.idx l8f s53f).bind fun x38 =>
      (modI .i64 (IntKind.i64.wrap (x38 + x37)) (IntKind.i64.wrap (p1 - s53f))).bind fun x39 =>
      some (.inl (IntKind.i64.wrap (s53f + 1), (l8f.set (s53f).toNat x39)))
    else
      some (.inr l8f)

def tape_Tape_L2 (p0 : (List (List Int))) (p1 : Int) (p2 : Int) : (Int × (List Int)) → Option ((Int × (List Int)) ⊕ (((List Int)) ⊕ ((List Int) × Int)))
  | (s37b, l8b) =>
    if decide (s37b < (p0.length : Int)) then
      (P.idx p0 s37b).bind fun x26 =>
      (if ((x26.length : Int) != p2) then
        some true
      else
        (tape_Right x26 p1).bind fun r43 =>
        some (!r43)).bind fun s50j5 =>
      if s50j5 then
        some (.inr (.inr ([], 1)))
      else
        (loopL (tape_Tape_L6 p1 x26) (0, l8b)).bind fun l8fx =>
        some (.inl (IntKind.i64.wrap (s37b + 1), l8fx))
    else
      some (.inr (.inl l8b))

def tape_Tape (p0 : (List (List Int))) (p1 : Int) (p2 : Int) : Option ((List Int) × Int) :=
  (if decide (p2 < 0) then
    some true
  else
    if decide (p2 > 100) then
      some true
    else
      if decide (p1 < p2) then
        some true
      else
        if decide (p1 > 1099511627776) then
          some true
        else
          some (decide ((p0.length : Int) > 400))).bind fun s32j1 =>
  if s32j1 then
    some ([], 1)
  else
    (mkL 8 p2 p2 0).bind fun x3 =>
    (loopL (tape_Tape_L2 p0 p1 p2) (0, x3)).bind fun q => match q with
    | (.inl l8bx) =>
      some (l8bx, 0)
    | (.inr rb) =>
      some rb

def r50_Tape_L2 (p0 : (List (List Int))) (p1 : Int) (p2 : Int) : (Int) → Option ((Int) ⊕ ((Unit) ⊕ ((List Int) × Int)))
  | s8b =>
    if decide (s8b < (p0.length : Int)) then
      (P.idx p0 s8b).bind fun x10 =>
      (r50_Right x10 p1).bind fun r11 =>
      if (!r11) then
        some (.inr (.inr ([], 1)))
      else
        if ((x10.length : Int) != p2) then
          some (.inr (.inr ([], 1)))
        else
          some (.inl (IntKind.i64.wrap (s8b + 1)))
    else
      some (.inr (.inl ()))

def r50_Tape_L5 (p0 : (List (List Int))) (p1 : Int) (s10c : Int) : (Int × Int) → Option ((Int × Int) ⊕ ((Int)))
  | (s11e, s12e) =>
    if decide (s12e < (p0.length : Int)) then
      (P.idx p0 s12e).bind fun x37 =>
      (P.idx x37 s10c).bind fun x38 =>
      (modI .i64 (IntKind.i64.wrap (s11e + x38)) (IntKind.i64.wrap (p1 - s10c))).bind fun x39 =>
      some (.inl (x39, IntKind.i64.wrap (s12e + 1)))
    else
      some (.inr s11e)

def r50_Tape_L3 (p0 : (List (List Int))) (p1 : Int) (p2 : Int) : (Int × (List Int)) → Option ((Int × (List Int)) ⊕ (((List Int))))
  | (s10c, l9c) =>
    if decide (s10c < p2) then
      (loopL (r50_Tape_L5 p0 p1 s10c) (0, 0)).bind fun s11ex =>
      (appL 8 l9c [s11ex]).bind fun x41 =>
      some (.inl (IntKind.i64.wrap (s10c + 1), x41))
    else
      some (.inr l9c)

def r50_Tape (p0 : (List (List Int))) (p1 : Int) (p2 : Int) : Option ((List Int) × Int) :=
  (if decide (p2 < 0) then
    some true
  else
    if decide (p2 > 100) then
      some true
    else
      if decide (p1 < p2) then
        some true
      else
        if decide (p1 > 1099511627776) then
          some true
        else
          some (decide ((p0.length : Int) > 400))).bind fun s32j1 =>
  if s32j1 then
    some ([], 1)
  else
    (loopL (r50_Tape_L2 p0 p1 p2) 0).bind fun q => match q with
    | (.inl _) =>
      (loopL (r50_Tape_L3 p0 p1 p2) (0, [])).bind fun l9cx =>
      some (l9cx, 0)
    | (.inr rb) =>
      some rb

def slices_Values (p0 : (List Int)) : Option (List Int) := valuesW p0

def slices_Compact (p0 : (List Int)) : Option (List Int) := compW p0

def slices_Sorted_slices_Values_int_int_1 (p0 : (List Int)) : Option (List Int) := sortedW p0

def tape_twice (p0 : (List Int)) : Option (Bool) :=
  (slices_Values p0).bind fun r1 =>
  (slices_Sorted_slices_Values_int_int_1 r1).bind fun r2 =>
  (slices_Compact r2).bind fun r4 =>
  some (decide (((r4).length : Int) < (p0.length : Int)))

def tape_Open_L2 (p0 : TVault) (p1 : (List Int)) (p2 : (List (List Int))) (p3 : (List Int)) : (Int) → Option ((Int) ⊕ ((Unit) ⊕ ((List Int) × Int)))
  | s47b =>
    if decide (s47b < (p1.length : Int)) then
      (P.idx p1 s47b).bind fun x16 =>
      (P.idx p2 s47b).bind fun x17 =>
      (tape_Text x17).bind fun r18 =>
      (P.idx p3 s47b).bind fun x19 =>
      (vault_Opens p0 x16 r18 0 x19).bind fun r20 =>
      if (!r20) then
        some (.inr (.inr ([], 22)))
      else
        some (.inl (IntKind.i64.wrap (s47b + 1)))
    else
      some (.inr (.inl ()))

def tape_Open (p0 : TVault) (p1 : (List Int)) (p2 : (List (List Int))) (p3 : (List Int)) (p4 : Int) (p5 : Int) : Option ((List Int) × Int) :=
  (tape_Tape p2 p4 p5).bind fun r1 =>
  if (r1.2 != 0) then
    some ([], r1.2)
  else
    (if ((p1.length : Int) != (p2.length : Int)) then
      some true
    else
      some ((p3.length : Int) != (p2.length : Int))).bind fun s29j1 =>
    if s29j1 then
      some ([], 2)
    else
      (tape_twice p1).bind fun r5 =>
      if r5 then
        some ([], 5)
      else
        (loopL (tape_Open_L2 p0 p1 p2 p3) 0).bind fun q => match q with
        | (.inl _) =>
          some (r1.1, 0)
        | (.inr rb) =>
          some rb

def r50_Open_L4 (p1 : (List Int)) (s16b : Int) : (Int) → Option ((Int) ⊕ ((Unit) ⊕ ((List Int) × Int)))
  | s17d =>
    if decide (s17d < s16b) then
      (P.idx p1 s17d).bind fun x23 =>
      (P.idx p1 s16b).bind fun x24 =>
      if (x23 == x24) then
        some (.inr (.inr ([], 5)))
      else
        some (.inl (IntKind.i64.wrap (s17d + 1)))
    else
      some (.inr (.inl ()))

def r50_Open_L2 (p1 : (List Int)) : (Int) → Option ((Int) ⊕ ((Unit) ⊕ ((List Int) × Int)))
  | s16b =>
    if decide (s16b < (p1.length : Int)) then
      (loopL (r50_Open_L4 p1 s16b) 0).bind fun q => match q with
      | (.inl _) =>
        some (.inl (IntKind.i64.wrap (s16b + 1)))
      | (.inr rd) =>
        some (.inr (.inr rd))
    else
      some (.inr (.inl ()))

def r50_Open_L5 (p0 : TVault) (p1 : (List Int)) (p2 : (List (List Int))) (p3 : (List Int)) : (Int) → Option ((Int) ⊕ ((Unit) ⊕ ((List Int) × Int)))
  | s18e =>
    if decide (s18e < (p1.length : Int)) then
      (P.idx p1 s18e).bind fun x35 =>
      (P.idx p2 s18e).bind fun x36 =>
      (r50_Text x36).bind fun r37 =>
      (P.idx p3 s18e).bind fun x38 =>
      (r35_Opens p0 x35 r37 0 x38).bind fun r39 =>
      if (!r39) then
        some (.inr (.inr ([], 22)))
      else
        some (.inl (IntKind.i64.wrap (s18e + 1)))
    else
      some (.inr (.inl ()))

def r50_Open (p0 : TVault) (p1 : (List Int)) (p2 : (List (List Int))) (p3 : (List Int)) (p4 : Int) (p5 : Int) : Option ((List Int) × Int) :=
  (r50_Tape p2 p4 p5).bind fun r1 =>
  if (r1.2 != 0) then
    some ([], r1.2)
  else
    (if ((p1.length : Int) != (p2.length : Int)) then
      some true
    else
      some ((p3.length : Int) != (p2.length : Int))).bind fun s40j1 =>
    if s40j1 then
      some ([], 2)
    else
      (loopL (r50_Open_L2 p1) 0).bind fun q => match q with
      | (.inl _) =>
        (loopL (r50_Open_L5 p0 p1 p2 p3) 0).bind fun q => match q with
        | (.inl _) =>
          some (r1.1, 0)
        | (.inr re) =>
          some re
      | (.inr rb) =>
        some rb

def tape_Draw_L3 (l7a : (List Int)) : (Int × Int) → Option ((Int × Int) ⊕ ((Int × Int)))
  | (s9c, s10c) =>
    if decide (s10c < ((l7a).length : Int)) then
      (P.idx l7a s10c).bind fun x26 =>
      if decide (x26 ≤ s9c) then
        some (.inl (IntKind.i64.wrap (s9c + 1), IntKind.i64.wrap (s10c + 1)))
      else
        some (.inr (s9c, s10c))
    else
      some (.inr (s9c, s10c))

def tape_Draw_L1 (p0 : (List Int)) : (Int × (List Int) × (List Int)) → Option ((Int × (List Int) × (List Int)) ⊕ (((List Int))))
  | (s20a, l6a, l7a) =>
    if decide (s20a < (p0.length : Int)) then
      (P.idx p0 s20a).bind fun x20 =>
      (loopL (tape_Draw_L3 l7a) (x20, 0)).bind fun q => match q with
      | (s9cx, s10cx) =>
        (appL 8 l6a [s9cx]).bind fun x28 =>
        (insL 8 l7a s10cx [s9cx]).bind fun x30 =>
        some (.inl (IntKind.i64.wrap (s20a + 1), x28, x30))
    else
      some (.inr l6a)

def tape_Draw (p0 : (List Int)) (p1 : Int) : Option ((List Int) × Int) :=
  (tape_Right p0 p1).bind fun r1 =>
  if (!r1) then
    some ([], 1)
  else
    (mkL 8 0 (p0.length : Int) 0).bind fun x3 =>
    (loopL (tape_Draw_L1 p0) (0, x3, [])).bind fun l6ax =>
    some (l6ax, 0)

def r50_nth_L3 (p0 : (List Int)) (s5a : Int) : (Int × Int) → Option ((Int × Int) ⊕ ((Int)))
  | (s6c, s7c) =>
    if decide (s7c < (p0.length : Int)) then
      (P.idx p0 s7c).bind fun x15 =>
      if decide (x15 ≤ s5a) then
        some (.inl (IntKind.i64.wrap (s6c + 1), IntKind.i64.wrap (s7c + 1)))
      else
        some (.inl (s6c, IntKind.i64.wrap (s7c + 1)))
    else
      some (.inr s6c)

def r50_nth_L1 (p0 : (List Int)) (p1 : Int) : (Int) → Option ((Int) ⊕ ((Int)))
  | s5a =>
    (loopL (r50_nth_L3 p0 s5a) (0, 0)).bind fun s6cx =>
    if (s5a == (IntKind.i64.wrap (p1 + s6cx))) then
      some (.inr s5a)
    else
      some (.inl (IntKind.i64.wrap (p1 + s6cx)))

def r50_nth (p0 : (List Int)) (p1 : Int) : Option (Int) :=
  (loopL (r50_nth_L1 p0 p1) p1).bind fun ra =>
  some ra

def r50_Draw_L1 (p0 : (List Int)) : (Int × (List Int)) → Option ((Int × (List Int)) ⊕ (((List Int))))
  | (s7a, l6a) =>
    if decide (s7a < (p0.length : Int)) then
      (P.idx p0 s7a).bind fun x10 =>
      (r50_nth l6a x10).bind fun r11 =>
      (appL 8 l6a [r11]).bind fun x12 =>
      some (.inl (IntKind.i64.wrap (s7a + 1), x12))
    else
      some (.inr l6a)

def r50_Draw (p0 : (List Int)) (p1 : Int) : Option ((List Int) × Int) :=
  (r50_Right p0 p1).bind fun r1 =>
  if (!r1) then
    some ([], 1)
  else
    (loopL (r50_Draw_L1 p0) (0, [])).bind fun l6ax =>
    some (l6ax, 0)

def tape_Find_1 (p0 : Int) (p1 : Int) : Option (Bool) :=
  if decide (p0 < 0) then
    some true
  else
    some (decide (p0 ≥ p1))

def slices_IndexFunc_tape_Find_1_L1 (p0 : (List Int)) (p1c0 : Int) : (Int) → Option ((Int) ⊕ ((Unit) ⊕ (Int)))
  | s8a =>
    if decide (s8a < (p0.length : Int)) then
      (P.idx p0 s8a).bind fun x7 =>
      (tape_Find_1 x7 p1c0).bind fun r8 =>
      if r8 then
        some (.inr (.inr s8a))
      else
        some (.inl (IntKind.i64.wrap (s8a + 1)))
    else
      some (.inr (.inl ()))

def slices_IndexFunc_tape_Find_1 (p0 : (List Int)) (p1c0 : Int) : Option (Int) :=
  (loopL (slices_IndexFunc_tape_Find_1_L1 p0 p1c0) 0).bind fun q => match q with
  | (.inl _) =>
    some (-1)
  | (.inr ra) =>
    some ra

def slices_ContainsFunc_tape_Find_1 (p0 : (List Int)) (p1c0 : Int) : Option (Bool) :=
  (slices_IndexFunc_tape_Find_1 p0 p1c0).bind fun r1 =>
  some (decide (r1 ≥ 0))

def tape_Find_L4 (p0 : (List Int)) (s36b : Int) (x24 : (List Int)) : (Int × (List Int)) → Option ((Int × (List Int)) ⊕ (((List Int))))
  | (s43d, l7d) =>
    if decide (s43d < (x24.length : Int)) then
      (P.idx x24 s43d).bind fun x34 =>
      (P.idx p0 s36b).bind fun x35 =>
      if decide (x34 < x35) then
        (P.idx l7d s36b).bind fun x37 =>
        some (.inl (IntKind.i64.wrap (s43d + 1), (l7d.set (s36b).toNat (IntKind.i64.wrap (x37 - 1)))))
      else
        some (.inl (IntKind.i64.wrap (s43d + 1), l7d))
    else
      some (.inr l7d)

def tape_Find_L2 (p0 : (List Int)) (r5 : (List Int)) : (Int × (List Int)) → Option ((Int × (List Int)) ⊕ (((List Int))))
  | (s36b, l7b) =>
    if decide (s36b < ((r5).length : Int)) then
      (slc p0 0 s36b).bind fun x24 =>
      (loopL (tape_Find_L4 p0 s36b x24) (0, l7b)).bind fun l7dx =>
      some (.inl (IntKind.i64.wrap (s36b + 1), l7dx))
    else
      some (.inr l7b)

def tape_Find (p0 : (List Int)) (p1 : Int) : Option ((List Int) × Int) :=
  (if decide (p1 < 0) then
    some true
  else
    if decide (p1 > 1099511627776) then
      some true
    else
      if decide ((p0.length : Int) > 100) then
        some true
      else
        (slices_ContainsFunc_tape_Find_1 p0 p1).bind fun r42 =>
        some r42).bind fun s12j1 =>
  if s12j1 then
    some ([], 1)
  else
    (tape_twice p0).bind fun r3 =>
    if r3 then
      some ([], 5)
    else
      (slices_Clone p0).bind fun r5 =>
      (loopL (tape_Find_L2 p0 r5) (0, r5)).bind fun l7bx =>
      some (l7bx, 0)

def r50_has_L1 (p0 : (List Int)) (p1 : Int) : (Int) → Option ((Int) ⊕ ((Unit) ⊕ (Bool)))
  | s5a =>
    if decide (s5a < (p0.length : Int)) then
      (P.idx p0 s5a).bind fun x6 =>
      if (x6 == p1) then
        some (.inr (.inr true))
      else
        some (.inl (IntKind.i64.wrap (s5a + 1)))
    else
      some (.inr (.inl ()))

def r50_has (p0 : (List Int)) (p1 : Int) : Option (Bool) :=
  (loopL (r50_has_L1 p0 p1) 0).bind fun q => match q with
  | (.inl _) =>
    some false
  | (.inr ra) =>
    some ra

def r50_Find_L2 (p0 : (List Int)) (p1 : Int) : (Int) → Option ((Int) ⊕ ((Unit) ⊕ ((List Int) × Int)))
  | s6b =>
    if decide (s6b < (p0.length : Int)) then
      (P.idx p0 s6b).bind fun x9 =>
      if decide (x9 < 0) then
        some (.inr (.inr ([], 1)))
      else
        if decide (x9 ≥ p1) then
          some (.inr (.inr ([], 1)))
        else
          some (.inl (IntKind.i64.wrap (s6b + 1)))
    else
      some (.inr (.inl ()))

def r50_Find_L5 (p0 : (List Int)) (s8c : Int) (x32 : Int) : (Int × Int) → Option ((Int × Int) ⊕ ((Int)))
  | (s9e, s10e) =>
    if decide (s10e < s8c) then
      (P.idx p0 s10e).bind fun x41 =>
      if decide (x41 < x32) then
        some (.inl (IntKind.i64.wrap (s9e - 1), IntKind.i64.wrap (s10e + 1)))
      else
        some (.inl (s9e, IntKind.i64.wrap (s10e + 1)))
    else
      some (.inr s9e)

def r50_Find_L3 (p0 : (List Int)) : (Int × (List Int)) → Option ((Int × (List Int)) ⊕ (((List Int)) ⊕ ((List Int) × Int)))
  | (s8c, l7c) =>
    if decide (s8c < (p0.length : Int)) then
      (slc p0 0 s8c).bind fun x30 =>
      (P.idx p0 s8c).bind fun x32 =>
      (r50_has x30 x32).bind fun r33 =>
      if r33 then
        some (.inr (.inr ([], 5)))
      else
        (loopL (r50_Find_L5 p0 s8c x32) (x32, 0)).bind fun s9ex =>
        (appL 8 l7c [s9ex]).bind fun x43 =>
        some (.inl (IntKind.i64.wrap (s8c + 1), x43))
    else
      some (.inr (.inl l7c))

def r50_Find (p0 : (List Int)) (p1 : Int) : Option ((List Int) × Int) :=
  (if decide (p1 < 0) then
    some true
  else
    if decide (p1 > 1099511627776) then
      some true
    else
      some (decide ((p0.length : Int) > 100))).bind fun s21j1 =>
  if s21j1 then
    some ([], 1)
  else
    (loopL (r50_Find_L2 p0 p1) 0).bind fun q => match q with
    | (.inl _) =>
      (loopL (r50_Find_L3 p0) (0, [])).bind fun q => match q with
      | (.inl l7cx) =>
        some (l7cx, 0)
      | (.inr rc) =>
        some rc
    | (.inr rb) =>
      some rb

def r50_SameInts_L1 (p0 : (List Int)) (p1 : (List Int)) : (Int) → Option ((Int) ⊕ ((Unit) ⊕ (Bool)))
  | s5a =>
    if decide (s5a < (p0.length : Int)) then
      (P.idx p0 s5a).bind fun x8 =>
      (P.idx p1 s5a).bind fun x9 =>
      if (x8 != x9) then
        some (.inr (.inr false))
      else
        some (.inl (IntKind.i64.wrap (s5a + 1)))
    else
      some (.inr (.inl ()))

def r50_SameInts (p0 : (List Int)) (p1 : (List Int)) : Option (Bool) :=
  if ((p0.length : Int) != (p1.length : Int)) then
    some false
  else
    (loopL (r50_SameInts_L1 p0 p1) 0).bind fun q => match q with
    | (.inl _) =>
      some true
    | (.inr ra) =>
      some ra

def r50_FewRow (p0 : (List Int)) : Option (Bool) :=
  if decide ((p0.length : Int) ≤ 20) then
    some true
  else
    if decide ((p0.length : Int) > 100) then
      some (decide ((p0.length : Int) ≤ 102))
    else
      some false

def r50_Few_L1 (p0 : (List (List Int))) : (Int) → Option ((Int) ⊕ ((Unit) ⊕ (Bool)))
  | s3a =>
    (if decide (s3a < (p0.length : Int)) then
      some (decide (s3a < 410))
    else
      some false).bind fun s11j3 =>
    if s11j3 then
      (P.idx p0 s3a).bind fun x10 =>
      (r50_FewRow x10).bind fun r11 =>
      if (!r11) then
        some (.inr (.inr false))
      else
        some (.inl (IntKind.i64.wrap (s3a + 1)))
    else
      some (.inr (.inl ()))

def r50_Few (p0 : (List (List Int))) : Option (Bool) :=
  (loopL (r50_Few_L1 p0) 0).bind fun q => match q with
  | (.inl _) =>
    if decide ((p0.length : Int) ≤ 8) then
      some true
    else
      if decide ((p0.length : Int) > 400) then
        some (decide ((p0.length : Int) ≤ 402))
      else
        some false
  | (.inr ra) =>
    some ra

def l50_next_L1 (p1 : Int) : (Int × (List Int)) → Option ((Int × (List Int)) ⊕ (((List Int)) ⊕ ((List Int) × Bool)))
  | (s7a, l6a) =>
    if decide (s7a ≥ 0) then
      (P.idx l6a s7a).bind fun x10 =>
      if decide ((IntKind.i64.wrap (x10 + 1)) < (IntKind.i64.wrap (p1 - s7a))) then
        some (.inr (.inr ((l6a.set (s7a).toNat (IntKind.i64.wrap (x10 + 1))), true)))
      else
        some (.inl (IntKind.i64.wrap (s7a - 1), (l6a.set (s7a).toNat 0)))
    else
      some (.inr (.inl l6a))

def l50_next (p0 : (List Int)) (p1 : Int) : Option ((List Int) × Bool) :=
  (appL 8 [] p0).bind fun _ =>
  (loopL (l50_next_L1 p1) (IntKind.i64.wrap (((p0).length : Int) - 1), p0)).bind fun q => match q with
  | (.inl l6ax) =>
    some (l6ax, false)
  | (.inr ra) =>
    some ra

def l50_set_L1 (p0 : (List Int)) : (Int × Int) → Option ((Int × Int) ⊕ ((Int)))
  | (s3a, s4a) =>
    if decide (s4a < (p0.length : Int)) then
      (P.idx p0 s4a).bind fun x10 =>
      (if decide (x10 ≥ 0) then
        some (decide (x10 < 16))
      else
        some false).bind fun s22j3 =>
      if s22j3 then
        (shlI .i64 1 x10).bind fun x13 =>
        some (.inl (bitI .or .i64 s3a x13, IntKind.i64.wrap (s4a + 1)))
      else
        some (.inl (s3a, IntKind.i64.wrap (s4a + 1)))
    else
      some (.inr s3a)

def l50_set (p0 : (List Int)) : Option (Int) :=
  (loopL (l50_set_L1 p0) (0, 0)).bind fun s3ax =>
  some s3ax

def l50_sane : Option (Bool) :=
  (tape_Tape ([[3, 2], [4, 2]]) 5 2).bind fun r2 =>
  (tape_Draw ([2, 0, 2]) 5).bind fun r4 =>
  (tape_Find ([2, 0, 4]) 5).bind fun r6 =>
  (tape_Text ([3, 2])).bind fun r8 =>
  (vault_Leaf (TVault.mk ([])) r8 0 7).bind fun r10 =>
  (tape_Open r10.1 ([r10.2.1]) ([[3, 2]]) ([7]) 5 2).bind fun r12 =>
  (tape_Open r10.1 ([r10.2.1]) ([[4, 2]]) ([7]) 5 2).bind fun r14 =>
  (if (r2.2 != 0) then
    some true
  else
    if (r4.2 != 0) then
      some true
    else
      if (r6.2 != 0) then
        some true
      else
        if (r10.2.2 != 0) then
          some true
        else
          if (r12.2 != 0) then
            some true
          else
            some (r14.2 != 22)).bind fun s80j1 =>
  if s80j1 then
    some false
  else
    (r50_SameInts r2.1 ([2, 0])).bind fun r18 =>
    if r18 then
      (r50_SameInts r4.1 ([2, 0, 4])).bind fun r21 =>
      if r21 then
        (r50_SameInts r6.1 ([2, 0, 2])).bind fun r24 =>
        if r24 then
          (r50_SameInts r12.1 ([3, 2])).bind fun r27 =>
          if r27 then
            (tape_Right ([4, 4]) 5).bind fun r30 =>
            if (!r30) then
              (tape_Right ([4, 3]) 5).bind fun r33 =>
              some r33
            else
              some false
          else
            some false
        else
          some false
      else
        some false
    else
      some false

def l50_TapeTells (p0 : (List (List Int))) (p1 : (List Int)) (p2 : Int) (p3 : Int) (p4 : TVault) (p5 : (List Int)) (p6 : (List Int)) : Option (Bool) :=
  (l50_sane).bind fun r1 =>
  (r50_Few p0).bind fun r2 =>
  (if (!r2) then
    some true
  else
    (r50_FewRow p1).bind fun r33 =>
    if (!r33) then
      some true
    else
      (r35_Few p4 20).bind fun r35 =>
      if (!r35) then
        some true
      else
        if decide ((p5.length : Int) > 10) then
          some true
        else
          some (decide ((p6.length : Int) > 10))).bind fun s55j1 =>
  if s55j1 then
    some r1
  else
    (tape_Tape p0 p2 p3).bind fun r5 =>
    (r50_Tape p0 p2 p3).bind fun r6 =>
    (tape_Open p4 p5 p0 p6 p2 p3).bind fun r7 =>
    (r50_Open p4 p5 p0 p6 p2 p3).bind fun r8 =>
    (if (r5.2 != r6.2) then
      some true
    else
      if (r7.2 != r8.2) then
        some true
      else
        (r50_SameInts r5.1 r6.1).bind fun r23 =>
        if (!r23) then
          some true
        else
          (r50_SameInts r7.1 r8.1).bind fun r25 =>
          if (!r25) then
            some true
          else
            (tape_Right p1 p2).bind fun r27 =>
            (r50_Right p1 p2).bind fun r28 =>
            if (!(r27 == r28)) then
              some true
            else
              (tape_Text p1).bind fun r30 =>
              (r50_Text p1).bind fun r31 =>
              some (!(r30.toList == r31.toList))).bind fun s126j2 =>
    if s126j2 then
      some false
    else
      (tape_Draw p1 p2).bind fun r11 =>
      (r50_Draw p1 p2).bind fun r12 =>
      (tape_Find p1 p2).bind fun r13 =>
      (r50_Find p1 p2).bind fun r14 =>
      if r1 then
        if (r11.2 == r12.2) then
          if (r13.2 == r14.2) then
            (r50_SameInts r11.1 r12.1).bind fun r18 =>
            if r18 then
              (r50_SameInts r13.1 r14.1).bind fun r20 =>
              some r20
            else
              some false
          else
            some false
        else
          some false
      else
        some false

def l50_TapeFree_L4 (p1 : (List Int)) (p3 : Int) (r5 : (List Int) × Int) : (Int × (List Int)) → Option ((Int × (List Int)) ⊕ (((List Int))))
  | (s15d, l14d) =>
    if decide (s15d < (p1.length : Int)) then
      (P.idx p1 s15d).bind fun x19 =>
      (P.idx r5.1 s15d).bind fun x20 =>
      (modI .i64 (IntKind.i64.wrap ((IntKind.i64.wrap ((IntKind.i64.wrap (x19 - x20)) + p3)) - s15d)) (IntKind.i64.wrap (p3 - s15d))).bind fun x21 =>
      (appL 8 l14d [x21]).bind fun x23 =>
      some (.inl (IntKind.i64.wrap (s15d + 1), x23))
    else
      some (.inr l14d)

def l50_TapeFree (p0 : (List (List Int))) (p1 : (List Int)) (p2 : (List Int)) (p3 : Int) (p4 : Int) : Option (Bool) :=
  (l50_sane).bind fun r1 =>
  (r50_Few p0).bind fun r2 =>
  (if (!r2) then
    some true
  else
    (r50_FewRow p1).bind fun r64 =>
    if (!r64) then
      some true
    else
      (r50_FewRow p2).bind fun r66 =>
      if (!r66) then
        some true
      else
        if decide ((p0.length : Int) > 8) then
          some true
        else
          (tape_Right p1 p3).bind fun r69 =>
          some (!r69)).bind fun s44j1 =>
  if s44j1 then
    some r1
  else
    (tape_Tape p0 p3 (p1.length : Int)).bind fun r5 =>
    (if (r5.2 != 0) then
      some true
    else
      some ((r5.1.length : Int) != (p1.length : Int))).bind fun s62j2 =>
    if s62j2 then
      (if r1 then
        some (r5.2 == 1)
      else
        some false).bind fun s10j3 =>
      some s10j3
    else
      (loopL (l50_TapeFree_L4 p1 p3 r5) (0, [])).bind fun l14dx =>
      (modI .i64 (IntKind.i64.wrap p4) (IntKind.i64.wrap ((p0.length : Int) + 1))).bind fun x25 =>
      (slc p0 0 x25).bind fun x27 =>
      (appL 24 [] x27).bind fun _ =>
      (appL 24 x27 [l14dx]).bind fun x31 =>
      (slc p0 x25 (p0.length : Int)).bind fun x33 =>
      (appL 24 x31 x33).bind fun x35 =>
      (tape_Tape x35 p3 (p1.length : Int)).bind fun r37 =>
      (if (r37.2 != 0) then
        some true
      else
        (r50_SameInts r37.1 p1).bind fun r59 =>
        if (!r59) then
          some true
        else
          (tape_Right l14dx p3).bind fun r61 =>
          some (!r61)).bind fun s134j5 =>
      if s134j5 then
        some false
      else
        (tape_Right p2 p3).bind fun r40 =>
        (if (!r40) then
          some true
        else
          if ((p2.length : Int) != (p1.length : Int)) then
            some true
          else
            (r50_SameInts p2 l14dx).bind fun r57 =>
            some r57).bind fun s150j6 =>
        if s150j6 then
          some r1
        else
          (appL 24 [] x27).bind fun _ =>
          (appL 24 x27 [p2]).bind fun x46 =>
          (appL 24 x46 x33).bind fun x49 =>
          (tape_Tape x49 p3 (p1.length : Int)).bind fun r51 =>
          if r1 then
            if (r51.2 == 0) then
              (r50_SameInts r51.1 p1).bind fun r54 =>
              some (!r54)
            else
              some false
          else
            some false

def l50_TapeDraws_L7 (r4 : (List Int) × Int) (s10c : Int) (x27 : Int) : (Int) → Option ((Int) ⊕ ((Unit) ⊕ (Bool)))
  | s11g =>
    if decide (s11g < s10c) then
      (P.idx r4.1 s11g).bind fun x36 =>
      if (x36 == x27) then
        some (.inr (.inr false))
      else
        some (.inl (IntKind.i64.wrap (s11g + 1)))
    else
      some (.inr (.inl ()))

def l50_TapeDraws_L3 (p1 : Int) (r4 : (List Int) × Int) : (Int) → Option ((Int) ⊕ ((Unit) ⊕ (Bool)))
  | s10c =>
    if decide (s10c < (r4.1.length : Int)) then
      (P.idx r4.1 s10c).bind fun x27 =>
      (if decide (x27 < 0) then
        some true
      else
        some (decide (x27 ≥ p1))).bind fun s87j6 =>
      if s87j6 then
        some (.inr (.inr false))
      else
        (loopL (l50_TapeDraws_L7 r4 s10c x27) 0).bind fun q => match q with
        | (.inl _) =>
          some (.inl (IntKind.i64.wrap (s10c + 1)))
        | (.inr rg) =>
          some (.inr (.inr rg))
    else
      some (.inr (.inl ()))

def l50_TapeDraws (p0 : (List Int)) (p1 : Int) : Option (Bool) :=
  (l50_sane).bind fun r1 =>
  (r50_FewRow p0).bind fun r2 =>
  if (!r2) then
    some r1
  else
    (tape_Draw p0 p1).bind fun r4 =>
    (tape_Right p0 p1).bind fun r5 =>
    (if (!((r4.2 == 0) == r5)) then
      some true
    else
      if (r4.2 != 0) then
        if (r4.2 != 1) then
          some true
        else
          some (decide ((r4.1.length : Int) > 0))
      else
        some false).bind fun s45j1 =>
    if s45j1 then
      some false
    else
      if (r4.2 == 0) then
        (tape_Find r4.1 p1).bind fun r9 =>
        (if (r9.2 != 0) then
          some true
        else
          (r50_SameInts r9.1 p0).bind fun r50 =>
          if (!r50) then
            some true
          else
            some ((r4.1.length : Int) != (p0.length : Int))).bind fun s68j2 =>
        if s68j2 then
          some false
        else
          (loopL (l50_TapeDraws_L3 p1 r4) 0).bind fun q => match q with
          | (.inl _) =>
            (tape_Find p0 p1).bind fun r39 =>
            if (r39.2 != 0) then
              (if r1 then
                some ((r39.1.length : Int) == 0)
              else
                some false).bind fun s4j8 =>
              some s4j8
            else
              (tape_Draw r39.1 p1).bind fun r43 =>
              if r1 then
                if (r43.2 == 0) then
                  (r50_SameInts r43.1 p0).bind fun r46 =>
                  if r46 then
                    (tape_Right r39.1 p1).bind fun r48 =>
                    some r48
                  else
                    some false
                else
                  some false
              else
                some false
          | (.inr rc) =>
            some rc
      else
        (tape_Find p0 p1).bind fun r52 =>
        if (r52.2 != 0) then
          (if r1 then
            some ((r52.1.length : Int) == 0)
          else
            some false).bind fun s4j9 =>
          some s4j9
        else
          (tape_Draw r52.1 p1).bind fun r56 =>
          if r1 then
            if (r56.2 == 0) then
              (r50_SameInts r56.1 p0).bind fun r59 =>
              if r59 then
                (tape_Right r52.1 p1).bind fun r61 =>
                some r61
              else
                some false
            else
              some false
          else
            some false

def l50_TapeEqual_L1 (x2 : Int) (x4 : Int) : (Int × Int) → Option ((Int × Int) ⊕ ((Int)))
  | (s10a, s11a) =>
    if decide (s11a ≤ (if x4 < x2 then x4 else x2)) then
      some (.inl (IntKind.i64.wrap (s10a * s11a), IntKind.i64.wrap (s11a + 1)))
    else
      some (.inr s10a)

def l50_TapeEqual_L2 (x2 : Int) (x4 : Int) : ((List Int) × Bool × (List Int) × (List Int)) → Option (((List Int) × Bool × (List Int) × (List Int)) ⊕ (((List Int) × (List Int)) ⊕ (Bool)))
  | (s12b, s15b, l13b, l14b) =>
    if s15b then
      (tape_Draw s12b x2).bind fun r30 =>
      (if (r30.2 != 0) then
        some true
      else
        if ((r30.1.length : Int) != (if x4 < x2 then x4 else x2)) then
          some true
        else
          (l50_set r30.1).bind fun r43 =>
          some (decide (r43 ≥ 128))).bind fun s64j5 =>
      if s64j5 then
        some (.inr (.inr false))
      else
        (l50_set r30.1).bind fun r33 =>
        (P.idx l13b r33).bind fun x34 =>
        (if (x34 == 0) then
          (appL 8 l14b [r33]).bind fun x39 =>
          some x39
        else
          some l14b).bind fun l14j6 =>
        (l50_next s12b x2).bind fun r37 =>
        some (.inl (r37.1, r37.2, (l13b.set (r33).toNat (IntKind.i64.wrap (x34 + 1))), l14j6))
    else
      some (.inr (.inl (l13b, l14b)))

def l50_TapeEqual (p0 : Int) (p1 : Int) (p2 : Int) : Option (Bool) :=
  (l50_sane).bind fun r1 =>
  (modI .i64 (IntKind.i64.wrap p0) 8).bind fun x2 =>
  (modI .i64 (IntKind.i64.wrap p1) 4).bind fun x4 =>
  (loopL (l50_TapeEqual_L1 x2 x4) (1, 2)).bind fun s10ax =>
  (mkL 8 (if x4 < x2 then x4 else x2) (if x4 < x2 then x4 else x2) 0).bind fun x9 =>
  (mkL 8 128 128 0).bind fun x11 =>
  (loopL (l50_TapeEqual_L2 x2 x4) (x9, true, x11, [])).bind fun q => match q with
  | (.inl (l13bx, l14bx)) =>
    if r1 then
      if decide (((l14bx).length : Int) > 0) then
        (modI .i64 (IntKind.i64.wrap p2) ((l14bx).length : Int)).bind fun x46 =>
        (P.idx l14bx x46).bind fun x48 =>
        (P.idx l13bx x48).bind fun x49 =>
        some (x49 == s10ax)
      else
        some false
    else
      some false
  | (.inr rb) =>
    some rb

def l50_TapeOrder (p0 : (List (List Int))) (p1 : Int) (p2 : Int) (p3 : Int) : Option (Bool) :=
  (l50_sane).bind fun r1 =>
  (r50_Few p0).bind fun r2 =>
  (if (!r2) then
    some true
  else
    if ((p0.length : Int) == 0) then
      some true
    else
      some (decide ((p0.length : Int) > 8))).bind fun s32j1 =>
  if s32j1 then
    some r1
  else
    (modI .i64 (IntKind.i64.wrap p3) (p0.length : Int)).bind fun x5 =>
    (tape_Tape p0 p1 p2).bind fun r7 =>
    (slc p0 x5 (p0.length : Int)).bind fun x8 =>
    (appL 24 [] x8).bind fun _ =>
    (slc p0 0 x5).bind fun x12 =>
    (appL 24 x8 x12).bind fun x14 =>
    (tape_Tape x14 p1 p2).bind fun r16 =>
    (if (r7.2 != r16.2) then
      some true
    else
      (r50_SameInts r7.1 r16.1).bind fun r43 =>
      some (!r43)).bind fun s69j2 =>
    if s69j2 then
      some false
    else
      (if (r7.2 != 0) then
        some true
      else
        if decide (p2 < 0) then
          some true
        else
          some (decide (p2 > 100))).bind fun s79j3 =>
      if s79j3 then
        (if r1 then
          some (r7.2 == 1)
        else
          some false).bind fun s8j4 =>
        some s8j4
      else
        (appL 24 [] p0).bind fun _ =>
        (mkL 8 p2 p2 0).bind fun x25 =>
        (appL 24 p0 [x25]).bind fun x27 =>
        (tape_Tape x27 p1 p2).bind fun r29 =>
        (slc p0 x5 (IntKind.i64.wrap (x5 + 1))).bind fun x30 =>
        (tape_Tape x30 p1 p2).bind fun r32 =>
        if r1 then
          if (r29.2 == 0) then
            if (r32.2 == 0) then
              (r50_SameInts r7.1 r29.1).bind fun r36 =>
              if r36 then
                (P.idx p0 x5).bind fun x38 =>
                (r50_SameInts r32.1 x38).bind fun r39 =>
                some r39
              else
                some false
            else
              some false
          else
            some false
        else
          some false

def l50_TapeSeals_L2 (p0 : (List (List Int))) (p1 : (List Int)) (r1 : Bool) : (Int × (List TThing) × (List Int) × (List Int)) → Option ((Int × (List TThing) × (List Int) × (List Int)) ⊕ (((List TThing) × (List Int) × (List Int)) ⊕ (Bool)))
  | (s19b, r16_0b, l17b, l18b) =>
    if decide (s19b < (p0.length : Int)) then
      (P.idx p0 s19b).bind fun x19 =>
      (tape_Text x19).bind fun r20 =>
      (P.idx p1 s19b).bind fun x21 =>
      (vault_Leaf (TVault.mk r16_0b) r20 0 (IntKind.i64.wrap x21)).bind fun r22 =>
      if (r22.2.2 != 0) then
        (if r1 then
          some (r22.2.2 == 1)
        else
          some false).bind fun s14j4 =>
        some (.inr (.inr s14j4))
      else
        (appL 8 l17b [r22.2.1]).bind fun x26 =>
        (appL 8 l18b [IntKind.i64.wrap x21]).bind fun x28 =>
        some (.inl (IntKind.i64.wrap (s19b + 1), r22.1.f_Things, x26, x28))
    else
      some (.inr (.inl (r16_0b, l17b, l18b)))

def l50_TapeSeals (p0 : (List (List Int))) (p1 : (List Int)) (p2 : Int) (p3 : Int) (p4 : Int) (p5 : (List Int)) (p6 : Int) : Option (Bool) :=
  (l50_sane).bind fun r1 =>
  (r50_Few p0).bind fun r2 =>
  (if (!r2) then
    some true
  else
    (r50_FewRow p5).bind fun r58 =>
    if (!r58) then
      some true
    else
      if decide ((p0.length : Int) > 6) then
        some true
      else
        if ((p0.length : Int) == 0) then
          some true
        else
          some (decide ((p1.length : Int) < (p0.length : Int)))).bind fun s59j1 =>
  if s59j1 then
    some r1
  else
    (loopL (l50_TapeSeals_L2 p0 p1 r1) (0, [], [], [])).bind fun q => match q with
    | (.inl (r16_0bx, l17bx, l18bx)) =>
      (tape_Tape p0 p2 p3).bind fun r30 =>
      (tape_Open (TVault.mk r16_0bx) l17bx p0 l18bx p2 p3).bind fun r31 =>
      (if (r30.2 != r31.2) then
        some true
      else
        (r50_SameInts r30.1 r31.1).bind fun r56 =>
        some (!r56)).bind fun s131j5 =>
      if s131j5 then
        some false
      else
        if (r30.2 != 0) then
          some r1
        else
          (modI .i64 (IntKind.i64.wrap p4) (p0.length : Int)).bind fun x35 =>
          (appL 24 [] p0).bind fun _ =>
          (P.idx p0 x35).bind fun x39 =>
          (tape_Open (TVault.mk r16_0bx) l17bx (p0.set (x35).toNat p5) l18bx p2 p3).bind fun r42 =>
          (r50_SameInts p5 x39).bind fun r43 =>
          (if (!r43) then
            if (r42.2 == 0) then
              some true
            else
              some (decide ((r42.1.length : Int) > 0))
          else
            some false).bind fun s172j6 =>
          if s172j6 then
            some false
          else
            (appL 8 [] l18bx).bind fun _ =>
            (P.idx l18bx x35).bind fun x48 =>
            (tape_Open (TVault.mk r16_0bx) l17bx p0 (l18bx.set (x35).toNat p6) p2 p3).bind fun r51 =>
            if r1 then
              some ((r51.2 == 0) == (p6 == x48))
            else
              some false
    | (.inr rb) =>
      some rb
end Go.Proofs.YtdecgihkgpgejaaDoor.P
