/- The functions of the program as plain functions (written by wip/dec.py). -/
import Derived.Test.YtoclpeomlofcjaaCp
namespace Go.Proofs.Ytoclpeomlofcjaa.P
open Go.RowKit
set_option linter.unusedVariables false

structure TBig where
  f_Sign : Int
  f_Digits : (List Int)

structure TFrac where
  f_P : TBig
  f_Q : TBig

structure TTake where
  f_From : Int
  f_To : Int
  f_Part : TFrac

structure TNet where
  f_Ports : Int
  f_Takes : (List TTake)

structure Tterm where
  f_port : Int
  f_part : TFrac

structure Tequation where
  f_direct : TFrac
  f_terms : (List Tterm)

def cst0 : ByteArray := ByteArray.mk #[0, 1, 2, 2, 3, 3, 3, 3, 4, 4, 4, 4, 4, 4, 4, 4, 5, 5, 5, 5, 5, 5, 5, 5, 5, 5, 5, 5, 5, 5, 5, 5, 6, 6, 6, 6, 6, 6, 6, 6, 6, 6, 6, 6, 6, 6, 6, 6, 6, 6, 6, 6, 6, 6, 6, 6, 6, 6, 6, 6, 6, 6, 6, 6, 7, 7, 7, 7, 7, 7, 7, 7, 7, 7, 7, 7, 7, 7, 7, 7, 7, 7, 7, 7, 7, 7, 7, 7, 7, 7, 7, 7, 7, 7, 7, 7, 7, 7, 7, 7, 7, 7, 7, 7, 7, 7, 7, 7, 7, 7, 7, 7, 7, 7, 7, 7, 7, 7, 7, 7, 7, 7, 7, 7, 7, 7, 7, 7, 8, 8, 8, 8, 8, 8, 8, 8, 8, 8, 8, 8, 8, 8, 8, 8, 8, 8, 8, 8, 8, 8, 8, 8, 8, 8, 8, 8, 8, 8, 8, 8, 8, 8, 8, 8, 8, 8, 8, 8, 8, 8, 8, 8, 8, 8, 8, 8, 8, 8, 8, 8, 8, 8, 8, 8, 8, 8, 8, 8, 8, 8, 8, 8, 8, 8, 8, 8, 8, 8, 8, 8, 8, 8, 8, 8, 8, 8, 8, 8, 8, 8, 8, 8, 8, 8, 8, 8, 8, 8, 8, 8, 8, 8, 8, 8, 8, 8, 8, 8, 8, 8, 8, 8, 8, 8, 8, 8, 8, 8, 8, 8, 8, 8, 8, 8, 8, 8, 8, 8, 8, 8, 8, 8, 8, 8, 8, 8]

def cst1 : ByteArray := ByteArray.mk #[0, 1, 1, 2, 1, 2, 2, 3, 1, 2, 2, 3, 2, 3, 3, 4, 1, 2, 2, 3, 2, 3, 3, 4, 2, 3, 3, 4, 3, 4, 4, 5, 1, 2, 2, 3, 2, 3, 3, 4, 2, 3, 3, 4, 3, 4, 4, 5, 2, 3, 3, 4, 3, 4, 4, 5, 3, 4, 4, 5, 4, 5, 5, 6, 1, 2, 2, 3, 2, 3, 3, 4, 2, 3, 3, 4, 3, 4, 4, 5, 2, 3, 3, 4, 3, 4, 4, 5, 3, 4, 4, 5, 4, 5, 5, 6, 2, 3, 3, 4, 3, 4, 4, 5, 3, 4, 4, 5, 4, 5, 5, 6, 3, 4, 4, 5, 4, 5, 5, 6, 4, 5, 5, 6, 5, 6, 6, 7, 1, 2, 2, 3, 2, 3, 3, 4, 2, 3, 3, 4, 3, 4, 4, 5, 2, 3, 3, 4, 3, 4, 4, 5, 3, 4, 4, 5, 4, 5, 5, 6, 2, 3, 3, 4, 3, 4, 4, 5, 3, 4, 4, 5, 4, 5, 5, 6, 3, 4, 4, 5, 4, 5, 5, 6, 4, 5, 5, 6, 5, 6, 6, 7, 2, 3, 3, 4, 3, 4, 4, 5, 3, 4, 4, 5, 4, 5, 5, 6, 3, 4, 4, 5, 4, 5, 5, 6, 4, 5, 5, 6, 5, 6, 6, 7, 3, 4, 4, 5, 4, 5, 5, 6, 4, 5, 5, 6, 5, 6, 6, 7, 4, 5, 5, 6, 5, 6, 6, 7, 5, 6, 6, 7, 6, 7, 7, 8]

def r04_trim_L1 (p0 : (List Int)) : (Int) → Option ((Int) ⊕ ((Int)))
  | s3a =>
    if decide (s3a > 0) then
      (P.idx p0 (IntKind.i64.wrap (s3a - 1))).bind fun x6 =>
      if (x6 == 0) then
        some (.inl (IntKind.i64.wrap (s3a - 1)))
      else
        some (.inr s3a)
    else
      some (.inr s3a)

def r04_trim (p0 : (List Int)) : Option ((List Int)) :=
  (loopL (r04_trim_L1 p0) (p0.length : Int)).bind fun s3ax =>
  (slc p0 0 s3ax).bind fun x8 =>
  (appL 8 [] x8).bind fun _ =>
  some x8

def r04_made (p0 : Int) (p1 : (List Int)) : Option (TBig) :=
  (r04_trim p1).bind fun r1 =>
  if ((r1.length : Int) == 0) then
    some (TBig.mk 0 ([]))
  else
    some (TBig.mk p0 r1)

def r04_Of_L2 : (Int × (List Int)) → Option ((Int × (List Int)) ⊕ (((List Int))))
  | (s0b, l4b) =>
    if (s0b != 0) then
      (modI .i64 s0b 1048576).bind fun x17 =>
      if decide (x17 < 0) then
        (appL 8 l4b [IntKind.i64.wrap (0 - x17)]).bind fun x20 =>
        (divI .i64 s0b 1048576).bind fun x22 =>
        some (.inl (x22, x20))
      else
        (appL 8 l4b [x17]).bind fun x24 =>
        (divI .i64 s0b 1048576).bind fun x26 =>
        some (.inl (x26, x24))
    else
      some (.inr l4b)

def r04_Of (p0 : Int) : Option (TBig) :=
  if (p0 == 0) then
    some (TBig.mk 0 ([]))
  else
    (if decide (p0 < 0) then
      some (-1)
    else
      some 1).bind fun s3j1 =>
    (loopL (r04_Of_L2) (p0, [])).bind fun l4bx =>
    (r04_made s3j1 l4bx).bind fun r28 =>
    some r28

def r04_Right_L1 (p0 : TBig) : (Int) → Option ((Int) ⊕ ((Unit) ⊕ (Bool)))
  | s3a =>
    if decide (s3a < (p0.f_Digits.length : Int)) then
      (P.idx p0.f_Digits s3a).bind fun x7 =>
      if decide (x7 < 0) then
        some (.inr (.inr false))
      else
        if decide (x7 ≥ 1048576) then
          some (.inr (.inr false))
        else
          some (.inl (IntKind.i64.wrap (s3a + 1)))
    else
      some (.inr (.inl ()))

def r04_Right (p0 : TBig) : Option (Bool) :=
  (loopL (r04_Right_L1 p0) 0).bind fun q => match q with
  | (.inl _) =>
    (if decide (p0.f_Sign < (-1)) then
      some true
    else
      if decide (p0.f_Sign > 1) then
        some true
      else
        some (!(((p0.f_Digits.length : Int) == 0) == (p0.f_Sign == 0)))).bind fun s44j2 =>
    if s44j2 then
      some false
    else
      if ((p0.f_Digits.length : Int) == 0) then
        some true
      else
        (P.idx p0.f_Digits (IntKind.i64.wrap ((p0.f_Digits.length : Int) - 1))).bind fun x13 =>
        some (x13 != 0)
  | (.inr ra) =>
    some ra

def r04_Neg (p0 : TBig) : Option (TBig) :=
  (r04_Right p0).bind fun r1 =>
  if (!r1) then
    some (TBig.mk 0 ([]))
  else
    (r04_made (IntKind.i64.wrap (0 - p0.f_Sign)) p0.f_Digits).bind fun r3 =>
    some r3

def r04_digit (p0 : (List Int)) (p1 : Int) : Option (Int) :=
  if decide (p1 < (p0.length : Int)) then
    (P.idx p0 p1).bind fun x2 =>
    some x2
  else
    some 0

def r04_times_L5 (p0 : (List Int)) (p1 : (List Int)) (s6a : Int) : (Int × Int × (List Int)) → Option ((Int × Int × (List Int)) ⊕ (((List Int))))
  | (s7e, s8e, l5e) =>
    (if decide (s8e < (p1.length : Int)) then
      some true
    else
      some (decide (s7e > 0))).bind fun s29j7 =>
    if s29j7 then
      (P.idx l5e (IntKind.i64.wrap (s6a + s8e))).bind fun x43 =>
      (P.idx p0 s6a).bind fun x44 =>
      (r04_digit p1 s8e).bind fun r45 =>
      (modI .i64 (IntKind.i64.wrap ((IntKind.i64.wrap (x43 + (IntKind.i64.wrap (x44 * r45)))) + s7e)) 1048576).bind fun x46 =>
      (divI .i64 (IntKind.i64.wrap ((IntKind.i64.wrap (x43 + (IntKind.i64.wrap (x44 * r45)))) + s7e)) 1048576).bind fun x49 =>
      some (.inl (x49, IntKind.i64.wrap (s8e + 1), (l5e.set (IntKind.i64.wrap (s6a + s8e)).toNat x46)))
    else
      some (.inr l5e)

def r04_times_L1 (p0 : (List Int)) (p1 : (List Int)) : (Int × (List Int)) → Option ((Int × (List Int)) ⊕ (((List Int))))
  | (s6a, l5a) =>
    if decide (s6a < (p0.length : Int)) then
      (loopL (r04_times_L5 p0 p1 s6a) (0, 0, l5a)).bind fun l5ex =>
      some (.inl (IntKind.i64.wrap (s6a + 1), l5ex))
    else
      some (.inr l5a)

def r04_times (p0 : (List Int)) (p1 : (List Int)) : Option ((List Int)) :=
  (mkL 8 (IntKind.i64.wrap ((p0.length : Int) + (p1.length : Int))) (IntKind.i64.wrap ((p0.length : Int) + (p1.length : Int))) 0).bind fun x1 =>
  (loopL (r04_times_L1 p0 p1) (0, x1)).bind fun l5ax =>
  (r04_trim l5ax).bind fun r52 =>
  some r52

def r04_less_L1 (p0 : (List Int)) (p1 : (List Int)) : (Int) → Option ((Int) ⊕ ((Unit) ⊕ (Bool)))
  | s5a =>
    if decide (s5a ≥ 0) then
      (r04_digit p0 s5a).bind fun r7 =>
      (r04_digit p1 s5a).bind fun r8 =>
      if (r7 != r8) then
        some (.inr (.inr (decide (r7 < r8))))
      else
        some (.inl (IntKind.i64.wrap (s5a - 1)))
    else
      some (.inr (.inl ()))

def r04_less (p0 : (List Int)) (p1 : (List Int)) : Option (Bool) :=
  (loopL (r04_less_L1 p0 p1) (IntKind.i64.wrap ((if (p1.length : Int) > (p0.length : Int) then (p1.length : Int) else (p0.length : Int)) - 1))).bind fun q => match q with
  | (.inl _) =>
    some false
  | (.inr ra) =>
    some ra

def r04_minus_L1 (p0 : (List Int)) (p1 : (List Int)) : (Int × Int × (List Int)) → Option ((Int × Int × (List Int)) ⊕ (((List Int))))
  | (s6a, s7a, l5a) =>
    if decide (s7a < (p0.length : Int)) then
      (P.idx p0 s7a).bind fun x11 =>
      (r04_digit p1 s7a).bind fun r12 =>
      if decide ((IntKind.i64.wrap ((IntKind.i64.wrap (x11 - r12)) - s6a)) < 0) then
        (appL 8 l5a [IntKind.i64.wrap ((IntKind.i64.wrap ((IntKind.i64.wrap (x11 - r12)) - s6a)) + 1048576)]).bind fun x14 =>
        some (.inl (1, IntKind.i64.wrap (s7a + 1), x14))
      else
        (appL 8 l5a [IntKind.i64.wrap ((IntKind.i64.wrap (x11 - r12)) - s6a)]).bind fun x16 =>
        some (.inl (0, IntKind.i64.wrap (s7a + 1), x16))
    else
      some (.inr l5a)

def r04_minus (p0 : (List Int)) (p1 : (List Int)) : Option ((List Int)) :=
  (loopL (r04_minus_L1 p0 p1) (0, 0, [])).bind fun l5ax =>
  (r04_trim l5ax).bind fun r18 =>
  some r18

def r04_over_L3 (p1 : (List Int)) (r34 : (List Int)) : (Int × Int) → Option ((Int × Int) ⊕ ((Int)))
  | (s9c, s10c) =>
    if decide ((IntKind.i64.wrap (s10c - s9c)) > 1) then
      (divI .i64 (IntKind.i64.wrap (s9c + s10c)) 2).bind fun x44 =>
      (r04_times p1 ([x44])).bind fun r47 =>
      (r04_less r34 r47).bind fun r48 =>
      if r48 then
        some (.inl (s9c, x44))
      else
        some (.inl (x44, s10c))
    else
      some (.inr s9c)

def r04_over_L1 (p0 : (List Int)) (p1 : (List Int)) : ((List Int) × Int × (List Int)) → Option (((List Int) × Int × (List Int)) ⊕ (((List Int) × (List Int))))
  | (s7a, s8a, l6a) =>
    if decide (s8a ≥ 0) then
      (P.idx p0 s8a).bind fun x31 =>
      (appL 8 [x31] s7a).bind fun x32 =>
      (r04_trim x32).bind fun r34 =>
      (loopL (r04_over_L3 p1 r34) (0, 1048576)).bind fun s9cx =>
      (P.idx l6a s8a).bind fun x50 =>
      (r04_trim ([s9cx])).bind fun r53 =>
      (r04_times p1 r53).bind fun r54 =>
      (r04_minus r34 r54).bind fun r55 =>
      some (.inl (r55, IntKind.i64.wrap (s8a - 1), (l6a.set (s8a).toNat s9cx)))
    else
      some (.inr (s7a, l6a))

def r04_over (p0 : (List Int)) (p1 : (List Int)) : Option ((List Int) × (List Int)) :=
  (mkL 8 (p0.length : Int) (p0.length : Int) 0).bind fun x1 =>
  (loopL (r04_over_L1 p0 p1) ([], IntKind.i64.wrap ((p0.length : Int) - 1), x1)).bind fun q => match q with
  | (s7ax, l6ax) =>
    (r04_trim l6ax).bind fun r56 =>
    some (r56, s7ax)

def r04_Gcd_L2 : ((List Int) × (List Int)) → Option (((List Int) × (List Int)) ⊕ (((List Int))))
  | (s6b, s7b) =>
    if decide ((s7b.length : Int) > 0) then
      (r04_over s6b s7b).bind fun r8 =>
      some (.inl (s7b, r8.2))
    else
      some (.inr s6b)

def r04_Gcd (p0 : TBig) (p1 : TBig) : Option (TBig × Int) :=
  (r04_Right p0).bind fun r1 =>
  (if (!r1) then
    some true
  else
    (r04_Right p1).bind fun r11 =>
    some (!r11)).bind fun s17j1 =>
  if s17j1 then
    some ((TBig.mk 0 ([])), 1)
  else
    (loopL (r04_Gcd_L2) (p0.f_Digits, p1.f_Digits)).bind fun s6bx =>
    (r04_made 1 s6bx).bind fun r9 =>
    some (r9, 0)

def r04_plus_L1 (p0 : (List Int)) (p1 : (List Int)) : (Int × Int × (List Int)) → Option ((Int × Int × (List Int)) ⊕ (((List Int))))
  | (s6a, s7a, l5a) =>
    (if decide (s7a < (p0.length : Int)) then
      some true
    else
      if decide (s7a < (p1.length : Int)) then
        some true
      else
        some (decide (s6a > 0))).bind fun s22j3 =>
    if s22j3 then
      (r04_digit p0 s7a).bind fun r16 =>
      (r04_digit p1 s7a).bind fun r17 =>
      (modI .i64 (IntKind.i64.wrap ((IntKind.i64.wrap (r16 + r17)) + s6a)) 1048576).bind fun x18 =>
      (appL 8 l5a [x18]).bind fun x20 =>
      (divI .i64 (IntKind.i64.wrap ((IntKind.i64.wrap (r16 + r17)) + s6a)) 1048576).bind fun x22 =>
      some (.inl (x22, IntKind.i64.wrap (s7a + 1), x20))
    else
      some (.inr l5a)

def r04_plus (p0 : (List Int)) (p1 : (List Int)) : Option ((List Int)) :=
  (loopL (r04_plus_L1 p0 p1) (0, 0, [])).bind fun l5ax =>
  (r04_trim l5ax).bind fun r26 =>
  some r26

def r04_Div (p0 : TBig) (p1 : TBig) : Option (TBig × TBig × Int) :=
  (r04_Right p0).bind fun r1 =>
  (if (!r1) then
    some true
  else
    (r04_Right p1).bind fun r17 =>
    some (!r17)).bind fun s16j1 =>
  if s16j1 then
    some ((TBig.mk 0 ([])), (TBig.mk 0 ([])), 1)
  else
    if (p1.f_Sign == 0) then
      some ((TBig.mk 0 ([])), (TBig.mk 0 ([])), 15)
    else
      (r04_over p0.f_Digits p1.f_Digits).bind fun r5 =>
      (if decide ((IntKind.i64.wrap (p0.f_Sign * p1.f_Sign)) ≥ 0) then
        some true
      else
        some ((r5.2.length : Int) == 0)).bind fun s42j2 =>
      if s42j2 then
        (r04_made (IntKind.i64.wrap (p0.f_Sign * p1.f_Sign)) r5.1).bind fun r8 =>
        (r04_made p0.f_Sign r5.2).bind fun r9 =>
        some (r8, r9, 0)
      else
        (r04_plus r5.1 ([1])).bind fun r11 =>
        (r04_made (-1) r11).bind fun r12 =>
        (r04_minus p1.f_Digits r5.2).bind fun r13 =>
        (r04_made p1.f_Sign r13).bind fun r14 =>
        some (r12, r14, 0)

def r05_New (p0 : TBig) (p1 : TBig) : Option (TFrac × Int) :=
  (r04_Right p0).bind fun r1 =>
  (if (!r1) then
    some true
  else
    (r04_Right p1).bind fun r13 =>
    some (!r13)).bind fun s21j1 =>
  if s21j1 then
    some ((TFrac.mk (TBig.mk 0 ([])) (TBig.mk 0 ([]))), 1)
  else
    if (p1.f_Sign == 0) then
      some ((TFrac.mk (TBig.mk 0 ([])) (TBig.mk 0 ([]))), 15)
    else
      (if decide (p1.f_Sign < 0) then
        (r04_Neg p0).bind fun r10 =>
        (r04_Neg p1).bind fun r11 =>
        some (r10.f_Sign, r10.f_Digits, r11.f_Sign, r11.f_Digits)
      else
        some (p0.f_Sign, p0.f_Digits, p1.f_Sign, p1.f_Digits)).bind fun q => match q with
      | (r2_0j2, r2_1j2, r3_0j2, r3_1j2) =>
        (r04_Gcd (TBig.mk r2_0j2 r2_1j2) (TBig.mk r3_0j2 r3_1j2)).bind fun r6 =>
        (r04_Div (TBig.mk r2_0j2 r2_1j2) r6.1).bind fun r7 =>
        (r04_Div (TBig.mk r3_0j2 r3_1j2) r6.1).bind fun r8 =>
        some ((TFrac.mk r7.1 r8.1), 0)

def r05_Of (p0 : Int) (p1 : Int) : Option (TFrac × Int) :=
  (r04_Of p0).bind fun r1 =>
  (r04_Of p1).bind fun r2 =>
  (r05_New r1 r2).bind fun r3 =>
  some (r3.1, r3.2)

def r05_Int (p0 : Int) : Option (TFrac) :=
  (r05_Of p0 1).bind fun r1 =>
  some r1.1

def l44_ints_L1 (p0 : (List Int)) : (Int × (List TFrac)) → Option ((Int × (List TFrac)) ⊕ (((List TFrac))))
  | (s4a, l3a) =>
    if decide (s4a < (p0.length : Int)) then
      (P.idx p0 s4a).bind fun x8 =>
      (r05_Int x8).bind fun r9 =>
      (appL 64 l3a [r9]).bind fun x10 =>
      some (.inl (IntKind.i64.wrap (s4a + 1), x10))
    else
      some (.inr l3a)

def l44_ints (p0 : (List Int)) : Option ((List TFrac)) :=
  (loopL (l44_ints_L1 p0) (0, [])).bind fun l3ax =>
  some l3ax

def math_bits_Len32 (p0 : Int) : Option (Int) :=
  (if decide (p0 ≥ 65536) then
    (shrI .u32 p0 16).bind fun x10 =>
    some (x10, 16)
  else
    some (p0, 0)).bind fun q => match q with
  | (s0j1, s2j1) =>
    if decide (s0j1 ≥ 256) then
      (shrI .u32 s0j1 8).bind fun x3 =>
      (P.sidx cst0 (IntKind.u8.wrap x3)).bind fun x5 =>
      some (IntKind.i64.wrap ((IntKind.i64.wrap (s2j1 + 8)) + (IntKind.i64.wrap x5)))
    else
      (P.sidx cst0 (IntKind.u8.wrap s0j1)).bind fun x7 =>
      some (IntKind.i64.wrap (s2j1 + (IntKind.i64.wrap x7)))

def math_bits_Len64 (p0 : Int) : Option (Int) :=
  (if decide (p0 ≥ 4294967296) then
    (shrI .u64 p0 32).bind fun x14 =>
    some (x14, 32)
  else
    some (p0, 0)).bind fun q => match q with
  | (s0j1, s2j1) =>
    (if decide (s0j1 ≥ 65536) then
      (shrI .u64 s0j1 16).bind fun x11 =>
      some (x11, IntKind.i64.wrap (s2j1 + 16))
    else
      some (s0j1, s2j1)).bind fun q => match q with
    | (s0j2, s2j2) =>
      if decide (s0j2 ≥ 256) then
        (shrI .u64 s0j2 8).bind fun x4 =>
        (P.sidx cst0 (IntKind.u8.wrap x4)).bind fun x6 =>
        some (IntKind.i64.wrap ((IntKind.i64.wrap (s2j2 + 8)) + (IntKind.i64.wrap x6)))
      else
        (P.sidx cst0 (IntKind.u8.wrap s0j2)).bind fun x8 =>
        some (IntKind.i64.wrap (s2j2 + (IntKind.i64.wrap x8)))

def math_bits_Len (p0 : Int) : Option (Int) :=
  (math_bits_Len64 p0).bind fun r1 =>
  some r1

def big_Right_L1 (p0 : TBig) : (Int) → Option ((Int) ⊕ ((Unit) ⊕ (Bool)))
  | s12a =>
    if decide (s12a < (p0.f_Digits.length : Int)) then
      (P.idx p0.f_Digits s12a).bind fun x7 =>
      if decide (x7 < 0) then
        some (.inr (.inr false))
      else
        if decide (x7 > 1048575) then
          some (.inr (.inr false))
        else
          some (.inl (IntKind.i64.wrap (s12a + 1)))
    else
      some (.inr (.inl ()))

def big_Right (p0 : TBig) : Option (Bool) :=
  (loopL (big_Right_L1 p0) 0).bind fun q => match q with
  | (.inl _) =>
    if ((p0.f_Digits.length : Int) == 0) then
      some (p0.f_Sign == 0)
    else
      if (p0.f_Sign == 1) then
        (P.idx p0.f_Digits (IntKind.i64.wrap ((p0.f_Digits.length : Int) - 1))).bind fun x12 =>
        some (x12 != 0)
      else
        if (p0.f_Sign == (-1)) then
          (P.idx p0.f_Digits (IntKind.i64.wrap ((p0.f_Digits.length : Int) - 1))).bind fun x14 =>
          some (x14 != 0)
        else
          some false
  | (.inr ra) =>
    some ra

def big_checked (p0 : Bool) (p1 : TBig) : Option (TBig × Int) :=
  if (!p0) then
    some ((TBig.mk 0 ([])), 1)
  else
    some (p1, 0)

def slices_Clone (p0 : (List Int)) : Option (List Int) := appL 8 [] p0

def cmp_isNaN (p0 : Int) : Option (Bool) :=
  some (p0 != p0)

def cmp_Compare (p0 : Int) (p1 : Int) : Option (Int) :=
  (cmp_isNaN p0).bind fun r1 =>
  (cmp_isNaN p1).bind fun r2 =>
  if r1 then
    if r2 then
      some 0
    else
      some (-1)
  else
    if r2 then
      some 1
    else
      if decide (p0 < p1) then
        some (-1)
      else
        if decide (p0 > p1) then
          some 1
        else
          some 0

def big_compare_L1 (p0 : (List Int)) (p1 : (List Int)) : (Int) → Option ((Int) ⊕ ((Unit) ⊕ (Int)))
  | s5a =>
    if decide (s5a ≥ 0) then
      (P.idx p0 s5a).bind fun x10 =>
      (P.idx p1 s5a).bind fun x11 =>
      if (x10 != x11) then
        (cmp_Compare x10 x11).bind fun r13 =>
        some (.inr (.inr r13))
      else
        some (.inl (IntKind.i64.wrap (s5a - 1)))
    else
      some (.inr (.inl ()))

def big_compare (p0 : (List Int)) (p1 : (List Int)) : Option (Int) :=
  if ((p0.length : Int) != (p1.length : Int)) then
    (cmp_Compare (p0.length : Int) (p1.length : Int)).bind fun r2 =>
    some r2
  else
    (loopL (big_compare_L1 p0 p1) (IntKind.i64.wrap ((p0.length : Int) - 1))).bind fun q => match q with
    | (.inl _) =>
      some 0
    | (.inr ra) =>
      some ra

def big_trim_L1 (p0 : (List Int)) : (Int) → Option ((Int) ⊕ ((Int)))
  | s3a =>
    if decide (s3a > 0) then
      (P.idx p0 (IntKind.i64.wrap (s3a - 1))).bind fun x6 =>
      if (x6 == 0) then
        some (.inl (IntKind.i64.wrap (s3a - 1)))
      else
        some (.inr s3a)
    else
      some (.inr s3a)

def big_trim (p0 : (List Int)) : Option ((List Int)) :=
  (loopL (big_trim_L1 p0) (p0.length : Int)).bind fun s3ax =>
  (slc p0 0 s3ax).bind fun x8 =>
  some x8

def big_short_L1 (p0 : (List Int)) (p1 : Int) : (Int × Int × (List Int)) → Option ((Int × Int × (List Int)) ⊕ ((Int × (List Int))))
  | (s7a, s8a, l6a) =>
    if decide (s8a ≥ 0) then
      (shlI .i64 s7a 20).bind fun x15 =>
      (P.idx p0 s8a).bind fun x17 =>
      (divI .i64 (bitI .or .i64 x15 x17) p1).bind fun x18 =>
      (P.idx l6a s8a).bind fun x20 =>
      (modI .i64 (bitI .or .i64 x15 x17) p1).bind fun x22 =>
      some (.inl (x22, IntKind.i64.wrap (s8a - 1), (l6a.set (s8a).toNat x18)))
    else
      some (.inr (s7a, l6a))

def big_short (p0 : (List Int)) (p1 : Int) : Option ((List Int) × Int) :=
  (mkL 8 (p0.length : Int) (p0.length : Int) 0).bind fun x1 =>
  (loopL (big_short_L1 p0 p1) (0, IntKind.i64.wrap ((p0.length : Int) - 1), x1)).bind fun q => match q with
  | (s7ax, l6ax) =>
    (big_trim l6ax).bind fun r24 =>
    some (r24, s7ax)

def big_mul_L3 (p1 : (List Int)) (s20a : Int) (x22 : Int) : (Int × Int × (List Int)) → Option ((Int × Int × (List Int)) ⊕ ((Int × (List Int))))
  | (s8c, s27c, l5c) =>
    if decide (s27c < (p1.length : Int)) then
      (P.idx p1 s27c).bind fun x31 =>
      (P.idx l5c (IntKind.i64.wrap (s20a + s27c))).bind fun x32 =>
      (shrI .i64 (IntKind.i64.wrap ((IntKind.i64.wrap (x32 + (IntKind.i64.wrap (x22 * x31)))) + s8c)) 20).bind fun x33 =>
      some (.inl (x33, IntKind.i64.wrap (s27c + 1), (l5c.set (IntKind.i64.wrap (s20a + s27c)).toNat (bitI .and .i64 (IntKind.i64.wrap ((IntKind.i64.wrap (x32 + (IntKind.i64.wrap (x22 * x31)))) + s8c)) 1048575))))
    else
      some (.inr (s8c, l5c))

def big_mul_L1 (p0 : (List Int)) (p1 : (List Int)) : (Int × (List Int)) → Option ((Int × (List Int)) ⊕ (((List Int))))
  | (s20a, l5a) =>
    if decide (s20a < (p0.length : Int)) then
      (P.idx p0 s20a).bind fun x22 =>
      (loopL (big_mul_L3 p1 s20a x22) (0, 0, l5a)).bind fun q => match q with
      | (s8cx, l5cx) =>
        (P.idx l5cx (IntKind.i64.wrap (s20a + (p1.length : Int)))).bind fun x36 =>
        some (.inl (IntKind.i64.wrap (s20a + 1), (l5cx.set (IntKind.i64.wrap (s20a + (p1.length : Int))).toNat (IntKind.i64.wrap (x36 + s8cx)))))
    else
      some (.inr l5a)

def big_mul (p0 : (List Int)) (p1 : (List Int)) : Option ((List Int)) :=
  (mkL 8 (IntKind.i64.wrap ((p0.length : Int) + (p1.length : Int))) (IntKind.i64.wrap ((p0.length : Int) + (p1.length : Int))) 0).bind fun x1 =>
  (loopL (big_mul_L1 p0 p1) (0, x1)).bind fun l5ax =>
  (big_trim l5ax).bind fun r39 =>
  some r39

def big_settle_w_L1 (p0 : (List Int)) (p1 : (List Int)) (p2 : Int) : (Int × Int × (List Int)) → Option ((Int × Int × (List Int)) ⊕ ((Int × (List Int))))
  | (s7a, s14a, l0a) =>
    if decide (s14a < ((p0).length : Int)) then
      (P.idx l0a s14a).bind fun x11 =>
      (if decide (s14a < (p1.length : Int)) then
        (P.idx p1 s14a).bind fun x17 =>
        some (IntKind.i64.wrap ((IntKind.i64.wrap (x11 - s7a)) - (IntKind.i64.wrap (p2 * x17))))
      else
        some (IntKind.i64.wrap (x11 - s7a))).bind fun s9j3 =>
      (shrI .i64 s9j3 20).bind fun x14 =>
      some (.inl (IntKind.i64.wrap (0 - x14), IntKind.i64.wrap (s14a + 1), (l0a.set (s14a).toNat (bitI .and .i64 s9j3 1048575))))
    else
      some (.inr (s7a, l0a))

def big_settle_w_L4 (p1 : (List Int)) (l0ax : (List Int)) : (Int × Int × (List Int)) → Option ((Int × Int × (List Int)) ⊕ (((List Int))))
  | (s10d, s49d, l0d) =>
    if decide (s49d < ((l0ax).length : Int)) then
      (P.idx l0d s49d).bind fun x29 =>
      (if decide (s49d < (p1.length : Int)) then
        (P.idx p1 s49d).bind fun x35 =>
        some (IntKind.i64.wrap ((IntKind.i64.wrap (s10d + x29)) + x35))
      else
        some (IntKind.i64.wrap (s10d + x29))).bind fun s10j6 =>
      (shrI .i64 s10j6 20).bind fun x32 =>
      some (.inl (x32, IntKind.i64.wrap (s49d + 1), (l0d.set (s49d).toNat (bitI .and .i64 s10j6 1048575))))
    else
      some (.inr l0d)

def big_settle_w_B (p0 : (List Int)) (p1 : (List Int)) (p2 : Int) : Option ((List Int) × (Int)) :=
  (loopL (big_settle_w_L1 p0 p1 p2) (0, 0, p0)).bind fun q => match q with
  | (s7ax, l0ax) =>
    if (s7ax == 0) then
      some (l0ax, p2)
    else
      (loopL (big_settle_w_L4 p1 l0ax) (0, 0, l0ax)).bind fun l0dx =>
      some (l0dx, IntKind.i64.wrap (p2 - 1))

def big_settle_w (p0 : (List Int)) (p1 : (List Int)) (p2 : Int) : Option ((List Int) × (Int)) := (big_settle_w_B p0 p1 p2).bind fun r => if r.1.length = p0.length then some r else none

theorem len_big_settle_w {p0 : (List Int)} {p1 : (List Int)} {p2 : Int} {r : (List Int) × (Int)} (h : big_settle_w p0 p1 p2 = some r) : r.1.length = p0.length := by
  unfold big_settle_w at h
  obtain ⟨q, hq, h⟩ := bindS h
  split at h
  · cases h; assumption
  · cases h

def big_div_L1 (p1 : (List Int)) : (Int) → Option ((Int) ⊕ ((Int)))
  | s8a =>
    (P.idx p1 (IntKind.i64.wrap ((p1.length : Int) - 1))).bind fun x12 =>
    if decide ((IntKind.i64.wrap (x12 * s8a)) < 524288) then
      some (.inl (IntKind.i64.wrap (s8a * 2)))
    else
      some (.inr s8a)

def big_div_L7 (r19 : (List Int)) (s13c : Int) (l9c : (List Int)) (x64 : Int) : (Int × Int) → Option ((Int × Int) ⊕ ((Int)))
  | (s15g, s16g) =>
    (if decide (s15g ≥ 1048576) then
      some true
    else
      if decide (s16g < 1048576) then
        (P.idx r19 (IntKind.i64.wrap (((r19).length : Int) - 2))).bind fun x83 =>
        (shlI .i64 s16g 20).bind fun x84 =>
        (P.idx l9c (IntKind.i64.wrap ((IntKind.i64.wrap (s13c + ((r19).length : Int))) - 2))).bind fun x86 =>
        some (decide ((IntKind.i64.wrap (s15g * x83)) > (bitI .or .i64 x84 x86)))
      else
        some false).bind fun s137j9 =>
    if s137j9 then
      some (.inl (IntKind.i64.wrap (s15g - 1), IntKind.i64.wrap (s16g + x64)))
    else
      some (.inr s15g)

def big_div_L3 (r19 : (List Int)) : (Int × (List Int) × (List Int)) → Option ((Int × (List Int) × (List Int)) ⊕ (((List Int) × (List Int))))
  | (s13c, l9c, l12c) =>
    if decide (s13c ≥ 0) then
      (P.idx l9c (IntKind.i64.wrap (s13c + ((r19).length : Int)))).bind fun x60 =>
      (shlI .i64 x60 20).bind fun x61 =>
      (P.idx l9c (IntKind.i64.wrap ((IntKind.i64.wrap (s13c + ((r19).length : Int))) - 1))).bind fun x63 =>
      (P.idx r19 (IntKind.i64.wrap (((r19).length : Int) - 1))).bind fun x64 =>
      (divI .i64 (bitI .or .i64 x61 x63) x64).bind fun x65 =>
      (modI .i64 (bitI .or .i64 x61 x63) x64).bind fun x67 =>
      (loopL (big_div_L7 r19 s13c l9c x64) (x65, x67)).bind fun s15gx =>
      (slc l9c s13c (IntKind.i64.wrap ((IntKind.i64.wrap (s13c + ((r19).length : Int))) + 1))).bind fun x87 =>
      (big_settle_w x87 r19 s15gx).bind fun r90 =>
      (P.idx l12c s13c).bind fun x92 =>
      some (.inl (IntKind.i64.wrap (s13c - 1), (l9c.take (s13c).toNat ++ (r90.1 ++ l9c.drop (IntKind.i64.wrap ((IntKind.i64.wrap (s13c + ((r19).length : Int))) + 1)).toNat)), (l12c.set (s13c).toNat r90.2)))
    else
      some (.inr (l9c, l12c))

def big_div (p0 : (List Int)) (p1 : (List Int)) : Option ((List Int) × (List Int)) :=
  (big_compare p0 p1).bind fun r1 =>
  if decide (r1 < 0) then
    (slices_Clone p0).bind fun r3 =>
    some ([], r3)
  else
    if ((p1.length : Int) == 1) then
      (P.idx p1 0).bind fun x5 =>
      (big_short p0 x5).bind fun r6 =>
      (big_trim ([r6.2])).bind fun r8 =>
      some (r6.1, r8)
    else
      (loopL (big_div_L1 p1) 1).bind fun s8ax =>
      (big_mul p0 ([s8ax])).bind fun r15 =>
      (appL 8 r15 [0]).bind fun x16 =>
      (big_mul p1 ([s8ax])).bind fun r19 =>
      (if (((x16).length : Int) == (p0.length : Int)) then
        (appL 8 x16 [0]).bind fun x98 =>
        some x98
      else
        some x16).bind fun l9j2 =>
      (mkL 8 (IntKind.i64.wrap (((l9j2).length : Int) - ((r19).length : Int))) (IntKind.i64.wrap (((l9j2).length : Int) - ((r19).length : Int))) 0).bind fun x21 =>
      (loopL (big_div_L3 r19) (IntKind.i64.wrap (((x21).length : Int) - 1), l9j2, x21)).bind fun q => match q with
      | (l9cx, l12cx) =>
        (big_trim l9cx).bind fun r94 =>
        (big_short r94 s8ax).bind fun r95 =>
        (big_trim l12cx).bind fun r96 =>
        some (r96, r95.1)

def big_signed (p0 : Int) (p1 : (List Int)) : Option (TBig) :=
  (big_trim p1).bind fun r1 =>
  if ((r1.length : Int) == 0) then
    some (TBig.mk 0 ([]))
  else
    some (TBig.mk p0 r1)

def big_Gcd_L2 : ((List Int) × (List Int)) → Option (((List Int) × (List Int)) ⊕ (((List Int))))
  | (s6b, s7b) =>
    if decide ((s7b.length : Int) > 0) then
      (big_div s6b s7b).bind fun r11 =>
      some (.inl (s7b, r11.2))
    else
      some (.inr s6b)

def big_Gcd (p0 : TBig) (p1 : TBig) : Option (TBig × Int) :=
  (big_Right p0).bind fun r1 =>
  (if (!r1) then
    some true
  else
    (big_Right p1).bind fun r16 =>
    some (!r16)).bind fun s17j1 =>
  if s17j1 then
    (big_checked false (TBig.mk 0 ([]))).bind fun r5 =>
    some (r5.1, r5.2)
  else
    (slices_Clone p0.f_Digits).bind fun r6 =>
    (loopL (big_Gcd_L2) (r6, p1.f_Digits)).bind fun s6bx =>
    (slices_Clone s6bx).bind fun r12 =>
    (big_signed 1 r12).bind fun r13 =>
    (big_checked true r13).bind fun r14 =>
    some (r14.1, r14.2)

def big_Int_L2 (p0 : TBig) : (Int × Int) → Option ((Int × Int) ⊕ ((Int) ⊕ (Int × Bool)))
  | (s4b, s19b) =>
    if decide (s19b < (p0.f_Digits.length : Int)) then
      (P.idx p0.f_Digits s19b).bind fun x13 =>
      (if (s19b == 3) then
        some (decide (x13 > 8))
      else
        some false).bind fun s29j4 =>
      if s29j4 then
        some (.inr (.inr (0, false)))
      else
        (shlI .u64 (IntKind.u64.wrap x13) (IntKind.i64.wrap (20 * s19b))).bind fun x16 =>
        some (.inl (bitI .or .u64 s4b x16, IntKind.i64.wrap (s19b + 1)))
    else
      some (.inr (.inl s4b))

def big_Int (p0 : TBig) : Option (Int × Bool) :=
  (big_Right p0).bind fun r1 =>
  (if (!r1) then
    some true
  else
    some (decide ((p0.f_Digits.length : Int) > 4))).bind fun s15j1 =>
  if s15j1 then
    some (0, false)
  else
    (loopL (big_Int_L2 p0) (0, 0)).bind fun q => match q with
    | (.inl s4bx) =>
      (if decide (p0.f_Sign < 0) then
        some (decide (s4bx ≤ 9223372036854775808))
      else
        some false).bind fun s38j5 =>
      if s38j5 then
        some (IntKind.i64.wrap (IntKind.u64.wrap (0 - s4bx)), true)
      else
        if decide (p0.f_Sign ≥ 0) then
          if decide (s4bx < 9223372036854775808) then
            some (IntKind.i64.wrap s4bx, true)
          else
            some (0, false)
        else
          some (0, false)
    | (.inr rb) =>
      some rb

def frac_one (p0 : TBig) : Option (Bool) :=
  (big_Int p0).bind fun r1 =>
  if r1.2 then
    some (r1.1 == 1)
  else
    some false

def frac_Right (p0 : TFrac) : Option (Bool) :=
  (big_Right p0.f_P).bind fun r1 =>
  (if (!r1) then
    some true
  else
    (big_Right p0.f_Q).bind fun r8 =>
    if (!r8) then
      some true
    else
      some (p0.f_Q.f_Sign != 1)).bind fun s20j1 =>
  if s20j1 then
    some false
  else
    (big_Gcd p0.f_P p0.f_Q).bind fun r4 =>
    if (r4.2 == 0) then
      (frac_one r4.1).bind fun r6 =>
      some r6
    else
      some false

def bridge_right_L1 (p0 : (List TFrac)) : (Int) → Option ((Int) ⊕ ((Unit) ⊕ (Bool)))
  | s7a =>
    if decide (s7a < (p0.length : Int)) then
      (P.idx p0 s7a).bind fun x7 =>
      (frac_Right x7).bind fun r8 =>
      if (!r8) then
        some (.inr (.inr false))
      else
        some (.inl (IntKind.i64.wrap (s7a + 1)))
    else
      some (.inr (.inl ()))

def bridge_right (p0 : (List TFrac)) : Option (Bool) :=
  (loopL (bridge_right_L1 p0) 0).bind fun q => match q with
  | (.inl _) =>
    some true
  | (.inr ra) =>
    some ra

def bridge_edits (p0 : (List TFrac)) : Option (Int × Bool) :=
  (math_bits_Len (IntKind.u64.wrap (p0.length : Int))).bind fun r1 =>
  if decide ((IntKind.i64.wrap (r1 - 1)) < 0) then
    some (0, false)
  else
    if decide ((IntKind.i64.wrap (r1 - 1)) > 8) then
      some (0, false)
    else
      (shlI .i64 1 (IntKind.i64.wrap (r1 - 1))).bind fun x4 =>
      if ((p0.length : Int) != x4) then
        some (0, false)
      else
        (bridge_right p0).bind fun r7 =>
        if (!r7) then
          some (0, false)
        else
          some (IntKind.i64.wrap (r1 - 1), true)

def big_Of_L2 : (Int × (List Int)) → Option ((Int × (List Int)) ⊕ (((List Int))))
  | (s4b, l5b) =>
    if decide (s4b > 0) then
      (appL 8 l5b [IntKind.i64.wrap (bitI .and .u64 s4b 1048575)]).bind fun x9 =>
      (shrI .u64 s4b 20).bind fun x11 =>
      some (.inl (x11, x9))
    else
      some (.inr l5b)

def big_Of (p0 : Int) : Option (TBig) :=
  (if decide (p0 < 0) then
    some ((-1), IntKind.u64.wrap (0 - (IntKind.u64.wrap p0)))
  else
    some (1, IntKind.u64.wrap p0)).bind fun q => match q with
  | (s3j1, s4j1) =>
    (loopL (big_Of_L2) (s4j1, [])).bind fun l5bx =>
    (big_signed s3j1 l5bx).bind fun r13 =>
    some r13

def frac_Int (p0 : Int) : Option (TFrac) :=
  (big_Of p0).bind fun r1 =>
  (big_Of 1).bind fun r2 =>
  some (TFrac.mk r1 r2)

def big_Neg (p0 : TBig) : Option (TBig) :=
  (big_Right p0).bind fun r1 =>
  if (!r1) then
    some (TBig.mk 0 ([]))
  else
    (slices_Clone p0.f_Digits).bind fun r3 =>
    (big_signed (IntKind.i64.wrap (0 - p0.f_Sign)) r3).bind fun r4 =>
    some r4

def big_Mul (p0 : TBig) (p1 : TBig) : Option (TBig × Int) :=
  (big_Right p0).bind fun r1 =>
  (if (!r1) then
    some true
  else
    (big_Right p1).bind fun r10 =>
    some (!r10)).bind fun s13j1 =>
  if s13j1 then
    (big_checked false (TBig.mk 0 ([]))).bind fun r5 =>
    some (r5.1, r5.2)
  else
    (big_mul p0.f_Digits p1.f_Digits).bind fun r6 =>
    (big_signed (IntKind.i64.wrap (p0.f_Sign * p1.f_Sign)) r6).bind fun r7 =>
    (big_checked true r7).bind fun r8 =>
    some (r8.1, r8.2)

def frac_times (p0 : TBig) (p1 : TBig) : Option (TBig) :=
  (big_Mul p0 p1).bind fun r1 =>
  some r1.1

def cmp_Or_L1 (p0 : (List Int)) : (Int) → Option ((Int) ⊕ ((Unit) ⊕ (Int)))
  | s8a =>
    if decide (s8a < (p0.length : Int)) then
      (P.idx p0 s8a).bind fun x6 =>
      if (x6 != 0) then
        some (.inr (.inr x6))
      else
        some (.inl (IntKind.i64.wrap (s8a + 1)))
    else
      some (.inr (.inl ()))

def cmp_Or (p0 : (List Int)) : Option (Int) :=
  (loopL (cmp_Or_L1 p0) 0).bind fun q => match q with
  | (.inl _) =>
    some 0
  | (.inr ra) =>
    some ra

def big_add_L2 (s0j1 : (List Int)) (s1j1 : (List Int)) : (Int × Int × (List Int)) → Option ((Int × Int × (List Int)) ⊕ ((Int × (List Int))))
  | (s6b, s22b, l5b) =>
    if decide (s22b < (s0j1.length : Int)) then
      (P.idx s0j1 s22b).bind fun x15 =>
      (if decide (s22b < (s1j1.length : Int)) then
        (P.idx s1j1 s22b).bind fun x22 =>
        some (IntKind.i64.wrap ((IntKind.i64.wrap (s6b + x15)) + x22))
      else
        some (IntKind.i64.wrap (s6b + x15))).bind fun s6j4 =>
      (P.idx l5b s22b).bind fun x17 =>
      (shrI .i64 s6j4 20).bind fun x19 =>
      some (.inl (x19, IntKind.i64.wrap (s22b + 1), (l5b.set (s22b).toNat (bitI .and .i64 s6j4 1048575))))
    else
      some (.inr (s6b, l5b))

def big_add (p0 : (List Int)) (p1 : (List Int)) : Option ((List Int)) :=
  (if decide ((p0.length : Int) < (p1.length : Int)) then
    some (p1, p0)
  else
    some (p0, p1)).bind fun q => match q with
  | (s0j1, s1j1) =>
    (mkL 8 (IntKind.i64.wrap ((s0j1.length : Int) + 1)) (IntKind.i64.wrap ((s0j1.length : Int) + 1)) 0).bind fun x2 =>
    (loopL (big_add_L2 s0j1 s1j1) (0, 0, x2)).bind fun q => match q with
    | (s6bx, l5bx) =>
      (P.idx l5bx (s0j1.length : Int)).bind fun x23 =>
      (big_trim (l5bx.set ((s0j1.length : Int)).toNat s6bx)).bind fun r26 =>
      some r26

def big_sub_L1 (p1 : (List Int)) (r1 : (List Int)) : (Int × Int × (List Int)) → Option ((Int × Int × (List Int)) ⊕ (((List Int))))
  | (s6a, s13a, l5a) =>
    if decide (s13a < ((r1).length : Int)) then
      (P.idx l5a s13a).bind fun x12 =>
      (if decide (s13a < (p1.length : Int)) then
        (P.idx p1 s13a).bind fun x18 =>
        some (IntKind.i64.wrap ((IntKind.i64.wrap (x12 - s6a)) - x18))
      else
        some (IntKind.i64.wrap (x12 - s6a))).bind fun s8j3 =>
      (shrI .i64 s8j3 20).bind fun x14 =>
      some (.inl (bitI .and .i64 x14 1, IntKind.i64.wrap (s13a + 1), (l5a.set (s13a).toNat (bitI .and .i64 s8j3 1048575))))
    else
      some (.inr l5a)

def big_sub (p0 : (List Int)) (p1 : (List Int)) : Option ((List Int)) :=
  (slices_Clone p0).bind fun r1 =>
  (loopL (big_sub_L1 p1 r1) (0, 0, r1)).bind fun l5ax =>
  (big_trim l5ax).bind fun r19 =>
  some r19

def big_Add (p0 : TBig) (p1 : TBig) : Option (TBig × Int) :=
  (big_Right p0).bind fun r1 =>
  (if (!r1) then
    some true
  else
    (big_Right p1).bind fun r21 =>
    some (!r21)).bind fun s13j1 =>
  if s13j1 then
    (big_checked false (TBig.mk 0 ([]))).bind fun r5 =>
    some (r5.1, r5.2)
  else
    if decide ((IntKind.i64.wrap (p0.f_Sign * p1.f_Sign)) ≥ 0) then
      (cmp_Or ([p0.f_Sign, p1.f_Sign])).bind fun r8 =>
      (big_add p0.f_Digits p1.f_Digits).bind fun r9 =>
      (big_signed r8 r9).bind fun r10 =>
      (big_checked true r10).bind fun r11 =>
      some (r11.1, r11.2)
    else
      (big_compare p0.f_Digits p1.f_Digits).bind fun r12 =>
      if decide (r12 < 0) then
        (big_sub p1.f_Digits p0.f_Digits).bind fun r14 =>
        (big_signed p1.f_Sign r14).bind fun r15 =>
        (big_checked true r15).bind fun r16 =>
        some (r16.1, r16.2)
      else
        (big_sub p0.f_Digits p1.f_Digits).bind fun r17 =>
        (big_signed p0.f_Sign r17).bind fun r18 =>
        (big_checked true r18).bind fun r19 =>
        some (r19.1, r19.2)

def big_Div (p0 : TBig) (p1 : TBig) : Option (TBig × TBig × Int) :=
  (big_Right p0).bind fun r1 =>
  (if (!r1) then
    some true
  else
    (big_Right p1).bind fun r17 =>
    some (!r17)).bind fun s9j1 =>
  if s9j1 then
    some ((TBig.mk 0 ([])), (TBig.mk 0 ([])), 1)
  else
    if (p1.f_Sign == 0) then
      some ((TBig.mk 0 ([])), (TBig.mk 0 ([])), 15)
    else
      (big_div p0.f_Digits p1.f_Digits).bind fun r5 =>
      (if decide ((IntKind.i64.wrap (p0.f_Sign * p1.f_Sign)) < 0) then
        some (decide ((r5.2.length : Int) > 0))
      else
        some false).bind fun s44j2 =>
      if s44j2 then
        (big_add r5.1 ([1])).bind fun r9 =>
        (big_signed (-1) r9).bind fun r10 =>
        (big_sub p1.f_Digits r5.2).bind fun r11 =>
        (big_signed p1.f_Sign r11).bind fun r12 =>
        some (r10, r12, 0)
      else
        (big_signed (IntKind.i64.wrap (p0.f_Sign * p1.f_Sign)) r5.1).bind fun r13 =>
        (big_signed p0.f_Sign r5.2).bind fun r14 =>
        some (r13, r14, 0)

def frac_New (p0 : TBig) (p1 : TBig) : Option (TFrac × Int) :=
  (big_Right p0).bind fun r1 =>
  (if (!r1) then
    some true
  else
    (big_Right p1).bind fun r13 =>
    some (!r13)).bind fun s14j1 =>
  if s14j1 then
    some ((TFrac.mk (TBig.mk 0 ([])) (TBig.mk 0 ([]))), 1)
  else
    if (p1.f_Sign == 0) then
      some ((TFrac.mk (TBig.mk 0 ([])) (TBig.mk 0 ([]))), 15)
    else
      (if decide (p1.f_Sign < 0) then
        (big_Neg p0).bind fun r10 =>
        (big_Neg p1).bind fun r11 =>
        some (r10.f_Sign, r10.f_Digits, r11.f_Sign, r11.f_Digits)
      else
        some (p0.f_Sign, p0.f_Digits, p1.f_Sign, p1.f_Digits)).bind fun q => match q with
      | (r2_0j2, r2_1j2, r3_0j2, r3_1j2) =>
        (big_Gcd (TBig.mk r2_0j2 r2_1j2) (TBig.mk r3_0j2 r3_1j2)).bind fun r6 =>
        (big_Div (TBig.mk r2_0j2 r2_1j2) r6.1).bind fun r7 =>
        (big_Div (TBig.mk r3_0j2 r3_1j2) r6.1).bind fun r8 =>
        some ((TFrac.mk r7.1 r8.1), 0)

def frac_Add (p0 : TFrac) (p1 : TFrac) : Option (TFrac × Int) :=
  (frac_Right p0).bind fun r1 =>
  (if (!r1) then
    some true
  else
    (frac_Right p1).bind fun r10 =>
    some (!r10)).bind fun s15j1 =>
  if s15j1 then
    some ((TFrac.mk (TBig.mk 0 ([])) (TBig.mk 0 ([]))), 1)
  else
    (frac_times p0.f_P p1.f_Q).bind fun r4 =>
    (frac_times p1.f_P p0.f_Q).bind fun r5 =>
    (big_Add r4 r5).bind fun r6 =>
    (frac_times p0.f_Q p1.f_Q).bind fun r7 =>
    (frac_New r6.1 r7).bind fun r8 =>
    some (r8.1, r8.2)

def frac_Sub (p0 : TFrac) (p1 : TFrac) : Option (TFrac × Int) :=
  (frac_Right p0).bind fun r1 =>
  (if (!r1) then
    some true
  else
    (frac_Right p1).bind fun r7 =>
    some (!r7)).bind fun s13j1 =>
  if s13j1 then
    some ((TFrac.mk (TBig.mk 0 ([])) (TBig.mk 0 ([]))), 1)
  else
    (big_Neg p1.f_P).bind fun r4 =>
    (frac_Add p0 (TFrac.mk r4 p1.f_Q)).bind fun r5 =>
    some (r5.1, r5.2)

def bridge_sub (p0 : TFrac) (p1 : TFrac) : Option (TFrac) :=
  (frac_Sub p0 p1).bind fun r1 =>
  some r1.1

def bridge_add (p0 : TFrac) (p1 : TFrac) : Option (TFrac) :=
  (frac_Add p0 p1).bind fun r1 =>
  some r1.1

def math_bits_OnesCount32 (p0 : Int) : Option (Int) :=
  (shrI .u32 p0 24).bind fun x1 =>
  (P.sidx cst1 x1).bind fun x3 =>
  (shrI .u32 p0 16).bind fun x5 =>
  (P.sidx cst1 (bitI .and .u32 x5 255)).bind fun x7 =>
  (shrI .u32 p0 8).bind fun x9 =>
  (P.sidx cst1 (bitI .and .u32 x9 255)).bind fun x11 =>
  (P.sidx cst1 (bitI .and .u32 p0 255)).bind fun x13 =>
  some (IntKind.i64.wrap (IntKind.u8.wrap ((IntKind.u8.wrap ((IntKind.u8.wrap (x3 + x7)) + x11)) + x13)))

def math_bits_OnesCount64 (p0 : Int) : Option (Int) :=
  (shrI .u64 p0 1).bind fun x1 =>
  (shrI .u64 (IntKind.u64.wrap ((bitI .and .u64 x1 6148914691236517205) + (bitI .and .u64 p0 6148914691236517205))) 2).bind fun x3 =>
  (shrI .u64 (IntKind.u64.wrap ((bitI .and .u64 x3 3689348814741910323) + (bitI .and .u64 (IntKind.u64.wrap ((bitI .and .u64 x1 6148914691236517205) + (bitI .and .u64 p0 6148914691236517205))) 3689348814741910323))) 4).bind fun x5 =>
  (shrI .u64 (bitI .and .u64 (IntKind.u64.wrap (x5 + (IntKind.u64.wrap ((bitI .and .u64 x3 3689348814741910323) + (bitI .and .u64 (IntKind.u64.wrap ((bitI .and .u64 x1 6148914691236517205) + (bitI .and .u64 p0 6148914691236517205))) 3689348814741910323))))) 1085102592571150095) 8).bind fun x7 =>
  (shrI .u64 (IntKind.u64.wrap ((bitI .and .u64 (IntKind.u64.wrap (x5 + (IntKind.u64.wrap ((bitI .and .u64 x3 3689348814741910323) + (bitI .and .u64 (IntKind.u64.wrap ((bitI .and .u64 x1 6148914691236517205) + (bitI .and .u64 p0 6148914691236517205))) 3689348814741910323))))) 1085102592571150095) + x7)) 16).bind fun x9 =>
  (shrI .u64 (IntKind.u64.wrap ((IntKind.u64.wrap ((bitI .and .u64 (IntKind.u64.wrap (x5 + (IntKind.u64.wrap ((bitI .and .u64 x3 3689348814741910323) + (bitI .and .u64 (IntKind.u64.wrap ((bitI .and .u64 x1 6148914691236517205) + (bitI .and .u64 p0 6148914691236517205))) 3689348814741910323))))) 1085102592571150095) + x7)) + x9)) 32).bind fun x11 =>
  some (bitI .and .i64 (IntKind.i64.wrap (IntKind.u64.wrap ((IntKind.u64.wrap ((IntKind.u64.wrap ((bitI .and .u64 (IntKind.u64.wrap (x5 + (IntKind.u64.wrap ((bitI .and .u64 x3 3689348814741910323) + (bitI .and .u64 (IntKind.u64.wrap ((bitI .and .u64 x1 6148914691236517205) + (bitI .and .u64 p0 6148914691236517205))) 3689348814741910323))))) 1085102592571150095) + x7)) + x9)) + x11))) 127)

def math_bits_OnesCount (p0 : Int) : Option (Int) :=
  (math_bits_OnesCount64 p0).bind fun r1 =>
  some r1

def frac_Div (p0 : TFrac) (p1 : TFrac) : Option (TFrac × Int) :=
  (frac_Right p0).bind fun r1 =>
  (if (!r1) then
    some true
  else
    (frac_Right p1).bind fun r9 =>
    some (!r9)).bind fun s6j1 =>
  if s6j1 then
    some ((TFrac.mk (TBig.mk 0 ([])) (TBig.mk 0 ([]))), 1)
  else
    if (p1.f_P.f_Sign == 0) then
      some ((TFrac.mk (TBig.mk 0 ([])) (TBig.mk 0 ([]))), 15)
    else
      (frac_times p0.f_P p1.f_Q).bind fun r5 =>
      (frac_times p0.f_Q p1.f_P).bind fun r6 =>
      (frac_New r5 r6).bind fun r7 =>
      some (r7.1, r7.2)

def bridge_Potential_L3 (r1 : Int × Bool) (s6a : Int) (l5a : (List TFrac)) : (Int × Int × (List Int) × Int × (List Int)) → Option ((Int × Int × (List Int) × Int × (List Int)) ⊕ ((Int × (List Int) × Int × (List Int))))
  | (s37c, r7_0c, r7_1c, r7_2c, r7_3c) =>
    if decide (s37c < r1.1) then
      (shlI .i64 1 s37c).bind fun x46 =>
      if ((bitI .and .i64 s6a x46) != 0) then
        (P.idx l5a (bitI .andNot .i64 s6a x46)).bind fun x50 =>
        (bridge_add (TFrac.mk (TBig.mk r7_0c r7_1c) (TBig.mk r7_2c r7_3c)) x50).bind fun r51 =>
        some (.inl (IntKind.i64.wrap (s37c + 1), r51.f_P.f_Sign, r51.f_P.f_Digits, r51.f_Q.f_Sign, r51.f_Q.f_Digits))
      else
        some (.inl (IntKind.i64.wrap (s37c + 1), r7_0c, r7_1c, r7_2c, r7_3c))
    else
      some (.inr (r7_0c, r7_1c, r7_2c, r7_3c))

def bridge_Potential_L1 (p0 : (List TFrac)) (r1 : Int × Bool) : (Int × (List TFrac)) → Option ((Int × (List TFrac)) ⊕ (((List TFrac))))
  | (s6a, l5a) =>
    if decide (s6a < (p0.length : Int)) then
      (P.idx p0 s6a).bind fun x34 =>
      (P.idx p0 0).bind fun x35 =>
      (bridge_sub x34 x35).bind fun r36 =>
      (loopL (bridge_Potential_L3 r1 s6a l5a) (0, r36.f_P.f_Sign, r36.f_P.f_Digits, r36.f_Q.f_Sign, r36.f_Q.f_Digits)).bind fun q => match q with
      | (r7_0cx, r7_1cx, r7_2cx, r7_3cx) =>
        (math_bits_OnesCount (IntKind.u64.wrap s6a)).bind fun r52 =>
        (frac_Int r52).bind fun r53 =>
        (frac_Div (TFrac.mk (TBig.mk r7_0cx r7_1cx) (TBig.mk r7_2cx r7_3cx)) r53).bind fun r54 =>
        (P.idx l5a s6a).bind fun x55 =>
        some (.inl (IntKind.i64.wrap (s6a + 1), (l5a.set (s6a).toNat r54.1)))
    else
      some (.inr l5a)

def bridge_Potential (p0 : (List TFrac)) : Option ((List TFrac)) :=
  (bridge_edits p0).bind fun r1 =>
  if (!r1.2) then
    some ([])
  else
    (mkL 64 (p0.length : Int) (p0.length : Int) (TFrac.mk (TBig.mk 0 ([])) (TBig.mk 0 ([])))).bind fun x3 =>
    (frac_Int 0).bind fun r5 =>
    (P.idx x3 0).bind fun x6 =>
    (loopL (bridge_Potential_L1 p0 r1) (1, (x3.set (0 : Int).toNat r5))).bind fun l5ax =>
    some l5ax

def bridge_Shares_L1 (p0 : (List TFrac)) (r1 : Int × Bool) (r3 : (List TFrac)) : (Int × (List TFrac)) → Option ((Int × (List TFrac)) ⊕ (((List TFrac))))
  | (s23a, l8a) =>
    if decide (s23a < r1.1) then
      (P.idx r3 (IntKind.i64.wrap ((p0.length : Int) - 1))).bind fun x14 =>
      (shlI .i64 1 s23a).bind fun x15 =>
      (P.idx r3 (bitI .andNot .i64 (IntKind.i64.wrap ((p0.length : Int) - 1)) x15)).bind fun x17 =>
      (bridge_sub x14 x17).bind fun r18 =>
      (appL 64 l8a [r18]).bind fun x19 =>
      some (.inl (IntKind.i64.wrap (s23a + 1), x19))
    else
      some (.inr l8a)

def bridge_Shares (p0 : (List TFrac)) : Option ((List TFrac) × Int) :=
  (bridge_edits p0).bind fun r1 =>
  if (!r1.2) then
    some ([], 1)
  else
    (bridge_Potential p0).bind fun r3 =>
    (loopL (bridge_Shares_L1 p0 r1 r3) (0, [])).bind fun l8ax =>
    some (l8ax, 0)

def l44_halves_L1 (p0 : (List Int)) : (Int × (List TFrac)) → Option ((Int × (List TFrac)) ⊕ (((List TFrac))))
  | (s4a, l3a) =>
    if decide (s4a < (p0.length : Int)) then
      (P.idx p0 s4a).bind fun x8 =>
      (r05_Of x8 2).bind fun r9 =>
      (appL 64 l3a [r9.1]).bind fun x10 =>
      some (.inl (IntKind.i64.wrap (s4a + 1), x10))
    else
      some (.inr l3a)

def l44_halves (p0 : (List Int)) : Option ((List TFrac)) :=
  (loopL (l44_halves_L1 p0) (0, [])).bind fun l3ax =>
  some l3ax

def r05_SameBig_L2 (p0 : TBig) (p1 : TBig) : (Int) → Option ((Int) ⊕ ((Unit) ⊕ (Bool)))
  | s5b =>
    if decide (s5b < (p0.f_Digits.length : Int)) then
      (P.idx p0.f_Digits s5b).bind fun x9 =>
      (P.idx p1.f_Digits s5b).bind fun x10 =>
      if (x9 != x10) then
        some (.inr (.inr false))
      else
        some (.inl (IntKind.i64.wrap (s5b + 1)))
    else
      some (.inr (.inl ()))

def r05_SameBig (p0 : TBig) (p1 : TBig) : Option (Bool) :=
  (if (p0.f_Sign != p1.f_Sign) then
    some true
  else
    some ((p0.f_Digits.length : Int) != (p1.f_Digits.length : Int))).bind fun s19j1 =>
  if s19j1 then
    some false
  else
    (loopL (r05_SameBig_L2 p0 p1) 0).bind fun q => match q with
    | (.inl _) =>
      some true
    | (.inr rb) =>
      some rb

def r05_Same (p0 : TFrac) (p1 : TFrac) : Option (Bool) :=
  (r05_SameBig p0.f_P p1.f_P).bind fun r1 =>
  if r1 then
    (r05_SameBig p0.f_Q p1.f_Q).bind fun r3 =>
    some r3
  else
    some false

def r44_SameList_L1 (p0 : (List TFrac)) (p1 : (List TFrac)) : (Int) → Option ((Int) ⊕ ((Unit) ⊕ (Bool)))
  | s5a =>
    if decide (s5a < (p0.length : Int)) then
      (P.idx p0 s5a).bind fun x9 =>
      (P.idx p1 s5a).bind fun x10 =>
      (r05_Same x9 x10).bind fun r11 =>
      if (!r11) then
        some (.inr (.inr false))
      else
        some (.inl (IntKind.i64.wrap (s5a + 1)))
    else
      some (.inr (.inl ()))

def r44_SameList (p0 : (List TFrac)) (p1 : (List TFrac)) : Option (Bool) :=
  if ((p0.length : Int) != (p1.length : Int)) then
    some false
  else
    (loopL (r44_SameList_L1 p0 p1) 0).bind fun q => match q with
    | (.inl _) =>
      some true
    | (.inr ra) =>
      some ra

def frac_Sign (p0 : TFrac) : Option (Int) :=
  (frac_Right p0).bind fun r1 =>
  if (!r1) then
    some 0
  else
    some p0.f_P.f_Sign

def big_Compare (p0 : TBig) (p1 : TBig) : Option (Int) :=
  (big_Right p0).bind fun r1 =>
  (if (!r1) then
    some true
  else
    (big_Right p1).bind fun r8 =>
    some (!r8)).bind fun s12j1 =>
  if s12j1 then
    some 0
  else
    if (p0.f_Sign != p1.f_Sign) then
      (cmp_Compare p0.f_Sign p1.f_Sign).bind fun r5 =>
      some r5
    else
      (big_compare p0.f_Digits p1.f_Digits).bind fun r6 =>
      some (IntKind.i64.wrap (p0.f_Sign * r6))

def frac_Compare (p0 : TFrac) (p1 : TFrac) : Option (Int) :=
  (frac_Right p0).bind fun r1 =>
  (if (!r1) then
    some true
  else
    (frac_Right p1).bind fun r8 =>
    some (!r8)).bind fun s12j1 =>
  if s12j1 then
    some 0
  else
    (frac_times p0.f_P p1.f_Q).bind fun r4 =>
    (frac_times p1.f_P p0.f_Q).bind fun r5 =>
    (big_Compare r4 r5).bind fun r6 =>
    some r6

def bridge_Check_L4 (p2 : (List TFrac)) (r1 : Int × Bool) (s9b : Int) : (Int × Int × (List Int) × Int × (List Int)) → Option ((Int × Int × (List Int) × Int × (List Int)) ⊕ ((Int × (List Int) × Int × (List Int))))
  | (s60d, r10_0d, r10_1d, r10_2d, r10_3d) =>
    if decide (s60d < r1.1) then
      (shlI .i64 1 s60d).bind fun x44 =>
      if ((bitI .and .i64 s9b x44) != 0) then
        (P.idx p2 s9b).bind fun x47 =>
        (P.idx p2 (bitI .andNot .i64 s9b x44)).bind fun x49 =>
        (bridge_sub x47 x49).bind fun r50 =>
        (bridge_add (TFrac.mk (TBig.mk r10_0d r10_1d) (TBig.mk r10_2d r10_3d)) r50).bind fun r51 =>
        some (.inl (IntKind.i64.wrap (s60d + 1), r51.f_P.f_Sign, r51.f_P.f_Digits, r51.f_Q.f_Sign, r51.f_Q.f_Digits))
      else
        some (.inl (IntKind.i64.wrap (s60d + 1), r10_0d, r10_1d, r10_2d, r10_3d))
    else
      some (.inr (r10_0d, r10_1d, r10_2d, r10_3d))

def bridge_Check_L2 (p0 : (List TFrac)) (p2 : (List TFrac)) (r1 : Int × Bool) : (Int) → Option ((Int) ⊕ ((Unit) ⊕ (Bool)))
  | s9b =>
    if decide (s9b < (p0.length : Int)) then
      (frac_Int 0).bind fun r32 =>
      (loopL (bridge_Check_L4 p2 r1 s9b) (0, r32.f_P.f_Sign, r32.f_P.f_Digits, r32.f_Q.f_Sign, r32.f_Q.f_Digits)).bind fun q => match q with
      | (r10_0dx, r10_1dx, r10_2dx, r10_3dx) =>
        (P.idx p0 s9b).bind fun x52 =>
        (P.idx p0 0).bind fun x53 =>
        (bridge_sub x52 x53).bind fun r54 =>
        (frac_Compare (TFrac.mk (TBig.mk r10_0dx r10_1dx) (TBig.mk r10_2dx r10_3dx)) r54).bind fun r55 =>
        if (r55 != 0) then
          some (.inr (.inr false))
        else
          some (.inl (IntKind.i64.wrap (s9b + 1)))
    else
      some (.inr (.inl ()))

def bridge_Check_L5 (p0 : (List TFrac)) (p1 : (List TFrac)) (p2 : (List TFrac)) : (Int) → Option ((Int) ⊕ ((Unit) ⊕ (Bool)))
  | s99e =>
    if decide (s99e < (p1.length : Int)) then
      (P.idx p1 s99e).bind fun x68 =>
      (P.idx p2 (IntKind.i64.wrap ((p0.length : Int) - 1))).bind fun x69 =>
      (shlI .i64 1 s99e).bind fun x70 =>
      (P.idx p2 (bitI .andNot .i64 (IntKind.i64.wrap ((p0.length : Int) - 1)) x70)).bind fun x72 =>
      (bridge_sub x69 x72).bind fun r73 =>
      (frac_Compare x68 r73).bind fun r74 =>
      if (r74 != 0) then
        some (.inr (.inr false))
      else
        some (.inl (IntKind.i64.wrap (s99e + 1)))
    else
      some (.inr (.inl ()))

def bridge_Check (p0 : (List TFrac)) (p1 : (List TFrac)) (p2 : (List TFrac)) : Option (Bool) :=
  (bridge_edits p0).bind fun r1 =>
  (if (!r1.2) then
    some true
  else
    if ((p1.length : Int) != r1.1) then
      some true
    else
      if ((p2.length : Int) != (p0.length : Int)) then
        some true
      else
        (bridge_right p1).bind fun r79 =>
        if (!r79) then
          some true
        else
          (bridge_right p2).bind fun r81 =>
          if (!r81) then
            some true
          else
            (P.idx p2 0).bind fun x83 =>
            (frac_Sign x83).bind fun r84 =>
            some (r84 != 0)).bind fun s51j1 =>
  if s51j1 then
    some false
  else
    (loopL (bridge_Check_L2 p0 p2 r1) 1).bind fun q => match q with
    | (.inl _) =>
      (loopL (bridge_Check_L5 p0 p1 p2) 0).bind fun q => match q with
      | (.inl _) =>
        some true
      | (.inr re) =>
        some re
    | (.inr rb) =>
      some rb

def l44_says (p0 : (List Int)) (p1 : (List Int)) (p2 : (List Int)) : Option (Bool) :=
  (l44_ints p0).bind fun r1 =>
  (bridge_Shares r1).bind fun r2 =>
  (bridge_Potential r1).bind fun r3 =>
  if (r2.2 == 0) then
    (l44_halves p1).bind fun r5 =>
    (r44_SameList r2.1 r5).bind fun r6 =>
    if r6 then
      (l44_halves p2).bind fun r8 =>
      (r44_SameList r3 r8).bind fun r9 =>
      if r9 then
        (bridge_Check r1 r2.1 r3).bind fun r11 =>
        some r11
      else
        some false
    else
      some false
  else
    some false

def l44_small : Option (Bool) :=
  (l44_ints ([1, 2, 3])).bind fun r2 =>
  (bridge_Shares r2).bind fun r3 =>
  (l44_says ([10]) ([]) ([0])).bind fun r5 =>
  (if r5 then
    (l44_says ([10, 13]) ([6]) ([0, 6])).bind fun r16 =>
    if r16 then
      (l44_says ([10, 13, 12, 18]) ([9, 7]) ([0, 6, 4, 13])).bind fun r19 =>
      some r19
    else
      some false
  else
    some false).bind fun s3j1 =>
  if s3j1 then
    (l44_says ([0, 0, 0, 6]) ([6, 6]) ([0, 0, 0, 6])).bind fun r9 =>
    if r9 then
      if (r3.2 == 1) then
        (bridge_Potential r2).bind fun r13 =>
        some ((r13.length : Int) == 0)
      else
        some false
    else
      some false
  else
    some false

def r04_Same_L2 (p0 : TBig) (p1 : TBig) : (Int) → Option ((Int) ⊕ ((Unit) ⊕ (Bool)))
  | s5b =>
    if decide (s5b < (p0.f_Digits.length : Int)) then
      (P.idx p0.f_Digits s5b).bind fun x9 =>
      (P.idx p1.f_Digits s5b).bind fun x10 =>
      if (x9 != x10) then
        some (.inr (.inr false))
      else
        some (.inl (IntKind.i64.wrap (s5b + 1)))
    else
      some (.inr (.inl ()))

def r04_Same (p0 : TBig) (p1 : TBig) : Option (Bool) :=
  (if (p0.f_Sign != p1.f_Sign) then
    some true
  else
    some ((p0.f_Digits.length : Int) != (p1.f_Digits.length : Int))).bind fun s19j1 =>
  if s19j1 then
    some false
  else
    (loopL (r04_Same_L2 p0 p1) 0).bind fun q => match q with
    | (.inl _) =>
      some true
    | (.inr rb) =>
      some rb

def r04_Compare (p0 : TBig) (p1 : TBig) : Option (Int) :=
  (r04_Right p0).bind fun r1 =>
  (if (!r1) then
    some true
  else
    (r04_Right p1).bind fun r9 =>
    if (!r9) then
      some true
    else
      (r04_Same p0 p1).bind fun r11 =>
      some r11).bind fun s17j1 =>
  if s17j1 then
    some 0
  else
    if (p0.f_Sign != p1.f_Sign) then
      if decide (p0.f_Sign < p1.f_Sign) then
        some (-1)
      else
        some 1
    else
      (r04_less p0.f_Digits p1.f_Digits).bind fun r6 =>
      if (r6 == (decide (p0.f_Sign > 0))) then
        some (-1)
      else
        some 1

def r05_Right (p0 : TFrac) : Option (Bool) :=
  (r04_Right p0.f_P).bind fun r1 =>
  (if (!r1) then
    some true
  else
    (r04_Right p0.f_Q).bind fun r8 =>
    if (!r8) then
      some true
    else
      some (decide (p0.f_Q.f_Sign < 1))).bind fun s20j1 =>
  if s20j1 then
    some false
  else
    (r04_Gcd p0.f_P p0.f_Q).bind fun r4 =>
    (r04_Of 1).bind fun r5 =>
    (r04_Compare r4.1 r5).bind fun r6 =>
    some (r6 == 0)

def r44_Edits_L1 (p0 : (List TFrac)) : (Int) → Option ((Int) ⊕ ((Int)))
  | s3a =>
    if decide (s3a ≤ 8) then
      (shlI .i64 1 s3a).bind fun x7 =>
      if (x7 != (p0.length : Int)) then
        some (.inl (IntKind.i64.wrap (s3a + 1)))
      else
        some (.inr s3a)
    else
      some (.inr s3a)

def r44_Edits_L2 (p0 : (List TFrac)) : (Int) → Option ((Int) ⊕ ((Unit) ⊕ (Int)))
  | s4b =>
    if decide (s4b < (p0.length : Int)) then
      (P.idx p0 s4b).bind fun x17 =>
      (r05_Right x17).bind fun r18 =>
      if (!r18) then
        some (.inr (.inr (-1)))
      else
        some (.inl (IntKind.i64.wrap (s4b + 1)))
    else
      some (.inr (.inl ()))

def r44_Edits (p0 : (List TFrac)) : Option (Int) :=
  (loopL (r44_Edits_L1 p0) 0).bind fun s3ax =>
  if decide (s3ax > 8) then
    some (-1)
  else
    (loopL (r44_Edits_L2 p0) 0).bind fun q => match q with
    | (.inl _) =>
      some s3ax
    | (.inr rb) =>
      some rb

def r05_Few (p0 : TFrac) (p1 : Int) : Option (Bool) :=
  if decide ((p0.f_P.f_Digits.length : Int) ≤ p1) then
    some (decide ((p0.f_Q.f_Digits.length : Int) ≤ p1))
  else
    some false

def r44_Few_L2 (p0 : (List TFrac)) : (Int) → Option ((Int) ⊕ ((Unit) ⊕ (Bool)))
  | s3b =>
    if decide (s3b < (p0.length : Int)) then
      (P.idx p0 s3b).bind fun x9 =>
      (r05_Few x9 4).bind fun r10 =>
      if (!r10) then
        some (.inr (.inr false))
      else
        some (.inl (IntKind.i64.wrap (s3b + 1)))
    else
      some (.inr (.inl ()))

def r44_Few (p0 : (List TFrac)) : Option (Bool) :=
  (if decide ((p0.length : Int) > 40) then
    if ((p0.length : Int) != 256) then
      if ((p0.length : Int) != 257) then
        some ((p0.length : Int) != 512)
      else
        some false
    else
      some false
  else
    some false).bind fun s21j1 =>
  if s21j1 then
    some false
  else
    (loopL (r44_Few_L2 p0) 0).bind fun q => match q with
    | (.inl _) =>
      some true
    | (.inr rb) =>
      some rb

def l44_edits (p0 : (List TFrac)) : Option (Int) :=
  (r44_Edits p0).bind fun r1 =>
  if decide (r1 > 5) then
    some (-1)
  else
    (r44_Few p0).bind fun r3 =>
    if (!r3) then
      some (-1)
    else
      some r1

def l44_total_L1 (p0 : (List TFrac)) : (Int × Int × (List Int) × Int × (List Int)) → Option ((Int × Int × (List Int) × Int × (List Int)) ⊕ ((Int × (List Int) × Int × (List Int))))
  | (s4a, r3_0a, r3_1a, r3_2a, r3_3a) =>
    if decide (s4a < (p0.length : Int)) then
      (P.idx p0 s4a).bind fun x7 =>
      (frac_Add (TFrac.mk (TBig.mk r3_0a r3_1a) (TBig.mk r3_2a r3_3a)) x7).bind fun r8 =>
      some (.inl (IntKind.i64.wrap (s4a + 1), r8.1.f_P.f_Sign, r8.1.f_P.f_Digits, r8.1.f_Q.f_Sign, r8.1.f_Q.f_Digits))
    else
      some (.inr (r3_0a, r3_1a, r3_2a, r3_3a))

def l44_total (p0 : (List TFrac)) : Option (TFrac) :=
  (r05_Int 0).bind fun r1 =>
  (loopL (l44_total_L1 p0) (0, r1.f_P.f_Sign, r1.f_P.f_Digits, r1.f_Q.f_Sign, r1.f_Q.f_Digits)).bind fun q => match q with
  | (r3_0ax, r3_1ax, r3_2ax, r3_3ax) =>
    some (TFrac.mk (TBig.mk r3_0ax r3_1ax) (TBig.mk r3_2ax r3_3ax))

def l44_BridgeWhole (p0 : (List TFrac)) (p1 : (List TFrac)) (p2 : (List TFrac)) : Option (Bool) :=
  (l44_small).bind fun r1 =>
  (l44_edits p0).bind fun r2 =>
  (if decide (r2 < 0) then
    some true
  else
    (r44_Few p1).bind fun r25 =>
    if (!r25) then
      some true
    else
      (r44_Few p2).bind fun r27 =>
      some (!r27)).bind fun s27j1 =>
  if s27j1 then
    some r1
  else
    (bridge_Shares p0).bind fun r5 =>
    (bridge_Potential p0).bind fun r6 =>
    (P.idx p0 (IntKind.i64.wrap ((p0.length : Int) - 1))).bind fun x7 =>
    (P.idx p0 0).bind fun x8 =>
    (frac_Sub x7 x8).bind fun r9 =>
    (if (r5.2 != 0) then
      some true
    else
      if ((r5.1.length : Int) != r2) then
        some true
      else
        (l44_total r5.1).bind fun r20 =>
        (r05_Same r20 r9.1).bind fun r21 =>
        if (!r21) then
          some true
        else
          (bridge_Check p0 r5.1 r6).bind fun r23 =>
          some (!r23)).bind fun s71j2 =>
    if s71j2 then
      some false
    else
      (r44_SameList p1 r5.1).bind fun r12 =>
      (if r12 then
        (r44_SameList p2 r6).bind fun r17 =>
        some r17
      else
        some false).bind fun s13j3 =>
      if r1 then
        (bridge_Check p0 p1 p2).bind fun r15 =>
        some (r15 == s13j3)
      else
        some false

def l44_BridgeSums_L2 (p0 : (List TFrac)) (p1 : (List TFrac)) (p2 : TFrac) (x5 : Int) (x7 : Int) : (Int × (List TFrac) × (List TFrac)) → Option ((Int × (List TFrac) × (List TFrac)) ⊕ (((List TFrac) × (List TFrac))))
  | (s21b, l19b, l20b) =>
    if decide (s21b < (p0.length : Int)) then
      (P.idx p0 s21b).bind fun x35 =>
      (P.idx p1 s21b).bind fun x36 =>
      (frac_Add x35 x36).bind fun r37 =>
      (frac_Add r37.1 p2).bind fun r38 =>
      (appL 64 l19b [r38.1]).bind fun x39 =>
      (shlI .i64 1 x5).bind fun x41 =>
      (shlI .i64 1 x7).bind fun x43 =>
      (shrI .i64 s21b x5).bind fun x45 =>
      (shlI .i64 (bitI .and .i64 x45 1) x7).bind fun x47 =>
      (shrI .i64 s21b x7).bind fun x49 =>
      (shlI .i64 (bitI .and .i64 x49 1) x5).bind fun x51 =>
      (P.idx p0 (bitI .or .i64 (bitI .or .i64 (bitI .andNot .i64 s21b (bitI .or .i64 x41 x43)) x47) x51)).bind fun x53 =>
      (appL 64 l20b [x53]).bind fun x54 =>
      some (.inl (IntKind.i64.wrap (s21b + 1), x39, x54))
    else
      some (.inr (l19b, l20b))

def l44_BridgeSums_L4 (r2 : Int) (x5 : Int) (x7 : Int) (r9 : (List TFrac) × Int) (r10 : (List TFrac) × Int) (r56 : (List TFrac) × Int) (r57 : (List TFrac) × Int) : (Int) → Option ((Int) ⊕ ((Unit) ⊕ (Bool)))
  | s29d =>
    if decide (s29d < r2) then
      (P.idx r9.1 s29d).bind fun x76 =>
      (P.idx r10.1 s29d).bind fun x77 =>
      (frac_Add x76 x77).bind fun r78 =>
      (P.idx r56.1 s29d).bind fun x79 =>
      (r05_Same x79 r78.1).bind fun r80 =>
      if (!r80) then
        some (.inr (.inr false))
      else
        (if (s29d == x5) then
          some x7
        else
          if (s29d == x7) then
            some x5
          else
            some s29d).bind fun s32j6 =>
        (P.idx r57.1 s29d).bind fun x83 =>
        (P.idx r9.1 s32j6).bind fun x84 =>
        (r05_Same x83 x84).bind fun r85 =>
        if (!r85) then
          some (.inr (.inr false))
        else
          some (.inl (IntKind.i64.wrap (s29d + 1)))
    else
      some (.inr (.inl ()))

def l44_BridgeSums (p0 : (List TFrac)) (p1 : (List TFrac)) (p2 : TFrac) (p3 : Int) (p4 : Int) : Option (Bool) :=
  (l44_small).bind fun r1 =>
  (l44_edits p0).bind fun r2 =>
  (if decide (r2 < 1) then
    some true
  else
    (l44_edits p1).bind fun r97 =>
    if (r97 != r2) then
      some true
    else
      (r05_Few p2 4).bind fun r99 =>
      if (!r99) then
        some true
      else
        (frac_Right p2).bind fun r101 =>
        some (!r101)).bind fun s53j1 =>
  if s53j1 then
    some r1
  else
    (modI .i64 (IntKind.i64.wrap p3) r2).bind fun x5 =>
    (modI .i64 (IntKind.i64.wrap p4) r2).bind fun x7 =>
    (bridge_Shares p0).bind fun r9 =>
    (bridge_Shares p1).bind fun r10 =>
    (loopL (l44_BridgeSums_L2 p0 p1 p2 x5 x7) (0, [], [])).bind fun q => match q with
    | (l19bx, l20bx) =>
      (bridge_Shares l19bx).bind fun r56 =>
      (bridge_Shares l20bx).bind fun r57 =>
      (if (r9.2 != 0) then
        some true
      else
        if (r10.2 != 0) then
          some true
        else
          if (r56.2 != 0) then
            some true
          else
            if (r57.2 != 0) then
              some true
            else
              if ((r9.1.length : Int) != r2) then
                some true
              else
                if ((r10.1.length : Int) != r2) then
                  some true
                else
                  if ((r56.1.length : Int) != r2) then
                    some true
                  else
                    some ((r57.1.length : Int) != r2)).bind fun s178j3 =>
      if s178j3 then
        some false
      else
        (loopL (l44_BridgeSums_L4 r2 x5 x7 r9 r10 r56 r57) 0).bind fun q => match q with
        | (.inl _) =>
          some r1
        | (.inr rd) =>
          some rd

def l44_without_L1 (p0 : (List TFrac)) (p1 : Int) : (Int × (List TFrac)) → Option ((Int × (List TFrac)) ⊕ (((List TFrac))))
  | (s6a, l5a) =>
    if decide (s6a < (p0.length : Int)) then
      (shrI .i64 s6a p1).bind fun x10 =>
      if ((bitI .and .i64 x10 1) == 0) then
        (P.idx p0 s6a).bind fun x13 =>
        (appL 64 l5a [x13]).bind fun x14 =>
        some (.inl (IntKind.i64.wrap (s6a + 1), x14))
      else
        some (.inl (IntKind.i64.wrap (s6a + 1), l5a))
    else
      some (.inr l5a)

def l44_without (p0 : (List TFrac)) (p1 : Int) : Option ((List TFrac)) :=
  (loopL (l44_without_L1 p0 p1) (0, [])).bind fun l5ax =>
  some l5ax

def l44_BridgeLoses (p0 : (List TFrac)) (p1 : Int) (p2 : Int) : Option (Bool) :=
  (l44_small).bind fun r1 =>
  (l44_edits p0).bind fun r2 =>
  if decide (r2 < 2) then
    some r1
  else
    (modI .i64 (IntKind.i64.wrap p1) r2).bind fun x4 =>
    (modI .i64 (IntKind.i64.wrap p2) r2).bind fun x6 =>
    if (x4 == x6) then
      some r1
    else
      (bridge_Shares p0).bind fun r9 =>
      (l44_without p0 x6).bind fun r10 =>
      (bridge_Shares r10).bind fun r11 =>
      (l44_without p0 x4).bind fun r12 =>
      (bridge_Shares r12).bind fun r13 =>
      (if (r9.2 != 0) then
        some true
      else
        if (r11.2 != 0) then
          some true
        else
          if (r13.2 != 0) then
            some true
          else
            if ((r9.1.length : Int) != r2) then
              some true
            else
              if ((r11.1.length : Int) != (IntKind.i64.wrap (r2 - 1))) then
                some true
              else
                some ((r13.1.length : Int) != (IntKind.i64.wrap (r2 - 1)))).bind fun s89j1 =>
      if s89j1 then
        some false
      else
        (if decide (x6 < x4) then
          some (IntKind.i64.wrap (x4 - 1))
        else
          some x4).bind fun s17j2 =>
        (if decide (x4 < x6) then
          some (IntKind.i64.wrap (x6 - 1))
        else
          some x6).bind fun s18j3 =>
        (P.idx r9.1 x4).bind fun x18 =>
        (P.idx r11.1 s17j2).bind fun x19 =>
        (frac_Sub x18 x19).bind fun r20 =>
        (P.idx r9.1 x6).bind fun x21 =>
        (P.idx r13.1 s18j3).bind fun x22 =>
        (frac_Sub x21 x22).bind fun r23 =>
        if r1 then
          (r05_Same r20.1 r23.1).bind fun r25 =>
          some r25
        else
          some false

def frac_Mul (p0 : TFrac) (p1 : TFrac) : Option (TFrac × Int) :=
  (frac_Right p0).bind fun r1 =>
  (if (!r1) then
    some true
  else
    (frac_Right p1).bind fun r8 =>
    some (!r8)).bind fun s13j1 =>
  if s13j1 then
    some ((TFrac.mk (TBig.mk 0 ([])) (TBig.mk 0 ([]))), 1)
  else
    (frac_times p0.f_P p1.f_P).bind fun r4 =>
    (frac_times p0.f_Q p1.f_Q).bind fun r5 =>
    (frac_New r4 r5).bind fun r6 =>
    some (r6.1, r6.2)

def l44_orders_L1 (p0 : (List TFrac)) (p1 : Int) (p2 : Int) (p3 : Int) (slf : ((List TFrac) → Int → Int → Int → Option (TFrac × Int))) : (Int × Int × Int × (List Int) × Int × (List Int)) → Option ((Int × Int × Int × (List Int) × Int × (List Int)) ⊕ ((Int × Int × (List Int) × Int × (List Int))))
  | (s11a, s12a, r10_0a, r10_1a, r10_2a, r10_3a) =>
    if decide (s12a < p1) then
      (shrI .i64 p2 s12a).bind fun x21 =>
      if ((bitI .and .i64 x21 1) == 1) then
        some (.inl (s11a, IntKind.i64.wrap (s12a + 1), r10_0a, r10_1a, r10_2a, r10_3a))
      else
        (shlI .i64 1 s12a).bind fun x24 =>
        (slf p0 p1 (bitI .or .i64 p2 x24) p3).bind fun r26 =>
        (if (s12a == p3) then
          (P.idx p0 (bitI .or .i64 p2 x24)).bind fun x31 =>
          (P.idx p0 p2).bind fun x32 =>
          (frac_Sub x31 x32).bind fun r33 =>
          (r05_Int r26.2).bind fun r34 =>
          (frac_Mul r33.1 r34).bind fun r35 =>
          (frac_Add r26.1 r35.1).bind fun r36 =>
          some (r36.1.f_P.f_Sign, r36.1.f_P.f_Digits, r36.1.f_Q.f_Sign, r36.1.f_Q.f_Digits)
        else
          some (r26.1.f_P.f_Sign, r26.1.f_P.f_Digits, r26.1.f_Q.f_Sign, r26.1.f_Q.f_Digits)).bind fun q => match q with
        | (r13_0j3, r13_1j3, r13_2j3, r13_3j3) =>
          (frac_Add (TFrac.mk (TBig.mk r10_0a r10_1a) (TBig.mk r10_2a r10_3a)) (TFrac.mk (TBig.mk r13_0j3 r13_1j3) (TBig.mk r13_2j3 r13_3j3))).bind fun r28 =>
          some (.inl (IntKind.i64.wrap (s11a + r26.2), IntKind.i64.wrap (s12a + 1), r28.1.f_P.f_Sign, r28.1.f_P.f_Digits, r28.1.f_Q.f_Sign, r28.1.f_Q.f_Digits))
    else
      some (.inr (s11a, r10_0a, r10_1a, r10_2a, r10_3a))

def l44_orders_B (slf : ((List TFrac) → Int → Int → Int → Option (TFrac × Int))) (p0 : (List TFrac)) (p1 : Int) (p2 : Int) (p3 : Int) : Option (TFrac × Int) :=
  (r05_Int 0).bind fun r1 =>
  (loopL (l44_orders_L1 p0 p1 p2 p3 slf) (0, 0, r1.f_P.f_Sign, r1.f_P.f_Digits, r1.f_Q.f_Sign, r1.f_Q.f_Digits)).bind fun q => match q with
  | (s11ax, r10_0ax, r10_1ax, r10_2ax, r10_3ax) =>
    if (s11ax == 0) then
      some ((TFrac.mk (TBig.mk r10_0ax r10_1ax) (TBig.mk r10_2ax r10_3ax)), 1)
    else
      some ((TFrac.mk (TBig.mk r10_0ax r10_1ax) (TBig.mk r10_2ax r10_3ax)), s11ax)

def l44_orders : Nat → (List TFrac) → Int → Int → Int → Option (TFrac × Int)
  | 0 => fun _ _ _ _ => none
  | n + 1 => fun p0 p1 p2 p3 => l44_orders_B (l44_orders n) p0 p1 p2 p3

def l44_BridgeOrders (p0 : (List TFrac)) (p1 : Int) : Option (Bool) :=
  (l44_small).bind fun r1 =>
  (l44_edits p0).bind fun r2 =>
  if decide (r2 < 1) then
    some r1
  else
    (modI .i64 (IntKind.i64.wrap p1) r2).bind fun x4 =>
    (bridge_Shares p0).bind fun r6 =>
    (l44_orders 100 p0 r2 0 x4).bind fun r7 =>
    (r05_Int r7.2).bind fun r8 =>
    (frac_Div r7.1 r8).bind fun r9 =>
    if r1 then
      if (r6.2 == 0) then
        if (r9.2 == 0) then
          if ((r6.1.length : Int) == r2) then
            (P.idx r6.1 (if (IntKind.i64.wrap ((r6.1.length : Int) - 1)) < x4 then IntKind.i64.wrap ((r6.1.length : Int) - 1) else x4)).bind fun x14 =>
            (r05_Same x14 r9.1).bind fun r15 =>
            some r15
          else
            some false
        else
          some false
      else
        some false
    else
      some false

def frac_slim (p0 : TBig) : Option (TBig) :=
  (big_Neg p0).bind fun r1 =>
  (big_Neg r1).bind fun r2 =>
  some r2

def frac_either (p0 : TFrac) (p1 : TFrac) (p2 : Int) : Option (TFrac × Int) :=
  (frac_Right p0).bind fun r1 =>
  (if (!r1) then
    some true
  else
    (frac_Right p1).bind fun r11 =>
    some (!r11)).bind fun s15j1 =>
  if s15j1 then
    some ((TFrac.mk (TBig.mk 0 ([])) (TBig.mk 0 ([]))), 1)
  else
    (frac_Compare p0 p1).bind fun r4 =>
    if decide ((IntKind.i64.wrap (r4 * p2)) < 0) then
      (frac_slim p1.f_P).bind fun r6 =>
      (frac_slim p1.f_Q).bind fun r7 =>
      some ((TFrac.mk r6 r7), 0)
    else
      (frac_slim p0.f_P).bind fun r8 =>
      (frac_slim p0.f_Q).bind fun r9 =>
      some ((TFrac.mk r8 r9), 0)

def frac_Min (p0 : TFrac) (p1 : TFrac) : Option (TFrac × Int) :=
  (frac_either p0 p1 (-1)).bind fun r1 =>
  some (r1.1, r1.2)

def frac_Max (p0 : TFrac) (p1 : TFrac) : Option (TFrac × Int) :=
  (frac_either p0 p1 1).bind fun r1 =>
  some (r1.1, r1.2)

def l44_BridgeFair_L2 (p0 : (List TFrac)) (x4 : Int) (x6 : Int) (x11 : Int) : (Bool × Int × Int × (List Int) × Int × (List Int) × Int × (List Int) × Int × (List Int)) → Option ((Bool × Int × Int × (List Int) × Int × (List Int) × Int × (List Int) × Int × (List Int)) ⊕ ((Bool × Int × (List Int) × Int × (List Int) × Int × (List Int) × Int × (List Int))))
  | (s13b, s17b, r14_0b, r14_1b, r14_2b, r14_3b, r16_0b, r16_1b, r16_2b, r16_3b) =>
    if decide (s17b < (p0.length : Int)) then
      (shrI .i64 s17b x4).bind fun x38 =>
      if ((bitI .and .i64 x38 1) == 1) then
        some (.inl (s13b, IntKind.i64.wrap (s17b + 1), r14_0b, r14_1b, r14_2b, r14_3b, r16_0b, r16_1b, r16_2b, r16_3b))
      else
        (P.idx p0 (bitI .or .i64 s17b x11)).bind fun x42 =>
        (P.idx p0 s17b).bind fun x43 =>
        (frac_Sub x42 x43).bind fun r44 =>
        (frac_Min (TFrac.mk (TBig.mk r14_0b r14_1b) (TBig.mk r14_2b r14_3b)) r44.1).bind fun r45 =>
        (frac_Max (TFrac.mk (TBig.mk r16_0b r16_1b) (TBig.mk r16_2b r16_3b)) r44.1).bind fun r46 =>
        (shrI .i64 s17b x6).bind fun x47 =>
        if ((bitI .and .i64 x47 1) == 0) then
          if s13b then
            (shlI .i64 1 x6).bind fun x52 =>
            (P.idx p0 (bitI .or .i64 s17b x52)).bind fun x54 =>
            (r05_Same x42 x54).bind fun r55 =>
            some (.inl (r55, IntKind.i64.wrap (s17b + 1), r45.1.f_P.f_Sign, r45.1.f_P.f_Digits, r45.1.f_Q.f_Sign, r45.1.f_Q.f_Digits, r46.1.f_P.f_Sign, r46.1.f_P.f_Digits, r46.1.f_Q.f_Sign, r46.1.f_Q.f_Digits))
          else
            some (.inl (false, IntKind.i64.wrap (s17b + 1), r45.1.f_P.f_Sign, r45.1.f_P.f_Digits, r45.1.f_Q.f_Sign, r45.1.f_Q.f_Digits, r46.1.f_P.f_Sign, r46.1.f_P.f_Digits, r46.1.f_Q.f_Sign, r46.1.f_Q.f_Digits))
        else
          some (.inl (s13b, IntKind.i64.wrap (s17b + 1), r45.1.f_P.f_Sign, r45.1.f_P.f_Digits, r45.1.f_Q.f_Sign, r45.1.f_Q.f_Digits, r46.1.f_P.f_Sign, r46.1.f_P.f_Digits, r46.1.f_Q.f_Sign, r46.1.f_Q.f_Digits))
    else
      some (.inr (s13b, r14_0b, r14_1b, r14_2b, r14_3b, r16_0b, r16_1b, r16_2b, r16_3b))

def l44_BridgeFair (p0 : (List TFrac)) (p1 : Int) (p2 : Int) : Option (Bool) :=
  (l44_small).bind fun r1 =>
  (l44_edits p0).bind fun r2 =>
  if decide (r2 < 1) then
    some r1
  else
    (modI .i64 (IntKind.i64.wrap p1) r2).bind fun x4 =>
    (modI .i64 (IntKind.i64.wrap p2) r2).bind fun x6 =>
    (bridge_Shares p0).bind fun r8 =>
    (if (r8.2 != 0) then
      some true
    else
      some ((r8.1.length : Int) != r2)).bind fun s46j1 =>
    if s46j1 then
      some false
    else
      (shlI .i64 1 x4).bind fun x11 =>
      (P.idx p0 x11).bind fun x13 =>
      (P.idx p0 0).bind fun x14 =>
      (frac_Sub x13 x14).bind fun r15 =>
      (loopL (l44_BridgeFair_L2 p0 x4 x6 x11) (true, 0, r15.1.f_P.f_Sign, r15.1.f_P.f_Digits, r15.1.f_Q.f_Sign, r15.1.f_Q.f_Digits, r15.1.f_P.f_Sign, r15.1.f_P.f_Digits, r15.1.f_Q.f_Sign, r15.1.f_Q.f_Digits)).bind fun q => match q with
      | (s13bx, r14_0bx, r14_1bx, r14_2bx, r14_3bx, r16_0bx, r16_1bx, r16_2bx, r16_3bx) =>
        (P.idx r8.1 x4).bind fun x56 =>
        (frac_Compare (TFrac.mk (TBig.mk r14_0bx r14_1bx) (TBig.mk r14_2bx r14_3bx)) x56).bind fun r57 =>
        (if decide (r57 > 0) then
          some true
        else
          (frac_Compare x56 (TFrac.mk (TBig.mk r16_0bx r16_1bx) (TBig.mk r16_2bx r16_3bx))).bind fun r65 =>
          some (decide (r65 > 0))).bind fun s136j3 =>
        if s136j3 then
          some false
        else
          if r1 then
            if (!s13bx) then
              some true
            else
              (P.idx r8.1 x6).bind fun x62 =>
              (r05_Same x56 x62).bind fun r63 =>
              some r63
          else
            some false
end Go.Proofs.Ytoclpeomlofcjaa.P
