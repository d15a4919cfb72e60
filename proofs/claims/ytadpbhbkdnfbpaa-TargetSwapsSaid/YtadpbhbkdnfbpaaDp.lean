/- The functions of the program as plain functions (written by wip/dec.py). -/
import Derived.Test.YtadpbhbkdnfbpaaCp
namespace Go.Proofs.Ytadpbhbkdnfbpaa.P
open Go.RowKit
set_option linter.unusedVariables false

structure TBig where
  f_Sign : Int
  f_Digits : (List Int)

structure TFrac where
  f_P : TBig
  f_Q : TBig

structure Tgoal where
  f_values : (List TFrac)
  f_target : TFrac

def cst0 : ByteArray := ByteArray.mk #[0, 1, 2, 2, 3, 3, 3, 3, 4, 4, 4, 4, 4, 4, 4, 4, 5, 5, 5, 5, 5, 5, 5, 5, 5, 5, 5, 5, 5, 5, 5, 5, 6, 6, 6, 6, 6, 6, 6, 6, 6, 6, 6, 6, 6, 6, 6, 6, 6, 6, 6, 6, 6, 6, 6, 6, 6, 6, 6, 6, 6, 6, 6, 6, 7, 7, 7, 7, 7, 7, 7, 7, 7, 7, 7, 7, 7, 7, 7, 7, 7, 7, 7, 7, 7, 7, 7, 7, 7, 7, 7, 7, 7, 7, 7, 7, 7, 7, 7, 7, 7, 7, 7, 7, 7, 7, 7, 7, 7, 7, 7, 7, 7, 7, 7, 7, 7, 7, 7, 7, 7, 7, 7, 7, 7, 7, 7, 7, 8, 8, 8, 8, 8, 8, 8, 8, 8, 8, 8, 8, 8, 8, 8, 8, 8, 8, 8, 8, 8, 8, 8, 8, 8, 8, 8, 8, 8, 8, 8, 8, 8, 8, 8, 8, 8, 8, 8, 8, 8, 8, 8, 8, 8, 8, 8, 8, 8, 8, 8, 8, 8, 8, 8, 8, 8, 8, 8, 8, 8, 8, 8, 8, 8, 8, 8, 8, 8, 8, 8, 8, 8, 8, 8, 8, 8, 8, 8, 8, 8, 8, 8, 8, 8, 8, 8, 8, 8, 8, 8, 8, 8, 8, 8, 8, 8, 8, 8, 8, 8, 8, 8, 8, 8, 8, 8, 8, 8, 8, 8, 8, 8, 8, 8, 8, 8, 8, 8, 8, 8, 8, 8, 8, 8, 8, 8, 8]

def big_trim_L1 (p0 : (List Int)) : (Int) → Option ((Int) ⊕ ((Int)))
  | s3a =>
    if decide (s3a > 0) then
      (P.idx p0 (IntKind.i64.wrap (s3a - 1))).bind fun x6 =>
      if (x6 == 0) then
        some (.inl (IntKind.i64.wrap (s3a - 1)))
      else
        some (.inr s3a)
    else
      some (.inr s3a)

def big_trim (p0 : (List Int)) : Option ((List Int)) :=
  (loopL (big_trim_L1 p0) (p0.length : Int)).bind fun s3ax =>
  (slc p0 0 s3ax).bind fun x8 =>
  some x8

def big_signed (p0 : Int) (p1 : (List Int)) : Option (TBig) :=
  (big_trim p1).bind fun r1 =>
  if ((r1.length : Int) == 0) then
    some (TBig.mk 0 ([]))
  else
    some (TBig.mk p0 r1)

def big_Of_L2 : (Int × (List Int)) → Option ((Int × (List Int)) ⊕ (((List Int))))
  | (s4b, l5b) =>
    if decide (s4b > 0) then
      (appL 8 l5b [IntKind.i64.wrap (bitI .and .u64 s4b 1048575)]).bind fun x9 =>
      (shrI .u64 s4b 20).bind fun x11 =>
      some (.inl (x11, x9))
    else
      some (.inr l5b)

def big_Of (p0 : Int) : Option (TBig) :=
  (if decide (p0 < 0) then
    some ((-1), IntKind.u64.wrap (0 - (IntKind.u64.wrap p0)))
  else
    some (1, IntKind.u64.wrap p0)).bind fun q => match q with
  | (s3j1, s4j1) =>
    (loopL (big_Of_L2) (s4j1, [])).bind fun l5bx =>
    (big_signed s3j1 l5bx).bind fun r13 =>
    some r13

def frac_Int (p0 : Int) : Option (TFrac) :=
  (big_Of p0).bind fun r1 =>
  (big_Of 1).bind fun r2 =>
  some (TFrac.mk r1 r2)

def math_bits_Len32 (p0 : Int) : Option (Int) :=
  (if decide (p0 ≥ 65536) then
    (shrI .u32 p0 16).bind fun x10 =>
    some (x10, 16)
  else
    some (p0, 0)).bind fun q => match q with
  | (s0j1, s2j1) =>
    if decide (s0j1 ≥ 256) then
      (shrI .u32 s0j1 8).bind fun x3 =>
      (P.sidx cst0 (IntKind.u8.wrap x3)).bind fun x5 =>
      some (IntKind.i64.wrap ((IntKind.i64.wrap (s2j1 + 8)) + (IntKind.i64.wrap x5)))
    else
      (P.sidx cst0 (IntKind.u8.wrap s0j1)).bind fun x7 =>
      some (IntKind.i64.wrap (s2j1 + (IntKind.i64.wrap x7)))

def math_bits_Len64 (p0 : Int) : Option (Int) :=
  (if decide (p0 ≥ 4294967296) then
    (shrI .u64 p0 32).bind fun x14 =>
    some (x14, 32)
  else
    some (p0, 0)).bind fun q => match q with
  | (s0j1, s2j1) =>
    (if decide (s0j1 ≥ 65536) then
      (shrI .u64 s0j1 16).bind fun x11 =>
      some (x11, IntKind.i64.wrap (s2j1 + 16))
    else
      some (s0j1, s2j1)).bind fun q => match q with
    | (s0j2, s2j2) =>
      if decide (s0j2 ≥ 256) then
        (shrI .u64 s0j2 8).bind fun x4 =>
        (P.sidx cst0 (IntKind.u8.wrap x4)).bind fun x6 =>
        some (IntKind.i64.wrap ((IntKind.i64.wrap (s2j2 + 8)) + (IntKind.i64.wrap x6)))
      else
        (P.sidx cst0 (IntKind.u8.wrap s0j2)).bind fun x8 =>
        some (IntKind.i64.wrap (s2j2 + (IntKind.i64.wrap x8)))

def math_bits_Len (p0 : Int) : Option (Int) :=
  (math_bits_Len64 p0).bind fun r1 =>
  some r1

def big_Right_L1 (p0 : TBig) : (Int) → Option ((Int) ⊕ ((Unit) ⊕ (Bool)))
  | s12a =>
    if decide (s12a < (p0.f_Digits.length : Int)) then
      (P.idx p0.f_Digits s12a).bind fun x7 =>
      if decide (x7 < 0) then
        some (.inr (.inr false))
      else
        if decide (x7 > 1048575) then
          some (.inr (.inr false))
        else
          some (.inl (IntKind.i64.wrap (s12a + 1)))
    else
      some (.inr (.inl ()))

def big_Right (p0 : TBig) : Option (Bool) :=
  (loopL (big_Right_L1 p0) 0).bind fun q => match q with
  | (.inl _) =>
    if ((p0.f_Digits.length : Int) == 0) then
      some (p0.f_Sign == 0)
    else
      if (p0.f_Sign == 1) then
        (P.idx p0.f_Digits (IntKind.i64.wrap ((p0.f_Digits.length : Int) - 1))).bind fun x12 =>
        some (x12 != 0)
      else
        if (p0.f_Sign == (-1)) then
          (P.idx p0.f_Digits (IntKind.i64.wrap ((p0.f_Digits.length : Int) - 1))).bind fun x14 =>
          some (x14 != 0)
        else
          some false
  | (.inr ra) =>
    some ra

def big_checked (p0 : Bool) (p1 : TBig) : Option (TBig × Int) :=
  if (!p0) then
    some ((TBig.mk 0 ([])), 1)
  else
    some (p1, 0)

def slices_Clone (p0 : (List Int)) : Option (List Int) := appL 8 [] p0

def cmp_isNaN (p0 : Int) : Option (Bool) :=
  some (p0 != p0)

def cmp_Compare (p0 : Int) (p1 : Int) : Option (Int) :=
  (cmp_isNaN p0).bind fun r1 =>
  (cmp_isNaN p1).bind fun r2 =>
  if r1 then
    if r2 then
      some 0
    else
      some (-1)
  else
    if r2 then
      some 1
    else
      if decide (p0 < p1) then
        some (-1)
      else
        if decide (p0 > p1) then
          some 1
        else
          some 0

def big_compare_L1 (p0 : (List Int)) (p1 : (List Int)) : (Int) → Option ((Int) ⊕ ((Unit) ⊕ (Int)))
  | s5a =>
    if decide (s5a ≥ 0) then
      (P.idx p0 s5a).bind fun x10 =>
      (P.idx p1 s5a).bind fun x11 =>
      if (x10 != x11) then
        (cmp_Compare x10 x11).bind fun r13 =>
        some (.inr (.inr r13))
      else
        some (.inl (IntKind.i64.wrap (s5a - 1)))
    else
      some (.inr (.inl ()))

def big_compare (p0 : (List Int)) (p1 : (List Int)) : Option (Int) :=
  if ((p0.length : Int) != (p1.length : Int)) then
    (cmp_Compare (p0.length : Int) (p1.length : Int)).bind fun r2 =>
    some r2
  else
    (loopL (big_compare_L1 p0 p1) (IntKind.i64.wrap ((p0.length : Int) - 1))).bind fun q => match q with
    | (.inl _) =>
      some 0
    | (.inr ra) =>
      some ra

def big_short_L1 (p0 : (List Int)) (p1 : Int) : (Int × Int × (List Int)) → Option ((Int × Int × (List Int)) ⊕ ((Int × (List Int))))
  | (s7a, s8a, l6a) =>
    if decide (s8a ≥ 0) then
      (shlI .i64 s7a 20).bind fun x15 =>
      (P.idx p0 s8a).bind fun x17 =>
      (divI .i64 (bitI .or .i64 x15 x17) p1).bind fun x18 =>
      (P.idx l6a s8a).bind fun x20 =>
      (modI .i64 (bitI .or .i64 x15 x17) p1).bind fun x22 =>
      some (.inl (x22, IntKind.i64.wrap (s8a - 1), (l6a.set (s8a).toNat x18)))
    else
      some (.inr (s7a, l6a))

def big_short (p0 : (List Int)) (p1 : Int) : Option ((List Int) × Int) :=
  (mkL 8 (p0.length : Int) (p0.length : Int) 0).bind fun x1 =>
  (loopL (big_short_L1 p0 p1) (0, IntKind.i64.wrap ((p0.length : Int) - 1), x1)).bind fun q => match q with
  | (s7ax, l6ax) =>
    (big_trim l6ax).bind fun r24 =>
    some (r24, s7ax)

def big_mul_L3 (p1 : (List Int)) (s20a : Int) (x22 : Int) : (Int × Int × (List Int)) → Option ((Int × Int × (List Int)) ⊕ ((Int × (List Int))))
  | (s8c, s27c, l5c) =>
    if decide (s27c < (p1.length : Int)) then
      (P.idx p1 s27c).bind fun x31 =>
      (P.idx l5c (IntKind.i64.wrap (s20a + s27c))).bind fun x32 =>
      (shrI .i64 (IntKind.i64.wrap ((IntKind.i64.wrap (x32 + (IntKind.i64.wrap (x22 * x31)))) + s8c)) 20).bind fun x33 =>
      some (.inl (x33, IntKind.i64.wrap (s27c + 1), (l5c.set (IntKind.i64.wrap (s20a + s27c)).toNat (bitI .and .i64 (IntKind.i64.wrap ((IntKind.i64.wrap (x32 + (IntKind.i64.wrap (x22 * x31)))) + s8c)) 1048575))))
    else
      some (.inr (s8c, l5c))

def big_mul_L1 (p0 : (List Int)) (p1 : (List Int)) : (Int × (List Int)) → Option ((Int × (List Int)) ⊕ (((List Int))))
  | (s20a, l5a) =>
    if decide (s20a < (p0.length : Int)) then
      (P.idx p0 s20a).bind fun x22 =>
      (loopL (big_mul_L3 p1 s20a x22) (0, 0, l5a)).bind fun q => match q with
      | (s8cx, l5cx) =>
        (P.idx l5cx (IntKind.i64.wrap (s20a + (p1.length : Int)))).bind fun x36 =>
        some (.inl (IntKind.i64.wrap (s20a + 1), (l5cx.set (IntKind.i64.wrap (s20a + (p1.length : Int))).toNat (IntKind.i64.wrap (x36 + s8cx)))))
    else
      some (.inr l5a)

def big_mul (p0 : (List Int)) (p1 : (List Int)) : Option ((List Int)) :=
  (mkL 8 (IntKind.i64.wrap ((p0.length : Int) + (p1.length : Int))) (IntKind.i64.wrap ((p0.length : Int) + (p1.length : Int))) 0).bind fun x1 =>
  (loopL (big_mul_L1 p0 p1) (0, x1)).bind fun l5ax =>
  (big_trim l5ax).bind fun r39 =>
  some r39

def big_settle_w_L1 (p0 : (List Int)) (p1 : (List Int)) (p2 : Int) : (Int × Int × (List Int)) → Option ((Int × Int × (List Int)) ⊕ ((Int × (List Int))))
  | (s7a, s14a, l0a) =>
    if decide (s14a < ((p0).length : Int)) then
      (P.idx l0a s14a).bind fun x11 =>
      (if decide (s14a < (p1.length : Int)) then
        (P.idx p1 s14a).bind fun x17 =>
        some (IntKind.i64.wrap ((IntKind.i64.wrap (x11 - s7a)) - (IntKind.i64.wrap (p2 * x17))))
      else
        some (IntKind.i64.wrap (x11 - s7a))).bind fun s9j3 =>
      (shrI .i64 s9j3 20).bind fun x14 =>
      some (.inl (IntKind.i64.wrap (0 - x14), IntKind.i64.wrap (s14a + 1), (l0a.set (s14a).toNat (bitI .and .i64 s9j3 1048575))))
    else
      some (.inr (s7a, l0a))

def big_settle_w_L4 (p1 : (List Int)) (l0ax : (List Int)) : (Int × Int × (List Int)) → Option ((Int × Int × (List Int)) ⊕ (((List Int))))
  | (s10d, s49d, l0d) =>
    if decide (s49d < ((l0ax).length : Int)) then
      (P.idx l0d s49d).bind fun x29 =>
      (if decide (s49d < (p1.length : Int)) then
        (P.idx p1 s49d).bind fun x35 =>
        some (IntKind.i64.wrap ((IntKind.i64.wrap (s10d + x29)) + x35))
      else
        some (IntKind.i64.wrap (s10d + x29))).bind fun s10j6 =>
      (shrI .i64 s10j6 20).bind fun x32 =>
      some (.inl (x32, IntKind.i64.wrap (s49d + 1), (l0d.set (s49d).toNat (bitI .and .i64 s10j6 1048575))))
    else
      some (.inr l0d)

def big_settle_w_B (p0 : (List Int)) (p1 : (List Int)) (p2 : Int) : Option ((List Int) × (Int)) :=
  (loopL (big_settle_w_L1 p0 p1 p2) (0, 0, p0)).bind fun q => match q with
  | (s7ax, l0ax) =>
    if (s7ax == 0) then
      some (l0ax, p2)
    else
      (loopL (big_settle_w_L4 p1 l0ax) (0, 0, l0ax)).bind fun l0dx =>
      some (l0dx, IntKind.i64.wrap (p2 - 1))

def big_settle_w (p0 : (List Int)) (p1 : (List Int)) (p2 : Int) : Option ((List Int) × (Int)) := (big_settle_w_B p0 p1 p2).bind fun r => if r.1.length = p0.length then some r else none

theorem len_big_settle_w {p0 : (List Int)} {p1 : (List Int)} {p2 : Int} {r : (List Int) × (Int)} (h : big_settle_w p0 p1 p2 = some r) : r.1.length = p0.length := by
  unfold big_settle_w at h
  obtain ⟨q, hq, h⟩ := bindS h
  split at h
  · cases h; assumption
  · cases h

def big_div_L1 (p1 : (List Int)) : (Int) → Option ((Int) ⊕ ((Int)))
  | s8a =>
    (P.idx p1 (IntKind.i64.wrap ((p1.length : Int) - 1))).bind fun x12 =>
    if decide ((IntKind.i64.wrap (x12 * s8a)) < 524288) then
      some (.inl (IntKind.i64.wrap (s8a * 2)))
    else
      some (.inr s8a)

def big_div_L7 (r19 : (List Int)) (s13c : Int) (l9c : (List Int)) (x64 : Int) : (Int × Int) → Option ((Int × Int) ⊕ ((Int)))
  | (s15g, s16g) =>
    (if decide (s15g ≥ 1048576) then
      some true
    else
      if decide (s16g < 1048576) then
        (P.idx r19 (IntKind.i64.wrap (((r19).length : Int) - 2))).bind fun x83 =>
        (shlI .i64 s16g 20).bind fun x84 =>
        (P.idx l9c (IntKind.i64.wrap ((IntKind.i64.wrap (s13c + ((r19).length : Int))) - 2))).bind fun x86 =>
        some (decide ((IntKind.i64.wrap (s15g * x83)) > (bitI .or .i64 x84 x86)))
      else
        some false).bind fun s137j9 =>
    if s137j9 then
      some (.inl (IntKind.i64.wrap (s15g - 1), IntKind.i64.wrap (s16g + x64)))
    else
      some (.inr s15g)

def big_div_L3 (r19 : (List Int)) : (Int × (List Int) × (List Int)) → Option ((Int × (List Int) × (List Int)) ⊕ (((List Int) × (List Int))))
  | (s13c, l9c, l12c) =>
    if decide (s13c ≥ 0) then
      (P.idx l9c (IntKind.i64.wrap (s13c + ((r19).length : Int)))).bind fun x60 =>
      (shlI .i64 x60 20).bind fun x61 =>
      (P.idx l9c (IntKind.i64.wrap ((IntKind.i64.wrap (s13c + ((r19).length : Int))) - 1))).bind fun x63 =>
      (P.idx r19 (IntKind.i64.wrap (((r19).length : Int) - 1))).bind fun x64 =>
      (divI .i64 (bitI .or .i64 x61 x63) x64).bind fun x65 =>
      (modI .i64 (bitI .or .i64 x61 x63) x64).bind fun x67 =>
      (loopL (big_div_L7 r19 s13c l9c x64) (x65, x67)).bind fun s15gx =>
      (slc l9c s13c (IntKind.i64.wrap ((IntKind.i64.wrap (s13c + ((r19).length : Int))) + 1))).bind fun x87 =>
      (big_settle_w x87 r19 s15gx).bind fun r90 =>
      (P.idx l12c s13c).bind fun x92 =>
      some (.inl (IntKind.i64.wrap (s13c - 1), (l9c.take (s13c).toNat ++ (r90.1 ++ l9c.drop (IntKind.i64.wrap ((IntKind.i64.wrap (s13c + ((r19).length : Int))) + 1)).toNat)), (l12c.set (s13c).toNat r90.2)))
    else
      some (.inr (l9c, l12c))

def big_div (p0 : (List Int)) (p1 : (List Int)) : Option ((List Int) × (List Int)) :=
  (big_compare p0 p1).bind fun r1 =>
  if decide (r1 < 0) then
    (slices_Clone p0).bind fun r3 =>
    some ([], r3)
  else
    if ((p1.length : Int) == 1) then
      (P.idx p1 0).bind fun x5 =>
      (big_short p0 x5).bind fun r6 =>
      (big_trim ([r6.2])).bind fun r8 =>
      some (r6.1, r8)
    else
      (loopL (big_div_L1 p1) 1).bind fun s8ax =>
      (big_mul p0 ([s8ax])).bind fun r15 =>
      (appL 8 r15 [0]).bind fun x16 =>
      (big_mul p1 ([s8ax])).bind fun r19 =>
      (if (((x16).length : Int) == (p0.length : Int)) then
        (appL 8 x16 [0]).bind fun x98 =>
        some x98
      else
        some x16).bind fun l9j2 =>
      (mkL 8 (IntKind.i64.wrap (((l9j2).length : Int) - ((r19).length : Int))) (IntKind.i64.wrap (((l9j2).length : Int) - ((r19).length : Int))) 0).bind fun x21 =>
      (loopL (big_div_L3 r19) (IntKind.i64.wrap (((x21).length : Int) - 1), l9j2, x21)).bind fun q => match q with
      | (l9cx, l12cx) =>
        (big_trim l9cx).bind fun r94 =>
        (big_short r94 s8ax).bind fun r95 =>
        (big_trim l12cx).bind fun r96 =>
        some (r96, r95.1)

def big_Gcd_L2 : ((List Int) × (List Int)) → Option (((List Int) × (List Int)) ⊕ (((List Int))))
  | (s6b, s7b) =>
    if decide ((s7b.length : Int) > 0) then
      (big_div s6b s7b).bind fun r11 =>
      some (.inl (s7b, r11.2))
    else
      some (.inr s6b)

def big_Gcd (p0 : TBig) (p1 : TBig) : Option (TBig × Int) :=
  (big_Right p0).bind fun r1 =>
  (if (!r1) then
    some true
  else
    (big_Right p1).bind fun r16 =>
    some (!r16)).bind fun s17j1 =>
  if s17j1 then
    (big_checked false (TBig.mk 0 ([]))).bind fun r5 =>
    some (r5.1, r5.2)
  else
    (slices_Clone p0.f_Digits).bind fun r6 =>
    (loopL (big_Gcd_L2) (r6, p1.f_Digits)).bind fun s6bx =>
    (slices_Clone s6bx).bind fun r12 =>
    (big_signed 1 r12).bind fun r13 =>
    (big_checked true r13).bind fun r14 =>
    some (r14.1, r14.2)

def big_Int_L2 (p0 : TBig) : (Int × Int) → Option ((Int × Int) ⊕ ((Int) ⊕ (Int × Bool)))
  | (s4b, s19b) =>
    if decide (s19b < (p0.f_Digits.length : Int)) then
      (P.idx p0.f_Digits s19b).bind fun x13 =>
      (if (s19b == 3) then
        some (decide (x13 > 8))
      else
        some false).bind fun s29j4 =>
      if s29j4 then
        some (.inr (.inr (0, false)))
      else
        (shlI .u64 (IntKind.u64.wrap x13) (IntKind.i64.wrap (20 * s19b))).bind fun x16 =>
        some (.inl (bitI .or .u64 s4b x16, IntKind.i64.wrap (s19b + 1)))
    else
      some (.inr (.inl s4b))

def big_Int (p0 : TBig) : Option (Int × Bool) :=
  (big_Right p0).bind fun r1 =>
  (if (!r1) then
    some true
  else
    some (decide ((p0.f_Digits.length : Int) > 4))).bind fun s15j1 =>
  if s15j1 then
    some (0, false)
  else
    (loopL (big_Int_L2 p0) (0, 0)).bind fun q => match q with
    | (.inl s4bx) =>
      (if decide (p0.f_Sign < 0) then
        some (decide (s4bx ≤ 9223372036854775808))
      else
        some false).bind fun s38j5 =>
      if s38j5 then
        some (IntKind.i64.wrap (IntKind.u64.wrap (0 - s4bx)), true)
      else
        if decide (p0.f_Sign ≥ 0) then
          if decide (s4bx < 9223372036854775808) then
            some (IntKind.i64.wrap s4bx, true)
          else
            some (0, false)
        else
          some (0, false)
    | (.inr rb) =>
      some rb

def frac_one (p0 : TBig) : Option (Bool) :=
  (big_Int p0).bind fun r1 =>
  if r1.2 then
    some (r1.1 == 1)
  else
    some false

def frac_Right (p0 : TFrac) : Option (Bool) :=
  (big_Right p0.f_P).bind fun r1 =>
  (if (!r1) then
    some true
  else
    (big_Right p0.f_Q).bind fun r8 =>
    if (!r8) then
      some true
    else
      some (p0.f_Q.f_Sign != 1)).bind fun s20j1 =>
  if s20j1 then
    some false
  else
    (big_Gcd p0.f_P p0.f_Q).bind fun r4 =>
    if (r4.2 == 0) then
      (frac_one r4.1).bind fun r6 =>
      some r6
    else
      some false

def target_Edits_1 (p0 : TFrac) : Option (Bool) :=
  (frac_Right p0).bind fun r1 =>
  some (!r1)

def slices_IndexFunc_target_Edits_1_L1 (p0 : (List TFrac)) : (Int) → Option ((Int) ⊕ ((Unit) ⊕ (Int)))
  | s8a =>
    if decide (s8a < (p0.length : Int)) then
      (P.idx p0 s8a).bind fun x7 =>
      (target_Edits_1 x7).bind fun r8 =>
      if r8 then
        some (.inr (.inr s8a))
      else
        some (.inl (IntKind.i64.wrap (s8a + 1)))
    else
      some (.inr (.inl ()))

def slices_IndexFunc_target_Edits_1 (p0 : (List TFrac)) : Option (Int) :=
  (loopL (slices_IndexFunc_target_Edits_1_L1 p0) 0).bind fun q => match q with
  | (.inl _) =>
    some (-1)
  | (.inr ra) =>
    some ra

def slices_ContainsFunc_target_Edits_1 (p0 : (List TFrac)) : Option (Bool) :=
  (slices_IndexFunc_target_Edits_1 p0).bind fun r1 =>
  some (decide (r1 ≥ 0))

def target_Edits (p0 : (List TFrac)) : Option (Int) :=
  (math_bits_Len (IntKind.u64.wrap (p0.length : Int))).bind fun r1 =>
  if decide ((IntKind.i64.wrap (r1 - 1)) < 0) then
    some (-1)
  else
    if decide ((IntKind.i64.wrap (r1 - 1)) > 8) then
      some (-1)
    else
      (shlI .i64 1 (IntKind.i64.wrap (r1 - 1))).bind fun x4 =>
      if ((p0.length : Int) != x4) then
        some (-1)
      else
        (slices_ContainsFunc_target_Edits_1 p0).bind fun r7 =>
        if r7 then
          some (-1)
        else
          some (IntKind.i64.wrap (r1 - 1))

def big_Mul (p0 : TBig) (p1 : TBig) : Option (TBig × Int) :=
  (big_Right p0).bind fun r1 =>
  (if (!r1) then
    some true
  else
    (big_Right p1).bind fun r10 =>
    some (!r10)).bind fun s13j1 =>
  if s13j1 then
    (big_checked false (TBig.mk 0 ([]))).bind fun r5 =>
    some (r5.1, r5.2)
  else
    (big_mul p0.f_Digits p1.f_Digits).bind fun r6 =>
    (big_signed (IntKind.i64.wrap (p0.f_Sign * p1.f_Sign)) r6).bind fun r7 =>
    (big_checked true r7).bind fun r8 =>
    some (r8.1, r8.2)

def frac_times (p0 : TBig) (p1 : TBig) : Option (TBig) :=
  (big_Mul p0 p1).bind fun r1 =>
  some r1.1

def big_Compare (p0 : TBig) (p1 : TBig) : Option (Int) :=
  (big_Right p0).bind fun r1 =>
  (if (!r1) then
    some true
  else
    (big_Right p1).bind fun r8 =>
    some (!r8)).bind fun s12j1 =>
  if s12j1 then
    some 0
  else
    if (p0.f_Sign != p1.f_Sign) then
      (cmp_Compare p0.f_Sign p1.f_Sign).bind fun r5 =>
      some r5
    else
      (big_compare p0.f_Digits p1.f_Digits).bind fun r6 =>
      some (IntKind.i64.wrap (p0.f_Sign * r6))

def frac_Compare (p0 : TFrac) (p1 : TFrac) : Option (Int) :=
  (frac_Right p0).bind fun r1 =>
  (if (!r1) then
    some true
  else
    (frac_Right p1).bind fun r8 =>
    some (!r8)).bind fun s12j1 =>
  if s12j1 then
    some 0
  else
    (frac_times p0.f_P p1.f_Q).bind fun r4 =>
    (frac_times p1.f_P p0.f_Q).bind fun r5 =>
    (big_Compare r4 r5).bind fun r6 =>
    some r6

def target_goal_reached (p0 : Tgoal) (p1 : Int) : Option (Bool) :=
  (P.idx p0.f_values p1).bind fun x1 =>
  (frac_Compare x1 p0.f_target).bind fun r2 =>
  some (decide (r2 ≤ 0))

def target_list_L1 (p0 : Int) : (Int × (List Int)) → Option ((Int × (List Int)) ⊕ (((List Int))))
  | (s6a, l3a) =>
    if decide (s6a < 8) then
      (shrI .i64 p0 s6a).bind fun x9 =>
      if ((bitI .and .i64 x9 1) == 1) then
        (appL 8 l3a [s6a]).bind fun x12 =>
        some (.inl (IntKind.i64.wrap (s6a + 1), x12))
      else
        some (.inl (IntKind.i64.wrap (s6a + 1), l3a))
    else
      some (.inr l3a)

def target_list (p0 : Int) : Option ((List Int)) :=
  (loopL (target_list_L1 p0) (0, [])).bind fun l3ax =>
  some l3ax

def slices_nextPowerOfTwo (p0 : Int) : Option (Int) :=
  (math_bits_Len (IntKind.u64.wrap p0)).bind fun r1 =>
  (shlI .u64 1 r1).bind fun x2 =>
  some x2

def slices_Compare_L1 (p0 : (List Int)) (p1 : (List Int)) : (Int) → Option ((Int) ⊕ ((Unit) ⊕ (Int)))
  | s11a =>
    if decide (s11a < (p0.length : Int)) then
      (P.idx p0 s11a).bind fun x9 =>
      if decide (s11a ≥ (p1.length : Int)) then
        some (.inr (.inr 1))
      else
        (P.idx p1 s11a).bind fun x11 =>
        (cmp_Compare x9 x11).bind fun r12 =>
        if (r12 != 0) then
          some (.inr (.inr r12))
        else
          some (.inl (IntKind.i64.wrap (s11a + 1)))
    else
      some (.inr (.inl ()))

def slices_Compare (p0 : (List Int)) (p1 : (List Int)) : Option (Int) :=
  (loopL (slices_Compare_L1 p0 p1) 0).bind fun q => match q with
  | (.inl _) =>
    if decide ((p0.length : Int) < (p1.length : Int)) then
      some (-1)
    else
      some 0
  | (.inr ra) =>
    some ra

def target_compare (p0 : (List Int)) (p1 : (List Int)) : Option (Int) :=
  if ((p0.length : Int) != (p1.length : Int)) then
    some (IntKind.i64.wrap ((p0.length : Int) - (p1.length : Int)))
  else
    (slices_Compare p0 p1).bind fun r2 =>
    some r2

def slices_insertionSortCmpFunc_target_compare_w_L5 (p1 : Int) : (Int × (List (List Int))) → Option ((Int × (List (List Int))) ⊕ (((List (List Int)))))
  | (s9e, l0e) =>
    (if decide (s9e > p1) then
      (P.idx l0e s9e).bind fun x47 =>
      (P.idx l0e (IntKind.i64.wrap (s9e - 1))).bind fun x48 =>
      (target_compare x47 x48).bind fun r49 =>
      some (decide (r49 < 0))
    else
      some false).bind fun s34j7 =>
    if s34j7 then
      (P.idx l0e (IntKind.i64.wrap (s9e - 1))).bind fun x41 =>
      (P.idx l0e s9e).bind fun x42 =>
      (P.idx (l0e.set (s9e).toNat x41) (IntKind.i64.wrap (s9e - 1))).bind fun x44 =>
      some (.inl (IntKind.i64.wrap (s9e - 1), ((l0e.set (s9e).toNat x41).set (IntKind.i64.wrap (s9e - 1)).toNat x42)))
    else
      some (.inr l0e)

def slices_insertionSortCmpFunc_target_compare_w_L1 (p1 : Int) (p2 : Int) : (Int × (List (List Int))) → Option ((Int × (List (List Int))) ⊕ (((List (List Int)))))
  | (s8a, l0a) =>
    if decide (s8a < p2) then
      (loopL (slices_insertionSortCmpFunc_target_compare_w_L5 p1) (s8a, l0a)).bind fun l0ex =>
      some (.inl (IntKind.i64.wrap (s8a + 1), l0ex))
    else
      some (.inr l0a)

def slices_insertionSortCmpFunc_target_compare_w_B (p0 : (List (List Int))) (p1 : Int) (p2 : Int) : Option ((List (List Int)) × (Unit)) :=
  (loopL (slices_insertionSortCmpFunc_target_compare_w_L1 p1 p2) (IntKind.i64.wrap (p1 + 1), p0)).bind fun l0ax =>
  some (l0ax, ())

def slices_insertionSortCmpFunc_target_compare_w (p0 : (List (List Int))) (p1 : Int) (p2 : Int) : Option ((List (List Int)) × (Unit)) := (slices_insertionSortCmpFunc_target_compare_w_B p0 p1 p2).bind fun r => if r.1.length = p0.length then some r else none

theorem len_slices_insertionSortCmpFunc_target_compare_w {p0 : (List (List Int))} {p1 : Int} {p2 : Int} {r : (List (List Int)) × (Unit)} (h : slices_insertionSortCmpFunc_target_compare_w p0 p1 p2 = some r) : r.1.length = p0.length := by
  unfold slices_insertionSortCmpFunc_target_compare_w at h
  obtain ⟨q, hq, h⟩ := bindS h
  split at h
  · cases h; assumption
  · cases h

def slices_pdqsortCmpFunc_target_compare_w_L1 (p0 : (List (List Int))) (p1 : Int) (p2 : Int) (p3 : Int) : (Unit) → Option ((Unit) ⊕ (((List (List Int)) × (Unit))))
  | _ =>
    if decide ((IntKind.i64.wrap (p2 - p1)) ≤ 12) then
      (slices_insertionSortCmpFunc_target_compare_w p0 p1 p2).bind fun r9 =>
      some (.inr (r9.1, ()))
    else
      if (p3 == 0) then
        none
      else
        none

def slices_pdqsortCmpFunc_target_compare_w_B (p0 : (List (List Int))) (p1 : Int) (p2 : Int) (p3 : Int) : Option ((List (List Int)) × (Unit)) :=
  (loopL (slices_pdqsortCmpFunc_target_compare_w_L1 p0 p1 p2 p3) ()).bind fun ra =>
  some ra

def slices_pdqsortCmpFunc_target_compare_w (p0 : (List (List Int))) (p1 : Int) (p2 : Int) (p3 : Int) : Option ((List (List Int)) × (Unit)) := (slices_pdqsortCmpFunc_target_compare_w_B p0 p1 p2 p3).bind fun r => if r.1.length = p0.length then some r else none

theorem len_slices_pdqsortCmpFunc_target_compare_w {p0 : (List (List Int))} {p1 : Int} {p2 : Int} {p3 : Int} {r : (List (List Int)) × (Unit)} (h : slices_pdqsortCmpFunc_target_compare_w p0 p1 p2 p3 = some r) : r.1.length = p0.length := by
  unfold slices_pdqsortCmpFunc_target_compare_w at h
  obtain ⟨q, hq, h⟩ := bindS h
  split at h
  · cases h; assumption
  · cases h

def slices_SortFunc_target_compare_w_B (p0 : (List (List Int))) : Option ((List (List Int)) × (Unit)) :=
  (math_bits_Len (IntKind.u64.wrap ((p0).length : Int))).bind fun r1 =>
  (slices_pdqsortCmpFunc_target_compare_w p0 0 ((p0).length : Int) r1).bind fun r3 =>
  some (r3.1, ())

def slices_SortFunc_target_compare_w (p0 : (List (List Int))) : Option ((List (List Int)) × (Unit)) := (slices_SortFunc_target_compare_w_B p0).bind fun r => if r.1.length = p0.length then some r else none

theorem len_slices_SortFunc_target_compare_w {p0 : (List (List Int))} {r : (List (List Int)) × (Unit)} (h : slices_SortFunc_target_compare_w p0 = some r) : r.1.length = p0.length := by
  unfold slices_SortFunc_target_compare_w at h
  obtain ⟨q, hq, h⟩ := bindS h
  split at h
  · cases h; assumption
  · cases h

def target_find_target_goal_reached_L5 (p1c0 : Tgoal) (s11a : Int) : (Bool × Int) → Option ((Bool × Int) ⊕ ((Bool)))
  | (s7e, s8e) =>
    (if s7e then
      some (s8e != s11a)
    else
      some false).bind fun s26j7 =>
    if s26j7 then
      (target_goal_reached p1c0 s8e).bind fun r31 =>
      if (s8e == 0) then
        some (.inr (!r31))
      else
        some (.inl ((!r31), bitI .and .i64 (IntKind.i64.wrap (s8e - 1)) s11a))
    else
      some (.inr s7e)

def target_find_target_goal_reached_L1 (p1c0 : Tgoal) (x1 : Int) : (Int × (List (List Int))) → Option ((Int × (List (List Int))) ⊕ (((List (List Int)))))
  | (s11a, l5a) =>
    if decide (s11a < x1) then
      (target_goal_reached p1c0 s11a).bind fun r22 =>
      (loopL (target_find_target_goal_reached_L5 p1c0 s11a) (r22, bitI .and .i64 (IntKind.i64.wrap (s11a - 1)) s11a)).bind fun s7ex =>
      if s7ex then
        (target_list s11a).bind fun r35 =>
        (appL 24 l5a [r35]).bind fun x36 =>
        some (.inl (IntKind.i64.wrap (s11a + 1), x36))
      else
        some (.inl (IntKind.i64.wrap (s11a + 1), l5a))
    else
      some (.inr l5a)

def target_find_target_goal_reached (p0 : Int) (p1c0 : Tgoal) : Option ((List (List Int))) :=
  (shlI .i64 1 p0).bind fun x1 =>
  (loopL (target_find_target_goal_reached_L1 p1c0 x1) (0, [])).bind fun l5ax =>
  (slices_SortFunc_target_compare_w l5ax).bind fun r39 =>
  some r39.1

def target_Minimal (p0 : (List TFrac)) (p1 : TFrac) : Option ((List (List Int)) × Int) :=
  (target_Edits p0).bind fun r1 =>
  (if decide (r1 < 0) then
    some true
  else
    (frac_Right p1).bind fun r7 =>
    some (!r7)).bind fun s17j1 =>
  if s17j1 then
    some ([], 1)
  else
    (target_find_target_goal_reached r1 (Tgoal.mk p0 p1)).bind fun r4 =>
    if ((r4.length : Int) == 0) then
      some ([], 4)
    else
      some (r4, 0)

def target_Sets_L1 (r1 : (List (List Int)) × Int) : (Int) → Option ((Int) ⊕ ((Unit) ⊕ ((List (List Int)) × Int)))
  | s18a =>
    if decide (s18a < (r1.1.length : Int)) then
      (P.idx r1.1 s18a).bind fun x10 =>
      (P.idx r1.1 0).bind fun x11 =>
      if decide ((x10.length : Int) > (x11.length : Int)) then
        (slc r1.1 0 s18a).bind fun x13 =>
        some (.inr (.inr (x13, r1.2)))
      else
        some (.inl (IntKind.i64.wrap (s18a + 1)))
    else
      some (.inr (.inl ()))

def target_Sets (p0 : (List TFrac)) (p1 : TFrac) : Option ((List (List Int)) × Int) :=
  (target_Minimal p0 p1).bind fun r1 =>
  (loopL (target_Sets_L1 r1) 0).bind fun q => match q with
  | (.inl _) =>
    some (r1.1, r1.2)
  | (.inr ra) =>
    some ra

def r47_Before_L1 (p0 : (List Int)) (p1 : (List Int)) : (Int) → Option ((Int) ⊕ ((Unit) ⊕ (Bool)))
  | s5a =>
    if decide (s5a < (p0.length : Int)) then
      (P.idx p0 s5a).bind fun x8 =>
      (P.idx p1 s5a).bind fun x9 =>
      if (x8 != x9) then
        some (.inr (.inr (decide (x8 < x9))))
      else
        some (.inl (IntKind.i64.wrap (s5a + 1)))
    else
      some (.inr (.inl ()))

def r47_Before (p0 : (List Int)) (p1 : (List Int)) : Option (Bool) :=
  if ((p0.length : Int) != (p1.length : Int)) then
    some (decide ((p0.length : Int) < (p1.length : Int)))
  else
    (loopL (r47_Before_L1 p0 p1) 0).bind fun q => match q with
    | (.inl _) =>
      some false
    | (.inr ra) =>
      some ra

def r47_Same_L1 (p0 : (List (List Int))) (p1 : (List (List Int))) : (Int) → Option ((Int) ⊕ ((Unit) ⊕ (Bool)))
  | s5a =>
    if decide (s5a < (p0.length : Int)) then
      (P.idx p0 s5a).bind fun x11 =>
      (P.idx p1 s5a).bind fun x12 =>
      (r47_Before x11 x12).bind fun r13 =>
      if r13 then
        some (.inr (.inr false))
      else
        (r47_Before x12 x11).bind fun r15 =>
        if r15 then
          some (.inr (.inr false))
        else
          some (.inl (IntKind.i64.wrap (s5a + 1)))
    else
      some (.inr (.inl ()))

def r47_Same (p0 : (List (List Int))) (p1 : (List (List Int))) : Option (Bool) :=
  if ((p0.length : Int) != (p1.length : Int)) then
    some false
  else
    (loopL (r47_Same_L1 p0 p1) 0).bind fun q => match q with
    | (.inl _) =>
      some true
    | (.inr ra) =>
      some ra

def slices_Equal_L1 (p0 : (List Int)) (p1 : (List Int)) : (Int) → Option ((Int) ⊕ ((Unit) ⊕ (Bool)))
  | s13a =>
    if decide (s13a < (p0.length : Int)) then
      (P.idx p0 s13a).bind fun x8 =>
      (P.idx p1 s13a).bind fun x9 =>
      if (x8 != x9) then
        some (.inr (.inr false))
      else
        some (.inl (IntKind.i64.wrap (s13a + 1)))
    else
      some (.inr (.inl ()))

def slices_Equal (p0 : (List Int)) (p1 : (List Int)) : Option (Bool) :=
  if ((p0.length : Int) != (p1.length : Int)) then
    some false
  else
    (loopL (slices_Equal_L1 p0 p1) 0).bind fun q => match q with
    | (.inl _) =>
      some true
    | (.inr ra) =>
      some ra

def slices_EqualFunc_slices_Equal_L1 (p0 : (List (List Int))) (p1 : (List (List Int))) : (Int) → Option ((Int) ⊕ ((Unit) ⊕ (Bool)))
  | s17a =>
    if decide (s17a < (p0.length : Int)) then
      (P.idx p0 s17a).bind fun x9 =>
      (P.idx p1 s17a).bind fun x10 =>
      (slices_Equal x9 x10).bind fun r11 =>
      if (!r11) then
        some (.inr (.inr false))
      else
        some (.inl (IntKind.i64.wrap (s17a + 1)))
    else
      some (.inr (.inl ()))

def slices_EqualFunc_slices_Equal (p0 : (List (List Int))) (p1 : (List (List Int))) : Option (Bool) :=
  if ((p0.length : Int) != (p1.length : Int)) then
    some false
  else
    (loopL (slices_EqualFunc_slices_Equal_L1 p0 p1) 0).bind fun q => match q with
    | (.inl _) =>
      some true
    | (.inr ra) =>
      some ra

def target_Check (p0 : (List TFrac)) (p1 : TFrac) (p2 : (List (List Int))) : Option (Bool) :=
  (target_Sets p0 p1).bind fun r1 =>
  if (r1.2 == 0) then
    (slices_EqualFunc_slices_Equal r1.1 p2).bind fun r3 =>
    some r3
  else
    some false

def l47_says (p0 : Int) (p1 : (List (List Int))) : Option (Bool) :=
  (frac_Int 10).bind fun r1 =>
  (frac_Int 7).bind fun r2 =>
  (frac_Int 8).bind fun r3 =>
  (frac_Int 4).bind fun r4 =>
  (frac_Int p0).bind fun r5 =>
  (target_Sets ([r1, r2, r3, r4]) r5).bind fun r7 =>
  (target_Minimal ([r1, r2, r3, r4]) r5).bind fun r9 =>
  if (r7.2 == 0) then
    if (r9.2 == 0) then
      (r47_Same r7.1 p1).bind fun r12 =>
      if r12 then
        (r47_Same r9.1 p1).bind fun r14 =>
        if r14 then
          (target_Check ([r1, r2, r3, r4]) r5 p1).bind fun r17 =>
          some r17
        else
          some false
      else
        some false
    else
      some false
  else
    some false

def l47_small : Option (Bool) :=
  (frac_Int 10).bind fun r1 =>
  (frac_Int 7).bind fun r2 =>
  (frac_Int 8).bind fun r3 =>
  (frac_Int 4).bind fun r4 =>
  (frac_Int 3).bind fun r5 =>
  (target_Sets ([r1, r2, r3, r4]) r5).bind fun r7 =>
  (target_Edits ([r1, r2, r3, r4])).bind fun r9 =>
  if (r9 == 2) then
    (l47_says 8 ([[0], [1]])).bind fun r12 =>
    if r12 then
      (l47_says 7 ([[0]])).bind fun r15 =>
      if r15 then
        (l47_says 5 ([[0, 1]])).bind fun r18 =>
        if r18 then
          (l47_says 10 ([[]])).bind fun r21 =>
          if r21 then
            some (r7.2 == 4)
          else
            some false
        else
          some false
      else
        some false
    else
      some false
  else
    some false

def r05_Few (p0 : TFrac) (p1 : Int) : Option (Bool) :=
  if decide ((p0.f_P.f_Digits.length : Int) ≤ p1) then
    some (decide ((p0.f_Q.f_Digits.length : Int) ≤ p1))
  else
    some false

def r47_Few_L1 (p0 : (List TFrac)) : (Int) → Option ((Int) ⊕ ((Unit) ⊕ (Bool)))
  | s5a =>
    (if decide (s5a < (p0.length : Int)) then
      some (decide (s5a < 520))
    else
      some false).bind fun s14j3 =>
    if s14j3 then
      (P.idx p0 s5a).bind fun x10 =>
      (r05_Few x10 3).bind fun r11 =>
      if (!r11) then
        some (.inr (.inr false))
      else
        some (.inl (IntKind.i64.wrap (s5a + 1)))
    else
      some (.inr (.inl ()))

def r47_Few (p0 : (List TFrac)) (p1 : TFrac) : Option (Bool) :=
  (loopL (r47_Few_L1 p0) 0).bind fun q => match q with
  | (.inl _) =>
    (r05_Few p1 3).bind fun r14 =>
    if r14 then
      if decide ((p0.length : Int) ≤ 32) then
        some true
      else
        if decide ((p0.length : Int) ≥ 250) then
          if decide ((p0.length : Int) ≤ 260) then
            some true
          else
            some ((p0.length : Int) == 512)
        else
          some ((p0.length : Int) == 512)
    else
      some false
  | (.inr ra) =>
    some ra

def l47_bits_L1 (p0 : (List Int)) (p1 : Int) : (Int × Int) → Option ((Int × Int) ⊕ ((Int) ⊕ (Int)))
  | (s5a, s6a) =>
    if decide (s6a < (p0.length : Int)) then
      (P.idx p0 s6a).bind fun x13 =>
      (if decide (x13 < 0) then
        some true
      else
        if decide (x13 ≥ p1) then
          some true
        else
          if decide (s6a > 0) then
            (P.idx p0 (if 0 > (IntKind.i64.wrap (s6a - 1)) then 0 else IntKind.i64.wrap (s6a - 1))).bind fun x21 =>
            some (decide (x21 ≥ x13))
          else
            some false).bind fun s42j3 =>
      if s42j3 then
        some (.inr (.inr (-1)))
      else
        (shlI .i64 1 x13).bind fun x16 =>
        some (.inl (bitI .or .i64 s5a x16, IntKind.i64.wrap (s6a + 1)))
    else
      some (.inr (.inl s5a))

def l47_bits (p0 : (List Int)) (p1 : Int) : Option (Int) :=
  (loopL (l47_bits_L1 p0 p1) (0, 0)).bind fun q => match q with
  | (.inl s5ax) =>
    some s5ax
  | (.inr ra) =>
    some ra

def l47_many_L1 : (Int × Int) → Option ((Int × Int) ⊕ ((Int)))
  | (s0a, s3a) =>
    if decide (s0a > 0) then
      (shrI .i64 s0a 1).bind fun x6 =>
      some (.inl (x6, IntKind.i64.wrap (s3a + (bitI .and .i64 s0a 1))))
    else
      some (.inr s3a)

def l47_many (p0 : Int) : Option (Int) :=
  (loopL (l47_many_L1) (p0, 0)).bind fun s3ax =>
  some s3ax

def l47_TargetFewest_L10 (p0 : (List TFrac)) (p1 : TFrac) (x59 : (List Int)) (r60 : Int) : (Int) → Option ((Int) ⊕ ((Unit) ⊕ (Bool)))
  | s19j =>
    if decide (s19j < (x59.length : Int)) then
      (P.idx x59 s19j).bind fun x77 =>
      (shlI .i64 1 x77).bind fun x78 =>
      (P.idx p0 (bitI .andNot .i64 r60 x78)).bind fun x80 =>
      (frac_Compare x80 p1).bind fun r81 =>
      if decide (r81 ≤ 0) then
        some (.inr (.inr false))
      else
        some (.inl (IntKind.i64.wrap (s19j + 1)))
    else
      some (.inr (.inl ()))

def l47_TargetFewest_L4 (p0 : (List TFrac)) (p1 : TFrac) (r4 : Int) (r7 : (List (List Int)) × Int) (x9 : Int) (r12 : Int) (x23 : (List (List Int))) : (Bool × Int) → Option ((Bool × Int) ⊕ ((Bool) ⊕ (Bool)))
  | (s15d, s17d) =>
    if decide (s17d < ((x23).length : Int)) then
      (P.idx x23 s17d).bind fun x59 =>
      (l47_bits x59 r4).bind fun r60 =>
      (if decide (r60 < 0) then
        some true
      else
        some (decide (r60 ≥ (p0.length : Int)))).bind fun s126j8 =>
      if s126j8 then
        some (.inr (.inr false))
      else
        (P.idx p0 r60).bind fun x63 =>
        (frac_Compare x63 p1).bind fun r64 =>
        (if decide (r64 > 0) then
          some true
        else
          if decide (r12 ≤ 0) then
            if decide (s17d < (r7.1.length : Int)) then
              (l47_many x9).bind fun r88 =>
              some (decide (r88 < (x59.length : Int)))
            else
              some false
          else
            some false).bind fun s152j9 =>
        if s152j9 then
          some (.inr (.inr false))
        else
          (loopL (l47_TargetFewest_L10 p0 p1 x59 r60) 0).bind fun q => match q with
          | (.inl _) =>
            if s15d then
              some (.inl (true, IntKind.i64.wrap (s17d + 1)))
            else
              if decide (s17d ≥ (r7.1.length : Int)) then
                some (.inl (((bitI .and .i64 r60 x9) == r60), IntKind.i64.wrap (s17d + 1)))
              else
                some (.inl (false, IntKind.i64.wrap (s17d + 1)))
          | (.inr rj) =>
            some (.inr (.inr rj))
    else
      some (.inr (.inl s15d))

def l47_TargetFewest (p0 : (List TFrac)) (p1 : TFrac) (p2 : Int) : Option (Bool) :=
  (l47_small).bind fun r1 =>
  (r47_Few p0 p1).bind fun r2 =>
  if (!r2) then
    some r1
  else
    (target_Edits p0).bind fun r4 =>
    (if decide (r4 < 0) then
      some true
    else
      if decide (r4 > 5) then
        some true
      else
        (shlI .i64 1 (if 5 < (if 0 > r4 then 0 else r4) then 5 else (if 0 > r4 then 0 else r4))).bind fun x95 =>
        if ((p0.length : Int) != x95) then
          some true
        else
          (frac_Right p1).bind fun r98 =>
          some (!r98)).bind fun s47j1 =>
    if s47j1 then
      some r1
    else
      (target_Sets p0 p1).bind fun r7 =>
      (target_Minimal p0 p1).bind fun r8 =>
      (modI .i64 (IntKind.i64.wrap p2) (p0.length : Int)).bind fun x9 =>
      (P.idx p0 x9).bind fun x11 =>
      (frac_Compare x11 p1).bind fun r12 =>
      (if (r7.2 != 0) then
        some true
      else
        some (r8.2 != 0)).bind fun s78j2 =>
      if s78j2 then
        (if r1 then
          if (r7.2 == 4) then
            if (r8.2 == 4) then
              if (!(decide (r12 ≤ 0))) then
                if ((r7.1.length : Int) == 0) then
                  some ((r8.1.length : Int) == 0)
                else
                  some false
              else
                some false
            else
              some false
          else
            some false
        else
          some false).bind fun s6j3 =>
        some s6j3
      else
        (appL 24 [] r7.1).bind fun _ =>
        (appL 24 r7.1 r8.1).bind fun x23 =>
        (loopL (l47_TargetFewest_L4 p0 p1 r4 r7 x9 r12 x23) (false, 0)).bind fun q => match q with
        | (.inl s15dx) =>
          if r1 then
            if (!(decide (r12 ≤ 0))) then
              some true
            else
              some s15dx
          else
            some false
        | (.inr rd) =>
          some rd

def l47_TargetOrder_L10 (r4 : Int) (r8 : (List (List Int)) × Int) (s11f : Int) (x58 : (List Int)) : (Int) → Option ((Int) ⊕ ((Unit) ⊕ (Bool)))
  | s12j =>
    if decide (s12j < s11f) then
      (P.idx r8.1 s12j).bind fun x74 =>
      (l47_bits x74 r4).bind fun r75 =>
      (l47_bits x58 r4).bind fun r76 =>
      (r47_Before x74 x58).bind fun r77 =>
      if (!r77) then
        some (.inr (.inr false))
      else
        if decide (r75 < 0) then
          some (.inr (.inr false))
        else
          if decide (r76 < 0) then
            some (.inr (.inr false))
          else
            if ((bitI .and .i64 r75 r76) == r75) then
              some (.inr (.inr false))
            else
              if ((bitI .and .i64 r75 r76) == r76) then
                some (.inr (.inr false))
              else
                some (.inl (IntKind.i64.wrap (s12j + 1)))
    else
      some (.inr (.inl ()))

def l47_TargetOrder_L6 (r4 : Int) (r7 : (List (List Int)) × Int) (r8 : (List (List Int)) × Int) (x19 : (List Int)) : (Int) → Option ((Int) ⊕ ((Unit) ⊕ (Bool)))
  | s11f =>
    if decide (s11f < (r8.1.length : Int)) then
      (P.idx r8.1 s11f).bind fun x58 =>
      (if (!((decide (s11f < (r7.1.length : Int))) == ((x58.length : Int) == (x19.length : Int)))) then
        some true
      else
        if decide (s11f < (r7.1.length : Int)) then
          (P.idx r7.1 (if (IntKind.i64.wrap ((r7.1.length : Int) - 1)) < s11f then IntKind.i64.wrap ((r7.1.length : Int) - 1) else s11f)).bind fun x85 =>
          (slc r8.1 s11f (IntKind.i64.wrap (s11f + 1))).bind fun x86 =>
          (r47_Same ([x85]) x86).bind fun r89 =>
          some (!r89)
        else
          some false).bind fun s168j9 =>
      if s168j9 then
        some (.inr (.inr false))
      else
        (loopL (l47_TargetOrder_L10 r4 r8 s11f x58) 0).bind fun q => match q with
        | (.inl _) =>
          some (.inl (IntKind.i64.wrap (s11f + 1)))
        | (.inr rj) =>
          some (.inr (.inr rj))
    else
      some (.inr (.inl ()))

def l47_TargetOrder (p0 : (List TFrac)) (p1 : TFrac) : Option (Bool) :=
  (l47_small).bind fun r1 =>
  (r47_Few p0 p1).bind fun r2 =>
  if (!r2) then
    some r1
  else
    (target_Edits p0).bind fun r4 =>
    (if decide (r4 < 0) then
      some true
    else
      if decide (r4 > 5) then
        some true
      else
        some ((p0.length : Int) == 0)).bind fun s33j1 =>
    if s33j1 then
      some r1
    else
      (target_Sets p0 p1).bind fun r7 =>
      (target_Minimal p0 p1).bind fun r8 =>
      (if (r7.2 != 0) then
        some true
      else
        some (r8.2 != 0)).bind fun s52j2 =>
      if s52j2 then
        (if r1 then
          if (r7.2 == r8.2) then
            (target_Check p0 p1 r7.1).bind fun r14 =>
            some (!r14)
          else
            some false
        else
          some false).bind fun s4j3 =>
        some s4j3
      else
        (if ((r7.1.length : Int) == 0) then
          some true
        else
          if decide ((r7.1.length : Int) > (r8.1.length : Int)) then
            some true
          else
            (target_Check p0 p1 r7.1).bind fun r94 =>
            if (!r94) then
              some true
            else
              (slc r7.1 1 (r7.1.length : Int)).bind fun x96 =>
              (target_Check p0 p1 x96).bind fun r98 =>
              if r98 then
                some true
              else
                (slc r7.1 0 (IntKind.i64.wrap ((r7.1.length : Int) - 1))).bind fun x100 =>
                (target_Check p0 p1 x100).bind fun r102 =>
                some r102).bind fun s99j4 =>
        if s99j4 then
          some false
        else
          (P.idx p0 0).bind fun x17 =>
          (frac_Compare x17 p1).bind fun r18 =>
          (P.idx r7.1 0).bind fun x19 =>
          (if (!((decide (r18 ≤ 0)) == ((x19.length : Int) == 0))) then
            some true
          else
            if ((x19.length : Int) == 0) then
              some ((r8.1.length : Int) != 1)
            else
              some false).bind fun s123j5 =>
          if s123j5 then
            some false
          else
            (loopL (l47_TargetOrder_L6 r4 r7 r8 x19) 0).bind fun q => match q with
            | (.inl _) =>
              some r1
            | (.inr rf) =>
              some rf

def l47_swapped (p0 : Int) (p1 : Int) (p2 : Int) : Option (Int) :=
  (shlI .i64 1 p1).bind fun x1 =>
  (shlI .i64 1 p2).bind fun x3 =>
  (shrI .i64 p0 p1).bind fun x5 =>
  (shlI .i64 (bitI .and .i64 x5 1) p2).bind fun x7 =>
  (shrI .i64 p0 p2).bind fun x9 =>
  (shlI .i64 (bitI .and .i64 x9 1) p1).bind fun x11 =>
  some (bitI .or .i64 (bitI .or .i64 (bitI .andNot .i64 p0 (bitI .or .i64 x1 x3)) x7) x11)

def l47_TargetSwaps_L2 (p0 : (List TFrac)) (x7 : Int) (x9 : Int) : (Int × (List TFrac)) → Option ((Int × (List TFrac)) ⊕ (((List TFrac))))
  | (s14b, l13b) =>
    if decide (s14b < (p0.length : Int)) then
      (l47_swapped s14b x7 x9).bind fun r20 =>
      (P.idx p0 s14b).bind fun x21 =>
      (P.idx l13b r20).bind fun x22 =>
      some (.inl (IntKind.i64.wrap (s14b + 1), (l13b.set (r20).toNat x21)))
    else
      some (.inr l13b)

def l47_TargetSwaps_L6 (r4 : Int) (x7 : Int) (x9 : Int) (r24 : (List (List Int)) × Int) (r25 : (List (List Int)) × Int) (s19d : Int) : (Bool × Int) → Option ((Bool × Int) ⊕ ((Bool)))
  | (s20f, s21f) =>
    if decide (s21f < (r25.1.length : Int)) then
      (P.idx r24.1 s19d).bind fun x62 =>
      (l47_bits x62 r4).bind fun r63 =>
      (P.idx r25.1 s21f).bind fun x64 =>
      (l47_bits x64 r4).bind fun r65 =>
      if s20f then
        some (.inl (true, IntKind.i64.wrap (s21f + 1)))
      else
        if decide (r63 ≥ 0) then
          if decide (r65 ≥ 0) then
            (l47_swapped r63 x7 x9).bind fun r69 =>
            some (.inl ((r69 == r65), IntKind.i64.wrap (s21f + 1)))
          else
            some (.inl (false, IntKind.i64.wrap (s21f + 1)))
        else
          some (.inl (false, IntKind.i64.wrap (s21f + 1)))
    else
      some (.inr s20f)

def l47_TargetSwaps_L4 (r4 : Int) (x7 : Int) (x9 : Int) (r24 : (List (List Int)) × Int) (r25 : (List (List Int)) × Int) : (Int) → Option ((Int) ⊕ ((Unit) ⊕ (Bool)))
  | s19d =>
    if decide (s19d < (r24.1.length : Int)) then
      (loopL (l47_TargetSwaps_L6 r4 x7 x9 r24 r25 s19d) (false, 0)).bind fun s20fx =>
      if (!s20fx) then
        some (.inr (.inr false))
      else
        some (.inl (IntKind.i64.wrap (s19d + 1)))
    else
      some (.inr (.inl ()))

def l47_TargetSwaps (p0 : (List TFrac)) (p1 : TFrac) (p2 : Int) (p3 : Int) : Option (Bool) :=
  (l47_small).bind fun r1 =>
  (r47_Few p0 p1).bind fun r2 =>
  if (!r2) then
    some r1
  else
    (target_Edits p0).bind fun r4 =>
    (if decide (r4 < 1) then
      some true
    else
      if decide (r4 > 5) then
        some true
      else
        (shlI .i64 1 (if 5 < (if 0 > r4 then 0 else r4) then 5 else (if 0 > r4 then 0 else r4))).bind fun x74 =>
        some ((p0.length : Int) != x74)).bind fun s46j1 =>
    if s46j1 then
      some r1
    else
      (modI .i64 (IntKind.i64.wrap p2) r4).bind fun x7 =>
      (modI .i64 (IntKind.i64.wrap p3) r4).bind fun x9 =>
      (mkL 64 (p0.length : Int) (p0.length : Int) (TFrac.mk (TBig.mk 0 ([])) (TBig.mk 0 ([])))).bind fun x11 =>
      (loopL (l47_TargetSwaps_L2 p0 x7 x9) (0, x11)).bind fun l13bx =>
      (target_Minimal p0 p1).bind fun r24 =>
      (target_Minimal l13bx p1).bind fun r25 =>
      (if (r24.2 != r25.2) then
        some true
      else
        some ((r24.1.length : Int) != (r25.1.length : Int))).bind fun s96j3 =>
      if s96j3 then
        some false
      else
        (loopL (l47_TargetSwaps_L4 r4 x7 x9 r24 r25) 0).bind fun q => match q with
        | (.inl _) =>
          some r1
        | (.inr rd) =>
          some rd

def big_Neg (p0 : TBig) : Option (TBig) :=
  (big_Right p0).bind fun r1 =>
  if (!r1) then
    some (TBig.mk 0 ([]))
  else
    (slices_Clone p0.f_Digits).bind fun r3 =>
    (big_signed (IntKind.i64.wrap (0 - p0.f_Sign)) r3).bind fun r4 =>
    some r4

def frac_slim (p0 : TBig) : Option (TBig) :=
  (big_Neg p0).bind fun r1 =>
  (big_Neg r1).bind fun r2 =>
  some r2

def frac_either (p0 : TFrac) (p1 : TFrac) (p2 : Int) : Option (TFrac × Int) :=
  (frac_Right p0).bind fun r1 =>
  (if (!r1) then
    some true
  else
    (frac_Right p1).bind fun r11 =>
    some (!r11)).bind fun s15j1 =>
  if s15j1 then
    some ((TFrac.mk (TBig.mk 0 ([])) (TBig.mk 0 ([]))), 1)
  else
    (frac_Compare p0 p1).bind fun r4 =>
    if decide ((IntKind.i64.wrap (r4 * p2)) < 0) then
      (frac_slim p1.f_P).bind fun r6 =>
      (frac_slim p1.f_Q).bind fun r7 =>
      some ((TFrac.mk r6 r7), 0)
    else
      (frac_slim p0.f_P).bind fun r8 =>
      (frac_slim p0.f_Q).bind fun r9 =>
      some ((TFrac.mk r8 r9), 0)

def frac_Min (p0 : TFrac) (p1 : TFrac) : Option (TFrac × Int) :=
  (frac_either p0 p1 (-1)).bind fun r1 =>
  some (r1.1, r1.2)

def l47_TargetGreater_L3 (p0 : (List TFrac)) : (Int × Int × (List Int) × Int × (List Int)) → Option ((Int × Int × (List Int) × Int × (List Int)) ⊕ ((Int × (List Int) × Int × (List Int))))
  | (s14c, r13_0c, r13_1c, r13_2c, r13_3c) =>
    if decide (s14c < (p0.length : Int)) then
      (P.idx p0 s14c).bind fun x16 =>
      (frac_Min (TFrac.mk (TBig.mk r13_0c r13_1c) (TBig.mk r13_2c r13_3c)) x16).bind fun r17 =>
      some (.inl (IntKind.i64.wrap (s14c + 1), r17.1.f_P.f_Sign, r17.1.f_P.f_Digits, r17.1.f_Q.f_Sign, r17.1.f_Q.f_Digits))
    else
      some (.inr (r13_0c, r13_1c, r13_2c, r13_3c))

def l47_TargetGreater (p0 : (List TFrac)) (p1 : TFrac) (p2 : TFrac) : Option (Bool) :=
  (l47_small).bind fun r1 =>
  (r47_Few p0 p1).bind fun r2 =>
  (if (!r2) then
    some true
  else
    (r47_Few p0 p2).bind fun r40 =>
    some (!r40)).bind fun s27j1 =>
  if s27j1 then
    some r1
  else
    (target_Edits p0).bind fun r5 =>
    (if decide (r5 < 0) then
      some true
    else
      if decide (r5 > 5) then
        some true
      else
        if ((p0.length : Int) == 0) then
          some true
        else
          (frac_Right p1).bind fun r34 =>
          if (!r34) then
            some true
          else
            (frac_Right p2).bind fun r36 =>
            if (!r36) then
              some true
            else
              (frac_Compare p1 p2).bind fun r38 =>
              some (decide (r38 > 0))).bind fun s57j2 =>
    if s57j2 then
      some r1
    else
      (target_Sets p0 p1).bind fun r8 =>
      (target_Sets p0 p2).bind fun r9 =>
      (P.idx p0 0).bind fun x10 =>
      (loopL (l47_TargetGreater_L3 p0) (0, x10.f_P.f_Sign, x10.f_P.f_Digits, x10.f_Q.f_Sign, x10.f_Q.f_Digits)).bind fun q => match q with
      | (r13_0cx, r13_1cx, r13_2cx, r13_3cx) =>
        (target_Sets p0 (TFrac.mk (TBig.mk r13_0cx r13_1cx) (TBig.mk r13_2cx r13_3cx))).bind fun r18 =>
        (if (r18.2 != 0) then
          some true
        else
          if ((r18.1.length : Int) == 0) then
            some true
          else
            (frac_Compare (TFrac.mk (TBig.mk r13_0cx r13_1cx) (TBig.mk r13_2cx r13_3cx)) p1).bind fun r30 =>
            some (!((r8.2 == 0) == (decide (r30 ≤ 0))))).bind fun s110j4 =>
        if s110j4 then
          some false
        else
          if r1 then
            if (r8.2 != 0) then
              some true
            else
              if (r9.2 == 0) then
                if decide ((r8.1.length : Int) > 0) then
                  if decide ((r9.1.length : Int) > 0) then
                    (P.idx r9.1 0).bind fun x26 =>
                    (P.idx r8.1 0).bind fun x27 =>
                    some (decide ((x26.length : Int) ≤ (x27.length : Int)))
                  else
                    some false
                else
                  some false
              else
                some false
          else
            some false
end Go.Proofs.Ytadpbhbkdnfbpaa.P
