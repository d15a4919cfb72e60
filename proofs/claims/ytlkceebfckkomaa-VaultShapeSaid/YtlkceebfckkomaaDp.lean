/- The functions of the program as plain functions (written by wip/dec.py). -/
import Derived.Test.YtlkceebfckkomaaCp
namespace Go.Proofs.Ytlkceebfckkomaa.P
open Go.RowKit
set_option linter.unusedVariables false

structure TThing where
  f_Text : ByteArray
  f_Value : Int
  f_Blind : Int
  f_Left : Int
  f_Right : Int

structure TVault where
  f_Things : (List TThing)

def vault_within (p0 : Int) (p1 : Int) : Option (Bool) :=
  if decide (p0 ≥ 0) then
    some (decide (p0 ≤ p1))
  else
    some false

def vault_leaf (p0 : TThing) : Option (Bool) :=
  (if (p0.f_Left == (-1)) then
    some (p0.f_Right == (-1))
  else
    some false).bind fun s3j1 =>
  if s3j1 then
    if decide ((p0.f_Text.size : Int) ≤ 8000) then
      (vault_within p0.f_Value 1099511627776).bind fun r4 =>
      if r4 then
        (vault_within p0.f_Blind 1099511627776).bind fun r6 =>
        some r6
      else
        some false
    else
      some false
  else
    some false

def vault_pair (p0 : (List TThing)) (p1 : Int) (p2 : Int) : Option (TThing × Int) :=
  (vault_within p1 (IntKind.i64.wrap ((p0.length : Int) - 1))).bind fun r1 =>
  (if (!r1) then
    some true
  else
    (vault_within p2 (IntKind.i64.wrap ((p0.length : Int) - 1))).bind fun r9 =>
    some (!r9)).bind fun s24j1 =>
  if s24j1 then
    some ((TThing.mk (ByteArray.mk #[]) 0 0 0 0), 4)
  else
    (P.idx p0 p1).bind fun x4 =>
    (P.idx p0 p2).bind fun x5 =>
    if decide ((IntKind.i64.wrap (x4.f_Value + x5.f_Value)) > 1125899906842624) then
      some ((TThing.mk (ByteArray.mk #[]) 0 0 0 0), 3)
    else
      if decide ((IntKind.i64.wrap (x4.f_Blind + x5.f_Blind)) > 1125899906842624) then
        some ((TThing.mk (ByteArray.mk #[]) 0 0 0 0), 3)
      else
        some ((TThing.mk (ByteArray.mk #[]) (IntKind.i64.wrap (x4.f_Value + x5.f_Value)) (IntKind.i64.wrap (x4.f_Blind + x5.f_Blind)) p1 p2), 0)

def vault_Sound_L1 (p0 : TVault) : (Int) → Option ((Int) ⊕ ((Unit) ⊕ (Bool)))
  | s14a =>
    if decide (s14a < (p0.f_Things.length : Int)) then
      (P.idx p0.f_Things s14a).bind fun x13 =>
      (vault_leaf x13).bind fun r14 =>
      if r14 then
        some (.inl (IntKind.i64.wrap (s14a + 1)))
      else
        (slc p0.f_Things 0 s14a).bind fun x16 =>
        (vault_pair x16 x13.f_Left x13.f_Right).bind fun r18 =>
        if (r18.2 != 0) then
          some (.inr (.inr false))
        else
          if (!((x13.f_Text == r18.1.f_Text) && ((x13.f_Value == r18.1.f_Value) && ((x13.f_Blind == r18.1.f_Blind) && ((x13.f_Left == r18.1.f_Left) && (x13.f_Right == r18.1.f_Right)))))) then
            some (.inr (.inr false))
          else
            some (.inl (IntKind.i64.wrap (s14a + 1)))
    else
      some (.inr (.inl ()))

def vault_Sound (p0 : TVault) : Option (Bool) :=
  if decide ((p0.f_Things.length : Int) > 2000) then
    some false
  else
    (loopL (vault_Sound_L1 p0) 0).bind fun q => match q with
    | (.inl _) =>
      some true
    | (.inr ra) =>
      some ra

def slices_Clone (p0 : (List TThing)) : Option (List TThing) := appL 48 [] p0

def slices_Clip (p0 : (List TThing)) : Option (List TThing) := if p0.length ≤ maxLen then some p0 else none

def vault_put (p0 : TVault) (p1 : TThing) : Option (TVault × Int × Int) :=
  (slices_Clone p0.f_Things).bind fun r1 =>
  (slices_Clip r1).bind fun r2 =>
  (appL 48 r2 [p1]).bind fun x3 =>
  some ((TVault.mk x3), (p0.f_Things.length : Int), 0)

def vault_Leaf (p0 : TVault) (p1 : ByteArray) (p2 : Int) (p3 : Int) : Option (TVault × Int × Int) :=
  (vault_Sound p0).bind fun r1 =>
  (if (!r1) then
    some true
  else
    (vault_leaf (TThing.mk p1 p2 p3 (-1) (-1))).bind fun r7 =>
    some (!r7)).bind fun s16j1 =>
  if s16j1 then
    some ((TVault.mk ([])), (-1), 1)
  else
    if decide ((p0.f_Things.length : Int) ≥ 2000) then
      some ((TVault.mk ([])), (-1), 6)
    else
      (vault_put p0 (TThing.mk p1 p2 p3 (-1) (-1))).bind fun r5 =>
      some (r5.1, r5.2.1, r5.2.2)

def vault_Pair (p0 : TVault) (p1 : Int) (p2 : Int) : Option (TVault × Int × Int) :=
  (vault_Sound p0).bind fun r1 =>
  if (!r1) then
    some ((TVault.mk ([])), (-1), 1)
  else
    (vault_pair p0.f_Things p1 p2).bind fun r3 =>
    (if (r3.2 != 4) then
      some (decide ((p0.f_Things.length : Int) ≥ 2000))
    else
      some false).bind fun s30j1 =>
    (if s30j1 then
      some 6
    else
      some r3.2).bind fun s10j2 =>
    if (s10j2 != 0) then
      some ((TVault.mk ([])), (-1), s10j2)
    else
      (vault_put p0 r3.1).bind fun r7 =>
      some (r7.1, r7.2.1, r7.2.2)

def vault_Opens (p0 : TVault) (p1 : Int) (p2 : ByteArray) (p3 : Int) (p4 : Int) : Option (Bool) :=
  (vault_Sound p0).bind fun r1 =>
  (if (!r1) then
    some true
  else
    (vault_within p1 (IntKind.i64.wrap ((p0.f_Things.length : Int) - 1))).bind fun r8 =>
    some (!r8)).bind fun s23j1 =>
  if s23j1 then
    some false
  else
    (P.idx p0.f_Things p1).bind fun x4 =>
    if (x4.f_Text.toList == p2.toList) then
      if (x4.f_Value == p3) then
        some (x4.f_Blind == p4)
      else
        some false
    else
      some false

def l35_sane : Option (Bool) :=
  (vault_Leaf (TVault.mk ([])) (ByteArray.mk #[97]) 5 1).bind fun r2 =>
  (vault_Leaf r2.1 (ByteArray.mk #[98]) 7 2).bind fun r3 =>
  (vault_Pair r3.1 0 1).bind fun r4 =>
  (vault_Pair r4.1 2 2).bind fun r5 =>
  (vault_Pair r5.1 0 4).bind fun r6 =>
  (vault_Leaf r5.1 (ByteArray.mk #[]) (-1) 0).bind fun r7 =>
  (if (r2.2.2 != 0) then
    some true
  else
    if (r3.2.2 != 0) then
      some true
    else
      if (r4.2.2 != 0) then
        some true
      else
        if (r5.2.2 != 0) then
          some true
        else
          if (r2.2.1 != 0) then
            some true
          else
            if (r3.2.1 != 1) then
              some true
            else
              if (r4.2.1 != 2) then
                some true
              else
                if (r5.2.1 != 3) then
                  some true
                else
                  if (r6.2.2 != 4) then
                    some true
                  else
                    some (r7.2.2 != 1)).bind fun s92j1 =>
  if s92j1 then
    some false
  else
    (vault_Sound r5.1).bind fun r10 =>
    if r10 then
      (vault_Opens r5.1 2 (ByteArray.mk #[]) 12 3).bind fun r12 =>
      if r12 then
        (vault_Opens r5.1 2 (ByteArray.mk #[97]) 12 3).bind fun r14 =>
        if (!r14) then
          (vault_Opens r5.1 0 (ByteArray.mk #[97]) 5 1).bind fun r16 =>
          if r16 then
            (vault_Opens r5.1 3 (ByteArray.mk #[]) 24 6).bind fun r18 =>
            some r18
          else
            some false
        else
          some false
      else
        some false
    else
      some false

def r35_Few_L1 (p0 : TVault) (p1 : Int) : (Int) → Option ((Int) ⊕ ((Unit) ⊕ (Bool)))
  | s5a =>
    (if decide (s5a < (p0.f_Things.length : Int)) then
      some (decide (s5a < p1))
    else
      some false).bind fun s15j3 =>
    if s15j3 then
      (P.idx p0.f_Things s5a).bind fun x9 =>
      if decide ((x9.f_Text.size : Int) > 100) then
        some (.inr (.inr false))
      else
        some (.inl (IntKind.i64.wrap (s5a + 1)))
    else
      some (.inr (.inl ()))

def r35_Few (p0 : TVault) (p1 : Int) : Option (Bool) :=
  (loopL (r35_Few_L1 p0 p1) 0).bind fun q => match q with
  | (.inl _) =>
    some (decide ((p0.f_Things.length : Int) ≤ p1))
  | (.inr ra) =>
    some ra

def r35_Leafy (p0 : TThing) : Option (Bool) :=
  if (p0.f_Left == (-1)) then
    some (p0.f_Right == (-1))
  else
    some false

def l35_VaultShape_L2 (p0 : TVault) (x5 : Int) (x7 : (List TThing)) : (Int) → Option ((Int) ⊕ ((Unit) ⊕ (Bool)))
  | s10b =>
    if decide (s10b < x5) then
      (P.idx p0.f_Things s10b).bind fun x17 =>
      (vault_Opens (TVault.mk x7) s10b x17.f_Text x17.f_Value x17.f_Blind).bind fun r18 =>
      if (!r18) then
        some (.inr (.inr false))
      else
        some (.inl (IntKind.i64.wrap (s10b + 1)))
    else
      some (.inr (.inl ()))

def l35_VaultShape_L3 (p0 : TVault) (x5 : Int) : (Bool × Int) → Option ((Bool × Int) ⊕ ((Bool)))
  | (s13c, s14c) =>
    if decide (s14c < (p0.f_Things.length : Int)) then
      if s13c then
        some (.inl (true, IntKind.i64.wrap (s14c + 1)))
      else
        (P.idx p0.f_Things s14c).bind fun x33 =>
        if (x33.f_Left == x5) then
          some (.inl (true, IntKind.i64.wrap (s14c + 1)))
        else
          some (.inl ((x33.f_Right == x5), IntKind.i64.wrap (s14c + 1)))
    else
      some (.inr s13c)

def l35_VaultShape (p0 : TVault) (p1 : Int) (p2 : Int) : Option (Bool) :=
  (l35_sane).bind fun r1 =>
  (r35_Few p0 40).bind fun r2 =>
  (if (!r2) then
    some true
  else
    if ((p0.f_Things.length : Int) == 0) then
      some true
    else
      (vault_Sound p0).bind fun r45 =>
      some (!r45)).bind fun s29j1 =>
  if s29j1 then
    some r1
  else
    (modI .i64 (IntKind.i64.wrap p1) (p0.f_Things.length : Int)).bind fun x5 =>
    (slc p0.f_Things 0 x5).bind fun x7 =>
    (vault_Sound (TVault.mk x7)).bind fun r9 =>
    if (!r9) then
      some false
    else
      (loopL (l35_VaultShape_L2 p0 x5 x7) 0).bind fun q => match q with
      | (.inl _) =>
        (appL 48 [] p0.f_Things).bind fun _ =>
        (P.idx p0.f_Things x5).bind fun x22 =>
        (r35_Leafy x22).bind fun r25 =>
        (loopL (l35_VaultShape_L3 p0 x5) ((!r25), 0)).bind fun s13cx =>
        if r1 then
          if (p2 == 0) then
            some true
          else
            if (!s13cx) then
              some true
            else
              (vault_Sound (TVault.mk (p0.f_Things.set (x5).toNat (TThing.mk x22.f_Text (IntKind.i64.wrap (x22.f_Value + (IntKind.i64.wrap p2))) x22.f_Blind x22.f_Left x22.f_Right)))).bind fun r39 =>
              if (!r39) then
                (vault_Opens (TVault.mk (p0.f_Things.set (x5).toNat (TThing.mk x22.f_Text (IntKind.i64.wrap (x22.f_Value + (IntKind.i64.wrap p2))) x22.f_Blind x22.f_Left x22.f_Right))) x5 (ByteArray.mk #[]) 0 0).bind fun r42 =>
                some (!r42)
              else
                some false
        else
          some false
      | (.inr rb) =>
        some rb
end Go.Proofs.Ytlkceebfckkomaa.P
