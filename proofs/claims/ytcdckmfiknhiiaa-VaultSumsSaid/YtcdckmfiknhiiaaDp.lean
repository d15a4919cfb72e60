/- The functions of the program as plain functions (written by wip/dec.py). -/
import Derived.Test.YtcdckmfiknhiiaaCp
namespace Go.Proofs.Ytcdckmfiknhiiaa.P
open Go.RowKit
set_option linter.unusedVariables false

structure TPut where
  f_IsPair : Bool
  f_Text : ByteArray
  f_Value : Int
  f_Blind : Int

structure TThing where
  f_Text : ByteArray
  f_Value : Int
  f_Blind : Int
  f_Left : Int
  f_Right : Int

structure TVault where
  f_Things : (List TThing)

def vault_within (p0 : Int) (p1 : Int) : Option (Bool) :=
  if decide (p0 ≥ 0) then
    some (decide (p0 ≤ p1))
  else
    some false

def vault_leaf (p0 : TThing) : Option (Bool) :=
  if (p0.f_Left == (-1)) then
    if (p0.f_Right == (-1)) then
      if decide ((p0.f_Text.size : Int) ≤ 8000) then
        (vault_within p0.f_Value 1099511627776).bind fun r4 =>
        if r4 then
          (vault_within p0.f_Blind 1099511627776).bind fun r6 =>
          some r6
        else
          some false
      else
        some false
    else
      some false
  else
    some false

def vault_pair (p0 : (List TThing)) (p1 : Int) (p2 : Int) : Option (TThing × Int) :=
  (vault_within p1 (IntKind.i64.wrap ((p0.length : Int) - 1))).bind fun r1 =>
  if (!r1) then
    some ((TThing.mk (ByteArray.mk #[]) 0 0 0 0), 4)
  else
    (vault_within p2 (IntKind.i64.wrap ((p0.length : Int) - 1))).bind fun r3 =>
    if (!r3) then
      some ((TThing.mk (ByteArray.mk #[]) 0 0 0 0), 4)
    else
      (P.idx p0 p1).bind fun x5 =>
      (P.idx p0 p2).bind fun x6 =>
      if decide ((IntKind.i64.wrap (x5.f_Value + x6.f_Value)) > 1125899906842624) then
        some ((TThing.mk (ByteArray.mk #[]) 0 0 0 0), 3)
      else
        if decide ((IntKind.i64.wrap (x5.f_Blind + x6.f_Blind)) > 1125899906842624) then
          some ((TThing.mk (ByteArray.mk #[]) 0 0 0 0), 3)
        else
          some ((TThing.mk (ByteArray.mk #[]) (IntKind.i64.wrap (x5.f_Value + x6.f_Value)) (IntKind.i64.wrap (x5.f_Blind + x6.f_Blind)) p1 p2), 0)

def vault_Sound_L1 (p0 : TVault) : (Int) → Option ((Int) ⊕ ((Unit) ⊕ (Bool)))
  | s14a =>
    if decide (s14a < (p0.f_Things.length : Int)) then
      (P.idx p0.f_Things s14a).bind fun x13 =>
      (vault_leaf x13).bind fun r14 =>
      if r14 then
        some (.inl (IntKind.i64.wrap (s14a + 1)))
      else
        (slc p0.f_Things 0 s14a).bind fun x16 =>
        (vault_pair x16 x13.f_Left x13.f_Right).bind fun r18 =>
        if (r18.2 != 0) then
          some (.inr (.inr false))
        else
          if (!((x13.f_Text == r18.1.f_Text) && ((x13.f_Value == r18.1.f_Value) && ((x13.f_Blind == r18.1.f_Blind) && ((x13.f_Left == r18.1.f_Left) && (x13.f_Right == r18.1.f_Right)))))) then
            some (.inr (.inr false))
          else
            some (.inl (IntKind.i64.wrap (s14a + 1)))
    else
      some (.inr (.inl ()))

def vault_Sound (p0 : TVault) : Option (Bool) :=
  if decide ((p0.f_Things.length : Int) > 2000) then
    some false
  else
    (loopL (vault_Sound_L1 p0) 0).bind fun q => match q with
    | (.inl _) =>
      some true
    | (.inr ra) =>
      some ra

def slices_Clone (p0 : (List TThing)) : Option (List TThing) := appL 48 [] p0

def slices_Clip (p0 : (List TThing)) : Option (List TThing) := if p0.length ≤ maxLen then some p0 else none

def vault_put (p0 : TVault) (p1 : TThing) : Option (TVault × Int × Int) :=
  (slices_Clone p0.f_Things).bind fun r1 =>
  (slices_Clip r1).bind fun r2 =>
  (appL 48 r2 [p1]).bind fun x3 =>
  some ((TVault.mk x3), (p0.f_Things.length : Int), 0)

def vault_Leaf (p0 : TVault) (p1 : ByteArray) (p2 : Int) (p3 : Int) : Option (TVault × Int × Int) :=
  (vault_Sound p0).bind fun r1 =>
  if (!r1) then
    some ((TVault.mk ([])), (-1), 1)
  else
    (vault_leaf (TThing.mk p1 p2 p3 (-1) (-1))).bind fun r3 =>
    if (!r3) then
      some ((TVault.mk ([])), (-1), 1)
    else
      if decide ((p0.f_Things.length : Int) ≥ 2000) then
        some ((TVault.mk ([])), (-1), 6)
      else
        (vault_put p0 (TThing.mk p1 p2 p3 (-1) (-1))).bind fun r6 =>
        some (r6.1, r6.2.1, r6.2.2)

def vault_Pair (p0 : TVault) (p1 : Int) (p2 : Int) : Option (TVault × Int × Int) :=
  (vault_Sound p0).bind fun r1 =>
  if (!r1) then
    some ((TVault.mk ([])), (-1), 1)
  else
    (vault_pair p0.f_Things p1 p2).bind fun r3 =>
    if (r3.2 != 4) then
      if decide ((p0.f_Things.length : Int) ≥ 2000) then
        some ((TVault.mk ([])), (-1), 6)
      else
        if (r3.2 != 0) then
          some ((TVault.mk ([])), (-1), r3.2)
        else
          (vault_put p0 r3.1).bind fun r7 =>
          some (r7.1, r7.2.1, r7.2.2)
    else
      if (r3.2 != 0) then
        some ((TVault.mk ([])), (-1), r3.2)
      else
        (vault_put p0 r3.1).bind fun r9 =>
        some (r9.1, r9.2.1, r9.2.2)

def vault_Opens (p0 : TVault) (p1 : Int) (p2 : ByteArray) (p3 : Int) (p4 : Int) : Option (Bool) :=
  (vault_Sound p0).bind fun r1 =>
  if (!r1) then
    some false
  else
    (vault_within p1 (IntKind.i64.wrap ((p0.f_Things.length : Int) - 1))).bind fun r3 =>
    if (!r3) then
      some false
    else
      (P.idx p0.f_Things p1).bind fun x5 =>
      if (x5.f_Text.toList == p2.toList) then
        if (x5.f_Value == p3) then
          some (x5.f_Blind == p4)
        else
          some false
      else
        some false

def r35_Few_L1 (p0 : TVault) (p1 : Int) : (Int) → Option ((Int) ⊕ ((Unit) ⊕ (Bool)))
  | s5a =>
    if decide (s5a < (p0.f_Things.length : Int)) then
      if decide (s5a < p1) then
        (P.idx p0.f_Things s5a).bind fun x8 =>
        if decide ((x8.f_Text.size : Int) > 100) then
          some (.inr (.inr false))
        else
          some (.inl (IntKind.i64.wrap (s5a + 1)))
      else
        some (.inr (.inl ()))
    else
      some (.inr (.inl ()))

def r35_Few (p0 : TVault) (p1 : Int) : Option (Bool) :=
  (loopL (r35_Few_L1 p0 p1) 0).bind fun q => match q with
  | (.inl _) =>
    some (decide ((p0.f_Things.length : Int) ≤ p1))
  | (.inr ra) =>
    some ra

def r35_Leafy (p0 : TThing) : Option (Bool) :=
  if (p0.f_Left == (-1)) then
    some (p0.f_Right == (-1))
  else
    some false

def l35_sane : Option (Bool) :=
  (vault_Leaf (TVault.mk ([])) (ByteArray.mk #[97]) 5 1).bind fun r2 =>
  (vault_Leaf r2.1 (ByteArray.mk #[98]) 7 2).bind fun r3 =>
  (vault_Pair r3.1 0 1).bind fun r4 =>
  (vault_Pair r4.1 2 2).bind fun r5 =>
  (vault_Pair r5.1 0 4).bind fun r6 =>
  (vault_Leaf r5.1 (ByteArray.mk #[]) (-1) 0).bind fun r7 =>
  if (r2.2.2 != 0) then
    some false
  else
    if (r3.2.2 != 0) then
      some false
    else
      if (r4.2.2 != 0) then
        some false
      else
        if (r5.2.2 != 0) then
          some false
        else
          if (r2.2.1 != 0) then
            some false
          else
            if (r3.2.1 != 1) then
              some false
            else
              if (r4.2.1 != 2) then
                some false
              else
                if (r5.2.1 != 3) then
                  some false
                else
                  if (r6.2.2 != 4) then
                    some false
                  else
                    if (r7.2.2 != 1) then
                      some false
                    else
                      (vault_Sound r5.1).bind fun r18 =>
                      if r18 then
                        (vault_Opens r5.1 2 (ByteArray.mk #[]) 12 3).bind fun r20 =>
                        if r20 then
                          (vault_Opens r5.1 2 (ByteArray.mk #[97]) 12 3).bind fun r22 =>
                          if (!r22) then
                            (vault_Opens r5.1 0 (ByteArray.mk #[97]) 5 1).bind fun r24 =>
                            if r24 then
                              (vault_Opens r5.1 3 (ByteArray.mk #[]) 24 6).bind fun r26 =>
                              some r26
                            else
                              some false
                          else
                            some false
                        else
                          some false
                      else
                        some false

def l35_VaultKeeps_L1 (p1 : (List TPut)) (r1 : Bool) : (Int × (List TThing)) → Option ((Int × (List TThing)) ⊕ (((List TThing)) ⊕ (Bool)))
  | (s15a, r14_0a) =>
    if decide (s15a < (p1.length : Int)) then
      (P.idx p1 s15a).bind fun x30 =>
      if decide ((x30.f_Text.size : Int) > 100) then
        some (.inr (.inr r1))
      else
        (vault_Leaf (TVault.mk r14_0a) x30.f_Text x30.f_Value x30.f_Blind).bind fun r32 =>
        if x30.f_IsPair then
          (vault_Pair (TVault.mk r14_0a) x30.f_Value x30.f_Blind).bind fun r34 =>
          if (r34.2.2 != 0) then
            if (r34.2.1 != (-1)) then
              some (.inr (.inr false))
            else
              if ((r34.1.f_Things.length : Int) != 0) then
                some (.inr (.inr false))
              else
                some (.inl (IntKind.i64.wrap (s15a + 1), r14_0a))
          else
            if (r34.2.1 != (r14_0a.length : Int)) then
              some (.inr (.inr false))
            else
              if ((r34.1.f_Things.length : Int) != (IntKind.i64.wrap (r34.2.1 + 1))) then
                some (.inr (.inr false))
              else
                (vault_Sound r34.1).bind fun r40 =>
                if (!r40) then
                  some (.inr (.inr false))
                else
                  some (.inl (IntKind.i64.wrap (s15a + 1), r34.1.f_Things))
        else
          if (r32.2.2 != 0) then
            if (r32.2.1 != (-1)) then
              some (.inr (.inr false))
            else
              if ((r32.1.f_Things.length : Int) != 0) then
                some (.inr (.inr false))
              else
                some (.inl (IntKind.i64.wrap (s15a + 1), r14_0a))
          else
            if (r32.2.1 != (r14_0a.length : Int)) then
              some (.inr (.inr false))
            else
              if ((r32.1.f_Things.length : Int) != (IntKind.i64.wrap (r32.2.1 + 1))) then
                some (.inr (.inr false))
              else
                (vault_Sound r32.1).bind fun r47 =>
                if (!r47) then
                  some (.inr (.inr false))
                else
                  some (.inl (IntKind.i64.wrap (s15a + 1), r32.1.f_Things))
    else
      some (.inr (.inl r14_0a))

def l35_VaultKeeps (p0 : TVault) (p1 : (List TPut)) (p2 : Int) (p3 : ByteArray) (p4 : Int) (p5 : Int) : Option (Bool) :=
  (l35_sane).bind fun r1 =>
  (r35_Few p0 40).bind fun r2 =>
  if (!r2) then
    some r1
  else
    if decide ((p1.length : Int) > 10) then
      some r1
    else
      if decide ((p3.size : Int) > 100) then
        some r1
      else
        (vault_Sound p0).bind fun r6 =>
        if (!r6) then
          some r1
        else
          (loopL (l35_VaultKeeps_L1 p1 r1) (0, p0.f_Things)).bind fun q => match q with
          | (.inl r14_0ax) =>
            if decide (p2 < 0) then
              some r1
            else
              if decide (p2 ≥ (p0.f_Things.length : Int)) then
                some r1
              else
                (P.idx p0.f_Things p2).bind fun x51 =>
                (vault_Opens p0 p2 p3 p4 p5).bind fun r52 =>
                if (x51.f_Text.toList == p3.toList) then
                  if (x51.f_Value == p4) then
                    if (!(r52 == (x51.f_Blind == p5))) then
                      some false
                    else
                      if r1 then
                        (vault_Opens (TVault.mk r14_0ax) p2 p3 p4 p5).bind fun r57 =>
                        if (r57 == r52) then
                          (vault_Opens (TVault.mk r14_0ax) p2 x51.f_Text x51.f_Value x51.f_Blind).bind fun r59 =>
                          some r59
                        else
                          some false
                      else
                        some false
                  else
                    if (!(r52 == false)) then
                      some false
                    else
                      if r1 then
                        (vault_Opens (TVault.mk r14_0ax) p2 p3 p4 p5).bind fun r62 =>
                        if (r62 == r52) then
                          (vault_Opens (TVault.mk r14_0ax) p2 x51.f_Text x51.f_Value x51.f_Blind).bind fun r64 =>
                          some r64
                        else
                          some false
                      else
                        some false
                else
                  if (!(r52 == false)) then
                    some false
                  else
                    if r1 then
                      (vault_Opens (TVault.mk r14_0ax) p2 p3 p4 p5).bind fun r67 =>
                      if (r67 == r52) then
                        (vault_Opens (TVault.mk r14_0ax) p2 x51.f_Text x51.f_Value x51.f_Blind).bind fun r69 =>
                        some r69
                      else
                        some false
                    else
                      some false
          | (.inr ra) =>
            some ra

def l35_VaultSums_L1 (p0 : TVault) (x7 : Int) : (Int × Int × (List Int)) → Option ((Int × Int × (List Int)) ⊕ ((Int) ⊕ (Bool)))
  | (s8a, s9a, l7a) =>
    if decide (s9a ≥ 0) then
      (P.idx p0.f_Things s9a).bind fun x32 =>
      (r35_Leafy x32).bind fun r33 =>
      if (!r33) then
        (P.idx l7a x32.f_Left).bind fun x35 =>
        (P.idx l7a s9a).bind fun x36 =>
        (P.idx (l7a.set (x32.f_Left).toNat (IntKind.i64.wrap (x35 + x36))) x32.f_Right).bind fun x38 =>
        (P.idx (l7a.set (x32.f_Left).toNat (IntKind.i64.wrap (x35 + x36))) s9a).bind fun x39 =>
        some (.inl (s8a, IntKind.i64.wrap (s9a - 1), ((l7a.set (x32.f_Left).toNat (IntKind.i64.wrap (x35 + x36))).set (x32.f_Right).toNat (IntKind.i64.wrap (x38 + x39)))))
      else
        if decide (x32.f_Value > 0) then
          (P.idx l7a s9a).bind fun x42 =>
          if decide (x42 > 0) then
            (P.idx p0.f_Things x7).bind fun x44 =>
            (divI .i64 x44.f_Value x32.f_Value).bind fun x45 =>
            if decide (x42 > x45) then
              some (.inr (.inr false))
            else
              some (.inl (IntKind.i64.wrap (s8a + (IntKind.i64.wrap (x42 * x32.f_Value))), IntKind.i64.wrap (s9a - 1), l7a))
          else
            some (.inl (s8a, IntKind.i64.wrap (s9a - 1), l7a))
        else
          some (.inl (s8a, IntKind.i64.wrap (s9a - 1), l7a))
    else
      some (.inr (.inl s8a))

def l35_VaultSums (p0 : TVault) (p1 : Int) : Option (Bool) :=
  (l35_sane).bind fun r1 =>
  (r35_Few p0 40).bind fun r2 =>
  if (!r2) then
    some r1
  else
    if ((p0.f_Things.length : Int) == 0) then
      some r1
    else
      (vault_Sound p0).bind fun r5 =>
      if (!r5) then
        some r1
      else
        (modI .i64 (IntKind.i64.wrap p1) (p0.f_Things.length : Int)).bind fun x7 =>
        (mkL 8 (p0.f_Things.length : Int) (p0.f_Things.length : Int) 0).bind fun x9 =>
        (P.idx x9 x7).bind fun x11 =>
        (loopL (l35_VaultSums_L1 p0 x7) (0, x7, (x9.set (x7).toNat 1))).bind fun q => match q with
        | (.inl s8ax) =>
          if r1 then
            (P.idx p0.f_Things x7).bind fun x49 =>
            some (s8ax == x49.f_Value)
          else
            some false
        | (.inr ra) =>
          some ra
end Go.Proofs.Ytcdckmfiknhiiaa.P
