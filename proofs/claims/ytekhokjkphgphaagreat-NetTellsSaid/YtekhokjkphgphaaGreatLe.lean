import Derived.Test.YtekhokjkphgphaaGreatLd
set_option linter.unusedSimpArgs false
set_option linter.unusedVariables false
set_option linter.defProp false
noncomputable section
open Go.Proofs.Tryz
namespace Go.Proofs.YtekhokjkphgphaaGreat.P
open Go.RowKit
def iY (k:cJ) (h:Int):(Int×Int×(List Int)×Int×(List Int))->Option ((Int×Int×(List Int)×Int×(List Int))⊕((Int×(List Int)×Int×(List Int))⊕(Bool)))
 | (f,a,b,c,d) =>
  if decide (f<(k.aB.length:Int)) then
   (P.idx k.av f).bind fun i =>
   (P.idx i h).bind fun g =>
   (qA g).bind fun j =>
   if (!j) then
    some (.inr (.inr false))
   else
    (nd (aw.mk (aG.mk a b) (aG.mk c d)) g).bind fun e =>
    some (.inl (IntKind.i64.wrap (f+1),e.bR.ak,e.bR.aa,e.bN.ak,e.bN.aa))
  else
   some (.inr (.inl (a,b,c,d)))
def iX (h:cJ):(Int)->Option ((Int)⊕((Unit)⊕(Bool)))
 | f =>
  if decide (f<(h.ah.length:Int)) then
   (jP 0).bind fun a =>
   (aK (iY h f) (0,a.bR.ak,a.bR.aa,a.bN.ak,a.bN.aa)).bind fun q=>match q with
   | (.inl (b,c,d,e)) =>
    (xM (aw.mk (aG.mk b c) (aG.mk d e))).bind fun g =>
    if (!g) then
     some (.inr (.inr false))
    else
     some (.inl (IntKind.i64.wrap (f+1)))
   | (.inr i) =>
    some (.inr (.inr i))
  else
   some (.inr (.inl ()))
def jI (a:cJ):Option (Bool) :=
 (if decide ((a.ah.length:Int)>100) then
  some true
 else
  if decide ((a.aB.length:Int)>100) then
   some true
  else
   some ((a.av.length:Int) != (a.aB.length:Int))).bind fun b =>
 if b then
  some false
 else
  (aK (iV a) 0).bind fun q=>match q with
  | (.inl _) =>
   (aK (iW a) 0).bind fun q=>match q with
   | (.inl _) =>
    (aK (iX a) 0).bind fun q=>match q with
    | (.inl _) =>
     some true
    | (.inr rd) =>
     some rd
   | (.inr rc) =>
    some rc
  | (.inr c) =>
   some c
def ly (d:cJ) (f:Int) (g:Int):(Int×Int)->Option ((Int×Int)⊕((Int)⊕(Int)))
 | (b,a) =>
  if decide (a<(d.ah.length:Int)) then
   (P.idx d.ah a).bind fun e =>
   (if (e.ba==f) then
    some (e.aZ==g)
   else
    some false).bind fun c =>
   if c then
    if decide (b>=0) then
     some (.inr (.inr (-1)))
    else
     some (.inl (a,IntKind.i64.wrap (a+1)))
   else
    some (.inl (b,IntKind.i64.wrap (a+1)))
  else
   some (.inr (.inl b))
def kf (b:cJ) (c:Int) (d:Int):Option (Int) :=
 (aK (ly b c d) ((-1),0)).bind fun q=>match q with
 | (.inl a) =>
  some a
 | (.inr e) =>
  some e
def pk (d:cJ) (f:Int):(Int×Int)->Option ((Int×Int)⊕((Int)⊕(Int)))
 | (b,a) =>
  if decide (a<(d.aB.length:Int)) then
   (P.idx d.aB a).bind fun e =>
   (if (e.ba==0) then
    some (e.aZ==f)
   else
    some false).bind fun c =>
   if c then
    if decide (b>=0) then
     some (.inr (.inr (-1)))
    else
     some (.inl (a,IntKind.i64.wrap (a+1)))
   else
    some (.inl (b,IntKind.i64.wrap (a+1)))
  else
   some (.inr (.inl b))
def pj (b:cJ) (c:Int):Option (Int) :=
 (aK (pk b c) ((-1),0)).bind fun q=>match q with
 | (.inl a) =>
  some a
 | (.inr d) =>
  some d
def sC (c:bF):(Int×Int)->Option ((Int×Int)⊕((Int)))
 | (b,a) =>
  if decide (a<(c.an.ah.length:Int)) then
   (P.idx c.an.ah a).bind fun d =>
   if (d.ba==1) then
    some (.inl (IntKind.i64.wrap (b+1),IntKind.i64.wrap (a+1)))
   else
    some (.inl (b,IntKind.i64.wrap (a+1)))
  else
   some (.inr b)
def sD (d:bF):(Int×Int)->Option ((Int×Int)⊕((Int)))
 | (b,a) =>
  if decide (a<(d.an.aB.length:Int)) then
   (P.idx d.an.aB a).bind fun c =>
   if (c.ba==0) then
    some (.inl (IntKind.i64.wrap (b+1),IntKind.i64.wrap (a+1)))
   else
    some (.inl (b,IntKind.i64.wrap (a+1)))
  else
   some (.inr b)
def pf (c:bF) (g:Int):(Int)->Option ((Int)⊕((Unit)⊕(Bool)))
 | a =>
  if decide (a<(c.aL.length:Int)) then
   (P.idx c.aL a).bind fun b =>
   (nf b.b7 0 (IntKind.i64.wrap (g-1))).bind fun d =>
   if (!d) then
    some (.inr (.inr false))
   else
    (nf b.a7 1 1099511627776).bind fun e =>
    if (!e) then
     some (.inr (.inr false))
    else
     (kf c.an 1 a).bind fun f =>
     if decide (f<0) then
      some (.inr (.inr false))
     else
      some (.inl (IntKind.i64.wrap (a+1)))
  else
   some (.inr (.inl ()))
def pg (b:bF) (f:Int):(Int)->Option ((Int)⊕((Unit)⊕(Bool)))
 | a =>
  if decide (a<(b.aq.length:Int)) then
   (P.idx b.aq a).bind fun c =>
   (nf c 0 (IntKind.i64.wrap (f-1))).bind fun d =>
   if (!d) then
    some (.inr (.inr false))
   else
    (pj b.an a).bind fun e =>
    if decide (e<0) then
     some (.inr (.inr false))
    else
     some (.inl (IntKind.i64.wrap (a+1)))
  else
   some (.inr (.inl ()))
def tG (a:bF) (e:Int):Option (Bool) :=
 (jI a.an).bind fun f =>
 if (!f) then
  some false
 else
  (aK (sC a) (0,0)).bind fun c =>
  (aK (sD a) (0,0)).bind fun d =>
  (if (c != (a.aL.length:Int)) then
   some true
  else
   some (d != (a.aq.length:Int))).bind fun b =>
  if b then
   some false
  else
   (aK (pf a e) 0).bind fun q=>match q with
   | (.inl _) =>
    (aK (pg a e) 0).bind fun q=>match q with
    | (.inl _) =>
     some true
    | (.inr g) =>
     some g
   | (.inr rd) =>
    some rd
def kN (f:bg) (g:Int) (d:Int):(Int×Int)->Option ((Int×Int)⊕((Int)))
 | (b,a) =>
  (P.idx f.ao d).bind fun c =>
  if decide (a<(c.aq.length:Int)) then
   (P.idx c.aq a).bind fun e =>
   if (e==g) then
    some (.inl (IntKind.i64.wrap (b+1),IntKind.i64.wrap (a+1)))
   else
    some (.inl (b,IntKind.i64.wrap (a+1)))
  else
   some (.inr b)
def nh (d:bg) (e:Int):(Int×Int)->Option ((Int×Int)⊕((Int)))
 | (b,a) =>
  if decide (a<(d.ao.length:Int)) then
   (aK (kN d e a) (b,0)).bind fun c =>
   some (.inl (c,IntKind.i64.wrap (a+1)))
  else
   some (.inr b)
def qB (b:bg) (c:Int):Option (Int) :=
 (aK (nh b c) (0,0)).bind fun a =>
 some a
def mo (f:bg) (g:Int) (e:Int):(Int×Int)->Option ((Int×Int)⊕((Int)))
 | (a,b) =>
  (P.idx f.ao e).bind fun d =>
  if decide (b<(d.aL.length:Int)) then
   (P.idx d.aL b).bind fun c =>
   if (c.b7==g) then
    some (.inl ((if (IntKind.i64.wrap (a+c.a7))<1099511627777 then IntKind.i64.wrap (a+c.a7) else 1099511627777),IntKind.i64.wrap (b+1)))
   else
    some (.inl (a,IntKind.i64.wrap (b+1)))
  else
   some (.inr a)
def pe (d:bg) (e:Int):(Int×Int)->Option ((Int×Int)⊕((Int)))
 | (b,a) =>
  if decide (a<(d.ao.length:Int)) then
   (aK (mo d e a) (b,0)).bind fun c =>
   some (.inl (c,IntKind.i64.wrap (a+1)))
  else
   some (.inr b)
def tF (b:bg) (c:Int):Option (Int) :=
 (aK (pe b c) (0,0)).bind fun a =>
 some a
def kH (c:bg):(Int)->Option ((Int)⊕((Unit)⊕(Int×Int)))
 | a =>
  if decide (a<(c.al.length:Int)) then
   (P.idx c.al a).bind fun d =>
   (nf d 1 1099511627776).bind fun b =>
   if (!b) then
    some (.inr (.inr (3,a)))
   else
    some (.inl (IntKind.i64.wrap (a+1)))
  else
   some (.inr (.inl ()))
def kI (b:bg):(Int)->Option ((Int)⊕((Unit)⊕(Int×Int)))
 | a =>
  if decide (a<(b.ao.length:Int)) then
   (P.idx b.ao a).bind fun c =>
   (tG c (b.al.length:Int)).bind fun d =>
   if (!d) then
    some (.inr (.inr (1,a)))
   else
    some (.inl (IntKind.i64.wrap (a+1)))
  else
   some (.inr (.inl ()))
def kJ (c:bg):(Int)->Option ((Int)⊕((Unit)⊕(Int×Int)))
 | a =>
  if decide (a<(c.al.length:Int)) then
   (qB c a).bind fun b =>
   if (b==0) then
    some (.inr (.inr (21,a)))
   else
    if decide (b>1) then
     some (.inr (.inr (5,a)))
    else
     some (.inl (IntKind.i64.wrap (a+1)))
  else
   some (.inr (.inl ()))
def kK (b:bg):(Int)->Option ((Int)⊕((Unit)⊕(Int×Int)))
 | a =>
  if decide (a<(b.al.length:Int)) then
   (tF b a).bind fun c =>
   (P.idx b.al a).bind fun x37 =>
   if decide (c>x37) then
    some (.inr (.inr (25,a)))
   else
    some (.inl (IntKind.i64.wrap (a+1)))
  else
   some (.inr (.inl ()))
def nZ (b:bg):Option (Int×Int) :=
 (if decide ((b.al.length:Int)>2000) then
  some true
 else
  some (decide ((b.ao.length:Int)>400))).bind fun a =>
 if a then
  some (6,0)
 else
  (aK (kH b) 0).bind fun q=>match q with
  | (.inl _) =>
   (aK (kI b) 0).bind fun q=>match q with
   | (.inl _) =>
    (aK (kJ b) 0).bind fun q=>match q with
    | (.inl _) =>
     (aK (kK b) 0).bind fun q=>match q with
     | (.inl _) =>
      some (0,0)
     | (.inr c) =>
      some c
    | (.inr rd) =>
     some rd
   | (.inr rc) =>
    some rc
  | (.inr d) =>
   some d
def xK (b:aw) (c:aw):Option (aw×Int) :=
 (dX b).bind fun e =>
 (if (!e) then
  some true
 else
  (dX c).bind fun f =>
  some (!f)).bind fun a =>
 if a then
  some ((aw.mk (aG.mk 0 ([])) (aG.mk 0 ([]))),1)
 else
  (ew b.bR c.bR).bind fun g =>
  (ew b.bN c.bN).bind fun h =>
  (qo g.1 h.1).bind fun d =>
  some (d.1,d.2)
def pq (t:bg) (i:bF) (s:Int) (u:Int) (g:Int):(Int×Int×(List Int)×Int×(List Int))->Option ((Int×Int×(List Int)×Int×(List Int))⊕((Int×(List Int)×Int×(List Int))))
 | (a,b,c,d,e) =>
  if decide (a<(i.aq.length:Int)) then
   (P.idx i.aL g).bind fun j =>
   (if (j.b7==s) then
    (P.idx i.aq a).bind fun k =>
    some (k==u)
   else
    some false).bind fun h =>
   if h then
    (P.idx t.al s).bind fun l =>
    (uW j.a7 l).bind fun m =>
    (pj i.an a).bind fun n =>
    (P.idx i.an.av n).bind fun o =>
    (kf i.an 1 g).bind fun p =>
    (P.idx o p).bind fun q =>
    (xK m.1 q).bind fun r =>
    (nd (aw.mk (aG.mk b c) (aG.mk d e)) r.1).bind fun f =>
    some (.inl (IntKind.i64.wrap (a+1),f.bR.ak,f.bR.aa,f.bN.ak,f.bN.aa))
   else
    some (.inl (IntKind.i64.wrap (a+1),b,c,d,e))
  else
   some (.inr (b,c,d,e))
def po (k:bg) (j:bF) (l:Int) (m:Int):(Int×Int×(List Int)×Int×(List Int))->Option ((Int×Int×(List Int)×Int×(List Int))⊕((Int×(List Int)×Int×(List Int))))
 | (a,b,c,d,e) =>
  if decide (a<(j.aL.length:Int)) then
   (aK (pq k j l m a) (0,b,c,d,e)).bind fun q=>match q with
   | (f,g,h,i) =>
    some (.inl (IntKind.i64.wrap (a+1),f,g,h,i))
  else
   some (.inr (b,c,d,e))
def rD (f:bg) (g:bF) (h:Int) (i:Int):Option (aw) :=
 (jP 0).bind fun e =>
 (aK (po f g h i) (0,e.bR.ak,e.bR.aa,e.bN.ak,e.bN.aa)).bind fun q=>match q with
 | (a,b,c,d) =>
  some (aw.mk (aG.mk a b) (aG.mk c d))
def tE (g:bg) (h:Int) (i:Int):(Int×Int×(List Int)×Int×(List Int))->Option ((Int×Int×(List Int)×Int×(List Int))⊕((Int×(List Int)×Int×(List Int))))
 | (a,b,c,d,e) =>
  if decide (a<(g.ao.length:Int)) then
   (P.idx g.ao a).bind fun j =>
   (rD g j h i).bind fun k =>
   (nd (aw.mk (aG.mk b c) (aG.mk d e)) k).bind fun f =>
   some (.inl (IntKind.i64.wrap (a+1),f.bR.ak,f.bR.aa,f.bN.ak,f.bN.aa))
  else
   some (.inr (b,c,d,e))
def qz (k:bg) (h:Int):(Int×(List bD))->Option ((Int×(List bD))⊕(((List bD))))
 | (f,a) =>
  if decide (f<(k.al.length:Int)) then
   (jP 0).bind fun g =>
   (aK (tE k h f) (0,g.bR.ak,g.bR.aa,g.bN.ak,g.bN.aa)).bind fun q=>match q with
   | (b,c,d,e) =>
    (jA (aw.mk (aG.mk b c) (aG.mk d e))).bind fun i =>
    if decide (i>0) then
     (kV 80 a [(bD.mk h f (aw.mk (aG.mk b c) (aG.mk d e)))]).bind fun j =>
     some (.inl (IntKind.i64.wrap (f+1),j))
    else
     some (.inl (IntKind.i64.wrap (f+1),a))
  else
   some (.inr a)
def qy (d:bg):(Int×(List bD))->Option ((Int×(List bD))⊕(((List bD))))
 | (c,a) =>
  if decide (c<(d.al.length:Int)) then
   (aK (qz d c) (0,a)).bind fun b =>
   some (.inl (IntKind.i64.wrap (c+1),b))
  else
   some (.inr a)
def zn (b:bg):Option (cA×Int) :=
 (nZ b).bind fun c =>
 if (c.1 != 0) then
  some ((cA.mk 0 ([])),c.1)
 else
  (aK (qy b) (0,[])).bind fun a =>
  if decide (((a).length:Int)>8000) then
   some ((cA.mk 0 ([])),6)
  else
   some ((cA.mk (b.al.length:Int) a),0)
def pn (g:cA) (i:Int):(Int×Int×(List Int)×Int×(List Int))->Option ((Int×Int×(List Int)×Int×(List Int))⊕((Int×(List Int)×Int×(List Int))))
 | (e,a,b,c,d) =>
  if decide (e<(g.az.length:Int)) then
   (P.idx g.az e).bind fun h =>
   if (h.bI==i) then
    (sA (aw.mk (aG.mk a b) (aG.mk c d)) h.bJ).bind fun f =>
    some (.inl (IntKind.i64.wrap (e+1),f.1.bR.ak,f.1.bR.aa,f.1.bN.ak,f.1.bN.aa))
   else
    some (.inl (IntKind.i64.wrap (e+1),a,b,c,d))
  else
   some (.inr (a,b,c,d))
def ng (f:cA) (g:Int):Option (aw) :=
 (jP 1).bind fun e =>
 (aK (pn f g) (0,e.bR.ak,e.bR.aa,e.bN.ak,e.bN.aa)).bind fun q=>match q with
 | (a,b,c,d) =>
  some (aw.mk (aG.mk a b) (aG.mk c d))
def mY (d:cA):(Int)->Option ((Int)⊕((Unit)⊕(Bool)))
 | a =>
  if decide (a<(d.az.length:Int)) then
   (P.idx d.az a).bind fun x22 =>
   (nf x22.bI 0 (IntKind.i64.wrap (d.aq-1))).bind fun e =>
   (if (!e) then
    some true
   else
    (nf x22.fU 0 (IntKind.i64.wrap (d.aq-1))).bind fun f =>
    if (!f) then
     some true
    else
     (dX x22.bJ).bind fun g =>
     if (!g) then
      some true
     else
      (jA x22.bJ).bind fun h =>
      some (decide (h<=0))).bind fun b =>
   if b then
    some (.inr (.inr false))
   else
    if decide (a>0) then
     (P.idx d.az (IntKind.i64.wrap (a-1))).bind fun c =>
     if decide (c.bI>x22.bI) then
      some (.inr (.inr false))
     else
      if (c.bI==x22.bI) then
       if decide (c.fU>=x22.fU) then
        some (.inr (.inr false))
       else
        some (.inl (IntKind.i64.wrap (a+1)))
      else
       some (.inl (IntKind.i64.wrap (a+1)))
    else
     some (.inl (IntKind.i64.wrap (a+1)))
  else
   some (.inr (.inl ()))
def mZ (b:cA):(Int)->Option ((Int)⊕((Unit)⊕(Bool)))
 | a =>
  if decide (a<(b.az.length:Int)) then
   (P.idx b.az a).bind fun c =>
   (ng b c.bI).bind fun d =>
   (jA d).bind fun e =>
   if decide (e<0) then
    some (.inr (.inr false))
   else
    some (.inl (IntKind.i64.wrap (a+1)))
  else
   some (.inr (.inl ()))
def mn (b:cA):Option (Bool) :=
 (nf b.aq 0 2000).bind fun c =>
 (if (!c) then
  some true
 else
  some (decide ((b.az.length:Int)>8000))).bind fun a =>
 if a then
  some false
 else
  (aK (mY b) 0).bind fun q=>match q with
  | (.inl _) =>
   (aK (mZ b) 0).bind fun q=>match q with
   | (.inl _) =>
    some true
   | (.inr d) =>
    some d
  | (.inr e) =>
   some e
def pc (a:cA) (b:Int):Option (aw) :=
 (mn a).bind fun c =>
 if (!c) then
  some (aw.mk (aG.mk 0 ([])) (aG.mk 0 ([])))
 else
  (nf b 0 (IntKind.i64.wrap (a.aq-1))).bind fun d =>
  if (!d) then
   some (aw.mk (aG.mk 0 ([])) (aG.mk 0 ([])))
  else
   (ng a b).bind fun e =>
   some e
def kL (g:cA):(Int×(List Int))->Option ((Int×(List Int))⊕(((List Int))))
 | (a,b) =>
  if decide (a<g.aq) then
   (ng g a).bind fun c =>
   (jA c).bind fun d =>
   if decide (d>0) then
    (kV 8 b [0]).bind fun e =>
    some (.inl (IntKind.i64.wrap (a+1),e))
   else
    (kV 8 b [(-1)]).bind fun f =>
    some (.inl (IntKind.i64.wrap (a+1),f))
  else
   some (.inr b)
def kM (h:cA) (e:Int):(Int×(List Int))->Option ((Int×(List Int))⊕(((List Int))))
 | (b,a) =>
  if decide (b<(h.az.length:Int)) then
   (P.idx h.az b).bind fun c =>
   (P.idx a c.bI).bind fun f =>
   (if decide (f<0) then
    (P.idx a c.fU).bind fun g =>
    some (g==(IntKind.i64.wrap (e-1)))
   else
    some false).bind fun d =>
   if d then
    some (.inl (IntKind.i64.wrap (b+1),(a.set (c.bI).toNat e)))
   else
    some (.inl (IntKind.i64.wrap (b+1),a))
  else
   some (.inr a)
def mX (d:cA):(Int×(List Int))->Option ((Int×(List Int))⊕(((List Int))))
 | (a,b) =>
  if decide (a<d.aq) then
   (aK (kM d a) (0,b)).bind fun c =>
   some (.inl (IntKind.i64.wrap (a+1),c))
  else
   some (.inr b)
def iZ (c:cA):Option ((List Int)) :=
 (mn c).bind fun d =>
 if (!d) then
  some ([])
 else
  (aK (kL c) (0,[])).bind fun a =>
  (aK (mX c) (1,a)).bind fun b =>
  some b
def gO (d:(List Int)):(Int×(List Int))->Option ((Int×(List Int))⊕(((List Int))))
 | (a,b) =>
  if decide (a<(d.length:Int)) then
   (P.idx d a).bind fun e =>
   if decide (e<0) then
    (kV 8 b [a]).bind fun c =>
    some (.inl (IntKind.i64.wrap (a+1),c))
   else
    some (.inl (IntKind.i64.wrap (a+1),b))
  else
   some (.inr b)
def jg (b:cA):Option ((List Int)) :=
 (iZ b).bind fun c =>
 (aK (gO c) (0,[])).bind fun a =>
 some a
def jm (d:bg) (a:cA) (r:Int):Option (Bool) :=
 (wF).bind fun s =>
 (xL d).bind fun x =>
 (if (!x) then
  some true
 else
  (n5 a).bind fun e =>
  some (!e)).bind fun b =>
 if b then
  some s
 else
  (mg d).bind fun t =>
  (nZ d).bind fun u =>
  (s3 d).bind fun v =>
  (zn d).bind fun w =>
  (if (t.1 != u.1) then
   some true
  else
   if (t.2 != u.2) then
    some true
   else
    if (v.2 != w.2) then
     some true
    else
     (nc v.1 w.1).bind fun f =>
     if (!f) then
      some true
     else
      (kC a).bind fun g =>
      (mn a).bind fun h =>
      if (!(g==h)) then
       some true
      else
       (lx a r).bind fun i =>
       (pc a r).bind fun j =>
       (jz i j).bind fun k =>
       some (!k)).bind fun c =>
  if c then
   some false
  else
   if s then
    (gD a).bind fun l =>
    (iZ a).bind fun m =>
    (e7 l m).bind fun n =>
    if n then
     (ib a).bind fun o =>
     (jg a).bind fun p =>
     (e7 o p).bind fun q =>
     some q
    else
     some false
   else
    some false
end Go.Proofs.YtekhokjkphgphaaGreat.P
namespace Go.Proofs.YtekhokjkphgphaaGreat.Am
open Go.RowKit Go.Proofs.YtekhokjkphgphaaGreat.P
set_option maxRecDepth 100000
set_option maxHeartbeats 4000000
def bK.fh {P:Program} {T:Nat->Option Ty} {Γ:Env} (i:iI P T) (j:bG P Γ) (k:P.follows .mixedOrders=true) {α β:Type} {A:jR α} {F:α->Option β} {R:β->RK} {mode:Mode} {f:FuncId} {b:Func} {G:Option (D×Row)->List D->Option (RK×Option Row)} (m:P.funcs[f]? = some b)
  (g:((match b.body with|some c=>codeOk c|none=>true)&&(!(b.name == "runtime.NumGoroutine") && !b.body.isNone))=true) (hG:∀l d,G l d=di A F R l d) (n:∀a,Nat.ble (A.ds a).length b.ntmps=true) (h:∀a r,F a=some r->kT mode T Γ FU b none (A.ds a)=some (R r,none)):bK P f G:=by
 have e:G=di A F R:=funext fun l=>funext fun d=>hG l d;subst e;exact bK.ofB i j k m g n h
def vmt:=ai @Pw<|ai @aav<|ai @aaw<|ai @XY<|ai @Lm<|ai @Ry<|ai @Lo<|ai @Rz<|ai @Lp<|ai @RA<|ai @Lq<|ai @Lr<|ai @RB<|ai @RD<|ai @RE<|ai @RF<|ai @RG<|ai @Ls<|ai @Lt<|ai @XV<|ai @XW<|ai @Lu<|ai @XX<|ai @Lv<|ai @Lw<|ai @XZ<|ai @TM<|@TN
def dN:jS aG:=Ev (oP (eI .i64) (hZ (eI .i64))) (fun x=>(x.ak,x.aa)) (by rintro⟨⟩ ⟨⟩ h;simpa using h)
def Cb (x:aG):dN.cells x=[.int .i64 x.ak,.sl false false x.aa.length (ae (eI .i64) x.aa)]:=ahM
def MZ (x:aG):aG.mk x.ak x.aa=x:=ahM
def aD:jS aw:=Ev (oP dN dN) (fun x=>(x.bR,x.bN)) (by rintro⟨⟩ ⟨⟩ h;simpa using h)
def zW (x:aw):aD.cells x=[.int .i64 x.bR.ak,.sl false false x.bR.aa.length (ae (eI .i64) x.bR.aa),.int .i64 x.bN.ak,.sl false false x.bN.aa.length (ae (eI .i64) x.bN.aa)]:=ahM
def Cc:aD.size=4:=ahM
def IC (x:aw):aw.mk x.bR x.bN=x:=ahM
def bc:jS bD:=Ev (oP (eI .i64) (oP (eI .i64) aD)) (fun x=>(x.bI,x.fU,x.bJ)) (by rintro⟨⟩ ⟨⟩ h;simpa using h)
def pZ (x:bD):bc.cells x=[.int .i64 x.bI,.int .i64 x.fU,.int .i64 x.bJ.bR.ak,.sl false false x.bJ.bR.aa.length (ae (eI .i64) x.bJ.bR.aa),.int .i64 x.bJ.bN.ak,.sl false false x.bJ.bN.aa.length (ae (eI .i64) x.bJ.bN.aa)]:=ahM
def vV:bc.size=6:=ahM
def IE (x:bD):bD.mk x.bI x.fU x.bJ=x:=ahM
def lr:jS cA:=Ev (oP (eI .i64) (hZ bc)) (fun x=>(x.aq,x.az)) (by rintro⟨⟩ ⟨⟩ h;simpa using h)
def Ce (x:cA):lr.cells x=[.int .i64 x.aq,.sl false false x.az.length (ae bc x.az)]:=ahM
def M0 (x:cA):cA.mk x.aq x.az=x:=ahM
def dD:jS fv:=Ev (oP (eI .i64) (eI .i64)) (fun x=>(x.b7,x.a7)) (by rintro⟨⟩ ⟨⟩ h;simpa using h)
def Cg (x:fv):dD.cells x=[.int .i64 x.b7,.int .i64 x.a7]:=ahM
def Eu:dD.size=2:=ahM
def M3 (x:fv):fv.mk x.b7 x.a7=x:=ahM
def aR:jS fK:=Ev (oP (eI .i64) (oP (eI .i64) (eI .i64))) (fun x=>(x.ba,x.aZ,x.a7)) (by rintro⟨⟩ ⟨⟩ h;simpa using h)
def vU (x:fK):aR.cells x=[.int .i64 x.ba,.int .i64 x.aZ,.int .i64 x.a7]:=ahM
def yt:aR.size=3:=ahM
def b8:jS uf:=Ev (oP (eI .i64) (oP (eI .i64) (oP (eI .i64) aaO))) (fun x=>(x.ba,x.aZ,x.a7,x.Ko)) (by rintro⟨⟩ ⟨⟩ h;simpa using h)
def Cf (x:uf):b8.cells x=[.int .i64 x.ba,.int .i64 x.aZ,.int .i64 x.a7,.str x.Ko]:=ahM
def Et:b8.size=4:=ahM
def qO:jS cJ:=Ev (oP (hZ aR) (oP (hZ b8) (hZ (hZ aD)))) (fun x=>(x.ah,x.aB,x.av)) (by rintro⟨⟩ ⟨⟩ h;simpa using h)
def zV (x:cJ):qO.cells x=[.sl false false x.ah.length (ae aR x.ah),.sl false false x.aB.length (ae b8 x.aB),.sl false false x.av.length (ae (hZ aD) x.av)]:=ahM
def IB (x:cJ):cJ.mk x.ah x.aB x.av=x:=ahM
def bx:jS bF:=Ev (oP qO (oP (hZ dD) (hZ (eI .i64)))) (fun x=>(x.an,x.aL,x.aq)) (by rintro⟨⟩ ⟨⟩ h;simpa using h)
def zX (x:bF):bx.cells x=[.sl false false x.an.ah.length (ae aR x.an.ah),.sl false false x.an.aB.length (ae b8 x.an.aB),.sl false false x.an.av.length (ae (hZ aD) x.an.av),.sl false false x.aL.length (ae dD x.aL),.sl false false x.aq.length (ae (eI .i64) x.aq)]:=ahM
def Cd:bx.size=5:=ahM
def ID (x:bF):bF.mk x.an x.aL x.aq=x:=ahM
def jk:jS bg:=Ev (oP (hZ (eI .i64)) (hZ bx)) (fun x=>(x.al,x.ao)) (by rintro⟨⟩ ⟨⟩ h;simpa using h)
def yu (x:bg):jk.cells x=[.sl false false x.al.length (ae (eI .i64) x.al),.sl false false x.ao.length (ae bx x.ao)]:=ahM
def EI (x:bg):bg.mk x.al x.ao=x:=ahM
def Z7 {l:List _} : (ae (eI .i64) l).length=l.length*1:=cc _ l
def RI {l:List _} : (ae (eI .i64) l).take (l.length*1)=ae (eI .i64) l:=by
 have:=tp (eI .i64) l l.length;rw[agY]at this;exact this
def X2 {l:List _} {i:Nat} {x:_} : (ae (eI .i64) (l.set i x)).take (l.length*1)=ae (eI .i64) (l.set i x):=by
 have:=@RI (l.set i x)
 rwa [agW]at this
def Z8 {l:List _} : (ae (hZ aD) l).length=l.length*1:=cc _ l
def Z9 {l:List _} : (ae aD l).length=l.length*4:=cc _ l
def X0 {l:List _} : (ae aD l).take (l.length*4)=ae aD l:=by
 have:=tp aD l l.length;rw[agY]at this;exact this
def aaa {l:List _} : (ae bx l).length=l.length*5:=cc _ l
def aab {l:List _} : (ae b8 l).length=l.length*4:=cc _ l
def aac {l:List _} : (ae aR l).length=l.length*3:=cc _ l
def aad {l:List _} : (ae bc l).length=l.length*6:=cc _ l
def X1 {l:List _} : (ae bc l).take (l.length*6)=ae bc l:=by
 have:=tp bc l l.length;rw[agY]at this;exact this
def aae {l:List _} : (ae dD l).length=l.length*2:=cc _ l
def vme:=ai @zT<|ai @Ir<|ai @SK<|ai @MU<|ai @zZ<|ai @xy<|ai @zU<|ai @Cb<|ai @zW<|ai @Cc<|ai @pZ<|ai @vV<|ai @Ce<|ai @Cg<|ai @Eu<|ai @vU<|ai @yt<|ai @Cf<|ai @Et<|ai @zV<|ai @zX<|ai @Cd<|@yu
def vml:=ai @bP<|ai @MZ<|ai @IC<|ai @IE<|ai @M0<|ai @M3<|ai @IB<|ai @ID<|ai @EI<|ai @Z7<|ai @RI<|ai @X2<|ai @Z8<|ai @Z9<|ai @X0<|ai @aaa<|ai @aab<|ai @aac<|ai @aad<|ai @X1<|@aae
def Yh:TV tab ⟨.map 70 42,1,8,[.map none],false⟩ true (.agg [.int .i64 0,.sl false false 0 [],.int .i64 0,.sl false false 0 []]):=⟨_,_,rfl,rfl,rfl,rfl⟩
def aaj {h:Nat->Option Row} {m:D} {n a:Int} {b:Bool} : gT tab ⟨.map 70 42,1,8,[.map none],false⟩ h m (.agg [.int .i64 n,.int .i64 a]) b=lkE true b (.agg [.int .i64 0,.sl false false 0 [],.int .i64 0,.sl false false 0 []]) (n,some a) (mapOf h m):=aa6 Yh rfl
def aal {h:Nat->Option Row} {y v:Nat} {n a:Int} {x:D} : dR tab ⟨.map 70 42,1,8,[.map none],false⟩ h (.mp y v) (.agg [.int .i64 n,.int .i64 a]) x=muE true h y v (n,some a) (yh h x):=abb Yh rfl
def aak {a e d:Nat} (b:a<900000):Xg tab (some ⟨.map 70 42,1,8,[.map none],false⟩) a e d=some ⟨.mp d e,[(d,some ⟨e,a,[.mpc [] []],false,true,true⟩)]⟩:=YU Yh b
def Ta {m:List ((Int×Int)×aw)} {n a:Int} : se (.agg [.int .i64 0,.sl false false 0 [],.int .i64 0,.sl false false 0 []]) (eu m) (gh (bo aD) m) (n,some a)=.agg [.int .i64 (((fm (aw.mk (aG.mk 0 ([])) (aG.mk 0 ([]))) m (n,a)).bR).ak),.sl false false (((fm (aw.mk (aG.mk 0 ([])) (aG.mk 0 ([]))) m (n,a)).bR).aa).length (ae (eI .i64) (((fm (aw.mk (aG.mk 0 ([])) (aG.mk 0 ([]))) m (n,a)).bR).aa)),.int .i64 (((fm (aw.mk (aG.mk 0 ([])) (aG.mk 0 ([]))) m (n,a)).bN).ak),.sl false false (((fm (aw.mk (aG.mk 0 ([])) (aG.mk 0 ([]))) m (n,a)).bN).aa).length (ae (eI .i64) (((fm (aw.mk (aG.mk 0 ([])) (aG.mk 0 ([]))) m (n,a)).bN).aa))]:=IW (A:=(bo aD)) (aw.mk (aG.mk 0 ([])) (aG.mk 0 ([]))) (n,a) m
def TQ {m:List ((Int×Int)×aw)} {n a:Int} {d:Int} {b:(List Int)} {e:Int} {c:(List Int)} : D.mpc (zl (eu m) (n,some a)) (Db (eu m) (gh (bo aD) m) (n,some a) (.agg [.int .i64 d,.sl false false b.length (ae (eI .i64) b),.int .i64 e,.sl false false c.length (ae (eI .i64) c)]))=.mpc (eu (rz m (n,a) (aw.mk (aG.mk d b) (aG.mk e c)))) (gh (bo aD) (rz m (n,a) (aw.mk (aG.mk d b) (aG.mk e c)))):=by
 rw[<- OL (n,a) (aw.mk (aG.mk d b) (aG.mk e c)) m,<- ON (n,a) (aw.mk (aG.mk d b) (aG.mk e c)) m];rfl
def Xa {e d:Nat} (a:d<1000000):YR ⟨.struct [(3,0),(26,1)],2,32,[.int .i64 0,.slice none 0 0],false⟩ 28 e d 50 6 1=some ⟨.ptr d e 0,[(d,some ⟨e,28,[.nr 50 6 (4*e+2) [.int .i64 0,.nx 0 []]],false,false,true⟩)]⟩:=by
 unfold YR;rw[if_pos ⟨by decide,rfl,rfl,by rw[cQ];exact a,rfl⟩];rfl
def vmm:=ai @aaj<|ai @aal<|ai @aak<|ai @Ta<|ai @TQ<|@vi
def w:=ai @v<|ai @vmt<|ai @vme<|ai @vml<|ai @vn<|ai @Xa<|@vmm
def bT:=ai @vme<|ai @agP<|ai @agF<|ai @afn<|ai @agQ<|@agk
def eA (l:Option (D×Row)) (d:List D):=di (dc (oL (eI .i64))) (fun x:(List Int)=>ic x) (fun r:(List Int) =>.clean (.sl false false r.length (ae (eI .i64) r))) l d
def Tz {β:Type} {F:(List Int)->Option β} {R:β->RK} (a:(List Int)):di (dc (oL (eI .i64))) F R none [.sl false false a.length (ae (eI .i64) a)]=(F (a)).map fun r=>(R r,none):=cB _ _ _ (a)
def oY:bK prog 136 eA:=bK.fh (mode := .clean) tok bG.none mixed func136 (by kernel_rfl) (fun _ _=>rfl) (fun _=>by kernel_rfl) fun g r a=>by
 replace a:ic g=some r:=a;apply aF rfl ntmps136 results136;simp only[fj];unfold ic at a;simp only[w,seval];obtain⟨C,n,a⟩:=ab a;refine ax (fun s t H e=>match s with|h=>t 0=.sl false false g.length (ae (eI .i64) g)∧t 3=.int .i64 h) (fun o x t H e=>match o with|d=>x=.exit 0∧t 0=.sl false false g.length (ae (eI .i64) g)∧t 3=.int .i64 d) n ?_ ?_ ?_
 ·refine⟨?_,?_⟩;all_goals (rfl)
 ·rintro h t H e f c a;simp only[wT]at a;simp only[w,seval,f];apply sp dH a<;>intro _ a
  ·obtain⟨F,p,a⟩:=ab a;have i:=bk (eI .i64) p;simp only[bT]at i;simp only[w,seval,f,i];apply sp aj a<;>intro _ a
   ·cases a;simp only[w,seval,f];apply eS;and_intros<;>first|rfl|(simp only[w,seval,f]<;>rfl)
   ·cases a;simp only[w,seval];apply gC;refine⟨rfl,⟨?_,?_⟩⟩;all_goals ((simp only[w,seval,f]<;>rfl))
  ·cases a;simp only[w,seval];apply gC;refine⟨rfl,⟨?_,?_⟩⟩;all_goals ((simp only[w,seval,f]<;>rfl))
 ·rintro x t H e B;obtain⟨d,rfl⟩:∃z,z=C:=⟨_,rfl⟩;dsimp only at B a;obtain⟨rfl,q⟩:=B;obtain⟨G,u,a⟩:=ab a;obtain⟨v,D,y,A,j⟩:=Lg (eI .i64) u;simp only[bT]at j;obtain⟨E,k,a⟩:=ab a;obtain⟨b,l,m⟩:=Dl k;replace b:=b.symm;subst b;cases a;simp only[w,seval,q,v,y,A,j,l,m]
def dn (l:Option (D×Row)) (d:List D):=di (fl (aI .i64) (dc (oL (eI .i64)))) (fun x:Int×(List Int)=>fb x.1 x.2) (fun r:aG =>.clean (.agg [.int .i64 r.ak,.sl false false r.aa.length (ae (eI .i64) r.aa)])) l d
def Dx {β:Type} {F:Int×(List Int)->Option β} {R:β->RK} (b:Int) (a:(List Int)):di (fl (aI .i64) (dc (oL (eI .i64)))) F R none [.int .i64 b,.sl false false a.length (ae (eI .i64) a)]=(F (b,a)).map fun r=>(R r,none):=cB _ _ _ (b,a)
def yZ:Env:=(Am.ext bl 136 false eA)
def Nq:bG prog yZ:=(bG.none.add oY false)
def zw:=ai @w<|ai @Tz<|ai @eA.eq_1<|@yZ.eq_1
def ml:bK prog 110 dn:=bK.fh (mode := .clean) tok Nq mixed func110 (by kernel_rfl) (fun _ _=>rfl) (fun _=>by kernel_rfl) fun⟨c,d⟩ r a=>by
 replace a:fb c d=some r:=a;apply aF rfl ntmps110 results110;simp only[fj];unfold fb at a;obtain⟨e,b,a⟩:=ab a;simp only[zw,seval,b];apply sp aj a<;>intro _ a
 ·cases a;simp only[zw,seval]
 ·cases a;simp only[zw,seval]
def qH (l:Option (D×Row)) (d:List D):=di (dc (aI .i64)) (fun x:Int=>wR x) (fun r:aG =>.clean (.agg [.int .i64 r.ak,.sl false false r.aa.length (ae (eI .i64) r.aa)])) l d
def zA {β:Type} {F:Int->Option β} {R:β->RK} (a:Int):di (dc (aI .i64)) F R none [.int .i64 a]=(F (a)).map fun r=>(R r,none):=cB _ _ _ (a)
def EP:Env:=(Am.ext bl 110 false dn)
def Up:bG prog EP:=(bG.none.add ml false)
def fI:=ai @w<|ai @Dx<|ai @dn.eq_1<|@EP.eq_1
def Jg:bK prog 76 qH:=bK.fh (mode := .clean) tok Up mixed func76 (by kernel_rfl) (fun _ _=>rfl) (fun _=>by kernel_rfl) fun Q r a=>by
 replace a:wR Q=some r:=a;apply aF rfl ntmps76 results76;simp only[fj];unfold wR at a;simp only[fI,seval];apply sp aj a<;>intro _ a
 ·cases a;simp only[fI,seval]
 ·simp only[fI,seval];obtain⟨S,K,a⟩:=ab a;refine lA 0 (fun s t H e=>match s with|b=>∃d:Nat,t 0=.int .i64 Q∧t 2=.ptr 2 d 0∧t 3=.int .i64 b∧H 2=some ⟨d,40,[.int .i64 0,.sl true true 0 []],false,false,false⟩) (fun s=>s=S) ?_ ?_
  ·rintro b t H e ⟨d,L⟩ rfl;try dsimp only at a
   simp only[fI,seval];obtain⟨M,q,a⟩:=ab a;refine ax (fun s t H e=>match s with|(u,m)=>∃f:Nat,∃j:Nat,t 0=.int .i64 u∧t 2=.ptr 2 f 0∧t 3=.int .i64 b∧t 4=.buf 4 j 1 0 (m).length∧H 2=some ⟨f,40,[.int .i64 0,.sl true true 0 []],false,false,false⟩∧H 4=some ⟨j,3,ae (eI .i64) m,false,true,false⟩) (fun o x t H e=>match o with|g=>x=.exit 0∧∃h:Nat,∃i:Nat,t 2=.ptr 2 h 0∧t 3=.int .i64 b∧t 4=.buf 4 i 1 0 (g).length∧H 2=some ⟨h,40,[.int .i64 0,.sl true true 0 []],false,false,false⟩∧H 4=some ⟨i,3,ae (eI .i64) g,false,true,false⟩) q ?_ ?_ ?_
   ·refine⟨d,e,?_⟩;and_intros<;>first|rfl|(simp only[fI,seval,L]<;>rfl)
   ·rintro⟨u,m⟩ t H e ⟨f,j,n⟩ c a;simp only[xH]at a;simp only[fI,seval,n];apply sp aj a<;>intro _ a
    ·obtain⟨T,v,a⟩:=ab a;have p:=Ah v;simp only[fI,seval,n,p];apply sp aj a<;>intro _ a
     ·obtain⟨U,w,a⟩:=ab a;obtain⟨y,k,A,B⟩:=fY (eI .i64) w;simp only[bT]at k;obtain⟨V,C,a⟩:=ab a;have N:=uw C;cases a;simp only[fI,seval,n,p,y,k,A,B,N];apply eS;refine⟨f,e+1+1+1+1,?_⟩;and_intros<;>first|rfl|(simp only[fI,seval,n]<;>rfl)
     ·obtain⟨W,D,a⟩:=ab a;obtain⟨E,l,F,G⟩:=fY (eI .i64) D;simp only[bT]at l;obtain⟨X,I,a⟩:=ab a;have O:=uw I;cases a;simp only[fI,seval,n,p,E,l,F,G,O];apply eS;refine⟨f,e+1+1+1,?_⟩;and_intros<;>first|rfl|(simp only[fI,seval,n]<;>rfl)
    ·cases a;simp only[fI,seval];apply gC;refine⟨rfl,⟨f,j,?_,?_,?_,?_,?_⟩⟩;all_goals ((simp only[fI,seval,n]<;>rfl))
   ·rintro x t H e R;obtain⟨g,rfl⟩:∃z,z=M:=⟨_,rfl⟩;dsimp only at R a;obtain⟨rfl,⟨h,i,P⟩⟩:=R;obtain⟨Y,J,a⟩:=ab a;cases a;simp only[fI,seval,P,J]
  ·clear a;have a:=K;simp only[fI,seval];apply sp aj a<;>intro _ a
   ·cases a;simp only[fI,seval];rw[au];refine⟨_,rfl,?_⟩;refine⟨0,?_,?_,?_,?_⟩;all_goals (rfl)
   ·cases a;simp only[fI,seval];rw[au];refine⟨_,rfl,?_⟩;refine⟨0,?_,?_,?_,?_⟩;all_goals (rfl)
def bM (l:Option (D×Row)) (d:List D):=di (dc (bo dN)) (fun x:aG=>dj x) (fun r:Bool =>.clean (.bool r)) l d
def tO {β:Type} {F:aG->Option β} {R:β->RK} (b:Int) (a:(List Int)):di (dc (bo dN)) F R none [.agg [.int .i64 b,.sl false false a.length (ae (eI .i64) a)]]=(F ((aG.mk b a))).map fun r=>(R r,none):=cB _ _ _ ((aG.mk b a))
def gj:bK prog 73 bM:=bK.fh (mode := .clean) tok bG.none mixed func73 (by kernel_rfl) (fun _ _=>rfl) (fun _=>by kernel_rfl) fun f r a=>by
 replace a:dj f=some r:=a;apply aF rfl ntmps73 results73;simp only[fj];unfold dj at a;simp only[w,seval];obtain⟨A,y,a⟩:=ab a;refine ax (fun s t H e=>match s with|n=>∃g:Nat,t 1=.ptr 1 g 0∧t 3=.int .i64 n∧H 1=some ⟨g,40,[.int .i64 f.ak,.sl false false f.aa.length (ae (eI .i64) f.aa)],false,false,false⟩) (fun o x t H e=>match o with|(.inl _)=>x=.exit 0∧∃b:Nat,t 1=.ptr 1 b 0∧H 1=some ⟨b,40,[.int .i64 f.ak,.sl false false f.aa.length (ae (eI .i64) f.aa)],false,false,false⟩|(.inr r)=>x=.ret∧eB .clean tab none [.tmp 2] ⟨t,EH H,e⟩=some (.clean (.bool r),none)) y ?_ ?_ ?_
 ·refine⟨0,?_,?_,?_⟩;all_goals (rfl)
 ·rintro n t H e ⟨g,m⟩ c a;simp only[qk]at a;simp only[w,seval,m];apply sp aj a<;>intro _ a
  ·obtain⟨D,p,a⟩:=ab a;have h:=bk (eI .i64) p;simp only[bT]at h;simp only[w,seval,m,h];apply sp aO a<;>intro _ a
   ·cases a;simp only[w,seval];refine lk ⟨rfl,?_⟩;simp only[w,seval]
   ·have h:=bk (eI .i64) p;simp only[bT]at h;simp only[w,seval,m,h];apply sp aj a<;>intro _ a
    ·cases a;simp only[w,seval];refine lk ⟨rfl,?_⟩;simp only[w,seval]
    ·cases a;simp only[w,seval,m];apply eS;refine⟨g,?_⟩;and_intros<;>first|rfl|(simp only[w,seval,m]<;>rfl)
  ·cases a;simp only[w,seval];apply gC;refine⟨rfl,⟨g,?_,?_⟩⟩;all_goals ((simp only[w,seval,m]<;>rfl))
 ·rintro x t H e v;rcases A with _|E
  ·dsimp only at v a;obtain⟨rfl,⟨b,d⟩⟩:=v;simp only[w,seval,d];obtain⟨z,q,a⟩:=ab a;refine bq 0 (fun s t H e=>match s with|i=>∃j:Nat,t 1=.ptr 1 j 0∧t 4=.int .i64 (f.aa.length:Int)∧t 44=.bool i∧H 1=some ⟨j,40,[.int .i64 f.ak,.sl false false f.aa.length (ae (eI .i64) f.aa)],false,false,false⟩) (fun s=>s=z) ?_ ?_
   ·rintro i t H e ⟨j,l⟩ rfl;try dsimp only at a
    simp only[w,seval,l];apply sp aj a<;>intro _ a
    ·cases a;simp only[w,seval]
    ·simp only[w,seval,l];apply sp aO a<;>intro _ a
     ·cases a;simp only[w,seval]
     ·obtain⟨B,u,a⟩:=ab a;have k:=bk (eI .i64) u;simp only[bT]at k;cases a;simp only[w,seval,l,k]
   ·clear a;have a:=q;simp only[w,seval];apply sp aO a<;>intro _ a
    ·cases a;simp only[w,seval];rw[au];refine⟨_,rfl,?_⟩;refine⟨b,?_⟩;and_intros<;>first|rfl|(simp only[w,seval,d]<;>rfl)
    ·simp only[w,seval,d];apply sp aO a<;>intro _ a
     ·cases a;simp only[w,seval];rw[au];refine⟨_,rfl,?_⟩;refine⟨b,?_⟩;and_intros<;>first|rfl|(simp only[w,seval,d]<;>rfl)
     ·cases a;simp only[w,seval,d];rw[au];refine⟨_,rfl,?_⟩;refine⟨b,?_⟩;and_intros<;>first|rfl|(simp only[w,seval,d]<;>rfl)
  ·dsimp only at v a;obtain⟨rfl,C⟩:=v;cases a;simp only[aP,aV,bS,bV];exact C
def nG (l:Option (D×Row)) (d:List D):=di (dc (bo dN)) (fun x:aG=>sr x) (fun r:aG =>.clean (.agg [.int .i64 r.ak,.sl false false r.aa.length (ae (eI .i64) r.aa)])) l d
def Be:Env:=(Am.ext (Am.ext bl 73 false bM) 110 false dn)
def QN:bG prog Be:=((bG.none.add gj false).add ml false)
def BT:=ai @w<|ai @tO<|ai @bM.eq_1<|ai @Dx<|ai @dn.eq_1<|@Be.eq_1
def FZ:bK prog 114 nG:=bK.fh (mode := .clean) tok QN mixed func114 (by kernel_rfl) (fun _ _=>rfl) (fun _=>by kernel_rfl) fun d r a=>by
 replace a:sr d=some r:=a;apply aF rfl ntmps114 results114;simp only[fj];unfold sr at a;obtain⟨e,b,a⟩:=ab a;simp only[BT,seval,b];apply sp aj a<;>intro _ a
 ·cases a;simp only[BT,seval]
 ·obtain⟨f,c,a⟩:=ab a;cases a;simp only[BT,seval,c]
def eF (l:Option (D×Row)) (d:List D):=di (fl (oL (eI .i64)) (dc (aI .i64))) (fun x:(List Int)×Int=>iU x.1 x.2) (fun r:Int =>.clean (.int .i64 r)) l d
def Vr {β:Type} {F:(List Int)×Int->Option β} {R:β->RK} (a:(List Int)) (b:Int):di (fl (oL (eI .i64)) (dc (aI .i64))) F R none [.sl false false a.length (ae (eI .i64) a),.int .i64 b]=(F (a,b)).map fun r=>(R r,none):=cB _ _ _ (a,b)
def qf:bK prog 137 eF:=bK.fh (mode := .clean) tok bG.none mixed func137 (by kernel_rfl) (fun _ _=>rfl) (fun _=>by kernel_rfl) fun⟨d,e⟩ r a=>by
 replace a:iU d e=some r:=a;apply aF rfl ntmps137 results137;simp only[fj];unfold iU at a;simp only[w,seval];apply sp aj a<;>intro _ a
 ·obtain⟨f,c,a⟩:=ab a;have b:=bk (eI .i64) c;simp only[bT]at b;cases a;simp only[w,seval,b]
 ·cases a;simp only[w,seval]
def l9 (l:Option (D×Row)) (d:List D):=di (fl (oL (eI .i64)) (dc (oL (eI .i64)))) (fun x:(List Int)×(List Int)=>kG x.1 x.2) (fun r:(List Int) =>.clean (.sl false false r.length (ae (eI .i64) r))) l d
def CM {β:Type} {F:(List Int)×(List Int)->Option β} {R:β->RK} (a:(List Int)) (b:(List Int)):di (fl (oL (eI .i64)) (dc (oL (eI .i64)))) F R none [.sl false false a.length (ae (eI .i64) a),.sl false false b.length (ae (eI .i64) b)]=(F (a,b)).map fun r=>(R r,none):=cB _ _ _ (a,b)
def wq:Env:=(Am.ext (Am.ext bl 136 false eA) 137 false eF)
def KC:bG prog wq:=((bG.none.add oY false).add qf false)
def cz:=ai @w<|ai @Tz<|ai @eA.eq_1<|ai @Vr<|ai @eF.eq_1<|@wq.eq_1
def Ak:bK prog 113 l9:=bK.fh (mode := .clean) tok KC mixed func113 (by kernel_rfl) (fun _ _=>rfl) (fun _=>by kernel_rfl) fun⟨q,u⟩ r a=>by
 replace a:kG q u=some r:=a;apply aF rfl ntmps113 results113;simp only[fj];unfold kG at a;obtain⟨x1,S,a⟩:=ab a;obtain⟨T,U,V,D,W⟩:=mk_one (eI .i64) S;simp only[bT]at D;simp only[cz,seval,T,U,V,D,W];obtain⟨X,E,a⟩:=ab a;refine ax (fun s t H e=>match s with|(g,A)=>∃h:Nat,t 0=.sl false false q.length (ae (eI .i64) q)∧t 1=.sl false false u.length (ae (eI .i64) u)∧t 5=.buf 5 h 1 0 (A).length∧t 6=.int .i64 g∧H 5=some ⟨h,3,ae (eI .i64) A,false,true,false⟩) (fun o x t H e=>match o with|i=>x=.exit 0∧∃j:Nat,t 5=.buf 5 j 1 0 (i).length∧H 5=some ⟨j,3,ae (eI .i64) i,false,true,false⟩) E ?_ ?_ ?_
 ·refine⟨1,?_,?_,?_,?_,?_⟩;all_goals (rfl)
 ·rintro⟨g,A⟩ t H e ⟨h,Y⟩ c a;simp only[qm]at a;simp only[cz,seval,Y];apply sp aj a<;>intro _ a
  ·simp only[cz,seval];obtain⟨Z,F,a⟩:=ab a;refine ax (fun s t H e=>match s with|(B,C,k)=>∃l:Nat,t 0=.sl false false q.length (ae (eI .i64) q)∧t 1=.sl false false u.length (ae (eI .i64) u)∧t 5=.buf 5 l 1 0 (k).length∧t 6=.int .i64 g∧t 7=.int .i64 B∧t 8=.int .i64 C∧H 5=some ⟨l,3,ae (eI .i64) k,false,true,false⟩) (fun o x t H e=>match o with|m=>x=.exit 2∧∃d:Nat,t 0=.sl false false q.length (ae (eI .i64) q)∧t 1=.sl false false u.length (ae (eI .i64) u)∧t 5=.buf 5 d 1 0 (m).length∧t 6=.int .i64 g∧H 5=some ⟨d,3,ae (eI .i64) m,false,true,false⟩) F ?_ ?_ ?_
   ·refine⟨h,?_⟩;and_intros<;>first|rfl|(simp only[cz,seval,Y]<;>rfl)
   ·rintro⟨B,C,k⟩ t H e ⟨l,R⟩ c a;simp only[qn]at a;simp only[cz,seval,R];obtain⟨aa,G,a⟩:=ab a;refine bq 0 (fun s t H e=>match s with|n=>∃b:Nat,t 0=.sl false false q.length (ae (eI .i64) q)∧t 1=.sl false false u.length (ae (eI .i64) u)∧t 5=.buf 5 b 1 0 (k).length∧t 6=.int .i64 g∧t 7=.int .i64 B∧t 8=.int .i64 C∧t 29=.bool n∧H 5=some ⟨b,3,ae (eI .i64) k,false,true,false⟩) (fun s=>s=aa) ?_ ?_
    ·rintro n t H e ⟨b,v⟩ rfl;try dsimp only at a
     simp only[cz,seval,v];apply sp aj a<;>intro _ a
     ·obtain⟨ai,p,a⟩:=ab a;have f:=bk (eI .i64) p;simp only[bT]at f;obtain⟨ak,I,a⟩:=ab a;have w:=bk (eI .i64) I;simp only[bT]at w;obtain⟨al,J,a⟩:=ab a;simp only[cz,seval,v,f,w,J];refine bu (by kernel_rfl) ?_;obtain⟨K,L,a⟩:=ab a;have ad:=Ah L;have f:=bk (eI .i64) p;simp only[bT]at f;have M:=fN (eI .i64) (x':=K) (fo:=0) (cs:=[.int .i64 K]) p rfl (agG rfl);simp only[bT,Nat.add_zero]at M;have y:=M;simp only[putCells,List.length_cons,List.length_nil,afH]at y;obtain⟨an,N,a⟩:=ab a;have ag:=uw N;cases a;simp only[seval,ad,y,ag];apply eS;refine⟨b,?_⟩;and_intros<;>first|rfl|(simp only[cz,seval,v]<;>rfl)
     ·cases a;simp only[cz,seval];apply gC;refine⟨rfl,⟨b,?_,?_,?_,?_,?_⟩⟩;all_goals ((simp only[cz,seval,v]<;>rfl))
    ·clear a;have a:=G;simp only[cz,seval];apply sp aO a<;>intro _ a
     ·cases a;simp only[cz,seval];rw[au];refine⟨_,rfl,?_⟩;refine⟨l,?_⟩;and_intros<;>first|rfl|(simp only[cz,seval,R]<;>rfl)
     ·cases a;simp only[cz,seval,R];rw[au];refine⟨_,rfl,?_⟩;refine⟨l,?_⟩;and_intros<;>first|rfl|(simp only[cz,seval,R]<;>rfl)
   ·rintro x t H e O;obtain⟨m,rfl⟩:∃z,z=Z:=⟨_,rfl⟩;dsimp only at O a;obtain⟨rfl,⟨d,P⟩⟩:=O;cases a;simp only[cz,seval,P];apply eS;refine⟨d,?_⟩;and_intros<;>first|rfl|(simp only[cz,seval,P]<;>rfl)
  ·cases a;simp only[cz,seval];apply gC;refine⟨rfl,⟨h,?_,?_⟩⟩;all_goals ((simp only[cz,seval,Y]<;>rfl))
 ·rintro x t H e O;obtain⟨i,rfl⟩:∃z,z=X:=⟨_,rfl⟩;dsimp only at O a;obtain⟨rfl,⟨j,ah⟩⟩:=O;obtain⟨ao,Q,a⟩:=ab a;cases a;simp only[cz,seval,ah,Q]
def iu (l:Option (D×Row)) (d:List D):=di (fl (oL (eI .i64)) (dc (oL (eI .i64)))) (fun x:(List Int)×(List Int)=>oZ x.1 x.2) (fun r:Bool =>.clean (.bool r)) l d
def yY:Env:=(Am.ext bl 137 false eF)
def Np:bG prog yY:=(bG.none.add qf false)
def jr:=ai @w<|ai @Vr<|ai @eF.eq_1<|@yY.eq_1
def wM:bK prog 112 iu:=bK.fh (mode := .clean) tok Np mixed func112 (by kernel_rfl) (fun _ _=>rfl) (fun _=>by kernel_rfl) fun⟨i,j⟩ r a=>by
 replace a:oZ i j=some r:=a;apply aF rfl ntmps112 results112;simp only[fj];unfold oZ at a;simp only[jr,seval];obtain⟨l,k,a⟩:=ab a;refine ax (fun s t H e=>match s with|b=>t 0=.sl false false i.length (ae (eI .i64) i)∧t 1=.sl false false j.length (ae (eI .i64) j)∧t 5=.int .i64 b) (fun o x t H e=>match o with|(.inl _)=>x=.exit 0|(.inr r)=>x=.ret∧eB .clean tab none [.tmp 4] ⟨t,EH H,e⟩=some (.clean (.bool r),none)) k ?_ ?_ ?_
 ·refine⟨?_,?_,?_⟩;all_goals (rfl)
 ·rintro b t H e d c a;simp only[ss]at a;simp only[jr,seval,d];apply sp aj a<;>intro _ a
  ·obtain⟨n,f,a⟩:=ab a;obtain⟨p,g,a⟩:=ab a;simp only[jr,seval,d,f,g];apply sp aj a<;>intro _ a
   ·cases a;simp only[jr,seval,d,f,g];refine lk ⟨rfl,?_⟩;simp only[jr,seval]
   ·cases a;simp only[jr,seval,d];apply eS;and_intros<;>first|rfl|(simp only[jr,seval,d]<;>rfl)
  ·cases a;simp only[jr,seval];apply gC;exact rfl
 ·rintro x t H e h;rcases l with _|q
  ·dsimp only at h a;subst h;cases a;simp only[jr,seval]
  ·dsimp only at h a;obtain⟨rfl,m⟩:=h;cases a;simp only[aP,aV,bS,bV];exact m
def gq (l:Option (D×Row)) (d:List D):=di (fl (oL (eI .i64)) (dc (oL (eI .i64)))) (fun x:(List Int)×(List Int)=>kF x.1 x.2) (fun r:(List Int) =>.clean (.sl false false r.length (ae (eI .i64) r))) l d
def wo:Env:=(Am.ext (Am.ext bl 136 false eA) 137 false eF)
def KB:bG prog wo:=((bG.none.add oY false).add qf false)
def gz:=ai @w<|ai @Tz<|ai @eA.eq_1<|ai @Vr<|ai @eF.eq_1<|@wo.eq_1
def uQ:bK prog 130 gq:=bK.fh (mode := .clean) tok KB mixed func130 (by kernel_rfl) (fun _ _=>rfl) (fun _=>by kernel_rfl) fun⟨E,F⟩ r a=>by
 replace a:kF E F=some r:=a;apply aF rfl ntmps130 results130;simp only[fj];unfold kF at a;simp only[gz,seval];obtain⟨K,G,a⟩:=ab a;refine ax (fun s t H e=>match s with|(l,m,j)=>∃f:Nat,t 0=.sl false false E.length (ae (eI .i64) E)∧t 1=.sl false false F.length (ae (eI .i64) F)∧t 5=.buf 5 f 1 0 (j).length∧t 6=.int .i64 l∧t 7=.int .i64 m∧H 5=some ⟨f,3,ae (eI .i64) j,false,true,false⟩) (fun o x t H e=>match o with|b=>x=.exit 0∧∃d:Nat,t 5=.buf 5 d 1 0 (b).length∧H 5=some ⟨d,3,ae (eI .i64) b,false,true,false⟩) G ?_ ?_ ?_
 ·refine⟨1,?_,?_,?_,?_,?_,?_⟩;all_goals (rfl)
 ·rintro⟨l,m,j⟩ t H e ⟨f,k⟩ c a;simp only[ql]at a;simp only[gz,seval,k];apply sp aj a<;>intro _ a
  ·obtain⟨L,n,a⟩:=ab a;have g:=bk (eI .i64) n;simp only[bT]at g;obtain⟨M,p,a⟩:=ab a;simp only[gz,seval,k,g,p];refine bu (by kernel_rfl) ?_;apply sp aj a<;>intro _ a
   ·obtain⟨N,q,a⟩:=ab a;obtain⟨u,h,v,w⟩:=fY (eI .i64) q;simp only[bT]at h;cases a;simp only[gz,seval,k,u,h,v,w];apply eS;refine⟨e+1+1+1+1+1+1,?_⟩;and_intros<;>first|rfl|(simp only[gz,seval,k]<;>rfl)
   ·obtain⟨O,y,a⟩:=ab a;obtain⟨A,i,B,C⟩:=fY (eI .i64) y;simp only[bT]at i;cases a;simp only[gz,seval,k,A,i,B,C];apply eS;refine⟨e+1+1+1+1,?_⟩;and_intros<;>first|rfl|(simp only[gz,seval,k]<;>rfl)
  ·cases a;simp only[gz,seval];apply gC;refine⟨rfl,⟨f,?_,?_⟩⟩;all_goals ((simp only[gz,seval,k]<;>rfl))
 ·rintro x t H e J;obtain⟨b,rfl⟩:∃z,z=K:=⟨_,rfl⟩;dsimp only at J a;obtain⟨rfl,⟨d,I⟩⟩:=J;obtain⟨P,D,a⟩:=ab a;cases a;simp only[gz,seval,I,D]
def lT (l:Option (D×Row)) (d:List D):=di (fl (oL (eI .i64)) (dc (oL (eI .i64)))) (fun x:(List Int)×(List Int)=>rC x.1 x.2) (fun r:(List Int)×(List Int) =>.clean (.tup [.sl false false r.1.length (ae (eI .i64) r.1),.sl false false r.2.length (ae (eI .i64) r.2)])) l d
def wQ (a:(List Int)) (b:(List Int)):l9 none [.sl false false a.length (ae (eI .i64) a),.sl false false b.length (ae (eI .i64) b)]=(kG a b).map fun r:(List Int)=>(.clean (.sl false false r.length (ae (eI .i64) r)),none):=cB _ _ _ (a,b)
def zm (a:(List Int)):eA none [.sl false false a.length (ae (eI .i64) a)]=(ic a).map fun r:(List Int)=>(.clean (.sl false false r.length (ae (eI .i64) r)),none):=cB _ _ _ (a)
def y3:Env:=(Am.keep 7 (Am.ext (Am.ext (Am.ext (Am.ext bl 112 false iu) 113 false l9) 130 false gq) 136 false eA))
def Nr:bG prog y3:=(bG.keep ((((bG.none.add wM false).add Ak false).add uQ false).add oY false) 7)
def dM:=ai @w<|ai @CM<|ai @iu.eq_1<|ai @wQ<|ai @gq.eq_1<|ai @zm<|@y3.eq_1
def CB:bK prog 109 lT:=bK.fh (mode := .clean) tok Nr mixed func109 (by kernel_rfl) (fun _ _=>rfl) (fun _=>by kernel_rfl) fun⟨B,p⟩ r a=>by
 replace a:rC B p=some r:=a;apply aF rfl ntmps109 results109;simp only[fj];unfold rC at a;obtain⟨x1,aa,a⟩:=ab a;obtain⟨ad,ag,ah,D,ai⟩:=mk_one (eI .i64) aa;simp only[bT]at D;simp only[dM,seval,ad,ag,ah,D,ai];obtain⟨ak,E,a⟩:=ab a;refine ax (fun s t H e=>match s with|(C,m,d)=>∃h:Nat,t 0=.sl false false B.length (ae (eI .i64) B)∧t 1=.sl false false p.length (ae (eI .i64) p)∧t 6=.buf 6 h 1 0 (d).length∧t 7=.sl false false C.length (ae (eI .i64) C)∧t 8=.int .i64 m∧H 6=some ⟨h,3,ae (eI .i64) d,false,true,false⟩) (fun o x t H e=>match o with|(i,j)=>x=.exit 0∧∃k:Nat,t 6=.buf 6 k 1 0 (j).length∧t 7=.sl false false i.length (ae (eI .i64) i)∧H 6=some ⟨k,3,ae (eI .i64) j,false,true,false⟩) E ?_ ?_ ?_
 ·refine⟨1,?_,?_,?_,?_,?_,?_⟩;all_goals (rfl)
 ·rintro⟨C,m,d⟩ t H e ⟨h,Za⟩ c a;simp only[su]at a;simp only[dM,seval,Za];apply sp aj a<;>intro _ a
  ·obtain⟨ar,F,a⟩:=ab a;have l:=bk (eI .i64) F;simp only[bT]at l;obtain⟨au,G,a⟩:=ab a;obtain⟨q,u,I,J⟩:=Yq (eI .i64) G;simp only[bP,bT,List.length_cons,afH]at q u;obtain⟨n,K,a⟩:=ab a;simp only[dM,seval,Za,l,q,u,I,J,K];obtain⟨al,L,a⟩:=ab a;refine ax (fun s t H e=>match s with|(M,v)=>∃g:Nat,t 0=.sl false false B.length (ae (eI .i64) B)∧t 1=.sl false false p.length (ae (eI .i64) p)∧t 6=.buf 6 g 1 0 (d).length∧t 7=.sl false false n.length (ae (eI .i64) n)∧t 8=.int .i64 m∧t 9=.int .i64 M∧t 10=.int .i64 v∧H 6=some ⟨g,3,ae (eI .i64) d,false,true,false⟩) (fun o x t H e=>match o with|b=>x=.exit 2∧∃f:Nat,t 0=.sl false false B.length (ae (eI .i64) B)∧t 1=.sl false false p.length (ae (eI .i64) p)∧t 6=.buf 6 f 1 0 (d).length∧t 7=.sl false false n.length (ae (eI .i64) n)∧t 8=.int .i64 m∧t 9=.int .i64 b∧H 6=some ⟨f,3,ae (eI .i64) d,false,true,false⟩) L ?_ ?_ ?_
   ·refine⟨h,?_⟩;and_intros<;>first|rfl|(simp only[dM,seval,Za]<;>rfl)
   ·rintro⟨M,v⟩ t H e ⟨g,N⟩ c a;simp only[o0]at a;simp only[dM,seval,N];apply sp aj a<;>intro _ a
    ·obtain⟨an,O,a⟩:=ab a;have ao:=uw O;have P:=wQ p ([an]);simp only[bP,bT,List.length_cons,afH]at P;obtain⟨av,Q,a⟩:=ab a;obtain⟨aw,R,a⟩:=ab a;simp only[dM,seval,N,ao,P,Q,R];apply sp aj a<;>intro _ a
     ·cases a;simp only[dM,seval];apply eS;refine⟨g,?_⟩;and_intros<;>first|rfl|(simp only[dM,seval,N]<;>rfl)
     ·cases a;simp only[dM,seval];apply eS;refine⟨g,?_⟩;and_intros<;>first|rfl|(simp only[dM,seval,N]<;>rfl)
    ·cases a;simp only[dM,seval];apply gC;refine⟨rfl,⟨g,?_,?_,?_,?_,?_,?_,?_⟩⟩;all_goals ((simp only[dM,seval,N]<;>rfl))
   ·rintro x t H e S;obtain⟨b,rfl⟩:∃z,z=al:=⟨_,rfl⟩;dsimp only at S a;obtain⟨rfl,⟨f,T⟩⟩:=S;obtain⟨ay,w,a⟩:=ab a;have y:=bk (eI .i64) w;simp only[bT]at y;have U:=fN (eI .i64) (x':=b) (fo:=0) (cs:=[.int .i64 b]) w rfl (agG rfl);simp only[bT,Nat.add_zero]at U;have A:=U;simp only[putCells,List.length_cons,List.length_nil,afH]at A;have V:=zm ([b]);simp only[bP,bT,List.length_cons,afH]at V;obtain⟨az,W,a⟩:=ab a;obtain⟨aA,X,a⟩:=ab a;obtain⟨aB,Y,a⟩:=ab a;cases a;simp only[dM,seval,l,T,y,A,V,W,X,Y];apply eS;refine⟨f,?_⟩;and_intros<;>first|rfl|(simp only[dM,seval,T]<;>rfl)
  ·cases a;simp only[dM,seval];apply gC;refine⟨rfl,⟨h,?_,?_,?_⟩⟩;all_goals ((simp only[dM,seval,Za]<;>rfl))
 ·rintro x t H e S;rcases ak with⟨i,j⟩;dsimp only at S a;obtain⟨rfl,⟨k,aq⟩⟩:=S;obtain⟨aC,Z,a⟩:=ab a;cases a;simp only[dM,seval,aq,Z]
def nF (l:Option (D×Row)) (d:List D):=di (fl (bo dN) (dc (bo dN))) (fun x:aG×aG=>so x.1 x.2) (fun r:aG×Int =>.clean (.tup [.agg [.int .i64 r.1.ak,.sl false false r.1.aa.length (ae (eI .i64) r.1.aa)],.int .i64 r.2])) l d
def xS {β:Type} {F:aG×aG->Option β} {R:β->RK} (c:Int) (a:(List Int)) (d:Int) (b:(List Int)):di (fl (bo dN) (dc (bo dN))) F R none [.agg [.int .i64 c,.sl false false a.length (ae (eI .i64) a)],.agg [.int .i64 d,.sl false false b.length (ae (eI .i64) b)]]=(F ((aG.mk c a),(aG.mk d b))).map fun r=>(R r,none):=cB _ _ _ ((aG.mk c a),(aG.mk d b))
def Bc:Env:=(Am.ext (Am.ext (Am.ext bl 73 false bM) 109 false lT) 110 false dn)
def QL:bG prog Bc:=(((bG.none.add gj false).add CB false).add ml false)
def fR:=ai @w<|ai @tO<|ai @bM.eq_1<|ai @CM<|ai @lT.eq_1<|ai @Dx<|ai @dn.eq_1<|@Bc.eq_1
def FY:bK prog 74 nF:=bK.fh (mode := .clean) tok QL mixed func74 (by kernel_rfl) (fun _ _=>rfl) (fun _=>by kernel_rfl) fun⟨p,q⟩ r a=>by
 replace a:so p q=some r:=a;apply aF rfl ntmps74 results74;simp only[fj];unfold so at a;obtain⟨I,v,a⟩:=ab a;simp only[fR,seval,v];obtain⟨E,w,a⟩:=ab a;refine bq 0 (fun s t H e=>match s with|d=>∃f:Nat,∃g:Nat,∃b:Nat,t 2=.ptr 2 f 0∧t 3=.ptr 3 g 0∧t 4=.ptr 4 b 0∧t 17=.bool d∧H 2=some ⟨f,40,[.int .i64 p.ak,.sl false false p.aa.length (ae (eI .i64) p.aa)],false,false,false⟩∧H 3=some ⟨g,40,[.int .i64 q.ak,.sl false false q.aa.length (ae (eI .i64) q.aa)],false,false,false⟩∧H 4=some ⟨b,40,[.int .i64 0,.sl true true 0 []],false,false,false⟩) (fun s=>s=E) ?_ ?_
 ·rintro d t H e ⟨f,g,b,k⟩ rfl;try dsimp only at a
  simp only[fR,seval,k];apply sp aj a<;>intro _ a
  ·cases a;simp only[fR,seval,k]
  ·simp only[fR,seval,k];obtain⟨F,y,a⟩:=ab a;refine ax (fun s t H e=>match s with|(l,m)=>∃h:Nat,t 4=.ptr 4 h 0∧t 6=.sl false false l.length (ae (eI .i64) l)∧t 7=.sl false false m.length (ae (eI .i64) m)∧H 4=some ⟨h,40,[.int .i64 0,.sl true true 0 []],false,false,false⟩) (fun o x t H e=>match o with|i=>x=.exit 0∧∃j:Nat,t 4=.ptr 4 j 0∧t 6=.sl false false i.length (ae (eI .i64) i)∧H 4=some ⟨j,40,[.int .i64 0,.sl true true 0 []],false,false,false⟩) y ?_ ?_ ?_
   ·refine⟨b,?_⟩;and_intros<;>first|rfl|(simp only[fR,seval,k]<;>rfl)
   ·rintro⟨l,m⟩ t H e ⟨h,u⟩ c a;simp only[rB]at a;simp only[fR,seval,u];apply sp aj a<;>intro _ a
    ·obtain⟨J,A,a⟩:=ab a;cases a;simp only[fR,seval,u,A];apply eS;refine⟨h,?_⟩;and_intros<;>first|rfl|(simp only[fR,seval,u]<;>rfl)
    ·cases a;simp only[fR,seval];apply gC;refine⟨rfl,⟨h,?_,?_,?_⟩⟩;all_goals ((simp only[fR,seval,u]<;>rfl))
   ·rintro x t H e D;obtain⟨i,rfl⟩:∃z,z=F:=⟨_,rfl⟩;dsimp only at D a;obtain⟨rfl,⟨j,B⟩⟩:=D;obtain⟨K,C,a⟩:=ab a;cases a;simp only[fR,seval,B,C]
 ·clear a;have a:=w;simp only[fR,seval];apply sp aO a<;>intro _ a
  ·cases a;simp only[fR,seval];rw[au];refine⟨_,rfl,?_⟩;refine⟨0,0,0,?_,?_,?_,?_,?_,?_,?_⟩;all_goals (rfl)
  ·obtain⟨G,n,a⟩:=ab a;cases a;simp only[fR,seval,n];rw[au];refine⟨_,rfl,?_⟩;refine⟨0,0,0,?_,?_,?_,?_,?_,?_,?_⟩;all_goals (rfl)
def nH (l:Option (D×Row)) (d:List D):=di (fl (oL (eI .i64)) (dc (oL (eI .i64)))) (fun x:(List Int)×(List Int)=>pb x.1 x.2) (fun r:(List Int) =>.clean (.sl false false r.length (ae (eI .i64) r))) l d
def y4:Env:=(Am.ext (Am.ext bl 136 false eA) 137 false eF)
def Ns:bG prog y4:=((bG.none.add oY false).add qf false)
def dU:=ai @w<|ai @Tz<|ai @eA.eq_1<|ai @Vr<|ai @eF.eq_1<|@y4.eq_1
def CC:bK prog 129 nH:=bK.fh (mode := .clean) tok Ns mixed func129 (by kernel_rfl) (fun _ _=>rfl) (fun _=>by kernel_rfl) fun⟨p,q⟩ r a=>by
 replace a:pb p q=some r:=a;apply aF rfl ntmps129 results129;simp only[fj];unfold pb at a;simp only[dU,seval];obtain⟨I,u,a⟩:=ab a;refine ax (fun s t H e=>match s with|(l,m,f)=>∃d:Nat,t 0=.sl false false p.length (ae (eI .i64) p)∧t 1=.sl false false q.length (ae (eI .i64) q)∧t 5=.buf 5 d 1 0 (f).length∧t 6=.int .i64 l∧t 7=.int .i64 m∧H 5=some ⟨d,3,ae (eI .i64) f,false,true,false⟩) (fun o x t H e=>match o with|g=>x=.exit 0∧∃h:Nat,t 5=.buf 5 h 1 0 (g).length∧H 5=some ⟨h,3,ae (eI .i64) g,false,true,false⟩) u ?_ ?_ ?_
 ·refine⟨1,?_,?_,?_,?_,?_,?_⟩;all_goals (rfl)
 ·rintro⟨l,m,f⟩ t H e ⟨d,n⟩ c a;simp only[sw]at a;simp only[dU,seval,n];obtain⟨J,v,a⟩:=ab a;refine bq 0 (fun s t H e=>match s with|i=>∃b:Nat,t 0=.sl false false p.length (ae (eI .i64) p)∧t 1=.sl false false q.length (ae (eI .i64) q)∧t 5=.buf 5 b 1 0 (f).length∧t 6=.int .i64 l∧t 7=.int .i64 m∧t 22=.bool i∧H 5=some ⟨b,3,ae (eI .i64) f,false,true,false⟩) (fun s=>s=J) ?_ ?_
  ·rintro i t H e ⟨b,j⟩ rfl;try dsimp only at a
   simp only[dU,seval,j];apply sp aj a<;>intro _ a
   ·obtain⟨O,w,a⟩:=ab a;obtain⟨P,y,a⟩:=ab a;obtain⟨Q,A,a⟩:=ab a;have K:=Ah A;obtain⟨R,B,a⟩:=ab a;obtain⟨C,k,D,E⟩:=fY (eI .i64) B;simp only[bT]at k;obtain⟨S,F,a⟩:=ab a;have L:=uw F;cases a;simp only[dU,seval,j,w,y,K,C,k,D,E,L];apply eS;refine⟨e+1,?_⟩;and_intros<;>first|rfl|(simp only[dU,seval,j]<;>rfl)
   ·cases a;simp only[dU,seval];apply gC;refine⟨rfl,⟨b,?_,?_⟩⟩;all_goals ((simp only[dU,seval,j]<;>rfl))
  ·clear a;have a:=v;simp only[dU,seval];apply sp aO a<;>intro _ a
   ·cases a;simp only[dU,seval];rw[au];refine⟨_,rfl,?_⟩;refine⟨d,?_⟩;and_intros<;>first|rfl|(simp only[dU,seval,n]<;>rfl)
   ·simp only[dU,seval,n];apply sp aO a<;>intro _ a
    ·cases a;simp only[dU,seval];rw[au];refine⟨_,rfl,?_⟩;refine⟨d,?_⟩;and_intros<;>first|rfl|(simp only[dU,seval,n]<;>rfl)
    ·cases a;simp only[dU,seval,n];rw[au];refine⟨_,rfl,?_⟩;refine⟨d,?_⟩;and_intros<;>first|rfl|(simp only[dU,seval,n]<;>rfl)
 ·rintro x t H e N;obtain⟨g,rfl⟩:∃z,z=I:=⟨_,rfl⟩;dsimp only at N a;obtain⟨rfl,⟨h,M⟩⟩:=N;obtain⟨T,G,a⟩:=ab a;cases a;simp only[dU,seval,M,G]
def xf (l:Option (D×Row)) (d:List D):=di (fl (bo dN) (dc (bo dN))) (fun x:aG×aG=>qh x.1 x.2) (fun r:aG×aG×Int =>.clean (.tup [.agg [.int .i64 r.1.ak,.sl false false r.1.aa.length (ae (eI .i64) r.1.aa)],.agg [.int .i64 r.2.1.ak,.sl false false r.2.1.aa.length (ae (eI .i64) r.2.1.aa)],.int .i64 r.2.2])) l d
def Rm (a:(List Int)) (b:(List Int)):nH none [.sl false false a.length (ae (eI .i64) a),.sl false false b.length (ae (eI .i64) b)]=(pb a b).map fun r:(List Int)=>(.clean (.sl false false r.length (ae (eI .i64) r)),none):=cB _ _ _ (a,b)
def Bb:Env:=(Am.ext (Am.ext (Am.ext (Am.ext (Am.ext bl 73 false bM) 109 false lT) 110 false dn) 129 false nH) 130 false gq)
def QK:bG prog Bb:=(((((bG.none.add gj false).add CB false).add ml false).add CC false).add uQ false)
def eK:=ai @w<|ai @tO<|ai @bM.eq_1<|ai @CM<|ai @lT.eq_1<|ai @Dx<|ai @dn.eq_1<|ai @gq.eq_1<|@Bb.eq_1
def Rb:bK prog 115 xf:=bK.fh (mode := .clean) tok QK mixed func115 (by kernel_rfl) (fun _ _=>rfl) (fun _=>by kernel_rfl) fun⟨n,o⟩ r a=>by
 replace a:qh n o=some r:=a;apply aF rfl ntmps115 results115;simp only[fj];unfold qh at a;obtain⟨O,A,a⟩:=ab a;simp only[eK,seval,A];obtain⟨G,B,a⟩:=ab a;refine bq 0 (fun s t H e=>match s with|h=>∃b:Nat,∃c:Nat,∃d:Nat,∃f:Nat,t 2=.ptr 2 b 0∧t 3=.ptr 3 c 0∧t 4=.ptr 4 d 0∧t 5=.ptr 5 f 0∧t 16=.bool h∧H 2=some ⟨b,40,[.int .i64 n.ak,.sl false false n.aa.length (ae (eI .i64) n.aa)],false,false,false⟩∧H 3=some ⟨c,40,[.int .i64 o.ak,.sl false false o.aa.length (ae (eI .i64) o.aa)],false,false,false⟩∧H 4=some ⟨d,40,[.int .i64 0,.sl true true 0 []],false,false,false⟩∧H 5=some ⟨f,40,[.int .i64 0,.sl true true 0 []],false,false,false⟩) (fun s=>s=G) ?_ ?_
 ·rintro h t H e ⟨b,c,d,f,g⟩ rfl;try dsimp only at a
  simp only[eK,seval,g];apply sp aj a<;>intro _ a
  ·cases a;simp only[eK,seval,g]
  ·simp only[eK,seval,g];apply sp aj a<;>intro _ a
   ·cases a;simp only[eK,seval,g]
   ·obtain⟨q,C,a⟩:=ab a;simp only[eK,seval,g,C];obtain⟨I,D,a⟩:=ab a;refine bq 0 (fun s t H e=>match s with|i=>∃j:Nat,∃k:Nat,∃l:Nat,∃m:Nat,t 2=.ptr 2 j 0∧t 3=.ptr 3 k 0∧t 4=.ptr 4 l 0∧t 5=.ptr 5 m 0∧t 7=.sl false false q.1.length (ae (eI .i64) q.1)∧t 8=.sl false false q.2.length (ae (eI .i64) q.2)∧t 42=.bool i∧H 2=some ⟨j,40,[.int .i64 n.ak,.sl false false n.aa.length (ae (eI .i64) n.aa)],false,false,false⟩∧H 3=some ⟨k,40,[.int .i64 o.ak,.sl false false o.aa.length (ae (eI .i64) o.aa)],false,false,false⟩∧H 4=some ⟨l,40,[.int .i64 0,.sl true true 0 []],false,false,false⟩∧H 5=some ⟨m,40,[.int .i64 0,.sl true true 0 []],false,false,false⟩) (fun s=>s=I) ?_ ?_
    ·rintro i t H e ⟨j,k,l,m,p⟩ rfl;try dsimp only at a
     simp only[eK,seval,p];apply sp aj a<;>intro _ a
     ·obtain⟨P,E,a⟩:=ab a;obtain⟨Q,F,a⟩:=ab a;simp only[eK,seval,p,E,F];refine bu (by kernel_rfl) ?_;cases a;simp only[seval]
     ·have u:=Rm q.1 ([1]);simp only[bP,bT,List.length_cons,afH]at u;obtain⟨J,v,a⟩:=ab a;obtain⟨K,w,a⟩:=ab a;obtain⟨L,x,a⟩:=ab a;obtain⟨M,y,a⟩:=ab a;simp only[eK,seval,p,u,v,w,x,y];refine bu (by kernel_rfl) ?_;cases a;simp only[seval]
    ·clear a;have a:=D;simp only[eK,seval];apply sp aO a<;>intro _ a
     ·cases a;simp only[eK,seval];rw[au];refine⟨_,rfl,?_⟩;refine⟨b,c,d,f,?_⟩;and_intros<;>first|rfl|(simp only[eK,seval,g]<;>rfl)
     ·cases a;simp only[eK,seval];rw[au];refine⟨_,rfl,?_⟩;refine⟨b,c,d,f,?_⟩;and_intros<;>first|rfl|(simp only[eK,seval,g]<;>rfl)
 ·clear a;have a:=B;simp only[eK,seval];apply sp aO a<;>intro _ a
  ·cases a;simp only[eK,seval];rw[au];refine⟨_,rfl,?_⟩;refine⟨0,0,0,0,?_,?_,?_,?_,?_,?_,?_,?_,?_⟩;all_goals (rfl)
  ·obtain⟨N,z,a⟩:=ab a;cases a;simp only[eK,seval,z];rw[au];refine⟨_,rfl,?_⟩;refine⟨0,0,0,0,?_,?_,?_,?_,?_,?_,?_,?_,?_⟩;all_goals (rfl)
def gB (l:Option (D×Row)) (d:List D):=di (fl (bo dN) (dc (bo dN))) (fun x:aG×aG=>qo x.1 x.2) (fun r:aw×Int =>.clean (.tup [.agg [.int .i64 r.1.bR.ak,.sl false false r.1.bR.aa.length (ae (eI .i64) r.1.bR.aa),.int .i64 r.1.bN.ak,.sl false false r.1.bN.aa.length (ae (eI .i64) r.1.bN.aa)],.int .i64 r.2])) l d
def Bj:Env:=(Am.ext (Am.ext (Am.ext (Am.ext bl 73 false bM) 74 false nF) 114 false nG) 115 false xf)
def QS:bG prog Bj:=((((bG.none.add gj false).add FY false).add FZ false).add Rb false)
def fk:=ai @w<|ai @tO<|ai @bM.eq_1<|ai @xS<|ai @nF.eq_1<|ai @nG.eq_1<|ai @xf.eq_1<|@Bj.eq_1
def uR:bK prog 79 gB:=bK.fh (mode := .clean) tok QS mixed func79 (by kernel_rfl) (fun _ _=>rfl) (fun _=>by kernel_rfl) fun⟨u,v⟩ r a=>by
 replace a:qo u v=some r:=a;apply aF rfl ntmps79 results79;simp only[fj];unfold qo at a;obtain⟨J,w,a⟩:=ab a;simp only[fk,seval,w];obtain⟨D,x,a⟩:=ab a;refine bq 0 (fun s t H e=>match s with|k=>∃d:Nat,∃f:Nat,∃g:Nat,t 2=.ptr 2 d 0∧t 3=.ptr 3 f 0∧t 4=.ptr 4 g 0∧t 21=.bool k∧H 2=some ⟨d,40,[.int .i64 u.ak,.sl false false u.aa.length (ae (eI .i64) u.aa)],false,false,false⟩∧H 3=some ⟨f,40,[.int .i64 v.ak,.sl false false v.aa.length (ae (eI .i64) v.aa)],false,false,false⟩∧H 4=some ⟨g,42,[.int .i64 0,.sl true true 0 [],.int .i64 0,.sl true true 0 []],false,false,false⟩) (fun s=>s=D) ?_ ?_
 ·rintro k t H e ⟨d,f,g,h⟩ rfl;try dsimp only at a
  simp only[fk,seval,h];apply sp aj a<;>intro _ a
  ·cases a;simp only[fk,seval,h]
  ·simp only[fk,seval,h];apply sp aj a<;>intro _ a
   ·cases a;simp only[fk,seval,h]
   ·simp only[fk,seval,h];obtain⟨E,y,a⟩:=ab a;refine lA 0 (fun s t H e=>match s with|(i,b,j,c)=>∃l:Nat,∃m:Nat,∃n:Nat,t 2=.ptr 2 l 0∧t 3=.ptr 3 m 0∧t 4=.ptr 4 n 0∧H 2=some ⟨l,40,[.int .i64 i,.sl false false b.length (ae (eI .i64) b)],false,false,false⟩∧H 3=some ⟨m,40,[.int .i64 j,.sl false false c.length (ae (eI .i64) c)],false,false,false⟩∧H 4=some ⟨n,42,[.int .i64 0,.sl true true 0 [],.int .i64 0,.sl true true 0 []],false,false,false⟩) (fun s=>s=E) ?_ ?_
    ·rintro⟨i,b,j,c⟩ t H e ⟨l,m,n,z⟩ rfl;try dsimp only at a
     obtain⟨K,A,a⟩:=ab a;obtain⟨L,B,a⟩:=ab a;obtain⟨M,C,a⟩:=ab a;cases a;simp only[fk,seval,z,A,B,C]
    ·clear a;have a:=y;simp only[fk,seval];apply sp aj a<;>intro _ a
     ·obtain⟨F,o,a⟩:=ab a;obtain⟨G,p,a⟩:=ab a;cases a;simp only[fk,seval,h,o,p];rw[au];refine⟨_,rfl,?_⟩;refine⟨d,f,g,?_⟩;and_intros<;>first|rfl|(simp only[fk,seval,h]<;>rfl)
     ·cases a;simp only[fk,seval];rw[au];refine⟨_,rfl,?_⟩;refine⟨d,f,g,?_,?_,?_,?_,?_,?_⟩;all_goals ((simp only[fk,seval,h]<;>rfl))
 ·clear a;have a:=x;simp only[fk,seval];apply sp aO a<;>intro _ a
  ·cases a;simp only[fk,seval];rw[au];refine⟨_,rfl,?_⟩;refine⟨0,0,0,?_,?_,?_,?_,?_,?_,?_⟩;all_goals (rfl)
  ·obtain⟨I,q,a⟩:=ab a;cases a;simp only[fk,seval,q];rw[au];refine⟨_,rfl,?_⟩;refine⟨0,0,0,?_,?_,?_,?_,?_,?_,?_⟩;all_goals (rfl)
def lp (l:Option (D×Row)) (d:List D):=di (fl (aI .i64) (dc (aI .i64))) (fun x:Int×Int=>uW x.1 x.2) (fun r:aw×Int =>.clean (.tup [.agg [.int .i64 r.1.bR.ak,.sl false false r.1.bR.aa.length (ae (eI .i64) r.1.bR.aa),.int .i64 r.1.bN.ak,.sl false false r.1.bN.aa.length (ae (eI .i64) r.1.bN.aa)],.int .i64 r.2])) l d
def TA {β:Type} {F:Int×Int->Option β} {R:β->RK} (a:Int) (b:Int):di (fl (aI .i64) (dc (aI .i64))) F R none [.int .i64 a,.int .i64 b]=(F (a,b)).map fun r=>(R r,none):=cB _ _ _ (a,b)
def ER:Env:=(Am.ext (Am.ext bl 76 false qH) 79 false gB)
def Uq:bG prog ER:=((bG.none.add Jg false).add uR false)
def Yg:=ai @w<|ai @zA<|ai @qH.eq_1<|ai @xS<|ai @gB.eq_1<|@ER.eq_1
def BB:bK prog 48 lp:=bK.fh (mode := .clean) tok Uq mixed func48 (by kernel_rfl) (fun _ _=>rfl) (fun _=>by kernel_rfl) fun⟨e,f⟩ r a=>by
 replace a:uW e f=some r:=a;apply aF rfl ntmps48 results48;simp only[fj];unfold uW at a;obtain⟨g,b,a⟩:=ab a;obtain⟨h,c,a⟩:=ab a;obtain⟨i,d,a⟩:=ab a;cases a;simp only[Yg,seval,b,c,d]
def tT (l:Option (D×Row)) (d:List D):=di (as0) (fun x:Unit=>Ad) (fun r:aw =>.clean (.agg [.int .i64 r.bR.ak,.sl false false r.bR.aa.length (ae (eI .i64) r.bR.aa),.int .i64 r.bN.ak,.sl false false r.bN.aa.length (ae (eI .i64) r.bN.aa)])) l d
def sh8 {β:Type} {F:Unit->Option β} {R:β->RK} : di (as0) F R none []=(F (())).map fun r=>(R r,none):=cB _ _ _ (())
def yU:Env:=(Am.ext bl 48 false lp)
def Nk:bG prog yU:=(bG.none.add BB false)
def R4:=ai @w<|ai @TA<|ai @lp.eq_1<|@yU.eq_1
def Ov:bK prog 23 tT:=bK.fh (mode := .clean) tok Nk mixed func23 (by kernel_rfl) (fun _ _=>rfl) (fun _=>by kernel_rfl) fun _ r a=>by
 replace a:Ad=some r:=a;apply aF rfl ntmps23 results23;simp only[fj];unfold Ad at a;obtain⟨c,b,a⟩:=ab a;cases a;simp only[R4,seval,b]
def cF (l:Option (D×Row)) (d:List D):=di (dc (aI .i64)) (fun x:Int=>jP x) (fun r:aw =>.clean (.agg [.int .i64 r.bR.ak,.sl false false r.bR.aa.length (ae (eI .i64) r.bR.aa),.int .i64 r.bN.ak,.sl false false r.bN.aa.length (ae (eI .i64) r.bN.aa)])) l d
def Bh:Env:=(Am.ext bl 48 false lp)
def QQ:bG prog Bh:=(bG.none.add BB false)
def Vn:=ai @w<|ai @TA<|ai @lp.eq_1<|@Bh.eq_1
def j9:bK prog 24 cF:=bK.fh (mode := .clean) tok QQ mixed func24 (by kernel_rfl) (fun _ _=>rfl) (fun _=>by kernel_rfl) fun c r a=>by
 replace a:jP c=some r:=a;apply aF rfl ntmps24 results24;simp only[fj];unfold jP at a;obtain⟨d,b,a⟩:=ab a;cases a;simp only[Vn,seval,b]
def tW (l:Option (D×Row)) (d:List D):=di (fl (bo dN) (dc (bo dN))) (fun x:aG×aG=>wS x.1 x.2) (fun r:Bool =>.clean (.bool r)) l d
def Oy:bK prog 111 tW:=bK.fh (mode := .clean) tok bG.none mixed func111 (by kernel_rfl) (fun _ _=>rfl) (fun _=>by kernel_rfl) fun⟨j,k⟩ r a=>by
 replace a:wS j k=some r:=a;apply aF rfl ntmps111 results111;simp only[fj];unfold wS at a;simp only[w,seval];obtain⟨A,v,a⟩:=ab a;refine bq 0 (fun s t H e=>match s with|f=>∃b:Nat,∃d:Nat,t 2=.ptr 2 b 0∧t 3=.ptr 3 d 0∧t 19=.bool f∧H 2=some ⟨b,40,[.int .i64 j.ak,.sl false false j.aa.length (ae (eI .i64) j.aa)],false,false,false⟩∧H 3=some ⟨d,40,[.int .i64 k.ak,.sl false false k.aa.length (ae (eI .i64) k.aa)],false,false,false⟩) (fun s=>s=A) ?_ ?_
 ·rintro f t H e ⟨b,d,l⟩ rfl;try dsimp only at a
  simp only[w,seval,l];apply sp aj a<;>intro _ a
  ·cases a;simp only[w,seval]
  ·simp only[w,seval];obtain⟨B,y,a⟩:=ab a;refine ax (fun s t H e=>match s with|m=>∃g:Nat,∃h:Nat,t 2=.ptr 2 g 0∧t 3=.ptr 3 h 0∧t 5=.int .i64 m∧H 2=some ⟨g,40,[.int .i64 j.ak,.sl false false j.aa.length (ae (eI .i64) j.aa)],false,false,false⟩∧H 3=some ⟨h,40,[.int .i64 k.ak,.sl false false k.aa.length (ae (eI .i64) k.aa)],false,false,false⟩) (fun o x t H e=>match o with|(.inl _)=>x=.exit 0|(.inr r)=>x=.ret∧eB .clean tab none [.tmp 4] ⟨t,EH H,e⟩=some (.clean (.bool r),none)) y ?_ ?_ ?_
   ·refine⟨b,d,?_⟩;and_intros<;>first|rfl|(simp only[w,seval,l]<;>rfl)
   ·rintro m t H e ⟨g,h,q⟩ c a;simp only[CI]at a;simp only[w,seval,q];apply sp aj a<;>intro _ a
    ·obtain⟨E,z,a⟩:=ab a;have n:=bk (eI .i64) z;simp only[bT]at n;obtain⟨C,p,a⟩:=ab a;have i:=bk (eI .i64) p;simp only[bT]at i;simp only[w,seval,q,n,i];refine bu (by kernel_rfl) ?_;apply sp aj a<;>intro _ a
     ·cases a;simp only[w,seval];refine lk ⟨rfl,?_⟩;simp only[w,seval]
     ·cases a;simp only[w,seval,q];apply eS;refine⟨g,h,?_⟩;and_intros<;>first|rfl|(simp only[w,seval,q]<;>rfl)
    ·cases a;simp only[w,seval];apply gC;exact rfl
   ·rintro x t H e u;rcases B with _|F
    ·dsimp only at u a;subst u;cases a;simp only[w,seval]
    ·dsimp only at u a;obtain⟨rfl,D⟩:=u;cases a;simp only[aP,aV,bS,bV];exact D
 ·clear a;have a:=v;simp only[w,seval];apply sp aO a<;>intro _ a
  ·cases a;simp only[w,seval];rw[au];refine⟨_,rfl,?_⟩;refine⟨0,0,?_,?_,?_,?_,?_⟩;all_goals (rfl)
  ·cases a;simp only[w,seval];rw[au];refine⟨_,rfl,?_⟩;refine⟨0,0,?_,?_,?_,?_,?_⟩;all_goals (rfl)
def ir (l:Option (D×Row)) (d:List D):=di (fl (bo dN) (dc (bo dN))) (fun x:aG×aG=>kb x.1 x.2) (fun r:Int =>.clean (.int .i64 r)) l d
def sV:Env:=(Am.ext (Am.ext (Am.ext bl 73 false bM) 111 false tW) 112 false iu)
def E1:bG prog sV:=(((bG.none.add gj false).add Oy false).add wM false)
def cM:=ai @w<|ai @tO<|ai @bM.eq_1<|ai @xS<|ai @tW.eq_1<|ai @CM<|ai @iu.eq_1<|@sV.eq_1
def wL:bK prog 75 ir:=bK.fh (mode := .clean) tok E1 mixed func75 (by kernel_rfl) (fun _ _=>rfl) (fun _=>by kernel_rfl) fun⟨h,i⟩ r a=>by
 replace a:kb h i=some r:=a;apply aF rfl ntmps75 results75;simp only[fj];unfold kb at a;obtain⟨p,j,a⟩:=ab a;simp only[cM,seval,j];obtain⟨n,k,a⟩:=ab a;refine bq 0 (fun s t H e=>match s with|b=>∃c:Nat,∃d:Nat,t 2=.ptr 2 c 0∧t 3=.ptr 3 d 0∧t 17=.bool b∧H 2=some ⟨c,40,[.int .i64 h.ak,.sl false false h.aa.length (ae (eI .i64) h.aa)],false,false,false⟩∧H 3=some ⟨d,40,[.int .i64 i.ak,.sl false false i.aa.length (ae (eI .i64) i.aa)],false,false,false⟩) (fun s=>s=n) ?_ ?_
 ·rintro b t H e ⟨c,d,f⟩ rfl;try dsimp only at a
  simp only[cM,seval,f];apply sp aj a<;>intro _ a
  ·cases a;simp only[cM,seval]
  ·simp only[cM,seval,f];apply sp aj a<;>intro _ a
   ·simp only[cM,seval,f];apply sp aj a<;>intro _ a
    ·cases a;simp only[cM,seval]
    ·cases a;simp only[cM,seval]
   ·obtain⟨q,l,a⟩:=ab a;simp only[cM,seval,f,l];refine bu (by kernel_rfl) ?_;apply sp aj a<;>intro _ a
    ·cases a;simp only[cM,seval]
    ·cases a;simp only[cM,seval]
 ·clear a;have a:=k;simp only[cM,seval];apply sp aO a<;>intro _ a
  ·cases a;simp only[cM,seval];rw[au];refine⟨_,rfl,?_⟩;refine⟨0,0,?_,?_,?_,?_,?_⟩;all_goals (rfl)
  ·obtain⟨u,m,a⟩:=ab a;simp only[cM,seval,m];apply sp aO a<;>intro _ a
   ·cases a;simp only[cM,seval];rw[au];refine⟨_,rfl,?_⟩;refine⟨0,0,?_,?_,?_,?_,?_⟩;all_goals (rfl)
   ·obtain⟨o,g,a⟩:=ab a;cases a;simp only[cM,seval,g];rw[au];refine⟨_,rfl,?_⟩;refine⟨0,0,?_,?_,?_,?_,?_⟩;all_goals (rfl)
def cm (l:Option (D×Row)) (d:List D):=di (dc (bo aD)) (fun x:aw=>dX x) (fun r:Bool =>.clean (.bool r)) l d
def s7 {β:Type} {F:aw->Option β} {R:β->RK} (c:Int) (a:(List Int)) (d:Int) (b:(List Int)):di (dc (bo aD)) F R none [.agg [.int .i64 c,.sl false false a.length (ae (eI .i64) a),.int .i64 d,.sl false false b.length (ae (eI .i64) b)]]=(F ((aw.mk (aG.mk c a) (aG.mk d b)))).map fun r=>(R r,none):=cB _ _ _ ((aw.mk (aG.mk c a) (aG.mk d b)))
def wv:Env:=(Am.ext (Am.ext (Am.ext (Am.ext bl 73 false bM) 74 false nF) 75 false ir) 76 false qH)
def KD:bG prog wv:=((((bG.none.add gj false).add FY false).add wL false).add Jg false)
def ik:=ai @w<|ai @tO<|ai @bM.eq_1<|ai @xS<|ai @nF.eq_1<|ai @ir.eq_1<|ai @zA<|ai @qH.eq_1<|@wv.eq_1
def jo:bK prog 44 cm:=bK.fh (mode := .clean) tok KD mixed func44 (by kernel_rfl) (fun _ _=>rfl) (fun _=>by kernel_rfl) fun d r a=>by
 replace a:dX d=some r:=a;apply aF rfl ntmps44 results44;simp only[fj];unfold dX at a;obtain⟨n,g,a⟩:=ab a;simp only[ik,seval,g];obtain⟨m,h,a⟩:=ab a;refine bq 0 (fun s t H e=>match s with|b=>∃c:Nat,t 1=.ptr 1 c 0∧t 20=.bool b∧H 1=some ⟨c,42,[.int .i64 d.bR.ak,.sl false false d.bR.aa.length (ae (eI .i64) d.bR.aa),.int .i64 d.bN.ak,.sl false false d.bN.aa.length (ae (eI .i64) d.bN.aa)],false,false,false⟩) (fun s=>s=m) ?_ ?_
 ·rintro b t H e ⟨c,f⟩ rfl;try dsimp only at a
  simp only[ik,seval,f];apply sp aj a<;>intro _ a
  ·cases a;simp only[ik,seval]
  ·obtain⟨o,i,a⟩:=ab a;obtain⟨p,j,a⟩:=ab a;obtain⟨q,k,a⟩:=ab a;simp only[ik,seval,f,i,j,k];refine bu (by kernel_rfl) ?_;cases a;simp only[seval]
 ·clear a;have a:=h;simp only[ik,seval];apply sp aO a<;>intro _ a
  ·cases a;simp only[ik,seval];rw[au];refine⟨_,rfl,?_⟩;refine⟨0,?_,?_,?_⟩;all_goals (rfl)
  ·obtain⟨u,l,a⟩:=ab a;simp only[ik,seval,l];apply sp aO a<;>intro _ a
   ·cases a;simp only[ik,seval];rw[au];refine⟨_,rfl,?_⟩;refine⟨0,?_,?_,?_⟩;all_goals (rfl)
   ·cases a;simp only[ik,seval];rw[au];refine⟨_,rfl,?_⟩;refine⟨0,?_,?_,?_⟩;all_goals (rfl)
def gA (l:Option (D×Row)) (d:List D):=di (fl (bo dN) (dc (bo dN))) (fun x:aG×aG=>ew x.1 x.2) (fun r:aG×Int =>.clean (.tup [.agg [.int .i64 r.1.ak,.sl false false r.1.aa.length (ae (eI .i64) r.1.aa)],.int .i64 r.2])) l d
def Bd:Env:=(Am.ext (Am.ext (Am.ext bl 73 false bM) 110 false dn) 113 false l9)
def QM:bG prog Bd:=(((bG.none.add gj false).add ml false).add Ak false)
def og:=ai @w<|ai @tO<|ai @bM.eq_1<|ai @Dx<|ai @dn.eq_1<|ai @CM<|ai @l9.eq_1<|@Bd.eq_1
def uP:bK prog 77 gA:=bK.fh (mode := .clean) tok QM mixed func77 (by kernel_rfl) (fun _ _=>rfl) (fun _=>by kernel_rfl) fun⟨h,i⟩ r a=>by
 replace a:ew h i=some r:=a;apply aF rfl ntmps77 results77;simp only[fj];unfold ew at a;obtain⟨p,j,a⟩:=ab a;simp only[og,seval,j];obtain⟨o,k,a⟩:=ab a;refine bq 0 (fun s t H e=>match s with|b=>∃c:Nat,∃d:Nat,∃f:Nat,t 2=.ptr 2 c 0∧t 3=.ptr 3 d 0∧t 4=.ptr 4 f 0∧t 13=.bool b∧H 2=some ⟨c,40,[.int .i64 h.ak,.sl false false h.aa.length (ae (eI .i64) h.aa)],false,false,false⟩∧H 3=some ⟨d,40,[.int .i64 i.ak,.sl false false i.aa.length (ae (eI .i64) i.aa)],false,false,false⟩∧H 4=some ⟨f,40,[.int .i64 0,.sl true true 0 []],false,false,false⟩) (fun s=>s=o) ?_ ?_
 ·rintro b t H e ⟨c,d,f,g⟩ rfl;try dsimp only at a
  simp only[og,seval,g];apply sp aj a<;>intro _ a
  ·cases a;simp only[og,seval,g]
  ·obtain⟨q,l,a⟩:=ab a;obtain⟨u,m,a⟩:=ab a;simp only[og,seval,g,l,m];refine bu (by kernel_rfl) ?_;cases a;simp only[seval]
 ·clear a;have a:=k;simp only[og,seval];apply sp aO a<;>intro _ a
  ·cases a;simp only[og,seval];rw[au];refine⟨_,rfl,?_⟩;refine⟨0,0,0,?_,?_,?_,?_,?_,?_,?_⟩;all_goals (rfl)
  ·obtain⟨v,n,a⟩:=ab a;cases a;simp only[og,seval,n];rw[au];refine⟨_,rfl,?_⟩;refine⟨0,0,0,?_,?_,?_,?_,?_,?_,?_⟩;all_goals (rfl)
def nE (l:Option (D×Row)) (d:List D):=di (fl (bo dN) (dc (bo dN))) (fun x:aG×aG=>uU x.1 x.2) (fun r:aG×Int =>.clean (.tup [.agg [.int .i64 r.1.ak,.sl false false r.1.aa.length (ae (eI .i64) r.1.aa)],.int .i64 r.2])) l d
def Ba:Env:=(Am.ext (Am.ext (Am.ext (Am.ext (Am.ext bl 73 false bM) 110 false dn) 112 false iu) 129 false nH) 130 false gq)
def QJ:bG prog Ba:=(((((bG.none.add gj false).add ml false).add wM false).add CC false).add uQ false)
def dJ:=ai @w<|ai @tO<|ai @bM.eq_1<|ai @Dx<|ai @dn.eq_1<|ai @CM<|ai @iu.eq_1<|ai @nH.eq_1<|ai @gq.eq_1<|@Ba.eq_1
def FX:bK prog 102 nE:=bK.fh (mode := .clean) tok QJ mixed func102 (by kernel_rfl) (fun _ _=>rfl) (fun _=>by kernel_rfl) fun⟨m,n⟩ r a=>by
 replace a:uU m n=some r:=a;apply aF rfl ntmps102 results102;simp only[fj];unfold uU at a;obtain⟨K,w,a⟩:=ab a;simp only[dJ,seval,w];obtain⟨C,x,a⟩:=ab a;refine bq 0 (fun s t H e=>match s with|g=>∃b:Nat,∃c:Nat,∃d:Nat,t 2=.ptr 2 b 0∧t 3=.ptr 3 c 0∧t 4=.ptr 4 d 0∧t 13=.bool g∧H 2=some ⟨b,40,[.int .i64 m.ak,.sl false false m.aa.length (ae (eI .i64) m.aa)],false,false,false⟩∧H 3=some ⟨c,40,[.int .i64 n.ak,.sl false false n.aa.length (ae (eI .i64) n.aa)],false,false,false⟩∧H 4=some ⟨d,40,[.int .i64 0,.sl true true 0 []],false,false,false⟩) (fun s=>s=C) ?_ ?_
 ·rintro g t H e ⟨b,c,d,f⟩ rfl;try dsimp only at a
  simp only[dJ,seval,f];apply sp aj a<;>intro _ a
  ·cases a;simp only[dJ,seval,f]
  ·simp only[dJ,seval,f];obtain⟨D,y,a⟩:=ab a;refine bq 0 (fun s t H e=>match s with|h=>∃i:Nat,∃j:Nat,∃k:Nat,t 2=.ptr 2 i 0∧t 3=.ptr 3 j 0∧t 4=.ptr 4 k 0∧t 29=.bool h∧H 2=some ⟨i,40,[.int .i64 m.ak,.sl false false m.aa.length (ae (eI .i64) m.aa)],false,false,false⟩∧H 3=some ⟨j,40,[.int .i64 n.ak,.sl false false n.aa.length (ae (eI .i64) n.aa)],false,false,false⟩∧H 4=some ⟨k,40,[.int .i64 0,.sl true true 0 []],false,false,false⟩) (fun s=>s=D) ?_ ?_
   ·rintro h t H e ⟨i,j,k,l⟩ rfl;try dsimp only at a
    simp only[dJ,seval,l];apply sp aj a<;>intro _ a
    ·obtain⟨L,z,a⟩:=ab a;obtain⟨M,A,a⟩:=ab a;simp only[dJ,seval,l,z,A];refine bu (by kernel_rfl) ?_;cases a;simp only[seval]
    ·obtain⟨N,B,a⟩:=ab a;simp only[dJ,seval,l,B];apply sp aj a<;>intro _ a
     ·obtain⟨E,o,a⟩:=ab a;obtain⟨F,p,a⟩:=ab a;simp only[dJ,seval,l,o,p];refine bu (by kernel_rfl) ?_;cases a;simp only[seval]
     ·obtain⟨G,q,a⟩:=ab a;obtain⟨I,u,a⟩:=ab a;simp only[dJ,seval,l,q,u];refine bu (by kernel_rfl) ?_;cases a;simp only[seval]
   ·clear a;have a:=y;simp only[dJ,seval];apply sp aO a<;>intro _ a
    ·cases a;simp only[dJ,seval];rw[au];refine⟨_,rfl,?_⟩;refine⟨b,c,d,?_⟩;and_intros<;>first|rfl|(simp only[dJ,seval,f]<;>rfl)
    ·simp only[dJ,seval,f];apply sp aO a<;>intro _ a
     ·cases a;simp only[dJ,seval];rw[au];refine⟨_,rfl,?_⟩;refine⟨b,c,d,?_⟩;and_intros<;>first|rfl|(simp only[dJ,seval,f]<;>rfl)
     ·cases a;simp only[dJ,seval,f];rw[au];refine⟨_,rfl,?_⟩;refine⟨b,c,d,?_⟩;and_intros<;>first|rfl|(simp only[dJ,seval,f]<;>rfl)
 ·clear a;have a:=x;simp only[dJ,seval];apply sp aO a<;>intro _ a
  ·cases a;simp only[dJ,seval];rw[au];refine⟨_,rfl,?_⟩;refine⟨0,0,0,?_,?_,?_,?_,?_,?_,?_⟩;all_goals (rfl)
  ·obtain⟨J,v,a⟩:=ab a;cases a;simp only[dJ,seval,v];rw[au];refine⟨_,rfl,?_⟩;refine⟨0,0,0,?_,?_,?_,?_,?_,?_,?_⟩;all_goals (rfl)
def xg (l:Option (D×Row)) (d:List D):=di (fl (bo dN) (dc (bo dN))) (fun x:aG×aG=>xI x.1 x.2) (fun r:aG×Int =>.clean (.tup [.agg [.int .i64 r.1.ak,.sl false false r.1.aa.length (ae (eI .i64) r.1.aa)],.int .i64 r.2])) l d
def Bf:Env:=(Am.ext (Am.ext (Am.ext bl 73 false bM) 102 false nE) 114 false nG)
def QO:bG prog Bf:=(((bG.none.add gj false).add FX false).add FZ false)
def BU:=ai @w<|ai @tO<|ai @bM.eq_1<|ai @xS<|ai @nE.eq_1<|ai @nG.eq_1<|@Bf.eq_1
def Rc:bK prog 78 xg:=bK.fh (mode := .clean) tok QO mixed func78 (by kernel_rfl) (fun _ _=>rfl) (fun _=>by kernel_rfl) fun⟨e,f⟩ r a=>by
 replace a:xI e f=some r:=a;apply aF rfl ntmps78 results78;simp only[fj];unfold xI at a;obtain⟨g,b,a⟩:=ab a;simp only[BU,seval,b];apply sp aj a<;>intro _ a
 ·cases a;simp only[BU,seval]
 ·obtain⟨h,c,a⟩:=ab a;obtain⟨i,d,a⟩:=ab a;simp only[BU,seval,c,d];refine bu (by kernel_rfl) ?_;cases a;simp only[seval]
def nJ (l:Option (D×Row)) (d:List D):=di (fl (bo aD) (dc (bo aD))) (fun x:aw×aw=>sA x.1 x.2) (fun r:aw×Int =>.clean (.tup [.agg [.int .i64 r.1.bR.ak,.sl false false r.1.bR.aa.length (ae (eI .i64) r.1.bR.aa),.int .i64 r.1.bN.ak,.sl false false r.1.bN.aa.length (ae (eI .i64) r.1.bN.aa)],.int .i64 r.2])) l d
def lz {β:Type} {F:aw×aw->Option β} {R:β->RK} (e:Int) (a:(List Int)) (f:Int) (b:(List Int)) (g:Int) (c:(List Int)) (h:Int) (d:(List Int)):di (fl (bo aD) (dc (bo aD))) F R none [.agg [.int .i64 e,.sl false false a.length (ae (eI .i64) a),.int .i64 f,.sl false false b.length (ae (eI .i64) b)],.agg [.int .i64 g,.sl false false c.length (ae (eI .i64) c),.int .i64 h,.sl false false d.length (ae (eI .i64) d)]]=(F ((aw.mk (aG.mk e a) (aG.mk f b)),(aw.mk (aG.mk g c) (aG.mk h d)))).map fun r=>(R r,none):=cB _ _ _ ((aw.mk (aG.mk e a) (aG.mk f b)),(aw.mk (aG.mk g c) (aG.mk h d)))
def Bk:Env:=(Am.ext (Am.ext (Am.ext (Am.ext bl 44 false cm) 77 false gA) 78 false xg) 79 false gB)
def QT:bG prog Bk:=((((bG.none.add jo false).add uP false).add Rc false).add uR false)
def ot:=ai @w<|ai @s7<|ai @cm.eq_1<|ai @xS<|ai @gA.eq_1<|ai @xg.eq_1<|ai @gB.eq_1<|@Bk.eq_1
def F2:bK prog 47 nJ:=bK.fh (mode := .clean) tok QT mixed func47 (by kernel_rfl) (fun _ _=>rfl) (fun _=>by kernel_rfl) fun⟨g,h⟩ r a=>by
 replace a:sA g h=some r:=a;apply aF rfl ntmps47 results47;simp only[fj];unfold sA at a;obtain⟨w,k,a⟩:=ab a;simp only[ot,seval,k];obtain⟨u,l,a⟩:=ab a;refine bq 0 (fun s t H e=>match s with|b=>∃c:Nat,∃d:Nat,∃f:Nat,t 2=.ptr 2 c 0∧t 3=.ptr 3 d 0∧t 4=.ptr 4 f 0∧t 21=.bool b∧H 2=some ⟨c,42,[.int .i64 g.bR.ak,.sl false false g.bR.aa.length (ae (eI .i64) g.bR.aa),.int .i64 g.bN.ak,.sl false false g.bN.aa.length (ae (eI .i64) g.bN.aa)],false,false,false⟩∧H 3=some ⟨d,42,[.int .i64 h.bR.ak,.sl false false h.bR.aa.length (ae (eI .i64) h.bR.aa),.int .i64 h.bN.ak,.sl false false h.bN.aa.length (ae (eI .i64) h.bN.aa)],false,false,false⟩∧H 4=some ⟨f,42,[.int .i64 0,.sl true true 0 [],.int .i64 0,.sl true true 0 []],false,false,false⟩) (fun s=>s=u) ?_ ?_
 ·rintro b t H e ⟨c,d,f,i⟩ rfl;try dsimp only at a
  simp only[ot,seval,i];apply sp aj a<;>intro _ a
  ·cases a;simp only[ot,seval,i]
  ·obtain⟨x,m,a⟩:=ab a;obtain⟨y,n,a⟩:=ab a;obtain⟨z,o,a⟩:=ab a;obtain⟨A,p,a⟩:=ab a;obtain⟨B,q,a⟩:=ab a;cases a;simp only[ot,seval,i,m,n,o,p,q]
 ·clear a;have a:=l;simp only[ot,seval];apply sp aO a<;>intro _ a
  ·cases a;simp only[ot,seval];rw[au];refine⟨_,rfl,?_⟩;refine⟨0,0,0,?_,?_,?_,?_,?_,?_,?_⟩;all_goals (rfl)
  ·obtain⟨v,j,a⟩:=ab a;cases a;simp only[ot,seval,j];rw[au];refine⟨_,rfl,?_⟩;refine⟨0,0,0,?_,?_,?_,?_,?_,?_,?_⟩;all_goals (rfl)
def ov (l:Option (D×Row)) (d:List D):=di (fl (aI .i64) (dc (bo aD))) (fun x:Int×aw=>mf x.1 x.2) (fun r:bg =>.clean (.agg [.sl false false r.al.length (ae (eI .i64) r.al),.sl false false r.ao.length (ae bx r.ao)])) l d
def acO {β:Type} {F:Int×aw->Option β} {R:β->RK} (e:Int) (c:Int) (a:(List Int)) (d:Int) (b:(List Int)):di (fl (aI .i64) (dc (bo aD))) F R none [.int .i64 e,.agg [.int .i64 c,.sl false false a.length (ae (eI .i64) a),.int .i64 d,.sl false false b.length (ae (eI .i64) b)]]=(F (e,(aw.mk (aG.mk c a) (aG.mk d b)))).map fun r=>(R r,none):=cB _ _ _ (e,(aw.mk (aG.mk c a) (aG.mk d b)))
def sR:Env:=(Am.ext (Am.ext bl 24 false cF) 47 false nJ)
def EW:bG prog sR:=((bG.none.add j9 false).add F2 false)
def HA:=ai @w<|ai @zA<|ai @cF.eq_1<|ai @lz<|ai @nJ.eq_1<|@sR.eq_1
def FR:bK prog 22 ov:=bK.fh (mode := .clean) tok EW mixed func22 (by kernel_rfl) (fun _ _=>rfl) (fun _=>by kernel_rfl) fun⟨d,e⟩ r a=>by
 replace a:mf d e=some r:=a;apply aF rfl ntmps22 results22;simp only[fj];unfold mf at a;obtain⟨f,b,a⟩:=ab a;obtain⟨g,c,a⟩:=ab a;cases a;simp only[HA,seval,b,c]
def ct (l:Option (D×Row)) (d:List D):=di (fl (aI .i64) (fl (aI .i64) (dc (aI .i64)))) (fun x:Int×Int×Int=>dT x.1 x.2.1 x.2.2) (fun r:Bool =>.clean (.bool r)) l d
def tH {β:Type} {F:Int×Int×Int->Option β} {R:β->RK} (a:Int) (b:Int) (c:Int):di (fl (aI .i64) (fl (aI .i64) (dc (aI .i64)))) F R none [.int .i64 a,.int .i64 b,.int .i64 c]=(F (a,b,c)).map fun r=>(R r,none):=cB _ _ _ (a,b,c)
def jH:bK prog 27 ct:=bK.fh (mode := .clean) tok bG.none mixed func27 (by kernel_rfl) (fun _ _=>rfl) (fun _=>by kernel_rfl) fun⟨b,c,d⟩ r a=>by
 replace a:dT b c d=some r:=a;apply aF rfl ntmps27 results27;simp only[fj];unfold dT at a;simp only[w,seval];apply sp dH a<;>intro _ a
 ·cases a;simp only[w,seval]
 ·cases a;simp only[w,seval]
def fc (l:Option (D×Row)) (d:List D):=di (dc (oL (eI .i64))) (fun x:(List Int)=>ee x) (fun r:(List Int) =>.clean (.sl false false r.length (ae (eI .i64) r))) l d
def oX:bK prog 133 fc:=bK.fh (mode := .clean) tok bG.none mixed func133 (by kernel_rfl) (fun _ _=>rfl) (fun _=>by kernel_rfl) fun f r a=>by
 replace a:ee f=some r:=a;apply aF rfl ntmps133 results133;simp only[fj];unfold ee at a;simp only[w,seval];obtain⟨v,j,a⟩:=ab a;refine ax (fun s t H e=>match s with|g=>t 0=.sl false false f.length (ae (eI .i64) f)∧t 3=.int .i64 g) (fun o x t H e=>match o with|b=>x=.exit 0∧t 0=.sl false false f.length (ae (eI .i64) f)∧t 3=.int .i64 b) j ?_ ?_ ?_
 ·refine⟨?_,?_⟩;all_goals (rfl)
 ·rintro g t H e d c a;simp only[me]at a;simp only[w,seval,d];apply sp dH a<;>intro _ a
  ·obtain⟨A,k,a⟩:=ab a;have h:=bk (eI .i64) k;simp only[bT]at h;simp only[w,seval,d,h];apply sp aj a<;>intro _ a
   ·cases a;simp only[w,seval,d];apply eS;and_intros<;>first|rfl|(simp only[w,seval,d]<;>rfl)
   ·cases a;simp only[w,seval];apply gC;refine⟨rfl,⟨?_,?_⟩⟩;all_goals ((simp only[w,seval,d]<;>rfl))
  ·cases a;simp only[w,seval];apply gC;refine⟨rfl,⟨?_,?_⟩⟩;all_goals ((simp only[w,seval,d]<;>rfl))
 ·rintro x t H e u;obtain⟨b,rfl⟩:∃z,z=v:=⟨_,rfl⟩;dsimp only at u a;obtain⟨rfl,l⟩:=u;obtain⟨B,m,a⟩:=ab a;obtain⟨n,y,p,q,i⟩:=Lg (eI .i64) m;simp only[bT]at i;cases a;simp only[w,seval,l,n,p,q,i]
def tP:=mkE 3 (eI .i64) (as0) (fun (l:(List Int)) (x:Unit)=>ee l)
def K6 (b a:List D) (c:(List Int)):tP (some (.buf 0 0 1 b.length c.length,⟨0,3,b++(ae (eI .i64) c++a),false,true,false⟩)) []=(ee c).map fun r=>(.fresh 3 1 r.length (ae (eI .i64) r),none):=aa8 _ _ _ _ b a c ()
def KL (b a:List D) (i:(List Int)) (r:(List Int)) (d:ee i=some r):kT (.fresh 3 1) tab bl FU Tryz.f133 (some (.buf 0 0 1 b.length i.length,⟨0,3,b++(ae (eI .i64) i++a),false,true,false⟩)) []=some (.fresh 3 1 r.length (ae (eI .i64) r),none):=by
 apply GU rfl ntmps133 results133;unfold ee at d;simp only[w,seval];obtain⟨F,q,d⟩:=ab d;refine ax (fun s t H e=>match s with|k=>∃f:Nat,t 0=.buf 0 f 1 b.length (i).length∧t 3=.int .i64 k∧H 0=some ⟨f,3,b++(ae (eI .i64) i++a),false,true,false⟩) (fun o x t H e=>match o with|h=>x=.exit 0∧∃g:Nat,t 0=.buf 0 g 1 b.length (i).length∧t 3=.int .i64 h∧H 0=some ⟨g,3,b++(ae (eI .i64) i++a),false,true,false⟩) q ?_ ?_ ?_
 ·refine⟨0,?_,?_,?_⟩;all_goals (rfl)
 ·rintro k t H e ⟨f,j⟩ c d;simp only[me]at d;simp only[w,seval,j];apply sp dH d<;>intro _ d
  ·obtain⟨I,u,d⟩:=ab d;have l:=NG (pre:=b) (post:=a) (eI .i64) u;simp only[bT]at l;simp only[w,seval,j,l];apply sp aj d<;>intro _ d
   ·cases d;simp only[w,seval,j];apply eS;refine⟨f,?_⟩;and_intros<;>first|rfl|(simp only[w,seval,j]<;>rfl)
   ·cases d;simp only[w,seval];apply gC;refine⟨rfl,⟨f,?_,?_,?_⟩⟩;all_goals ((simp only[w,seval,j]<;>rfl))
  ·cases d;simp only[w,seval];apply gC;refine⟨rfl,⟨f,?_,?_,?_⟩⟩;all_goals ((simp only[w,seval,j]<;>rfl))
 ·rintro x t H e E;obtain⟨h,rfl⟩:∃z,z=F:=⟨_,rfl⟩;dsimp only at E d;obtain⟨rfl,⟨g,v⟩⟩:=E;obtain⟨J,m,d⟩:=ab d;obtain⟨y,G,A,B,C⟩:=Lg (eI .i64) m;simp only[bT]at C;obtain⟨n,p⟩:=Zr (pre:=b) (post:=a) (eI .i64) m;simp only[bT]at n p;cases d;simp only[w,seval,v,y,A,n,p,B]
def Hj:bK prog 133 tP:=bK.acj tok bG.none mixed func133 (by kernel_rfl) ⟨by kernel_rfl,by kernel_rfl⟩ (fun _=>agG (by kernel_rfl)) (fun b a l x r h=>KL b a l r h)
def cr (l:Option (D×Row)) (d:List D):=di (fl (aI .i64) (dc (oL (eI .i64)))) (fun x:Int×(List Int)=>dq x.1 x.2) (fun r:aG =>.clean (.agg [.int .i64 r.ak,.sl false false r.aa.length (ae (eI .i64) r.aa)])) l d
def uC:Env:=(Am.ext bl 133 false fc)
def Ha:bG prog uC:=(bG.none.add oX false)
def u6:=ai @w<|ai @Tz<|ai @fc.eq_1<|@uC.eq_1
def jG:bK prog 106 cr:=bK.fh (mode := .clean) tok Ha mixed func106 (by kernel_rfl) (fun _ _=>rfl) (fun _=>by kernel_rfl) fun⟨c,d⟩ r a=>by
 replace a:dq c d=some r:=a;apply aF rfl ntmps106 results106;simp only[fj];unfold dq at a;obtain⟨e,b,a⟩:=ab a;simp only[u6,seval,b];apply sp aj a<;>intro _ a
 ·cases a;simp only[u6,seval]
 ·cases a;simp only[u6,seval]
def qE (l:Option (D×Row)) (d:List D):=di (dc (aI .i64)) (fun x:Int=>uh x) (fun r:aG =>.clean (.agg [.int .i64 r.ak,.sl false false r.aa.length (ae (eI .i64) r.aa)])) l d
def EO:Env:=(Am.ext bl 106 false cr)
def Un:bG prog EO:=(bG.none.add jG false)
def jB:=ai @w<|ai @Dx<|ai @cr.eq_1<|@EO.eq_1
def Jd:bK prog 88 qE:=bK.fh (mode := .clean) tok Un mixed func88 (by kernel_rfl) (fun _ _=>rfl) (fun _=>by kernel_rfl) fun I r a=>by
 replace a:uh I=some r:=a;apply aF rfl ntmps88 results88;simp only[fj];unfold uh at a;simp only[jB,seval,-Int.reduceToNat];obtain⟨J,A,a⟩:=ab a;refine lA 0 (fun s t H e=>match s with|(b,k)=>∃d:Nat,t 2=.ptr 2 d 0∧t 3=.int .i64 b∧t 4=.int .u64 k∧H 2=some ⟨d,40,[.int .i64 0,.sl true true 0 []],false,false,false⟩) (fun s=>s=J) ?_ ?_
 ·rintro⟨b,k⟩ t H e ⟨d,B⟩ rfl;try dsimp only at a
  simp only[jB,seval,-Int.reduceToNat];obtain⟨K,C,a⟩:=ab a;refine ax (fun s t H e=>match s with|(n,m)=>∃f:Nat,∃j:Nat,t 2=.ptr 2 f 0∧t 3=.int .i64 b∧t 4=.int .u64 n∧t 5=.buf 5 j 1 0 (m).length∧H 2=some ⟨f,40,[.int .i64 0,.sl true true 0 []],false,false,false⟩∧H 5=some ⟨j,3,ae (eI .i64) m,false,true,false⟩) (fun o x t H e=>match o with|g=>x=.exit 0∧∃h:Nat,∃i:Nat,t 2=.ptr 2 h 0∧t 3=.int .i64 b∧t 5=.buf 5 i 1 0 (g).length∧H 2=some ⟨h,40,[.int .i64 0,.sl true true 0 []],false,false,false⟩∧H 5=some ⟨i,3,ae (eI .i64) g,false,true,false⟩) C ?_ ?_ ?_
  ·refine⟨d,e,?_⟩;and_intros<;>first|rfl|(simp only[jB,seval,-Int.reduceToNat,B]<;>rfl)
  ·rintro⟨n,m⟩ t H e ⟨f,j,y⟩ c a;simp only[xt]at a;simp only[jB,seval,-Int.reduceToNat,y];apply sp aj a<;>intro _ a
   ·obtain⟨N,D,a⟩:=ab a;obtain⟨p,l,q,u⟩:=fY (eI .i64) D;simp only[bT]at l;obtain⟨L,v,a⟩:=ab a;have E:=xT v;cases a;simp only[jB,seval,-Int.reduceToNat,y,p,l,q,u,E];apply eS;refine⟨f,e+1,?_⟩;and_intros<;>first|rfl|(simp only[jB,seval,-Int.reduceToNat,y]<;>rfl)
   ·cases a;simp only[jB,seval,-Int.reduceToNat];apply gC;refine⟨rfl,⟨f,j,?_,?_,?_,?_,?_⟩⟩;all_goals ((simp only[jB,seval,-Int.reduceToNat,y]<;>rfl))
  ·rintro x t H e G;obtain⟨g,rfl⟩:∃z,z=K:=⟨_,rfl⟩;dsimp only at G a;obtain⟨rfl,⟨h,i,F⟩⟩:=G;obtain⟨M,w,a⟩:=ab a;cases a;simp only[jB,seval,-Int.reduceToNat,F,w]
 ·clear a;have a:=A;simp only[jB,seval,-Int.reduceToNat];apply sp aj a<;>intro _ a
  ·cases a;simp only[jB,seval,-Int.reduceToNat];rw[au];refine⟨_,rfl,?_⟩;refine⟨0,?_,?_,?_,?_⟩;all_goals (rfl)
  ·cases a;simp only[jB,seval,-Int.reduceToNat];rw[au];refine⟨_,rfl,?_⟩;refine⟨0,?_,?_,?_,?_⟩;all_goals (rfl)
def lR (l:Option (D×Row)) (d:List D):=di (dc (aI .i64)) (fun x:Int=>jY x) (fun r:aw =>.clean (.agg [.int .i64 r.bR.ak,.sl false false r.bR.aa.length (ae (eI .i64) r.bR.aa),.int .i64 r.bN.ak,.sl false false r.bN.aa.length (ae (eI .i64) r.bN.aa)])) l d
def yP:Env:=(Am.ext bl 88 false qE)
def Nf:bG prog yP:=(bG.none.add Jd false)
def R3:=ai @w<|ai @zA<|ai @qE.eq_1<|@yP.eq_1
def Cz:bK prog 71 lR:=bK.fh (mode := .clean) tok Nf mixed func71 (by kernel_rfl) (fun _ _=>rfl) (fun _=>by kernel_rfl) fun d r a=>by
 replace a:jY d=some r:=a;apply aF rfl ntmps71 results71;simp only[fj];unfold jY at a;obtain⟨e,b,a⟩:=ab a;obtain⟨f,c,a⟩:=ab a;cases a;simp only[R3,seval,b,c]
def bL (l:Option (D×Row)) (d:List D):=di (dc (bo dN)) (fun x:aG=>df x) (fun r:Bool =>.clean (.bool r)) l d
def gi:bK prog 67 bL:=bK.fh (mode := .clean) tok bG.none mixed func67 (by kernel_rfl) (fun _ _=>rfl) (fun _=>by kernel_rfl) fun d r a=>by
 replace a:df d=some r:=a;apply aF rfl ntmps67 results67;simp only[fj];unfold df at a;simp only[w,seval];obtain⟨v,q,a⟩:=ab a;refine ax (fun s t H e=>match s with|h=>∃f:Nat,t 1=.ptr 1 f 0∧t 3=.int .i64 (d.aa.length:Int)∧t 10=.sl false false d.aa.length (ae (eI .i64) d.aa)∧t 11=.int .i64 (d.aa.length:Int)∧t 12=.int .i64 h∧H 1=some ⟨f,40,[.int .i64 d.ak,.sl false false d.aa.length (ae (eI .i64) d.aa)],false,false,false⟩) (fun o x t H e=>match o with|(.inl _)=>x=.exit 0∧∃g:Nat,t 1=.ptr 1 g 0∧t 3=.int .i64 (d.aa.length:Int)∧H 1=some ⟨g,40,[.int .i64 d.ak,.sl false false d.aa.length (ae (eI .i64) d.aa)],false,false,false⟩|(.inr r)=>x=.ret∧eB .clean tab none [.tmp 2] ⟨t,EH H,e⟩=some (.clean (.bool r),none)) q ?_ ?_ ?_
 ·refine⟨0,?_,?_,?_,?_,?_,?_⟩;all_goals (rfl)
 ·rintro h t H e ⟨f,k⟩ c a;simp only[pW]at a;simp only[w,seval,k];apply sp aj a<;>intro _ a
  ·obtain⟨B,u,a⟩:=ab a;have l:=bk (eI .i64) u;simp only[bT]at l;simp only[w,seval,k,l];apply sp aO a<;>intro _ a
   ·cases a;simp only[w,seval];refine lk ⟨rfl,?_⟩;simp only[w,seval]
   ·simp only[w,seval];apply sp aj a<;>intro _ a
    ·cases a;simp only[w,seval];refine lk ⟨rfl,?_⟩;simp only[w,seval]
    ·cases a;simp only[w,seval,k];apply eS;refine⟨f,?_⟩;and_intros<;>first|rfl|(simp only[w,seval,k]<;>rfl)
  ·cases a;simp only[w,seval];apply gC;refine⟨rfl,⟨f,?_,?_,?_⟩⟩;all_goals ((simp only[w,seval,k]<;>rfl))
 ·rintro x t H e p;rcases v with _|C
  ·dsimp only at p a;obtain⟨rfl,⟨g,b⟩⟩:=p;simp only[w,seval,b];apply sp aj a<;>intro _ a
   ·cases a;simp only[w,seval,b]
   ·simp only[w,seval,b];apply sp aO a<;>intro _ a
    ·obtain⟨y,m,a⟩:=ab a;have i:=bk (eI .i64) m;simp only[bT]at i;cases a;simp only[w,seval,b,i]
    ·simp only[w,seval,b];apply sp dH a<;>intro _ a
     ·obtain⟨z,n,a⟩:=ab a;have j:=bk (eI .i64) n;simp only[bT]at j;cases a;simp only[w,seval,b,j]
     ·cases a;simp only[w,seval]
  ·dsimp only at p a;obtain⟨rfl,A⟩:=p;cases a;simp only[aP,aV,bS,bV];exact A
def ln (l:Option (D×Row)) (d:List D):=di (fl ZO (dc (bo dN))) (fun x:Bool×aG=>eG x.1 x.2) (fun r:aG×Int =>.clean (.tup [.agg [.int .i64 r.1.ak,.sl false false r.1.aa.length (ae (eI .i64) r.1.aa)],.int .i64 r.2])) l d
def rq:bK prog 103 ln:=bK.fh (mode := .clean) tok bG.none mixed func103 (by kernel_rfl) (fun _ _=>rfl) (fun _=>by kernel_rfl) fun⟨b,c⟩ r a=>by
 replace a:eG b c=some r:=a;apply aF rfl ntmps103 results103;simp only[fj];unfold eG at a;simp only[w,seval];apply sp aj a<;>intro _ a
 ·cases a;simp only[w,seval]
 ·cases a;simp only[w,seval]
def Bv (r:(List Int)) (a:du []=some r):kT (.fresh 3 1) tab bl FU Tryz.f104 none [.sl true true 0 []]=some (.fresh 3 1 r.length (ae (eI .i64) r),none):=by
 unfold du at a;obtain⟨b,c,d⟩:=Dl a;subst b;apply aF rfl ntmps104 results104;simp only[w,seval,Nat.lt_irrefl]
def Bw (r:(List Int)) (a:du []=some r):kT (.fresh 3 1) tab bl FU Tryz.f104 none [.sl true false 0 []]=some (.fresh 3 1 r.length (ae (eI .i64) r),none):=by
 unfold du at a;obtain⟨b,c,d⟩:=Dl a;subst b;apply aF rfl ntmps104 results104;simp only[w,seval,Nat.lt_irrefl]
def Bx (a r:(List Int)) (c:0<a.length) (b:du a=some r):kT (.fresh 3 1) tab bl FU Tryz.f104 none [.sl false false a.length (ae (eI .i64) a)]=some (.fresh 3 1 r.length (ae (eI .i64) r),none):=by
 unfold du at b;have g:¬a.length=0:=by omega
 obtain⟨d,e,f⟩:=Dl b;subst d;apply aF rfl ntmps104 results104;simp only[w,seval,c,e,f]
def iP:=di (dc (oL (eI .i64))) (fun x:(List Int)=>du x) (fun r:(List Int) =>.fresh 3 1 r.length (ae (eI .i64) r))
def fH (a:(List Int)):iP none [.sl false false a.length (ae (eI .i64) a)]=(du a).map fun r:(List Int)=>(.fresh 3 1 r.length (ae (eI .i64) r),none):=cB _ _ _ a
def lN:bK prog 104 iP:=bK.acm (mode:=(.fresh 3 1)) tok bG.none mixed func104 (by kernel_rfl) ⟨by kernel_rfl,by kernel_rfl⟩ (agG (by kernel_rfl)) Bv Bw Bx
def rR (l:Option (D×Row)) (d:List D):=di (dc (aI .i64)) (fun x:Int=>qt x) (fun r:Bool =>.clean (.bool r)) l d
def KW:bK prog 101 rR:=bK.fh (mode := .clean) tok bG.none mixed func101 (by kernel_rfl) (fun _ _=>rfl) (fun _=>by kernel_rfl) fun b r a=>by
 replace a:qt b=some r:=a;apply aF rfl ntmps101 results101;simp only[fj];unfold qt at a;cases a;simp only[w,seval]
def eR (l:Option (D×Row)) (d:List D):=di (fl (aI .i64) (dc (aI .i64))) (fun x:Int×Int=>gw x.1 x.2) (fun r:Int =>.clean (.int .i64 r)) l d
def sQ:Env:=(Am.ext bl 101 false rR)
def EV:bG prog sQ:=(bG.none.add KW false)
def er:=ai @w<|ai @zA<|ai @rR.eq_1<|@sQ.eq_1
def rv:bK prog 64 eR:=bK.fh (mode := .clean) tok EV mixed func64 (by kernel_rfl) (fun _ _=>rfl) (fun _=>by kernel_rfl) fun⟨d,e⟩ r a=>by
 replace a:gw d e=some r:=a;apply aF rfl ntmps64 results64;simp only[fj];unfold gw at a;obtain⟨f,b,a⟩:=ab a;obtain⟨g,c,a⟩:=ab a;simp only[er,seval,b,c];apply sp aj a<;>intro _ a
 ·simp only[er,seval];apply sp aj a<;>intro _ a
  ·cases a;simp only[er,seval]
  ·cases a;simp only[er,seval]
 ·simp only[er,seval];apply sp aj a<;>intro _ a
  ·cases a;simp only[er,seval]
  ·simp only[er,seval];apply sp aj a<;>intro _ a
   ·cases a;simp only[er,seval]
   ·simp only[er,seval];apply sp aj a<;>intro _ a
    ·cases a;simp only[er,seval]
    ·cases a;simp only[er,seval]
def eQ (l:Option (D×Row)) (d:List D):=di (fl (oL (eI .i64)) (dc (oL (eI .i64)))) (fun x:(List Int)×(List Int)=>gu x.1 x.2) (fun r:Int =>.clean (.int .i64 r)) l d
def sP:Env:=(Am.ext bl 64 false eR)
def EU:bG prog sP:=(bG.none.add rv false)
def ep:=ai @w<|ai @TA<|ai @eR.eq_1<|@sP.eq_1
def ru:bK prog 131 eQ:=bK.fh (mode := .clean) tok EU mixed func131 (by kernel_rfl) (fun _ _=>rfl) (fun _=>by kernel_rfl) fun⟨l,m⟩ r a=>by
 replace a:gu l m=some r:=a;apply aF rfl ntmps131 results131;simp only[fj];unfold gu at a;simp only[ep,seval];apply sp aj a<;>intro _ a
 ·obtain⟨z,n,a⟩:=ab a;cases a;simp only[ep,seval,n]
 ·simp only[ep,seval];obtain⟨q,p,a⟩:=ab a;refine ax (fun s t H e=>match s with|h=>t 0=.sl false false l.length (ae (eI .i64) l)∧t 1=.sl false false m.length (ae (eI .i64) m)∧t 5=.int .i64 h) (fun o x t H e=>match o with|(.inl _)=>x=.exit 0|(.inr r)=>x=.ret∧eB .clean tab none [.tmp 4] ⟨t,EH H,e⟩=some (.clean (.int .i64 r),none)) p ?_ ?_ ?_
  ·refine⟨?_,?_,?_⟩;all_goals (rfl)
  ·rintro h t H e i c a;simp only[mF]at a;simp only[ep,seval,i];apply sp aj a<;>intro _ a
   ·obtain⟨u,f,a⟩:=ab a;have b:=bk (eI .i64) f;simp only[bT]at b;obtain⟨v,g,a⟩:=ab a;have d:=bk (eI .i64) g;simp only[bT]at d;simp only[ep,seval,i,b,d];refine bu (by kernel_rfl) ?_;apply sp aj a<;>intro _ a
    ·have b:=bk (eI .i64) f;simp only[bT]at b;have d:=bk (eI .i64) g;simp only[bT]at d;obtain⟨w,j,a⟩:=ab a;simp only[ep,seval,i,b,d,j];refine bu (by kernel_rfl) ?_;cases a;refine lk ⟨rfl,?_⟩;simp only[ep,seval]
    ·cases a;simp only[ep,seval,i];apply eS;and_intros<;>first|rfl|(simp only[ep,seval,i]<;>rfl)
   ·cases a;simp only[ep,seval];apply gC;exact rfl
  ·rintro x t H e k;rcases q with _|A
   ·dsimp only at k a;subst k;cases a;simp only[ep,seval]
   ·dsimp only at k a;obtain⟨rfl,y⟩:=k;cases a;simp only[aP,aV,bS,bV];exact y
def rQ (l:Option (D×Row)) (d:List D):=di (fl (oL (eI .i64)) (dc (aI .i64))) (fun x:(List Int)×Int=>nN x.1 x.2) (fun r:(List Int)×Int =>.clean (.tup [.sl false false r.1.length (ae (eI .i64) r.1),.int .i64 r.2])) l d
def wb:Env:=(Am.ext bl 133 false fc)
def Ku:bG prog wb:=(bG.none.add oX false)
def kj:=ai @w<|ai @Tz<|ai @fc.eq_1<|@wb.eq_1
def KV:bK prog 132 rQ:=bK.fh (mode := .clean) tok Ku mixed func132 (by kernel_rfl) (fun _ _=>rfl) (fun _=>by kernel_rfl) fun⟨D,P⟩ r a=>by
 replace a:nN D P=some r:=a;apply aF rfl ntmps132 results132;simp only[fj];unfold nN at a;obtain⟨W,E,a⟩:=ab a;obtain⟨F,G,I,m,J⟩:=mk_one (eI .i64) E;simp only[bT]at m;simp only[kj,seval,-Int.reduceToNat,F,G,I,m,J];obtain⟨K,n,a⟩:=ab a;refine ax (fun s t H e=>match s with|(p,q,l)=>∃b:Nat,t 0=.sl false false D.length (ae (eI .i64) D)∧t 1=.int .i64 P∧t 6=.buf 6 b 1 0 (l).length∧t 7=.int .i64 p∧t 8=.int .i64 q∧H 6=some ⟨b,3,ae (eI .i64) l,false,true,false⟩) (fun o x t H e=>match o with|(g,d)=>x=.exit 0∧∃f:Nat,t 6=.buf 6 f 1 0 (d).length∧t 7=.int .i64 g∧H 6=some ⟨f,3,ae (eI .i64) d,false,true,false⟩) n ?_ ?_ ?_
 ·refine⟨1,?_,?_,?_,?_,?_,?_⟩;all_goals (rfl)
 ·rintro⟨p,q,l⟩ t H e ⟨b,C⟩ c a;simp only[pY]at a;simp only[kj,seval,-Int.reduceToNat,C];apply sp aj a<;>intro _ a
  ·obtain⟨R,u,a⟩:=ab a;have L:=Dy u;obtain⟨S,v,a⟩:=ab a;have h:=bk (eI .i64) v;simp only[bT]at h;obtain⟨w,y,a⟩:=ab a;have M:=uw y;obtain⟨T,i,a⟩:=ab a;have j:=bk (eI .i64) i;simp only[bT]at j;have z:=fN (eI .i64) (x':=w) (fo:=0) (cs:=[.int .i64 w]) i rfl (agG rfl);simp only[bT,Nat.add_zero]at z;have k:=z;simp only[putCells,List.length_cons,List.length_nil,afH]at k;obtain⟨U,A,a⟩:=ab a;have N:=Ah A;cases a;simp only[kj,seval,-Int.reduceToNat,C,L,h,M,j,k,N];apply eS;refine⟨b,?_⟩;and_intros<;>first|rfl|(simp only[kj,seval,-Int.reduceToNat,C]<;>rfl)
  ·cases a;simp only[kj,seval,-Int.reduceToNat];apply gC;refine⟨rfl,⟨b,?_,?_,?_⟩⟩;all_goals ((simp only[kj,seval,-Int.reduceToNat,C]<;>rfl))
 ·rintro x t H e Q;rcases K with⟨g,d⟩;dsimp only at Q a;obtain⟨rfl,⟨f,O⟩⟩:=Q;obtain⟨V,B,a⟩:=ab a;cases a;simp only[kj,seval,-Int.reduceToNat,O,B]
section
variable {P:Program} {T:Nat->Option Ty} {N F:Nat} {M:Nat->Prop} {L:jM} {w0:World} {blk:Nat->Option (Nat×Nat)} {t:Nat->D} {h:Nat->Option Row} {a:Act} {w:World} {e:Nat} {Γ:Env} {done:List Nat}
def E8 (d:ub N M L w0 blk e done t h a w):Holds N M L w0 ⟨t,h,e+1⟩ a w:=by
 refine⟨blk,d.inv.weaken fun x v c =>?_,fun x r f s g i j k l m =>?_⟩
 ·rcases c with⟨b,c|⟨c,_⟩⟩|⟨b,o,p,n⟩
  ·exact .inl ⟨b,.inl (by simp only;omega)⟩
  ·exact .inl ⟨b,.inl (by simp only;omega)⟩
  ·exact .inr ⟨b,by simp only;omega,fun _=>by simp only;omega,n⟩
 ·have:=d.nv x r f s g i j k l m;exact⟨by simp only;omega,fun _=>by simp only;omega⟩
def Gk (p:iI P T) (q:bG P Γ) {b l:List Oper} {K:(Nat->D)->(Nat->Option Row)->Prop} {Q:Exit->Act->World->Prop} (r:ub N M L w0 blk e done t h a w) (j:(l.filterMap (·.dst)).Nodup) (s:∀o∈l,∀d,o.dst=some d->d∉done)
  (u:lh T Γ N F b l [] (fun _ t h _=>K t h) t h e) (hQ:∀c f g i,K c f->Holds N M L w0 ⟨c,f,e+1⟩ g i->Q .normal g i):wpList P b.toArray Q l a w:=by
 obtain⟨c,f,y,v,x⟩:=As (T:=T) (Γ:=Γ) (N:=N) (e:=e) (ops:=b.toArray) l t h u;exact zt p q v j s r fun g i n k m=>hQ c f g i x (E8 m)
def WS (p:iI P T) (q:bG P Γ) {b l:List Oper} {o:Oper} {K:(Nat->D)->(Nat->Option Row)->Prop} {Q:Exit->Act->World->Prop} (r:ub N M L w0 blk e done t h a w) (s:∀d,o.dst=some d->d∉done)
  (u:lh T Γ N F b [o] [] (fun _ t h _=>K t h) t h e) (hQ:∀i j k m c,K i j->ub N M L w0 c e (o.dst.toList++done) i j k m->wpList P b.toArray Q l k m):wpList P b.toArray Q (o::l) a w:=by
 obtain⟨i,j,z,g,v⟩:=As (T:=T) (Γ:=Γ) (N:=N) (e:=e) (ops:=b.toArray) [o] t h u;simp only[BL]at g;split at g
 ·rename_i t1 x f y;simp only[ae5,Prod.mk.injEq]at g;obtain⟨rfl,rfl,_⟩:=g;unfold wpList;exact Lk p q r y s fun k m c n=>hQ _ _ _ _ c v n
 ·cases g
def zK (m:iI P T) (n:bG P Γ) (o:P.follows .mixedOrders=true) {c:Code} {K:Kt} {Q:Exit->Act->World->Prop} (p:Holds N M L w0 ⟨t,h,e⟩ a w) (g:codeOk c=true) (q:dB T Γ N F [.code c] K .normal t h e)
  (hQ:∀x j k l b d,K x j k l->Holds N M L w0 ⟨j,k,l⟩ b d->Q (EJ x) b d):c.wp P Q a w:=by
 obtain⟨x,f,r,s⟩:=LJ c t h e K q;exact jh m n o c ⟨t,h,e⟩ x f Q a w r g p fun b d i=>hQ x f.t f.h f.e b d s i
def gW.maps {c:Nat->Option Row} (o:∀x,c x=h x∨∃v j k l m a,c x=some ⟨v,j,[.mpc k l],m,a,true⟩):gW e h c:=by
 intro x p d q f g b r n s;rcases o x with i|⟨v,j,k,l,m,a,i⟩
 ·rw[i]at b;exact⟨p,d,q,f,g,b,r,n,.inl rfl⟩
 ·rw[i]at b;cases b;cases n
def WK {d:Nat} (b:d<N) (f:N<=PK) (c:d∉done):js N (VE N e done h) d e where
 no:=by
  rintro (⟨_,a|⟨_,a⟩⟩|⟨a,_⟩)
  ·exact absurd a (Nat.lt_irrefl _)
  ·exact c a
  ·have:=cQ;omega
 lt:=b
end
def map_eraseIdx {α β:Type} (f:α->β):∀(l:List α) (j:Nat),(l.map f).eraseIdx j=(l.eraseIdx j).map f
 | [],_=>rfl
 | a::l,0=>rfl
 | a::l,j+1=>by simp[map_eraseIdx f l j]
def Af {α:Type} : ∀m:List ((Int×Int)×α),eu m=m.map fun q=>AF.k q.1
 | []=>rfl
 | (k,v)::m=>by simp[eu,Af m]
def Fm {α:Type} (A:Arg α):∀m:List ((Int×Int)×α),gh A m=m.map fun q=>A.d q.2
 | []=>rfl
 | (k,v)::m=>by simp[gh,Fm A m]
def F8 {α:Type} : ∀ {l:List α} {j:Nat} {q:α},l[j]? = some q->l.Perm (q::l.eraseIdx j)
 | [],_,_,h=>by simp at h
 | a::l,0,q,h=>by simp only[List.getElem?_cons_zero,ae5]at h;subst h;exact agZ _
 | a::l,j+1,q,h=>by
  simp only[List.getElem?_cons_succ]at h;exact ((F8 h).cons a).trans (List.Perm.swap q a _)
def lj (q:(Int×Int)×aw):bD:=bD.mk q.1.1 q.1.2 q.2
def abX (r:cA×Int) (t:Nat->D) (h:Nat->Option Row) (e:Nat):Prop:=∃(m:List ((Int×Int)×aw)) (a:Int) (b c d f:Nat),t 6=.mp 21 b∧h 21=some ⟨b,67,[.mpc (eu m) (gh (bo aD) m)],false,true,true⟩ ∧
 t 9=.ptr 9 c 0∧h 9=some ⟨c,28,[.nr 50 6 f [.int .i64 a,.nx 0 []]],false,false,true⟩∧t 2=.ptr 2 d 0∧h 2=some ⟨d,28,[.int .i64 0,.sl true true 0 []],false,false,false⟩∧f<=4*e∧Dt a m=some r
def DH:=YT 50 bc (dc (aFn 35)) (fun (l:List bD) (_:Unit)=>CN (jQ bD.bI bD.fU) l) (fun _:Unit =>.clean (.tup []))
def Xz (b a:List D) (c:List bD):DH (some (.buf 0 0 6 b.length c.length,⟨0,50,b++(ae bc c++a),false,true,false⟩)) [.fn 35]=(CN (jQ bD.bI bD.fU) c).map fun r=>(.clean (.tup []),some ⟨0,50,b++(ae bc r.1++a),false,true,false⟩):=Xe _ _ _ _ _ b a c ()
def UL:bK prog 34 DH:=K0 vV (fun x=>by rw[pZ];rfl) (fun x=>by rw[pZ];rfl) 50
def Qw:Env:=(Am.vv 9 (50,6,1) (Am.ext bl 34 true DH))
def sb:bG prog Qw:=bG.vv (bG.none.add UL true) 9 (50,6,1)
def w8:=ai @w<|@Qw.eq_1
def R9 (m:List ((Int×Int)×aw)) (a:Int) (d:List ((Int×Int)×aw)) (t:Nat->D) (h:Nat->Option Row) (e:Nat):Prop:=∃(f:List dp) (g:List D) (b:List bD) (i c j k l:Nat),
 t 44=.ptr 44 i 0∧h 44=some ⟨i,c,[.mpc f g],false,true,true⟩∧900000<=c∧f.drop (c-900000)=eu d∧g.drop (c-900000)=gh (bo aD) d ∧
 t 9=.ptr 9 j 0∧h 9=some ⟨j,28,[.nr 50 6 l [.int .i64 a,.nx b.length (ae bc b)]],false,false,true⟩∧t 2=.ptr 2 k 0∧h 2=some ⟨k,28,[.int .i64 0,.sl true true 0 []],false,false,false⟩∧l<=4*e∧(b++d.map lj).Perm (m.map lj)
def YY {m:List ((Int×Int)×aw)} {c:Int} (B:m.length<=8000∧(m.map (·.1)).Nodup) {t:Nat->D} {h:Nat->Option Row} {e:Nat} {w0:World} {M:Nat->Prop} {a:Act} {w:World} (C:R9 m c [] t h e) (E:Holds 65 M none w0 ⟨t,h,e⟩ a w) :
  (BO 0 (BO 5 (VX Tryz.f9))).wp prog (bodyPost prog Tryz.f9 fun e o=>∃v,e=.returned v∧Below w0.heap.size w0 o∧vE w0 o M (fun _=>False) v (.clean (.tup [.agg [.int .i64 c,.sl false false (pK (jQ bD.bI bD.fU) (m.map lj)).length (ae bc (pK (jQ bD.bI bD.fU) (m.map lj)))],.int .i64 0]))) a w:=by
 obtain⟨ks,vs,b,vI,ty,v9,v2,nv,i1,i2,i3,i4,i5,G,H,I,J,L,d⟩:=C;rw[afI,agO]at d;have hkey:∀x∈b,∀y∈b,jQ bD.bI bD.fU x y=0->x=y:=by
  intro x r y s N;obtain⟨p,O,rfl⟩:=aeW.1 (d.mem_iff.1 r);obtain⟨q,P,rfl⟩:=aeW.1 (d.mem_iff.1 s);obtain⟨Q,R⟩:=RH.1 N;have S:p.1=q.1:=Prod.ext Q R;have:p=q:=by
   obtain⟨i,T,rfl⟩:=ag6 O;obtain⟨j,U,rfl⟩:=ag6 P;have:=(List.getElem_inj (h₀:=by simpa using T) (h₁:=by simpa using U) B.2).1 (by simpa using S);subst this;rfl
  rw[this]
 have f:pK (jQ bD.bI bD.fU) b=pK (jQ bD.bI bD.fU) (m.map lj):=by
  refine oK (((iC _ b).trans d).trans (iC _ _).symm) (fun x r y s h1 h2=>hkey x ((iC _ b).mem_iff.1 r) y ((iC _ b).mem_iff.1 s) ?_) (mL (tK _ _) _) (mL (tK _ _) _);have:=(tK bD.bI bD.fU).neg x y;have:=(tK bD.bI bD.fU).neg y x;omega
 have g:b.length=m.length:=by rw[d.length_eq,afq]
 have z:CN (jQ bD.bI bD.fU) b=some (pK (jQ bD.bI bD.fU) (m.map lj),()):=by
  unfold CN;rw[if_pos ⟨by omega,hkey⟩,f]
 have k:(pK (jQ bD.bI bD.fU) (m.map lj)).length=b.length:=by rw[nQ,afq,g]
 generalize pK (jQ bD.bI bD.fU) (m.map lj)=l at z k ⊢;have A:=Xz [] [] b;simp only[List.nil_append,agO,List.length_nil,bT]at A;refine (show (Code.seq (Code.region _ _ _) (Code.seq (Code.region _ _ _) Code.ret)).wp _ _ _ _ from ?_);refine zK (F:=FU) tok sb mixed E (by kernel_rfl) (K:=fun x t h e=>x=.ret∧eB .clean tab none [.cell 2 28,.tmp 3] ⟨t,EH h,e⟩=some (.clean (.tup [.agg [.int .i64 c,.sl false false l.length (ae bc l)],.int .i64 0]),none)) ?_ ?_
 ·simp only[w8,seval,G,H,I,J,A,z,k]
 ·rintro x V W X Y o ⟨rfl,Z⟩ u;have n:Holds Tryz.f9.ntmps M none w0 ⟨V,W,X⟩ Y o:=by rw[ntmps9];exact u
  exact Iz tok n (by rw[results9];exact Z)
def Xj (r:cA×Int):LY prog Tryz.f9 (BO 5 (VX Tryz.f9)) (.clean (.tup [.agg [.int .i64 r.1.aq,.sl false false r.1.az.length (ae bc r.1.az)],.int .i64 r.2])) (abX r):=by
 intro w0 M s a w hJ E;obtain⟨t0,h0,H⟩:=s;obtain⟨m,c,g,z,A,P,j1,j2,j3,j4,j5,j6,j7,Q⟩:=hJ;dsimp only at j1 j2 j3 j4 j5 j6 j7;unfold Dt at Q
 by_cases hc:m.length<=8000∧(m.map (·.1)).Nodup
 rotate_left
 ·rw[if_neg hc]at Q;cases Q
 rw[if_pos hc]at Q;cases Q;rw[ntmps9]at E;apply wp_seq;apply wp_seq;obtain⟨blk,B⟩:=E;apply wp_region_lit;refine WS (F:=FU) tok sb B (fun d _=>by simp) (K:=fun t h=>t=bY t0 43 (.mp 21 g)∧h=h0) (by simp only[w8,seval,j1,j2]) ?_;rintro t1 h1 a1 w1 al ⟨rfl,rfl⟩ G;refine AP rfl G (by decide) (K:=fun t h=>t=bY (bY t0 43 (.mp 21 g)) 44 (.ptr 44 H 0)∧h=bY (bY h1 21 (some ⟨g,67,[.mpc (eu m) (gh (bo aD) m)],true,true,true⟩)) 44 (some ⟨H,900000,[.mpc (eu m) (gh (bo aD) m)],false,true,true⟩)) ?_ ?_
 ·refine dZ.mono (Qi tok G.inv (e:=H) (ty:=67) (d:=44) (k:=70) (el:=42) (x:=21) (v:=g) (v':=g) (m := .tmp 43) rfl rfl (WK (by decide) (by rw[cQ];decide) (by simp)) underlying67 (by simp[ev,aA]) j2 (by decide) (by rw[cQ];decide) (by decide)) fun v w' hA=>⟨_,⟨rfl,rfl⟩,xo G (fun d I =>?_) (gW.maps fun x =>?_) hA⟩
  ·cases I;exact⟨by simp,by decide⟩
  ·show bY (bY h1 21 _) 44 _ x=_∨_
   by_cases l:x=44
   ·subst l;rw[aA];exact .inr ⟨_,_,_,_,_,_,rfl⟩
   ·rw[aC _ _ l]
    by_cases R:x=21
    ·subst R;rw[aA];exact .inr ⟨_,_,_,_,_,_,rfl⟩
    ·rw[aC _ _ R];exact .inl rfl
 ·rintro t2 h2 S T an ⟨rfl,rfl⟩ U;have V:=E8 U;have W:R9 m c m (bY (bY t0 43 (.mp 21 g)) 44 (.ptr 44 H 0)) (bY (bY h1 21 (some ⟨g,67,[.mpc (eu m) (gh (bo aD) m)],true,true,true⟩)) 44 (some ⟨H,900000,[.mpc (eu m) (gh (bo aD) m)],false,true,true⟩)) (H+1) :=
   ⟨_,_,[],H,900000,z,A,P,aA _ _ _,aA _ _ _,aeX _,by rw[af8,agk],by rw[af8,agk],by rw[aC _ _ (by decide),aC _ _ (by decide)];exact j3,by rw[aC _ _ (by decide),aC _ _ (by decide)];exact j4,by rw[aC _ _ (by decide),aC _ _ (by decide)];exact j5,by rw[aC _ _ (by decide),aC _ _ (by decide)];exact j6,by omega,agZ _⟩
  apply wp_block;refine wp_loop_ghost (fun n a w=>∃(o:List ((Int×Int)×aw)) (t:Nat->D) (h:Nat->Option Row) (e:Nat),o.length=n∧R9 m c o t h e∧Holds 65 M none w0 ⟨t,h,e⟩ a w) m.length ⟨m,_,_,_,rfl,W,V⟩ ?_;clear W V U G B j1 j2 j3 j4 j5 j6 j7;rintro n a w ⟨o,t,h,e,hn,⟨ks,vs,f,C,ty,z,A,P,i1,i2,i3,X,i5,i6,i7,i8,i9,ar,J⟩,blk,B⟩;replace B:ub 65 M none w0 blk e [] t h a w:=B;apply wp_seq;apply wp_region_lit;refine AP rfl B (by decide) (K:=fun t' h'=>(o=[]∧t'=bY t 45 (.tup [.bool false])∧h'=h)∨∃(k:Int×Int) (x:aw) (b:List ((Int×Int)×aw)),(o.map lj).Perm (lj (k,x)::b.map lj)∧o.length=b.length+1 ∧
   t'=bY t 45 (.tup [.bool true,.agg [.int .i64 k.1,.int .i64 k.2],.agg [.int .i64 x.bR.ak,.sl false false x.bR.aa.length (ae (eI .i64) x.bR.aa),.int .i64 x.bN.ak,.sl false false x.bN.aa.length (ae (eI .i64) x.bN.aa)]]) ∧
   h'=bY h 44 (some ⟨C,900001,[.mpc (eu ((k,x)::b)) (gh (bo aD) ((k,x)::b))],false,true,true⟩)) ?_ ?_
  ·refine dZ.mono (Ud B.inv (e:=e) (y:=44) (p := .tmp 44) rfl (by simp[ev,i1]) i2 i3 (by rw[cQ];decide)) ?_;rintro v w' (⟨L,N⟩|⟨j,k,x,L,N,Y⟩)
   ·rw[X,Af]at L;have ad:o=[]:=List.map_eq_nil_iff.1 L;exact⟨_,.inl ⟨ad,rfl,rfl⟩,xo B (fun d I=>by cases I;exact⟨by simp,by decide⟩) (gW.maps fun x =>.inl rfl) N⟩
   ·rw[X,i5]at Y;rw[X]at L;rw[i5]at N;rw[Af]at L Y;rw[Fm]at N Y;rw[aeU]at L N;obtain⟨q,hq,rfl⟩:=aeV.1 L;rw[hq]at N;cases N;rw[map_eraseIdx,map_eraseIdx,<- Af,<- Fm]at Y;have hp:=F8 hq;refine⟨_,.inr ⟨q.1,q.2,o.eraseIdx j,hp.map lj,hp.length_eq,rfl,rfl⟩,xo B (fun d I=>by cases I;exact⟨by simp,by decide⟩) (gW.maps fun x =>?_) Y⟩;show bY h 44 _ x=_∨_
    by_cases l:x=44
    ·subst l;rw[aA];exact .inr ⟨_,_,_,_,_,_,rfl⟩
    ·rw[aC _ _ l];exact .inl rfl
  ·rintro t' h' a' w' ao (⟨rfl,rfl,rfl⟩|⟨k,x,b,p1,p2,rfl,rfl⟩) O
   ·refine Gk (F:=FU) tok sb O (by decide) (by simp) (K:=fun t' i=>t'=bY (bY t 45 (.tup [.bool false])) 46 (.bool false)∧i=h') (by simp only[w8,seval]) ?_;rintro t2 h2 S T ⟨rfl,rfl⟩ E;refine (show Code.wp _ (Code.seq (Code.cond _ Code.skip (Code.exit 2)) _) _ S T from ?_);refine zK (F:=FU) tok sb mixed E (by kernel_rfl) (K:=fun x t' i Z=>x=.exit 2∧t'=bY (bY t 45 (.tup [.bool false])) 46 (.bool false)∧i=h2∧Z=e+1) (by simp only[w8,seval]) ?_;rintro x t3 h3 e3 a3 w3 ⟨rfl,rfl,rfl,rfl⟩ ag;refine YY hc ⟨ks,vs,f,C,ty,z,A,P,?_,i2,i3,X,i5,?_,i7,?_,i9,by omega,J⟩ ag
    ·rw[aC _ _ (by decide),aC _ _ (by decide)];exact i1
    ·rw[aC _ _ (by decide),aC _ _ (by decide)];exact i6
    ·rw[aC _ _ (by decide),aC _ _ (by decide)];exact i8
   ·refine Gk (F:=FU) tok sb O (by decide) (by simp) (K:=fun t' i=>t'=bY (bY t 45 (.tup [.bool true,.agg [.int .i64 k.1,.int .i64 k.2],.agg [.int .i64 x.bR.ak,.sl false false x.bR.aa.length (ae (eI .i64) x.bR.aa),.int .i64 x.bN.ak,.sl false false x.bN.aa.length (ae (eI .i64) x.bN.aa)]])) 46 (.bool true)∧i=bY h 44 (some ⟨C,900001,[.mpc (eu ((k,x)::b)) (gh (bo aD) ((k,x)::b))],false,true,true⟩)) (by simp only[w8,seval]) ?_;rintro t2 h2 S T ⟨rfl,rfl⟩ E;refine (show Code.wp _ (Code.seq (Code.cond _ Code.skip (Code.exit 2)) (Code.block 3 (Code.seq (Code.region _ (List.toArray _) false) _))) _ S T from ?_);apply wp_seq;have hF:∃t h,(t 44=.ptr 44 C 0∧t 9=.ptr 9 z 0∧t 2=.ptr 2 A 0∧h 44=some ⟨C,900001,[.mpc (eu ((k,x)::b)) (gh (bo aD) ((k,x)::b))],false,true,true⟩∧h 9=some ⟨z,28,[.nr 50 6 P [.int .i64 c,.nx f.length (ae bc f)]],false,false,true⟩∧h 2=some ⟨A,28,[.int .i64 0,.sl true true 0 []],false,false,false⟩∧t 46=.bool true)∧Holds 65 M none w0 ⟨t,h,e+1⟩ S T:=by
     refine⟨_,_,⟨?_,?_,?_,aA _ _ _,?_,?_,aA _ _ _⟩,E⟩
     ·rw[aC _ _ (by decide),aC _ _ (by decide)];exact i1
     ·rw[aC _ _ (by decide),aC _ _ (by decide)];exact i6
     ·rw[aC _ _ (by decide),aC _ _ (by decide)];exact i8
     ·rw[aC _ _ (by decide)];exact i7
     ·rw[aC _ _ (by decide)];exact i9
    clear E O B i1 i2 i3 X i5 i6 i7 i8 i9;clear h t;obtain⟨t,h,⟨f1,f2,f3,f4,f5,f6,f7⟩,E⟩:=hF;refine zK (F:=FU) tok sb mixed E (by kernel_rfl) (K:=fun x t' i Z=>x=.normal∧t'=t∧i=h∧Z=e+1) (by simp only[w8,seval,f7]) ?_;rintro x' t3 h3 e3 a3 w3 ⟨rfl,rfl,rfl,rfl⟩ ⟨aa,u⟩;replace u:ub 65 M none w0 aa (e+1) [] t3 h3 a3 w3:=u;refine (show Code.wp _ (Code.block 3 (Code.seq (Code.region _ (List.toArray _) false) _)) _ a3 w3 from ?_);apply wp_block;apply wp_seq;apply wp_region_lit;refine AP rfl u (by decide) (K:=fun t' h'=>t'=bY t3 47 (.tup [.agg [.int .i64 k.1,.int .i64 k.2],.agg [.int .i64 x.bR.ak,.sl false false x.bR.aa.length (ae (eI .i64) x.bR.aa),.int .i64 x.bN.ak,.sl false false x.bN.aa.length (ae (eI .i64) x.bN.aa)]])∧h'=h3) ?_ ?_
    ·refine dZ.mono (Qf u.inv (e:=e+1) (y:=44) (p := .tmp 44) (k:=AF.k k) (x:=(bo aD).d x) (ks:=eu b) (vs:=gh (bo aD) b) rfl (by simp[ev,f1]) f4 (by rw[cQ];decide)) fun v w' hA=>⟨_,⟨rfl,rfl⟩,xo u (fun d I=>by cases I;exact⟨by simp,by decide⟩) (gW.refl _ _) hA⟩
    ·rintro t4 h4 a4 w4 aq ⟨rfl,rfl⟩ ah;refine Gk (F:=FU) tok sb ah (by decide) (by simp) (K:=fun t' h'=>t' 44=.ptr 44 C 0∧t' 9=.ptr 9 z 0∧t' 2=.ptr 2 A 0∧t' 10=.ptr 10 (e+1) 0∧t' 11=.ptr 11 (e+1) 0 ∧
      h' 44=some ⟨C,900001,[.mpc (eu ((k,x)::b)) (gh (bo aD) ((k,x)::b))],false,true,true⟩∧h' 9=some ⟨z,28,[.nr 50 6 P [.int .i64 c,.nx f.length (ae bc f)]],false,false,true⟩∧h' 2=some ⟨A,28,[.int .i64 0,.sl true true 0 []],false,false,false⟩ ∧
      h' 10=some ⟨e+1,70,[.int .i64 k.1,.int .i64 k.2],false,false,false⟩∧h' 11=some ⟨e+1,42,[.int .i64 x.bR.ak,.sl false false x.bR.aa.length (ae (eI .i64) x.bR.aa),.int .i64 x.bN.ak,.sl false false x.bN.aa.length (ae (eI .i64) x.bN.aa)],false,false,false⟩) (by simp only[w8,seval,f1,f2,f3,f4,f5,f6]) ?_
     rintro t5 h5 a5 w5 ⟨g1,g2,g3,g4,g5,g6,g7,g8,g9,ai⟩ aj;have au:f.length+1+b.length=m.length:=by
      have:=J.length_eq;simp only[af6,afq]at this;omega
     have ab:kV 80 f [lj (k,x)]=some (f++[lj (k,x)]):=by
      unfold kV;have:(17592186044416:Nat)<=maxLen:=by decide
      rw[if_pos ⟨by simp;omega,by simp;omega⟩]
     obtain⟨qa,qb,qc,qd⟩:=fY bc ab;simp only[bT,lj]at qb;have bp:bump P (e+1+1)=some (4*(e+1+1)+1):=J6 (by omega);refine (show Code.wp _ (Code.region _ (List.toArray _) false) _ a5 w5 from ?_);refine zK (F:=FU) tok sb mixed aj (by kernel_rfl) (K:=fun x' t' h' Z=>x'=.normal∧Z=e+1+1+1∧t' 44=.ptr 44 C 0∧t' 9=.ptr 9 z 0∧t' 2=.ptr 2 A 0 ∧
      h' 44=some ⟨C,900001,[.mpc (eu ((k,x)::b)) (gh (bo aD) ((k,x)::b))],false,true,true⟩∧h' 9=some ⟨z,28,[.nr 50 6 (4*(e+1+1)+1) [.int .i64 c,.nx (f++[lj (k,x)]).length (ae bc (f++[lj (k,x)]))]],false,false,true⟩∧h' 2=some ⟨A,28,[.int .i64 0,.sl true true 0 []],false,false,false⟩)
      (by simp only[w8,seval,g1,g2,g3,g4,g5,g6,g7,g8,g9,ai,qa,qb,qc,qd,bp,lj];exact⟨qc,qd⟩) ?_
     rintro x' t6 h6 e6 a6 w6 ⟨rfl,rfl,l1,l2,l3,l4,l5,l6⟩ ak;refine (show ∃n',n'<n∧∃(o:List ((Int×Int)×aw)) (t:Nat->D) (h:Nat->Option Row) (e:Nat),o.length=n'∧R9 m c o t h e∧Holds 65 M none w0 ⟨t,h,e⟩ a6 w6 from ?_);refine⟨b.length,by omega,b,t6,h6,_,rfl,⟨_,_,_,C,900001,z,A,_,l1,l4,by decide,?_,?_,l2,l5,l3,l6,by omega,?_⟩,ak⟩
     ·rw[show 900001-900000=1 from agf (n:=900000) (m:=1)];rfl
     ·rw[show 900001-900000=1 from agf (n:=900000) (m:=1)];rfl
     ·rw[agd];exact (List.Perm.append_left f p1.symm).trans J
def qq (l:Option (D×Row)) (d:List D):=di (fl (oL (eI .i64)) (dc (oL (eI .i64)))) (fun x:(List Int)×(List Int)=>pX x.1 x.2) (fun r:(List Int) =>.fresh 3 1 r.length (ae (eI .i64) r)) l d
def A6:Env:=(Am.ext bl 133 true tP)
def QF:bG prog A6:=(bG.none.add Hj true)
def fQ:=ai @w<|@A6.eq_1
def FP:bK prog 134 qq:=bK.fh (mode:=(.fresh 3 1)) tok QF mixed func134 (by kernel_rfl) (fun _ _=>rfl) (fun _=>by kernel_rfl) fun⟨q,u⟩ r a=>by
 replace a:pX q u=some r:=a;apply aF rfl ntmps134 results134;simp only[fj];unfold pX at a;obtain⟨x1,Y,a⟩:=ab a;obtain⟨Z,aa,ad,G,ag⟩:=mk_one (eI .i64) Y;simp only[bT]at G;simp only[fQ,seval,-Int.reduceToNat,Z,aa,ad,G,ag];obtain⟨ah,I,a⟩:=ab a;refine ax (fun s t H e=>match s with|(b,D)=>∃j:Nat,t 1=.sl false false u.length (ae (eI .i64) u)∧t 5=.buf 5 j 1 0 (D).length∧t 18=.sl false false q.length (ae (eI .i64) q)∧t 19=.int .i64 (q.length:Int)∧t 20=.int .i64 b∧H 5=some ⟨j,3,ae (eI .i64) D,false,true,false⟩) (fun o x t H e=>match o with|d=>x=.exit 0∧∃k:Nat,t 5=.buf 5 k 1 0 (d).length∧H 5=some ⟨k,3,ae (eI .i64) d,false,true,false⟩) I ?_ ?_ ?_
 ·refine⟨1,?_,?_,?_,?_,?_,?_⟩;all_goals (rfl)
 ·rintro⟨b,D⟩ t H e ⟨j,W⟩ c a;simp only[uo]at a;simp only[fQ,seval,-Int.reduceToNat,W];apply sp aj a<;>intro _ a
  ·obtain⟨E,J,a⟩:=ab a;have w:=bk (eI .i64) J;simp only[bT]at w;simp only[fQ,seval,-Int.reduceToNat,W,w];obtain⟨ai,K,a⟩:=ab a;refine ax (fun s t H e=>match s with|(v,y,F)=>∃l:Nat,t 1=.sl false false u.length (ae (eI .i64) u)∧t 5=.buf 5 l 1 0 (F).length∧t 6=.int .i64 b∧t 7=.int .i64 E∧t 8=.int .i64 v∧t 18=.sl false false q.length (ae (eI .i64) q)∧t 19=.int .i64 (q.length:Int)∧t 20=.int .i64 b∧t 25=.sl false false u.length (ae (eI .i64) u)∧t 26=.int .i64 (u.length:Int)∧t 27=.int .i64 y∧H 5=some ⟨l,3,ae (eI .i64) F,false,true,false⟩) (fun o x t H e=>match o with|(f,m)=>x=.exit 2∧∃g:Nat,t 1=.sl false false u.length (ae (eI .i64) u)∧t 5=.buf 5 g 1 0 (m).length∧t 6=.int .i64 b∧t 8=.int .i64 f∧t 18=.sl false false q.length (ae (eI .i64) q)∧t 19=.int .i64 (q.length:Int)∧t 20=.int .i64 b∧H 5=some ⟨g,3,ae (eI .i64) m,false,true,false⟩) K ?_ ?_ ?_
   ·refine⟨j,?_⟩;and_intros<;>first|rfl|(simp only[fQ,seval,-Int.reduceToNat,W]<;>rfl)
   ·rintro⟨v,y,F⟩ t H e ⟨l,X⟩ c a;simp only[uq]at a;simp only[fQ,seval,-Int.reduceToNat,X];apply sp aj a<;>intro _ a
    ·obtain⟨L,M,a⟩:=ab a;have A:=bk (eI .i64) M;simp only[bT]at A;obtain⟨N,n,a⟩:=ab a;have h:=bk (eI .i64) n;simp only[bT]at h;obtain⟨an,O,a⟩:=ab a;have ak:=xT O;have h:=bk (eI .i64) n;simp only[bT]at h;have P:=fN (eI .i64) (x':=kW .and .i64 (IntKind.i64.wrap ((IntKind.i64.wrap (N+(IntKind.i64.wrap (E*L))))+v)) 1048575) (fo:=0) (cs:=[.int .i64 (kW .and .i64 (IntKind.i64.wrap ((IntKind.i64.wrap (N+(IntKind.i64.wrap (E*L))))+v)) 1048575)]) n rfl (agG rfl);simp only[bT,Nat.add_zero]at P;have B:=P;simp only[putCells,List.length_cons,List.length_nil,afH]at B;cases a;simp only[fQ,seval,-Int.reduceToNat,X,A,ak,h,B];apply eS;refine⟨l,?_⟩;and_intros<;>first|rfl|(simp only[fQ,seval,-Int.reduceToNat,X]<;>rfl)
    ·cases a;simp only[fQ,seval,-Int.reduceToNat];apply gC;refine⟨rfl,⟨l,?_,?_,?_,?_,?_,?_,?_,?_⟩⟩;all_goals ((simp only[fQ,seval,-Int.reduceToNat,X]<;>rfl))
   ·rintro x t H e Q;rcases ai with⟨f,m⟩;dsimp only at Q a;obtain⟨rfl,⟨g,R⟩⟩:=Q;obtain⟨S,p,a⟩:=ab a;have i:=bk (eI .i64) p;simp only[bT]at i;have i:=bk (eI .i64) p;simp only[bT]at i;have T:=fN (eI .i64) (x':=IntKind.i64.wrap (S+f)) (fo:=0) (cs:=[.int .i64 (IntKind.i64.wrap (S+f))]) p rfl (agG rfl);simp only[bT,Nat.add_zero]at T;have C:=T;simp only[putCells,List.length_cons,List.length_nil,afH]at C;cases a;simp only[fQ,seval,-Int.reduceToNat,R,i,C];apply eS;refine⟨g,?_⟩;and_intros<;>first|rfl|(simp only[fQ,seval,-Int.reduceToNat,R]<;>rfl)
  ·cases a;simp only[fQ,seval,-Int.reduceToNat];apply gC;refine⟨rfl,⟨j,?_,?_⟩⟩;all_goals ((simp only[fQ,seval,-Int.reduceToNat,W]<;>rfl))
 ·rintro x t H e Q;obtain⟨d,rfl⟩:∃z,z=ah:=⟨_,rfl⟩;dsimp only at Q a;obtain⟨rfl,⟨k,al⟩⟩:=Q;have U:=K6 [] [] d;simp only[List.nil_append,agO,List.length_nil]at U;obtain⟨ao,V,a⟩:=ab a;cases a;simp only[fQ,seval,-Int.reduceToNat,al,U,V]
def qF:=YT 3 (eI .i64) (fl (oL (eI .i64)) (dc (aI .i64))) (fun (l:(List Int)) (x:(List Int)×Int)=>fZ l x.1 x.2) (fun r:Int =>.clean (.int .i64 r))
def Gf (b a:List D) (c:(List Int)) (d:(List Int)) (e:Int):qF (some (.buf 0 0 1 b.length c.length,⟨0,3,b++(ae (eI .i64) c++a),false,true,false⟩)) [.sl false false d.length (ae (eI .i64) d),.int .i64 e]=(fZ c d e).map fun r=>(.clean (.int .i64 r.2),some ⟨0,3,b++(ae (eI .i64) r.1++a),false,true,false⟩):=Xe _ _ _ _ _ b a c (d,e)
def Fi (d a:List D) (L:(List Int)) (l:(List Int)) (A:Int) (r:(List Int)×(Int)) (b:fZ L l A=some r):kT .clean tab bl FU Tryz.f135 (some (.buf 0 0 1 d.length L.length,⟨0,3,d++(ae (eI .i64) L++a),false,true,false⟩)) [.sl false false l.length (ae (eI .i64) l),.int .i64 A]=some (.clean (.int .i64 r.2),some ⟨0,3,d++(ae (eI .i64) r.1++a),false,true,false⟩):=by
 apply GU rfl ntmps135 results135;unfold fZ at b;obtain⟨rw,Z,b⟩:=ab b;split at b;rotate_left
 ·cases b
 cases b;rename_i an;replace b:=Z;unfold qL at b;simp only[w,seval,-Int.reduceToNat];obtain⟨o9,aa,b⟩:=ab b;refine ax (fun s t H e=>match s with|(M,j,m)=>t 0=.buf 0 0 1 d.length (m).length∧t 1=.sl false false l.length (ae (eI .i64) l)∧t 2=.int .i64 A∧t 7=.int .i64 M∧t 13=.int .i64 ((L).length:Int)∧t 14=.int .i64 j∧H 0=some ⟨0,3,d++(ae (eI .i64) m++a),false,true,false⟩) (fun o x t H e=>match o with|(B,h)=>x=.exit 0∧t 0=.buf 0 0 1 d.length (h).length∧t 1=.sl false false l.length (ae (eI .i64) l)∧t 2=.int .i64 A∧t 7=.int .i64 B∧H 0=some ⟨0,3,d++(ae (eI .i64) h++a),false,true,false⟩) aa ?_ ?_ ?_
 ·refine⟨?_,?_,?_,?_,?_,?_,?_⟩;all_goals (rfl)
 ·rintro⟨M,j,m⟩ t H e J c b;simp only[lF]at b;simp only[w,seval,-Int.reduceToNat,J];apply sp aj b<;>intro _ b
  ·obtain⟨ao,n,b⟩:=ab b;have f:=NG (pre:=d) (post:=a) (eI .i64) n;simp only[bT]at f;simp only[w,seval,-Int.reduceToNat,J,f];obtain⟨ad,N,b⟩:=ab b;refine lA 0 (fun s t H e=>match s with|p=>t 0=.buf 0 0 1 d.length (m).length∧t 1=.sl false false l.length (ae (eI .i64) l)∧t 2=.int .i64 A∧t 8=.int .i64 j∧t 9=.int .i64 p∧t 13=.int .i64 ((L).length:Int)∧t 14=.int .i64 j∧H 0=some ⟨0,3,d++(ae (eI .i64) m++a),false,true,false⟩) (fun s=>s=ad) ?_ ?_
   ·rintro p t H e O rfl;try dsimp only at b
    have f:=NG (pre:=d) (post:=a) (eI .i64) n;simp only[bT]at f;have P:=OO (pre:=d) (post:=a) (eI .i64) (y':=kW .and .i64 p 1048575) n;simp only[bT]at P;have C:=P;simp only[putCells,List.length_cons,List.length_nil,afH]at C;obtain⟨aq,Q,b⟩:=ab b;have ag:=xT Q;cases b;simp only[w,seval,-Int.reduceToNat,O,f,C,ag];apply eS;and_intros<;>first|rfl|(simp only[w,seval,-Int.reduceToNat,O]<;>rfl)
   ·clear b;have b:=N;simp only[w,seval,-Int.reduceToNat];apply sp aj b<;>intro _ b
    ·obtain⟨ar,R,b⟩:=ab b;have E:=bk (eI .i64) R;simp only[bT]at E;cases b;simp only[w,seval,-Int.reduceToNat,J,f,E];rw[au];refine⟨_,rfl,?_⟩;and_intros<;>first|rfl|(simp only[w,seval,-Int.reduceToNat,J]<;>rfl)
    ·cases b;simp only[w,seval,-Int.reduceToNat];rw[au];refine⟨_,rfl,?_⟩;and_intros<;>first|rfl|(simp only[w,seval,-Int.reduceToNat,J]<;>rfl)
  ·cases b;simp only[w,seval,-Int.reduceToNat];apply gC;refine⟨rfl,⟨?_,?_,?_,?_,?_⟩⟩;all_goals ((simp only[w,seval,-Int.reduceToNat,J]<;>rfl))
 ·rintro x t H e S;rcases o9 with⟨B,h⟩;dsimp only at S b;obtain⟨rfl,y⟩:=S;simp only[w,seval,-Int.reduceToNat,y];apply sp aj b<;>intro _ b
  ·cases b;simp only[w,seval,-Int.reduceToNat,y]
  ·simp only[w,seval,-Int.reduceToNat,y];obtain⟨ah,T,b⟩:=ab b;refine ax (fun s t H e=>match s with|(F,k,q)=>t 0=.buf 0 0 1 d.length (q).length∧t 1=.sl false false l.length (ae (eI .i64) l)∧t 2=.int .i64 A∧t 10=.int .i64 F∧t 48=.int .i64 ((h).length:Int)∧t 49=.int .i64 k∧H 0=some ⟨0,3,d++(ae (eI .i64) q++a),false,true,false⟩) (fun o x t H e=>match o with|u=>x=.exit 2∧t 0=.buf 0 0 1 d.length (u).length∧t 2=.int .i64 A∧H 0=some ⟨0,3,d++(ae (eI .i64) u++a),false,true,false⟩) T ?_ ?_ ?_
   ·and_intros<;>first|rfl|(simp only[w,seval,-Int.reduceToNat,y]<;>rfl)
   ·rintro⟨F,k,q⟩ t H e K c b;simp only[lG]at b;simp only[w,seval,-Int.reduceToNat,K];apply sp aj b<;>intro _ b
    ·obtain⟨av,v,b⟩:=ab b;have g:=NG (pre:=d) (post:=a) (eI .i64) v;simp only[bT]at g;simp only[w,seval,-Int.reduceToNat,K,g];obtain⟨ai,U,b⟩:=ab b;refine lA 0 (fun s t H e=>match s with|i=>t 0=.buf 0 0 1 d.length (q).length∧t 1=.sl false false l.length (ae (eI .i64) l)∧t 2=.int .i64 A∧t 10=.int .i64 i∧t 11=.int .i64 k∧t 48=.int .i64 ((h).length:Int)∧t 49=.int .i64 k∧H 0=some ⟨0,3,d++(ae (eI .i64) q++a),false,true,false⟩) (fun s=>s=ai) ?_ ?_
     ·rintro i t H e V rfl;try dsimp only at b
      have g:=NG (pre:=d) (post:=a) (eI .i64) v;simp only[bT]at g;have W:=OO (pre:=d) (post:=a) (eI .i64) (y':=kW .and .i64 i 1048575) v;simp only[bT]at W;have G:=W;simp only[putCells,List.length_cons,List.length_nil,afH]at G;obtain⟨aw,X,b⟩:=ab b;have ak:=xT X;cases b;simp only[w,seval,-Int.reduceToNat,V,g,G,ak];apply eS;and_intros<;>first|rfl|(simp only[w,seval,-Int.reduceToNat,V]<;>rfl)
     ·clear b;have b:=U;simp only[w,seval,-Int.reduceToNat];apply sp aj b<;>intro _ b
      ·obtain⟨ay,Y,b⟩:=ab b;have I:=bk (eI .i64) Y;simp only[bT]at I;cases b;simp only[w,seval,-Int.reduceToNat,K,g,I];rw[au];refine⟨_,rfl,?_⟩;and_intros<;>first|rfl|(simp only[w,seval,-Int.reduceToNat,K]<;>rfl)
      ·cases b;simp only[w,seval,-Int.reduceToNat];rw[au];refine⟨_,rfl,?_⟩;and_intros<;>first|rfl|(simp only[w,seval,-Int.reduceToNat,K]<;>rfl)
    ·cases b;simp only[w,seval,-Int.reduceToNat];apply gC;refine⟨rfl,⟨?_,?_,?_⟩⟩;all_goals ((simp only[w,seval,-Int.reduceToNat,K]<;>rfl))
   ·rintro x t H e S;obtain⟨u,rfl⟩:∃z,z=ah:=⟨_,rfl⟩;dsimp only at S b;obtain⟨rfl,al⟩:=S;cases b;simp only[w,seval,-Int.reduceToNat,al]
def C7:bK prog 135 qF:=bK.ack (mode := .clean) tok bG.none mixed func135 (by kernel_rfl) ⟨by kernel_rfl,by kernel_rfl⟩ (fun _=>agG (by kernel_rfl)) (fun b a l x c r h=>Fi b a l x.1 x.2 (c,r) h)
def nB (l:Option (D×Row)) (d:List D):=di (fl (oL (eI .i64)) (dc (oL (eI .i64)))) (fun x:(List Int)×(List Int)=>ui x.1 x.2) (fun r:(List Int)×(List Int) =>.clean (.tup [.sl false false r.1.length (ae (eI .i64) r.1),.sl false false r.2.length (ae (eI .i64) r.2)])) l d
def Jk (a:(List Int)) (b:(List Int)):qq none [.sl false false a.length (ae (eI .i64) a),.sl false false b.length (ae (eI .i64) b)]=(pX a b).map fun r:(List Int)=>(.fresh 3 1 r.length (ae (eI .i64) r),none):=cB _ _ _ (a,b)
def nY (a:(List Int)):fc none [.sl false false a.length (ae (eI .i64) a)]=(ee a).map fun r:(List Int)=>(.clean (.sl false false r.length (ae (eI .i64) r)),none):=cB _ _ _ (a)
def A5:Env:=(Am.ext (Am.ext (Am.ext (Am.ext (Am.ext (Am.ext bl 104 false iP) 131 false eQ) 132 false rQ) 133 false fc) 134 false qq) 135 true qF)
def QE:bG prog A5:=((((((bG.none.add lN false).add ru false).add KV false).add oX false).add FP false).add C7 true)
def bC:=ai @w<|ai @fH<|ai @CM<|ai @eQ.eq_1<|ai @Vr<|ai @rQ.eq_1<|ai @nY<|@A5.eq_1
def FO:bK prog 105 nB:=bK.fh (mode := .clean) tok QE mixed func105 (by kernel_rfl) (fun _ _=>rfl) (fun _=>by kernel_rfl) fun⟨p0,p1⟩ r a=>by
 replace a:ui p0 p1=some r:=a;apply aF rfl ntmps105 results105;simp only[fj];unfold ui at a;obtain⟨r1,bq,a⟩:=ab a;simp only[bC,seval,-Int.reduceToNat,bq];apply sp aj a<;>intro _ a
 ·obtain⟨r3,br,a⟩:=ab a;cases a;simp only[bC,seval,-Int.reduceToNat,br]
 ·simp only[bC,seval,-Int.reduceToNat];apply sp aj a<;>intro _ a
  ·obtain⟨x5,bs,a⟩:=ab a;have ao:=bk (eI .i64) bs;simp only[bT]at ao;obtain⟨r6,bt,a⟩:=ab a;have i7:=nY ([r6.2]);simp only[bP,bT,List.length_cons,afH]at i7;obtain⟨r8,bw,a⟩:=ab a;cases a;simp only[bC,seval,-Int.reduceToNat,ao,bt,i7,bw]
  ·simp only[bC,seval,-Int.reduceToNat];obtain⟨bx,aq,a⟩:=ab a;refine ax (fun s t H e=>match s with|ar=>t 0=.sl false false p0.length (ae (eI .i64) p0)∧t 1=.sl false false p1.length (ae (eI .i64) p1)∧t 8=.int .i64 ar) (fun o x t H e=>match o with|d=>x=.exit 0∧t 0=.sl false false p0.length (ae (eI .i64) p0)∧t 1=.sl false false p1.length (ae (eI .i64) p1)∧t 8=.int .i64 d) aq ?_ ?_ ?_
   ·refine⟨?_,?_,?_⟩;all_goals (rfl)
   ·rintro ar t H e Za c a;simp only[uj]at a;obtain⟨bM,av,a⟩:=ab a;have U:=bk (eI .i64) av;simp only[bT]at U;simp only[bC,seval,-Int.reduceToNat,Za,U];apply sp aj a<;>intro _ a
    ·cases a;simp only[bC,seval,-Int.reduceToNat,Za];apply eS;and_intros<;>first|rfl|(simp only[bC,seval,-Int.reduceToNat,Za]<;>rfl)
    ·cases a;simp only[bC,seval,-Int.reduceToNat];apply gC;refine⟨rfl,⟨?_,?_,?_⟩⟩;all_goals ((simp only[bC,seval,-Int.reduceToNat,Za]<;>rfl))
   ·rintro x t H e V;obtain⟨d,rfl⟩:∃z,z=bx:=⟨_,rfl⟩;dsimp only at V a;obtain⟨rfl,an⟩:=V;have aw:=Jk p0 ([d]);simp only[bP,bT,List.length_cons,afH]at aw;obtain⟨bN,ay,a⟩:=ab a;obtain⟨bO,az,a⟩:=ab a;obtain⟨aA,W,aB,aC⟩:=fY (eI .i64) az;simp only[bT]at W;have aD:=Jk p1 ([d]);simp only[bP,bT,List.length_cons,afH]at aD;obtain⟨b,aE,a⟩:=ab a;simp only[bC,seval,-Int.reduceToNat,an,aw,ay,aA,W,aB,aC,aD,aE];obtain⟨bz,aG,a⟩:=ab a;refine lA 0 (fun s t H e=>match s with|K=>∃E:Nat,∃n:Nat,t 8=.int .i64 d∧t 9=.buf 9 E 1 0 (K).length∧t 10=.buf 10 n 1 0 (b).length∧H 9=some ⟨E,3,ae (eI .i64) K,false,true,false⟩∧H 10=some ⟨n,3,ae (eI .i64) b,false,true,false⟩) (fun s=>s=bz) ?_ ?_
    ·rintro K t H e ⟨E,n,aH⟩ rfl;try dsimp only at a
     obtain⟨bQ,aI,a⟩:=ab a;obtain⟨aJ,aK,aL,X,aM⟩:=mk_one (eI .i64) aI;simp only[bT]at X;simp only[bC,seval,-Int.reduceToNat,aH,aJ,aK,aL,X,aM];obtain⟨bA,aN,a⟩:=ab a;refine ax (fun s t H e=>match s with|(g,h,f)=>∃L:Nat,∃F:Nat,∃v:Nat,∃M:Bool,t 8=.int .i64 d∧t 9=.buf 9 L 1 0 (h).length∧t 10=.buf 10 F 1 0 (b).length∧t 11=.int .i64 ((b).length:Int)∧t 12=.buf 12 v 1 0 (f).length∧t 13=.int .i64 g∧H 9=some ⟨L,3,ae (eI .i64) h,false,true,false⟩∧H 10=some ⟨F,3,ae (eI .i64) b,M,true,false⟩∧H 12=some ⟨v,3,ae (eI .i64) f,false,true,false⟩) (fun o x t H e=>match o with|(N,B)=>x=.exit 2∧∃O:Nat,∃C:Nat,t 8=.int .i64 d∧t 9=.buf 9 O 1 0 (N).length∧t 12=.buf 12 C 1 0 (B).length∧H 9=some ⟨O,3,ae (eI .i64) N,false,true,false⟩∧H 12=some ⟨C,3,ae (eI .i64) B,false,true,false⟩) aN ?_ ?_ ?_
     ·refine⟨E,n,e+1,false,?_⟩;and_intros<;>first|rfl|(simp only[bC,seval,-Int.reduceToNat,aH]<;>rfl)
     ·rintro⟨g,h,f⟩ t H e ⟨L,F,v,M,Zc⟩ c a;simp only[uk]at a;simp only[bC,seval,-Int.reduceToNat,Zc];apply sp aj a<;>intro _ a
      ·obtain⟨bR,aO,a⟩:=ab a;have Y:=bk (eI .i64) aO;simp only[bT]at Y;obtain⟨bS,aP,a⟩:=ab a;have aQ:=Dy aP;obtain⟨bU,aR,a⟩:=ab a;have Z:=bk (eI .i64) aR;simp only[bT]at Z;simp only[bC,seval,-Int.reduceToNat,Zc,Y,aQ,Z];refine bu (by kernel_rfl) ?_;obtain⟨bV,P,a⟩:=ab a;have i:=bk (eI .i64) P;simp only[bT]at i;obtain⟨bW,aS,a⟩:=ab a;have bB:=uw aS;have i:=bk (eI .i64) P;simp only[bT]at i;obtain⟨bX,aT,a⟩:=ab a;have bD:=Ah aT;simp only[bC,seval,-Int.reduceToNat,Zc,bB,i,bD];refine bu (by kernel_rfl) ?_;obtain⟨bE,aU,a⟩:=ab a;refine ax (fun s t H e=>match s with|(Q,R)=>∃J:Nat,∃l:Nat,∃m:Nat,∃w:Bool,t 8=.int .i64 d∧t 9=.buf 9 J 1 0 (h).length∧t 10=.buf 10 l 1 0 (b).length∧t 11=.int .i64 ((b).length:Int)∧t 12=.buf 12 m 1 0 (f).length∧t 13=.int .i64 g∧t 15=.int .i64 Q∧t 16=.int .i64 R∧H 9=some ⟨J,3,ae (eI .i64) h,false,true,false⟩∧H 10=some ⟨l,3,ae (eI .i64) b,w,true,false⟩∧H 12=some ⟨m,3,ae (eI .i64) f,false,true,false⟩) (fun o x t H e=>match o with|D=>x=.exit 4∧∃G:Nat,∃p:Nat,∃q:Nat,∃S:Bool,t 8=.int .i64 d∧t 9=.buf 9 G 1 0 (h).length∧t 10=.buf 10 p 1 0 (b).length∧t 11=.int .i64 ((b).length:Int)∧t 12=.buf 12 q 1 0 (f).length∧t 13=.int .i64 g∧t 15=.int .i64 D∧H 9=some ⟨G,3,ae (eI .i64) h,false,true,false⟩∧H 10=some ⟨p,3,ae (eI .i64) b,S,true,false⟩∧H 12=some ⟨q,3,ae (eI .i64) f,false,true,false⟩) aU ?_ ?_ ?_
       ·refine⟨L,F,v,M,?_⟩;and_intros<;>first|rfl|(simp only[bC,seval,-Int.reduceToNat,Zc]<;>rfl)
       ·rintro⟨Q,R⟩ t H e ⟨J,l,m,w,Zg⟩ c a;simp only[um]at a;simp only[bC,seval,-Int.reduceToNat,Zg];obtain⟨bG,aV,a⟩:=ab a;refine PB 0 (fun s t H e=>match s with|I=>∃y:Nat,∃j:Nat,∃k:Nat,∃u:Bool,t 8=.int .i64 d∧t 9=.buf 9 y 1 0 (h).length∧t 10=.buf 10 j 1 0 (b).length∧t 11=.int .i64 ((b).length:Int)∧t 12=.buf 12 k 1 0 (f).length∧t 13=.int .i64 g∧t 15=.int .i64 Q∧t 16=.int .i64 R∧t 137=.bool I∧H 9=some ⟨y,3,ae (eI .i64) h,false,true,false⟩∧H 10=some ⟨j,3,ae (eI .i64) b,u,true,false⟩∧H 12=some ⟨k,3,ae (eI .i64) f,false,true,false⟩) (fun s=>s=bG) ?_ ?_
        ·rintro I t H e ⟨y,j,k,u,T⟩ rfl;try dsimp only at a
         simp only[bC,seval,-Int.reduceToNat,T];apply sp aj a<;>intro _ a
         ·have i:=bk (eI .i64) P;simp only[bT]at i;cases a;simp only[bC,seval,-Int.reduceToNat,T,i];apply eS;refine⟨y,j,k,u,?_⟩;and_intros<;>first|rfl|(simp only[bC,seval,-Int.reduceToNat,T]<;>rfl)
         ·cases a;simp only[bC,seval,-Int.reduceToNat];apply gC;refine⟨rfl,⟨y,j,k,u,?_,?_,?_,?_,?_,?_,?_,?_,?_,?_⟩⟩;all_goals ((simp only[bC,seval,-Int.reduceToNat,T]<;>rfl))
        ·clear a;have a:=aV;simp only[bC,seval,-Int.reduceToNat];apply sp jb a<;>intro _ a
         ·simp only[bC,seval,-Int.reduceToNat];refine bu (by kernel_rfl) ?_;cases a;rw[au];refine⟨_,rfl,?_⟩;refine⟨J,l,m,w,?_⟩;and_intros<;>first|rfl|(simp only[bC,seval,-Int.reduceToNat,Zg]<;>rfl)
         ·simp only[bC,seval,-Int.reduceToNat,Zg];apply sp xV a<;>intro _ a
          ·obtain⟨bY,aW,a⟩:=ab a;have aa:=bk (eI .i64) aW;simp only[bT]at aa;obtain⟨bZ,aX,a⟩:=ab a;have bH:=Dy aX;obtain⟨b1,aY,a⟩:=ab a;have ad:=bk (eI .i64) aY;simp only[bT]at ad;simp only[bC,seval,-Int.reduceToNat,aQ,Zg,aa,bH,ad];refine bu (by kernel_rfl) ?_;cases a;rw[au];refine⟨_,rfl,?_⟩;refine⟨J,l,m,w,?_⟩;and_intros<;>first|rfl|(simp only[bC,seval,-Int.reduceToNat,Zg]<;>rfl)
          ·simp only[bC,seval,-Int.reduceToNat];refine bu (by kernel_rfl) ?_;cases a;rw[au];refine⟨_,rfl,?_⟩;refine⟨J,l,m,w,?_⟩;and_intros<;>first|rfl|(simp only[bC,seval,-Int.reduceToNat,Zg]<;>rfl)
       ·rintro x t H e V;obtain⟨D,rfl⟩:∃z,z=bE:=⟨_,rfl⟩;dsimp only at V a;obtain⟨rfl,⟨G,p,q,S,aZ⟩⟩:=V;obtain⟨bI,A,a⟩:=ab a;obtain⟨a1,a6,a7,bL,a8⟩:=abv (eI .i64) A;simp only[bT]at a8;have ba:=Gf (ae (eI .i64) (h.take (g).toNat)) (ae (eI .i64) (h.drop (IntKind.i64.wrap ((IntKind.i64.wrap (g+((b).length:Int)))+1)).toNat)) bI b D;simp only[ZC,ZD (eI .i64) A,ZE (eI .i64) A,aax A,bT]at ba;obtain⟨bb,ag,a⟩:=ab a;have bc:=Bu ag;have bd:=Ya A bc;obtain⟨b2,ah,a⟩:=ab a;have ai:=bk (eI .i64) ah;simp only[bT]at ai;have bf:=fN (eI .i64) (x':=bb.2) (fo:=0) (cs:=[.int .i64 bb.2]) ah rfl (agG rfl);simp only[bT,Nat.add_zero]at bf;have ak:=bf;simp only[putCells,List.length_cons,List.length_nil,afH]at ak;cases a;simp only[bC,seval,-Int.reduceToNat,aZ,a1,a6,a7,ba,ag,ai,ak];apply eS;refine⟨G,p,q,true,?_⟩;and_intros<;>first|rfl|(simp only[bC,seval,-Int.reduceToNat,aZ,bd]<;>rfl)
      ·cases a;simp only[bC,seval,-Int.reduceToNat];apply gC;refine⟨rfl,⟨L,v,?_,?_,?_,?_,?_⟩⟩;all_goals ((simp only[bC,seval,-Int.reduceToNat,Zc]<;>rfl))
     ·rintro x t H e V;rcases bA with⟨N,B⟩;dsimp only at V a;obtain⟨rfl,⟨O,C,bJ⟩⟩:=V;obtain⟨b3,bh,a⟩:=ab a;obtain⟨b4,bj,a⟩:=ab a;obtain⟨b5,bl,a⟩:=ab a;cases a;simp only[bC,seval,-Int.reduceToNat,bJ,bh,bj,bl]
    ·clear a;have a:=aG;simp only[bC,seval,-Int.reduceToNat];apply sp aj a<;>intro _ a
     ·obtain⟨b6,bm,a⟩:=ab a;obtain⟨bn,al,bo,bp⟩:=fY (eI .i64) bm;simp only[bT]at al;cases a;simp only[bC,seval,-Int.reduceToNat,bn,al,bo,bp];rw[au];refine⟨_,rfl,?_⟩;refine⟨e+1+1,e,?_⟩;and_intros<;>first|rfl|(simp only[bC,seval,-Int.reduceToNat,an]<;>rfl)
     ·cases a;simp only[bC,seval,-Int.reduceToNat];rw[au];refine⟨_,rfl,?_⟩;refine⟨e,e,?_⟩;and_intros<;>first|rfl|(simp only[bC,seval,-Int.reduceToNat,an]<;>rfl)
def nz (l:Option (D×Row)) (d:List D):=di (fl (bo dN) (dc (bo dN))) (fun x:aG×aG=>rW x.1 x.2) (fun r:aG×Int =>.clean (.tup [.agg [.int .i64 r.1.ak,.sl false false r.1.aa.length (ae (eI .i64) r.1.aa)],.int .i64 r.2])) l d
def fA (c:Bool) (b:Int) (a:(List Int)):ln none [.bool c,.agg [.int .i64 b,.sl false false a.length (ae (eI .i64) a)]]=(eG c (aG.mk b a)).map fun r:aG×Int=>(.clean (.tup [.agg [.int .i64 r.1.ak,.sl false false r.1.aa.length (ae (eI .i64) r.1.aa)],.int .i64 r.2]),none):=cB _ _ _ (c,(aG.mk b a))
def A0:Env:=(Am.keep 6 (Am.ext (Am.ext (Am.ext (Am.ext (Am.ext bl 67 false bL) 103 false ln) 104 false iP) 105 false nB) 106 false cr))
def Qz:bG prog A0:=(bG.keep (((((bG.none.add gi false).add rq false).add lN false).add FO false).add jG false) 6)
def fP:=ai @w<|ai @tO<|ai @bL.eq_1<|ai @fA<|ai @fH<|ai @CM<|ai @nB.eq_1<|ai @Dx<|ai @cr.eq_1<|@A0.eq_1
def FL:bK prog 68 nz:=bK.fh (mode := .clean) tok Qz mixed func68 (by kernel_rfl) (fun _ _=>rfl) (fun _=>by kernel_rfl) fun⟨w,y⟩ r a=>by
 replace a:rW w y=some r:=a;apply aF rfl ntmps68 results68;simp only[fj];unfold rW at a;obtain⟨R,B,a⟩:=ab a;simp only[fP,seval,B];obtain⟨K,C,a⟩:=ab a;refine bq 0 (fun s t H e=>match s with|d=>∃f:Nat,∃g:Nat,∃b:Nat,t 2=.ptr 2 f 0∧t 3=.ptr 3 g 0∧t 4=.ptr 4 b 0∧t 17=.bool d∧H 2=some ⟨f,40,[.int .i64 w.ak,.sl false false w.aa.length (ae (eI .i64) w.aa)],false,false,false⟩∧H 3=some ⟨g,40,[.int .i64 y.ak,.sl false false y.aa.length (ae (eI .i64) y.aa)],false,false,false⟩∧H 4=some ⟨b,40,[.int .i64 0,.sl true true 0 []],false,false,false⟩) (fun s=>s=K) ?_ ?_
 ·rintro d t H e ⟨f,g,b,k⟩ rfl;try dsimp only at a
  simp only[fP,seval,k];apply sp aj a<;>intro _ a
  ·have I:=fA false 0 ([]);simp only[bT]at I;obtain⟨S,D,a⟩:=ab a;cases a;simp only[fP,seval,k,I,D]
  ·obtain⟨T,E,a⟩:=ab a;simp only[fP,seval,k,E];refine bu (by kernel_rfl) ?_;obtain⟨L,F,a⟩:=ab a;refine ax (fun s t H e=>match s with|(l,m)=>∃h:Nat,t 4=.ptr 4 h 0∧t 6=.sl false false l.length (ae (eI .i64) l)∧t 7=.sl false false m.length (ae (eI .i64) m)∧H 4=some ⟨h,40,[.int .i64 0,.sl true true 0 []],false,false,false⟩) (fun o x t H e=>match o with|i=>x=.exit 0∧∃j:Nat,t 4=.ptr 4 j 0∧t 6=.sl false false i.length (ae (eI .i64) i)∧H 4=some ⟨j,40,[.int .i64 0,.sl true true 0 []],false,false,false⟩) F ?_ ?_ ?_
   ·refine⟨b,?_⟩;and_intros<;>first|rfl|(simp only[fP,seval,k]<;>rfl)
   ·rintro⟨l,m⟩ t H e ⟨h,A⟩ c a;simp only[qJ]at a;simp only[fP,seval,A];apply sp aj a<;>intro _ a
    ·obtain⟨M,n,a⟩:=ab a;cases a;simp only[fP,seval,A,n];apply eS;refine⟨h,?_⟩;and_intros<;>first|rfl|(simp only[fP,seval,A]<;>rfl)
    ·cases a;simp only[fP,seval];apply gC;refine⟨rfl,⟨h,?_,?_,?_⟩⟩;all_goals ((simp only[fP,seval,A]<;>rfl))
   ·rintro x t H e J;obtain⟨i,rfl⟩:∃z,z=L:=⟨_,rfl⟩;dsimp only at J a;obtain⟨rfl,⟨j,G⟩⟩:=J;obtain⟨N,p,a⟩:=ab a;obtain⟨O,q,a⟩:=ab a;obtain⟨P,u,a⟩:=ab a;cases a;simp only[fP,seval,G,p,q,u]
 ·clear a;have a:=C;simp only[fP,seval];apply sp aO a<;>intro _ a
  ·cases a;simp only[fP,seval];rw[au];refine⟨_,rfl,?_⟩;refine⟨0,0,0,?_,?_,?_,?_,?_,?_,?_⟩;all_goals (rfl)
  ·obtain⟨Q,v,a⟩:=ab a;cases a;simp only[fP,seval,v];rw[au];refine⟨_,rfl,?_⟩;refine⟨0,0,0,?_,?_,?_,?_,?_,?_,?_⟩;all_goals (rfl)
def xc (l:Option (D×Row)) (d:List D):=di (dc (bo dN)) (fun x:aG=>xq x) (fun r:Int×Bool =>.clean (.tup [.int .i64 r.1,.bool r.2])) l d
def A1:Env:=(Am.ext bl 67 false bL)
def QA:bG prog A1:=(bG.none.add gi false)
def bU:=ai @w<|ai @tO<|ai @bL.eq_1<|@A1.eq_1
def Q8:bK prog 107 xc:=bK.fh (mode := .clean) tok QA mixed func107 (by kernel_rfl) (fun _ _=>rfl) (fun _=>by kernel_rfl) fun b r a=>by
 replace a:xq b=some r:=a;apply aF rfl ntmps107 results107;simp only[fj];unfold xq at a;obtain⟨R,G,a⟩:=ab a;simp only[bU,seval,-Int.reduceToNat,G];obtain⟨O,I,a⟩:=ab a;refine bq 0 (fun s t H e=>match s with|j=>∃f:Nat,t 1=.ptr 1 f 0∧t 15=.bool j∧H 1=some ⟨f,40,[.int .i64 b.ak,.sl false false b.aa.length (ae (eI .i64) b.aa)],false,false,false⟩) (fun s=>s=O) ?_ ?_
 ·rintro j t H e ⟨f,v⟩ rfl;try dsimp only at a
  simp only[bU,seval,-Int.reduceToNat,v];apply sp aj a<;>intro _ a
  ·cases a;simp only[bU,seval,-Int.reduceToNat]
  ·simp only[bU,seval,-Int.reduceToNat,v];obtain⟨J,z,a⟩:=ab a;refine ax (fun s t H e=>match s with|(w,g)=>∃i:Nat,t 1=.ptr 1 i 0∧t 4=.int .u64 w∧t 17=.sl false false b.aa.length (ae (eI .i64) b.aa)∧t 18=.int .i64 (b.aa.length:Int)∧t 19=.int .i64 g∧H 1=some ⟨i,40,[.int .i64 b.ak,.sl false false b.aa.length (ae (eI .i64) b.aa)],false,false,false⟩) (fun o x t H e=>match o with|(.inl k)=>x=.exit 0∧∃d:Nat,t 1=.ptr 1 d 0∧t 4=.int .u64 k∧H 1=some ⟨d,40,[.int .i64 b.ak,.sl false false b.aa.length (ae (eI .i64) b.aa)],false,false,false⟩|(.inr r)=>x=.ret∧eB .clean tab none [.tmp 2,.tmp 3] ⟨t,EH H,e⟩=some (.clean (.tup [.int .i64 r.1,.bool r.2]),none)) z ?_ ?_ ?_
   ·refine⟨f,?_⟩;and_intros<;>first|rfl|(simp only[bU,seval,-Int.reduceToNat,v]<;>rfl)
   ·rintro⟨w,g⟩ t H e ⟨i,A⟩ c a;simp only[ug]at a;simp only[bU,seval,-Int.reduceToNat,A];apply sp aj a<;>intro _ a
    ·obtain⟨K,B,a⟩:=ab a;have u:=bk (eI .i64) B;simp only[bT]at u;simp only[bU,seval,-Int.reduceToNat,A,u];obtain⟨L,C,a⟩:=ab a;refine bq 0 (fun s t H e=>match s with|l=>∃h:Nat,t 1=.ptr 1 h 0∧t 4=.int .u64 w∧t 5=.int .i64 g∧t 6=.int .i64 K∧t 17=.sl false false b.aa.length (ae (eI .i64) b.aa)∧t 18=.int .i64 (b.aa.length:Int)∧t 19=.int .i64 g∧t 29=.bool l∧H 1=some ⟨h,40,[.int .i64 b.ak,.sl false false b.aa.length (ae (eI .i64) b.aa)],false,false,false⟩) (fun s=>s=L) ?_ ?_
     ·rintro l t H e ⟨h,y⟩ rfl;try dsimp only at a
      simp only[bU,seval,-Int.reduceToNat,y];apply sp aj a<;>intro _ a
      ·cases a;simp only[bU,seval,-Int.reduceToNat];refine lk ⟨rfl,?_⟩;simp only[bU,seval,-Int.reduceToNat]
      ·obtain⟨P,D,a⟩:=ab a;have M:=Dy D;cases a;simp only[bU,seval,-Int.reduceToNat,y,M];apply eS;refine⟨h,?_⟩;and_intros<;>first|rfl|(simp only[bU,seval,-Int.reduceToNat,y]<;>rfl)
     ·clear a;have a:=C;simp only[bU,seval,-Int.reduceToNat];apply sp dH a<;>intro _ a
      ·cases a;simp only[bU,seval,-Int.reduceToNat];rw[au];refine⟨_,rfl,?_⟩;refine⟨i,?_⟩;and_intros<;>first|rfl|(simp only[bU,seval,-Int.reduceToNat,A]<;>rfl)
      ·cases a;simp only[bU,seval,-Int.reduceToNat];rw[au];refine⟨_,rfl,?_⟩;refine⟨i,?_⟩;and_intros<;>first|rfl|(simp only[bU,seval,-Int.reduceToNat,A]<;>rfl)
    ·cases a;simp only[bU,seval,-Int.reduceToNat];apply gC;refine⟨rfl,⟨i,?_,?_,?_⟩⟩;all_goals ((simp only[bU,seval,-Int.reduceToNat,A]<;>rfl))
   ·rintro x t H e F;rcases J with k|S
    ·dsimp only at F a;obtain⟨rfl,⟨d,q⟩⟩:=F;simp only[bU,seval,-Int.reduceToNat,q];obtain⟨N,E,a⟩:=ab a;refine bq 0 (fun s t H e=>match s with|m=>∃n:Nat,t 1=.ptr 1 n 0∧t 4=.int .u64 k∧t 38=.bool m∧H 1=some ⟨n,40,[.int .i64 b.ak,.sl false false b.aa.length (ae (eI .i64) b.aa)],false,false,false⟩) (fun s=>s=N) ?_ ?_
     ·rintro m t H e ⟨n,p⟩ rfl;try dsimp only at a
      simp only[bU,seval,-Int.reduceToNat,p];apply sp aj a<;>intro _ a
      ·cases a;simp only[bU,seval,-Int.reduceToNat,p]
      ·simp only[bU,seval,-Int.reduceToNat,p];apply sp dH a<;>intro _ a
       ·simp only[bU,seval,-Int.reduceToNat,p];apply sp aj a<;>intro _ a
        ·cases a;simp only[bU,seval,-Int.reduceToNat,p]
        ·cases a;simp only[bU,seval,-Int.reduceToNat]
       ·cases a;simp only[bU,seval,-Int.reduceToNat]
     ·clear a;have a:=E;simp only[bU,seval,-Int.reduceToNat];apply sp dH a<;>intro _ a
      ·cases a;simp only[bU,seval,-Int.reduceToNat,q];rw[au];refine⟨_,rfl,?_⟩;refine⟨d,?_⟩;and_intros<;>first|rfl|(simp only[bU,seval,-Int.reduceToNat,q]<;>rfl)
      ·cases a;simp only[bU,seval,-Int.reduceToNat];rw[au];refine⟨_,rfl,?_⟩;refine⟨d,?_⟩;and_intros<;>first|rfl|(simp only[bU,seval,-Int.reduceToNat,q]<;>rfl)
    ·dsimp only at F a;obtain⟨rfl,Q⟩:=F;cases a;simp only[aP,aV,bS,bV];exact Q
 ·clear a;have a:=I;simp only[bU,seval,-Int.reduceToNat];apply sp aO a<;>intro _ a
  ·cases a;simp only[bU,seval,-Int.reduceToNat];rw[au];refine⟨_,rfl,?_⟩;refine⟨0,?_,?_,?_⟩;all_goals (rfl)
  ·cases a;simp only[bU,seval,-Int.reduceToNat];rw[au];refine⟨_,rfl,?_⟩;refine⟨0,?_,?_,?_⟩;all_goals (rfl)
def tS (l:Option (D×Row)) (d:List D):=di (dc (bo dN)) (fun x:aG=>tv x) (fun r:Bool =>.clean (.bool r)) l d
def yT:Env:=(Am.ext bl 107 false xc)
def Nj:bG prog yT:=(bG.none.add Q8 false)
def zu:=ai @w<|ai @tO<|ai @xc.eq_1<|@yT.eq_1
def Ou:bK prog 69 tS:=bK.fh (mode := .clean) tok Nj mixed func69 (by kernel_rfl) (fun _ _=>rfl) (fun _=>by kernel_rfl) fun c r a=>by
 replace a:tv c=some r:=a;apply aF rfl ntmps69 results69;simp only[fj];unfold tv at a;obtain⟨d,b,a⟩:=ab a;simp only[zu,seval,b];apply sp dH a<;>intro _ a
 ·cases a;simp only[zu,seval]
 ·cases a;simp only[zu,seval]
def b6 (l:Option (D×Row)) (d:List D):=di (dc (bo aD)) (fun x:aw=>dE x) (fun r:Bool =>.clean (.bool r)) l d
def uD:Env:=(Am.ext (Am.ext (Am.ext bl 67 false bL) 68 false nz) 69 false tS)
def Hb:bG prog uD:=(((bG.none.add gi false).add FL false).add Ou false)
def e8:=ai @w<|ai @tO<|ai @bL.eq_1<|ai @xS<|ai @nz.eq_1<|ai @tS.eq_1<|@uD.eq_1
def iF:bK prog 39 b6:=bK.fh (mode := .clean) tok Hb mixed func39 (by kernel_rfl) (fun _ _=>rfl) (fun _=>by kernel_rfl) fun d r a=>by
 replace a:dE d=some r:=a;apply aF rfl ntmps39 results39;simp only[fj];unfold dE at a;obtain⟨m,g,a⟩:=ab a;simp only[e8,seval,g];obtain⟨l,h,a⟩:=ab a;refine bq 0 (fun s t H e=>match s with|b=>∃c:Nat,t 1=.ptr 1 c 0∧t 20=.bool b∧H 1=some ⟨c,42,[.int .i64 d.bR.ak,.sl false false d.bR.aa.length (ae (eI .i64) d.bR.aa),.int .i64 d.bN.ak,.sl false false d.bN.aa.length (ae (eI .i64) d.bN.aa)],false,false,false⟩) (fun s=>s=l) ?_ ?_
 ·rintro b t H e ⟨c,f⟩ rfl;try dsimp only at a
  simp only[e8,seval,f];apply sp aj a<;>intro _ a
  ·cases a;simp only[e8,seval]
  ·obtain⟨n,i,a⟩:=ab a;simp only[e8,seval,f,i];apply sp dH a<;>intro _ a
   ·obtain⟨o,j,a⟩:=ab a;cases a;simp only[e8,seval,j]
   ·cases a;simp only[e8,seval]
 ·clear a;have a:=h;simp only[e8,seval];apply sp aO a<;>intro _ a
  ·cases a;simp only[e8,seval];rw[au];refine⟨_,rfl,?_⟩;refine⟨0,?_,?_,?_⟩;all_goals (rfl)
  ·obtain⟨p,k,a⟩:=ab a;simp only[e8,seval,k];apply sp aO a<;>intro _ a
   ·cases a;simp only[e8,seval];rw[au];refine⟨_,rfl,?_⟩;refine⟨0,?_,?_,?_⟩;all_goals (rfl)
   ·cases a;simp only[e8,seval];rw[au];refine⟨_,rfl,?_⟩;refine⟨0,?_,?_,?_⟩;all_goals (rfl)
def dC (l:Option (D×Row)) (d:List D):=di (dc (bo aD)) (fun x:aw=>iS x) (fun r:Int =>.clean (.int .i64 r)) l d
def wc:Env:=(Am.ext bl 39 false b6)
def Kv:bG prog wc:=(bG.none.add iF false)
def w7:=ai @w<|ai @s7<|ai @b6.eq_1<|@wc.eq_1
def mS:bK prog 40 dC:=bK.fh (mode := .clean) tok Kv mixed func40 (by kernel_rfl) (fun _ _=>rfl) (fun _=>by kernel_rfl) fun c r a=>by
 replace a:iS c=some r:=a;apply aF rfl ntmps40 results40;simp only[fj];unfold iS at a;obtain⟨d,b,a⟩:=ab a;simp only[w7,seval,b];apply sp aj a<;>intro _ a
 ·cases a;simp only[w7,seval]
 ·cases a;simp only[w7,seval]
def xd (l:Option (D×Row)) (d:List D):=di (fl (bo dN) (dc (bo dN))) (fun x:aG×aG=>xr x.1 x.2) (fun r:aG×Int =>.clean (.tup [.agg [.int .i64 r.1.ak,.sl false false r.1.aa.length (ae (eI .i64) r.1.aa)],.int .i64 r.2])) l d
def A2:Env:=(Am.ext (Am.ext (Am.ext (Am.ext bl 67 false bL) 103 false ln) 106 false cr) 134 false qq)
def QB:bG prog A2:=((((bG.none.add gi false).add rq false).add jG false).add FP false)
def oe:=ai @w<|ai @tO<|ai @bL.eq_1<|ai @fA<|ai @Dx<|ai @cr.eq_1<|ai @CM<|ai @qq.eq_1<|@A2.eq_1
def Q9:bK prog 122 xd:=bK.fh (mode := .clean) tok QB mixed func122 (by kernel_rfl) (fun _ _=>rfl) (fun _=>by kernel_rfl) fun⟨i,j⟩ r a=>by
 replace a:xr i j=some r:=a;apply aF rfl ntmps122 results122;simp only[fj];unfold xr at a;obtain⟨w,k,a⟩:=ab a;simp only[oe,seval,k];obtain⟨u,l,a⟩:=ab a;refine bq 0 (fun s t H e=>match s with|b=>∃c:Nat,∃d:Nat,∃f:Nat,t 2=.ptr 2 c 0∧t 3=.ptr 3 d 0∧t 4=.ptr 4 f 0∧t 13=.bool b∧H 2=some ⟨c,40,[.int .i64 i.ak,.sl false false i.aa.length (ae (eI .i64) i.aa)],false,false,false⟩∧H 3=some ⟨d,40,[.int .i64 j.ak,.sl false false j.aa.length (ae (eI .i64) j.aa)],false,false,false⟩∧H 4=some ⟨f,40,[.int .i64 0,.sl true true 0 []],false,false,false⟩) (fun s=>s=u) ?_ ?_
 ·rintro b t H e ⟨c,d,f,g⟩ rfl;try dsimp only at a
  simp only[oe,seval,g];apply sp aj a<;>intro _ a
  ·have q:=fA false 0 ([]);simp only[bT]at q;obtain⟨x,m,a⟩:=ab a;cases a;simp only[oe,seval,g,q,m]
  ·obtain⟨y,n,a⟩:=ab a;obtain⟨z,o,a⟩:=ab a;obtain⟨A,p,a⟩:=ab a;simp only[oe,seval,g,n,o,p];refine bu (by kernel_rfl) ?_;cases a;simp only[seval]
 ·clear a;have a:=l;simp only[oe,seval];apply sp aO a<;>intro _ a
  ·cases a;simp only[oe,seval];rw[au];refine⟨_,rfl,?_⟩;refine⟨0,0,0,?_,?_,?_,?_,?_,?_,?_⟩;all_goals (rfl)
  ·obtain⟨v,h,a⟩:=ab a;cases a;simp only[oe,seval,h];rw[au];refine⟨_,rfl,?_⟩;refine⟨0,0,0,?_,?_,?_,?_,?_,?_,?_⟩;all_goals (rfl)
def fu (l:Option (D×Row)) (d:List D):=di (fl (bo dN) (dc (bo dN))) (fun x:aG×aG=>dr x.1 x.2) (fun r:aG =>.clean (.agg [.int .i64 r.ak,.sl false false r.aa.length (ae (eI .i64) r.aa)])) l d
def uE:Env:=(Am.ext bl 122 false xd)
def Hc:bG prog uE:=(bG.none.add Q9 false)
def LM:=ai @w<|ai @xS<|ai @xd.eq_1<|@uE.eq_1
def s4:bK prog 89 fu:=bK.fh (mode := .clean) tok Hc mixed func89 (by kernel_rfl) (fun _ _=>rfl) (fun _=>by kernel_rfl) fun⟨c,d⟩ r a=>by
 replace a:dr c d=some r:=a;apply aF rfl ntmps89 results89;simp only[fj];unfold dr at a;obtain⟨e,b,a⟩:=ab a;cases a;simp only[LM,seval,b]
def zC (l:Option (D×Row)) (d:List D):=di (dc (oL (eI .i64))) (fun x:(List Int)=>vO x) (fun r:Int =>.clean (.int .i64 r)) l d
def Je:bK prog 63 zC:=bK.fh (mode := .clean) tok bG.none mixed func63 (by kernel_rfl) (fun _ _=>rfl) (fun _=>by kernel_rfl) fun g r a=>by
 replace a:vO g=some r:=a;apply aF rfl ntmps63 results63;simp only[fj];unfold vO at a;simp only[w,seval];obtain⟨l,i,a⟩:=ab a;refine ax (fun s t H e=>match s with|b=>t 3=.int .i64 0∧t 6=.sl false false g.length (ae (eI .i64) g)∧t 7=.int .i64 (g.length:Int)∧t 8=.int .i64 b) (fun o x t H e=>match o with|(.inl _)=>x=.exit 0∧t 3=.int .i64 0|(.inr r)=>x=.ret∧eB .clean tab none [.tmp 2] ⟨t,EH H,e⟩=some (.clean (.int .i64 r),none)) i ?_ ?_ ?_
 ·refine⟨?_,?_,?_,?_⟩;all_goals (rfl)
 ·rintro b t H e d c a;simp only[xw]at a;simp only[w,seval,d];apply sp aj a<;>intro _ a
  ·obtain⟨n,j,a⟩:=ab a;have f:=bk (eI .i64) j;simp only[bT]at f;simp only[w,seval,d,f];apply sp aj a<;>intro _ a
   ·cases a;simp only[w,seval];refine lk ⟨rfl,?_⟩;simp only[w,seval]
   ·cases a;simp only[w,seval,d];apply eS;and_intros<;>first|rfl|(simp only[w,seval,d]<;>rfl)
  ·cases a;simp only[w,seval];apply gC;refine⟨rfl,?_⟩;all_goals ((simp only[w,seval,d]<;>rfl))
 ·rintro x t H e h;rcases l with _|p
  ·dsimp only at h a;obtain⟨rfl,k⟩:=h;cases a;simp only[w,seval,k]
  ·dsimp only at h a;obtain⟨rfl,m⟩:=h;cases a;simp only[aP,aV,bS,bV];exact m
def qp (l:Option (D×Row)) (d:List D):=di (fl (oL (eI .i64)) (dc (oL (eI .i64)))) (fun x:(List Int)×(List Int)=>rX x.1 x.2) (fun r:(List Int) =>.clean (.sl false false r.length (ae (eI .i64) r))) l d
def A4:Env:=(Am.ext bl 133 false fc)
def QD:bG prog A4:=(bG.none.add oX false)
def dY:=ai @w<|ai @nY<|@A4.eq_1
def FN:bK prog 141 qp:=bK.fh (mode := .clean) tok QD mixed func141 (by kernel_rfl) (fun _ _=>rfl) (fun _=>by kernel_rfl) fun⟨p0,p1⟩ r b=>by
 replace b:rX p0 p1=some r:=b;apply aF rfl ntmps141 results141;simp only[fj];unfold rX at b;simp only[dY,seval,-Int.reduceToNat];obtain⟨o1,P,b⟩:=ab b;refine lA 0 (fun s t H e=>match s with|(a,d)=>t 0=.sl false false a.length (ae (eI .i64) a)∧t 1=.sl false false d.length (ae (eI .i64) d)) (fun s=>s=o1) ?_ ?_
 ·rintro⟨a,d⟩ t H e B rfl;try dsimp only at b
  obtain⟨x2,Q,b⟩:=ab b;obtain⟨R,S,T,C,U⟩:=mk_one (eI .i64) Q;simp only[bT]at C;simp only[dY,seval,-Int.reduceToNat,B,R,S,T,C,U];obtain⟨V,D,b⟩:=ab b;refine ax (fun s t H e=>match s with|(E,g,m)=>∃l:Nat,t 0=.sl false false a.length (ae (eI .i64) a)∧t 1=.sl false false d.length (ae (eI .i64) d)∧t 5=.buf 5 l 1 0 (m).length∧t 6=.int .i64 E∧t 20=.sl false false a.length (ae (eI .i64) a)∧t 21=.int .i64 (a.length:Int)∧t 22=.int .i64 g∧H 5=some ⟨l,3,ae (eI .i64) m,false,true,false⟩) (fun o x t H e=>match o with|(f,h)=>x=.exit 0∧∃n:Nat,t 0=.sl false false a.length (ae (eI .i64) a)∧t 5=.buf 5 n 1 0 (h).length∧t 6=.int .i64 f∧H 5=some ⟨n,3,ae (eI .i64) h,false,true,false⟩) D ?_ ?_ ?_
  ·refine⟨e,?_⟩;and_intros<;>first|rfl|(simp only[dY,seval,-Int.reduceToNat,B]<;>rfl)
  ·rintro⟨E,g,m⟩ t H e ⟨l,A⟩ c b;simp only[qK]at b;simp only[dY,seval,-Int.reduceToNat,A];apply sp aj b<;>intro _ b
   ·obtain⟨aa,F,b⟩:=ab b;have i:=bk (eI .i64) F;simp only[bT]at i;simp only[dY,seval,-Int.reduceToNat,A,i];obtain⟨W,G,b⟩:=ab b;refine lA 0 (fun s t H e=>match s with|j=>∃k:Nat,t 0=.sl false false a.length (ae (eI .i64) a)∧t 1=.sl false false d.length (ae (eI .i64) d)∧t 5=.buf 5 k 1 0 (m).length∧t 6=.int .i64 j∧t 7=.int .i64 g∧t 20=.sl false false a.length (ae (eI .i64) a)∧t 21=.int .i64 (a.length:Int)∧t 22=.int .i64 g∧H 5=some ⟨k,3,ae (eI .i64) m,false,true,false⟩) (fun s=>s=W) ?_ ?_
    ·rintro j t H e ⟨k,I⟩ rfl;try dsimp only at b
     obtain⟨ad,p,b⟩:=ab b;have q:=bk (eI .i64) p;simp only[bT]at q;have J:=fN (eI .i64) (x':=kW .and .i64 j 1048575) (fo:=0) (cs:=[.int .i64 (kW .and .i64 j 1048575)]) p rfl (agG rfl);simp only[bT,Nat.add_zero]at J;have u:=J;simp only[putCells,List.length_cons,List.length_nil,afH]at u;obtain⟨ag,K,b⟩:=ab b;have X:=xT K;cases b;simp only[dY,seval,-Int.reduceToNat,i,I,q,u,X];apply eS;refine⟨k,?_⟩;and_intros<;>first|rfl|(simp only[dY,seval,-Int.reduceToNat,I]<;>rfl)
    ·clear b;have b:=G;simp only[dY,seval,-Int.reduceToNat];apply sp aj b<;>intro _ b
     ·obtain⟨ah,L,b⟩:=ab b;have v:=bk (eI .i64) L;simp only[bT]at v;cases b;simp only[dY,seval,-Int.reduceToNat,A,i,v];rw[au];refine⟨_,rfl,?_⟩;refine⟨l,?_⟩;and_intros<;>first|rfl|(simp only[dY,seval,-Int.reduceToNat,A]<;>rfl)
     ·cases b;simp only[dY,seval,-Int.reduceToNat];rw[au];refine⟨_,rfl,?_⟩;refine⟨l,?_⟩;and_intros<;>first|rfl|(simp only[dY,seval,-Int.reduceToNat,A]<;>rfl)
   ·cases b;simp only[dY,seval,-Int.reduceToNat];apply gC;refine⟨rfl,⟨l,?_,?_,?_,?_⟩⟩;all_goals ((simp only[dY,seval,-Int.reduceToNat,A]<;>rfl))
  ·rintro x t H e Z;rcases V with⟨f,h⟩;dsimp only at Z b;obtain⟨rfl,⟨n,Y⟩⟩:=Z;obtain⟨ai,w,b⟩:=ab b;have y:=bk (eI .i64) w;simp only[bT]at y;have M:=fN (eI .i64) (x':=f) (fo:=0) (cs:=[.int .i64 f]) w rfl (agG rfl);simp only[bT,Nat.add_zero]at M;have z:=M;simp only[putCells,List.length_cons,List.length_nil,afH]at z;have N:=nY (h.set ((a.length:Int)).toNat f);simp only[agW]at N;obtain⟨ak,O,b⟩:=ab b;cases b;simp only[dY,seval,-Int.reduceToNat,Y,y,z,N,O]
 ·clear b;have b:=P;simp only[dY,seval,-Int.reduceToNat];apply sp aj b<;>intro _ b
  ·cases b;simp only[dY,seval,-Int.reduceToNat];rw[au];refine⟨_,rfl,?_⟩;refine⟨?_,?_⟩;all_goals (rfl)
  ·cases b;simp only[dY,seval,-Int.reduceToNat];rw[au];refine⟨_,rfl,?_⟩;refine⟨?_,?_⟩;all_goals (rfl)
def nC (l:Option (D×Row)) (d:List D):=di (fl (oL (eI .i64)) (dc (oL (eI .i64)))) (fun x:(List Int)×(List Int)=>rY x.1 x.2) (fun r:(List Int) =>.clean (.sl false false r.length (ae (eI .i64) r))) l d
def A7:Env:=(Am.ext (Am.ext bl 104 false iP) 133 false fc)
def QG:bG prog A7:=((bG.none.add lN false).add oX false)
def gG:=ai @w<|ai @fH<|ai @Tz<|ai @fc.eq_1<|@A7.eq_1
def FQ:bK prog 142 nC:=bK.fh (mode := .clean) tok QG mixed func142 (by kernel_rfl) (fun _ _=>rfl) (fun _=>by kernel_rfl) fun⟨M,q⟩ r a=>by
 replace a:rY M q=some r:=a;apply aF rfl ntmps142 results142;simp only[fj];unfold rY at a;obtain⟨K,E,a⟩:=ab a;simp only[gG,seval,-Int.reduceToNat,E];obtain⟨F,u,a⟩:=ab a;refine ax (fun s t H e=>match s with|(v,d,i)=>∃h:Nat,t 1=.sl false false q.length (ae (eI .i64) q)∧t 5=.buf 5 h 1 0 (i).length∧t 6=.int .i64 v∧t 12=.int .i64 ((K).length:Int)∧t 13=.int .i64 d∧H 5=some ⟨h,3,ae (eI .i64) i,false,true,false⟩) (fun o x t H e=>match o with|j=>x=.exit 0∧∃k:Nat,t 5=.buf 5 k 1 0 (j).length∧H 5=some ⟨k,3,ae (eI .i64) j,false,true,false⟩) u ?_ ?_ ?_
 ·refine⟨1,?_,?_,?_,?_,?_,?_⟩;all_goals (rfl)
 ·rintro⟨v,d,i⟩ t H e ⟨h,p⟩ c a;simp only[ur]at a;simp only[gG,seval,-Int.reduceToNat,p];apply sp aj a<;>intro _ a
  ·obtain⟨N,l,a⟩:=ab a;have b:=bk (eI .i64) l;simp only[bT]at b;simp only[gG,seval,-Int.reduceToNat,p,b];obtain⟨G,w,a⟩:=ab a;refine lA 0 (fun s t H e=>match s with|f=>∃g:Nat,t 1=.sl false false q.length (ae (eI .i64) q)∧t 5=.buf 5 g 1 0 (i).length∧t 7=.int .i64 d∧t 8=.int .i64 f∧t 12=.int .i64 ((K).length:Int)∧t 13=.int .i64 d∧H 5=some ⟨g,3,ae (eI .i64) i,false,true,false⟩) (fun s=>s=G) ?_ ?_
   ·rintro f t H e ⟨g,y⟩ rfl;try dsimp only at a
    obtain⟨O,A,a⟩:=ab a;have I:=xT A;have b:=bk (eI .i64) l;simp only[bT]at b;have B:=fN (eI .i64) (x':=kW .and .i64 f 1048575) (fo:=0) (cs:=[.int .i64 (kW .and .i64 f 1048575)]) l rfl (agG rfl);simp only[bT,Nat.add_zero]at B;have m:=B;simp only[putCells,List.length_cons,List.length_nil,afH]at m;cases a;simp only[gG,seval,-Int.reduceToNat,y,I,b,m];apply eS;refine⟨g,?_⟩;and_intros<;>first|rfl|(simp only[gG,seval,-Int.reduceToNat,y]<;>rfl)
   ·clear a;have a:=w;simp only[gG,seval,-Int.reduceToNat];apply sp aj a<;>intro _ a
    ·obtain⟨P,C,a⟩:=ab a;have n:=bk (eI .i64) C;simp only[bT]at n;cases a;simp only[gG,seval,-Int.reduceToNat,p,b,n];rw[au];refine⟨_,rfl,?_⟩;refine⟨h,?_⟩;and_intros<;>first|rfl|(simp only[gG,seval,-Int.reduceToNat,p]<;>rfl)
    ·cases a;simp only[gG,seval,-Int.reduceToNat];rw[au];refine⟨_,rfl,?_⟩;refine⟨h,?_⟩;and_intros<;>first|rfl|(simp only[gG,seval,-Int.reduceToNat,p]<;>rfl)
  ·cases a;simp only[gG,seval,-Int.reduceToNat];apply gC;refine⟨rfl,⟨h,?_,?_⟩⟩;all_goals ((simp only[gG,seval,-Int.reduceToNat,p]<;>rfl))
 ·rintro x t H e L;obtain⟨j,rfl⟩:∃z,z=F:=⟨_,rfl⟩;dsimp only at L a;obtain⟨rfl,⟨k,J⟩⟩:=L;obtain⟨Q,D,a⟩:=ab a;cases a;simp only[gG,seval,-Int.reduceToNat,J,D]
def xa (l:Option (D×Row)) (d:List D):=di (fl (bo dN) (dc (bo dN))) (fun x:aG×aG=>xp x.1 x.2) (fun r:aG×Int =>.clean (.tup [.agg [.int .i64 r.1.ak,.sl false false r.1.aa.length (ae (eI .i64) r.1.aa)],.int .i64 r.2])) l d
def OP (a:(List Int)):zC none [.sl false false a.length (ae (eI .i64) a)]=(vO a).map fun r:Int=>(.clean (.int .i64 r),none):=cB _ _ _ (a)
def AY:Env:=(Am.ext (Am.ext (Am.ext (Am.ext (Am.ext (Am.ext (Am.ext bl 63 false zC) 67 false bL) 103 false ln) 106 false cr) 131 false eQ) 141 false qp) 142 false nC)
def Qx:bG prog AY:=(((((((bG.none.add Je false).add gi false).add rq false).add jG false).add ru false).add FN false).add FQ false)
def jd:=ai @w<|ai @tO<|ai @bL.eq_1<|ai @fA<|ai @Dx<|ai @cr.eq_1<|ai @CM<|ai @eQ.eq_1<|ai @qp.eq_1<|ai @nC.eq_1<|@AY.eq_1
def Q6:bK prog 123 xa:=bK.fh (mode := .clean) tok Qx mixed func123 (by kernel_rfl) (fun _ _=>rfl) (fun _=>by kernel_rfl) fun⟨h,i⟩ r a=>by
 replace a:xp h i=some r:=a;apply aF rfl ntmps123 results123;simp only[fj];unfold xp at a;obtain⟨P,w,a⟩:=ab a;simp only[jd,seval,w];obtain⟨D,x,a⟩:=ab a;refine bq 0 (fun s t H e=>match s with|c=>∃d:Nat,∃f:Nat,∃g:Nat,t 2=.ptr 2 d 0∧t 3=.ptr 3 f 0∧t 4=.ptr 4 g 0∧t 13=.bool c∧H 2=some ⟨d,40,[.int .i64 h.ak,.sl false false h.aa.length (ae (eI .i64) h.aa)],false,false,false⟩∧H 3=some ⟨f,40,[.int .i64 i.ak,.sl false false i.aa.length (ae (eI .i64) i.aa)],false,false,false⟩∧H 4=some ⟨g,40,[.int .i64 0,.sl true true 0 []],false,false,false⟩) (fun s=>s=D) ?_ ?_
 ·rintro c t H e ⟨d,f,g,b⟩ rfl;try dsimp only at a
  simp only[jd,seval,b];apply sp aj a<;>intro _ a
  ·have B:=fA false 0 ([]);simp only[bT]at B;obtain⟨Q,y,a⟩:=ab a;cases a;simp only[jd,seval,b,B,y]
  ·simp only[jd,seval,b];apply sp aj a<;>intro _ a
   ·have C:=OP ([h.ak,i.ak]);simp only[bP,bT,List.length_cons,afH,Nat.reduceAdd]at C;obtain⟨R,z,a⟩:=ab a;obtain⟨S,A,a⟩:=ab a;obtain⟨E,j,a⟩:=ab a;obtain⟨F,k,a⟩:=ab a;simp only[jd,seval,b,C,z,A,j,k];refine bu (by kernel_rfl) ?_;cases a;simp only[seval]
   ·obtain⟨G,l,a⟩:=ab a;simp only[jd,seval,b,l];apply sp aj a<;>intro _ a
    ·obtain⟨I,m,a⟩:=ab a;obtain⟨J,n,a⟩:=ab a;obtain⟨K,o,a⟩:=ab a;simp only[jd,seval,b,m,n,o];refine bu (by kernel_rfl) ?_;cases a;simp only[seval]
    ·obtain⟨L,p,a⟩:=ab a;obtain⟨M,q,a⟩:=ab a;obtain⟨N,u,a⟩:=ab a;simp only[jd,seval,b,p,q,u];refine bu (by kernel_rfl) ?_;cases a;simp only[seval]
 ·clear a;have a:=x;simp only[jd,seval];apply sp aO a<;>intro _ a
  ·cases a;simp only[jd,seval];rw[au];refine⟨_,rfl,?_⟩;refine⟨0,0,0,?_,?_,?_,?_,?_,?_,?_⟩;all_goals (rfl)
  ·obtain⟨O,v,a⟩:=ab a;cases a;simp only[jd,seval,v];rw[au];refine⟨_,rfl,?_⟩;refine⟨0,0,0,?_,?_,?_,?_,?_,?_,?_⟩;all_goals (rfl)
def nA (l:Option (D×Row)) (d:List D):=di (dc (bo dN)) (fun x:aG=>pV x) (fun r:aG =>.clean (.agg [.int .i64 r.ak,.sl false false r.aa.length (ae (eI .i64) r.aa)])) l d
def A3:Env:=(Am.ext (Am.ext (Am.ext bl 67 false bL) 104 false iP) 106 false cr)
def QC:bG prog A3:=(((bG.none.add gi false).add lN false).add jG false)
def BS:=ai @w<|ai @tO<|ai @bL.eq_1<|ai @fH<|ai @Dx<|ai @cr.eq_1<|@A3.eq_1
def FM:bK prog 108 nA:=bK.fh (mode := .clean) tok QC mixed func108 (by kernel_rfl) (fun _ _=>rfl) (fun _=>by kernel_rfl) fun e r a=>by
 replace a:pV e=some r:=a;apply aF rfl ntmps108 results108;simp only[fj];unfold pV at a;obtain⟨f,b,a⟩:=ab a;simp only[BS,seval,b];apply sp aj a<;>intro _ a
 ·cases a;simp only[BS,seval]
 ·obtain⟨g,c,a⟩:=ab a;obtain⟨h,d,a⟩:=ab a;simp only[BS,seval,c,d];refine bu (by kernel_rfl) ?_;cases a;simp only[seval]
def xb (l:Option (D×Row)) (d:List D):=di (fl (bo dN) (dc (bo dN))) (fun x:aG×aG=>pU x.1 x.2) (fun r:aG×aG×Int =>.clean (.tup [.agg [.int .i64 r.1.ak,.sl false false r.1.aa.length (ae (eI .i64) r.1.aa)],.agg [.int .i64 r.2.1.ak,.sl false false r.2.1.aa.length (ae (eI .i64) r.2.1.aa)],.int .i64 r.2.2])) l d
def UP (a:(List Int)) (b:(List Int)):qp none [.sl false false a.length (ae (eI .i64) a),.sl false false b.length (ae (eI .i64) b)]=(rX a b).map fun r:(List Int)=>(.clean (.sl false false r.length (ae (eI .i64) r)),none):=cB _ _ _ (a,b)
def AZ:Env:=(Am.ext (Am.ext (Am.ext (Am.ext (Am.ext bl 67 false bL) 105 false nB) 106 false cr) 141 false qp) 142 false nC)
def Qy:bG prog AZ:=(((((bG.none.add gi false).add FO false).add jG false).add FN false).add FQ false)
def eH:=ai @w<|ai @tO<|ai @bL.eq_1<|ai @CM<|ai @nB.eq_1<|ai @Dx<|ai @cr.eq_1<|ai @nC.eq_1<|@AZ.eq_1
def Q7:bK prog 121 xb:=bK.fh (mode := .clean) tok Qy mixed func121 (by kernel_rfl) (fun _ _=>rfl) (fun _=>by kernel_rfl) fun⟨n,o⟩ r a=>by
 replace a:pU n o=some r:=a;apply aF rfl ntmps121 results121;simp only[fj];unfold pU at a;obtain⟨P,A,a⟩:=ab a;simp only[eH,seval,A];obtain⟨G,B,a⟩:=ab a;refine bq 0 (fun s t H e=>match s with|m=>∃b:Nat,∃c:Nat,∃d:Nat,∃f:Nat,t 2=.ptr 2 b 0∧t 3=.ptr 3 c 0∧t 4=.ptr 4 d 0∧t 5=.ptr 5 f 0∧t 9=.bool m∧H 2=some ⟨b,40,[.int .i64 n.ak,.sl false false n.aa.length (ae (eI .i64) n.aa)],false,false,false⟩∧H 3=some ⟨c,40,[.int .i64 o.ak,.sl false false o.aa.length (ae (eI .i64) o.aa)],false,false,false⟩∧H 4=some ⟨d,40,[.int .i64 0,.sl true true 0 []],false,false,false⟩∧H 5=some ⟨f,40,[.int .i64 0,.sl true true 0 []],false,false,false⟩) (fun s=>s=G) ?_ ?_
 ·rintro m t H e ⟨b,c,d,f,g⟩ rfl;try dsimp only at a
  simp only[eH,seval,g];apply sp aj a<;>intro _ a
  ·cases a;simp only[eH,seval,g]
  ·simp only[eH,seval,g];apply sp aj a<;>intro _ a
   ·cases a;simp only[eH,seval,g]
   ·obtain⟨q,C,a⟩:=ab a;simp only[eH,seval,g,C];obtain⟨I,D,a⟩:=ab a;refine bq 0 (fun s t H e=>match s with|h=>∃i:Nat,∃j:Nat,∃k:Nat,∃l:Nat,t 2=.ptr 2 i 0∧t 3=.ptr 3 j 0∧t 4=.ptr 4 k 0∧t 5=.ptr 5 l 0∧t 7=.sl false false q.1.length (ae (eI .i64) q.1)∧t 8=.sl false false q.2.length (ae (eI .i64) q.2)∧t 44=.bool h∧H 2=some ⟨i,40,[.int .i64 n.ak,.sl false false n.aa.length (ae (eI .i64) n.aa)],false,false,false⟩∧H 3=some ⟨j,40,[.int .i64 o.ak,.sl false false o.aa.length (ae (eI .i64) o.aa)],false,false,false⟩∧H 4=some ⟨k,40,[.int .i64 0,.sl true true 0 []],false,false,false⟩∧H 5=some ⟨l,40,[.int .i64 0,.sl true true 0 []],false,false,false⟩) (fun s=>s=I) ?_ ?_
    ·rintro h t H e ⟨i,j,k,l,p⟩ rfl;try dsimp only at a
     simp only[eH,seval,p];apply sp aj a<;>intro _ a
     ·have F:=UP q.1 ([1]);simp only[bP,bT,List.length_cons,afH]at F;obtain⟨Q,E,a⟩:=ab a;obtain⟨J,u,a⟩:=ab a;obtain⟨K,v,a⟩:=ab a;obtain⟨L,w,a⟩:=ab a;simp only[eH,seval,p,F,E,u,v,w];refine bu (by kernel_rfl) ?_;cases a;simp only[seval]
     ·obtain⟨M,x,a⟩:=ab a;obtain⟨N,y,a⟩:=ab a;simp only[eH,seval,p,x,y];refine bu (by kernel_rfl) ?_;cases a;simp only[seval]
    ·clear a;have a:=D;simp only[eH,seval];apply sp dH a<;>intro _ a
     ·cases a;simp only[eH,seval];rw[au];refine⟨_,rfl,?_⟩;refine⟨b,c,d,f,?_⟩;and_intros<;>first|rfl|(simp only[eH,seval,g]<;>rfl)
     ·cases a;simp only[eH,seval];rw[au];refine⟨_,rfl,?_⟩;refine⟨b,c,d,f,?_⟩;and_intros<;>first|rfl|(simp only[eH,seval,g]<;>rfl)
 ·clear a;have a:=B;simp only[eH,seval];apply sp aO a<;>intro _ a
  ·cases a;simp only[eH,seval];rw[au];refine⟨_,rfl,?_⟩;refine⟨0,0,0,0,?_,?_,?_,?_,?_,?_,?_,?_,?_⟩;all_goals (rfl)
  ·obtain⟨O,z,a⟩:=ab a;cases a;simp only[eH,seval,z];rw[au];refine⟨_,rfl,?_⟩;refine⟨0,0,0,0,?_,?_,?_,?_,?_,?_,?_,?_,?_⟩;all_goals (rfl)
def il (l:Option (D×Row)) (d:List D):=di (fl (bo dN) (dc (bo dN))) (fun x:aG×aG=>oR x.1 x.2) (fun r:aw×Int =>.clean (.tup [.agg [.int .i64 r.1.bR.ak,.sl false false r.1.bR.aa.length (ae (eI .i64) r.1.bR.aa),.int .i64 r.1.bN.ak,.sl false false r.1.bN.aa.length (ae (eI .i64) r.1.bN.aa)],.int .i64 r.2])) l d
def yR:Env:=(Am.ext (Am.ext (Am.ext (Am.ext bl 67 false bL) 68 false nz) 108 false nA) 121 false xb)
def Nh:bG prog yR:=((((bG.none.add gi false).add FL false).add FM false).add Q7 false)
def eC:=ai @w<|ai @tO<|ai @bL.eq_1<|ai @xS<|ai @nz.eq_1<|ai @nA.eq_1<|ai @xb.eq_1<|@yR.eq_1
def wJ:bK prog 87 il:=bK.fh (mode := .clean) tok Nh mixed func87 (by kernel_rfl) (fun _ _=>rfl) (fun _=>by kernel_rfl) fun⟨u,v⟩ r a=>by
 replace a:oR u v=some r:=a;apply aF rfl ntmps87 results87;simp only[fj];unfold oR at a;obtain⟨J,w,a⟩:=ab a;simp only[eC,seval,w];obtain⟨D,x,a⟩:=ab a;refine bq 0 (fun s t H e=>match s with|k=>∃d:Nat,∃f:Nat,∃g:Nat,t 2=.ptr 2 d 0∧t 3=.ptr 3 f 0∧t 4=.ptr 4 g 0∧t 14=.bool k∧H 2=some ⟨d,40,[.int .i64 u.ak,.sl false false u.aa.length (ae (eI .i64) u.aa)],false,false,false⟩∧H 3=some ⟨f,40,[.int .i64 v.ak,.sl false false v.aa.length (ae (eI .i64) v.aa)],false,false,false⟩∧H 4=some ⟨g,42,[.int .i64 0,.sl true true 0 [],.int .i64 0,.sl true true 0 []],false,false,false⟩) (fun s=>s=D) ?_ ?_
 ·rintro k t H e ⟨d,f,g,h⟩ rfl;try dsimp only at a
  simp only[eC,seval,h];apply sp aj a<;>intro _ a
  ·cases a;simp only[eC,seval,h]
  ·simp only[eC,seval,h];apply sp aj a<;>intro _ a
   ·cases a;simp only[eC,seval,h]
   ·simp only[eC,seval,h];obtain⟨E,y,a⟩:=ab a;refine lA 0 (fun s t H e=>match s with|(i,b,j,c)=>∃l:Nat,∃m:Nat,∃n:Nat,t 2=.ptr 2 l 0∧t 3=.ptr 3 m 0∧t 4=.ptr 4 n 0∧H 2=some ⟨l,40,[.int .i64 i,.sl false false b.length (ae (eI .i64) b)],false,false,false⟩∧H 3=some ⟨m,40,[.int .i64 j,.sl false false c.length (ae (eI .i64) c)],false,false,false⟩∧H 4=some ⟨n,42,[.int .i64 0,.sl true true 0 [],.int .i64 0,.sl true true 0 []],false,false,false⟩) (fun s=>s=E) ?_ ?_
    ·rintro⟨i,b,j,c⟩ t H e ⟨l,m,n,z⟩ rfl;try dsimp only at a
     obtain⟨K,A,a⟩:=ab a;obtain⟨L,B,a⟩:=ab a;obtain⟨M,C,a⟩:=ab a;cases a;simp only[eC,seval,z,A,B,C]
    ·clear a;have a:=y;simp only[eC,seval];apply sp aj a<;>intro _ a
     ·obtain⟨F,o,a⟩:=ab a;obtain⟨G,p,a⟩:=ab a;simp only[eC,seval,h,o,p];refine bu (by kernel_rfl) ?_;cases a;rw[au];refine⟨_,rfl,?_⟩;refine⟨d,f,g,?_⟩;and_intros<;>first|rfl|(simp only[eC,seval,h]<;>rfl)
     ·cases a;simp only[eC,seval];rw[au];refine⟨_,rfl,?_⟩;refine⟨d,f,g,?_,?_,?_,?_,?_,?_⟩;all_goals ((simp only[eC,seval,h]<;>rfl))
 ·clear a;have a:=x;simp only[eC,seval];apply sp aO a<;>intro _ a
  ·cases a;simp only[eC,seval];rw[au];refine⟨_,rfl,?_⟩;refine⟨0,0,0,?_,?_,?_,?_,?_,?_,?_⟩;all_goals (rfl)
  ·obtain⟨I,q,a⟩:=ab a;cases a;simp only[eC,seval,q];rw[au];refine⟨_,rfl,?_⟩;refine⟨0,0,0,?_,?_,?_,?_,?_,?_,?_⟩;all_goals (rfl)
def lQ (l:Option (D×Row)) (d:List D):=di (fl (bo aD) (dc (bo aD))) (fun x:aw×aw=>q8 x.1 x.2) (fun r:aw×Int =>.clean (.tup [.agg [.int .i64 r.1.bR.ak,.sl false false r.1.bR.aa.length (ae (eI .i64) r.1.bR.aa),.int .i64 r.1.bN.ak,.sl false false r.1.bN.aa.length (ae (eI .i64) r.1.bN.aa)],.int .i64 r.2])) l d
def yO:Env:=(Am.ext (Am.ext (Am.ext (Am.ext bl 39 false b6) 87 false il) 89 false fu) 123 false xa)
def Nd:bG prog yO:=((((bG.none.add iF false).add wJ false).add s4 false).add Q6 false)
def kl:=ai @w<|ai @s7<|ai @b6.eq_1<|ai @xS<|ai @il.eq_1<|ai @fu.eq_1<|ai @xa.eq_1<|@yO.eq_1
def Cy:bK prog 90 lQ:=bK.fh (mode := .clean) tok Nd mixed func90 (by kernel_rfl) (fun _ _=>rfl) (fun _=>by kernel_rfl) fun⟨h,i⟩ r a=>by
 replace a:q8 h i=some r:=a;apply aF rfl ntmps90 results90;simp only[fj];unfold q8 at a;obtain⟨w,k,a⟩:=ab a;simp only[kl,seval,k];obtain⟨u,l,a⟩:=ab a;refine bq 0 (fun s t H e=>match s with|b=>∃c:Nat,∃d:Nat,∃f:Nat,t 2=.ptr 2 c 0∧t 3=.ptr 3 d 0∧t 4=.ptr 4 f 0∧t 15=.bool b∧H 2=some ⟨c,42,[.int .i64 h.bR.ak,.sl false false h.bR.aa.length (ae (eI .i64) h.bR.aa),.int .i64 h.bN.ak,.sl false false h.bN.aa.length (ae (eI .i64) h.bN.aa)],false,false,false⟩∧H 3=some ⟨d,42,[.int .i64 i.bR.ak,.sl false false i.bR.aa.length (ae (eI .i64) i.bR.aa),.int .i64 i.bN.ak,.sl false false i.bN.aa.length (ae (eI .i64) i.bN.aa)],false,false,false⟩∧H 4=some ⟨f,42,[.int .i64 0,.sl true true 0 [],.int .i64 0,.sl true true 0 []],false,false,false⟩) (fun s=>s=u) ?_ ?_
 ·rintro b t H e ⟨c,d,f,g⟩ rfl;try dsimp only at a
  simp only[kl,seval,g];apply sp aj a<;>intro _ a
  ·cases a;simp only[kl,seval,g]
  ·obtain⟨x,m,a⟩:=ab a;obtain⟨y,n,a⟩:=ab a;obtain⟨z,o,a⟩:=ab a;simp only[kl,seval,g,m,n,o];refine bu (by kernel_rfl) ?_;obtain⟨A,p,a⟩:=ab a;obtain⟨B,q,a⟩:=ab a;simp only[kl,seval,g,p,q];refine bu (by kernel_rfl) ?_;cases a;simp only[seval]
 ·clear a;have a:=l;simp only[kl,seval];apply sp aO a<;>intro _ a
  ·cases a;simp only[kl,seval];rw[au];refine⟨_,rfl,?_⟩;refine⟨0,0,0,?_,?_,?_,?_,?_,?_,?_⟩;all_goals (rfl)
  ·obtain⟨v,j,a⟩:=ab a;cases a;simp only[kl,seval,j];rw[au];refine⟨_,rfl,?_⟩;refine⟨0,0,0,?_,?_,?_,?_,?_,?_,?_⟩;all_goals (rfl)
def nD (l:Option (D×Row)) (d:List D):=di (fl (bo aD) (dc (bo aD))) (fun x:aw×aw=>p8 x.1 x.2) (fun r:aw =>.clean (.agg [.int .i64 r.bR.ak,.sl false false r.bR.aa.length (ae (eI .i64) r.bR.aa),.int .i64 r.bN.ak,.sl false false r.bN.aa.length (ae (eI .i64) r.bN.aa)])) l d
def A9:Env:=(Am.ext bl 90 false lQ)
def QI:bG prog A9:=(bG.none.add Cy false)
def Vm:=ai @w<|ai @lz<|ai @lQ.eq_1<|@A9.eq_1
def FV:bK prog 60 nD:=bK.fh (mode := .clean) tok QI mixed func60 (by kernel_rfl) (fun _ _=>rfl) (fun _=>by kernel_rfl) fun⟨c,d⟩ r a=>by
 replace a:p8 c d=some r:=a;apply aF rfl ntmps60 results60;simp only[fj];unfold p8 at a;obtain⟨e,b,a⟩:=ab a;cases a;simp only[Vm,seval,b]
def ou (l:Option (D×Row)) (d:List D):=di (fl (bo dN) (dc (bo dN))) (fun x:aG×aG=>mc x.1 x.2) (fun r:Int =>.clean (.int .i64 r)) l d
def sO:Env:=(Am.ext (Am.ext (Am.ext bl 64 false eR) 67 false bL) 131 false eQ)
def ET:bG prog sO:=(((bG.none.add rv false).add gi false).add ru false)
def fB:=ai @w<|ai @TA<|ai @eR.eq_1<|ai @tO<|ai @bL.eq_1<|ai @CM<|ai @eQ.eq_1<|@sO.eq_1
def FK:bK prog 138 ou:=bK.fh (mode := .clean) tok ET mixed func138 (by kernel_rfl) (fun _ _=>rfl) (fun _=>by kernel_rfl) fun⟨g,h⟩ r a=>by
 replace a:mc g h=some r:=a;apply aF rfl ntmps138 results138;simp only[fj];unfold mc at a;obtain⟨o,i,a⟩:=ab a;simp only[fB,seval,i];obtain⟨n,j,a⟩:=ab a;refine bq 0 (fun s t H e=>match s with|b=>∃c:Nat,∃d:Nat,t 2=.ptr 2 c 0∧t 3=.ptr 3 d 0∧t 12=.bool b∧H 2=some ⟨c,40,[.int .i64 g.ak,.sl false false g.aa.length (ae (eI .i64) g.aa)],false,false,false⟩∧H 3=some ⟨d,40,[.int .i64 h.ak,.sl false false h.aa.length (ae (eI .i64) h.aa)],false,false,false⟩) (fun s=>s=n) ?_ ?_
 ·rintro b t H e ⟨c,d,f⟩ rfl;try dsimp only at a
  simp only[fB,seval,f];apply sp aj a<;>intro _ a
  ·cases a;simp only[fB,seval]
  ·simp only[fB,seval,f];apply sp aj a<;>intro _ a
   ·obtain⟨p,k,a⟩:=ab a;cases a;simp only[fB,seval,f,k]
   ·obtain⟨q,l,a⟩:=ab a;simp only[fB,seval,f,l];refine bu (by kernel_rfl) ?_;cases a;simp only[seval]
 ·clear a;have a:=j;simp only[fB,seval];apply sp aO a<;>intro _ a
  ·cases a;simp only[fB,seval];rw[au];refine⟨_,rfl,?_⟩;refine⟨0,0,?_,?_,?_,?_,?_⟩;all_goals (rfl)
  ·obtain⟨u,m,a⟩:=ab a;cases a;simp only[fB,seval,m];rw[au];refine⟨_,rfl,?_⟩;refine⟨0,0,?_,?_,?_,?_,?_⟩;all_goals (rfl)
def mC (l:Option (D×Row)) (d:List D):=di (fl (bo aD) (dc (bo aD))) (fun x:aw×aw=>jl x.1 x.2) (fun r:Int =>.clean (.int .i64 r)) l d
def q9:Env:=(Am.ext (Am.ext (Am.ext bl 39 false b6) 89 false fu) 138 false ou)
def C3:bG prog q9:=(((bG.none.add iF false).add s4 false).add FK false)
def gQ:=ai @w<|ai @s7<|ai @b6.eq_1<|ai @xS<|ai @fu.eq_1<|ai @ou.eq_1<|@q9.eq_1
def C8:bK prog 116 mC:=bK.fh (mode := .clean) tok C3 mixed func116 (by kernel_rfl) (fun _ _=>rfl) (fun _=>by kernel_rfl) fun⟨f,g⟩ r a=>by
 replace a:jl f g=some r:=a;apply aF rfl ntmps116 results116;simp only[fj];unfold jl at a;obtain⟨p,i,a⟩:=ab a;simp only[gQ,seval,i];obtain⟨o,j,a⟩:=ab a;refine bq 0 (fun s t H e=>match s with|b=>∃c:Nat,∃d:Nat,t 2=.ptr 2 c 0∧t 3=.ptr 3 d 0∧t 12=.bool b∧H 2=some ⟨c,42,[.int .i64 f.bR.ak,.sl false false f.bR.aa.length (ae (eI .i64) f.bR.aa),.int .i64 f.bN.ak,.sl false false f.bN.aa.length (ae (eI .i64) f.bN.aa)],false,false,false⟩∧H 3=some ⟨d,42,[.int .i64 g.bR.ak,.sl false false g.bR.aa.length (ae (eI .i64) g.bR.aa),.int .i64 g.bN.ak,.sl false false g.bN.aa.length (ae (eI .i64) g.bN.aa)],false,false,false⟩) (fun s=>s=o) ?_ ?_
 ·rintro b t H e ⟨c,d,h⟩ rfl;try dsimp only at a
  simp only[gQ,seval,h];apply sp aj a<;>intro _ a
  ·cases a;simp only[gQ,seval]
  ·obtain⟨q,k,a⟩:=ab a;obtain⟨u,l,a⟩:=ab a;obtain⟨v,m,a⟩:=ab a;simp only[gQ,seval,h,k,l,m];refine bu (by kernel_rfl) ?_;cases a;simp only[seval]
 ·clear a;have a:=j;simp only[gQ,seval];apply sp aO a<;>intro _ a
  ·cases a;simp only[gQ,seval];rw[au];refine⟨_,rfl,?_⟩;refine⟨0,0,?_,?_,?_,?_,?_⟩;all_goals (rfl)
  ·obtain⟨w,n,a⟩:=ab a;cases a;simp only[gQ,seval,n];rw[au];refine⟨_,rfl,?_⟩;refine⟨0,0,?_,?_,?_,?_,?_⟩;all_goals (rfl)
def rS (l:Option (D×Row)) (d:List D):=di (dc (oL aD)) (fun x:(List aw)=>qw x) (fun r:Bool =>.clean (.bool r)) l d
def acP {β:Type} {F:(List aw)->Option β} {R:β->RK} (a:(List aw)):di (dc (oL aD)) F R none [.sl false false a.length (ae aD a)]=(F (a)).map fun r=>(R r,none):=cB _ _ _ (a)
def wm:Env:=(Am.ext (Am.ext (Am.ext (Am.ext (Am.ext bl 39 false b6) 40 false dC) 60 false nD) 71 false lR) 116 false mC)
def KA:bG prog wm:=(((((bG.none.add iF false).add mS false).add FV false).add Cz false).add C8 false)
def eJ:=ai @w<|ai @s7<|ai @b6.eq_1<|ai @dC.eq_1<|ai @lz<|ai @nD.eq_1<|ai @zA<|ai @lR.eq_1<|ai @mC.eq_1<|@wm.eq_1
def KX:bK prog 80 rS:=bK.fh (mode := .clean) tok KA mixed func80 (by kernel_rfl) (fun _ _=>rfl) (fun _=>by kernel_rfl) fun B r a=>by
 replace a:qw B=some r:=a;apply aF rfl ntmps80 results80;simp only[fj];unfold qw at a;obtain⟨P,D,a⟩:=ab a;simp only[eJ,seval,D];obtain⟨G,E,a⟩:=ab a;refine ax (fun s t H e=>match s with|(p,j,f,k,g)=>∃l:Nat,t 3=.ptr 3 l 0∧t 7=.sl false false B.length (ae aD B)∧t 8=.int .i64 (B.length:Int)∧t 9=.int .i64 p∧H 3=some ⟨l,42,[.int .i64 j,.sl false false f.length (ae (eI .i64) f),.int .i64 k,.sl false false g.length (ae (eI .i64) g)],false,false,false⟩) (fun o x t H e=>match o with|(.inl (h,b,i,d))=>x=.exit 0∧∃m:Nat,t 3=.ptr 3 m 0∧H 3=some ⟨m,42,[.int .i64 h,.sl false false b.length (ae (eI .i64) b),.int .i64 i,.sl false false d.length (ae (eI .i64) d)],false,false,false⟩|(.inr r)=>x=.ret∧eB .clean tab none [.tmp 2] ⟨t,EH H,e⟩=some (.clean (.bool r),none)) E ?_ ?_ ?_
 ·refine⟨1,?_,?_,?_,?_,?_⟩;all_goals (rfl)
 ·rintro⟨p,j,f,k,g⟩ t H e ⟨l,q⟩ c a;simp only[p9]at a;simp only[eJ,seval,q];apply sp aj a<;>intro _ a
  ·obtain⟨I,u,a⟩:=ab a;have n:=bk aD u;simp only[bT]at n;obtain⟨J,v,a⟩:=ab a;simp only[eJ,seval,q,n,v];apply sp aO a<;>intro _ a
   ·cases a;simp only[eJ,seval];refine lk ⟨rfl,?_⟩;simp only[eJ,seval]
   ·obtain⟨K,w,a⟩:=ab a;simp only[eJ,seval,w];apply sp aj a<;>intro _ a
    ·cases a;simp only[eJ,seval];refine lk ⟨rfl,?_⟩;simp only[eJ,seval]
    ·obtain⟨L,y,a⟩:=ab a;cases a;simp only[eJ,seval,q,y];apply eS;refine⟨l,?_⟩;and_intros<;>first|rfl|(simp only[eJ,seval,q]<;>rfl)
  ·cases a;simp only[eJ,seval];apply gC;refine⟨rfl,⟨l,?_,?_⟩⟩;all_goals ((simp only[eJ,seval,q]<;>rfl))
 ·rintro x t H e C;rcases G with⟨h,b,i,d⟩|Q
  ·dsimp only at C a;obtain⟨rfl,⟨m,F⟩⟩:=C;obtain⟨M,z,a⟩:=ab a;obtain⟨N,A,a⟩:=ab a;simp only[eJ,seval,F,z,A];refine bu (by kernel_rfl) ?_;cases a;simp only[seval]
  ·dsimp only at C a;obtain⟨rfl,O⟩:=C;cases a;simp only[aP,aV,bS,bV];exact O
def lD (l:Option (D×Row)) (d:List D):=di (dc (bo qO)) (fun x:cJ=>jF x) (fun r:Bool =>.clean (.bool r)) l d
def UW {β:Type} {F:cJ->Option β} {R:β->RK} (a:(List fK)) (b:(List uf)) (c:(List (List aw))):di (dc (bo qO)) F R none [.agg [.sl false false a.length (ae aR a),.sl false false b.length (ae b8 b),.sl false false c.length (ae (hZ aD) c)]]=(F ((cJ.mk a b c))).map fun r=>(R r,none):=cB _ _ _ ((cJ.mk a b c))
def pD:Env:=(Am.ext (Am.ext bl 27 false ct) 80 false rS)
def Bq:bG prog pD:=((bG.none.add jH false).add KX false)
def aH:=ai @w<|ai @tH<|ai @ct.eq_1<|ai @acP<|ai @rS.eq_1<|@pD.eq_1
def BA:bK prog 49 lD:=bK.fh (mode := .clean) tok Bq mixed func49 (by kernel_rfl) (fun _ _=>rfl) (fun _=>by kernel_rfl) fun b r a=>by
 replace a:jF b=some r:=a;apply aF rfl ntmps49 results49;simp only[fj];unfold jF at a;simp only[aH,seval];obtain⟨o1,ao,a⟩:=ab a;refine bq 0 (fun s t H e=>match s with|l=>∃g:Nat,t 1=.ptr 1 g 0∧t 27=.bool l∧H 1=some ⟨g,57,[.sl false false b.ah.length (ae aR b.ah),.sl false false b.aB.length (ae b8 b.aB),.sl false false b.av.length (ae (hZ aD) b.av)],false,false,false⟩) (fun s=>s=o1) ?_ ?_
 ·rintro l t H e ⟨g,N⟩ rfl;try dsimp only at a
  simp only[aH,seval,N];apply sp aj a<;>intro _ a
  ·cases a;simp only[aH,seval]
  ·simp only[aH,seval,N];obtain⟨aq,Q,a⟩:=ab a;refine ax (fun s t H e=>match s with|D=>∃m:Nat,t 1=.ptr 1 m 0∧t 29=.sl false false b.aB.length (ae b8 b.aB)∧t 30=.int .i64 (b.aB.length:Int)∧t 31=.int .i64 D∧H 1=some ⟨m,57,[.sl false false b.ah.length (ae aR b.ah),.sl false false b.aB.length (ae b8 b.aB),.sl false false b.av.length (ae (hZ aD) b.av)],false,false,false⟩) (fun o x t H e=>match o with|(.inl _)=>x=.exit 0∧∃h:Nat,t 1=.ptr 1 h 0∧H 1=some ⟨h,57,[.sl false false b.ah.length (ae aR b.ah),.sl false false b.aB.length (ae b8 b.aB),.sl false false b.av.length (ae (hZ aD) b.av)],false,false,false⟩|(.inr r)=>x=.ret∧eB .clean tab none [.tmp 2] ⟨t,EH H,e⟩=some (.clean (.bool r),none)) Q ?_ ?_ ?_
   ·refine⟨g,?_⟩;and_intros<;>first|rfl|(simp only[aH,seval,N]<;>rfl)
   ·rintro D t H e ⟨m,P⟩ c a;simp only[kD]at a;simp only[aH,seval,P];apply sp aj a<;>intro _ a
    ·obtain⟨aw,R,a⟩:=ab a;have n:=bk b8 R;simp only[bT]at n;obtain⟨ay,S,a⟩:=ab a;simp only[aH,seval,P,n,S];apply sp jb a<;>intro _ a
     ·simp only[aH,seval];refine bu (by kernel_rfl) ?_;cases a;refine lk ⟨rfl,?_⟩;simp only[aH,seval]
     ·simp only[aH,seval];apply sp jb a<;>intro _ a
      ·simp only[aH,seval];refine bu (by kernel_rfl) ?_;cases a;refine lk ⟨rfl,?_⟩;simp only[aH,seval]
      ·obtain⟨az,T,a⟩:=ab a;have E:=bk (hZ aD) T;simp only[bT]at E;simp only[aH,seval,P,n,E];refine bu (by kernel_rfl) ?_;apply sp aj a<;>intro _ a
       ·cases a;simp only[aH,seval];refine lk ⟨rfl,?_⟩;simp only[aH,seval]
       ·cases a;simp only[aH,seval,P];apply eS;refine⟨m,?_⟩;and_intros<;>first|rfl|(simp only[aH,seval,P]<;>rfl)
    ·cases a;simp only[aH,seval];apply gC;refine⟨rfl,⟨m,?_,?_⟩⟩;all_goals ((simp only[aH,seval,P]<;>rfl))
   ·rintro x t H e k;rcases aq with _|rb
    ·dsimp only at k a;obtain⟨rfl,⟨h,U⟩⟩:=k;simp only[aH,seval,U];obtain⟨ar,V,a⟩:=ab a;refine ax (fun s t H e=>match s with|d=>∃C:Nat,t 1=.ptr 1 C 0∧t 59=.sl false false b.ah.length (ae aR b.ah)∧t 60=.int .i64 (b.ah.length:Int)∧t 61=.int .i64 d∧H 1=some ⟨C,57,[.sl false false b.ah.length (ae aR b.ah),.sl false false b.aB.length (ae b8 b.aB),.sl false false b.av.length (ae (hZ aD) b.av)],false,false,false⟩) (fun o x t H e=>match o with|(.inl _)=>x=.exit 2|(.inr r)=>x=.ret∧eB .clean tab none [.tmp 2] ⟨t,EH H,e⟩=some (.clean (.bool r),none)) V ?_ ?_ ?_
     ·refine⟨h,?_⟩;and_intros<;>first|rfl|(simp only[aH,seval,U]<;>rfl)
     ·rintro d t H e ⟨C,Zc⟩ c a;simp only[kE]at a;simp only[aH,seval,Zc];apply sp aj a<;>intro _ a
      ·obtain⟨j,W,a⟩:=ab a;have p:=bk aR W;simp only[bT]at p;obtain⟨aA,X,a⟩:=ab a;obtain⟨Y,Z,aa,F,ad⟩:=mk_one aD X;simp only[bT]at F;simp only[aH,seval,Zc,p,Y,Z,aa,F,ad];obtain⟨av,ag,a⟩:=ab a;refine ax (fun s t H e=>match s with|(G,O)=>∃q:Nat,∃u:Nat,∃v:Nat,t 1=.ptr 1 q 0∧t 5=.int .i64 d∧t 6=.ptr 6 u 0∧t 7=.buf 7 v 4 0 (O).length∧t 59=.sl false false b.ah.length (ae aR b.ah)∧t 60=.int .i64 (b.ah.length:Int)∧t 61=.int .i64 d∧t 72=.int .i64 (b.aB.length:Int)∧t 73=.int .i64 G∧H 1=some ⟨q,57,[.sl false false b.ah.length (ae aR b.ah),.sl false false b.aB.length (ae b8 b.aB),.sl false false b.av.length (ae (hZ aD) b.av)],false,false,false⟩∧H 6=some ⟨u,85,[.int .i64 j.ba,.int .i64 j.aZ,.int .i64 j.a7],false,false,false⟩∧H 7=some ⟨v,42,ae aD O,false,true,false⟩) (fun o x t H e=>match o with|w=>x=.exit 4∧∃i:Nat,∃y:Nat,∃A:Nat,t 1=.ptr 1 i 0∧t 6=.ptr 6 y 0∧t 7=.buf 7 A 4 0 (w).length∧t 59=.sl false false b.ah.length (ae aR b.ah)∧t 60=.int .i64 (b.ah.length:Int)∧t 61=.int .i64 d∧H 1=some ⟨i,57,[.sl false false b.ah.length (ae aR b.ah),.sl false false b.aB.length (ae b8 b.aB),.sl false false b.av.length (ae (hZ aD) b.av)],false,false,false⟩∧H 6=some ⟨y,85,[.int .i64 j.ba,.int .i64 j.aZ,.int .i64 j.a7],false,false,false⟩∧H 7=some ⟨A,42,ae aD w,false,true,false⟩) ag ?_ ?_ ?_
       ·refine⟨C,e+1,e+1+1,?_⟩;and_intros<;>first|rfl|(simp only[aH,seval,Zc]<;>rfl)
       ·rintro⟨G,O⟩ t H e ⟨q,u,v,Ze⟩ c a;simp only[gF]at a;simp only[aH,seval,Ze];apply sp aj a<;>intro _ a
        ·obtain⟨aB,ah,a⟩:=ab a;have I:=bk (hZ aD) ah;simp only[bT]at I;obtain⟨f,ai,a⟩:=ab a;have J:=bk aD ai;simp only[bT]at J;obtain⟨aC,K,a⟩:=ab a;have L:=bk aD K;simp only[bT]at L;have ak:=fN aD (x':=f) (fo:=0) (cs:=[.int .i64 f.bR.ak,.sl false false f.bR.aa.length (ae (eI .i64) f.bR.aa),.int .i64 f.bN.ak,.sl false false f.bN.aa.length (ae (eI .i64) f.bN.aa)]) K rfl (agG rfl);simp only[bT,Nat.add_zero]at ak;have M:=ak;simp only[putCells,List.length_cons,List.length_nil,afH,Nat.reduceAdd]at M;cases a;simp only[aH,seval,p,Ze,I,J,L,M];apply eS;refine⟨q,u,v,?_⟩;and_intros<;>first|rfl|(simp only[aH,seval,Ze]<;>rfl)
        ·cases a;simp only[aH,seval];apply gC;refine⟨rfl,⟨q,u,v,?_,?_,?_,?_,?_,?_,?_,?_,?_⟩⟩;all_goals ((simp only[aH,seval,Ze]<;>rfl))
       ·rintro x t H e k;obtain⟨w,rfl⟩:∃z,z=av:=⟨_,rfl⟩;dsimp only at k a;obtain⟨rfl,⟨i,y,A,B⟩⟩:=k;obtain⟨aE,al,a⟩:=ab a;simp only[aH,seval,B,al];apply sp aO a<;>intro _ a
        ·cases a;simp only[aH,seval];refine lk ⟨rfl,?_⟩;simp only[aH,seval]
        ·simp only[aH,seval,B];apply sp aO a<;>intro _ a
         ·cases a;simp only[aH,seval];refine lk ⟨rfl,?_⟩;simp only[aH,seval]
         ·obtain⟨aG,an,a⟩:=ab a;simp only[aH,seval,B,an];apply sp aj a<;>intro _ a
          ·cases a;simp only[aH,seval];refine lk ⟨rfl,?_⟩;simp only[aH,seval]
          ·cases a;simp only[aH,seval,B];apply eS;refine⟨i,?_⟩;and_intros<;>first|rfl|(simp only[aH,seval,B]<;>rfl)
      ·cases a;simp only[aH,seval];apply gC;exact rfl
     ·rintro x t H e k;rcases ar with _|rc
      ·dsimp only at k a;subst k;cases a;simp only[aH,seval]
      ·dsimp only at k a;obtain⟨rfl,hE⟩:=k;cases a;simp only[aP,aV,bS,bV];exact hE
    ·dsimp only at k a;obtain⟨rfl,hE⟩:=k;cases a;simp only[aP,aV,bS,bV];exact hE
 ·clear a;have a:=ao;simp only[aH,seval];apply sp aO a<;>intro _ a
  ·cases a;simp only[aH,seval];rw[au];refine⟨_,rfl,?_⟩;refine⟨0,?_,?_,?_⟩;all_goals (rfl)
  ·simp only[aH,seval];apply sp aO a<;>intro _ a
   ·cases a;simp only[aH,seval];rw[au];refine⟨_,rfl,?_⟩;refine⟨0,?_,?_,?_⟩;all_goals (rfl)
   ·cases a;simp only[aH,seval];rw[au];refine⟨_,rfl,?_⟩;refine⟨0,?_,?_,?_⟩;all_goals (rfl)
def pP (l:Option (D×Row)) (d:List D):=di (fl (bo dD) (dc (T1 (eI .i64)))) (fun x:fv×Int=>nV x.1 x.2) (fun r:Bool =>.clean (.bool r)) l d
def acQ {β:Type} {F:fv×Int->Option β} {R:β->RK} (a:Int) (b:Int) (c:Int):di (fl (bo dD) (dc (T1 (eI .i64)))) F R none [.agg [.int .i64 a,.int .i64 b],.ip [.int .i64 c]]=(F ((fv.mk a b),c)).map fun r=>(R r,none):=cB _ _ _ ((fv.mk a b),c)
def uG:Env:=(Am.ext bl 27 false ct)
def He:bG prog uG:=(bG.none.add jH false)
def u7:=ai @w<|ai @tH<|ai @ct.eq_1<|@uG.eq_1
def Hl:bK prog 50 pP:=bK.fh (mode := .clean) tok He mixed func50 (by kernel_rfl) (fun _ _=>rfl) (fun _=>by kernel_rfl) fun⟨d,e⟩ r a=>by
 replace a:nV d e=some r:=a;apply aF rfl ntmps50 results50;simp only[fj];unfold nV at a;obtain⟨f,b,a⟩:=ab a;simp only[u7,seval,b];apply sp aO a<;>intro _ a
 ·cases a;simp only[u7,seval]
 ·obtain⟨g,c,a⟩:=ab a;cases a;simp only[u7,seval,c]
def pQ (l:Option (D×Row)) (d:List D):=di (fl (aI .i64) (dc (T1 (eI .i64)))) (fun x:Int×Int=>nW x.1 x.2) (fun r:Bool =>.clean (.bool r)) l d
def acR {β:Type} {F:Int×Int->Option β} {R:β->RK} (a:Int) (b:Int):di (fl (aI .i64) (dc (T1 (eI .i64)))) F R none [.int .i64 a,.ip [.int .i64 b]]=(F (a,b)).map fun r=>(R r,none):=cB _ _ _ (a,b)
def uH:Env:=(Am.ext bl 27 false ct)
def Hf:bG prog uH:=(bG.none.add jH false)
def LO:=ai @w<|ai @tH<|ai @ct.eq_1<|@uH.eq_1
def Hm:bK prog 51 pQ:=bK.fh (mode := .clean) tok Hf mixed func51 (by kernel_rfl) (fun _ _=>rfl) (fun _=>by kernel_rfl) fun⟨c,d⟩ r a=>by
 replace a:nW c d=some r:=a;apply aF rfl ntmps51 results51;simp only[fj];unfold nW at a;obtain⟨e,b,a⟩:=ab a;cases a;simp only[LO,seval,b]
def pB:=di (dc (oL (eI .i64))) (fun x:(List Int)=>oJ x) (fun r:(List Int) =>.clean (.clo 119 0 [.ip [.sl false false r.length (ae (eI .i64) r)]]))
def vd (a:(List Int)):pB none [.sl false false a.length (ae (eI .i64) a)]=(oJ a).map fun r:(List Int)=>(.clean (.clo 119 0 [.ip [.sl false false r.length (ae (eI .i64) r)]]),none):=cB _ _ _ a
def BD:bK prog 82 pB:=Vg
def dI:=di (dc (J4 119 0 (dc (T1 (hZ (eI .i64)))))) (fun x:(List Int)=>cO x) (fun r:(List Int) =>.fresh 3 1 r.length (ae (eI .i64) r))
def fp (a:(List Int)):dI none [.clo 119 0 [.ip [.sl false false a.length (ae (eI .i64) a)]]]=(cO a).map fun r:(List Int)=>(.fresh 3 1 r.length (ae (eI .i64) r),none):=cB _ _ _ a
def jO:bK prog 81 dI:=UZ
def ox (l:Option (D×Row)) (d:List D):=di (fl (oL (eI .i64)) (dc (aI .i64))) (fun x:(List Int)×Int=>j8 x.1 x.2) (fun r:Bool =>.clean (.bool r)) l d
def sU:Env:=(Am.ext (Am.ext bl 81 false dI) 82 false pB)
def EZ:bG prog sU:=((bG.none.add jO false).add BD false)
def eU:=ai @w<|ai @fp<|ai @vd<|@sU.eq_1
def FW:bK prog 52 ox:=bK.fh (mode := .clean) tok EZ mixed func52 (by kernel_rfl) (fun _ _=>rfl) (fun _=>by kernel_rfl) fun⟨u,k⟩ r a=>by
 replace a:j8 u k=some r:=a;apply aF rfl ntmps52 results52;simp only[fj];unfold j8 at a;obtain⟨y,l,a⟩:=ab a;obtain⟨g,m,a⟩:=ab a;simp only[eU,seval,l,m];obtain⟨v,n,a⟩:=ab a;refine ax (fun s t H e=>match s with|f=>∃b:Nat,t 1=.int .i64 k∧t 5=.buf 5 b 1 0 (g).length∧t 11=.buf 5 b 1 0 (g).length∧t 12=.int .i64 ((g).length:Int)∧t 13=.int .i64 f∧H 5=some ⟨b,3,ae (eI .i64) g,false,true,false⟩) (fun o x t H e=>match o with|(.inl _)=>x=.exit 0∧∃d:Nat,t 1=.int .i64 k∧t 5=.buf 5 d 1 0 (g).length∧H 5=some ⟨d,3,ae (eI .i64) g,false,true,false⟩|(.inr r)=>x=.ret∧eB .clean tab none [.tmp 4] ⟨t,EH H,e⟩=some (.clean (.bool r),none)) n ?_ ?_ ?_
 ·refine⟨1,?_,?_,?_,?_,?_,?_⟩;all_goals (rfl)
 ·rintro f t H e ⟨b,h⟩ c a;simp only[mQ]at a;simp only[eU,seval,h];apply sp aj a<;>intro _ a
  ·obtain⟨z,p,a⟩:=ab a;have i:=bk (eI .i64) p;simp only[bT]at i;simp only[eU,seval,h,i];apply sp aj a<;>intro _ a
   ·cases a;simp only[eU,seval];refine lk ⟨rfl,?_⟩;simp only[eU,seval]
   ·cases a;simp only[eU,seval,h];apply eS;refine⟨b,?_⟩;and_intros<;>first|rfl|(simp only[eU,seval,h]<;>rfl)
  ·cases a;simp only[eU,seval];apply gC;refine⟨rfl,⟨b,?_,?_,?_⟩⟩;all_goals ((simp only[eU,seval,h]<;>rfl))
 ·rintro x t H e j;rcases v with _|A
  ·dsimp only at j a;obtain⟨rfl,⟨d,q⟩⟩:=j;cases a;simp only[eU,seval,q]
  ·dsimp only at j a;obtain⟨rfl,w⟩:=j;cases a;simp only[aP,aV,bS,bV];exact w
def dF (l:Option (D×Row)) (d:List D):=di (fl (oL dD) (dc (J4 50 0 (dc (T1 (eI .i64)))))) (fun x:(List fv)×(Int)=>cW x.1 x.2) (fun r:Int =>.clean (.int .i64 r)) l d
def Zj {β:Type} {F:(List fv)×(Int)->Option β} {R:β->RK} (b:(List fv)) (a:Int):di (fl (oL dD) (dc (J4 50 0 (dc (T1 (eI .i64)))))) F R none [.sl false false b.length (ae dD b),.clo 50 0 [.ip [.int .i64 a]]]=(F (b,(a))).map fun r=>(R r,none):=cB _ _ _ (b,(a))
def eY:Env:=(Am.ext bl 50 false pP)
def mv:bG prog eY:=(bG.none.add Hl false)
def bA:=ai @w<|ai @acQ<|ai @pP.eq_1<|@eY.eq_1
def my:bK prog 83 dF:=bK.fh (mode := .clean) tok mv mixed func83 (by kernel_rfl) (fun _ _=>rfl) (fun _=>by kernel_rfl) fun⟨g,b⟩ r a=>by
 replace a:cW g b=some r:=a;apply aF rfl ntmps83 results83;simp only[fj];unfold cW at a;simp only[bA,seval];obtain⟨m,j,a⟩:=ab a;refine ax (fun s t H e=>match s with|d=>t 0=.sl false false g.length (ae dD g)∧t 1=.clo 50 0 [.ip [.int .i64 b]]∧t 7=.int .i64 (g.length:Int)∧t 8=.int .i64 d) (fun o x t H e=>match o with|(.inl _)=>x=.exit 0|(.inr r)=>x=.ret∧eB .clean tab none [.tmp 4] ⟨t,EH H,e⟩=some (.clean (.int .i64 r),none)) j ?_ ?_ ?_
 ·refine⟨?_,?_,?_,?_⟩;all_goals (rfl)
 ·rintro d t H e h c a;simp only[dy]at a;simp only[bA,seval,h];apply sp aj a<;>intro _ a
  ·obtain⟨p,k,a⟩:=ab a;have f:=bk dD k;simp only[bT]at f;obtain⟨q,l,a⟩:=ab a;simp only[bA,seval,h,f,l];apply sp aj a<;>intro _ a
   ·cases a;simp only[bA,seval];refine lk ⟨rfl,?_⟩;simp only[bA,seval]
   ·cases a;simp only[bA,seval,h];apply eS;and_intros<;>first|rfl|(simp only[bA,seval,h]<;>rfl)
  ·cases a;simp only[bA,seval];apply gC;exact rfl
 ·rintro x t H e i;rcases m with _|u
  ·dsimp only at i a;subst i;cases a;simp only[bA,seval]
  ·dsimp only at i a;obtain⟨rfl,n⟩:=i;cases a;simp only[aP,aV,bS,bV];exact n
def cZ (l:Option (D×Row)) (d:List D):=di (fl (oL dD) (dc (J4 50 0 (dc (T1 (eI .i64)))))) (fun x:(List fv)×(Int)=>b9 x.1 x.2) (fun r:Bool =>.clean (.bool r)) l d
def eh:Env:=(Am.ext bl 83 false dF)
def kY:bG prog eh:=(bG.none.add my false)
def lB:=ai @w<|ai @Zj<|ai @dF.eq_1<|@eh.eq_1
def k9:bK prog 53 cZ:=bK.fh (mode := .clean) tok kY mixed func53 (by kernel_rfl) (fun _ _=>rfl) (fun _=>by kernel_rfl) fun⟨d,b⟩ r a=>by
 replace a:b9 d b=some r:=a;apply aF rfl ntmps53 results53;simp only[fj];unfold b9 at a;obtain⟨e,c,a⟩:=ab a;cases a;simp only[lB,seval,c]
def dG (l:Option (D×Row)) (d:List D):=di (fl (oL (eI .i64)) (dc (J4 51 0 (dc (T1 (eI .i64)))))) (fun x:(List Int)×(Int)=>cX x.1 x.2) (fun r:Int =>.clean (.int .i64 r)) l d
def Zk {β:Type} {F:(List Int)×(Int)->Option β} {R:β->RK} (b:(List Int)) (a:Int):di (fl (oL (eI .i64)) (dc (J4 51 0 (dc (T1 (eI .i64)))))) F R none [.sl false false b.length (ae (eI .i64) b),.clo 51 0 [.ip [.int .i64 a]]]=(F (b,(a))).map fun r=>(R r,none):=cB _ _ _ (b,(a))
def eZ:Env:=(Am.ext bl 51 false pQ)
def mw:bG prog eZ:=(bG.none.add Hm false)
def bB:=ai @w<|ai @acR<|ai @pQ.eq_1<|@eZ.eq_1
def mz:bK prog 84 dG:=bK.fh (mode := .clean) tok mw mixed func84 (by kernel_rfl) (fun _ _=>rfl) (fun _=>by kernel_rfl) fun⟨g,b⟩ r a=>by
 replace a:cX g b=some r:=a;apply aF rfl ntmps84 results84;simp only[fj];unfold cX at a;simp only[bB,seval];obtain⟨m,j,a⟩:=ab a;refine ax (fun s t H e=>match s with|d=>t 0=.sl false false g.length (ae (eI .i64) g)∧t 1=.clo 51 0 [.ip [.int .i64 b]]∧t 7=.int .i64 (g.length:Int)∧t 8=.int .i64 d) (fun o x t H e=>match o with|(.inl _)=>x=.exit 0|(.inr r)=>x=.ret∧eB .clean tab none [.tmp 4] ⟨t,EH H,e⟩=some (.clean (.int .i64 r),none)) j ?_ ?_ ?_
 ·refine⟨?_,?_,?_,?_⟩;all_goals (rfl)
 ·rintro d t H e h c a;simp only[dz]at a;simp only[bB,seval,h];apply sp aj a<;>intro _ a
  ·obtain⟨p,k,a⟩:=ab a;have f:=bk (eI .i64) k;simp only[bT]at f;obtain⟨q,l,a⟩:=ab a;simp only[bB,seval,h,f,l];apply sp aj a<;>intro _ a
   ·cases a;simp only[bB,seval];refine lk ⟨rfl,?_⟩;simp only[bB,seval]
   ·cases a;simp only[bB,seval,h];apply eS;and_intros<;>first|rfl|(simp only[bB,seval,h]<;>rfl)
  ·cases a;simp only[bB,seval];apply gC;exact rfl
 ·rintro x t H e i;rcases m with _|u
  ·dsimp only at i a;subst i;cases a;simp only[bB,seval]
  ·dsimp only at i a;obtain⟨rfl,n⟩:=i;cases a;simp only[aP,aV,bS,bV];exact n
def da (l:Option (D×Row)) (d:List D):=di (fl (oL (eI .i64)) (dc (J4 51 0 (dc (T1 (eI .i64)))))) (fun x:(List Int)×(Int)=>ca x.1 x.2) (fun r:Bool =>.clean (.bool r)) l d
def ej:Env:=(Am.ext bl 84 false dG)
def kZ:bG prog ej:=(bG.none.add mz false)
def lC:=ai @w<|ai @Zk<|ai @dG.eq_1<|@ej.eq_1
def lf:bK prog 54 da:=bK.fh (mode := .clean) tok kZ mixed func54 (by kernel_rfl) (fun _ _=>rfl) (fun _=>by kernel_rfl) fun⟨d,b⟩ r a=>by
 replace a:ca d b=some r:=a;apply aF rfl ntmps54 results54;simp only[fj];unfold ca at a;obtain⟨e,c,a⟩:=ab a;cases a;simp only[lC,seval,c]
def tV (l:Option (D×Row)) (d:List D):=di (fl (bo bx) (dc (aI .i64))) (fun x:bF×Int=>tB x.1 x.2) (fun r:Bool =>.clean (.bool r)) l d
def Zl {β:Type} {F:bF×Int->Option β} {R:β->RK} (a:(List fK)) (b:(List uf)) (c:(List (List aw))) (d:(List fv)) (e:(List Int)) (f:Int):di (fl (bo bx) (dc (aI .i64))) F R none [.agg [.sl false false a.length (ae aR a),.sl false false b.length (ae b8 b),.sl false false c.length (ae (hZ aD) c),.sl false false d.length (ae dD d),.sl false false e.length (ae (eI .i64) e)],.int .i64 f]=(F ((bF.mk (cJ.mk a b c) d e),f)).map fun r=>(R r,none):=cB _ _ _ ((bF.mk (cJ.mk a b c) d e),f)
def yX:Env:=(Am.ext (Am.ext (Am.ext (Am.ext bl 49 false lD) 52 false ox) 53 false cZ) 54 false da)
def No:bG prog yX:=((((bG.none.add BA false).add FW false).add k9 false).add lf false)
def bZ:=ai @w<|ai @UW<|ai @lD.eq_1<|ai @Vr<|ai @ox.eq_1<|ai @Zj<|ai @cZ.eq_1<|ai @Zk<|ai @da.eq_1<|@yX.eq_1
def Ox:bK prog 28 tV:=bK.fh (mode := .clean) tok No mixed func28 (by kernel_rfl) (fun _ _=>rfl) (fun _=>by kernel_rfl) fun⟨b,O⟩ r a=>by
 replace a:tB b O=some r:=a;apply aF rfl ntmps28 results28;simp only[fj];unfold tB at a;obtain⟨r1,al,a⟩:=ab a;simp only[bZ,seval,al];apply sp aj a<;>intro _ a
 ·cases a;simp only[bZ,seval]
 ·simp only[bZ,seval];obtain⟨o8,an,a⟩:=ab a;refine ax (fun s t H e=>match s with|(D,K)=>∃j:Nat,∃k:Nat,∃q:Nat,∃l:Nat,t 2=.ptr 2 j 0∧t 3=.ptr 3 k 0∧t 5=.buf 5 q 1 0 (K).length∧t 6=.buf 6 l 1 0 0∧t 19=.sl false false b.an.ah.length (ae aR b.an.ah)∧t 20=.int .i64 (b.an.ah.length:Int)∧t 21=.int .i64 D∧H 2=some ⟨j,60,[.sl false false b.an.ah.length (ae aR b.an.ah),.sl false false b.an.aB.length (ae b8 b.an.aB),.sl false false b.an.av.length (ae (hZ aD) b.an.av),.sl false false b.aL.length (ae dD b.aL),.sl false false b.aq.length (ae (eI .i64) b.aq)],false,false,false⟩∧H 3=some ⟨k,3,[.int .i64 O],false,false,false⟩∧H 5=some ⟨q,3,ae (eI .i64) K,false,true,false⟩∧H 6=some ⟨l,3,[],false,true,false⟩) (fun o x t H e=>match o with|d=>x=.exit 0∧∃f:Nat,∃g:Nat,∃h:Nat,∃i:Nat,t 2=.ptr 2 f 0∧t 3=.ptr 3 g 0∧t 5=.buf 5 h 1 0 (d).length∧t 6=.buf 6 i 1 0 0∧H 2=some ⟨f,60,[.sl false false b.an.ah.length (ae aR b.an.ah),.sl false false b.an.aB.length (ae b8 b.an.aB),.sl false false b.an.av.length (ae (hZ aD) b.an.av),.sl false false b.aL.length (ae dD b.aL),.sl false false b.aq.length (ae (eI .i64) b.aq)],false,false,false⟩∧H 3=some ⟨g,3,[.int .i64 O],false,false,false⟩∧H 5=some ⟨h,3,ae (eI .i64) d,false,true,false⟩∧H 6=some ⟨i,3,[],false,true,false⟩) an ?_ ?_ ?_
  ·refine⟨0,0,2,2,?_,?_,?_,?_,?_,?_,?_,?_,?_,?_,?_⟩;all_goals (rfl)
  ·rintro⟨D,K⟩ t H e ⟨j,k,q,l,L⟩ c a;simp only[mh]at a;simp only[bZ,seval,L];apply sp aj a<;>intro _ a
   ·obtain⟨aq,P,a⟩:=ab a;have E:=bk aR P;simp only[bT]at E;simp only[bZ,seval,L,E];apply sp aj a<;>intro _ a
    ·obtain⟨ar,Q,a⟩:=ab a;obtain⟨R,F,S,T⟩:=fY (eI .i64) Q;simp only[bT]at F;cases a;simp only[bZ,seval,L,R,F,S,T];apply eS;refine⟨j,k,e+1+1+1,l,?_⟩;and_intros<;>first|rfl|(simp only[bZ,seval,L]<;>rfl)
    ·cases a;simp only[bZ,seval,L];apply eS;refine⟨j,k,q,l,?_⟩;and_intros<;>first|rfl|(simp only[bZ,seval,L]<;>rfl)
   ·cases a;simp only[bZ,seval];apply gC;refine⟨rfl,⟨j,k,q,l,?_,?_,?_,?_,?_,?_,?_,?_⟩⟩;all_goals ((simp only[bZ,seval,L]<;>rfl))
  ·rintro x t H e U;obtain⟨d,rfl⟩:∃z,z=o8:=⟨_,rfl⟩;dsimp only at U a;obtain⟨rfl,⟨f,g,h,i,V⟩⟩:=U;simp only[bZ,seval,V];obtain⟨ao,W,a⟩:=ab a;refine ax (fun s t H e=>match s with|(G,M)=>∃m:Nat,∃n:Nat,∃p:Nat,∃u:Nat,t 2=.ptr 2 m 0∧t 3=.ptr 3 n 0∧t 5=.buf 5 p 1 0 (d).length∧t 6=.buf 6 u 1 0 (M).length∧t 36=.sl false false b.an.aB.length (ae b8 b.an.aB)∧t 37=.int .i64 (b.an.aB.length:Int)∧t 38=.int .i64 G∧H 2=some ⟨m,60,[.sl false false b.an.ah.length (ae aR b.an.ah),.sl false false b.an.aB.length (ae b8 b.an.aB),.sl false false b.an.av.length (ae (hZ aD) b.an.av),.sl false false b.aL.length (ae dD b.aL),.sl false false b.aq.length (ae (eI .i64) b.aq)],false,false,false⟩∧H 3=some ⟨n,3,[.int .i64 O],false,false,false⟩∧H 5=some ⟨p,3,ae (eI .i64) d,false,true,false⟩∧H 6=some ⟨u,3,ae (eI .i64) M,false,true,false⟩) (fun o x t H e=>match o with|v=>x=.exit 2∧∃w:Nat,∃y:Nat,∃A:Nat,∃B:Nat,t 2=.ptr 2 w 0∧t 3=.ptr 3 y 0∧t 5=.buf 5 A 1 0 (d).length∧t 6=.buf 6 B 1 0 (v).length∧H 2=some ⟨w,60,[.sl false false b.an.ah.length (ae aR b.an.ah),.sl false false b.an.aB.length (ae b8 b.an.aB),.sl false false b.an.av.length (ae (hZ aD) b.an.av),.sl false false b.aL.length (ae dD b.aL),.sl false false b.aq.length (ae (eI .i64) b.aq)],false,false,false⟩∧H 3=some ⟨y,3,[.int .i64 O],false,false,false⟩∧H 5=some ⟨A,3,ae (eI .i64) d,false,true,false⟩∧H 6=some ⟨B,3,ae (eI .i64) v,false,true,false⟩) W ?_ ?_ ?_
   ·refine⟨f,g,h,i,?_⟩;and_intros<;>first|rfl|(simp only[bZ,seval,V]<;>rfl)
   ·rintro⟨G,M⟩ t H e ⟨m,n,p,u,N⟩ c a;simp only[mi]at a;simp only[bZ,seval,N];apply sp aj a<;>intro _ a
    ·obtain⟨au,X,a⟩:=ab a;have I:=bk b8 X;simp only[bT]at I;simp only[bZ,seval,N,I];apply sp aj a<;>intro _ a
     ·obtain⟨av,Y,a⟩:=ab a;obtain⟨Z,J,aa,ad⟩:=fY (eI .i64) Y;simp only[bT]at J;cases a;simp only[bZ,seval,N,Z,J,aa,ad];apply eS;refine⟨m,n,p,e+1+1+1,?_⟩;and_intros<;>first|rfl|(simp only[bZ,seval,N]<;>rfl)
     ·cases a;simp only[bZ,seval,N];apply eS;refine⟨m,n,p,u,?_⟩;and_intros<;>first|rfl|(simp only[bZ,seval,N]<;>rfl)
    ·cases a;simp only[bZ,seval];apply gC;refine⟨rfl,⟨m,n,p,u,?_,?_,?_,?_,?_,?_,?_,?_⟩⟩;all_goals ((simp only[bZ,seval,N]<;>rfl))
   ·rintro x t H e U;obtain⟨v,rfl⟩:∃z,z=ao:=⟨_,rfl⟩;dsimp only at U a;obtain⟨rfl,⟨w,y,A,B,C⟩⟩:=U;obtain⟨aw,ag,a⟩:=ab a;simp only[bZ,seval,C,ag];apply sp dH a<;>intro _ a
    ·obtain⟨ay,ah,a⟩:=ab a;simp only[bZ,seval,C,ah];apply sp dH a<;>intro _ a
     ·obtain⟨az,ai,a⟩:=ab a;simp only[bZ,seval,C,ai];apply sp dH a<;>intro _ a
      ·obtain⟨aA,ak,a⟩:=ab a;cases a;simp only[bZ,seval,C,ak]
      ·cases a;simp only[bZ,seval]
     ·cases a;simp only[bZ,seval]
    ·cases a;simp only[bZ,seval]
def gm (l:Option (D×Row)) (d:List D):=di (dc (bo jk)) (fun x:bg=>mg x) (fun r:Int×Int =>.clean (.tup [.int .i64 r.1,.int .i64 r.2])) l d
def Pc {β:Type} {F:bg->Option β} {R:β->RK} (a:(List Int)) (b:(List bF)):di (dc (bo jk)) F R none [.agg [.sl false false a.length (ae (eI .i64) a),.sl false false b.length (ae bx b)]]=(F ((bg.mk a b))).map fun r=>(R r,none):=cB _ _ _ ((bg.mk a b))
def we:Env:=(Am.ext (Am.ext bl 27 false ct) 28 false tV)
def Kw:bG prog we:=((bG.none.add jH false).add Ox false)
def aJ:=ai @w<|ai @tH<|ai @ct.eq_1<|ai @Zl<|ai @tV.eq_1<|@we.eq_1
end Go.Proofs.YtekhokjkphgphaaGreat.Am
