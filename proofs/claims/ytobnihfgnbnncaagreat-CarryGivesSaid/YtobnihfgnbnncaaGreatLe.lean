import Derived.Test.YtobnihfgnbnncaaGreatLd
set_option linter.unusedSimpArgs false
set_option linter.unusedVariables false
set_option linter.defProp false
noncomputable section
open Go.Proofs.Tryz
namespace Go.Proofs.YtobnihfgnbnncaaGreat.P
open Go.RowKit
def wc(i:aF)(f:aF):Option (an×Int) :=
 (eG i).bind fun l =>
 (if (!l) then
  some true
 else
  (eG f).bind fun j =>
  some (!j)).bind fun e =>
 if e then
  some ((an.mk (aF.mk 0 ([])) (aF.mk 0 ([]))),1)
 else
  if (f.al==0) then
   some ((an.mk (aF.mk 0 ([])) (aF.mk 0 ([]))),15)
  else
   (if decide (f.al<0) then
    (yo i).bind fun g =>
    (yo f).bind fun h =>
    some (g.al,g.aa,h.al,h.aa)
   else
    some (i.al,i.aa,f.al,f.aa)).bind fun q=>match q with
   | (a,b,c,d) =>
    (v7 (aF.mk a b) (aF.mk c d)).bind fun k =>
    (tM (aF.mk a b) k.1).bind fun m =>
    (tM (aF.mk c d) k.1).bind fun n =>
    some ((an.mk m.1 n.1),0)
def AA(b:Int)(c:Int):Option (an×Int) :=
 (Ax b).bind fun d =>
 (Ax c).bind fun e =>
 (wc d e).bind fun a =>
 some (a.1,a.2)
def yt(a:Int):Option (an) :=
 (AA a 1).bind fun b =>
 some b.1
def GH(c:aF)(d:aF):Bd (Int) ((Unit)⊕(Bool))
 | a =>
  if decide (a<(c.aa.length:Int)) then
   (P.idx c.aa a).bind fun e =>
   (P.idx d.aa a).bind fun b =>
   if (e != b) then
    some (.inr (.inr false))
   else
    some (.inl (IntKind.i64.wrap (a+1)))
  else
   some (.inr (.inl ()))
def Ay(b:aF)(c:aF):Option (Bool) :=
 (if (b.al != c.al) then
  some true
 else
  some ((b.aa.length:Int) != (c.aa.length:Int))).bind fun a =>
 if a then
  some false
 else
  (aO (GH b c) 0).bind fun q=>match q with
  | (.inl _) =>
   some true
  | (.inr d) =>
   some d
def pF(b:aF)(c:aF):Option (Int) :=
 (eG b).bind fun e =>
 (if (!e) then
  some true
 else
  (eG c).bind fun f =>
  if (!f) then
   some true
  else
   (Ay b c).bind fun d =>
   some d).bind fun a =>
 if a then
  some 0
 else
  if (b.al != c.al) then
   if decide (b.al<c.al) then
    some (-1)
   else
    some 1
  else
   (sM b.aa c.aa).bind fun g =>
   if (g==(decide (b.al>0))) then
    some (-1)
   else
    some 1
def lY(b:an):Option (Bool) :=
 (eG b.bF).bind fun c =>
 (if (!c) then
  some true
 else
  (eG b.bJ).bind fun d =>
  if (!d) then
   some true
  else
   some (decide (b.bJ.al<1))).bind fun a =>
 if a then
  some false
 else
  (v7 b.bF b.bJ).bind fun e =>
  (Ax 1).bind fun f =>
  (pF e.1 f).bind fun g =>
  some (g==0)
def lz(b:aF)(c:aF):Option (aF×Int) :=
 (eG b).bind fun d =>
 (if (!d) then
  some true
 else
  (eG c).bind fun e =>
  some (!e)).bind fun a =>
 if a then
  some ((aF.mk 0 ([])),1)
 else
  (nH b.aa c.aa).bind fun f =>
  (gQ (IntKind.i64.wrap (b.al*c.al)) f).bind fun g =>
  some (g,0)
def yu(b:an)(c:an):Option (an×Int) :=
 (lY b).bind fun e =>
 (if (!e) then
  some true
 else
  (lY c).bind fun f =>
  some (!f)).bind fun a =>
 if a then
  some ((an.mk (aF.mk 0 ([])) (aF.mk 0 ([]))),1)
 else
  (lz b.bF c.bF).bind fun g =>
  (lz b.bJ c.bJ).bind fun h =>
  (wc g.1 h.1).bind fun d =>
  some (d.1,d.2)
def Bn(a:aF)(b:aF):Option (aF×Int) :=
 (eG a).bind fun j =>
 (if (!j) then
  some true
 else
  (eG b).bind fun e =>
  some (!e)).bind fun c =>
 if c then
  some ((aF.mk 0 ([])),1)
 else
  (if (a.al==0) then
   some true
  else
   if (b.al==0) then
    some true
   else
    some (a.al==b.al)).bind fun d =>
  if d then
   (sP a.aa b.aa).bind fun k =>
   (gQ (nR .or .i64 a.al b.al) k).bind fun l =>
   some (l,0)
  else
   (sM a.aa b.aa).bind fun m =>
   if m then
    (nG b.aa a.aa).bind fun f =>
    (gQ b.al f).bind fun g =>
    some (g,0)
   else
    (nG a.aa b.aa).bind fun h =>
    (gQ a.al h).bind fun i =>
    some (i,0)
def yp(b:an)(c:an):Option (an×Int) :=
 (lY b).bind fun f =>
 (if (!f) then
  some true
 else
  (lY c).bind fun d =>
  some (!d)).bind fun a =>
 if a then
  some ((an.mk (aF.mk 0 ([])) (aF.mk 0 ([]))),1)
 else
  (lz b.bF c.bJ).bind fun g =>
  (lz c.bF b.bJ).bind fun h =>
  (lz b.bJ c.bJ).bind fun i =>
  (Bn g.1 h.1).bind fun j =>
  (wc j.1 i.1).bind fun e =>
  some (e.1,e.2)
def vd(l:eL)(m:Int)(k:(List an)):Bd (Int×Int×(List Int)×Int×(List Int)) ((Int×(List Int)×Int×(List Int)))
 | (e,a,b,c,d) =>
  if decide (e<(k.length:Int)) then
   (P.idx l.aM m).bind fun g =>
   (P.idx g e).bind fun h =>
   (P.idx k e).bind fun i =>
   (yu h i).bind fun j =>
   (yp (an.mk (aF.mk a b) (aF.mk c d)) j.1).bind fun f =>
   some (.inl (IntKind.i64.wrap (e+1),f.1.bF.al,f.1.bF.aa,f.1.bJ.al,f.1.bJ.aa))
  else
   some (.inr (a,b,c,d))
def Bt(f:eL)(g:Int)(h:(List an)):Option (an) :=
 (yt 0).bind fun e =>
 (aO (vd f g h) (0,e.bF.al,e.bF.aa,e.bJ.al,e.bJ.aa)).bind fun q=>match q with
 | (a,b,c,d) =>
  some (an.mk (aF.mk a b) (aF.mk c d))
def tY(b:aT)(a:fE)(c:(List an)):Option (an) :=
 (P.idx b.ak a.bg).bind fun d =>
 (AA a.aR d).bind fun e =>
 (P.idx c a.bg).bind fun f =>
 (yu e.1 f).bind fun g =>
 some g.1
def mP(j:(List an))(g:aJ):Bd (Int×Int×(List Int)×Int×(List Int)) ((Int×(List Int)×Int×(List Int)))
 | (a,b,c,d,e) =>
  if decide (a<(g.ct.length:Int)) then
   (P.idx g.ct a).bind fun h =>
   (P.idx j h.oS).bind fun i =>
   (jF (an.mk (aF.mk b c) (aF.mk d e)) h.iU i).bind fun f =>
   some (.inl (IntKind.i64.wrap (a+1),f.bF.al,f.bF.aa,f.bJ.al,f.bJ.aa))
  else
   some (.inr (b,c,d,e))
def mO(i:(List an))(j:(List aJ)):Bd (Int) ((Unit)⊕(Bool))
 | a =>
  if decide (a<(j.length:Int)) then
   (P.idx j a).bind fun b =>
   (aO (mP i b) (0,b.bG.bF.al,b.bG.bF.aa,b.bG.bJ.al,b.bG.bJ.aa)).bind fun q=>match q with
   | (c,d,e,f) =>
    (P.idx i a).bind fun g =>
    (j9 (an.mk (aF.mk c d) (aF.mk e f)) g).bind fun h =>
    if (h != 0) then
     some (.inr (.inr false))
    else
     some (.inl (IntKind.i64.wrap (a+1)))
  else
   some (.inr (.inl ()))
def mN(b:gK)(e:(List an))(f:(List an)):Option (Bool) :=
 (pA b).bind fun g =>
 (if (!g) then
  some true
 else
  (ji e b.aC).bind fun c =>
  if (!c) then
   some true
  else
   (ji f b.aC).bind fun d =>
   some (!d)).bind fun a =>
 if a then
  some false
 else
  (eX b e).bind fun h =>
  (aO (mO f h) 0).bind fun q=>match q with
  | (.inl _) =>
   some true
  | (.inr i) =>
   some i
def iH(n:(List (List an)))(m:(List (List an))×(List an)×Int)(d:Int)(c:bl):Bd (Int×(List an)) (((List an))⊕(Bool))
 | (a,b) =>
  if decide (a<(c.ax.aN.length:Int)) then
   (P.idx c.ax.aN a).bind fun f =>
   if (f.bj != 0) then
    some (.inl (IntKind.i64.wrap (a+1),b))
   else
    (P.idx c.aC f.aY).bind fun e =>
    (P.idx m.1 d).bind fun g =>
    (P.idx g a).bind fun h =>
    (P.idx m.2.1 e).bind fun i =>
    (tV h i).bind fun j =>
    if (!j) then
     some (.inr (.inr false))
    else
     (P.idx n d).bind fun k =>
     (Bt c.ax a k).bind fun l =>
     (P.idx b e).bind fun o =>
     some (.inl (IntKind.i64.wrap (a+1),(b.set (e).toNat l)))
  else
   some (.inr (.inl b))
def iI(h:aT)(i:(List (List an))×(List an)×Int)(d:bl):Bd (Int×(List an)) (((List an)))
 | (a,b) =>
  if decide (a<(d.aX.length:Int)) then
   (P.idx d.aX a).bind fun c =>
   (P.idx b c.bg).bind fun e =>
   (tY h c i.2.1).bind fun f =>
   (sB e f).bind fun g =>
   some (.inl (IntKind.i64.wrap (a+1),(b.set (c.bg).toNat g.1)))
  else
   some (.inr b)
def iG(g:aT)(i:(List (List an)))(h:(List (List an))×(List an)×Int):Bd (Int×(List an)×(List an)) (((List an)×(List an))⊕(Bool))
 | (a,b,c) =>
  if decide (a<(g.au.length:Int)) then
   (P.idx g.au a).bind fun f =>
   (aO (iH i h a f) (0,b)).bind fun q=>match q with
   | (.inl d) =>
    (aO (iI g h f) (0,c)).bind fun e =>
    some (.inl (IntKind.i64.wrap (a+1),d,e))
   | (.inr j) =>
    some (.inr (.inr j))
  else
   some (.inr (.inl (b,c)))
def jA(b:aT)(j:(List (List an))):Option (Bool) :=
 (Ag).bind fun k =>
 (Bq b).bind fun o =>
 (if (!o) then
  some true
 else
  (Br j).bind fun g =>
  some (!g)).bind fun c =>
 if c then
  some k
 else
  (gM b j).bind fun a =>
  (jc b a.2.1).bind fun m =>
  (CL b).bind fun n =>
  if (a.2.2 != 0) then
   some k
  else
   (if (n.2 != 0) then
    some true
   else
    if ((a.1.length:Int) != (b.au.length:Int)) then
     some true
    else
     if ((a.2.1.length:Int) != (b.ak.length:Int)) then
      some true
     else
      some ((m.length:Int) != (a.2.1.length:Int))).bind fun d =>
   if d then
    some false
   else
    (Ha 64 (a.2.1.length:Int) (a.2.1.length:Int) (an.mk (aF.mk 0 ([])) (aF.mk 0 ([])))).bind fun l =>
    (me 64 [] a.2.1).bind fun _ =>
    (aO (iG b j a) (0,l,a.2.1)).bind fun q=>match q with
    | (.inl (e,f)) =>
     if k then
      (mN n.1 e a.2.1).bind fun h =>
      if h then
       (ox f m).bind fun i =>
       some i
      else
       some false
     else
      some false
    | (.inr rc) =>
     some rc
end Go.Proofs.YtobnihfgnbnncaaGreat.P
namespace Go.Proofs.YtobnihfgnbnncaaGreat.Am
open Go.RowKit Go.Proofs.YtobnihfgnbnncaaGreat.P
set_option maxRecDepth 100000
set_option maxHeartbeats 4000000
def b6.gO{P:Program}{T:Nat->Option Ty}{Γ:Env}(i:km P T)(j:bN P Γ)(k:P.follows .mixedOrders=true){α β:Type}{A:kZ α}{F:α->Option β}{R:β->RK}{mode:Mode}{f:FuncId}{b:Func}{G:Option (D×Row)->List D->Option (RK×Option Row)}(m:P.funcs[f]? = some b)
  (g:((match b.body with|some c=>codeOk c|none=>true)&&(!(b.name == "runtime.NumGoroutine") && !b.body.isNone))=true) (hG:∀l d,G l d=dx A F R l d) (n:∀a,Nat.ble (A.ds a).length b.ntmps=true) (h:∀a r,F a=some r->lP mode T Γ FU b none (A.ds a)=some (R r,none)):b6 P f G:=by
 have e:G=dx A F R:=funext fun l=>funext fun d=>hG l d;subst e;exact b6.ofB i j k m g n h
def amk{α:Type}(E:jq α){l:List α}{x:α}(h:P.idx l 0=some x):E.size<=l.length*E.size∧(aq E l).take E.size=E.cells x:=by
 have a:=Bj E h;have b:=lq E h;simp only[Int.toNat_zero,aoD,an5,aoE]at a b;refine⟨b,?_⟩;rw[a,aoR (by rw[E.len];exact am6 _),aoF (by rw[E.len];exact am6 _)]
def vmt:=ai @aac<|ai @air<|ai @ais<|ai @afC<|ai @Qu<|ai @Xo<|ai @Qv<|ai @Qw<|ai @Qx<|ai @Xp<|ai @Qy<|ai @Xq<|ai @Xr<|ai @Xs<|ai @Xt<|ai @Qz<|ai @QA<|ai @afA<|ai @afB<|ai @QB<|ai @QC<|ai @Z2<|ai @Z3<|ai @Z4<|ai @Z5<|ai @Z6<|ai @Qt<|ai @Z7<|ai @Z8<|ai @Z9<|ai @aaa<|@aab
def e9:jq aF:=DC (pt (eI .i64) (fj (eI .i64))) (fun x=>(x.al,x.aa)) (by rintro⟨⟩ ⟨⟩ h;simpa using h)
def Ge(x:aF):e9.cells x=[.int .i64 x.al,.sl false false x.aa.length (aq (eI .i64) x.aa)]:=apL
def Sp(x:aF):aF.mk x.al x.aa=x:=apL
def ah:jq an:=DC (pt e9 e9) (fun x=>(x.bF,x.bJ)) (by rintro⟨⟩ ⟨⟩ h;simpa using h)
def Dz(x:an):ah.cells x=[.int .i64 x.bF.al,.sl false false x.bF.aa.length (aq (eI .i64) x.bF.aa),.int .i64 x.bJ.al,.sl false false x.bJ.aa.length (aq (eI .i64) x.bJ.aa)]:=apL
def Gf:ah.size=4:=apL
def M8(x:an):an.mk x.bF x.bJ=x:=apL
def ep:jq um:=DC (pt (eI .i64) (pt (eI .i64) (pt (eI .i64) aiM))) (fun x=>(x.bj,x.aY,x.aR,x.Po)) (by rintro⟨⟩ ⟨⟩ h;simpa using h)
def Gi(x:um):ep.cells x=[.int .i64 x.bj,.int .i64 x.aY,.int .i64 x.aR,.str x.Po]:=apL
def Iy:ep.size=4:=apL
def fu:jq fE:=DC (pt (eI .i64) (eI .i64)) (fun x=>(x.bg,x.aR)) (by rintro⟨⟩ ⟨⟩ h;simpa using h)
def Gj(x:fE):fu.cells x=[.int .i64 x.bg,.int .i64 x.aR]:=apL
def Iz:fu.size=2:=apL
def Sr(x:fE):fE.mk x.bg x.aR=x:=apL
def bo:jq ie:=DC (pt (eI .i64) (pt (eI .i64) (eI .i64))) (fun x=>(x.bj,x.aY,x.aR)) (by rintro⟨⟩ ⟨⟩ h;simpa using h)
def zK(x:ie):bo.cells x=[.int .i64 x.bj,.int .i64 x.aY,.int .i64 x.aR]:=apL
def BX:bo.size=3:=apL
def wx:jq eL:=DC (pt (fj bo) (pt (fj ep) (fj (fj ah)))) (fun x=>(x.aw,x.aN,x.aM)) (by rintro⟨⟩ ⟨⟩ h;simpa using h)
def Dy(x:eL):wx.cells x=[.sl false false x.aw.length (aq bo x.aw),.sl false false x.aN.length (aq ep x.aN),.sl false false x.aM.length (aq (fj ah) x.aM)]:=apL
def M7(x:eL):eL.mk x.aw x.aN x.aM=x:=apL
def bD:jq bl:=DC (pt wx (pt (fj fu) (fj (eI .i64)))) (fun x=>(x.ax,x.aX,x.aC)) (by rintro⟨⟩ ⟨⟩ h;simpa using h)
def DA(x:bl):bD.cells x=[.sl false false x.ax.aw.length (aq bo x.ax.aw),.sl false false x.ax.aN.length (aq ep x.ax.aN),.sl false false x.ax.aM.length (aq (fj ah) x.ax.aM),.sl false false x.aX.length (aq fu x.aX),.sl false false x.aC.length (aq (eI .i64) x.aC)]:=apL
def Gg:bD.size=5:=apL
def M9(x:bl):bl.mk x.ax x.aX x.aC=x:=apL
def jK:jq aT:=DC (pt (fj (eI .i64)) (fj bD)) (fun x=>(x.ak,x.au)) (by rintro⟨⟩ ⟨⟩ h;simpa using h)
def BY(x:aT):jK.cells x=[.sl false false x.ak.length (aq (eI .i64) x.ak),.sl false false x.au.length (aq bD x.au)]:=apL
def IQ(x:aT):aT.mk x.ak x.au=x:=apL
def ch:jq cN:=DC (pt (eI .i64) (pt (eI .i64) ah)) (fun x=>(x.dG,x.mf,x.gN)) (by rintro⟨⟩ ⟨⟩ h;simpa using h)
def tD(x:cN):ch.cells x=[.int .i64 x.dG,.int .i64 x.mf,.int .i64 x.gN.bF.al,.sl false false x.gN.bF.aa.length (aq (eI .i64) x.gN.bF.aa),.int .i64 x.gN.bJ.al,.sl false false x.gN.bJ.aa.length (aq (eI .i64) x.gN.bJ.aa)]:=apL
def zL:ch.size=6:=apL
def Na(x:cN):cN.mk x.dG x.mf x.gN=x:=apL
def yR:jq gK:=DC (pt (eI .i64) (fj ch)) (fun x=>(x.aC,x.bf)) (by rintro⟨⟩ ⟨⟩ h;simpa using h)
def Gh(x:gK):yR.cells x=[.int .i64 x.aC,.sl false false x.bf.length (aq ch x.bf)]:=apL
def Sq(x:gK):gK.mk x.aC x.bf=x:=apL
def ck:jq gu:=DC (pt (eI .i64) ah) (fun x=>(x.oS,x.iU)) (by rintro⟨⟩ ⟨⟩ h;simpa using h)
def DB(x:gu):ck.cells x=[.int .i64 x.oS,.int .i64 x.iU.bF.al,.sl false false x.iU.bF.aa.length (aq (eI .i64) x.iU.bF.aa),.int .i64 x.iU.bJ.al,.sl false false x.iU.bJ.aa.length (aq (eI .i64) x.iU.bJ.aa)]:=apL
def vH:ck.size=5:=apL
def Nb(x:gu):gu.mk x.oS x.iU=x:=apL
def gX:jq aJ:=DC (pt ah (fj ck)) (fun x=>(x.bG,x.ct)) (by rintro⟨⟩ ⟨⟩ h;simpa using h)
def rm(x:aJ):gX.cells x=[.int .i64 x.bG.bF.al,.sl false false x.bG.bF.aa.length (aq (eI .i64) x.bG.bF.aa),.int .i64 x.bG.bJ.al,.sl false false x.bG.bJ.aa.length (aq (eI .i64) x.bG.bJ.aa),.sl false false x.ct.length (aq ck x.ct)]:=apL
def yS:gX.size=5:=apL
def a7:jq aJ:=DC (pt ah (Sd ck)) (fun x=>(x.bG,x.ct)) (by rintro⟨⟩ ⟨⟩ h;simpa using h)
def eM(x:aJ):a7.cells x=[.int .i64 x.bG.bF.al,.sl false false x.bG.bF.aa.length (aq (eI .i64) x.bG.bF.aa),.int .i64 x.bG.bJ.al,.sl false false x.bG.bJ.aa.length (aq (eI .i64) x.bG.bJ.aa),.nx (x.ct).length (aq ck (x.ct))]:=apL
def xa:a7.size=5:=apL
def IC(x:aJ):(a7.cells x).map C8=gX.cells x:=apL
def IB(x:aJ):(a7.cells x).all (wR 5)=true:=by simp[eM,wR,gD,bQ,vH]
def b8:jq (Bool×aJ):=akh gX a7 rfl (by intro x y h;simp[rm,eM]at h)
def BZ(x:aJ):b8.cells (true,x)=[.int .i64 x.bG.bF.al,.sl false false x.bG.bF.aa.length (aq (eI .i64) x.bG.bF.aa),.int .i64 x.bG.bJ.al,.sl false false x.bG.bJ.aa.length (aq (eI .i64) x.bG.bJ.aa),.sl false false x.ct.length (aq ck x.ct)]:=apL
def p5(x:aJ):b8.cells (false,x)=a7.cells x:=apL
def IA(x:aJ):b8.cells (true,x)=gX.cells x:=apL
def rl:b8.size=5:=apL
def B0(x:aJ):aJ.mk x.bG x.ct=x:=apL
def ah2{l:List _}:(aq (eI .i64) l).length=l.length*1:=bQ _ l
def Xv{l:List _}:(aq (eI .i64) l).take (l.length*1)=aq (eI .i64) l:=by
 have:=lV (eI .i64) l l.length;rw[aoY]at this;exact this
def afH{l:List _}{i:Nat}{x:_}:(aq (eI .i64) (l.set i x)).take (l.length*1)=aq (eI .i64) (l.set i x):=by
 have:=@Xv (l.set i x)
 rwa [aoW]at this
def ah3{l:List _}:(aq (fj ah) l).length=l.length*1:=bQ _ l
def afE{l:List _}:(aq (fj ah) l).take (l.length*1)=aq (fj ah) l:=by
 have:=lV (fj ah) l l.length;rw[aoY]at this;exact this
def ah4{l:List _}:(aq ah l).length=l.length*4:=bQ _ l
def afF{l:List _}:(aq ah l).take (l.length*4)=aq ah l:=by
 have:=lV ah l l.length;rw[aoY]at this;exact this
def ah5{l:List _}:(aq bD l).length=l.length*5:=bQ _ l
def ah6{l:List _}:(aq ep l).length=l.length*4:=bQ _ l
def ah7{l:List _}:(aq bo l).length=l.length*3:=bQ _ l
def ah8{l:List _}:(aq ch l).length=l.length*6:=bQ _ l
def afG{l:List _}:(aq ch l).take (l.length*6)=aq ch l:=by
 have:=lV ch l l.length;rw[aoY]at this;exact this
def ah9{l:List _}:(aq fu l).length=l.length*2:=bQ _ l
def aer{l:List _}:(aq gX l).length=l.length*5:=bQ _ l
def aes{l:List _}:(aq b8 l).length=l.length*5:=bQ _ l
def aet{l:List _}:(aq a7 l).length=l.length*5:=bQ _ l
def aeu{l:List _}:(aq ck l).length=l.length*5:=bQ _ l
def aae{l:List _}:(aq ck l).take (l.length*5)=aq ck l:=by
 have:=lV ck l l.length;rw[aoY]at this;exact this
def vme:=ai @Dw<|ai @Eu<|ai @YA<|ai @Se<|ai @DE<|ai @Bg<|ai @Dx<|ai @eM<|ai @xa<|ai @BZ<|ai @rl<|ai @Ge<|ai @Dz<|ai @Gf<|ai @Gi<|ai @Iy<|ai @Gj<|ai @Iz<|ai @zK<|ai @BX<|ai @Dy<|ai @DA<|ai @Gg<|ai @BY<|ai @tD<|ai @zL<|ai @Gh<|ai @DB<|ai @vH<|ai @rm<|@yS
def vml:=ai @bY<|ai @Sp<|ai @M8<|ai @Sr<|ai @M7<|ai @M9<|ai @IQ<|ai @Na<|ai @Sq<|ai @Nb<|ai @B0<|ai @ah2<|ai @Xv<|ai @afH<|ai @ah3<|ai @afE<|ai @ah4<|ai @afF<|ai @ah5<|ai @ah6<|ai @ah7<|ai @ah8<|ai @afG<|ai @ah9<|ai @aer<|ai @aes<|ai @aet<|ai @aeu<|@aae
def XQ:aao tab ⟨.map 116 41,1,8,[.map none],false⟩ true (.agg [.int .i64 0,.sl false false 0 [],.int .i64 0,.sl false false 0 []]):=⟨_,_,rfl,rfl,rfl,rfl⟩
def aeB{h:Nat->Option Row}{m:D}{n a:Int}{b:Bool}:jT tab ⟨.map 116 41,1,8,[.map none],false⟩ h m (.agg [.int .i64 n,.int .i64 a]) b=lkE true b (.agg [.int .i64 0,.sl false false 0 [],.int .i64 0,.sl false false 0 []]) (n,some a) (mapOf h m):=ai1 XQ rfl
def aeP{h:Nat->Option Row}{y v:Nat}{n a:Int}{x:D}:fh tab ⟨.map 116 41,1,8,[.map none],false⟩ h (.mp y v) (.agg [.int .i64 n,.int .i64 a]) x=muE true h y v (n,some a) (BO h x):=ai6 XQ rfl
def aeK{a e d:Nat}(b:a<900000):aeN tab (some ⟨.map 116 41,1,8,[.map none],false⟩) a e d=some ⟨.mp d e,[(d,some ⟨e,a,[.mpc [] []],false,true,true⟩)]⟩:=agW XQ b
def Y9{m:List ((Int×Int)×an)}{n a:Int}:vP (.agg [.int .i64 0,.sl false false 0 [],.int .i64 0,.sl false false 0 []]) (fW m) (iW (bC ah) m) (n,some a)=.agg [.int .i64 (((ib (an.mk (aF.mk 0 ([])) (aF.mk 0 ([]))) m (n,a)).bF).al),.sl false false (((ib (an.mk (aF.mk 0 ([])) (aF.mk 0 ([]))) m (n,a)).bF).aa).length (aq (eI .i64) (((ib (an.mk (aF.mk 0 ([])) (aF.mk 0 ([]))) m (n,a)).bF).aa)),.int .i64 (((ib (an.mk (aF.mk 0 ([])) (aF.mk 0 ([]))) m (n,a)).bJ).al),.sl false false (((ib (an.mk (aF.mk 0 ([])) (aF.mk 0 ([]))) m (n,a)).bJ).aa).length (aq (eI .i64) (((ib (an.mk (aF.mk 0 ([])) (aF.mk 0 ([]))) m (n,a)).bJ).aa))]:=Ny (A:=(bC ah)) (an.mk (aF.mk 0 ([])) (aF.mk 0 ([]))) (n,a) m
def aaj{m:List ((Int×Int)×an)}{n a:Int}{d:Int}{b:(List Int)}{e:Int}{c:(List Int)}:D.mpc (CT (fW m) (n,some a)) (Hg (fW m) (iW (bC ah) m) (n,some a) (.agg [.int .i64 d,.sl false false b.length (aq (eI .i64) b),.int .i64 e,.sl false false c.length (aq (eI .i64) c)]))=.mpc (fW (u4 m (n,a) (an.mk (aF.mk d b) (aF.mk e c)))) (iW (bC ah) (u4 m (n,a) (an.mk (aF.mk d b) (aF.mk e c)))):=by
 rw[<- Ur (n,a) (an.mk (aF.mk d b) (aF.mk e c)) m,<- Ut (n,a) (an.mk (aF.mk d b) (aF.mk e c)) m];rfl
def aeF{e d:Nat}(a:d<1000000):mkA ⟨.struct [(3,0),(64,1)],2,32,[.int .i64 0,.slice none 0 0],false⟩ 66 e d 118 6 1=some ⟨.ptr d e 0,[(d,some ⟨e,66,[.nr 118 6 (4*e+2) [.int .i64 0,.nx 0 []]],false,false,true⟩)]⟩:=by
 unfold mkA;rw[if_pos ⟨by decide,rfl,rfl,by rw[gr];exact a,rfl⟩];rfl
def vmm:=ai @aeB<|ai @aeP<|ai @aeK<|ai @Y9<|ai @aaj<|@vi
def w:=ai @v<|ai @vmt<|ai @vme<|ai @vml<|ai @vab<|ai @vn<|ai @aeF<|@vmm
def bK:=ai @vme<|ai @aoJ<|ai @aoy<|ai @an8<|ai @aoL<|@aoE
def gT(l:Option (D×Row))(d:List D):=dx (dp (iQ (eI .i64))) (fun x:(List Int)=>fF x) (fun r:(List Int) =>.clean (.sl false false r.length (aq (eI .i64) r))) l d
def ZL{β:Type}{F:(List Int)->Option β}{R:β->RK}(a:(List Int)):dx (dp (iQ (eI .i64))) F R none [.sl false false a.length (aq (eI .i64) a)]=(F (a)).map fun r=>(R r,none):=cF _ _ _ (a)
def sK:b6 prog 155 gT:=b6.gO (mode:=.clean) tok bN.none mixed func155 (by kernel_rfl) (fun _ _=>rfl) (fun _=>by kernel_rfl) fun i r a=>by
 replace a:fF i=some r:=a;apply aD rfl ntmps155 results155;simp only[gP];unfold fF at a;simp only[w,seval];obtain⟨v,j,a⟩:=ae a;refine az (fun s t H e=>match s with|f=>t 0=sI i∧t 3=sN f) (fun o x t H e=>match o with|b=>x=.exit 0∧t 0=sI i∧t 3=sN b) j ?_ ?_ ?_
 ·refine⟨?_,?_⟩;all_goals (rfl)
 ·rintro f t H e d c a;simp only[pq]at a;simp only[w,seval,d];apply sp gj a<;>intro _ a
  ·obtain⟨A,k,a⟩:=ae a;have g:=bh (eI .i64) k;simp only[bK]at g;simp only[w,seval,d,g];apply sp av a<;>intro _ a
   ·cases a;simp only[w,seval,d];apply gS;and_intros<;>first|rfl|(simp only[w,seval,d]<;>rfl)
   ·cases a;simp only[w,seval];apply jf;refine⟨rfl,⟨?_,?_⟩⟩;all_goals ((simp only[w,seval,d]<;>rfl))
  ·cases a;simp only[w,seval];apply jf;refine⟨rfl,⟨?_,?_⟩⟩;all_goals ((simp only[w,seval,d]<;>rfl))
 ·rintro x t H e u;obtain⟨b,rfl⟩:∃z,z=v:=⟨_,rfl⟩;dsimp only at u a;obtain⟨rfl,l⟩:=u;obtain⟨B,m,a⟩:=ae a;obtain⟨n,y,p,q,h⟩:=Qm (eI .i64) m;simp only[bK]at h;cases a;simp only[w,seval,l,n,p,q,h]
def xw:=mkE 3 (eI .i64) (as0) (fun (l:(List Int)) (x:Unit)=>fF l)
def Qd(b a:List D)(c:(List Int)):xw (some (.buf 0 0 1 b.length c.length,⟨0,3,b++(aq (eI .i64) c++a),false,true,false⟩)) []=(fF c).map fun r=>(.fresh 3 1 r.length (aq (eI .i64) r),none):=aeG _ _ _ _ b a c ()
def PM(b a:List D)(i:(List Int))(r:(List Int))(d:fF i=some r):lP (.fresh 3 1) tab bd FU Tryz.f155 (some (.buf 0 0 1 b.length i.length,⟨0,3,b++(aq (eI .i64) i++a),false,true,false⟩)) []=some (.fresh 3 1 r.length (aq (eI .i64) r),none):=by
 apply KZ rfl ntmps155 results155;unfold fF at d;simp only[w,seval];obtain⟨F,q,d⟩:=ae d;refine az (fun s t H e=>match s with|k=>∃f:Nat,t 0=.buf 0 f 1 b.length (i).length∧t 3=sN k∧H 0=rW f 3 (b++(aq (eI .i64) i++a))) (fun o x t H e=>match o with|h=>x=.exit 0∧∃g:Nat,t 0=.buf 0 g 1 b.length (i).length∧t 3=sN h∧H 0=rW g 3 (b++(aq (eI .i64) i++a))) q ?_ ?_ ?_
 ·refine⟨0,?_,?_,?_⟩;all_goals (rfl)
 ·rintro k t H e ⟨f,j⟩ c d;simp only[pq]at d;simp only[w,seval,j];apply sp gj d<;>intro _ d
  ·obtain⟨I,u,d⟩:=ae d;have l:=S3 (pre:=b) (post:=a) (eI .i64) u;simp only[bK]at l;simp only[w,seval,j,l];apply sp av d<;>intro _ d
   ·cases d;simp only[w,seval,j];apply gS;refine⟨f,?_⟩;and_intros<;>first|rfl|(simp only[w,seval,j]<;>rfl)
   ·cases d;simp only[w,seval];apply jf;refine⟨rfl,⟨f,?_,?_,?_⟩⟩;all_goals ((simp only[w,seval,j]<;>rfl))
  ·cases d;simp only[w,seval];apply jf;refine⟨rfl,⟨f,?_,?_,?_⟩⟩;all_goals ((simp only[w,seval,j]<;>rfl))
 ·rintro x t H e E;obtain⟨h,rfl⟩:∃z,z=F:=⟨_,rfl⟩;dsimp only at E d;obtain⟨rfl,⟨g,v⟩⟩:=E;obtain⟨J,m,d⟩:=ae d;obtain⟨y,G,A,B,C⟩:=Qm (eI .i64) m;simp only[bK]at C;obtain⟨n,p⟩:=ahn (pre:=b) (post:=a) (eI .i64) m;simp only[bK]at n p;cases d;simp only[w,seval,v,y,A,n,p,B]
def Ly:b6 prog 155 xw:=b6.akr tok bN.none mixed func155 (by kernel_rfl) ⟨by kernel_rfl,by kernel_rfl⟩ (fun _=>aov (by kernel_rfl)) (fun b a l x r h=>PM b a l r h)
def cV(l:Option (D×Row))(d:List D):=dx (eZ (aI .i64) (dp (iQ (eI .i64)))) (fun x:Int×(List Int)=>ef x.1 x.2) (fun r:aF =>.clean (.agg [.int .i64 r.al,.sl false false r.aa.length (aq (eI .i64) r.aa)])) l d
def Hy{β:Type}{F:Int×(List Int)->Option β}{R:β->RK}(b:Int)(a:(List Int)):dx (eZ (aI .i64) (dp (iQ (eI .i64)))) F R none [.int .i64 b,.sl false false a.length (aq (eI .i64) a)]=(F (b,a)).map fun r=>(R r,none):=cF _ _ _ (b,a)
def xW:Env:=(Am.ext bd 155 false gT)
def Lm:bN prog xW:=(bN.none.add sK false)
def yK:=ai @w<|ai @ZL<|ai @gT.eq_1<|@xW.eq_1
def lX:b6 prog 113 cV:=b6.gO (mode:=.clean) tok Lm mixed func113 (by kernel_rfl) (fun _ _=>rfl) (fun _=>by kernel_rfl) fun⟨c,d⟩ r a=>by
 replace a:ef c d=some r:=a;apply aD rfl ntmps113 results113;simp only[gP];unfold ef at a;obtain⟨e,b,a⟩:=ae a;simp only[yK,seval,b];apply sp av a<;>intro _ a
 ·cases a;simp only[yK,seval]
 ·cases a;simp only[yK,seval]
def ud(l:Option (D×Row))(d:List D):=dx (dp (aI .i64)) (fun x:Int=>xJ x) (fun r:aF =>.clean (.agg [.int .i64 r.al,.sl false false r.aa.length (aq (eI .i64) r.aa)])) l d
def GK{β:Type}{F:Int->Option β}{R:β->RK}(a:Int):dx (dp (aI .i64)) F R none [.int .i64 a]=(F (a)).map fun r=>(R r,none):=cF _ _ _ (a)
def IY:Env:=(Am.ext bd 113 false cV)
def aa2:bN prog IY:=(bN.none.add lX false)
def lQ:=ai @w<|ai @Hy<|ai @cV.eq_1<|@IY.eq_1
def NW:b6 prog 61 ud:=b6.gO (mode:=.clean) tok aa2 mixed func61 (by kernel_rfl) (fun _ _=>rfl) (fun _=>by kernel_rfl) fun I r a=>by
 replace a:xJ I=some r:=a;apply aD rfl ntmps61 results61;simp only[gP];unfold xJ at a;simp only[lQ,seval,-Int.reduceToNat];obtain⟨J,A,a⟩:=ae a;refine oB 0 (fun s t H e=>match s with|(b,k)=>∃d:Nat,t 2=.ptr 2 d 0∧t 3=sN b∧t 4=.int .u64 k∧H 2=rV d 39 [sN 0,.sl true true 0 []]) (fun s=>s=J) ?_ ?_
 ·rintro⟨b,k⟩ t H e ⟨d,B⟩ rfl;try dsimp only at a
  simp only[lQ,seval,-Int.reduceToNat];obtain⟨K,C,a⟩:=ae a;refine az (fun s t H e=>match s with|(n,m)=>∃f:Nat,∃j:Nat,t 2=.ptr 2 f 0∧t 3=sN b∧t 4=.int .u64 n∧t 5=.buf 5 j 1 0 (m).length∧H 2=rV f 39 [sN 0,.sl true true 0 []]∧H 5=rW j 3 (aq (eI .i64) m)) (fun o x t H e=>match o with|g=>x=.exit 0∧∃h:Nat,∃i:Nat,t 2=.ptr 2 h 0∧t 3=sN b∧t 5=.buf 5 i 1 0 (g).length∧H 2=rV h 39 [sN 0,.sl true true 0 []]∧H 5=rW i 3 (aq (eI .i64) g)) C ?_ ?_ ?_
  ·refine⟨d,e,?_⟩;and_intros<;>first|rfl|(simp only[lQ,seval,-Int.reduceToNat,B]<;>rfl)
  ·rintro⟨n,m⟩ t H e ⟨f,j,y⟩ c a;simp only[Ba]at a;simp only[lQ,seval,-Int.reduceToNat,y];apply sp av a<;>intro _ a
   ·obtain⟨N,D,a⟩:=ae a;obtain⟨p,l,q,u⟩:=iR (eI .i64) D;simp only[bK]at l;obtain⟨L,v,a⟩:=ae a;have E:=yB v;cases a;simp only[lQ,seval,-Int.reduceToNat,y,p,l,q,u,E];apply gS;refine⟨f,e+1,?_⟩;and_intros<;>first|rfl|(simp only[lQ,seval,-Int.reduceToNat,y]<;>rfl)
   ·cases a;simp only[lQ,seval,-Int.reduceToNat];apply jf;refine⟨rfl,⟨f,j,?_,?_,?_,?_,?_⟩⟩;all_goals ((simp only[lQ,seval,-Int.reduceToNat,y]<;>rfl))
  ·rintro x t H e G;obtain⟨g,rfl⟩:∃z,z=K:=⟨_,rfl⟩;dsimp only at G a;obtain⟨rfl,⟨h,i,F⟩⟩:=G;obtain⟨M,w,a⟩:=ae a;cases a;simp only[lQ,seval,-Int.reduceToNat,F,w]
 ·clear a;have a:=A;simp only[lQ,seval,-Int.reduceToNat];apply sp av a<;>intro _ a
  ·cases a;simp only[lQ,seval,-Int.reduceToNat];rw[ay];refine⟨_,rfl,?_⟩;refine⟨0,?_,?_,?_,?_⟩;all_goals (rfl)
  ·cases a;simp only[lQ,seval,-Int.reduceToNat];rw[ay];refine⟨_,rfl,?_⟩;refine⟨0,?_,?_,?_,?_⟩;all_goals (rfl)
def ca(l:Option (D×Row))(d:List D):=dx (dp (bC e9)) (fun x:aF=>dX x) (fun r:Bool =>.clean (.bool r)) l d
def y3{β:Type}{F:aF->Option β}{R:β->RK}(b:Int)(a:(List Int)):dx (dp (bC e9)) F R none [.agg [.int .i64 b,.sl false false a.length (aq (eI .i64) a)]]=(F ((aF.mk b a))).map fun r=>(R r,none):=cF _ _ _ ((aF.mk b a))
def iX:b6 prog 103 ca:=b6.gO (mode:=.clean) tok bN.none mixed func103 (by kernel_rfl) (fun _ _=>rfl) (fun _=>by kernel_rfl) fun g r a=>by
 replace a:dX g=some r:=a;apply aD rfl ntmps103 results103;simp only[gP];unfold dX at a;simp only[w,seval];obtain⟨v,q,a⟩:=ae a;refine az (fun s t H e=>match s with|h=>∃d:Nat,t 1=.ptr 1 d 0∧t 3=sN (g.aa.length:Int)∧t 10=sI g.aa∧t 11=sN (g.aa.length:Int)∧t 12=sN h∧H 1=rV d 39 [sN g.al,sI g.aa]) (fun o x t H e=>match o with|(.inl _)=>x=.exit 0∧∃f:Nat,t 1=.ptr 1 f 0∧t 3=sN (g.aa.length:Int)∧H 1=rV f 39 [sN g.al,sI g.aa]|(.inr r)=>x=.ret∧gF .clean tab none [.tmp 2] ⟨t,EH H,e⟩=some (.clean (.bool r),none)) q ?_ ?_ ?_
 ·refine⟨0,?_,?_,?_,?_,?_,?_⟩;all_goals (rfl)
 ·rintro h t H e ⟨d,k⟩ c a;simp only[tx]at a;simp only[w,seval,k];apply sp av a<;>intro _ a
  ·obtain⟨B,u,a⟩:=ae a;have l:=bh (eI .i64) u;simp only[bK]at l;simp only[w,seval,k,l];apply sp aZ a<;>intro _ a
   ·cases a;simp only[w,seval];refine tf ⟨rfl,?_⟩;simp only[w,seval]
   ·simp only[w,seval];apply sp av a<;>intro _ a
    ·cases a;simp only[w,seval];refine tf ⟨rfl,?_⟩;simp only[w,seval]
    ·cases a;simp only[w,seval,k];apply gS;refine⟨d,?_⟩;and_intros<;>first|rfl|(simp only[w,seval,k]<;>rfl)
  ·cases a;simp only[w,seval];apply jf;refine⟨rfl,⟨d,?_,?_,?_⟩⟩;all_goals ((simp only[w,seval,k]<;>rfl))
 ·rintro x t H e p;rcases v with _|C
  ·dsimp only at p a;obtain⟨rfl,⟨f,b⟩⟩:=p;simp only[w,seval,b];apply sp av a<;>intro _ a
   ·cases a;simp only[w,seval,b]
   ·simp only[w,seval,b];apply sp aZ a<;>intro _ a
    ·obtain⟨y,m,a⟩:=ae a;have i:=bh (eI .i64) m;simp only[bK]at i;cases a;simp only[w,seval,b,i]
    ·simp only[w,seval,b];apply sp gj a<;>intro _ a
     ·obtain⟨z,n,a⟩:=ae a;have j:=bh (eI .i64) n;simp only[bK]at j;cases a;simp only[w,seval,b,j]
     ·cases a;simp only[w,seval]
  ·dsimp only at p a;obtain⟨rfl,A⟩:=p;cases a;simp only[aV,bc,cw,cL];exact A
def BH(r:(List Int))(a:cy []=some r):lP (.fresh 3 1) tab bd FU Tryz.f55 none [.sl true true 0 []]=some (.fresh 3 1 r.length (aq (eI .i64) r),none):=by
 unfold cy at a;obtain⟨b,c,d⟩:=vC a;subst b;apply aD rfl ntmps55 results55;simp only[w,seval,Nat.lt_irrefl]
def BI(r:(List Int))(a:cy []=some r):lP (.fresh 3 1) tab bd FU Tryz.f55 none [.sl true false 0 []]=some (.fresh 3 1 r.length (aq (eI .i64) r),none):=by
 unfold cy at a;obtain⟨b,c,d⟩:=vC a;subst b;apply aD rfl ntmps55 results55;simp only[w,seval,Nat.lt_irrefl]
def BJ(a r:(List Int))(c:0<a.length)(b:cy a=some r):lP (.fresh 3 1) tab bd FU Tryz.f55 none [.sl false false a.length (aq (eI .i64) a)]=some (.fresh 3 1 r.length (aq (eI .i64) r),none):=by
 unfold cy at b;have g:¬a.length=0:=by omega
 obtain⟨d,e,f⟩:=vC b;subst d;apply aD rfl ntmps55 results55;simp only[w,seval,c,e,f]
def gB:=dx (dp (iQ (eI .i64))) (fun x:(List Int)=>cy x) (fun r:(List Int) =>.fresh 3 1 r.length (aq (eI .i64) r))
def dU(a:(List Int)):gB none [.sl false false a.length (aq (eI .i64) a)]=(cy a).map fun r:(List Int)=>(.fresh 3 1 r.length (aq (eI .i64) r),none):=cF _ _ _ a
def jC:b6 prog 55 gB:=b6.aic (mode:=(.fresh 3 1)) tok bN.none mixed func55 (by kernel_rfl) ⟨by kernel_rfl,by kernel_rfl⟩ (aov (by kernel_rfl)) BH BI BJ
def qN(l:Option (D×Row))(d:List D):=dx (dp (bC e9)) (fun x:aF=>tw x) (fun r:aF =>.clean (.agg [.int .i64 r.al,.sl false false r.aa.length (aq (eI .i64) r.aa)])) l d
def EI:Env:=(Am.ext (Am.ext (Am.ext bd 55 false gB) 103 false ca) 113 false cV)
def Wi:bN prog EI:=(((bN.none.add jC false).add iX false).add lX false)
def FP:=ai @w<|ai @dU<|ai @y3<|ai @ca.eq_1<|ai @Hy<|ai @cV.eq_1<|@EI.eq_1
def JV:b6 prog 71 qN:=b6.gO (mode:=.clean) tok Wi mixed func71 (by kernel_rfl) (fun _ _=>rfl) (fun _=>by kernel_rfl) fun e r a=>by
 replace a:tw e=some r:=a;apply aD rfl ntmps71 results71;simp only[gP];unfold tw at a;obtain⟨f,b,a⟩:=ae a;simp only[FP,seval,b];apply sp av a<;>intro _ a
 ·cases a;simp only[FP,seval]
 ·obtain⟨g,c,a⟩:=ae a;obtain⟨h,d,a⟩:=ae a;simp only[FP,seval,c,d];refine bA (by kernel_rfl) ?_;cases a;simp only[seval]
def oa(l:Option (D×Row))(d:List D):=dx (eZ ahL (dp (bC e9))) (fun x:Bool×aF=>fV x.1 x.2) (fun r:aF×Int =>.clean (.tup [.agg [.int .i64 r.1.al,.sl false false r.1.aa.length (aq (eI .i64) r.1.aa)],.int .i64 r.2])) l d
def uY:b6 prog 114 oa:=b6.gO (mode:=.clean) tok bN.none mixed func114 (by kernel_rfl) (fun _ _=>rfl) (fun _=>by kernel_rfl) fun⟨b,c⟩ r a=>by
 replace a:fV b c=some r:=a;apply aD rfl ntmps114 results114;simp only[gP];unfold fV at a;simp only[w,seval];apply sp av a<;>intro _ a
 ·cases a;simp only[w,seval]
 ·cases a;simp only[w,seval]
def vv(l:Option (D×Row))(d:List D):=dx (dp (aI .i64)) (fun x:Int=>tT x) (fun r:Bool =>.clean (.bool r)) l d
def PZ:b6 prog 153 vv:=b6.gO (mode:=.clean) tok bN.none mixed func153 (by kernel_rfl) (fun _ _=>rfl) (fun _=>by kernel_rfl) fun b r a=>by
 replace a:tT b=some r:=a;apply aD rfl ntmps153 results153;simp only[gP];unfold tT at a;cases a;simp only[w,seval]
def eD(l:Option (D×Row))(d:List D):=dx (eZ (aI .i64) (dp (aI .i64))) (fun x:Int×Int=>iu x.1 x.2) (fun r:Int =>.clean (.int .i64 r)) l d
def K6{β:Type}{F:Int×Int->Option β}{R:β->RK}(a:Int)(b:Int):dx (eZ (aI .i64) (dp (aI .i64))) F R none [.int .i64 a,.int .i64 b]=(F (a,b)).map fun r=>(R r,none):=cF _ _ _ (a,b)
def wF:Env:=(Am.ext bd 153 false vv)
def I8:bN prog wF:=(bN.none.add PZ false)
def fM:=ai @w<|ai @GK<|ai @vv.eq_1<|@wF.eq_1
def qp:b6 prog 110 eD:=b6.gO (mode:=.clean) tok I8 mixed func110 (by kernel_rfl) (fun _ _=>rfl) (fun _=>by kernel_rfl) fun⟨d,e⟩ r a=>by
 replace a:iu d e=some r:=a;apply aD rfl ntmps110 results110;simp only[gP];unfold iu at a;obtain⟨f,b,a⟩:=ae a;obtain⟨g,c,a⟩:=ae a;simp only[fM,seval,b,c];apply sp av a<;>intro _ a
 ·simp only[fM,seval];apply sp av a<;>intro _ a
  ·cases a;simp only[fM,seval]
  ·cases a;simp only[fM,seval]
 ·simp only[fM,seval];apply sp av a<;>intro _ a
  ·cases a;simp only[fM,seval]
  ·simp only[fM,seval];apply sp av a<;>intro _ a
   ·cases a;simp only[fM,seval]
   ·simp only[fM,seval];apply sp av a<;>intro _ a
    ·cases a;simp only[fM,seval]
    ·cases a;simp only[fM,seval]
def gw(l:Option (D×Row))(d:List D):=dx (eZ (iQ (eI .i64)) (dp (iQ (eI .i64)))) (fun x:(List Int)×(List Int)=>jb x.1 x.2) (fun r:Int =>.clean (.int .i64 r)) l d
def GL{β:Type}{F:(List Int)×(List Int)->Option β}{R:β->RK}(a:(List Int))(b:(List Int)):dx (eZ (iQ (eI .i64)) (dp (iQ (eI .i64)))) F R none [.sl false false a.length (aq (eI .i64) a),.sl false false b.length (aq (eI .i64) b)]=(F (a,b)).map fun r=>(R r,none):=cF _ _ _ (a,b)
def wB:Env:=(Am.ext bd 110 false eD)
def I4:bN prog wB:=(bN.none.add qp false)
def fL:=ai @w<|ai @K6<|ai @eD.eq_1<|@wB.eq_1
def uZ:b6 prog 111 gw:=b6.gO (mode:=.clean) tok I4 mixed func111 (by kernel_rfl) (fun _ _=>rfl) (fun _=>by kernel_rfl) fun⟨n,p⟩ r a=>by
 replace a:jb n p=some r:=a;apply aD rfl ntmps111 results111;simp only[gP];unfold jb at a;simp only[fL,seval];apply sp av a<;>intro _ a
 ·obtain⟨z,l,a⟩:=ae a;cases a;simp only[fL,seval,l]
 ·simp only[fL,seval];obtain⟨q,m,a⟩:=ae a;refine az (fun s t H e=>match s with|h=>t 0=sI n∧t 1=sI p∧t 5=sN h) (fun o x t H e=>match o with|(.inl _)=>x=.exit 0|(.inr r)=>x=.ret∧gF .clean tab none [.tmp 4] ⟨t,EH H,e⟩=some (.clean (.int .i64 r),none)) m ?_ ?_ ?_
  ·refine⟨?_,?_,?_⟩;all_goals (rfl)
  ·rintro h t H e i c a;simp only[pX]at a;simp only[fL,seval,i];apply sp av a<;>intro _ a
   ·obtain⟨u,f,a⟩:=ae a;have b:=bh (eI .i64) f;simp only[bK]at b;obtain⟨v,g,a⟩:=ae a;have d:=bh (eI .i64) g;simp only[bK]at d;simp only[fL,seval,i,b,d];refine bA (by kernel_rfl) ?_;apply sp av a<;>intro _ a
    ·have b:=bh (eI .i64) f;simp only[bK]at b;have d:=bh (eI .i64) g;simp only[bK]at d;obtain⟨w,j,a⟩:=ae a;simp only[fL,seval,i,b,d,j];refine bA (by kernel_rfl) ?_;cases a;refine tf ⟨rfl,?_⟩;simp only[fL,seval]
    ·cases a;simp only[fL,seval,i];apply gS;and_intros<;>first|rfl|(simp only[fL,seval,i]<;>rfl)
   ·cases a;simp only[fL,seval];apply jf;exact rfl
  ·rintro x t H e k;rcases q with _|A
   ·dsimp only at k a;subst k;cases a;simp only[fL,seval]
   ·dsimp only at k a;obtain⟨rfl,y⟩:=k;cases a;simp only[aV,bc,cw,cL];exact y
def vu(l:Option (D×Row))(d:List D):=dx (eZ (iQ (eI .i64)) (dp (aI .i64))) (fun x:(List Int)×Int=>q8 x.1 x.2) (fun r:(List Int)×Int =>.clean (.tup [.sl false false r.1.length (aq (eI .i64) r.1),.int .i64 r.2])) l d
def sh7{β:Type}{F:(List Int)×Int->Option β}{R:β->RK}(a:(List Int))(b:Int):dx (eZ (iQ (eI .i64)) (dp (aI .i64))) F R none [.sl false false a.length (aq (eI .i64) a),.int .i64 b]=(F (a,b)).map fun r=>(R r,none):=cF _ _ _ (a,b)
def zT:Env:=(Am.ext bd 155 false gT)
def Pt:bN prog zT:=(bN.none.add sK false)
def mU:=ai @w<|ai @ZL<|ai @gT.eq_1<|@zT.eq_1
def PY:b6 prog 183 vu:=b6.gO (mode:=.clean) tok Pt mixed func183 (by kernel_rfl) (fun _ _=>rfl) (fun _=>by kernel_rfl) fun⟨O,P⟩ r a=>by
 replace a:q8 O P=some r:=a;apply aD rfl ntmps183 results183;simp only[gP];unfold q8 at a;obtain⟨W,D,a⟩:=ae a;obtain⟨E,F,G,m,I⟩:=mk_one (eI .i64) D;simp only[bK]at m;simp only[mU,seval,-Int.reduceToNat,E,F,G,m,I];obtain⟨J,n,a⟩:=ae a;refine az (fun s t H e=>match s with|(p,q,l)=>∃b:Nat,t 0=sI O∧t 1=sN P∧t 6=.buf 6 b 1 0 (l).length∧t 7=sN p∧t 8=sN q∧H 6=rW b 3 (aq (eI .i64) l)) (fun o x t H e=>match o with|(g,d)=>x=.exit 0∧∃f:Nat,t 6=.buf 6 f 1 0 (d).length∧t 7=sN g∧H 6=rW f 3 (aq (eI .i64) d)) n ?_ ?_ ?_
 ·refine⟨1,?_,?_,?_,?_,?_,?_⟩;all_goals (rfl)
 ·rintro⟨p,q,l⟩ t H e ⟨b,C⟩ c a;simp only[tC]at a;simp only[mU,seval,-Int.reduceToNat,C];apply sp av a<;>intro _ a
  ·obtain⟨R,u,a⟩:=ae a;have K:=Hz u;obtain⟨S,v,a⟩:=ae a;have h:=bh (eI .i64) v;simp only[bK]at h;obtain⟨w,y,a⟩:=ae a;have L:=xT y;obtain⟨T,i,a⟩:=ae a;have j:=bh (eI .i64) i;simp only[bK]at j;have z:=eN (eI .i64) (x':=w) (fo:=0) (cs:=[.int .i64 w]) i rfl (aov rfl);simp only[bK,Nat.add_zero]at z;have k:=z;simp only[putCells,List.length_cons,List.length_nil,an5]at k;obtain⟨U,A,a⟩:=ae a;have M:=DT A;cases a;simp only[mU,seval,-Int.reduceToNat,C,K,h,L,j,k,M];apply gS;refine⟨b,?_⟩;and_intros<;>first|rfl|(simp only[mU,seval,-Int.reduceToNat,C]<;>rfl)
  ·cases a;simp only[mU,seval,-Int.reduceToNat];apply jf;refine⟨rfl,⟨b,?_,?_,?_⟩⟩;all_goals ((simp only[mU,seval,-Int.reduceToNat,C]<;>rfl))
 ·rintro x t H e Q;rcases J with⟨g,d⟩;dsimp only at Q a;obtain⟨rfl,⟨f,N⟩⟩:=Q;obtain⟨V,B,a⟩:=ae a;cases a;simp only[mU,seval,-Int.reduceToNat,N,B]
def tS(l:Option (D×Row))(d:List D):=dx (eZ (iQ (eI .i64)) (dp (iQ (eI .i64)))) (fun x:(List Int)×(List Int)=>tz x.1 x.2) (fun r:(List Int) =>.fresh 3 1 r.length (aq (eI .i64) r)) l d
def EL:Env:=(Am.ext bd 155 true xw)
def Wl:bN prog EL:=(bN.none.add Ly true)
def iK:=ai @w<|@EL.eq_1
def JY:b6 prog 154 tS:=b6.gO (mode:=(.fresh 3 1)) tok Wl mixed func154 (by kernel_rfl) (fun _ _=>rfl) (fun _=>by kernel_rfl) fun⟨B,F⟩ r a=>by
 replace a:tz B F=some r:=a;apply aD rfl ntmps154 results154;simp only[gP];unfold tz at a;obtain⟨x1,Y,a⟩:=ae a;obtain⟨Z,aa,ab,G,ad⟩:=mk_one (eI .i64) Y;simp only[bK]at G;simp only[iK,seval,-Int.reduceToNat,Z,aa,ab,G,ad];obtain⟨ag,I,a⟩:=ae a;refine az (fun s t H e=>match s with|(b,C)=>∃j:Nat,t 1=sI F∧t 5=.buf 5 j 1 0 (C).length∧t 18=sI B∧t 19=sN (B.length:Int)∧t 20=sN b∧H 5=rW j 3 (aq (eI .i64) C)) (fun o x t H e=>match o with|d=>x=.exit 0∧∃k:Nat,t 5=.buf 5 k 1 0 (d).length∧H 5=rW k 3 (aq (eI .i64) d)) I ?_ ?_ ?_
 ·refine⟨1,?_,?_,?_,?_,?_,?_⟩;all_goals (rfl)
 ·rintro⟨b,C⟩ t H e ⟨j,W⟩ c a;simp only[xO]at a;simp only[iK,seval,-Int.reduceToNat,W];apply sp av a<;>intro _ a
  ·obtain⟨D,J,a⟩:=ae a;have u:=bh (eI .i64) J;simp only[bK]at u;simp only[iK,seval,-Int.reduceToNat,W,u];obtain⟨ah,K,a⟩:=ae a;refine az (fun s t H e=>match s with|(q,v,E)=>∃l:Nat,t 1=sI F∧t 5=.buf 5 l 1 0 (E).length∧t 6=sN b∧t 7=sN D∧t 8=sN q∧t 18=sI B∧t 19=sN (B.length:Int)∧t 20=sN b∧t 25=sI F∧t 26=sN (F.length:Int)∧t 27=sN v∧H 5=rW l 3 (aq (eI .i64) E)) (fun o x t H e=>match o with|(f,m)=>x=.exit 2∧∃g:Nat,t 1=sI F∧t 5=.buf 5 g 1 0 (m).length∧t 6=sN b∧t 8=sN f∧t 18=sI B∧t 19=sN (B.length:Int)∧t 20=sN b∧H 5=rW g 3 (aq (eI .i64) m)) K ?_ ?_ ?_
   ·refine⟨j,?_⟩;and_intros<;>first|rfl|(simp only[iK,seval,-Int.reduceToNat,W]<;>rfl)
   ·rintro⟨q,v,E⟩ t H e ⟨l,X⟩ c a;simp only[xP]at a;simp only[iK,seval,-Int.reduceToNat,X];apply sp av a<;>intro _ a
    ·obtain⟨L,M,a⟩:=ae a;have w:=bh (eI .i64) M;simp only[bK]at w;obtain⟨N,n,a⟩:=ae a;have h:=bh (eI .i64) n;simp only[bK]at h;obtain⟨ak,O,a⟩:=ae a;have ai:=yB O;have h:=bh (eI .i64) n;simp only[bK]at h;have P:=eN (eI .i64) (x':=nR .and .i64 (IntKind.i64.wrap ((IntKind.i64.wrap (N+(IntKind.i64.wrap (D*L))))+q)) 1048575) (fo:=0) (cs:=[.int .i64 (nR .and .i64 (IntKind.i64.wrap ((IntKind.i64.wrap (N+(IntKind.i64.wrap (D*L))))+q)) 1048575)]) n rfl (aov rfl);simp only[bK,Nat.add_zero]at P;have y:=P;simp only[putCells,List.length_cons,List.length_nil,an5]at y;cases a;simp only[iK,seval,-Int.reduceToNat,X,w,ai,h,y];apply gS;refine⟨l,?_⟩;and_intros<;>first|rfl|(simp only[iK,seval,-Int.reduceToNat,X]<;>rfl)
    ·cases a;simp only[iK,seval,-Int.reduceToNat];apply jf;refine⟨rfl,⟨l,?_,?_,?_,?_,?_,?_,?_,?_⟩⟩;all_goals ((simp only[iK,seval,-Int.reduceToNat,X]<;>rfl))
   ·rintro x t H e Q;rcases ah with⟨f,m⟩;dsimp only at Q a;obtain⟨rfl,⟨g,R⟩⟩:=Q;obtain⟨S,p,a⟩:=ae a;have i:=bh (eI .i64) p;simp only[bK]at i;have i:=bh (eI .i64) p;simp only[bK]at i;have T:=eN (eI .i64) (x':=IntKind.i64.wrap (S+f)) (fo:=0) (cs:=[.int .i64 (IntKind.i64.wrap (S+f))]) p rfl (aov rfl);simp only[bK,Nat.add_zero]at T;have A:=T;simp only[putCells,List.length_cons,List.length_nil,an5]at A;cases a;simp only[iK,seval,-Int.reduceToNat,R,i,A];apply gS;refine⟨g,?_⟩;and_intros<;>first|rfl|(simp only[iK,seval,-Int.reduceToNat,R]<;>rfl)
  ·cases a;simp only[iK,seval,-Int.reduceToNat];apply jf;refine⟨rfl,⟨j,?_,?_⟩⟩;all_goals ((simp only[iK,seval,-Int.reduceToNat,W]<;>rfl))
 ·rintro x t H e Q;obtain⟨d,rfl⟩:∃z,z=ag:=⟨_,rfl⟩;dsimp only at Q a;obtain⟨rfl,⟨k,aj⟩⟩:=Q;have U:=Qd [] [] d;simp only[List.nil_append,aoI,List.length_nil]at U;obtain⟨al,V,a⟩:=ae a;cases a;simp only[iK,seval,-Int.reduceToNat,aj,U,V]
def ue:=mkW 3 (eI .i64) (eZ (iQ (eI .i64)) (dp (aI .i64))) (fun (l:(List Int)) (x:(List Int)×Int)=>iS l x.1 x.2) (fun r:Int =>.clean (.int .i64 r))
def Km(b a:List D)(c:(List Int))(d:(List Int))(e:Int):ue (some (.buf 0 0 1 b.length c.length,⟨0,3,b++(aq (eI .i64) c++a),false,true,false⟩)) [.sl false false d.length (aq (eI .i64) d),.int .i64 e]=(iS c d e).map fun r=>(.clean (.int .i64 r.2),some ⟨0,3,b++(aq (eI .i64) r.1++a),false,true,false⟩):=aeJ _ _ _ _ _ b a c (d,e)
def Jv(d a:List D)(L:(List Int))(y:(List Int))(A:Int)(r:(List Int)×(Int))(b:iS L y A=some r):lP .clean tab bd FU Tryz.f184 (some (.buf 0 0 1 d.length L.length,⟨0,3,d++(aq (eI .i64) L++a),false,true,false⟩)) [.sl false false y.length (aq (eI .i64) y),.int .i64 A]=some (.clean (.int .i64 r.2),some ⟨0,3,d++(aq (eI .i64) r.1++a),false,true,false⟩):=by
 apply KZ rfl ntmps184 results184;unfold iS at b;obtain⟨rw,Z,b⟩:=ae b;split at b;rotate_left
 ·cases b
 cases b;rename_i ak;replace b:=Z;unfold uv at b;simp only[w,seval,-Int.reduceToNat];obtain⟨o9,aa,b⟩:=ae b;refine az (fun s t H e=>match s with|(M,j,l)=>t 0=.buf 0 0 1 d.length (l).length∧t 1=sI y∧t 2=sN A∧t 7=sN M∧t 13=sN ((L).length:Int)∧t 14=sN j∧H 0=rW 0 3 (d++(aq (eI .i64) l++a))) (fun o x t H e=>match o with|(B,h)=>x=.exit 0∧t 0=.buf 0 0 1 d.length (h).length∧t 1=sI y∧t 2=sN A∧t 7=sN B∧H 0=rW 0 3 (d++(aq (eI .i64) h++a))) aa ?_ ?_ ?_
 ·refine⟨?_,?_,?_,?_,?_,?_,?_⟩;all_goals (rfl)
 ·rintro⟨M,j,l⟩ t H e J c b;simp only[oH]at b;simp only[w,seval,-Int.reduceToNat,J];apply sp av b<;>intro _ b
  ·obtain⟨al,m,b⟩:=ae b;have f:=S3 (pre:=d) (post:=a) (eI .i64) m;simp only[bK]at f;simp only[w,seval,-Int.reduceToNat,J,f];obtain⟨ab,N,b⟩:=ae b;refine oB 0 (fun s t H e=>match s with|n=>t 0=.buf 0 0 1 d.length (l).length∧t 1=sI y∧t 2=sN A∧t 8=sN j∧t 9=sN n∧t 13=sN ((L).length:Int)∧t 14=sN j∧H 0=rW 0 3 (d++(aq (eI .i64) l++a))) (fun s=>s=ab) ?_ ?_
   ·rintro n t H e O rfl;try dsimp only at b
    have f:=S3 (pre:=d) (post:=a) (eI .i64) m;simp only[bK]at f;have P:=Uu (pre:=d) (post:=a) (eI .i64) (y':=nR .and .i64 n 1048575) m;simp only[bK]at P;have C:=P;simp only[putCells,List.length_cons,List.length_nil,an5]at C;obtain⟨ao,Q,b⟩:=ae b;have ad:=yB Q;cases b;simp only[w,seval,-Int.reduceToNat,O,f,C,ad];apply gS;and_intros<;>first|rfl|(simp only[w,seval,-Int.reduceToNat,O]<;>rfl)
   ·clear b;have b:=N;simp only[w,seval,-Int.reduceToNat];apply sp av b<;>intro _ b
    ·obtain⟨ar,R,b⟩:=ae b;have E:=bh (eI .i64) R;simp only[bK]at E;cases b;simp only[w,seval,-Int.reduceToNat,J,f,E];rw[ay];refine⟨_,rfl,?_⟩;and_intros<;>first|rfl|(simp only[w,seval,-Int.reduceToNat,J]<;>rfl)
    ·cases b;simp only[w,seval,-Int.reduceToNat];rw[ay];refine⟨_,rfl,?_⟩;and_intros<;>first|rfl|(simp only[w,seval,-Int.reduceToNat,J]<;>rfl)
  ·cases b;simp only[w,seval,-Int.reduceToNat];apply jf;refine⟨rfl,⟨?_,?_,?_,?_,?_⟩⟩;all_goals ((simp only[w,seval,-Int.reduceToNat,J]<;>rfl))
 ·rintro x t H e S;rcases o9 with⟨B,h⟩;dsimp only at S b;obtain⟨rfl,v⟩:=S;simp only[w,seval,-Int.reduceToNat,v];apply sp av b<;>intro _ b
  ·cases b;simp only[w,seval,-Int.reduceToNat,v]
  ·simp only[w,seval,-Int.reduceToNat,v];obtain⟨ag,T,b⟩:=ae b;refine az (fun s t H e=>match s with|(F,k,p)=>t 0=.buf 0 0 1 d.length (p).length∧t 1=sI y∧t 2=sN A∧t 10=sN F∧t 48=sN ((h).length:Int)∧t 49=sN k∧H 0=rW 0 3 (d++(aq (eI .i64) p++a))) (fun o x t H e=>match o with|q=>x=.exit 2∧t 0=.buf 0 0 1 d.length (q).length∧t 2=sN A∧H 0=rW 0 3 (d++(aq (eI .i64) q++a))) T ?_ ?_ ?_
   ·and_intros<;>first|rfl|(simp only[w,seval,-Int.reduceToNat,v]<;>rfl)
   ·rintro⟨F,k,p⟩ t H e K c b;simp only[oI]at b;simp only[w,seval,-Int.reduceToNat,K];apply sp av b<;>intro _ b
    ·obtain⟨au,u,b⟩:=ae b;have g:=S3 (pre:=d) (post:=a) (eI .i64) u;simp only[bK]at g;simp only[w,seval,-Int.reduceToNat,K,g];obtain⟨ah,U,b⟩:=ae b;refine oB 0 (fun s t H e=>match s with|i=>t 0=.buf 0 0 1 d.length (p).length∧t 1=sI y∧t 2=sN A∧t 10=sN i∧t 11=sN k∧t 48=sN ((h).length:Int)∧t 49=sN k∧H 0=rW 0 3 (d++(aq (eI .i64) p++a))) (fun s=>s=ah) ?_ ?_
     ·rintro i t H e V rfl;try dsimp only at b
      have g:=S3 (pre:=d) (post:=a) (eI .i64) u;simp only[bK]at g;have W:=Uu (pre:=d) (post:=a) (eI .i64) (y':=nR .and .i64 i 1048575) u;simp only[bK]at W;have G:=W;simp only[putCells,List.length_cons,List.length_nil,an5]at G;obtain⟨aw,X,b⟩:=ae b;have ai:=yB X;cases b;simp only[w,seval,-Int.reduceToNat,V,g,G,ai];apply gS;and_intros<;>first|rfl|(simp only[w,seval,-Int.reduceToNat,V]<;>rfl)
     ·clear b;have b:=U;simp only[w,seval,-Int.reduceToNat];apply sp av b<;>intro _ b
      ·obtain⟨ax,Y,b⟩:=ae b;have I:=bh (eI .i64) Y;simp only[bK]at I;cases b;simp only[w,seval,-Int.reduceToNat,K,g,I];rw[ay];refine⟨_,rfl,?_⟩;and_intros<;>first|rfl|(simp only[w,seval,-Int.reduceToNat,K]<;>rfl)
      ·cases b;simp only[w,seval,-Int.reduceToNat];rw[ay];refine⟨_,rfl,?_⟩;and_intros<;>first|rfl|(simp only[w,seval,-Int.reduceToNat,K]<;>rfl)
    ·cases b;simp only[w,seval,-Int.reduceToNat];apply jf;refine⟨rfl,⟨?_,?_,?_⟩⟩;all_goals ((simp only[w,seval,-Int.reduceToNat,K]<;>rfl))
   ·rintro x t H e S;obtain⟨q,rfl⟩:∃z,z=ag:=⟨_,rfl⟩;dsimp only at S b;obtain⟨rfl,aj⟩:=S;cases b;simp only[w,seval,-Int.reduceToNat,aj]
def Hb:b6 prog 184 ue:=b6.aks (mode:=.clean) tok bN.none mixed func184 (by kernel_rfl) ⟨by kernel_rfl,by kernel_rfl⟩ (fun _=>aov (by kernel_rfl)) (fun b a l x c r h=>Jv b a l x.1 x.2 (c,r) h)
def qO(l:Option (D×Row))(d:List D):=dx (eZ (iQ (eI .i64)) (dp (iQ (eI .i64)))) (fun x:(List Int)×(List Int)=>xK x.1 x.2) (fun r:(List Int)×(List Int) =>.clean (.tup [.sl false false r.1.length (aq (eI .i64) r.1),.sl false false r.2.length (aq (eI .i64) r.2)])) l d
def N6(a:(List Int))(b:(List Int)):tS none [.sl false false a.length (aq (eI .i64) a),.sl false false b.length (aq (eI .i64) b)]=(tz a b).map fun r:(List Int)=>(.fresh 3 1 r.length (aq (eI .i64) r),none):=cF _ _ _ (a,b)
def rI(a:(List Int)):gT none [.sl false false a.length (aq (eI .i64) a)]=(fF a).map fun r:(List Int)=>(.clean (.sl false false r.length (aq (eI .i64) r)),none):=cF _ _ _ (a)
def EK:Env:=(Am.ext (Am.ext (Am.ext (Am.ext (Am.ext (Am.ext bd 55 false gB) 111 false gw) 154 false tS) 155 false gT) 183 false vu) 184 true ue)
def Wk:bN prog EK:=((((((bN.none.add jC false).add uZ false).add JY false).add sK false).add PY false).add Hb true)
def bU:=ai @w<|ai @dU<|ai @GL<|ai @gw.eq_1<|ai @rI<|ai @sh7<|ai @vu.eq_1<|@EK.eq_1
def JX:b6 prog 147 qO:=b6.gO (mode:=.clean) tok Wk mixed func147 (by kernel_rfl) (fun _ _=>rfl) (fun _=>by kernel_rfl) fun⟨p0,p1⟩ r a=>by
 replace a:xK p0 p1=some r:=a;apply aD rfl ntmps147 results147;simp only[gP];unfold xK at a;obtain⟨r1,bs,a⟩:=ae a;simp only[bU,seval,-Int.reduceToNat,bs];apply sp av a<;>intro _ a
 ·obtain⟨r3,bt,a⟩:=ae a;cases a;simp only[bU,seval,-Int.reduceToNat,bt]
 ·simp only[bU,seval,-Int.reduceToNat];apply sp av a<;>intro _ a
  ·obtain⟨x5,bu,a⟩:=ae a;have al:=bh (eI .i64) bu;simp only[bK]at al;obtain⟨r6,bw,a⟩:=ae a;have i7:=rI ([r6.2]);simp only[bY,bK,List.length_cons,an5]at i7;obtain⟨r8,bx,a⟩:=ae a;cases a;simp only[bU,seval,-Int.reduceToNat,al,bw,i7,bx]
  ·simp only[bU,seval,-Int.reduceToNat];obtain⟨bz,ao,a⟩:=ae a;refine az (fun s t H e=>match s with|ar=>t 0=sI p0∧t 1=sI p1∧t 8=sN ar) (fun o x t H e=>match o with|d=>x=.exit 0∧t 0=sI p0∧t 1=sI p1∧t 8=sN d) ao ?_ ?_ ?_
   ·refine⟨?_,?_,?_⟩;all_goals (rfl)
   ·rintro ar t H e Za c a;simp only[xL]at a;obtain⟨bM,au,a⟩:=ae a;have U:=bh (eI .i64) au;simp only[bK]at U;simp only[bU,seval,-Int.reduceToNat,Za,U];apply sp av a<;>intro _ a
    ·cases a;simp only[bU,seval,-Int.reduceToNat,Za];apply gS;and_intros<;>first|rfl|(simp only[bU,seval,-Int.reduceToNat,Za]<;>rfl)
    ·cases a;simp only[bU,seval,-Int.reduceToNat];apply jf;refine⟨rfl,⟨?_,?_,?_⟩⟩;all_goals ((simp only[bU,seval,-Int.reduceToNat,Za]<;>rfl))
   ·rintro x t H e V;obtain⟨d,rfl⟩:∃z,z=bz:=⟨_,rfl⟩;dsimp only at V a;obtain⟨rfl,ak⟩:=V;have aw:=N6 p0 ([d]);simp only[bY,bK,List.length_cons,an5]at aw;obtain⟨bN,ax,a⟩:=ae a;obtain⟨bO,aA,a⟩:=ae a;obtain⟨aB,W,aC,aE⟩:=iR (eI .i64) aA;simp only[bK]at W;have aF:=N6 p1 ([d]);simp only[bY,bK,List.length_cons,an5]at aF;obtain⟨b,aG,a⟩:=ae a;simp only[bU,seval,-Int.reduceToNat,ak,aw,ax,aB,W,aC,aE,aF,aG];obtain⟨bB,aH,a⟩:=ae a;refine oB 0 (fun s t H e=>match s with|K=>∃E:Nat,∃n:Nat,t 8=sN d∧t 9=.buf 9 E 1 0 (K).length∧t 10=.buf 10 n 1 0 (b).length∧H 9=rW E 3 (aq (eI .i64) K)∧H 10=rW n 3 (aq (eI .i64) b)) (fun s=>s=bB) ?_ ?_
    ·rintro K t H e ⟨E,n,aI⟩ rfl;try dsimp only at a
     obtain⟨bP,aJ,a⟩:=ae a;obtain⟨aK,aL,aM,X,aN⟩:=mk_one (eI .i64) aJ;simp only[bK]at X;simp only[bU,seval,-Int.reduceToNat,aI,aK,aL,aM,X,aN];obtain⟨bC,aO,a⟩:=ae a;refine az (fun s t H e=>match s with|(g,h,f)=>∃L:Nat,∃F:Nat,∃v:Nat,∃M:Bool,t 8=sN d∧t 9=.buf 9 L 1 0 (h).length∧t 10=.buf 10 F 1 0 (b).length∧t 11=sN ((b).length:Int)∧t 12=.buf 12 v 1 0 (f).length∧t 13=sN g∧H 9=rW L 3 (aq (eI .i64) h)∧H 10=some ⟨F,3,aq (eI .i64) b,M,true,false⟩∧H 12=rW v 3 (aq (eI .i64) f)) (fun o x t H e=>match o with|(N,B)=>x=.exit 2∧∃O:Nat,∃C:Nat,t 8=sN d∧t 9=.buf 9 O 1 0 (N).length∧t 12=.buf 12 C 1 0 (B).length∧H 9=rW O 3 (aq (eI .i64) N)∧H 12=rW C 3 (aq (eI .i64) B)) aO ?_ ?_ ?_
     ·refine⟨E,n,e+1,false,?_⟩;and_intros<;>first|rfl|(simp only[bU,seval,-Int.reduceToNat,aI]<;>rfl)
     ·rintro⟨g,h,f⟩ t H e ⟨L,F,v,M,Zc⟩ c a;simp only[xM]at a;simp only[bU,seval,-Int.reduceToNat,Zc];apply sp av a<;>intro _ a
      ·obtain⟨bQ,aP,a⟩:=ae a;have Y:=bh (eI .i64) aP;simp only[bK]at Y;obtain⟨bR,aQ,a⟩:=ae a;have aR:=Hz aQ;obtain⟨bS,aS,a⟩:=ae a;have Z:=bh (eI .i64) aS;simp only[bK]at Z;simp only[bU,seval,-Int.reduceToNat,Zc,Y,aR,Z];refine bA (by kernel_rfl) ?_;obtain⟨bT,P,a⟩:=ae a;have i:=bh (eI .i64) P;simp only[bK]at i;obtain⟨bV,aU,a⟩:=ae a;have bD:=xT aU;have i:=bh (eI .i64) P;simp only[bK]at i;obtain⟨bW,aV,a⟩:=ae a;have bE:=DT aV;simp only[bU,seval,-Int.reduceToNat,Zc,bD,i,bE];refine bA (by kernel_rfl) ?_;obtain⟨bF,aW,a⟩:=ae a;refine az (fun s t H e=>match s with|(Q,R)=>∃J:Nat,∃l:Nat,∃m:Nat,∃w:Bool,t 8=sN d∧t 9=.buf 9 J 1 0 (h).length∧t 10=.buf 10 l 1 0 (b).length∧t 11=sN ((b).length:Int)∧t 12=.buf 12 m 1 0 (f).length∧t 13=sN g∧t 15=sN Q∧t 16=sN R∧H 9=rW J 3 (aq (eI .i64) h)∧H 10=some ⟨l,3,aq (eI .i64) b,w,true,false⟩∧H 12=rW m 3 (aq (eI .i64) f)) (fun o x t H e=>match o with|D=>x=.exit 4∧∃G:Nat,∃p:Nat,∃q:Nat,∃S:Bool,t 8=sN d∧t 9=.buf 9 G 1 0 (h).length∧t 10=.buf 10 p 1 0 (b).length∧t 11=sN ((b).length:Int)∧t 12=.buf 12 q 1 0 (f).length∧t 13=sN g∧t 15=sN D∧H 9=rW G 3 (aq (eI .i64) h)∧H 10=some ⟨p,3,aq (eI .i64) b,S,true,false⟩∧H 12=rW q 3 (aq (eI .i64) f)) aW ?_ ?_ ?_
       ·refine⟨L,F,v,M,?_⟩;and_intros<;>first|rfl|(simp only[bU,seval,-Int.reduceToNat,Zc]<;>rfl)
       ·rintro⟨Q,R⟩ t H e ⟨J,l,m,w,Zg⟩ c a;simp only[xN]at a;simp only[bU,seval,-Int.reduceToNat,Zg];obtain⟨bG,aX,a⟩:=ae a;refine afM 0 (fun s t H e=>match s with|I=>∃y:Nat,∃j:Nat,∃k:Nat,∃u:Bool,t 8=sN d∧t 9=.buf 9 y 1 0 (h).length∧t 10=.buf 10 j 1 0 (b).length∧t 11=sN ((b).length:Int)∧t 12=.buf 12 k 1 0 (f).length∧t 13=sN g∧t 15=sN Q∧t 16=sN R∧t 137=.bool I∧H 9=rW y 3 (aq (eI .i64) h)∧H 10=some ⟨j,3,aq (eI .i64) b,u,true,false⟩∧H 12=rW k 3 (aq (eI .i64) f)) (fun s=>s=bG) ?_ ?_
        ·rintro I t H e ⟨y,j,k,u,T⟩ rfl;try dsimp only at a
         simp only[bU,seval,-Int.reduceToNat,T];apply sp av a<;>intro _ a
         ·have i:=bh (eI .i64) P;simp only[bK]at i;cases a;simp only[bU,seval,-Int.reduceToNat,T,i];apply gS;refine⟨y,j,k,u,?_⟩;and_intros<;>first|rfl|(simp only[bU,seval,-Int.reduceToNat,T]<;>rfl)
         ·cases a;simp only[bU,seval,-Int.reduceToNat];apply jf;refine⟨rfl,⟨y,j,k,u,?_,?_,?_,?_,?_,?_,?_,?_,?_,?_⟩⟩;all_goals ((simp only[bU,seval,-Int.reduceToNat,T]<;>rfl))
        ·clear a;have a:=aX;simp only[bU,seval,-Int.reduceToNat];apply sp KR a<;>intro _ a
         ·simp only[bU,seval,-Int.reduceToNat];refine bA (by kernel_rfl) ?_;cases a;rw[ay];refine⟨_,rfl,?_⟩;refine⟨J,l,m,w,?_⟩;and_intros<;>first|rfl|(simp only[bU,seval,-Int.reduceToNat,Zg]<;>rfl)
         ·simp only[bU,seval,-Int.reduceToNat,Zg];apply sp HD a<;>intro _ a
          ·obtain⟨bX,aY,a⟩:=ae a;have aa:=bh (eI .i64) aY;simp only[bK]at aa;obtain⟨bZ,aZ,a⟩:=ae a;have bH:=Hz aZ;obtain⟨b1,a1,a⟩:=ae a;have ab:=bh (eI .i64) a1;simp only[bK]at ab;simp only[bU,seval,-Int.reduceToNat,aR,Zg,aa,bH,ab];refine bA (by kernel_rfl) ?_;cases a;rw[ay];refine⟨_,rfl,?_⟩;refine⟨J,l,m,w,?_⟩;and_intros<;>first|rfl|(simp only[bU,seval,-Int.reduceToNat,Zg]<;>rfl)
          ·simp only[bU,seval,-Int.reduceToNat];refine bA (by kernel_rfl) ?_;cases a;rw[ay];refine⟨_,rfl,?_⟩;refine⟨J,l,m,w,?_⟩;and_intros<;>first|rfl|(simp only[bU,seval,-Int.reduceToNat,Zg]<;>rfl)
       ·rintro x t H e V;obtain⟨D,rfl⟩:∃z,z=bF:=⟨_,rfl⟩;dsimp only at V a;obtain⟨rfl,⟨G,p,q,S,a6⟩⟩:=V;obtain⟨bI,A,a⟩:=ae a;obtain⟨a7,a8,ba,bL,bb⟩:=ajm (eI .i64) A;simp only[bK]at bb;have bc:=Km (aq (eI .i64) (h.take (g).toNat)) (aq (eI .i64) (h.drop (IntKind.i64.wrap ((IntKind.i64.wrap (g+((b).length:Int)))+1)).toNat)) bI b D;simp only[ahz,ahA (eI .i64) A,ahB (eI .i64) A,aiv A,bK]at bc;obtain⟨bd,ad,a⟩:=ae a;have bf:=Fb ad;have bg:=afY A bf;obtain⟨b2,ag,a⟩:=ae a;have ah:=bh (eI .i64) ag;simp only[bK]at ah;have bj:=eN (eI .i64) (x':=bd.2) (fo:=0) (cs:=[.int .i64 bd.2]) ag rfl (aov rfl);simp only[bK,Nat.add_zero]at bj;have ai:=bj;simp only[putCells,List.length_cons,List.length_nil,an5]at ai;cases a;simp only[bU,seval,-Int.reduceToNat,a6,a7,a8,ba,bc,ad,ah,ai];apply gS;refine⟨G,p,q,true,?_⟩;and_intros<;>first|rfl|(simp only[bU,seval,-Int.reduceToNat,a6,bg]<;>rfl)
      ·cases a;simp only[bU,seval,-Int.reduceToNat];apply jf;refine⟨rfl,⟨L,v,?_,?_,?_,?_,?_⟩⟩;all_goals ((simp only[bU,seval,-Int.reduceToNat,Zc]<;>rfl))
     ·rintro x t H e V;rcases bC with⟨N,B⟩;dsimp only at V a;obtain⟨rfl,⟨O,C,bJ⟩⟩:=V;obtain⟨b3,bk,a⟩:=ae a;obtain⟨b4,bm,a⟩:=ae a;obtain⟨b5,bn,a⟩:=ae a;cases a;simp only[bU,seval,-Int.reduceToNat,bJ,bk,bm,bn]
    ·clear a;have a:=aH;simp only[bU,seval,-Int.reduceToNat];apply sp av a<;>intro _ a
     ·obtain⟨b7,bo,a⟩:=ae a;obtain⟨bp,aj,bq,br⟩:=iR (eI .i64) bo;simp only[bK]at aj;cases a;simp only[bU,seval,-Int.reduceToNat,bp,aj,bq,br];rw[ay];refine⟨_,rfl,?_⟩;refine⟨e+1+1,e,?_⟩;and_intros<;>first|rfl|(simp only[bU,seval,-Int.reduceToNat,ak]<;>rfl)
     ·cases a;simp only[bU,seval,-Int.reduceToNat];rw[ay];refine⟨_,rfl,?_⟩;refine⟨e,e,?_⟩;and_intros<;>first|rfl|(simp only[bU,seval,-Int.reduceToNat,ak]<;>rfl)
def qM(l:Option (D×Row))(d:List D):=dx (eZ (bC e9) (dp (bC e9))) (fun x:aF×aF=>vD x.1 x.2) (fun r:aF×Int =>.clean (.tup [.agg [.int .i64 r.1.al,.sl false false r.1.aa.length (aq (eI .i64) r.1.aa)],.int .i64 r.2])) l d
def B4{β:Type}{F:aF×aF->Option β}{R:β->RK}(c:Int)(a:(List Int))(d:Int)(b:(List Int)):dx (eZ (bC e9) (dp (bC e9))) F R none [.agg [.int .i64 c,.sl false false a.length (aq (eI .i64) a)],.agg [.int .i64 d,.sl false false b.length (aq (eI .i64) b)]]=(F ((aF.mk c a),(aF.mk d b))).map fun r=>(R r,none):=cF _ _ _ ((aF.mk c a),(aF.mk d b))
def ij(c:Bool)(b:Int)(a:(List Int)):oa none [.bool c,.agg [.int .i64 b,.sl false false a.length (aq (eI .i64) a)]]=(fV c (aF.mk b a)).map fun r:aF×Int=>(.clean (.tup [.agg [.int .i64 r.1.al,.sl false false r.1.aa.length (aq (eI .i64) r.1.aa)],.int .i64 r.2]),none):=cF _ _ _ (c,(aF.mk b a))
def ED:Env:=(Am.keep 6 (Am.ext (Am.ext (Am.ext (Am.ext (Am.ext bd 55 false gB) 103 false ca) 113 false cV) 114 false oa) 147 false qO))
def Wf:bN prog ED:=(bN.keep (((((bN.none.add jC false).add iX false).add lX false).add uY false).add JX false) 6)
def iJ:=ai @w<|ai @dU<|ai @y3<|ai @ca.eq_1<|ai @Hy<|ai @cV.eq_1<|ai @ij<|ai @GL<|ai @qO.eq_1<|@ED.eq_1
def JU:b6 prog 104 qM:=b6.gO (mode:=.clean) tok Wf mixed func104 (by kernel_rfl) (fun _ _=>rfl) (fun _=>by kernel_rfl) fun⟨y,A⟩ r a=>by
 replace a:vD y A=some r:=a;apply aD rfl ntmps104 results104;simp only[gP];unfold vD at a;obtain⟨R,B,a⟩:=ae a;simp only[iJ,seval,B];obtain⟨K,C,a⟩:=ae a;refine bX 0 (fun s t H e=>match s with|d=>∃f:Nat,∃g:Nat,∃b:Nat,t 2=.ptr 2 f 0∧t 3=.ptr 3 g 0∧t 4=.ptr 4 b 0∧t 17=.bool d∧H 2=rV f 39 [sN y.al,sI y.aa]∧H 3=rV g 39 [sN A.al,sI A.aa]∧H 4=rV b 39 [sN 0,.sl true true 0 []]) (fun s=>s=K) ?_ ?_
 ·rintro d t H e ⟨f,g,b,j⟩ rfl;try dsimp only at a
  simp only[iJ,seval,j];apply sp av a<;>intro _ a
  ·have I:=ij false 0 ([]);simp only[bK]at I;obtain⟨S,D,a⟩:=ae a;cases a;simp only[iJ,seval,j,I,D]
  ·obtain⟨T,E,a⟩:=ae a;simp only[iJ,seval,j,E];refine bA (by kernel_rfl) ?_;obtain⟨L,F,a⟩:=ae a;refine az (fun s t H e=>match s with|(l,m)=>∃h:Nat,t 4=.ptr 4 h 0∧t 6=sI l∧t 7=sI m∧H 4=rV h 39 [sN 0,.sl true true 0 []]) (fun o x t H e=>match o with|k=>x=.exit 0∧∃i:Nat,t 4=.ptr 4 i 0∧t 6=sI k∧H 4=rV i 39 [sN 0,.sl true true 0 []]) F ?_ ?_ ?_
   ·refine⟨b,?_⟩;and_intros<;>first|rfl|(simp only[iJ,seval,j]<;>rfl)
   ·rintro⟨l,m⟩ t H e ⟨h,w⟩ c a;simp only[uq]at a;simp only[iJ,seval,w];apply sp av a<;>intro _ a
    ·obtain⟨M,n,a⟩:=ae a;cases a;simp only[iJ,seval,w,n];apply gS;refine⟨h,?_⟩;and_intros<;>first|rfl|(simp only[iJ,seval,w]<;>rfl)
    ·cases a;simp only[iJ,seval];apply jf;refine⟨rfl,⟨h,?_,?_,?_⟩⟩;all_goals ((simp only[iJ,seval,w]<;>rfl))
   ·rintro x t H e J;obtain⟨k,rfl⟩:∃z,z=L:=⟨_,rfl⟩;dsimp only at J a;obtain⟨rfl,⟨i,G⟩⟩:=J;obtain⟨N,p,a⟩:=ae a;obtain⟨O,q,a⟩:=ae a;obtain⟨P,u,a⟩:=ae a;cases a;simp only[iJ,seval,G,p,q,u]
 ·clear a;have a:=C;simp only[iJ,seval];apply sp aZ a<;>intro _ a
  ·cases a;simp only[iJ,seval];rw[ay];refine⟨_,rfl,?_⟩;refine⟨0,0,0,?_,?_,?_,?_,?_,?_,?_⟩;all_goals (rfl)
  ·obtain⟨Q,v,a⟩:=ae a;cases a;simp only[iJ,seval,v];rw[ay];refine⟨_,rfl,?_⟩;refine⟨0,0,0,?_,?_,?_,?_,?_,?_,?_⟩;all_goals (rfl)
def tR(l:Option (D×Row))(d:List D):=dx (eZ (iQ (eI .i64)) (dp (iQ (eI .i64)))) (fun x:(List Int)×(List Int)=>vE x.1 x.2) (fun r:(List Int) =>.clean (.sl false false r.length (aq (eI .i64) r))) l d
def EJ:Env:=(Am.ext bd 155 false gT)
def Wj:bN prog EJ:=(bN.none.add sK false)
def fA:=ai @w<|ai @rI<|@EJ.eq_1
def JW:b6 prog 116 tR:=b6.gO (mode:=.clean) tok Wj mixed func116 (by kernel_rfl) (fun _ _=>rfl) (fun _=>by kernel_rfl) fun⟨p0,p1⟩ r a=>by
 replace a:vE p0 p1=some r:=a;apply aD rfl ntmps116 results116;simp only[gP];unfold vE at a;simp only[fA,seval,-Int.reduceToNat];obtain⟨o1,P,a⟩:=ae a;refine oB 0 (fun s t H e=>match s with|(b,f)=>t 0=sI b∧t 1=sI f) (fun s=>s=o1) ?_ ?_
 ·rintro⟨b,f⟩ t H e B rfl;try dsimp only at a
  obtain⟨x2,Q,a⟩:=ae a;obtain⟨R,S,T,C,U⟩:=mk_one (eI .i64) Q;simp only[bK]at C;simp only[fA,seval,-Int.reduceToNat,B,R,S,T,C,U];obtain⟨V,D,a⟩:=ae a;refine az (fun s t H e=>match s with|(E,g,m)=>∃l:Nat,t 0=sI b∧t 1=sI f∧t 5=.buf 5 l 1 0 (m).length∧t 6=sN E∧t 20=sI b∧t 21=sN (b.length:Int)∧t 22=sN g∧H 5=rW l 3 (aq (eI .i64) m)) (fun o x t H e=>match o with|(d,h)=>x=.exit 0∧∃n:Nat,t 0=sI b∧t 5=.buf 5 n 1 0 (h).length∧t 6=sN d∧H 5=rW n 3 (aq (eI .i64) h)) D ?_ ?_ ?_
  ·refine⟨e,?_⟩;and_intros<;>first|rfl|(simp only[fA,seval,-Int.reduceToNat,B]<;>rfl)
  ·rintro⟨E,g,m⟩ t H e ⟨l,A⟩ c a;simp only[uu]at a;simp only[fA,seval,-Int.reduceToNat,A];apply sp av a<;>intro _ a
   ·obtain⟨aa,F,a⟩:=ae a;have i:=bh (eI .i64) F;simp only[bK]at i;simp only[fA,seval,-Int.reduceToNat,A,i];obtain⟨W,G,a⟩:=ae a;refine oB 0 (fun s t H e=>match s with|j=>∃k:Nat,t 0=sI b∧t 1=sI f∧t 5=.buf 5 k 1 0 (m).length∧t 6=sN j∧t 7=sN g∧t 20=sI b∧t 21=sN (b.length:Int)∧t 22=sN g∧H 5=rW k 3 (aq (eI .i64) m)) (fun s=>s=W) ?_ ?_
    ·rintro j t H e ⟨k,I⟩ rfl;try dsimp only at a
     obtain⟨ab,p,a⟩:=ae a;have q:=bh (eI .i64) p;simp only[bK]at q;have J:=eN (eI .i64) (x':=nR .and .i64 j 1048575) (fo:=0) (cs:=[.int .i64 (nR .and .i64 j 1048575)]) p rfl (aov rfl);simp only[bK,Nat.add_zero]at J;have u:=J;simp only[putCells,List.length_cons,List.length_nil,an5]at u;obtain⟨ad,K,a⟩:=ae a;have X:=yB K;cases a;simp only[fA,seval,-Int.reduceToNat,i,I,q,u,X];apply gS;refine⟨k,?_⟩;and_intros<;>first|rfl|(simp only[fA,seval,-Int.reduceToNat,I]<;>rfl)
    ·clear a;have a:=G;simp only[fA,seval,-Int.reduceToNat];apply sp av a<;>intro _ a
     ·obtain⟨ag,L,a⟩:=ae a;have v:=bh (eI .i64) L;simp only[bK]at v;cases a;simp only[fA,seval,-Int.reduceToNat,A,i,v];rw[ay];refine⟨_,rfl,?_⟩;refine⟨l,?_⟩;and_intros<;>first|rfl|(simp only[fA,seval,-Int.reduceToNat,A]<;>rfl)
     ·cases a;simp only[fA,seval,-Int.reduceToNat];rw[ay];refine⟨_,rfl,?_⟩;refine⟨l,?_⟩;and_intros<;>first|rfl|(simp only[fA,seval,-Int.reduceToNat,A]<;>rfl)
   ·cases a;simp only[fA,seval,-Int.reduceToNat];apply jf;refine⟨rfl,⟨l,?_,?_,?_,?_⟩⟩;all_goals ((simp only[fA,seval,-Int.reduceToNat,A]<;>rfl))
  ·rintro x t H e Z;rcases V with⟨d,h⟩;dsimp only at Z a;obtain⟨rfl,⟨n,Y⟩⟩:=Z;obtain⟨ah,w,a⟩:=ae a;have y:=bh (eI .i64) w;simp only[bK]at y;have M:=eN (eI .i64) (x':=d) (fo:=0) (cs:=[.int .i64 d]) w rfl (aov rfl);simp only[bK,Nat.add_zero]at M;have z:=M;simp only[putCells,List.length_cons,List.length_nil,an5]at z;have N:=rI (h.set ((b.length:Int)).toNat d);simp only[aoW]at N;obtain⟨ai,O,a⟩:=ae a;cases a;simp only[fA,seval,-Int.reduceToNat,Y,y,z,N,O]
 ·clear a;have a:=P;simp only[fA,seval,-Int.reduceToNat];apply sp av a<;>intro _ a
  ·cases a;simp only[fA,seval,-Int.reduceToNat];rw[ay];refine⟨_,rfl,?_⟩;refine⟨?_,?_⟩;all_goals (rfl)
  ·cases a;simp only[fA,seval,-Int.reduceToNat];rw[ay];refine⟨_,rfl,?_⟩;refine⟨?_,?_⟩;all_goals (rfl)
def qP(l:Option (D×Row))(d:List D):=dx (eZ (iQ (eI .i64)) (dp (iQ (eI .i64)))) (fun x:(List Int)×(List Int)=>vF x.1 x.2) (fun r:(List Int) =>.clean (.sl false false r.length (aq (eI .i64) r))) l d
def EM:Env:=(Am.ext (Am.ext bd 55 false gB) 155 false gT)
def Wm:bN prog EM:=((bN.none.add jC false).add sK false)
def jo:=ai @w<|ai @dU<|ai @ZL<|ai @gT.eq_1<|@EM.eq_1
def JZ:b6 prog 117 qP:=b6.gO (mode:=.clean) tok Wm mixed func117 (by kernel_rfl) (fun _ _=>rfl) (fun _=>by kernel_rfl) fun⟨M,D⟩ r a=>by
 replace a:vF M D=some r:=a;apply aD rfl ntmps117 results117;simp only[gP];unfold vF at a;obtain⟨K,E,a⟩:=ae a;simp only[jo,seval,-Int.reduceToNat,E];obtain⟨F,q,a⟩:=ae a;refine az (fun s t H e=>match s with|(u,d,i)=>∃h:Nat,t 1=sI D∧t 5=.buf 5 h 1 0 (i).length∧t 6=sN u∧t 12=sN ((K).length:Int)∧t 13=sN d∧H 5=rW h 3 (aq (eI .i64) i)) (fun o x t H e=>match o with|j=>x=.exit 0∧∃k:Nat,t 5=.buf 5 k 1 0 (j).length∧H 5=rW k 3 (aq (eI .i64) j)) q ?_ ?_ ?_
 ·refine⟨1,?_,?_,?_,?_,?_,?_⟩;all_goals (rfl)
 ·rintro⟨u,d,i⟩ t H e ⟨h,p⟩ c a;simp only[xQ]at a;simp only[jo,seval,-Int.reduceToNat,p];apply sp av a<;>intro _ a
  ·obtain⟨N,l,a⟩:=ae a;have b:=bh (eI .i64) l;simp only[bK]at b;simp only[jo,seval,-Int.reduceToNat,p,b];obtain⟨G,v,a⟩:=ae a;refine oB 0 (fun s t H e=>match s with|f=>∃g:Nat,t 1=sI D∧t 5=.buf 5 g 1 0 (i).length∧t 7=sN d∧t 8=sN f∧t 12=sN ((K).length:Int)∧t 13=sN d∧H 5=rW g 3 (aq (eI .i64) i)) (fun s=>s=G) ?_ ?_
   ·rintro f t H e ⟨g,w⟩ rfl;try dsimp only at a
    obtain⟨O,y,a⟩:=ae a;have I:=yB y;have b:=bh (eI .i64) l;simp only[bK]at b;have A:=eN (eI .i64) (x':=nR .and .i64 f 1048575) (fo:=0) (cs:=[.int .i64 (nR .and .i64 f 1048575)]) l rfl (aov rfl);simp only[bK,Nat.add_zero]at A;have m:=A;simp only[putCells,List.length_cons,List.length_nil,an5]at m;cases a;simp only[jo,seval,-Int.reduceToNat,w,I,b,m];apply gS;refine⟨g,?_⟩;and_intros<;>first|rfl|(simp only[jo,seval,-Int.reduceToNat,w]<;>rfl)
   ·clear a;have a:=v;simp only[jo,seval,-Int.reduceToNat];apply sp av a<;>intro _ a
    ·obtain⟨P,B,a⟩:=ae a;have n:=bh (eI .i64) B;simp only[bK]at n;cases a;simp only[jo,seval,-Int.reduceToNat,p,b,n];rw[ay];refine⟨_,rfl,?_⟩;refine⟨h,?_⟩;and_intros<;>first|rfl|(simp only[jo,seval,-Int.reduceToNat,p]<;>rfl)
    ·cases a;simp only[jo,seval,-Int.reduceToNat];rw[ay];refine⟨_,rfl,?_⟩;refine⟨h,?_⟩;and_intros<;>first|rfl|(simp only[jo,seval,-Int.reduceToNat,p]<;>rfl)
  ·cases a;simp only[jo,seval,-Int.reduceToNat];apply jf;refine⟨rfl,⟨h,?_,?_⟩⟩;all_goals ((simp only[jo,seval,-Int.reduceToNat,p]<;>rfl))
 ·rintro x t H e L;obtain⟨j,rfl⟩:∃z,z=F:=⟨_,rfl⟩;dsimp only at L a;obtain⟨rfl,⟨k,J⟩⟩:=L;obtain⟨Q,C,a⟩:=ae a;cases a;simp only[jo,seval,-Int.reduceToNat,J,C]
def AR(l:Option (D×Row))(d:List D):=dx (eZ (bC e9) (dp (bC e9))) (fun x:aF×aF=>tv x.1 x.2) (fun r:aF×aF×Int =>.clean (.tup [.agg [.int .i64 r.1.al,.sl false false r.1.aa.length (aq (eI .i64) r.1.aa)],.agg [.int .i64 r.2.1.al,.sl false false r.2.1.aa.length (aq (eI .i64) r.2.1.aa)],.int .i64 r.2.2])) l d
def abD(a:(List Int))(b:(List Int)):tR none [.sl false false a.length (aq (eI .i64) a),.sl false false b.length (aq (eI .i64) b)]=(vE a b).map fun r:(List Int)=>(.clean (.sl false false r.length (aq (eI .i64) r)),none):=cF _ _ _ (a,b)
def EC:Env:=(Am.ext (Am.ext (Am.ext (Am.ext (Am.ext bd 103 false ca) 113 false cV) 116 false tR) 117 false qP) 147 false qO)
def We:bN prog EC:=(((((bN.none.add iX false).add lX false).add JW false).add JZ false).add JX false)
def fY:=ai @w<|ai @y3<|ai @ca.eq_1<|ai @Hy<|ai @cV.eq_1<|ai @GL<|ai @qP.eq_1<|ai @qO.eq_1<|@EC.eq_1
def WS:b6 prog 118 AR:=b6.gO (mode:=.clean) tok We mixed func118 (by kernel_rfl) (fun _ _=>rfl) (fun _=>by kernel_rfl) fun⟨o,p⟩ r a=>by
 replace a:tv o p=some r:=a;apply aD rfl ntmps118 results118;simp only[gP];unfold tv at a;obtain⟨P,z,a⟩:=ae a;simp only[fY,seval,z];obtain⟨G,A,a⟩:=ae a;refine bX 0 (fun s t H e=>match s with|m=>∃b:Nat,∃c:Nat,∃d:Nat,∃f:Nat,t 2=.ptr 2 b 0∧t 3=.ptr 3 c 0∧t 4=.ptr 4 d 0∧t 5=.ptr 5 f 0∧t 9=.bool m∧H 2=rV b 39 [sN o.al,sI o.aa]∧H 3=rV c 39 [sN p.al,sI p.aa]∧H 4=rV d 39 [sN 0,.sl true true 0 []]∧H 5=rV f 39 [sN 0,.sl true true 0 []]) (fun s=>s=G) ?_ ?_
 ·rintro m t H e ⟨b,c,d,f,g⟩ rfl;try dsimp only at a
  simp only[fY,seval,g];apply sp av a<;>intro _ a
  ·cases a;simp only[fY,seval,g]
  ·simp only[fY,seval,g];apply sp av a<;>intro _ a
   ·cases a;simp only[fY,seval,g]
   ·obtain⟨B,C,a⟩:=ae a;simp only[fY,seval,g,C];obtain⟨I,D,a⟩:=ae a;refine bX 0 (fun s t H e=>match s with|h=>∃i:Nat,∃j:Nat,∃k:Nat,∃l:Nat,t 2=.ptr 2 i 0∧t 3=.ptr 3 j 0∧t 4=.ptr 4 k 0∧t 5=.ptr 5 l 0∧t 7=sI B.1∧t 8=sI B.2∧t 44=.bool h∧H 2=rV i 39 [sN o.al,sI o.aa]∧H 3=rV j 39 [sN p.al,sI p.aa]∧H 4=rV k 39 [sN 0,.sl true true 0 []]∧H 5=rV l 39 [sN 0,.sl true true 0 []]) (fun s=>s=I) ?_ ?_
    ·rintro h t H e ⟨i,j,k,l,n⟩ rfl;try dsimp only at a
     simp only[fY,seval,n];apply sp av a<;>intro _ a
     ·have F:=abD B.1 ([1]);simp only[bY,bK,List.length_cons,an5]at F;obtain⟨Q,E,a⟩:=ae a;obtain⟨J,q,a⟩:=ae a;obtain⟨K,u,a⟩:=ae a;obtain⟨L,v,a⟩:=ae a;simp only[fY,seval,n,F,E,q,u,v];refine bA (by kernel_rfl) ?_;cases a;simp only[seval]
     ·obtain⟨M,w,a⟩:=ae a;obtain⟨N,x,a⟩:=ae a;simp only[fY,seval,n,w,x];refine bA (by kernel_rfl) ?_;cases a;simp only[seval]
    ·clear a;have a:=D;simp only[fY,seval];apply sp gj a<;>intro _ a
     ·cases a;simp only[fY,seval];rw[ay];refine⟨_,rfl,?_⟩;refine⟨b,c,d,f,?_⟩;and_intros<;>first|rfl|(simp only[fY,seval,g]<;>rfl)
     ·cases a;simp only[fY,seval];rw[ay];refine⟨_,rfl,?_⟩;refine⟨b,c,d,f,?_⟩;and_intros<;>first|rfl|(simp only[fY,seval,g]<;>rfl)
 ·clear a;have a:=A;simp only[fY,seval];apply sp aZ a<;>intro _ a
  ·cases a;simp only[fY,seval];rw[ay];refine⟨_,rfl,?_⟩;refine⟨0,0,0,0,?_,?_,?_,?_,?_,?_,?_,?_,?_⟩;all_goals (rfl)
  ·obtain⟨O,y,a⟩:=ae a;cases a;simp only[fY,seval,y];rw[ay];refine⟨_,rfl,?_⟩;refine⟨0,0,0,0,?_,?_,?_,?_,?_,?_,?_,?_,?_⟩;all_goals (rfl)
def gW(l:Option (D×Row))(d:List D):=dx (eZ (bC e9) (dp (bC e9))) (fun x:aF×aF=>p8 x.1 x.2) (fun r:an×Int =>.clean (.tup [.agg [.int .i64 r.1.bF.al,.sl false false r.1.bF.aa.length (aq (eI .i64) r.1.bF.aa),.int .i64 r.1.bJ.al,.sl false false r.1.bJ.aa.length (aq (eI .i64) r.1.bJ.aa)],.int .i64 r.2])) l d
def Cs:Env:=(Am.ext (Am.ext (Am.ext (Am.ext bd 71 false qN) 103 false ca) 104 false qM) 118 false AR)
def SM:bN prog Cs:=((((bN.none.add JV false).add iX false).add JU false).add WS false)
def fS:=ai @w<|ai @y3<|ai @qN.eq_1<|ai @ca.eq_1<|ai @B4<|ai @qM.eq_1<|ai @AR.eq_1<|@Cs.eq_1
def vW:b6 prog 63 gW:=b6.gO (mode:=.clean) tok SM mixed func63 (by kernel_rfl) (fun _ _=>rfl) (fun _=>by kernel_rfl) fun⟨u,v⟩ r a=>by
 replace a:p8 u v=some r:=a;apply aD rfl ntmps63 results63;simp only[gP];unfold p8 at a;obtain⟨J,w,a⟩:=ae a;simp only[fS,seval,w];obtain⟨D,x,a⟩:=ae a;refine bX 0 (fun s t H e=>match s with|k=>∃b:Nat,∃c:Nat,∃d:Nat,t 2=.ptr 2 b 0∧t 3=.ptr 3 c 0∧t 4=.ptr 4 d 0∧t 14=.bool k∧H 2=rV b 39 [sN u.al,sI u.aa]∧H 3=rV c 39 [sN v.al,sI v.aa]∧H 4=rV d 41 [sN 0,.sl true true 0 [],sN 0,.sl true true 0 []]) (fun s=>s=D) ?_ ?_
 ·rintro k t H e ⟨b,c,d,f⟩ rfl;try dsimp only at a
  simp only[fS,seval,f];apply sp av a<;>intro _ a
  ·cases a;simp only[fS,seval,f]
  ·simp only[fS,seval,f];apply sp av a<;>intro _ a
   ·cases a;simp only[fS,seval,f]
   ·simp only[fS,seval,f];obtain⟨E,y,a⟩:=ae a;refine oB 0 (fun s t H e=>match s with|(g,h,i,j)=>∃l:Nat,∃m:Nat,∃n:Nat,t 2=.ptr 2 l 0∧t 3=.ptr 3 m 0∧t 4=.ptr 4 n 0∧H 2=rV l 39 [sN g,sI h]∧H 3=rV m 39 [sN i,sI j]∧H 4=rV n 41 [sN 0,.sl true true 0 [],sN 0,.sl true true 0 []]) (fun s=>s=E) ?_ ?_
    ·rintro⟨g,h,i,j⟩ t H e ⟨l,m,n,z⟩ rfl;try dsimp only at a
     obtain⟨K,A,a⟩:=ae a;obtain⟨L,B,a⟩:=ae a;obtain⟨M,C,a⟩:=ae a;cases a;simp only[fS,seval,z,A,B,C]
    ·clear a;have a:=y;simp only[fS,seval];apply sp av a<;>intro _ a
     ·obtain⟨F,o,a⟩:=ae a;obtain⟨G,p,a⟩:=ae a;simp only[fS,seval,f,o,p];refine bA (by kernel_rfl) ?_;cases a;rw[ay];refine⟨_,rfl,?_⟩;refine⟨b,c,d,?_⟩;and_intros<;>first|rfl|(simp only[fS,seval,f]<;>rfl)
     ·cases a;simp only[fS,seval];rw[ay];refine⟨_,rfl,?_⟩;refine⟨b,c,d,?_,?_,?_,?_,?_,?_⟩;all_goals ((simp only[fS,seval,f]<;>rfl))
 ·clear a;have a:=x;simp only[fS,seval];apply sp aZ a<;>intro _ a
  ·cases a;simp only[fS,seval];rw[ay];refine⟨_,rfl,?_⟩;refine⟨0,0,0,?_,?_,?_,?_,?_,?_,?_⟩;all_goals (rfl)
  ·obtain⟨I,q,a⟩:=ae a;cases a;simp only[fS,seval,q];rw[ay];refine⟨_,rfl,?_⟩;refine⟨0,0,0,?_,?_,?_,?_,?_,?_,?_⟩;all_goals (rfl)
def lS(l:Option (D×Row))(d:List D):=dx (eZ (aI .i64) (dp (aI .i64))) (fun x:Int×Int=>vK x.1 x.2) (fun r:an×Int =>.clean (.tup [.agg [.int .i64 r.1.bF.al,.sl false false r.1.bF.aa.length (aq (eI .i64) r.1.bF.aa),.int .i64 r.1.bJ.al,.sl false false r.1.bJ.aa.length (aq (eI .i64) r.1.bJ.aa)],.int .i64 r.2])) l d
def EO:Env:=(Am.ext (Am.ext bd 61 false ud) 63 false gW)
def Wn:bN prog EO:=((bN.none.add NW false).add vW false)
def acg:=ai @w<|ai @GK<|ai @ud.eq_1<|ai @B4<|ai @gW.eq_1<|@EO.eq_1
def CN:b6 prog 57 lS:=b6.gO (mode:=.clean) tok Wn mixed func57 (by kernel_rfl) (fun _ _=>rfl) (fun _=>by kernel_rfl) fun⟨e,f⟩ r a=>by
 replace a:vK e f=some r:=a;apply aD rfl ntmps57 results57;simp only[gP];unfold vK at a;obtain⟨g,b,a⟩:=ae a;obtain⟨h,c,a⟩:=ae a;obtain⟨i,d,a⟩:=ae a;cases a;simp only[acg,seval,b,c,d]
def uf(l:Option (D×Row))(d:List D):=dx (eZ (aI .i64) (dp (aI .i64))) (fun x:Int×Int=>uS x.1 x.2) (fun r:an =>.clean (.agg [.int .i64 r.bF.al,.sl false false r.bF.aa.length (aq (eI .i64) r.bF.aa),.int .i64 r.bJ.al,.sl false false r.bJ.aa.length (aq (eI .i64) r.bJ.aa)])) l d
def IZ:Env:=(Am.ext bd 57 false lS)
def aa3:bN prog IZ:=(bN.none.add CN false)
def af4:=ai @w<|ai @K6<|ai @lS.eq_1<|@IZ.eq_1
def NY:b6 prog 18 uf:=b6.gO (mode:=.clean) tok aa3 mixed func18 (by kernel_rfl) (fun _ _=>rfl) (fun _=>by kernel_rfl) fun⟨c,d⟩ r a=>by
 replace a:uS c d=some r:=a;apply aD rfl ntmps18 results18;simp only[gP];unfold uS at a;obtain⟨e,b,a⟩:=ae a;cases a;simp only[af4,seval,b]
def rT(l:Option (D×Row))(d:List D):=dx (as0) (fun x:Unit=>vM) (fun r:aT×(List (List an)) =>.clean (.tup [.agg [.sl false false r.1.ak.length (aq (eI .i64) r.1.ak),.sl false false r.1.au.length (aq bD r.1.au)],.sl false false r.2.length (aq (fj ah) r.2)])) l d
def sh9{β:Type}{F:Unit->Option β}{R:β->RK}:dx (as0) F R none []=(F (())).map fun r=>(R r,none):=cF _ _ _ (())
def wG:Env:=(Am.ext bd 18 false uf)
def I9:bN prog wG:=(bN.none.add NY false)
def B9:=ai @w<|ai @K6<|ai @uf.eq_1<|@wG.eq_1
def J1:b6 prog 37 rT:=b6.gO (mode:=.clean) tok I9 mixed func37 (by kernel_rfl) (fun _ _=>rfl) (fun _=>by kernel_rfl) fun _ r a=>by
 replace a:vM=some r:=a;apply aD rfl ntmps37 results37;simp only[gP];unfold vM at a;obtain⟨f,b,a⟩:=ae a;obtain⟨g,c,a⟩:=ae a;obtain⟨h,d,a⟩:=ae a;obtain⟨i,e,a⟩:=ae a;simp only[B9,seval,b,c,d,e];refine bA (by kernel_rfl) ?_;cases a;simp only[B9,seval]
def dH(l:Option (D×Row))(d:List D):=dx (eZ (aI .i64) (eZ (aI .i64) (dp (aI .i64)))) (fun x:Int×Int×Int=>fP x.1 x.2.1 x.2.2) (fun r:Bool =>.clean (.bool r)) l d
def LN{β:Type}{F:Int×Int×Int->Option β}{R:β->RK}(a:Int)(b:Int)(c:Int):dx (eZ (aI .i64) (eZ (aI .i64) (dp (aI .i64)))) F R none [.int .i64 a,.int .i64 b,.int .i64 c]=(F (a,b,c)).map fun r=>(R r,none):=cF _ _ _ (a,b,c)
def ov:b6 prog 81 dH:=b6.gO (mode:=.clean) tok bN.none mixed func81 (by kernel_rfl) (fun _ _=>rfl) (fun _=>by kernel_rfl) fun⟨b,c,d⟩ r a=>by
 replace a:fP b c d=some r:=a;apply aD rfl ntmps81 results81;simp only[gP];unfold fP at a;simp only[w,seval];apply sp gj a<;>intro _ a
 ·cases a;simp only[w,seval]
 ·cases a;simp only[w,seval]
def dr(l:Option (D×Row))(d:List D):=dx (dp (aI .i64)) (fun x:Int=>iy x) (fun r:an =>.clean (.agg [.int .i64 r.bF.al,.sl false false r.bF.aa.length (aq (eI .i64) r.bF.aa),.int .i64 r.bJ.al,.sl false false r.bJ.aa.length (aq (eI .i64) r.bJ.aa)])) l d
def Cq:Env:=(Am.ext bd 61 false ud)
def SK:bN prog Cq:=(bN.none.add NW false)
def XP:=ai @w<|ai @GK<|ai @ud.eq_1<|@Cq.eq_1
def mH:b6 prog 21 dr:=b6.gO (mode:=.clean) tok SK mixed func21 (by kernel_rfl) (fun _ _=>rfl) (fun _=>by kernel_rfl) fun d r a=>by
 replace a:iy d=some r:=a;apply aD rfl ntmps21 results21;simp only[gP];unfold iy at a;obtain⟨e,b,a⟩:=ae a;obtain⟨f,c,a⟩:=ae a;cases a;simp only[XP,seval,b,c]
def AS(l:Option (D×Row))(d:List D):=dx (dp (bC e9)) (fun x:aF=>A8 x) (fun r:Int×Bool =>.clean (.tup [.int .i64 r.1,.bool r.2])) l d
def EE:Env:=(Am.ext bd 103 false ca)
def Wg:bN prog EE:=(bN.none.add iX false)
def cj:=ai @w<|ai @y3<|ai @ca.eq_1<|@EE.eq_1
def WT:b6 prog 148 AS:=b6.gO (mode:=.clean) tok Wg mixed func148 (by kernel_rfl) (fun _ _=>rfl) (fun _=>by kernel_rfl) fun d r a=>by
 replace a:A8 d=some r:=a;apply aD rfl ntmps148 results148;simp only[gP];unfold A8 at a;obtain⟨R,G,a⟩:=ae a;simp only[cj,seval,-Int.reduceToNat,G];obtain⟨O,I,a⟩:=ae a;refine bX 0 (fun s t H e=>match s with|j=>∃f:Nat,t 1=.ptr 1 f 0∧t 15=.bool j∧H 1=rV f 39 [sN d.al,sI d.aa]) (fun s=>s=O) ?_ ?_
 ·rintro j t H e ⟨f,v⟩ rfl;try dsimp only at a
  simp only[cj,seval,-Int.reduceToNat,v];apply sp av a<;>intro _ a
  ·cases a;simp only[cj,seval,-Int.reduceToNat]
  ·simp only[cj,seval,-Int.reduceToNat,v];obtain⟨J,z,a⟩:=ae a;refine az (fun s t H e=>match s with|(w,g)=>∃i:Nat,t 1=.ptr 1 i 0∧t 4=.int .u64 w∧t 17=sI d.aa∧t 18=sN (d.aa.length:Int)∧t 19=sN g∧H 1=rV i 39 [sN d.al,sI d.aa]) (fun o x t H e=>match o with|(.inl k)=>x=.exit 0∧∃b:Nat,t 1=.ptr 1 b 0∧t 4=.int .u64 k∧H 1=rV b 39 [sN d.al,sI d.aa]|(.inr r)=>x=.ret∧gF .clean tab none [.tmp 2,.tmp 3] ⟨t,EH H,e⟩=some (.clean (.tup [.int .i64 r.1,.bool r.2]),none)) z ?_ ?_ ?_
   ·refine⟨f,?_⟩;and_intros<;>first|rfl|(simp only[cj,seval,-Int.reduceToNat,v]<;>rfl)
   ·rintro⟨w,g⟩ t H e ⟨i,A⟩ c a;simp only[xI]at a;simp only[cj,seval,-Int.reduceToNat,A];apply sp av a<;>intro _ a
    ·obtain⟨K,B,a⟩:=ae a;have u:=bh (eI .i64) B;simp only[bK]at u;simp only[cj,seval,-Int.reduceToNat,A,u];obtain⟨L,C,a⟩:=ae a;refine bX 0 (fun s t H e=>match s with|l=>∃h:Nat,t 1=.ptr 1 h 0∧t 4=.int .u64 w∧t 5=sN g∧t 6=sN K∧t 17=sI d.aa∧t 18=sN (d.aa.length:Int)∧t 19=sN g∧t 29=.bool l∧H 1=rV h 39 [sN d.al,sI d.aa]) (fun s=>s=L) ?_ ?_
     ·rintro l t H e ⟨h,y⟩ rfl;try dsimp only at a
      simp only[cj,seval,-Int.reduceToNat,y];apply sp av a<;>intro _ a
      ·cases a;simp only[cj,seval,-Int.reduceToNat];refine tf ⟨rfl,?_⟩;simp only[cj,seval,-Int.reduceToNat]
      ·obtain⟨P,D,a⟩:=ae a;have M:=Hz D;cases a;simp only[cj,seval,-Int.reduceToNat,y,M];apply gS;refine⟨h,?_⟩;and_intros<;>first|rfl|(simp only[cj,seval,-Int.reduceToNat,y]<;>rfl)
     ·clear a;have a:=C;simp only[cj,seval,-Int.reduceToNat];apply sp gj a<;>intro _ a
      ·cases a;simp only[cj,seval,-Int.reduceToNat];rw[ay];refine⟨_,rfl,?_⟩;refine⟨i,?_⟩;and_intros<;>first|rfl|(simp only[cj,seval,-Int.reduceToNat,A]<;>rfl)
      ·cases a;simp only[cj,seval,-Int.reduceToNat];rw[ay];refine⟨_,rfl,?_⟩;refine⟨i,?_⟩;and_intros<;>first|rfl|(simp only[cj,seval,-Int.reduceToNat,A]<;>rfl)
    ·cases a;simp only[cj,seval,-Int.reduceToNat];apply jf;refine⟨rfl,⟨i,?_,?_,?_⟩⟩;all_goals ((simp only[cj,seval,-Int.reduceToNat,A]<;>rfl))
   ·rintro x t H e F;rcases J with k|S
    ·dsimp only at F a;obtain⟨rfl,⟨b,q⟩⟩:=F;simp only[cj,seval,-Int.reduceToNat,q];obtain⟨N,E,a⟩:=ae a;refine bX 0 (fun s t H e=>match s with|m=>∃n:Nat,t 1=.ptr 1 n 0∧t 4=.int .u64 k∧t 38=.bool m∧H 1=rV n 39 [sN d.al,sI d.aa]) (fun s=>s=N) ?_ ?_
     ·rintro m t H e ⟨n,p⟩ rfl;try dsimp only at a
      simp only[cj,seval,-Int.reduceToNat,p];apply sp av a<;>intro _ a
      ·cases a;simp only[cj,seval,-Int.reduceToNat,p]
      ·simp only[cj,seval,-Int.reduceToNat,p];apply sp gj a<;>intro _ a
       ·simp only[cj,seval,-Int.reduceToNat,p];apply sp av a<;>intro _ a
        ·cases a;simp only[cj,seval,-Int.reduceToNat,p]
        ·cases a;simp only[cj,seval,-Int.reduceToNat]
       ·cases a;simp only[cj,seval,-Int.reduceToNat]
     ·clear a;have a:=E;simp only[cj,seval,-Int.reduceToNat];apply sp gj a<;>intro _ a
      ·cases a;simp only[cj,seval,-Int.reduceToNat,q];rw[ay];refine⟨_,rfl,?_⟩;refine⟨b,?_⟩;and_intros<;>first|rfl|(simp only[cj,seval,-Int.reduceToNat,q]<;>rfl)
      ·cases a;simp only[cj,seval,-Int.reduceToNat];rw[ay];refine⟨_,rfl,?_⟩;refine⟨b,?_⟩;and_intros<;>first|rfl|(simp only[cj,seval,-Int.reduceToNat,q]<;>rfl)
    ·dsimp only at F a;obtain⟨rfl,Q⟩:=F;cases a;simp only[aV,bc,cw,cL];exact Q
 ·clear a;have a:=I;simp only[cj,seval,-Int.reduceToNat];apply sp aZ a<;>intro _ a
  ·cases a;simp only[cj,seval,-Int.reduceToNat];rw[ay];refine⟨_,rfl,?_⟩;refine⟨0,?_,?_,?_⟩;all_goals (rfl)
  ·cases a;simp only[cj,seval,-Int.reduceToNat];rw[ay];refine⟨_,rfl,?_⟩;refine⟨0,?_,?_,?_⟩;all_goals (rfl)
def xy(l:Option (D×Row))(d:List D):=dx (dp (bC e9)) (fun x:aF=>xc x) (fun r:Bool =>.clean (.bool r)) l d
def Cu:Env:=(Am.ext bd 148 false AS)
def SO:bN prog Cu:=(bN.none.add WT false)
def C5:=ai @w<|ai @y3<|ai @AS.eq_1<|@Cu.eq_1
def Ub:b6 prog 105 xy:=b6.gO (mode:=.clean) tok SO mixed func105 (by kernel_rfl) (fun _ _=>rfl) (fun _=>by kernel_rfl) fun c r a=>by
 replace a:xc c=some r:=a;apply aD rfl ntmps105 results105;simp only[gP];unfold xc at a;obtain⟨d,b,a⟩:=ae a;simp only[C5,seval,b];apply sp gj a<;>intro _ a
 ·cases a;simp only[C5,seval]
 ·cases a;simp only[C5,seval]
def bn(l:Option (D×Row))(d:List D):=dx (dp (bC ah)) (fun x:an=>de x) (fun r:Bool =>.clean (.bool r)) l d
def kC{β:Type}{F:an->Option β}{R:β->RK}(c:Int)(a:(List Int))(d:Int)(b:(List Int)):dx (dp (bC ah)) F R none [.agg [.int .i64 c,.sl false false a.length (aq (eI .i64) a),.int .i64 d,.sl false false b.length (aq (eI .i64) b)]]=(F ((an.mk (aF.mk c a) (aF.mk d b)))).map fun r=>(R r,none):=cF _ _ _ ((an.mk (aF.mk c a) (aF.mk d b)))
def xZ:Env:=(Am.ext (Am.ext (Am.ext bd 103 false ca) 104 false qM) 105 false xy)
def Lq:bN prog xZ:=(((bN.none.add iX false).add JU false).add Ub false)
def gI:=ai @w<|ai @y3<|ai @ca.eq_1<|ai @B4<|ai @qM.eq_1<|ai @xy.eq_1<|@xZ.eq_1
def fJ:b6 prog 54 bn:=b6.gO (mode:=.clean) tok Lq mixed func54 (by kernel_rfl) (fun _ _=>rfl) (fun _=>by kernel_rfl) fun d r a=>by
 replace a:de d=some r:=a;apply aD rfl ntmps54 results54;simp only[gP];unfold de at a;obtain⟨m,g,a⟩:=ae a;simp only[gI,seval,g];obtain⟨l,h,a⟩:=ae a;refine bX 0 (fun s t H e=>match s with|b=>∃c:Nat,t 1=.ptr 1 c 0∧t 20=.bool b∧H 1=rV c 41 [sN d.bF.al,sI d.bF.aa,sN d.bJ.al,sI d.bJ.aa]) (fun s=>s=l) ?_ ?_
 ·rintro b t H e ⟨c,f⟩ rfl;try dsimp only at a
  simp only[gI,seval,f];apply sp av a<;>intro _ a
  ·cases a;simp only[gI,seval]
  ·obtain⟨n,i,a⟩:=ae a;simp only[gI,seval,f,i];apply sp gj a<;>intro _ a
   ·obtain⟨o,j,a⟩:=ae a;cases a;simp only[gI,seval,j]
   ·cases a;simp only[gI,seval]
 ·clear a;have a:=h;simp only[gI,seval];apply sp aZ a<;>intro _ a
  ·cases a;simp only[gI,seval];rw[ay];refine⟨_,rfl,?_⟩;refine⟨0,?_,?_,?_⟩;all_goals (rfl)
  ·obtain⟨p,k,a⟩:=ae a;simp only[gI,seval,k];apply sp aZ a<;>intro _ a
   ·cases a;simp only[gI,seval];rw[ay];refine⟨_,rfl,?_⟩;refine⟨0,?_,?_,?_⟩;all_goals (rfl)
   ·cases a;simp only[gI,seval];rw[ay];refine⟨_,rfl,?_⟩;refine⟨0,?_,?_,?_⟩;all_goals (rfl)
def cR(l:Option (D×Row))(d:List D):=dx (dp (bC ah)) (fun x:an=>jk x) (fun r:Int =>.clean (.int .i64 r)) l d
def zV:Env:=(Am.ext bd 54 false bn)
def Pv:bN prog zV:=(bN.none.add fJ false)
def AN:=ai @w<|ai @kC<|ai @bn.eq_1<|@zV.eq_1
def lx:b6 prog 24 cR:=b6.gO (mode:=.clean) tok Pv mixed func24 (by kernel_rfl) (fun _ _=>rfl) (fun _=>by kernel_rfl) fun c r a=>by
 replace a:jk c=some r:=a;apply aD rfl ntmps24 results24;simp only[gP];unfold jk at a;obtain⟨d,b,a⟩:=ae a;simp only[AN,seval,b];apply sp av a<;>intro _ a
 ·cases a;simp only[AN,seval]
 ·cases a;simp only[AN,seval]
def AT(l:Option (D×Row))(d:List D):=dx (eZ (bC e9) (dp (bC e9))) (fun x:aF×aF=>A9 x.1 x.2) (fun r:aF×Int =>.clean (.tup [.agg [.int .i64 r.1.al,.sl false false r.1.aa.length (aq (eI .i64) r.1.aa)],.int .i64 r.2])) l d
def EG:Env:=(Am.ext (Am.ext (Am.ext (Am.ext bd 103 false ca) 113 false cV) 114 false oa) 154 false tS)
def Wh:bN prog EG:=((((bN.none.add iX false).add lX false).add uY false).add JY false)
def rM:=ai @w<|ai @y3<|ai @ca.eq_1<|ai @Hy<|ai @cV.eq_1<|ai @ij<|ai @GL<|ai @tS.eq_1<|@EG.eq_1
def WU:b6 prog 112 AT:=b6.gO (mode:=.clean) tok Wh mixed func112 (by kernel_rfl) (fun _ _=>rfl) (fun _=>by kernel_rfl) fun⟨i,j⟩ r a=>by
 replace a:A9 i j=some r:=a;apply aD rfl ntmps112 results112;simp only[gP];unfold A9 at a;obtain⟨w,k,a⟩:=ae a;simp only[rM,seval,k];obtain⟨u,l,a⟩:=ae a;refine bX 0 (fun s t H e=>match s with|b=>∃c:Nat,∃d:Nat,∃f:Nat,t 2=.ptr 2 c 0∧t 3=.ptr 3 d 0∧t 4=.ptr 4 f 0∧t 13=.bool b∧H 2=rV c 39 [sN i.al,sI i.aa]∧H 3=rV d 39 [sN j.al,sI j.aa]∧H 4=rV f 39 [sN 0,.sl true true 0 []]) (fun s=>s=u) ?_ ?_
 ·rintro b t H e ⟨c,d,f,g⟩ rfl;try dsimp only at a
  simp only[rM,seval,g];apply sp av a<;>intro _ a
  ·have q:=ij false 0 ([]);simp only[bK]at q;obtain⟨x,m,a⟩:=ae a;cases a;simp only[rM,seval,g,q,m]
  ·obtain⟨y,n,a⟩:=ae a;obtain⟨z,o,a⟩:=ae a;obtain⟨A,p,a⟩:=ae a;simp only[rM,seval,g,n,o,p];refine bA (by kernel_rfl) ?_;cases a;simp only[seval]
 ·clear a;have a:=l;simp only[rM,seval];apply sp aZ a<;>intro _ a
  ·cases a;simp only[rM,seval];rw[ay];refine⟨_,rfl,?_⟩;refine⟨0,0,0,?_,?_,?_,?_,?_,?_,?_⟩;all_goals (rfl)
  ·obtain⟨v,h,a⟩:=ae a;cases a;simp only[rM,seval,h];rw[ay];refine⟨_,rfl,?_⟩;refine⟨0,0,0,?_,?_,?_,?_,?_,?_,?_⟩;all_goals (rfl)
section
variable {P:Program} {T:Nat->Option Ty} {N F:Nat} {M:Nat->Prop} {L:mc} {w0:World} {blk:Nat->Option (Nat×Nat)} {t:Nat->D} {h:Nat->Option Row} {a:Act} {w:World} {e:Nat} {Γ:Env} {done:List Nat}
def Jk(d:xE N M L w0 blk e done t h a w):Holds N M L w0 ⟨t,h,e+1⟩ a w:=by
 refine⟨blk,d.inv.weaken fun x v c =>?_,fun x r f s g i j k l m =>?_⟩
 ·rcases c with⟨b,c|⟨c,_⟩⟩|⟨b,o,p,n⟩
  ·exact .inl ⟨b,.inl (by simp only;omega)⟩
  ·exact .inl ⟨b,.inl (by simp only;omega)⟩
  ·exact .inr ⟨b,by simp only;omega,fun _=>by simp only;omega,n⟩
 ·have:=d.nv x r f s g i j k l m;grind
def Kq(p:km P T)(q:bN P Γ){b l:List Oper}{K:(Nat->D)->(Nat->Option Row)->Prop}{Q:Exit->Act->World->Prop}(r:xE N M L w0 blk e done t h a w)(j:(l.filterMap (·.dst)).Nodup)(s:∀o∈l,∀d,o.dst=some d->d∉done)
  (u:nX T Γ N F b l [] (fun _ t h _=>K t h) t h e) (hQ:∀c f g i,K c f->Holds N M L w0 ⟨c,f,e+1⟩ g i->Q .normal g i):wpList P b.toArray Q l a w:=by
 obtain⟨c,f,y,v,x⟩:=D5 (T:=T) (Γ:=Γ) (N:=N) (e:=e) (ops:=b.toArray) l t h u;exact C3 p q v j s r fun g i n k m=>hQ c f g i x (Jk m)
def ad9(p:km P T)(q:bN P Γ){b l:List Oper}{o:Oper}{K:(Nat->D)->(Nat->Option Row)->Prop}{Q:Exit->Act->World->Prop}(r:xE N M L w0 blk e done t h a w)(s:∀d,o.dst=some d->d∉done)
  (u:nX T Γ N F b [o] [] (fun _ t h _=>K t h) t h e) (hQ:∀i j k m c,K i j->xE N M L w0 c e (o.dst.toList++done) i j k m->wpList P b.toArray Q l k m):wpList P b.toArray Q (o::l) a w:=by
 obtain⟨i,j,z,g,v⟩:=D5 (T:=T) (Γ:=Γ) (N:=N) (e:=e) (ops:=b.toArray) [o] t h u;simp only[FB]at g;split at g
 ·rename_i t1 x f y;simp only[anf,Prod.mk.injEq]at g;obtain⟨rfl,rfl,_⟩:=g;unfold wpList;exact Qr p q r y s fun k m c n=>hQ _ _ _ _ c v n
 ·cases g
def Dj(m:km P T)(n:bN P Γ)(o:P.follows .mixedOrders=true){c:Code}{K:Kt}{Q:Exit->Act->World->Prop}(p:Holds N M L w0 ⟨t,h,e⟩ a w)(g:codeOk c=true)(q:er T Γ N F [.code c] K .normal t h e)
  (hQ:∀x j k l b d,K x j k l->Holds N M L w0 ⟨j,k,l⟩ b d->Q (IS x) b d):c.wp P Q a w:=by
 obtain⟨x,f,r,s⟩:=FO c t h e K q;exact lj m n o c ⟨t,h,e⟩ x f Q a w r g p fun b d i=>hQ x f.t f.h f.e b d s i
def jX.maps{a:Nat->Option Row}(l:∀x,a x=h x∨∃v c d f g b,a x=some ⟨v,c,[.mpc d f],g,b,true⟩):jX e h a:=by
 intro x m i n j k o p q r;grind
def ad1{d:Nat}(b:d<N)(f:N<=PK)(c:d∉done):lE N (VE N e done h) d e where
 no:=by
  rintro (⟨_,a|⟨_,a⟩⟩|⟨a,_⟩)
  ·omega
  ·exact c a
  omega
 lt:=b
end
def map_eraseIdx{α β:Type}(f:α->β):∀(l:List α)(j:Nat),(l.map f).eraseIdx j=(l.eraseIdx j).map f
 | [],_=>rfl
 | a::l,0=>rfl
 | a::l,j+1=>by simp[map_eraseIdx f l j]
def DP{α:Type}:∀m:List ((Int×Int)×α),fW m=m.map fun q=>FT.k q.1
 | []=>rfl
 | (k,v)::m=>by simp[fW,DP m]
def JA{α:Type}(A:Arg α):∀m:List ((Int×Int)×α),iW A m=m.map fun q=>A.d q.2
 | []=>rfl
 | (k,v)::m=>by simp[iW,JA A m]
def Kf{α:Type}:∀{l:List α}{j:Nat}{q:α},l[j]? = some q->l.Perm (q::l.eraseIdx j)
 | [],_,_,h=>by simp at h
 | a::l,0,q,h=>by simp_all
 | a::l,j+1,q,h=>by
  simp only[List.getElem?_cons_succ]at h;exact ((Kf h).cons a).trans (List.Perm.swap q a _)
def ki(q:(Int×Int)×an):cN:=cN.mk q.1.1 q.1.2 q.2
def aj1(r:gK×Int)(t:Nat->D)(h:Nat->Option Row)(e:Nat):Prop:=∃(m:List ((Int×Int)×an))(a:Int)(b c d f:Nat),t 6=.mp 21 b∧h 21=some ⟨b,113,[.mpc (fW m) (iW (bC ah) m)],false,true,true⟩ ∧
 t 9=.ptr 9 c 0∧h 9=some ⟨c,66,[.nr 118 6 f [.int .i64 a,.nx 0 []]],false,false,true⟩∧t 2=.ptr 2 d 0∧h 2=some ⟨d,66,[.int .i64 0,.sl true true 0 []],false,false,false⟩∧f<=4*e∧Hu a m=some r
def HI:=mkW 118 ch (dp (QT 67)) (fun (l:List cN) (_:Unit)=>GM (mo cN.dG cN.mf) l) (fun _:Unit =>.clean (.tup []))
def ae6(b a:List D)(c:List cN):HI (some (.buf 0 0 6 b.length c.length,⟨0,118,b++(aq ch c++a),false,true,false⟩)) [.fn 67]=(GM (mo cN.dG cN.mf) c).map fun r=>(.clean (.tup []),some ⟨0,118,b++(aq ch r.1++a),false,true,false⟩):=aeJ _ _ _ _ _ b a c ()
def abx:b6 prog 66 HI:=P6 zL (fun x=>by rw[tD];rfl) (fun x=>by rw[tD];rfl) 118
def Wc:Env:=(Am.zf 9 (118,6,1) (Am.ext bd 66 true HI))
def vL:bN prog Wc:=bN.zf (bN.none.add abx true) 9 (118,6,1)
def AO:=ai @w<|@Wc.eq_1
def XX(m:List ((Int×Int)×an))(a:Int)(d:List ((Int×Int)×an))(t:Nat->D)(h:Nat->Option Row)(e:Nat):Prop:=∃(f:List eE)(g:List D)(b:List cN)(i c j k l:Nat),
 t 44=.ptr 44 i 0∧h 44=some ⟨i,c,[.mpc f g],false,true,true⟩∧900000<=c∧f.drop (c-900000)=fW d∧g.drop (c-900000)=iW (bC ah) d ∧
 t 9=.ptr 9 j 0∧h 9=some ⟨j,66,[.nr 118 6 l [.int .i64 a,.nx b.length (aq ch b)]],false,false,true⟩∧t 2=.ptr 2 k 0∧h 2=some ⟨k,66,[.int .i64 0,.sl true true 0 []],false,false,false⟩∧l<=4*e∧(b++d.map ki).Perm (m.map ki)
def agZ{m:List ((Int×Int)×an)}{c:Int}(A:m.length<=8000∧(m.map (·.1)).Nodup){t:Nat->D}{h:Nat->Option Row}{e:Nat}{w0:World}{M:Nat->Prop}{a:Act}{w:World}(B:XX m c [] t h e)(C:Holds 65 M none w0 ⟨t,h,e⟩ a w) :
  (FH 0 (FH 5 (ac2 Tryz.f26))).wp prog (bodyPost prog Tryz.f26 fun e n=>∃v,e=.returned v∧Below w0.heap.size w0 n∧zm w0 n M (fun _=>False) v (.clean (.tup [.agg [.int .i64 c,.sl false false (te (mo cN.dG cN.mf) (m.map ki)).length (aq ch (te (mo cN.dG cN.mf) (m.map ki)))],.int .i64 0]))) a w:=by
 obtain⟨Z,vs,b,vI,ty,v9,v2,nv,i1,i2,i3,i4,i5,E,G,H,I,J,d⟩:=B;rw[anP,aoI]at d;have hkey:∀x∈b,∀y∈b,mo cN.dG cN.mf x y=0->x=y:=by
  intro x o y r L;obtain⟨p,N,rfl⟩:=am5.1 (d.mem_iff.1 o);obtain⟨q,O,rfl⟩:=am5.1 (d.mem_iff.1 r);obtain⟨P,Q⟩:=Xu.1 L;have R:p.1=q.1:=Prod.ext P Q;have:p=q:=by
   obtain⟨i,S,rfl⟩:=ao5 N;obtain⟨j,T,rfl⟩:=ao5 O;have:=(List.getElem_inj (h₀:=by simpa using S) (h₁:=by simpa using T) A.2).1 (by simpa using R);subst this;rfl
  rw[this]
 have s:te (mo cN.dG cN.mf) b=te (mo cN.dG cN.mf) (m.map ki):=by
  refine sn (((lr _ b).trans d).trans (lr _ _).symm) (fun x o y r h1 h2=>hkey x ((lr _ b).mem_iff.1 o) y ((lr _ b).mem_iff.1 r) ?_) (qe (AK _ _) _) (qe (AK _ _) _);have:=(AK cN.dG cN.mf).neg x y;omega
 have f:b.length=m.length:=by rw[d.length_eq,anz]
 have u:GM (mo cN.dG cN.mf) b=some (te (mo cN.dG cN.mf) (m.map ki),()):=by
  unfold GM;grind
 have g:(te (mo cN.dG cN.mf) (m.map ki)).length=b.length:=by rw[rz,anz,f]
 generalize te (mo cN.dG cN.mf) (m.map ki)=k at u g ⊢;have z:=ae6 [] [] b;simp only[List.nil_append,aoI,List.length_nil,bK]at z;refine (show (Code.seq (Code.region _ _ _) (Code.seq (Code.region _ _ _) Code.ret)).wp _ _ _ _ from ?_);refine Dj (F:=FU) tok vL mixed C (by kernel_rfl) (K:=fun x t h e=>x=.ret∧gF .clean tab none [.cell 2 66,.tmp 3] ⟨t,EH h,e⟩=some (.clean (.tup [.agg [.int .i64 c,.sl false false k.length (aq ch k)],.int .i64 0]),none)) ?_ ?_
 ·simp only[AO,seval,E,G,H,I,z,u,g]
 ·rintro x U V W X n ⟨rfl,hr⟩ Y;have l:Holds Tryz.f26.ntmps M none w0 ⟨U,V,W⟩ X n:=by simp_all
  exact M5 tok l (by simp_all)
def aeS(r:gK×Int):Q3 prog Tryz.f26 (FH 5 (ac2 Tryz.f26)) (.clean (.tup [.agg [.int .i64 r.1.aC,.sl false false r.1.bf.length (aq ch r.1.bf)],.int .i64 r.2])) (aj1 r):=by
 intro w0 M s a w hJ E;obtain⟨t0,h0,H⟩:=s;obtain⟨m,c,g,z,A,O,j1,j2,j3,j4,j5,j6,j7,hr⟩:=hJ;dsimp only at j1 j2 j3 j4 j5 j6 j7;unfold Hu at hr
 by_cases hc:m.length<=8000∧(m.map (·.1)).Nodup
 rotate_left
 ·simp_all
 rw[if_pos hc]at hr;cases hr;rw[ntmps26]at E;apply wp_seq;apply wp_seq;obtain⟨blk,B⟩:=E;apply wp_region_lit;refine ad9 (F:=FU) tok vL B (fun d _=>by simp) (K:=fun t h=>t=cq t0 43 (.mp 21 g)∧h=h0) (by simp only[AO,seval,j1,j2]) ?_;rintro t1 h1 a1 w1 aj ⟨rfl,rfl⟩ G;refine Er rfl G (by decide) (K:=fun t h=>t=cq (cq t0 43 (.mp 21 g)) 44 (.ptr 44 H 0)∧h=cq (cq h1 21 (some ⟨g,113,[.mpc (fW m) (iW (bC ah) m)],true,true,true⟩)) 44 (some ⟨H,900000,[.mpc (fW m) (iW (bC ah) m)],false,true,true⟩)) ?_ ?_
 ·refine fC.mono (VV tok G.inv (e:=H) (ty:=113) (d:=44) (k:=116) (el:=41) (x:=21) (v:=g) (v':=g) (m:=.tmp 43) rfl rfl (ad1 (by decide) (by rw[gr];decide) (by simp)) underlying113 (by simp[ev,aA]) j2 (by decide) (by rw[gr];decide) (by decide)) fun v w' hA=>⟨_,⟨rfl,rfl⟩,A6 G (fun d hd =>?_) (jX.maps fun x =>?_) hA⟩
  ·grind
  ·show cq (cq h1 21 _) 44 _ x=_∨_
   by_cases l:x=44
   ·subst l;rw[aA];exact .inr ⟨_,_,_,_,_,_,rfl⟩
   ·rw[aG _ _ l]
    by_cases P:x=21
    ·subst P;rw[aA];exact .inr ⟨_,_,_,_,_,_,rfl⟩
    ·rw[aG _ _ P];exact .inl rfl
 ·rintro t2 h2 Q R ak ⟨rfl,rfl⟩ S;have T:=Jk S;have U:XX m c m (cq (cq t0 43 (.mp 21 g)) 44 (.ptr 44 H 0)) (cq (cq h1 21 (some ⟨g,113,[.mpc (fW m) (iW (bC ah) m)],true,true,true⟩)) 44 (some ⟨H,900000,[.mpc (fW m) (iW (bC ah) m)],false,true,true⟩)) (H+1) :=
   ⟨_,_,[],H,900000,z,A,O,aA _ _ _,aA _ _ _,am6 _,by simp_all,by simp_all,by rw[aG _ _ (by decide),aG _ _ (by decide)];exact j3,by rw[aG _ _ (by decide),aG _ _ (by decide)];exact j4,by rw[aG _ _ (by decide),aG _ _ (by decide)];exact j5,by rw[aG _ _ (by decide),aG _ _ (by decide)];exact j6,by omega,List.Perm.refl _⟩
  apply wp_block;refine wp_loop_ghost (fun n a w=>∃(o:List ((Int×Int)×an))(t:Nat->D)(h:Nat->Option Row)(e:Nat),o.length=n∧XX m c o t h e∧Holds 65 M none w0 ⟨t,h,e⟩ a w) m.length ⟨m,_,_,_,rfl,U,T⟩ ?_;clear U T S G B j1 j2 j3 j4 j5 j6 j7;rintro n a w ⟨o,t,h,e,hn,⟨ks,vs,f,C,ty,z,A,O,i1,i2,i3,V,i5,i6,i7,i8,i9,ar,I⟩,blk,B⟩;replace B:xE 65 M none w0 blk e [] t h a w:=B;apply wp_seq;apply wp_region_lit;refine Er rfl B (by decide) (K:=fun t' h'=>(o=[]∧t'=cq t 45 (.tup [.bool false])∧h'=h)∨∃(k:Int×Int)(x:an)(b:List ((Int×Int)×an)),(o.map ki).Perm (ki (k,x)::b.map ki)∧o.length=b.length+1 ∧
   t'=cq t 45 (.tup [.bool true,.agg [.int .i64 k.1,.int .i64 k.2],.agg [.int .i64 x.bF.al,.sl false false x.bF.aa.length (aq (eI .i64) x.bF.aa),.int .i64 x.bJ.al,.sl false false x.bJ.aa.length (aq (eI .i64) x.bJ.aa)]]) ∧
   h'=cq h 44 (some ⟨C,900001,[.mpc (fW ((k,x)::b)) (iW (bC ah) ((k,x)::b))],false,true,true⟩)) ?_ ?_
  ·refine fC.mono (aaN B.inv (e:=e) (y:=44) (p:=.tmp 44) rfl (by simp[ev,i1]) i2 i3 (by rw[gr];decide)) ?_;rintro v w' (⟨J,L⟩|⟨j,k,x,J,L,W⟩)
   ·rw[V,DP]at J;have aa:o=[]:=List.map_eq_nil_iff.1 J;exact⟨_,.inl ⟨aa,rfl,rfl⟩,A6 B (fun d hd=>by grind) (jX.maps fun x =>.inl rfl) L⟩
   ·rw[V,i5]at W;rw[V]at J;rw[i5]at L;rw[DP]at J W;rw[JA]at L W;rw[am3]at J L;obtain⟨q,hq,rfl⟩:=am4.1 J;rw[hq]at L;cases L;rw[map_eraseIdx,map_eraseIdx,<- DP,<- JA]at W;have hp:=Kf hq;refine⟨_,.inr ⟨q.1,q.2,o.eraseIdx j,hp.map ki,hp.length_eq,rfl,rfl⟩,A6 B (fun d hd=>by grind) (jX.maps fun x =>?_) W⟩;show cq h 44 _ x=_∨_
    by_cases l:x=44
    ·subst l;rw[aA];exact .inr ⟨_,_,_,_,_,_,rfl⟩
    ·rw[aG _ _ l];exact .inl rfl
  ·rintro t' h' a' w' al (⟨rfl,rfl,rfl⟩|⟨k,x,b,p1,p2,rfl,rfl⟩) N
   ·refine Kq (F:=FU) tok vL N (by decide) (by simp) (K:=fun t' i=>t'=cq (cq t 45 (.tup [.bool false])) 46 (.bool false)∧i=h') (by simp only[AO,seval]) ?_;rintro t2 h2 Q R ⟨rfl,rfl⟩ E;refine (show Code.wp _ (Code.seq (Code.cond _ Code.skip (Code.exit 2)) _) _ Q R from ?_);refine Dj (F:=FU) tok vL mixed E (by kernel_rfl) (K:=fun x t' i X=>x=.exit 2∧t'=cq (cq t 45 (.tup [.bool false])) 46 (.bool false)∧i=h2∧X=e+1) (by simp only[AO,seval]) ?_;rintro x t3 h3 e3 a3 w3 ⟨rfl,rfl,rfl,rfl⟩ ab;refine agZ hc ⟨ks,vs,f,C,ty,z,A,O,?_,i2,i3,V,i5,?_,i7,?_,i9,by omega,I⟩ ab
    ·rw[aG _ _ (by decide),aG _ _ (by decide)];exact i1
    ·rw[aG _ _ (by decide),aG _ _ (by decide)];exact i6
    ·rw[aG _ _ (by decide),aG _ _ (by decide)];exact i8
   ·refine Kq (F:=FU) tok vL N (by decide) (by simp) (K:=fun t' i=>t'=cq (cq t 45 (.tup [.bool true,.agg [.int .i64 k.1,.int .i64 k.2],.agg [.int .i64 x.bF.al,.sl false false x.bF.aa.length (aq (eI .i64) x.bF.aa),.int .i64 x.bJ.al,.sl false false x.bJ.aa.length (aq (eI .i64) x.bJ.aa)]])) 46 (.bool true)∧i=cq h 44 (some ⟨C,900001,[.mpc (fW ((k,x)::b)) (iW (bC ah) ((k,x)::b))],false,true,true⟩)) (by simp only[AO,seval]) ?_;rintro t2 h2 Q R ⟨rfl,rfl⟩ E;refine (show Code.wp _ (Code.seq (Code.cond _ Code.skip (Code.exit 2)) (Code.block 3 (Code.seq (Code.region _ (List.toArray _) false) _))) _ Q R from ?_);apply wp_seq;have hF:∃t h,(t 44=.ptr 44 C 0∧t 9=.ptr 9 z 0∧t 2=.ptr 2 A 0∧h 44=some ⟨C,900001,[.mpc (fW ((k,x)::b)) (iW (bC ah) ((k,x)::b))],false,true,true⟩∧h 9=some ⟨z,66,[.nr 118 6 O [.int .i64 c,.nx f.length (aq ch f)]],false,false,true⟩∧h 2=some ⟨A,66,[.int .i64 0,.sl true true 0 []],false,false,false⟩∧t 46=.bool true)∧Holds 65 M none w0 ⟨t,h,e+1⟩ Q R:=by
     refine⟨_,_,⟨?_,?_,?_,aA _ _ _,?_,?_,aA _ _ _⟩,E⟩
     ·rw[aG _ _ (by decide),aG _ _ (by decide)];exact i1
     ·rw[aG _ _ (by decide),aG _ _ (by decide)];exact i6
     ·rw[aG _ _ (by decide),aG _ _ (by decide)];exact i8
     ·rw[aG _ _ (by decide)];exact i7
     ·rw[aG _ _ (by decide)];exact i9
    clear E N B i1 i2 i3 V i5 i6 i7 i8 i9;clear h t;obtain⟨t,h,⟨f1,f2,f3,f4,f5,f6,f7⟩,E⟩:=hF;refine Dj (F:=FU) tok vL mixed E (by kernel_rfl) (K:=fun x t' i X=>x=.normal∧t'=t∧i=h∧X=e+1) (by simp only[AO,seval,f7]) ?_;rintro x' t3 h3 e3 a3 w3 ⟨rfl,rfl,rfl,rfl⟩ ⟨Y,u⟩;replace u:xE 65 M none w0 Y (e+1) [] t3 h3 a3 w3:=u;refine (show Code.wp _ (Code.block 3 (Code.seq (Code.region _ (List.toArray _) false) _)) _ a3 w3 from ?_);apply wp_block;apply wp_seq;apply wp_region_lit;refine Er rfl u (by decide) (K:=fun t' h'=>t'=cq t3 47 (.tup [.agg [.int .i64 k.1,.int .i64 k.2],.agg [.int .i64 x.bF.al,.sl false false x.bF.aa.length (aq (eI .i64) x.bF.aa),.int .i64 x.bJ.al,.sl false false x.bJ.aa.length (aq (eI .i64) x.bJ.aa)]])∧h'=h3) ?_ ?_
    ·refine fC.mono (VS u.inv (e:=e+1) (y:=44) (p:=.tmp 44) (k:=FT.k k) (x:=(bC ah).d x) (ks:=fW b) (vs:=iW (bC ah) b) rfl (by simp[ev,f1]) f4 (by rw[gr];decide)) fun v w' hA=>⟨_,⟨rfl,rfl⟩,A6 u (fun d hd=>by grind) (jX.refl _ _) hA⟩
    ·rintro t4 h4 a4 w4 ao ⟨rfl,rfl⟩ ad;refine Kq (F:=FU) tok vL ad (by decide) (by simp) (K:=fun t' h'=>t' 44=.ptr 44 C 0∧t' 9=.ptr 9 z 0∧t' 2=.ptr 2 A 0∧t' 10=.ptr 10 (e+1) 0∧t' 11=.ptr 11 (e+1) 0 ∧
      h' 44=some ⟨C,900001,[.mpc (fW ((k,x)::b)) (iW (bC ah) ((k,x)::b))],false,true,true⟩∧h' 9=some ⟨z,66,[.nr 118 6 O [.int .i64 c,.nx f.length (aq ch f)]],false,false,true⟩∧h' 2=some ⟨A,66,[.int .i64 0,.sl true true 0 []],false,false,false⟩ ∧
      h' 10=some ⟨e+1,116,[.int .i64 k.1,.int .i64 k.2],false,false,false⟩∧h' 11=some ⟨e+1,41,[.int .i64 x.bF.al,.sl false false x.bF.aa.length (aq (eI .i64) x.bF.aa),.int .i64 x.bJ.al,.sl false false x.bJ.aa.length (aq (eI .i64) x.bJ.aa)],false,false,false⟩) (by simp only[AO,seval,f1,f2,f3,f4,f5,f6]) ?_
     rintro t5 h5 a5 w5 ⟨g1,g2,g3,g4,g5,g6,g7,g8,g9,ae⟩ ag;have au:f.length+1+b.length=m.length:=by
      have:=I.length_eq;grind
     have Z:me 80 f [ki (k,x)]=some (f++[ki (k,x)]):=by
      unfold me;have:(17592186044416:Nat)<=maxLen:=by decide
      grind
     obtain⟨qa,qb,qc,qd⟩:=iR ch Z;simp only[bK,ki]at qb;have bp:bump O (e+1+1)=some (4*(e+1+1)+1):=mj (by omega);refine (show Code.wp _ (Code.region _ (List.toArray _) false) _ a5 w5 from ?_);refine Dj (F:=FU) tok vL mixed ag (by kernel_rfl) (K:=fun x' t' h' X=>x'=.normal∧X=e+1+1+1∧t' 44=.ptr 44 C 0∧t' 9=.ptr 9 z 0∧t' 2=.ptr 2 A 0 ∧
      h' 44=some ⟨C,900001,[.mpc (fW ((k,x)::b)) (iW (bC ah) ((k,x)::b))],false,true,true⟩∧h' 9=some ⟨z,66,[.nr 118 6 (4*(e+1+1)+1) [.int .i64 c,.nx (f++[ki (k,x)]).length (aq ch (f++[ki (k,x)]))]],false,false,true⟩∧h' 2=some ⟨A,66,[.int .i64 0,.sl true true 0 []],false,false,false⟩)
      (by simp only[AO,seval,g1,g2,g3,g4,g5,g6,g7,g8,g9,ae,qa,qb,qc,qd,bp,ki];exact⟨qc,qd⟩) ?_
     rintro x' t6 h6 e6 a6 w6 ⟨rfl,rfl,l1,l2,l3,l4,l5,l6⟩ ai;refine (show ∃n',n'<n∧∃(o:List ((Int×Int)×an))(t:Nat->D)(h:Nat->Option Row)(e:Nat),o.length=n'∧XX m c o t h e∧Holds 65 M none w0 ⟨t,h,e⟩ a6 w6 from ?_);refine⟨b.length,by omega,b,t6,h6,_,rfl,⟨_,_,_,C,900001,z,A,_,l1,l4,by decide,?_,?_,l2,l5,l3,l6,by omega,?_⟩,ai⟩
     ·rw[show 900001-900000=1 from aoQ (n:=900000) (m:=1)];rfl
     ·rw[show 900001-900000=1 from aoQ (n:=900000) (m:=1)];rfl
     ·rw[aoK];exact (List.Perm.append_left f p1.symm).trans I
def fc(l:Option (D×Row))(d:List D):=dx (eZ (bC e9) (dp (bC e9))) (fun x:aF×aF=>df x.1 x.2) (fun r:aF =>.clean (.agg [.int .i64 r.al,.sl false false r.aa.length (aq (eI .i64) r.aa)])) l d
def x4:Env:=(Am.ext bd 112 false AT)
def Lr:bN prog x4:=(bN.none.add WU false)
def QP:=ai @w<|ai @B4<|ai @AT.eq_1<|@x4.eq_1
def sh:b6 prog 60 fc:=b6.gO (mode:=.clean) tok Lr mixed func60 (by kernel_rfl) (fun _ _=>rfl) (fun _=>by kernel_rfl) fun⟨c,d⟩ r a=>by
 replace a:df c d=some r:=a;apply aD rfl ntmps60 results60;simp only[gP];unfold df at a;obtain⟨e,b,a⟩:=ae a;cases a;simp only[QP,seval,b]
def Da(l:Option (D×Row))(d:List D):=dx (dp (iQ (eI .i64))) (fun x:(List Int)=>zB x) (fun r:Int =>.clean (.int .i64 r)) l d
def NX:b6 prog 115 Da:=b6.gO (mode:=.clean) tok bN.none mixed func115 (by kernel_rfl) (fun _ _=>rfl) (fun _=>by kernel_rfl) fun h r a=>by
 replace a:zB h=some r:=a;apply aD rfl ntmps115 results115;simp only[gP];unfold zB at a;simp only[w,seval];obtain⟨l,i,a⟩:=ae a;refine az (fun s t H e=>match s with|b=>t 3=sN 0∧t 6=sI h∧t 7=sN (h.length:Int)∧t 8=sN b) (fun o x t H e=>match o with|(.inl _)=>x=.exit 0∧t 3=sN 0|(.inr r)=>x=.ret∧gF .clean tab none [.tmp 2] ⟨t,EH H,e⟩=some (.clean (.int .i64 r),none)) i ?_ ?_ ?_
 ·refine⟨?_,?_,?_,?_⟩;all_goals (rfl)
 ·rintro b t H e d c a;simp only[Be]at a;simp only[w,seval,d];apply sp av a<;>intro _ a
  ·obtain⟨n,j,a⟩:=ae a;have f:=bh (eI .i64) j;simp only[bK]at f;simp only[w,seval,d,f];apply sp av a<;>intro _ a
   ·cases a;simp only[w,seval];refine tf ⟨rfl,?_⟩;simp only[w,seval]
   ·cases a;simp only[w,seval,d];apply gS;and_intros<;>first|rfl|(simp only[w,seval,d]<;>rfl)
  ·cases a;simp only[w,seval];apply jf;refine⟨rfl,?_⟩;all_goals ((simp only[w,seval,d]<;>rfl))
 ·rintro x t H e g;rcases l with _|p
  ·dsimp only at g a;obtain⟨rfl,k⟩:=g;cases a;simp only[w,seval,k]
  ·dsimp only at g a;obtain⟨rfl,m⟩:=g;cases a;simp only[aV,bc,cw,cL];exact m
def AQ(l:Option (D×Row))(d:List D):=dx (eZ (bC e9) (dp (bC e9))) (fun x:aF×aF=>A7 x.1 x.2) (fun r:aF×Int =>.clean (.tup [.agg [.int .i64 r.1.al,.sl false false r.1.aa.length (aq (eI .i64) r.1.aa)],.int .i64 r.2])) l d
def Uv(a:(List Int)):Da none [.sl false false a.length (aq (eI .i64) a)]=(zB a).map fun r:Int=>(.clean (.int .i64 r),none):=cF _ _ _ (a)
def EB:Env:=(Am.ext (Am.ext (Am.ext (Am.ext (Am.ext (Am.ext (Am.ext bd 103 false ca) 111 false gw) 113 false cV) 114 false oa) 115 false Da) 116 false tR) 117 false qP)
def Wd:bN prog EB:=(((((((bN.none.add iX false).add uZ false).add lX false).add uY false).add NX false).add JW false).add JZ false)
def kY:=ai @w<|ai @y3<|ai @ca.eq_1<|ai @GL<|ai @gw.eq_1<|ai @Hy<|ai @cV.eq_1<|ai @ij<|ai @tR.eq_1<|ai @qP.eq_1<|@EB.eq_1
def WR:b6 prog 62 AQ:=b6.gO (mode:=.clean) tok Wd mixed func62 (by kernel_rfl) (fun _ _=>rfl) (fun _=>by kernel_rfl) fun⟨u,v⟩ r a=>by
 replace a:A7 u v=some r:=a;apply aD rfl ntmps62 results62;simp only[gP];unfold A7 at a;obtain⟨P,w,a⟩:=ae a;simp only[kY,seval,w];obtain⟨D,x,a⟩:=ae a;refine bX 0 (fun s t H e=>match s with|c=>∃d:Nat,∃f:Nat,∃g:Nat,t 2=.ptr 2 d 0∧t 3=.ptr 3 f 0∧t 4=.ptr 4 g 0∧t 13=.bool c∧H 2=rV d 39 [sN u.al,sI u.aa]∧H 3=rV f 39 [sN v.al,sI v.aa]∧H 4=rV g 39 [sN 0,.sl true true 0 []]) (fun s=>s=D) ?_ ?_
 ·rintro c t H e ⟨d,f,g,b⟩ rfl;try dsimp only at a
  simp only[kY,seval,b];apply sp av a<;>intro _ a
  ·have B:=ij false 0 ([]);simp only[bK]at B;obtain⟨Q,y,a⟩:=ae a;cases a;simp only[kY,seval,b,B,y]
  ·simp only[kY,seval,b];apply sp av a<;>intro _ a
   ·have C:=Uv ([u.al,v.al]);simp only[bY,bK,List.length_cons,an5,Nat.reduceAdd]at C;obtain⟨R,z,a⟩:=ae a;obtain⟨S,A,a⟩:=ae a;obtain⟨E,h,a⟩:=ae a;obtain⟨F,i,a⟩:=ae a;simp only[kY,seval,b,C,z,A,h,i];refine bA (by kernel_rfl) ?_;cases a;simp only[seval]
   ·obtain⟨G,j,a⟩:=ae a;simp only[kY,seval,b,j];apply sp av a<;>intro _ a
    ·obtain⟨I,k,a⟩:=ae a;obtain⟨J,l,a⟩:=ae a;obtain⟨K,m,a⟩:=ae a;simp only[kY,seval,b,k,l,m];refine bA (by kernel_rfl) ?_;cases a;simp only[seval]
    ·obtain⟨L,n,a⟩:=ae a;obtain⟨M,o,a⟩:=ae a;obtain⟨N,p,a⟩:=ae a;simp only[kY,seval,b,n,o,p];refine bA (by kernel_rfl) ?_;cases a;simp only[seval]
 ·clear a;have a:=x;simp only[kY,seval];apply sp aZ a<;>intro _ a
  ·cases a;simp only[kY,seval];rw[ay];refine⟨_,rfl,?_⟩;refine⟨0,0,0,?_,?_,?_,?_,?_,?_,?_⟩;all_goals (rfl)
  ·obtain⟨O,q,a⟩:=ae a;cases a;simp only[kY,seval,q];rw[ay];refine⟨_,rfl,?_⟩;refine⟨0,0,0,?_,?_,?_,?_,?_,?_,?_⟩;all_goals (rfl)
def gU(l:Option (D×Row))(d:List D):=dx (eZ (bC ah) (dp (bC ah))) (fun x:an×an=>oo x.1 x.2) (fun r:an×Int =>.clean (.tup [.agg [.int .i64 r.1.bF.al,.sl false false r.1.bF.aa.length (aq (eI .i64) r.1.bF.aa),.int .i64 r.1.bJ.al,.sl false false r.1.bJ.aa.length (aq (eI .i64) r.1.bJ.aa)],.int .i64 r.2])) l d
def qI{β:Type}{F:an×an->Option β}{R:β->RK}(e:Int)(a:(List Int))(f:Int)(b:(List Int))(g:Int)(c:(List Int))(h:Int)(d:(List Int)):dx (eZ (bC ah) (dp (bC ah))) F R none [.agg [.int .i64 e,.sl false false a.length (aq (eI .i64) a),.int .i64 f,.sl false false b.length (aq (eI .i64) b)],.agg [.int .i64 g,.sl false false c.length (aq (eI .i64) c),.int .i64 h,.sl false false d.length (aq (eI .i64) d)]]=(F ((an.mk (aF.mk e a) (aF.mk f b)),(an.mk (aF.mk g c) (aF.mk h d)))).map fun r=>(R r,none):=cF _ _ _ ((an.mk (aF.mk e a) (aF.mk f b)),(an.mk (aF.mk g c) (aF.mk h d)))
def Co:Env:=(Am.ext (Am.ext (Am.ext (Am.ext bd 54 false bn) 60 false fc) 62 false AQ) 63 false gW)
def SI:bN prog Co:=((((bN.none.add fJ false).add sh false).add WR false).add vW false)
def mV:=ai @w<|ai @kC<|ai @bn.eq_1<|ai @B4<|ai @fc.eq_1<|ai @AQ.eq_1<|ai @gW.eq_1<|@Co.eq_1
def vU:b6 prog 23 gU:=b6.gO (mode:=.clean) tok SI mixed func23 (by kernel_rfl) (fun _ _=>rfl) (fun _=>by kernel_rfl) fun⟨h,i⟩ r a=>by
 replace a:oo h i=some r:=a;apply aD rfl ntmps23 results23;simp only[gP];unfold oo at a;obtain⟨w,k,a⟩:=ae a;simp only[mV,seval,k];obtain⟨u,l,a⟩:=ae a;refine bX 0 (fun s t H e=>match s with|b=>∃c:Nat,∃d:Nat,∃f:Nat,t 2=.ptr 2 c 0∧t 3=.ptr 3 d 0∧t 4=.ptr 4 f 0∧t 15=.bool b∧H 2=rV c 41 [sN h.bF.al,sI h.bF.aa,sN h.bJ.al,sI h.bJ.aa]∧H 3=rV d 41 [sN i.bF.al,sI i.bF.aa,sN i.bJ.al,sI i.bJ.aa]∧H 4=rV f 41 [sN 0,.sl true true 0 [],sN 0,.sl true true 0 []]) (fun s=>s=u) ?_ ?_
 ·rintro b t H e ⟨c,d,f,g⟩ rfl;try dsimp only at a
  simp only[mV,seval,g];apply sp av a<;>intro _ a
  ·cases a;simp only[mV,seval,g]
  ·obtain⟨x,m,a⟩:=ae a;obtain⟨y,n,a⟩:=ae a;obtain⟨z,o,a⟩:=ae a;simp only[mV,seval,g,m,n,o];refine bA (by kernel_rfl) ?_;obtain⟨A,p,a⟩:=ae a;obtain⟨B,q,a⟩:=ae a;simp only[mV,seval,g,p,q];refine bA (by kernel_rfl) ?_;cases a;simp only[seval]
 ·clear a;have a:=l;simp only[mV,seval];apply sp aZ a<;>intro _ a
  ·cases a;simp only[mV,seval];rw[ay];refine⟨_,rfl,?_⟩;refine⟨0,0,0,?_,?_,?_,?_,?_,?_,?_⟩;all_goals (rfl)
  ·obtain⟨v,j,a⟩:=ae a;cases a;simp only[mV,seval,j];rw[ay];refine⟨_,rfl,?_⟩;refine⟨0,0,0,?_,?_,?_,?_,?_,?_,?_⟩;all_goals (rfl)
def qQ(l:Option (D×Row))(d:List D):=dx (eZ (bC ah) (dp (bC ah))) (fun x:an×an=>tI x.1 x.2) (fun r:an =>.clean (.agg [.int .i64 r.bF.al,.sl false false r.bF.aa.length (aq (eI .i64) r.bF.aa),.int .i64 r.bJ.al,.sl false false r.bJ.aa.length (aq (eI .i64) r.bJ.aa)])) l d
def EP:Env:=(Am.ext bd 23 false gU)
def Wo:bN prog EP:=(bN.none.add vU false)
def ach:=ai @w<|ai @qI<|ai @gU.eq_1<|@EP.eq_1
def J4:b6 prog 120 qQ:=b6.gO (mode:=.clean) tok Wo mixed func120 (by kernel_rfl) (fun _ _=>rfl) (fun _=>by kernel_rfl) fun⟨c,d⟩ r a=>by
 replace a:tI c d=some r:=a;apply aD rfl ntmps120 results120;simp only[gP];unfold tI at a;obtain⟨e,b,a⟩:=ae a;cases a;simp only[ach,seval,b]
def rR(l:Option (D×Row))(d:List D):=dx (eZ (bC e9) (dp (bC e9))) (fun x:aF×aF=>po x.1 x.2) (fun r:Int =>.clean (.int .i64 r)) l d
def wA:Env:=(Am.ext (Am.ext (Am.ext bd 103 false ca) 110 false eD) 111 false gw)
def I3:bN prog wA:=(((bN.none.add iX false).add qp false).add uZ false)
def il:=ai @w<|ai @y3<|ai @ca.eq_1<|ai @K6<|ai @eD.eq_1<|ai @GL<|ai @gw.eq_1<|@wA.eq_1
def JT:b6 prog 59 rR:=b6.gO (mode:=.clean) tok I3 mixed func59 (by kernel_rfl) (fun _ _=>rfl) (fun _=>by kernel_rfl) fun⟨g,h⟩ r a=>by
 replace a:po g h=some r:=a;apply aD rfl ntmps59 results59;simp only[gP];unfold po at a;obtain⟨o,i,a⟩:=ae a;simp only[il,seval,i];obtain⟨n,j,a⟩:=ae a;refine bX 0 (fun s t H e=>match s with|b=>∃c:Nat,∃d:Nat,t 2=.ptr 2 c 0∧t 3=.ptr 3 d 0∧t 12=.bool b∧H 2=rV c 39 [sN g.al,sI g.aa]∧H 3=rV d 39 [sN h.al,sI h.aa]) (fun s=>s=n) ?_ ?_
 ·rintro b t H e ⟨c,d,f⟩ rfl;try dsimp only at a
  simp only[il,seval,f];apply sp av a<;>intro _ a
  ·cases a;simp only[il,seval]
  ·simp only[il,seval,f];apply sp av a<;>intro _ a
   ·obtain⟨p,k,a⟩:=ae a;cases a;simp only[il,seval,f,k]
   ·obtain⟨q,l,a⟩:=ae a;simp only[il,seval,f,l];refine bA (by kernel_rfl) ?_;cases a;simp only[seval]
 ·clear a;have a:=j;simp only[il,seval];apply sp aZ a<;>intro _ a
  ·cases a;simp only[il,seval];rw[ay];refine⟨_,rfl,?_⟩;refine⟨0,0,?_,?_,?_,?_,?_⟩;all_goals (rfl)
  ·obtain⟨u,m,a⟩:=ae a;cases a;simp only[il,seval,m];rw[ay];refine⟨_,rfl,?_⟩;refine⟨0,0,?_,?_,?_,?_,?_⟩;all_goals (rfl)
def js(l:Option (D×Row))(d:List D):=dx (eZ (bC ah) (dp (bC ah))) (fun x:an×an=>j9 x.1 x.2) (fun r:Int =>.clean (.int .i64 r)) l d
def uN:Env:=(Am.ext (Am.ext (Am.ext bd 54 false bn) 59 false rR) 60 false fc)
def G7:bN prog uN:=(((bN.none.add fJ false).add JT false).add sh false)
def jH:=ai @w<|ai @kC<|ai @bn.eq_1<|ai @B4<|ai @rR.eq_1<|ai @fc.eq_1<|@uN.eq_1
def yV:b6 prog 20 js:=b6.gO (mode:=.clean) tok G7 mixed func20 (by kernel_rfl) (fun _ _=>rfl) (fun _=>by kernel_rfl) fun⟨f,g⟩ r a=>by
 replace a:j9 f g=some r:=a;apply aD rfl ntmps20 results20;simp only[gP];unfold j9 at a;obtain⟨p,i,a⟩:=ae a;simp only[jH,seval,i];obtain⟨o,j,a⟩:=ae a;refine bX 0 (fun s t H e=>match s with|b=>∃c:Nat,∃d:Nat,t 2=.ptr 2 c 0∧t 3=.ptr 3 d 0∧t 12=.bool b∧H 2=rV c 41 [sN f.bF.al,sI f.bF.aa,sN f.bJ.al,sI f.bJ.aa]∧H 3=rV d 41 [sN g.bF.al,sI g.bF.aa,sN g.bJ.al,sI g.bJ.aa]) (fun s=>s=o) ?_ ?_
 ·rintro b t H e ⟨c,d,h⟩ rfl;try dsimp only at a
  simp only[jH,seval,h];apply sp av a<;>intro _ a
  ·cases a;simp only[jH,seval]
  ·obtain⟨q,k,a⟩:=ae a;obtain⟨u,l,a⟩:=ae a;obtain⟨v,m,a⟩:=ae a;simp only[jH,seval,h,k,l,m];refine bA (by kernel_rfl) ?_;cases a;simp only[seval]
 ·clear a;have a:=j;simp only[jH,seval];apply sp aZ a<;>intro _ a
  ·cases a;simp only[jH,seval];rw[ay];refine⟨_,rfl,?_⟩;refine⟨0,0,?_,?_,?_,?_,?_⟩;all_goals (rfl)
  ·obtain⟨w,n,a⟩:=ae a;cases a;simp only[jH,seval,n];rw[ay];refine⟨_,rfl,?_⟩;refine⟨0,0,?_,?_,?_,?_,?_⟩;all_goals (rfl)
def vA(l:Option (D×Row))(d:List D):=dx (dp (iQ ah)) (fun x:(List an)=>tX x) (fun r:Bool =>.clean (.bool r)) l d
def akU{β:Type}{F:(List an)->Option β}{R:β->RK}(a:(List an)):dx (dp (iQ ah)) F R none [.sl false false a.length (aq ah a)]=(F (a)).map fun r=>(R r,none):=cF _ _ _ (a)
def z6:Env:=(Am.ext (Am.ext (Am.ext (Am.ext (Am.ext bd 20 false js) 21 false dr) 24 false cR) 54 false bn) 120 false qQ)
def PA:bN prog z6:=(((((bN.none.add yV false).add mH false).add lx false).add fJ false).add J4 false)
def fZ:=ai @w<|ai @qI<|ai @js.eq_1<|ai @GK<|ai @dr.eq_1<|ai @kC<|ai @cR.eq_1<|ai @bn.eq_1<|ai @qQ.eq_1<|@z6.eq_1
def P4:b6 prog 172 vA:=b6.gO (mode:=.clean) tok PA mixed func172 (by kernel_rfl) (fun _ _=>rfl) (fun _=>by kernel_rfl) fun C r a=>by
 replace a:tX C=some r:=a;apply aD rfl ntmps172 results172;simp only[gP];unfold tX at a;obtain⟨P,D,a⟩:=ae a;simp only[fZ,seval,D];obtain⟨G,E,a⟩:=ae a;refine az (fun s t H e=>match s with|(p,h,i,j,k)=>∃l:Nat,t 3=.ptr 3 l 0∧t 7=sF ah C∧t 8=sN (C.length:Int)∧t 9=sN p∧H 3=rV l 41 [sN h,sI i,sN j,sI k]) (fun o x t H e=>match o with|(.inl (b,d,f,g))=>x=.exit 0∧∃m:Nat,t 3=.ptr 3 m 0∧H 3=rV m 41 [sN b,sI d,sN f,sI g]|(.inr r)=>x=.ret∧gF .clean tab none [.tmp 2] ⟨t,EH H,e⟩=some (.clean (.bool r),none)) E ?_ ?_ ?_
 ·refine⟨1,?_,?_,?_,?_,?_⟩;all_goals (rfl)
 ·rintro⟨p,h,i,j,k⟩ t H e ⟨l,q⟩ c a;simp only[tJ]at a;simp only[fZ,seval,q];apply sp av a<;>intro _ a
  ·obtain⟨I,u,a⟩:=ae a;have n:=bh ah u;simp only[bK]at n;obtain⟨J,v,a⟩:=ae a;simp only[fZ,seval,q,n,v];apply sp aZ a<;>intro _ a
   ·cases a;simp only[fZ,seval];refine tf ⟨rfl,?_⟩;simp only[fZ,seval]
   ·obtain⟨K,w,a⟩:=ae a;simp only[fZ,seval,w];apply sp av a<;>intro _ a
    ·cases a;simp only[fZ,seval];refine tf ⟨rfl,?_⟩;simp only[fZ,seval]
    ·obtain⟨L,y,a⟩:=ae a;cases a;simp only[fZ,seval,q,y];apply gS;refine⟨l,?_⟩;and_intros<;>first|rfl|(simp only[fZ,seval,q]<;>rfl)
  ·cases a;simp only[fZ,seval];apply jf;refine⟨rfl,⟨l,?_,?_⟩⟩;all_goals ((simp only[fZ,seval,q]<;>rfl))
 ·rintro x t H e B;rcases G with⟨b,d,f,g⟩|Q
  ·dsimp only at B a;obtain⟨rfl,⟨m,F⟩⟩:=B;obtain⟨M,z,a⟩:=ae a;obtain⟨N,A,a⟩:=ae a;simp only[fZ,seval,F,z,A];refine bA (by kernel_rfl) ?_;cases a;simp only[seval]
  ·dsimp only at B a;obtain⟨rfl,O⟩:=B;cases a;simp only[aV,bc,cw,cL];exact O
def oG(l:Option (D×Row))(d:List D):=dx (dp (bC wx)) (fun x:eL=>lW x) (fun r:Bool =>.clean (.bool r)) l d
def ahb{β:Type}{F:eL->Option β}{R:β->RK}(a:(List ie))(b:(List um))(c:(List (List an))):dx (dp (bC wx)) F R none [.agg [.sl false false a.length (aq bo a),.sl false false b.length (aq ep b),.sl false false c.length (aq (fj ah) c)]]=(F ((eL.mk a b c))).map fun r=>(R r,none):=cF _ _ _ ((eL.mk a b c))
def sZ:Env:=(Am.ext (Am.ext bd 81 false dH) 172 false vA)
def E7:bN prog sZ:=((bN.none.add ov false).add P4 false)
def aH:=ai @w<|ai @LN<|ai @dH.eq_1<|ai @akU<|ai @vA.eq_1<|@sZ.eq_1
def Fp:b6 prog 130 oG:=b6.gO (mode:=.clean) tok E7 mixed func130 (by kernel_rfl) (fun _ _=>rfl) (fun _=>by kernel_rfl) fun b r a=>by
 replace a:lW b=some r:=a;apply aD rfl ntmps130 results130;simp only[gP];unfold lW at a;simp only[aH,seval];obtain⟨o1,ao,a⟩:=ae a;refine bX 0 (fun s t H e=>match s with|l=>∃g:Nat,t 1=.ptr 1 g 0∧t 27=.bool l∧H 1=rV g 54 [sF bo b.aw,sF ep b.aN,sF (fj ah) b.aM]) (fun s=>s=o1) ?_ ?_
 ·rintro l t H e ⟨g,N⟩ rfl;try dsimp only at a
  simp only[aH,seval,N];apply sp av a<;>intro _ a
  ·cases a;simp only[aH,seval]
  ·simp only[aH,seval,N];obtain⟨ar,Q,a⟩:=ae a;refine az (fun s t H e=>match s with|D=>∃m:Nat,t 1=.ptr 1 m 0∧t 29=sF ep b.aN∧t 30=sN (b.aN.length:Int)∧t 31=sN D∧H 1=rV m 54 [sF bo b.aw,sF ep b.aN,sF (fj ah) b.aM]) (fun o x t H e=>match o with|(.inl _)=>x=.exit 0∧∃h:Nat,t 1=.ptr 1 h 0∧H 1=rV h 54 [sF bo b.aw,sF ep b.aN,sF (fj ah) b.aM]|(.inr r)=>x=.ret∧gF .clean tab none [.tmp 2] ⟨t,EH H,e⟩=some (.clean (.bool r),none)) Q ?_ ?_ ?_
   ·refine⟨g,?_⟩;and_intros<;>first|rfl|(simp only[aH,seval,N]<;>rfl)
   ·rintro D t H e ⟨m,P⟩ c a;simp only[nC]at a;simp only[aH,seval,P];apply sp av a<;>intro _ a
    ·obtain⟨ax,R,a⟩:=ae a;have n:=bh ep R;simp only[bK]at n;obtain⟨aA,S,a⟩:=ae a;simp only[aH,seval,P,n,S];apply sp KR a<;>intro _ a
     ·simp only[aH,seval];refine bA (by kernel_rfl) ?_;cases a;refine tf ⟨rfl,?_⟩;simp only[aH,seval]
     ·simp only[aH,seval];apply sp KR a<;>intro _ a
      ·simp only[aH,seval];refine bA (by kernel_rfl) ?_;cases a;refine tf ⟨rfl,?_⟩;simp only[aH,seval]
      ·obtain⟨aB,T,a⟩:=ae a;have E:=bh (fj ah) T;simp only[bK]at E;simp only[aH,seval,P,n,E];refine bA (by kernel_rfl) ?_;apply sp av a<;>intro _ a
       ·cases a;simp only[aH,seval];refine tf ⟨rfl,?_⟩;simp only[aH,seval]
       ·cases a;simp only[aH,seval,P];apply gS;refine⟨m,?_⟩;and_intros<;>first|rfl|(simp only[aH,seval,P]<;>rfl)
    ·cases a;simp only[aH,seval];apply jf;refine⟨rfl,⟨m,?_,?_⟩⟩;all_goals ((simp only[aH,seval,P]<;>rfl))
   ·rintro x t H e k;rcases ar with _|rb
    ·dsimp only at k a;obtain⟨rfl,⟨h,U⟩⟩:=k;simp only[aH,seval,U];obtain⟨au,V,a⟩:=ae a;refine az (fun s t H e=>match s with|d=>∃C:Nat,t 1=.ptr 1 C 0∧t 59=sF bo b.aw∧t 60=sN (b.aw.length:Int)∧t 61=sN d∧H 1=rV C 54 [sF bo b.aw,sF ep b.aN,sF (fj ah) b.aM]) (fun o x t H e=>match o with|(.inl _)=>x=.exit 2|(.inr r)=>x=.ret∧gF .clean tab none [.tmp 2] ⟨t,EH H,e⟩=some (.clean (.bool r),none)) V ?_ ?_ ?_
     ·refine⟨h,?_⟩;and_intros<;>first|rfl|(simp only[aH,seval,U]<;>rfl)
     ·rintro d t H e ⟨C,Zc⟩ c a;simp only[nD]at a;simp only[aH,seval,Zc];apply sp av a<;>intro _ a
      ·obtain⟨j,W,a⟩:=ae a;have p:=bh bo W;simp only[bK]at p;obtain⟨aC,X,a⟩:=ae a;obtain⟨Y,Z,aa,F,ab⟩:=mk_one ah X;simp only[bK]at F;simp only[aH,seval,Zc,p,Y,Z,aa,F,ab];obtain⟨aw,ad,a⟩:=ae a;refine az (fun s t H e=>match s with|(G,O)=>∃q:Nat,∃u:Nat,∃v:Nat,t 1=.ptr 1 q 0∧t 5=sN d∧t 6=.ptr 6 u 0∧t 7=.buf 7 v 4 0 (O).length∧t 59=sF bo b.aw∧t 60=sN (b.aw.length:Int)∧t 61=sN d∧t 72=sN (b.aN.length:Int)∧t 73=sN G∧H 1=rV q 54 [sF bo b.aw,sF ep b.aN,sF (fj ah) b.aM]∧H 6=rV u 83 [sN j.bj,sN j.aY,sN j.aR]∧H 7=rW v 41 (aq ah O)) (fun o x t H e=>match o with|w=>x=.exit 4∧∃i:Nat,∃y:Nat,∃A:Nat,t 1=.ptr 1 i 0∧t 6=.ptr 6 y 0∧t 7=.buf 7 A 4 0 (w).length∧t 59=sF bo b.aw∧t 60=sN (b.aw.length:Int)∧t 61=sN d∧H 1=rV i 54 [sF bo b.aw,sF ep b.aN,sF (fj ah) b.aM]∧H 6=rV y 83 [sN j.bj,sN j.aY,sN j.aR]∧H 7=rW A 41 (aq ah w)) ad ?_ ?_ ?_
       ·refine⟨C,e+1,e+1+1,?_⟩;and_intros<;>first|rfl|(simp only[aH,seval,Zc]<;>rfl)
       ·rintro⟨G,O⟩ t H e ⟨q,u,v,Ze⟩ c a;simp only[jm]at a;simp only[aH,seval,Ze];apply sp av a<;>intro _ a
        ·obtain⟨aE,ag,a⟩:=ae a;have I:=bh (fj ah) ag;simp only[bK]at I;obtain⟨f,ai,a⟩:=ae a;have J:=bh ah ai;simp only[bK]at J;obtain⟨aF,K,a⟩:=ae a;have L:=bh ah K;simp only[bK]at L;have aj:=eN ah (x':=f) (fo:=0) (cs:=[.int .i64 f.bF.al,.sl false false f.bF.aa.length (aq (eI .i64) f.bF.aa),.int .i64 f.bJ.al,.sl false false f.bJ.aa.length (aq (eI .i64) f.bJ.aa)]) K rfl (aov rfl);simp only[bK,Nat.add_zero]at aj;have M:=aj;simp only[putCells,List.length_cons,List.length_nil,an5,Nat.reduceAdd]at M;cases a;simp only[aH,seval,p,Ze,I,J,L,M];apply gS;refine⟨q,u,v,?_⟩;and_intros<;>first|rfl|(simp only[aH,seval,Ze]<;>rfl)
        ·cases a;simp only[aH,seval];apply jf;refine⟨rfl,⟨q,u,v,?_,?_,?_,?_,?_,?_,?_,?_,?_⟩⟩;all_goals ((simp only[aH,seval,Ze]<;>rfl))
       ·rintro x t H e k;obtain⟨w,rfl⟩:∃z,z=aw:=⟨_,rfl⟩;dsimp only at k a;obtain⟨rfl,⟨i,y,A,B⟩⟩:=k;obtain⟨aG,ak,a⟩:=ae a;simp only[aH,seval,B,ak];apply sp aZ a<;>intro _ a
        ·cases a;simp only[aH,seval];refine tf ⟨rfl,?_⟩;simp only[aH,seval]
        ·simp only[aH,seval,B];apply sp aZ a<;>intro _ a
         ·cases a;simp only[aH,seval];refine tf ⟨rfl,?_⟩;simp only[aH,seval]
         ·obtain⟨aI,al,a⟩:=ae a;simp only[aH,seval,B,al];apply sp av a<;>intro _ a
          ·cases a;simp only[aH,seval];refine tf ⟨rfl,?_⟩;simp only[aH,seval]
          ·cases a;simp only[aH,seval,B];apply gS;refine⟨i,?_⟩;and_intros<;>first|rfl|(simp only[aH,seval,B]<;>rfl)
      ·cases a;simp only[aH,seval];apply jf;exact rfl
     ·rintro x t H e k;rcases au with _|rc
      ·dsimp only at k a;subst k;cases a;simp only[aH,seval]
      ·dsimp only at k a;obtain⟨rfl,hE⟩:=k;cases a;simp only[aV,bc,cw,cL];exact hE
    ·dsimp only at k a;obtain⟨rfl,hE⟩:=k;cases a;simp only[aV,bc,cw,cL];exact hE
 ·clear a;have a:=ao;simp only[aH,seval];apply sp aZ a<;>intro _ a
  ·cases a;simp only[aH,seval];rw[ay];refine⟨_,rfl,?_⟩;refine⟨0,?_,?_,?_⟩;all_goals (rfl)
  ·simp only[aH,seval];apply sp aZ a<;>intro _ a
   ·cases a;simp only[aH,seval];rw[ay];refine⟨_,rfl,?_⟩;refine⟨0,?_,?_,?_⟩;all_goals (rfl)
   ·cases a;simp only[aH,seval];rw[ay];refine⟨_,rfl,?_⟩;refine⟨0,?_,?_,?_⟩;all_goals (rfl)
def tn(l:Option (D×Row))(d:List D):=dx (eZ (bC fu) (dp (aIp (eI .i64)))) (fun x:fE×Int=>rE x.1 x.2) (fun r:Bool =>.clean (.bool r)) l d
def akV{β:Type}{F:fE×Int->Option β}{R:β->RK}(a:Int)(b:Int)(c:Int):dx (eZ (bC fu) (dp (aIp (eI .i64)))) F R none [.agg [.int .i64 a,.int .i64 b],.ip [.int .i64 c]]=(F ((fE.mk a b),c)).map fun r=>(R r,none):=cF _ _ _ ((fE.mk a b),c)
def yc:Env:=(Am.ext bd 81 false dH)
def Lt:bN prog yc:=(bN.none.add ov false)
def yL:=ai @w<|ai @LN<|ai @dH.eq_1<|@yc.eq_1
def LD:b6 prog 131 tn:=b6.gO (mode:=.clean) tok Lt mixed func131 (by kernel_rfl) (fun _ _=>rfl) (fun _=>by kernel_rfl) fun⟨d,e⟩ r a=>by
 replace a:rE d e=some r:=a;apply aD rfl ntmps131 results131;simp only[gP];unfold rE at a;obtain⟨f,b,a⟩:=ae a;simp only[yL,seval,b];apply sp aZ a<;>intro _ a
 ·cases a;simp only[yL,seval]
 ·obtain⟨g,c,a⟩:=ae a;cases a;simp only[yL,seval,c]
def tp(l:Option (D×Row))(d:List D):=dx (eZ (aI .i64) (dp (aIp (eI .i64)))) (fun x:Int×Int=>rF x.1 x.2) (fun r:Bool =>.clean (.bool r)) l d
def akW{β:Type}{F:Int×Int->Option β}{R:β->RK}(a:Int)(b:Int):dx (eZ (aI .i64) (dp (aIp (eI .i64)))) F R none [.int .i64 a,.ip [.int .i64 b]]=(F (a,b)).map fun r=>(R r,none):=cF _ _ _ (a,b)
def yd:Env:=(Am.ext bd 81 false dH)
def Lu:bN prog yd:=(bN.none.add ov false)
def QR:=ai @w<|ai @LN<|ai @dH.eq_1<|@yd.eq_1
def LG:b6 prog 132 tp:=b6.gO (mode:=.clean) tok Lu mixed func132 (by kernel_rfl) (fun _ _=>rfl) (fun _=>by kernel_rfl) fun⟨c,d⟩ r a=>by
 replace a:rF c d=some r:=a;apply aD rfl ntmps132 results132;simp only[gP];unfold rF at a;obtain⟨e,b,a⟩:=ae a;cases a;simp only[QR,seval,b]
def sV:=dx (dp (iQ (eI .i64))) (fun x:(List Int)=>sk x) (fun r:(List Int) =>.clean (.clo 195 0 [.ip [.sl false false r.length (aq (eI .i64) r)]]))
def yW(a:(List Int)):sV none [.sl false false a.length (aq (eI .i64) a)]=(sk a).map fun r:(List Int)=>(.clean (.clo 195 0 [.ip [.sl false false r.length (aq (eI .i64) r)]]),none):=cF _ _ _ a
def Fq:b6 prog 174 sV:=aca
def eO:=dx (dp (OY 195 0 (dp (aIp (fj (eI .i64)))))) (fun x:(List Int)=>dD x) (fun r:(List Int) =>.fresh 3 1 r.length (aq (eI .i64) r))
def ic(a:(List Int)):eO none [.clo 195 0 [.ip [.sl false false a.length (aq (eI .i64) a)]]]=(dD a).map fun r:(List Int)=>(.fresh 3 1 r.length (aq (eI .i64) r),none):=cF _ _ _ a
def mg:b6 prog 173 eO:=abR
def rY(l:Option (D×Row))(d:List D):=dx (eZ (iQ (eI .i64)) (dp (aI .i64))) (fun x:(List Int)×Int=>mG x.1 x.2) (fun r:Bool =>.clean (.bool r)) l d
def wJ:Env:=(Am.ext (Am.ext bd 173 false eO) 174 false sV)
def Jc:bN prog wJ:=((bN.none.add mg false).add Fq false)
def gz:=ai @w<|ai @ic<|ai @yW<|@wJ.eq_1
def J5:b6 prog 133 rY:=b6.gO (mode:=.clean) tok Jc mixed func133 (by kernel_rfl) (fun _ _=>rfl) (fun _=>by kernel_rfl) fun⟨u,k⟩ r a=>by
 replace a:mG u k=some r:=a;apply aD rfl ntmps133 results133;simp only[gP];unfold mG at a;obtain⟨y,l,a⟩:=ae a;obtain⟨g,m,a⟩:=ae a;simp only[gz,seval,l,m];obtain⟨v,n,a⟩:=ae a;refine az (fun s t H e=>match s with|f=>∃b:Nat,t 1=sN k∧t 5=.buf 5 b 1 0 (g).length∧t 11=.buf 5 b 1 0 (g).length∧t 12=sN ((g).length:Int)∧t 13=sN f∧H 5=rW b 3 (aq (eI .i64) g)) (fun o x t H e=>match o with|(.inl _)=>x=.exit 0∧∃d:Nat,t 1=sN k∧t 5=.buf 5 d 1 0 (g).length∧H 5=rW d 3 (aq (eI .i64) g)|(.inr r)=>x=.ret∧gF .clean tab none [.tmp 4] ⟨t,EH H,e⟩=some (.clean (.bool r),none)) n ?_ ?_ ?_
 ·refine⟨1,?_,?_,?_,?_,?_,?_⟩;all_goals (rfl)
 ·rintro f t H e ⟨b,h⟩ c a;simp only[ql]at a;simp only[gz,seval,h];apply sp av a<;>intro _ a
  ·obtain⟨z,p,a⟩:=ae a;have i:=bh (eI .i64) p;simp only[bK]at i;simp only[gz,seval,h,i];apply sp av a<;>intro _ a
   ·cases a;simp only[gz,seval];refine tf ⟨rfl,?_⟩;simp only[gz,seval]
   ·cases a;simp only[gz,seval,h];apply gS;refine⟨b,?_⟩;and_intros<;>first|rfl|(simp only[gz,seval,h]<;>rfl)
  ·cases a;simp only[gz,seval];apply jf;refine⟨rfl,⟨b,?_,?_,?_⟩⟩;all_goals ((simp only[gz,seval,h]<;>rfl))
 ·rintro x t H e j;rcases v with _|A
  ·dsimp only at j a;obtain⟨rfl,⟨d,q⟩⟩:=j;cases a;simp only[gz,seval,q]
  ·dsimp only at j a;obtain⟨rfl,w⟩:=j;cases a;simp only[aV,bc,cw,cL];exact w
def ez(l:Option (D×Row))(d:List D):=dx (eZ (iQ fu) (dp (OY 131 0 (dp (aIp (eI .i64)))))) (fun x:(List fE)×(Int)=>dE x.1 x.2) (fun r:Int =>.clean (.int .i64 r)) l d
def ahc{β:Type}{F:(List fE)×(Int)->Option β}{R:β->RK}(b:(List fE))(a:Int):dx (eZ (iQ fu) (dp (OY 131 0 (dp (aIp (eI .i64)))))) F R none [.sl false false b.length (aq fu b),.clo 131 0 [.ip [.int .i64 a]]]=(F (b,(a))).map fun r=>(R r,none):=cF _ _ _ (b,(a))
def gn:Env:=(Am.ext bd 131 false tn)
def oW:bN prog gn:=(bN.none.add LD false)
def bL:=ai @w<|ai @akV<|ai @tn.eq_1<|@gn.eq_1
def o0:b6 prog 175 ez:=b6.gO (mode:=.clean) tok oW mixed func175 (by kernel_rfl) (fun _ _=>rfl) (fun _=>by kernel_rfl) fun⟨i,b⟩ r a=>by
 replace a:dE i b=some r:=a;apply aD rfl ntmps175 results175;simp only[gP];unfold dE at a;simp only[bL,seval];obtain⟨m,j,a⟩:=ae a;refine az (fun s t H e=>match s with|d=>t 0=sF fu i∧t 1=.clo 131 0 [.ip [sN b]]∧t 7=sN (i.length:Int)∧t 8=sN d) (fun o x t H e=>match o with|(.inl _)=>x=.exit 0|(.inr r)=>x=.ret∧gF .clean tab none [.tmp 4] ⟨t,EH H,e⟩=some (.clean (.int .i64 r),none)) j ?_ ?_ ?_
 ·refine⟨?_,?_,?_,?_⟩;all_goals (rfl)
 ·rintro d t H e g c a;simp only[eh]at a;simp only[bL,seval,g];apply sp av a<;>intro _ a
  ·obtain⟨p,k,a⟩:=ae a;have f:=bh fu k;simp only[bK]at f;obtain⟨q,l,a⟩:=ae a;simp only[bL,seval,g,f,l];apply sp av a<;>intro _ a
   ·cases a;simp only[bL,seval];refine tf ⟨rfl,?_⟩;simp only[bL,seval]
   ·cases a;simp only[bL,seval,g];apply gS;and_intros<;>first|rfl|(simp only[bL,seval,g]<;>rfl)
  ·cases a;simp only[bL,seval];apply jf;exact rfl
 ·rintro x t H e h;rcases m with _|u
  ·dsimp only at h a;subst h;cases a;simp only[bL,seval]
  ·dsimp only at h a;obtain⟨rfl,n⟩:=h;cases a;simp only[aV,bc,cw,cL];exact n
def dI(l:Option (D×Row))(d:List D):=dx (eZ (iQ fu) (dp (OY 131 0 (dp (aIp (eI .i64)))))) (fun x:(List fE)×(Int)=>cG x.1 x.2) (fun r:Bool =>.clean (.bool r)) l d
def fk:Env:=(Am.ext bd 175 false ez)
def nf:bN prog fk:=(bN.none.add o0 false)
def nY:=ai @w<|ai @ahc<|ai @ez.eq_1<|@fk.eq_1
def nE:b6 prog 134 dI:=b6.gO (mode:=.clean) tok nf mixed func134 (by kernel_rfl) (fun _ _=>rfl) (fun _=>by kernel_rfl) fun⟨d,b⟩ r a=>by
 replace a:cG d b=some r:=a;apply aD rfl ntmps134 results134;simp only[gP];unfold cG at a;obtain⟨e,c,a⟩:=ae a;cases a;simp only[nY,seval,c]
def eA(l:Option (D×Row))(d:List D):=dx (eZ (iQ (eI .i64)) (dp (OY 132 0 (dp (aIp (eI .i64)))))) (fun x:(List Int)×(Int)=>dF x.1 x.2) (fun r:Int =>.clean (.int .i64 r)) l d
def ahd{β:Type}{F:(List Int)×(Int)->Option β}{R:β->RK}(b:(List Int))(a:Int):dx (eZ (iQ (eI .i64)) (dp (OY 132 0 (dp (aIp (eI .i64)))))) F R none [.sl false false b.length (aq (eI .i64) b),.clo 132 0 [.ip [.int .i64 a]]]=(F (b,(a))).map fun r=>(R r,none):=cF _ _ _ (b,(a))
def gp:Env:=(Am.ext bd 132 false tp)
def oX:bN prog gp:=(bN.none.add LG false)
def bM:=ai @w<|ai @akW<|ai @tp.eq_1<|@gp.eq_1
def pb:b6 prog 176 eA:=b6.gO (mode:=.clean) tok oX mixed func176 (by kernel_rfl) (fun _ _=>rfl) (fun _=>by kernel_rfl) fun⟨i,b⟩ r a=>by
 replace a:dF i b=some r:=a;apply aD rfl ntmps176 results176;simp only[gP];unfold dF at a;simp only[bM,seval];obtain⟨m,j,a⟩:=ae a;refine az (fun s t H e=>match s with|d=>t 0=sI i∧t 1=.clo 132 0 [.ip [sN b]]∧t 7=sN (i.length:Int)∧t 8=sN d) (fun o x t H e=>match o with|(.inl _)=>x=.exit 0|(.inr r)=>x=.ret∧gF .clean tab none [.tmp 4] ⟨t,EH H,e⟩=some (.clean (.int .i64 r),none)) j ?_ ?_ ?_
 ·refine⟨?_,?_,?_,?_⟩;all_goals (rfl)
 ·rintro d t H e g c a;simp only[ej]at a;simp only[bM,seval,g];apply sp av a<;>intro _ a
  ·obtain⟨p,k,a⟩:=ae a;have f:=bh (eI .i64) k;simp only[bK]at f;obtain⟨q,l,a⟩:=ae a;simp only[bM,seval,g,f,l];apply sp av a<;>intro _ a
   ·cases a;simp only[bM,seval];refine tf ⟨rfl,?_⟩;simp only[bM,seval]
   ·cases a;simp only[bM,seval,g];apply gS;and_intros<;>first|rfl|(simp only[bM,seval,g]<;>rfl)
  ·cases a;simp only[bM,seval];apply jf;exact rfl
 ·rintro x t H e h;rcases m with _|u
  ·dsimp only at h a;subst h;cases a;simp only[bM,seval]
  ·dsimp only at h a;obtain⟨rfl,n⟩:=h;cases a;simp only[aV,bc,cw,cL];exact n
def dJ(l:Option (D×Row))(d:List D):=dx (eZ (iQ (eI .i64)) (dp (OY 132 0 (dp (aIp (eI .i64)))))) (fun x:(List Int)×(Int)=>cH x.1 x.2) (fun r:Bool =>.clean (.bool r)) l d
def fl:Env:=(Am.ext bd 176 false eA)
def ng:bN prog fl:=(bN.none.add pb false)
def nZ:=ai @w<|ai @ahd<|ai @eA.eq_1<|@fl.eq_1
def nF:b6 prog 135 dJ:=b6.gO (mode:=.clean) tok ng mixed func135 (by kernel_rfl) (fun _ _=>rfl) (fun _=>by kernel_rfl) fun⟨d,b⟩ r a=>by
 replace a:cH d b=some r:=a;apply aD rfl ntmps135 results135;simp only[gP];unfold cH at a;obtain⟨e,c,a⟩:=ae a;cases a;simp only[nZ,seval,c]
def xA(l:Option (D×Row))(d:List D):=dx (eZ (bC bD) (dp (aI .i64))) (fun x:bl×Int=>xg x.1 x.2) (fun r:Bool =>.clean (.bool r)) l d
def akX{β:Type}{F:bl×Int->Option β}{R:β->RK}(a:(List ie))(b:(List um))(c:(List (List an)))(d:(List fE))(e:(List Int))(f:Int):dx (eZ (bC bD) (dp (aI .i64))) F R none [.agg [.sl false false a.length (aq bo a),.sl false false b.length (aq ep b),.sl false false c.length (aq (fj ah) c),.sl false false d.length (aq fu d),.sl false false e.length (aq (eI .i64) e)],.int .i64 f]=(F ((bl.mk (eL.mk a b c) d e),f)).map fun r=>(R r,none):=cF _ _ _ ((bl.mk (eL.mk a b c) d e),f)
def Cw:Env:=(Am.ext (Am.ext (Am.ext (Am.ext bd 130 false oG) 133 false rY) 134 false dI) 135 false dJ)
def SQ:bN prog Cw:=((((bN.none.add Fp false).add J5 false).add nE false).add nF false)
def cz:=ai @w<|ai @ahb<|ai @oG.eq_1<|ai @sh7<|ai @rY.eq_1<|ai @ahc<|ai @dI.eq_1<|ai @ahd<|ai @dJ.eq_1<|@Cw.eq_1
def Ud:b6 prog 82 xA:=b6.gO (mode:=.clean) tok SQ mixed func82 (by kernel_rfl) (fun _ _=>rfl) (fun _=>by kernel_rfl) fun⟨b,O⟩ r a=>by
 replace a:xg b O=some r:=a;apply aD rfl ntmps82 results82;simp only[gP];unfold xg at a;obtain⟨r1,ak,a⟩:=ae a;simp only[cz,seval,ak];apply sp av a<;>intro _ a
 ·cases a;simp only[cz,seval]
 ·simp only[cz,seval];obtain⟨o8,al,a⟩:=ae a;refine az (fun s t H e=>match s with|(D,K)=>∃j:Nat,∃k:Nat,∃q:Nat,∃l:Nat,t 2=.ptr 2 j 0∧t 3=.ptr 3 k 0∧t 5=.buf 5 q 1 0 (K).length∧t 6=.buf 6 l 1 0 0∧t 19=sF bo b.ax.aw∧t 20=sN (b.ax.aw.length:Int)∧t 21=sN D∧H 2=rV j 57 [sF bo b.ax.aw,sF ep b.ax.aN,sF (fj ah) b.ax.aM,sF fu b.aX,sI b.aC]∧H 3=rV k 3 [sN O]∧H 5=rW q 3 (aq (eI .i64) K)∧H 6=rW l 3 []) (fun o x t H e=>match o with|d=>x=.exit 0∧∃f:Nat,∃g:Nat,∃h:Nat,∃i:Nat,t 2=.ptr 2 f 0∧t 3=.ptr 3 g 0∧t 5=.buf 5 h 1 0 (d).length∧t 6=.buf 6 i 1 0 0∧H 2=rV f 57 [sF bo b.ax.aw,sF ep b.ax.aN,sF (fj ah) b.ax.aM,sF fu b.aX,sI b.aC]∧H 3=rV g 3 [sN O]∧H 5=rW h 3 (aq (eI .i64) d)∧H 6=rW i 3 []) al ?_ ?_ ?_
  ·refine⟨0,0,2,2,?_,?_,?_,?_,?_,?_,?_,?_,?_,?_,?_⟩;all_goals (rfl)
  ·rintro⟨D,K⟩ t H e ⟨j,k,q,l,L⟩ c a;simp only[pB]at a;simp only[cz,seval,L];apply sp av a<;>intro _ a
   ·obtain⟨ar,P,a⟩:=ae a;have E:=bh bo P;simp only[bK]at E;simp only[cz,seval,L,E];apply sp av a<;>intro _ a
    ·obtain⟨au,Q,a⟩:=ae a;obtain⟨R,F,S,T⟩:=iR (eI .i64) Q;simp only[bK]at F;cases a;simp only[cz,seval,L,R,F,S,T];apply gS;refine⟨j,k,e+1+1+1,l,?_⟩;and_intros<;>first|rfl|(simp only[cz,seval,L]<;>rfl)
    ·cases a;simp only[cz,seval,L];apply gS;refine⟨j,k,q,l,?_⟩;and_intros<;>first|rfl|(simp only[cz,seval,L]<;>rfl)
   ·cases a;simp only[cz,seval];apply jf;refine⟨rfl,⟨j,k,q,l,?_,?_,?_,?_,?_,?_,?_,?_⟩⟩;all_goals ((simp only[cz,seval,L]<;>rfl))
  ·rintro x t H e U;obtain⟨d,rfl⟩:∃z,z=o8:=⟨_,rfl⟩;dsimp only at U a;obtain⟨rfl,⟨f,g,h,i,V⟩⟩:=U;simp only[cz,seval,V];obtain⟨ao,W,a⟩:=ae a;refine az (fun s t H e=>match s with|(G,M)=>∃m:Nat,∃n:Nat,∃p:Nat,∃u:Nat,t 2=.ptr 2 m 0∧t 3=.ptr 3 n 0∧t 5=.buf 5 p 1 0 (d).length∧t 6=.buf 6 u 1 0 (M).length∧t 36=sF ep b.ax.aN∧t 37=sN (b.ax.aN.length:Int)∧t 38=sN G∧H 2=rV m 57 [sF bo b.ax.aw,sF ep b.ax.aN,sF (fj ah) b.ax.aM,sF fu b.aX,sI b.aC]∧H 3=rV n 3 [sN O]∧H 5=rW p 3 (aq (eI .i64) d)∧H 6=rW u 3 (aq (eI .i64) M)) (fun o x t H e=>match o with|v=>x=.exit 2∧∃w:Nat,∃y:Nat,∃A:Nat,∃B:Nat,t 2=.ptr 2 w 0∧t 3=.ptr 3 y 0∧t 5=.buf 5 A 1 0 (d).length∧t 6=.buf 6 B 1 0 (v).length∧H 2=rV w 57 [sF bo b.ax.aw,sF ep b.ax.aN,sF (fj ah) b.ax.aM,sF fu b.aX,sI b.aC]∧H 3=rV y 3 [sN O]∧H 5=rW A 3 (aq (eI .i64) d)∧H 6=rW B 3 (aq (eI .i64) v)) W ?_ ?_ ?_
   ·refine⟨f,g,h,i,?_⟩;and_intros<;>first|rfl|(simp only[cz,seval,V]<;>rfl)
   ·rintro⟨G,M⟩ t H e ⟨m,n,p,u,N⟩ c a;simp only[pC]at a;simp only[cz,seval,N];apply sp av a<;>intro _ a
    ·obtain⟨aw,X,a⟩:=ae a;have I:=bh ep X;simp only[bK]at I;simp only[cz,seval,N,I];apply sp av a<;>intro _ a
     ·obtain⟨ax,Y,a⟩:=ae a;obtain⟨Z,J,aa,ab⟩:=iR (eI .i64) Y;simp only[bK]at J;cases a;simp only[cz,seval,N,Z,J,aa,ab];apply gS;refine⟨m,n,p,e+1+1+1,?_⟩;and_intros<;>first|rfl|(simp only[cz,seval,N]<;>rfl)
     ·cases a;simp only[cz,seval,N];apply gS;refine⟨m,n,p,u,?_⟩;and_intros<;>first|rfl|(simp only[cz,seval,N]<;>rfl)
    ·cases a;simp only[cz,seval];apply jf;refine⟨rfl,⟨m,n,p,u,?_,?_,?_,?_,?_,?_,?_,?_⟩⟩;all_goals ((simp only[cz,seval,N]<;>rfl))
   ·rintro x t H e U;obtain⟨v,rfl⟩:∃z,z=ao:=⟨_,rfl⟩;dsimp only at U a;obtain⟨rfl,⟨w,y,A,B,C⟩⟩:=U;obtain⟨ay,ad,a⟩:=ae a;simp only[cz,seval,C,ad];apply sp gj a<;>intro _ a
    ·obtain⟨aA,ag,a⟩:=ae a;simp only[cz,seval,C,ag];apply sp gj a<;>intro _ a
     ·obtain⟨aB,ai,a⟩:=ae a;simp only[cz,seval,C,ai];apply sp gj a<;>intro _ a
      ·obtain⟨aC,aj,a⟩:=ae a;cases a;simp only[cz,seval,C,aj]
      ·cases a;simp only[cz,seval]
     ·cases a;simp only[cz,seval]
    ·cases a;simp only[cz,seval]
def iY(l:Option (D×Row))(d:List D):=dx (dp (bC jK)) (fun x:aT=>pz x) (fun r:Int×Int =>.clean (.tup [.int .i64 r.1,.int .i64 r.2])) l d
def US{β:Type}{F:aT->Option β}{R:β->RK}(a:(List Int))(b:(List bl)):dx (dp (bC jK)) F R none [.agg [.sl false false a.length (aq (eI .i64) a),.sl false false b.length (aq bD b)]]=(F ((aT.mk a b))).map fun r=>(R r,none):=cF _ _ _ ((aT.mk a b))
def zW:Env:=(Am.ext (Am.ext bd 81 false dH) 82 false xA)
def Pw:bN prog zW:=((bN.none.add ov false).add Ud false)
def aL:=ai @w<|ai @LN<|ai @dH.eq_1<|ai @akX<|ai @xA.eq_1<|@zW.eq_1
def yj:b6 prog 39 iY:=b6.gO (mode:=.clean) tok Pw mixed func39 (by kernel_rfl) (fun _ _=>rfl) (fun _=>by kernel_rfl) fun b r a=>by
 replace a:pz b=some r:=a;apply aD rfl ntmps39 results39;simp only[gP];unfold pz at a;simp only[aL,seval];obtain⟨o1,bs,a⟩:=ae a;refine bX 0 (fun s t H e=>match s with|G=>∃l:Nat,t 1=.ptr 1 l 0∧t 27=.bool G∧H 1=rV l 25 [sI b.ak,sF bD b.au]) (fun s=>s=o1) ?_ ?_
 ·rintro G t H e ⟨l,aH⟩ rfl;try dsimp only at a
  simp only[aL,seval,aH];apply sp av a<;>intro _ a
  ·cases a;simp only[aL,seval]
  ·simp only[aL,seval,aH];obtain⟨o7,bt,a⟩:=ae a;refine az (fun s t H e=>match s with|ak=>∃I:Nat,t 1=.ptr 1 I 0∧t 29=sI b.ak∧t 30=sN (b.ak.length:Int)∧t 31=sN ak∧H 1=rV I 25 [sI b.ak,sF bD b.au]) (fun o x t H e=>match o with|(.inl _)=>x=.exit 0∧∃m:Nat,t 1=.ptr 1 m 0∧H 1=rV m 25 [sI b.ak,sF bD b.au]|(.inr r)=>x=.ret∧gF .clean tab none [.tmp 2,.tmp 3] ⟨t,EH H,e⟩=some (.clean (.tup [.int .i64 r.1,.int .i64 r.2]),none)) bt ?_ ?_ ?_
   ·refine⟨l,?_⟩;and_intros<;>first|rfl|(simp only[aL,seval,aH]<;>rfl)
   ·rintro ak t H e ⟨I,Zb⟩ c a;simp only[nk]at a;simp only[aL,seval,Zb];apply sp av a<;>intro _ a
    ·obtain⟨x9,bu,a⟩:=ae a;have aM:=bh (eI .i64) bu;simp only[bK]at aM;obtain⟨bI,aN,a⟩:=ae a;simp only[aL,seval,Zb,aM,aN];apply sp av a<;>intro _ a
     ·cases a;simp only[aL,seval];refine tf ⟨rfl,?_⟩;simp only[aL,seval]
     ·cases a;simp only[aL,seval,Zb];apply gS;refine⟨I,?_⟩;and_intros<;>first|rfl|(simp only[aL,seval,Zb]<;>rfl)
    ·cases a;simp only[aL,seval];apply jf;refine⟨rfl,⟨I,?_,?_⟩⟩;all_goals ((simp only[aL,seval,Zb]<;>rfl))
   ·rintro x t H e g;rcases o7 with _|rb
    ·dsimp only at g a;obtain⟨rfl,⟨m,aO⟩⟩:=g;obtain⟨bJ,al,a⟩:=ae a;obtain⟨aP,aQ,aR,ao,aS⟩:=mk_one (eI .i64) al;simp only[bK]at ao;obtain⟨bE,bF,bG,aU,bH⟩:=mk_one (eI .i64) al;simp only[bK]at aU;simp only[aL,seval,aO,aP,aQ,aR,ao,aS];refine bA (by kernel_rfl) ?_;obtain⟨bw,aW,a⟩:=ae a;refine az (fun s t H e=>match s with|(i,aI,k)=>∃J:Nat,∃K:Nat,∃L:Nat,t 1=.ptr 1 J 0∧t 6=.buf 6 K 1 0 (aI).length∧t 7=.buf 7 L 1 0 (k).length∧t 50=sF bD b.au∧t 51=sN (b.au.length:Int)∧t 52=sN i∧H 1=rV J 25 [sI b.ak,sF bD b.au]∧H 6=rW K 3 (aq (eI .i64) aI)∧H 7=rW L 3 (aq (eI .i64) k)) (fun o x t H e=>match o with|(.inl (j,d))=>x=.exit 2∧∃n:Nat,∃p:Nat,∃q:Nat,t 1=.ptr 1 n 0∧t 6=.buf 6 p 1 0 (j).length∧t 7=.buf 7 q 1 0 (d).length∧H 1=rV n 25 [sI b.ak,sF bD b.au]∧H 6=rW p 3 (aq (eI .i64) j)∧H 7=rW q 3 (aq (eI .i64) d)|(.inr r)=>x=.ret∧gF .clean tab none [.tmp 2,.tmp 3] ⟨t,EH H,e⟩=some (.clean (.tup [.int .i64 r.1,.int .i64 r.2]),none)) aW ?_ ?_ ?_
     ·refine⟨m,e,e,?_⟩;and_intros<;>first|rfl|(simp only[aL,seval,aO]<;>rfl)
     ·rintro⟨i,aI,k⟩ t H e ⟨J,K,L,Zc⟩ c a;simp only[lv]at a;simp only[aL,seval,Zc];apply sp av a<;>intro _ a
      ·obtain⟨f,aX,a⟩:=ae a;have ar:=bh bD aX;simp only[bK]at ar;obtain⟨bL,aY,a⟩:=ae a;simp only[aL,seval,Zc,ar,aY];apply sp av a<;>intro _ a
       ·cases a;simp only[aL,seval];refine tf ⟨rfl,?_⟩;simp only[aL,seval]
       ·simp only[aL,seval];obtain⟨bx,a1,a⟩:=ae a;refine az (fun s t H e=>match s with|(au,aJ)=>∃M:Nat,∃N:Nat,∃O:Nat,∃P:Nat,t 1=.ptr 1 M 0∧t 6=.buf 6 N 1 0 (aJ).length∧t 7=.buf 7 O 1 0 (k).length∧t 9=.ptr 9 P 0∧t 50=sF bD b.au∧t 51=sN (b.au.length:Int)∧t 52=sN i∧t 65=sI f.aC∧t 66=sN (f.aC.length:Int)∧t 67=sN au∧H 1=rV M 25 [sI b.ak,sF bD b.au]∧H 6=rW N 3 (aq (eI .i64) aJ)∧H 7=rW O 3 (aq (eI .i64) k)∧H 9=rV P 57 [sF bo f.ax.aw,sF ep f.ax.aN,sF (fj ah) f.ax.aM,sF fu f.aX,sI f.aC]) (fun o x t H e=>match o with|h=>x=.exit 4∧∃u:Nat,∃v:Nat,∃w:Nat,∃Q:Nat,t 1=.ptr 1 u 0∧t 6=.buf 6 v 1 0 (h).length∧t 7=.buf 7 w 1 0 (k).length∧t 9=.ptr 9 Q 0∧t 50=sF bD b.au∧t 51=sN (b.au.length:Int)∧t 52=sN i∧H 1=rV u 25 [sI b.ak,sF bD b.au]∧H 6=rW v 3 (aq (eI .i64) h)∧H 7=rW w 3 (aq (eI .i64) k)∧H 9=rV Q 57 [sF bo f.ax.aw,sF ep f.ax.aN,sF (fj ah) f.ax.aM,sF fu f.aX,sI f.aC]) a1 ?_ ?_ ?_
        ·refine⟨J,K,L,e+1,?_⟩;and_intros<;>first|rfl|(simp only[aL,seval,Zc]<;>rfl)
        ·rintro⟨au,aJ⟩ t H e ⟨M,N,O,P,Zf⟩ c a;simp only[np]at a;simp only[aL,seval,Zf];apply sp av a<;>intro _ a
         ·obtain⟨bM,a6,a⟩:=ae a;have aw:=bh (eI .i64) a6;simp only[bK]at aw;obtain⟨a7,R,a⟩:=ae a;have y:=bh (eI .i64) R;simp only[bK]at y;have y:=bh (eI .i64) R;simp only[bK]at y;have a8:=eN (eI .i64) (x':=IntKind.i64.wrap (a7+1)) (fo:=0) (cs:=[.int .i64 (IntKind.i64.wrap (a7+1))]) R rfl (aov rfl);simp only[bK,Nat.add_zero]at a8;have ax:=a8;simp only[putCells,List.length_cons,List.length_nil,an5]at ax;cases a;simp only[aL,seval,Zf,aw,y,ax];apply gS;refine⟨M,N,O,P,?_⟩;and_intros<;>first|rfl|(simp only[aL,seval,Zf]<;>rfl)
         ·cases a;simp only[aL,seval];apply jf;refine⟨rfl,⟨M,N,O,P,?_,?_,?_,?_,?_,?_,?_,?_,?_,?_,?_⟩⟩;all_goals ((simp only[aL,seval,Zf]<;>rfl))
        ·rintro x t H e g;obtain⟨h,rfl⟩:∃z,z=bx:=⟨_,rfl⟩;dsimp only at g a;obtain⟨rfl,⟨u,v,w,Q,ba⟩⟩:=g;simp only[aL,seval,ba];obtain⟨bz,bb,a⟩:=ae a;refine az (fun s t H e=>match s with|(aA,aK)=>∃S:Nat,∃T:Nat,∃U:Nat,t 1=.ptr 1 S 0∧t 6=.buf 6 T 1 0 (h).length∧t 7=.buf 7 U 1 0 (aK).length∧t 50=sF bD b.au∧t 51=sN (b.au.length:Int)∧t 52=sN i∧t 79=sF fu f.aX∧t 80=sN (f.aX.length:Int)∧t 81=sN aA∧H 1=rV S 25 [sI b.ak,sF bD b.au]∧H 6=rW T 3 (aq (eI .i64) h)∧H 7=rW U 3 (aq (eI .i64) aK)) (fun o x t H e=>match o with|V=>x=.exit 6∧∃A:Nat,∃B:Nat,∃C:Nat,t 1=.ptr 1 A 0∧t 6=.buf 6 B 1 0 (h).length∧t 7=.buf 7 C 1 0 (V).length∧t 50=sF bD b.au∧t 51=sN (b.au.length:Int)∧t 52=sN i∧H 1=rV A 25 [sI b.ak,sF bD b.au]∧H 6=rW B 3 (aq (eI .i64) h)∧H 7=rW C 3 (aq (eI .i64) V)) bb ?_ ?_ ?_
         ·refine⟨u,v,w,?_⟩;and_intros<;>first|rfl|(simp only[aL,seval,ba]<;>rfl)
         ·rintro⟨aA,aK⟩ t H e ⟨S,T,U,Zg⟩ c a;simp only[ns]at a;simp only[aL,seval,Zg];apply sp av a<;>intro _ a
          ·obtain⟨ab,bd,a⟩:=ae a;have aB:=bh fu bd;simp only[bK]at aB;obtain⟨ad,W,a⟩:=ae a;have D:=bh (eI .i64) W;simp only[bK]at D;have D:=bh (eI .i64) W;simp only[bK]at D;have bf:=eN (eI .i64) (x':=(if 1099511627777<(IntKind.i64.wrap (ad+ab.aR)) then 1099511627777 else IntKind.i64.wrap (ad+ab.aR))) (fo:=0) (cs:=[.int .i64 (if 1099511627777<(IntKind.i64.wrap (ad+ab.aR)) then 1099511627777 else IntKind.i64.wrap (ad+ab.aR))]) W rfl (aov rfl);simp only[bK,Nat.add_zero]at bf;have aC:=bf;simp only[putCells,List.length_cons,List.length_nil,an5]at aC;simp only[aL,seval,Zg,aB,D,aC];refine bA (by kernel_rfl) ?_;cases a;apply gS;refine⟨S,T,U,?_⟩;and_intros<;>first|rfl|(simp only[aL,seval,Zg]<;>rfl)
          ·cases a;simp only[aL,seval];apply jf;refine⟨rfl,⟨S,T,U,?_,?_,?_,?_,?_,?_,?_,?_,?_⟩⟩;all_goals ((simp only[aL,seval,Zg]<;>rfl))
         ·rintro x t H e g;obtain⟨V,rfl⟩:∃z,z=bz:=⟨_,rfl⟩;dsimp only at g a;obtain⟨rfl,⟨A,B,C,bg⟩⟩:=g;cases a;simp only[aL,seval,bg];apply gS;refine⟨A,B,C,?_⟩;and_intros<;>first|rfl|(simp only[aL,seval,bg]<;>rfl)
      ·cases a;simp only[aL,seval];apply jf;refine⟨rfl,⟨J,K,L,?_,?_,?_,?_,?_,?_⟩⟩;all_goals ((simp only[aL,seval,Zc]<;>rfl))
     ·rintro x t H e g;rcases bw with⟨j,d⟩|rc
      ·dsimp only at g a;obtain⟨rfl,⟨n,p,q,bj⟩⟩:=g;simp only[aL,seval,bj];obtain⟨bB,bk,a⟩:=ae a;refine az (fun s t H e=>match s with|X=>∃Y:Nat,∃ag:Nat,∃Z:Nat,t 1=.ptr 1 Y 0∧t 7=.buf 7 Z 1 0 (d).length∧t 100=.buf 6 ag 1 0 (j).length∧t 101=sN ((j).length:Int)∧t 102=sN X∧H 1=rV Y 25 [sI b.ak,sF bD b.au]∧H 6=rW ag 3 (aq (eI .i64) j)∧H 7=rW Z 3 (aq (eI .i64) d)) (fun o x t H e=>match o with|(.inl _)=>x=.exit 8∧∃E:Nat,∃F:Nat,t 1=.ptr 1 E 0∧t 7=.buf 7 F 1 0 (d).length∧H 1=rV E 25 [sI b.ak,sF bD b.au]∧H 7=rW F 3 (aq (eI .i64) d)|(.inr r)=>x=.ret∧gF .clean tab none [.tmp 2,.tmp 3] ⟨t,EH H,e⟩=some (.clean (.tup [.int .i64 r.1,.int .i64 r.2]),none)) bk ?_ ?_ ?_
       ·refine⟨n,p,q,?_⟩;and_intros<;>first|rfl|(simp only[aL,seval,bj]<;>rfl)
       ·rintro X t H e ⟨Y,ag,Z,Zh⟩ c a;simp only[nt]at a;simp only[aL,seval,Zh];apply sp av a<;>intro _ a
        ·obtain⟨bN,bm,a⟩:=ae a;have aE:=bh (eI .i64) bm;simp only[bK]at aE;simp only[aL,seval,Zh,aE];apply sp av a<;>intro _ a
         ·cases a;simp only[aL,seval];refine tf ⟨rfl,?_⟩;simp only[aL,seval]
         ·simp only[aL,seval];apply sp av a<;>intro _ a
          ·cases a;simp only[aL,seval];refine tf ⟨rfl,?_⟩;simp only[aL,seval]
          ·cases a;simp only[aL,seval,Zh];apply gS;refine⟨Y,ag,Z,?_⟩;and_intros<;>first|rfl|(simp only[aL,seval,Zh]<;>rfl)
        ·cases a;simp only[aL,seval];apply jf;refine⟨rfl,⟨Y,Z,?_,?_,?_,?_⟩⟩;all_goals ((simp only[aL,seval,Zh]<;>rfl))
       ·rintro x t H e g;rcases bB with _|rh
        ·dsimp only at g a;obtain⟨rfl,⟨E,F,bn⟩⟩:=g;simp only[aL,seval,bn];obtain⟨bC,bp,a⟩:=ae a;refine az (fun s t H e=>match s with|aa=>∃ai:Nat,∃aj:Nat,t 1=.ptr 1 ai 0∧t 116=.buf 7 aj 1 0 (d).length∧t 117=sN ((d).length:Int)∧t 118=sN aa∧H 1=rV ai 25 [sI b.ak,sF bD b.au]∧H 7=rW aj 3 (aq (eI .i64) d)) (fun o x t H e=>match o with|(.inl _)=>x=.exit 11|(.inr r)=>x=.ret∧gF .clean tab none [.tmp 2,.tmp 3] ⟨t,EH H,e⟩=some (.clean (.tup [.int .i64 r.1,.int .i64 r.2]),none)) bp ?_ ?_ ?_
         ·refine⟨E,F,?_⟩;and_intros<;>first|rfl|(simp only[aL,seval,bn]<;>rfl)
         ·rintro aa t H e ⟨ai,aj,Zi⟩ c a;simp only[nw]at a;simp only[aL,seval,Zi];apply sp av a<;>intro _ a
          ·obtain⟨bO,bq,a⟩:=ae a;have aF:=bh (eI .i64) bq;simp only[bK]at aF;obtain⟨bP,br,a⟩:=ae a;have aG:=bh (eI .i64) br;simp only[bK]at aG;simp only[aL,seval,Zi,aF,aG];apply sp av a<;>intro _ a
           ·cases a;simp only[aL,seval];refine tf ⟨rfl,?_⟩;simp only[aL,seval]
           ·cases a;simp only[aL,seval,Zi];apply gS;refine⟨ai,aj,?_⟩;and_intros<;>first|rfl|(simp only[aL,seval,Zi]<;>rfl)
          ·cases a;simp only[aL,seval];apply jf;exact rfl
         ·rintro x t H e g;rcases bC with _|ri
          ·dsimp only at g a;subst g;cases a;simp only[aL,seval]
          ·dsimp only at g a;obtain⟨rfl,hE⟩:=g;cases a;simp only[aV,bc,cw,cL];exact hE
        ·dsimp only at g a;obtain⟨rfl,hE⟩:=g;cases a;simp only[aV,bc,cw,cL];exact hE
      ·dsimp only at g a;obtain⟨rfl,hE⟩:=g;cases a;simp only[aV,bc,cw,cL];exact hE
    ·dsimp only at g a;obtain⟨rfl,hE⟩:=g;cases a;simp only[aV,bc,cw,cL];exact hE
 ·clear a;have a:=bs;simp only[aL,seval];apply sp aZ a<;>intro _ a
  ·cases a;simp only[aL,seval];rw[ay];refine⟨_,rfl,?_⟩;refine⟨0,?_,?_,?_⟩;all_goals (rfl)
  ·cases a;simp only[aL,seval];rw[ay];refine⟨_,rfl,?_⟩;refine⟨0,?_,?_,?_⟩;all_goals (rfl)
def tj(l:Option (D×Row))(d:List D):=dx (eZ (bC wx) (dp (iQ ah))) (fun x:eL×(List an)=>q9 x.1 x.2) (fun r:Bool =>.clean (.bool r)) l d
def akY{β:Type}{F:eL×(List an)->Option β}{R:β->RK}(a:(List ie))(b:(List um))(c:(List (List an)))(d:(List an)):dx (eZ (bC wx) (dp (iQ ah))) F R none [.agg [.sl false false a.length (aq bo a),.sl false false b.length (aq ep b),.sl false false c.length (aq (fj ah) c)],.sl false false d.length (aq ah d)]=(F ((eL.mk a b c),d)).map fun r=>(R r,none):=cF _ _ _ ((eL.mk a b c),d)
def xX:Env:=(Am.ext (Am.ext bd 24 false cR) 54 false bn)
def Lo:bN prog xX:=((bN.none.add lx false).add fJ false)
def dw:=ai @w<|ai @kC<|ai @cR.eq_1<|ai @bn.eq_1<|@xX.eq_1
def LA:b6 prog 83 tj:=b6.gO (mode:=.clean) tok Lo mixed func83 (by kernel_rfl) (fun _ _=>rfl) (fun _=>by kernel_rfl) fun⟨n,q⟩ r a=>by
 replace a:q9 n q=some r:=a;apply aD rfl ntmps83 results83;simp only[gP];unfold q9 at a;simp only[dw,seval];apply sp av a<;>intro _ a
 ·cases a;simp only[dw,seval]
 ·simp only[dw,seval];obtain⟨u,i,a⟩:=ae a;refine az (fun s t H e=>match s with|f=>∃b:Nat,t 2=.ptr 2 b 0∧t 13=sF ah q∧t 14=sN (q.length:Int)∧t 15=sN f∧H 2=rV b 54 [sF bo n.aw,sF ep n.aN,sF (fj ah) n.aM]) (fun o x t H e=>match o with|(.inl _)=>x=.exit 0|(.inr r)=>x=.ret∧gF .clean tab none [.tmp 4] ⟨t,EH H,e⟩=some (.clean (.bool r),none)) i ?_ ?_ ?_
  ·refine⟨0,?_,?_,?_,?_,?_⟩;all_goals (rfl)
  ·rintro f t H e ⟨b,h⟩ c a;simp only[og]at a;simp only[dw,seval,h];apply sp av a<;>intro _ a
   ·obtain⟨v,j,a⟩:=ae a;have d:=bh ah j;simp only[bK]at d;obtain⟨w,k,a⟩:=ae a;simp only[dw,seval,h,d,k];apply sp aZ a<;>intro _ a
    ·cases a;simp only[dw,seval];refine tf ⟨rfl,?_⟩;simp only[dw,seval]
    ·obtain⟨y,l,a⟩:=ae a;have g:=bh bo l;simp only[bK]at g;simp only[dw,seval,h,d,g];apply sp gj a<;>intro _ a
     ·obtain⟨z,m,a⟩:=ae a;simp only[dw,seval,m];apply sp av a<;>intro _ a
      ·cases a;simp only[dw,seval];refine tf ⟨rfl,?_⟩;simp only[dw,seval]
      ·cases a;simp only[dw,seval,h];apply gS;refine⟨b,?_⟩;and_intros<;>first|rfl|(simp only[dw,seval,h]<;>rfl)
     ·cases a;simp only[dw,seval,h];apply gS;refine⟨b,?_⟩;and_intros<;>first|rfl|(simp only[dw,seval,h]<;>rfl)
   ·cases a;simp only[dw,seval];apply jf;exact rfl
  ·rintro x t H e p;rcases u with _|B
   ·dsimp only at p a;subst p;cases a;simp only[dw,seval]
   ·dsimp only at p a;obtain⟨rfl,A⟩:=p;cases a;simp only[aV,bc,cw,cL];exact A
def oF(l:Option (D×Row))(d:List D):=dx (dp (bC ah)) (fun x:an=>oe x) (fun r:Bool =>.clean (.bool r)) l d
def sY:Env:=(Am.ext bd 24 false cR)
def E5:bN prog sY:=(bN.none.add lx false)
def Hm:=ai @w<|ai @kC<|ai @cR.eq_1<|@sY.eq_1
def Fm:b6 prog 84 oF:=b6.gO (mode:=.clean) tok E5 mixed func84 (by kernel_rfl) (fun _ _=>rfl) (fun _=>by kernel_rfl) fun c r a=>by
 replace a:oe c=some r:=a;apply aD rfl ntmps84 results84;simp only[gP];unfold oe at a;obtain⟨d,b,a⟩:=ae a;cases a;simp only[Hm,seval,b]
def eK(l:Option (D×Row))(d:List D):=dx (eZ (iQ ah) (dp (QT 84))) (fun x:(List an)×Unit=>dO x.1) (fun r:Int =>.clean (.int .i64 r)) l d
def ahe{β:Type}{F:(List an)×Unit->Option β}{R:β->RK}(a:(List an)):dx (eZ (iQ ah) (dp (QT 84))) F R none [.sl false false a.length (aq ah a),.fn 84]=(F (a,())).map fun r=>(R r,none):=cF _ _ _ (a,())
def gH:Env:=(Am.ext bd 84 false oF)
def pM:bN prog gH:=(bN.none.add Fm false)
def bT:=ai @w<|ai @kC<|ai @oF.eq_1<|@gH.eq_1
def pO:b6 prog 102 eK:=b6.gO (mode:=.clean) tok pM mixed func102 (by kernel_rfl) (fun _ _=>rfl) (fun _=>by kernel_rfl) fun⟨h,_⟩ r a=>by
 replace a:dO h=some r:=a;apply aD rfl ntmps102 results102;simp only[gP];unfold dO at a;simp only[bT,seval];obtain⟨l,i,a⟩:=ae a;refine az (fun s t H e=>match s with|b=>t 0=sF ah h∧t 1=.fn 84∧t 7=sN (h.length:Int)∧t 8=sN b) (fun o x t H e=>match o with|(.inl _)=>x=.exit 0|(.inr r)=>x=.ret∧gF .clean tab none [.tmp 4] ⟨t,EH H,e⟩=some (.clean (.int .i64 r),none)) i ?_ ?_ ?_
 ·refine⟨?_,?_,?_,?_⟩;all_goals (rfl)
 ·rintro b t H e f c a;simp only[eC]at a;simp only[bT,seval,f];apply sp av a<;>intro _ a
  ·obtain⟨n,j,a⟩:=ae a;have d:=bh ah j;simp only[bK]at d;obtain⟨p,k,a⟩:=ae a;simp only[bT,seval,f,d,k];apply sp av a<;>intro _ a
   ·cases a;simp only[bT,seval];refine tf ⟨rfl,?_⟩;simp only[bT,seval]
   ·cases a;simp only[bT,seval,f];apply gS;and_intros<;>first|rfl|(simp only[bT,seval,f]<;>rfl)
  ·cases a;simp only[bT,seval];apply jf;exact rfl
 ·rintro x t H e g;rcases l with _|q
  ·dsimp only at g a;subst g;cases a;simp only[bT,seval]
  ·dsimp only at g a;obtain⟨rfl,m⟩:=g;cases a;simp only[aV,bc,cw,cL];exact m
def dS(l:Option (D×Row))(d:List D):=dx (eZ (iQ ah) (dp (QT 84))) (fun x:(List an)×Unit=>cK x.1) (fun r:Bool =>.clean (.bool r)) l d
def fI:Env:=(Am.ext bd 102 false eK)
def nT:bN prog fI:=(bN.none.add pO false)
def oD:=ai @w<|ai @ahe<|ai @eK.eq_1<|@fI.eq_1
def nW:b6 prog 52 dS:=b6.gO (mode:=.clean) tok nT mixed func52 (by kernel_rfl) (fun _ _=>rfl) (fun _=>by kernel_rfl) fun⟨c,_⟩ r a=>by
 replace a:cK c=some r:=a;apply aD rfl ntmps52 results52;simp only[gP];unfold cK at a;obtain⟨d,b,a⟩:=ae a;cases a;simp only[oD,seval,b]
def rS(l:Option (D×Row))(d:List D):=dx (eZ (bC jK) (dp (iQ (fj ah)))) (fun x:aT×(List (List an))=>my x.1 x.2) (fun r:Int =>.clean (.int .i64 r)) l d
def abL{β:Type}{F:aT×(List (List an))->Option β}{R:β->RK}(a:(List Int))(b:(List bl))(c:(List (List an))):dx (eZ (bC jK) (dp (iQ (fj ah)))) F R none [.agg [.sl false false a.length (aq (eI .i64) a),.sl false false b.length (aq bD b)],.sl false false c.length (aq (fj ah) c)]=(F ((aT.mk a b),c)).map fun r=>(R r,none):=cF _ _ _ ((aT.mk a b),c)
def wE:Env:=(Am.ext (Am.ext bd 52 false dS) 83 false tj)
def I7:bN prog wE:=((bN.none.add nW false).add LA false)
def cA:=ai @w<|ai @ahe<|ai @dS.eq_1<|ai @akY<|ai @tj.eq_1<|@wE.eq_1
def J0:b6 prog 40 rS:=b6.gO (mode:=.clean) tok I7 mixed func40 (by kernel_rfl) (fun _ _=>rfl) (fun _=>by kernel_rfl) fun⟨v,i⟩ r a=>by
 replace a:my v i=some r:=a;apply aD rfl ntmps40 results40;simp only[gP];unfold my at a;simp only[cA,seval];apply sp av a<;>intro _ a
 ·cases a;simp only[cA,seval]
 ·simp only[cA,seval];obtain⟨C,w,a⟩:=ae a;refine az (fun s t H e=>match s with|d=>t 1=sF (fj ah) i∧t 16=sF bD v.au∧t 17=sN (v.au.length:Int)∧t 18=sN d) (fun o x t H e=>match o with|(.inl _)=>x=.exit 0∧t 1=sF (fj ah) i|(.inr r)=>x=.ret∧gF .clean tab none [.tmp 4] ⟨t,EH H,e⟩=some (.clean (.int .i64 r),none)) w ?_ ?_ ?_
  ·refine⟨?_,?_,?_,?_⟩;all_goals (rfl)
  ·rintro d t H e j c a;simp only[mz]at a;simp only[cA,seval,j];apply sp av a<;>intro _ a
   ·obtain⟨I,y,a⟩:=ae a;have k:=bh bD y;simp only[bK]at k;obtain⟨D,l,a⟩:=ae a;have f:=bh (fj ah) l;simp only[bK]at f;obtain⟨E,m,a⟩:=ae a;simp only[cA,seval,j,k,f,m];refine bA (by kernel_rfl) ?_;apply sp av a<;>intro _ a
    ·cases a;simp only[cA,seval];refine tf ⟨rfl,?_⟩;simp only[cA,seval]
    ·cases a;simp only[cA,seval,j];apply gS;and_intros<;>first|rfl|(simp only[cA,seval,j]<;>rfl)
   ·cases a;simp only[cA,seval];apply jf;refine⟨rfl,?_⟩;all_goals ((simp only[cA,seval,j]<;>rfl))
  ·rintro x t H e b;rcases C with _|J
   ·dsimp only at b a;obtain⟨rfl,z⟩:=b;simp only[cA,seval,z];obtain⟨A,n,a⟩:=ae a;refine az (fun s t H e=>match s with|g=>t 32=sF (fj ah) i∧t 33=sN (i.length:Int)∧t 34=sN g) (fun o x t H e=>match o with|(.inl _)=>x=.exit 2|(.inr r)=>x=.ret∧gF .clean tab none [.tmp 4] ⟨t,EH H,e⟩=some (.clean (.int .i64 r),none)) n ?_ ?_ ?_
    ·refine⟨?_,?_,?_⟩;all_goals (rfl)
    ·rintro g t H e u c a;simp only[mA]at a;simp only[cA,seval,u];apply sp av a<;>intro _ a
     ·obtain⟨F,p,a⟩:=ae a;have h:=bh (fj ah) p;simp only[bK]at h;obtain⟨G,q,a⟩:=ae a;simp only[cA,seval,u,h,q];apply sp av a<;>intro _ a
      ·cases a;simp only[cA,seval];refine tf ⟨rfl,?_⟩;simp only[cA,seval]
      ·cases a;simp only[cA,seval,u];apply gS;and_intros<;>first|rfl|(simp only[cA,seval,u]<;>rfl)
     ·cases a;simp only[cA,seval];apply jf;exact rfl
    ·rintro x t H e b;rcases A with _|K
     ·dsimp only at b a;subst b;cases a;simp only[cA,seval]
     ·dsimp only at b a;obtain⟨rfl,B⟩:=b;cases a;simp only[aV,bc,cw,cL];exact B
   ·dsimp only at b a;obtain⟨rfl,B⟩:=b;cases a;simp only[aV,bc,cw,cL];exact B
def gV(l:Option (D×Row))(d:List D):=dx (eZ (bC ah) (dp (bC ah))) (fun x:an×an=>p7 x.1 x.2) (fun r:an×Int =>.clean (.tup [.agg [.int .i64 r.1.bF.al,.sl false false r.1.bF.aa.length (aq (eI .i64) r.1.bF.aa),.int .i64 r.1.bJ.al,.sl false false r.1.bJ.aa.length (aq (eI .i64) r.1.bJ.aa)],.int .i64 r.2])) l d
def Cr:Env:=(Am.ext (Am.ext (Am.ext bd 54 false bn) 60 false fc) 63 false gW)
def SL:bN prog Cr:=(((bN.none.add fJ false).add sh false).add vW false)
def pg:=ai @w<|ai @kC<|ai @bn.eq_1<|ai @B4<|ai @fc.eq_1<|ai @gW.eq_1<|@Cr.eq_1
def vV:b6 prog 58 gV:=b6.gO (mode:=.clean) tok SL mixed func58 (by kernel_rfl) (fun _ _=>rfl) (fun _=>by kernel_rfl) fun⟨h,i⟩ r a=>by
 replace a:p7 h i=some r:=a;apply aD rfl ntmps58 results58;simp only[gP];unfold p7 at a;obtain⟨q,j,a⟩:=ae a;simp only[pg,seval,j];obtain⟨p,k,a⟩:=ae a;refine bX 0 (fun s t H e=>match s with|b=>∃c:Nat,∃d:Nat,∃f:Nat,t 2=.ptr 2 c 0∧t 3=.ptr 3 d 0∧t 4=.ptr 4 f 0∧t 13=.bool b∧H 2=rV c 41 [sN h.bF.al,sI h.bF.aa,sN h.bJ.al,sI h.bJ.aa]∧H 3=rV d 41 [sN i.bF.al,sI i.bF.aa,sN i.bJ.al,sI i.bJ.aa]∧H 4=rV f 41 [sN 0,.sl true true 0 [],sN 0,.sl true true 0 []]) (fun s=>s=p) ?_ ?_
 ·rintro b t H e ⟨c,d,f,g⟩ rfl;try dsimp only at a
  simp only[pg,seval,g];apply sp av a<;>intro _ a
  ·cases a;simp only[pg,seval,g]
  ·obtain⟨u,l,a⟩:=ae a;obtain⟨v,m,a⟩:=ae a;obtain⟨w,n,a⟩:=ae a;simp only[pg,seval,g,l,m,n];refine bA (by kernel_rfl) ?_;cases a;simp only[seval]
 ·clear a;have a:=k;simp only[pg,seval];apply sp aZ a<;>intro _ a
  ·cases a;simp only[pg,seval];rw[ay];refine⟨_,rfl,?_⟩;refine⟨0,0,0,?_,?_,?_,?_,?_,?_,?_⟩;all_goals (rfl)
  ·obtain⟨x,o,a⟩:=ae a;cases a;simp only[pg,seval,o];rw[ay];refine⟨_,rfl,?_⟩;refine⟨0,0,0,?_,?_,?_,?_,?_,?_,?_⟩;all_goals (rfl)
def sU:=kE 113 (bC ah) (eZ (iQ (eI .i64)) (dp (bC bD))) (fun (l:(List ((Int×Int)×an))) (x:(List Int)×bl)=>kx l x.1 x.2) (fun r:Unit =>.clean (.tup []))
def Hh(f:(List ((Int×Int)×an)))(g:(List Int))(a:(List ie))(b:(List um))(c:(List (List an)))(d:(List fE))(e:(List Int)):sU (some (.mp 0 0,⟨0,113,[.mpc (fW f) (iW (bC ah) f)],false,true,true⟩)) [.sl false false g.length (aq (eI .i64) g),.agg [.sl false false a.length (aq bo a),.sl false false b.length (aq ep b),.sl false false c.length (aq (fj ah) c),.sl false false d.length (aq fu d),.sl false false e.length (aq (eI .i64) e)]]=(kx f g (bl.mk (eL.mk a b c) d e)).map fun r=>(.clean (.tup []),some ⟨0,113,[.mpc (fW r.1) (iW (bC ah) r.1)],false,true,true⟩):=ai4 _ _ _ _ _ f (g,(bl.mk (eL.mk a b c) d e))
def oL:Env:=(Am.ext (Am.ext (Am.ext (Am.ext bd 24 false cR) 57 false lS) 58 false gV) 120 false qQ)
def E6:bN prog oL:=((((bN.none.add lx false).add CN false).add vV false).add J4 false)
def a8:=ai @w<|ai @kC<|ai @cR.eq_1<|ai @K6<|ai @lS.eq_1<|ai @qI<|ai @gV.eq_1<|ai @qQ.eq_1<|@oL.eq_1
def G9(p0:(List ((Int×Int)×an)))(N:(List Int))(b:bl)(r:(List ((Int×Int)×an))×(Unit))(a:kx p0 N b=some r):lP .clean tab oL FU Tryz.f65 (some (.mp 0 0,⟨0,113,[.mpc (fW p0) (iW (bC ah) p0)],false,true,true⟩)) [.sl false false N.length (aq (eI .i64) N),.agg [.sl false false b.ax.aw.length (aq bo b.ax.aw),.sl false false b.ax.aN.length (aq ep b.ax.aN),.sl false false b.ax.aM.length (aq (fj ah) b.ax.aM),.sl false false b.aX.length (aq fu b.aX),.sl false false b.aC.length (aq (eI .i64) b.aC)]]=some (.clean (.tup []),some ⟨0,113,[.mpc (fW r.1) (iW (bC ah) r.1)],false,true,true⟩):=by
 apply Vt rfl ntmps65 results65;unfold kx at a;simp only[a8,seval];obtain⟨ao,R,a⟩:=ae a;refine az (fun s t H e=>match s with|(d,O)=>∃u:Nat,t 0=.mp 0 0∧t 1=sI N∧t 5=.ptr 5 u 0∧t 20=sF bo b.ax.aw∧t 21=sN (b.ax.aw.length:Int)∧t 22=sN d∧H 0=some ⟨0,113,[.mpc (fW O) (iW (bC ah) O)],false,true,true⟩∧H 5=rV u 57 [sF bo b.ax.aw,sF ep b.ax.aN,sF (fj ah) b.ax.aM,sF fu b.aX,sI b.aC]) (fun o x t H e=>match o with|v=>x=.exit 0∧t 0=.mp 0 0∧H 0=some ⟨0,113,[.mpc (fW v) (iW (bC ah) v)],false,true,true⟩) R ?_ ?_ ?_
 ·refine⟨1,?_,?_,?_,?_,?_,?_,?_,?_⟩;all_goals (rfl)
 ·rintro⟨d,O⟩ t H e ⟨u,P⟩ c a;simp only[kU]at a;simp only[a8,seval,P];apply sp av a<;>intro _ a
  ·obtain⟨ax,S,a⟩:=ae a;have l:=bh bo S;simp only[bK]at l;simp only[a8,seval,P,l];apply sp av a<;>intro _ a
   ·cases a;simp only[a8,seval,P];apply gS;refine⟨u,?_⟩;and_intros<;>first|rfl|(simp only[a8,seval,P]<;>rfl)
   ·obtain⟨D,T,a⟩:=ae a;have F:=bh fu T;simp only[bK]at F;obtain⟨aA,U,a⟩:=ae a;have G:=bh (eI .i64) U;simp only[bK]at G;obtain⟨j,V,a⟩:=ae a;simp only[a8,seval,P,F,G,V];refine bA (by kernel_rfl) ?_;obtain⟨ar,W,a⟩:=ae a;refine az (fun s t H e=>match s with|(m,w)=>∃q:Nat,∃y:Nat,∃A:Nat,t 0=.mp 0 0∧t 1=sI N∧t 5=.ptr 5 q 0∧t 6=sN d∧t 8=.ptr 8 y 0∧t 9=.ptr 9 A 0∧t 20=sF bo b.ax.aw∧t 21=sN (b.ax.aw.length:Int)∧t 22=sN d∧t 49=sF ep b.ax.aN∧t 50=sN (b.ax.aN.length:Int)∧t 51=sN m∧H 0=some ⟨0,113,[.mpc (fW w) (iW (bC ah) w)],false,true,true⟩∧H 5=rV q 57 [sF bo b.ax.aw,sF ep b.ax.aN,sF (fj ah) b.ax.aM,sF fu b.aX,sI b.aC]∧H 8=rV y 72 [sN D.bg,sN D.aR]∧H 9=rV A 41 [sN j.1.bF.al,sI j.1.bF.aa,sN j.1.bJ.al,sI j.1.bJ.aa]) (fun o x t H e=>match o with|B=>x=.exit 2∧∃n:Nat,t 0=.mp 0 0∧t 1=sI N∧t 5=.ptr 5 n 0∧t 20=sF bo b.ax.aw∧t 21=sN (b.ax.aw.length:Int)∧t 22=sN d∧H 0=some ⟨0,113,[.mpc (fW B) (iW (bC ah) B)],false,true,true⟩∧H 5=rV n 57 [sF bo b.ax.aw,sF ep b.ax.aN,sF (fj ah) b.ax.aM,sF fu b.aX,sI b.aC]) W ?_ ?_ ?_
    ·refine⟨u,e+1+1+1,e+1+1+1+1,?_⟩;and_intros<;>first|rfl|(simp only[a8,seval,P]<;>rfl)
    ·rintro⟨m,w⟩ t H e ⟨q,y,A,Q⟩ c a;simp only[jl]at a;simp only[a8,seval,Q];apply sp av a<;>intro _ a
     ·obtain⟨E,X,a⟩:=ae a;have p:=bh ep X;simp only[bK]at p;simp only[a8,seval,Q,p];obtain⟨au,Y,a⟩:=ae a;refine bX 0 (fun s t H e=>match s with|C=>∃f:Nat,∃g:Nat,∃h:Nat,∃k:Nat,t 0=.mp 0 0∧t 1=sI N∧t 5=.ptr 5 f 0∧t 6=sN d∧t 8=.ptr 8 g 0∧t 9=.ptr 9 h 0∧t 11=sN m∧t 12=.ptr 12 k 0∧t 20=sF bo b.ax.aw∧t 21=sN (b.ax.aw.length:Int)∧t 22=sN d∧t 49=sF ep b.ax.aN∧t 50=sN (b.ax.aN.length:Int)∧t 51=sN m∧t 71=.bool C∧H 0=some ⟨0,113,[.mpc (fW w) (iW (bC ah) w)],false,true,true⟩∧H 5=rV f 57 [sF bo b.ax.aw,sF ep b.ax.aN,sF (fj ah) b.ax.aM,sF fu b.aX,sI b.aC]∧H 8=rV g 72 [sN D.bg,sN D.aR]∧H 9=rV h 41 [sN j.1.bF.al,sI j.1.bF.aa,sN j.1.bJ.al,sI j.1.bJ.aa]∧H 12=rV k 60 [sN E.bj,sN E.aY,sN E.aR,.str E.Po]) (fun s=>s=au) ?_ ?_
      ·rintro C t H e ⟨f,g,h,k,i⟩ rfl;try dsimp only at a
       simp only[a8,seval,i];apply sp av a<;>intro _ a
       ·cases a;simp only[a8,seval,i];apply gS;refine⟨f,g,h,?_⟩;and_intros<;>first|rfl|(simp only[a8,seval,i]<;>rfl)
       ·obtain⟨aB,Z,a⟩:=ae a;have I:=bh (eI .i64) Z;simp only[bK]at I;simp only[a8,seval,p,i,I];refine bA (by kernel_rfl) ?_;obtain⟨aC,aa,a⟩:=ae a;have J:=bh (fj ah) aa;simp only[bK]at J;obtain⟨aD,ab,a⟩:=ae a;have K:=bh ah ab;simp only[bK]at K;obtain⟨aE,ad,a⟩:=ae a;simp only[a8,seval,l,i,J,K,ad];refine bA (by kernel_rfl) ?_;apply sp av a<;>intro _ a
        ·obtain⟨aF,ag,a⟩:=ae a;cases a;simp only[a8,seval,i,ag];apply gS;refine⟨f,g,h,?_⟩;and_intros<;>first|rfl|(simp only[a8,seval,i]<;>rfl)
        ·cases a;simp only[a8,seval,i];apply gS;refine⟨f,g,h,?_⟩;and_intros<;>first|rfl|(simp only[a8,seval,i]<;>rfl)
      ·clear a;have a:=Y;simp only[a8,seval];apply sp aZ a<;>intro _ a
       ·cases a;simp only[a8,seval];rw[ay];refine⟨_,rfl,?_⟩;refine⟨q,y,A,e+1,?_⟩;and_intros<;>first|rfl|(simp only[a8,seval,Q]<;>rfl)
       ·obtain⟨aG,ai,a⟩:=ae a;have L:=bh (fj ah) ai;simp only[bK]at L;obtain⟨aH,aj,a⟩:=ae a;have M:=bh ah aj;simp only[bK]at M;obtain⟨aI,ak,a⟩:=ae a;cases a;simp only[a8,seval,l,Q,p,L,M,ak];rw[ay];refine⟨_,rfl,?_⟩;refine⟨q,y,A,e+1,?_⟩;and_intros<;>first|rfl|(simp only[a8,seval,Q]<;>rfl)
     ·cases a;simp only[a8,seval];apply jf;refine⟨rfl,⟨q,?_,?_,?_,?_,?_,?_,?_,?_⟩⟩;all_goals ((simp only[a8,seval,Q]<;>rfl))
    ·rintro x t H e hx;obtain⟨B,rfl⟩:∃z,z=ar:=⟨_,rfl⟩;dsimp only at hx a;obtain⟨rfl,⟨n,al⟩⟩:=hx;cases a;simp only[a8,seval,al];apply gS;refine⟨n,?_⟩;and_intros<;>first|rfl|(simp only[a8,seval,al]<;>rfl)
  ·cases a;simp only[a8,seval];apply jf;refine⟨rfl,⟨?_,?_⟩⟩;all_goals ((simp only[a8,seval,P]<;>rfl))
 ·rintro x t H e hx;obtain⟨v,rfl⟩:∃z,z=ao:=⟨_,rfl⟩;dsimp only at hx a;obtain⟨rfl,aw⟩:=hx;cases a;simp only[a8,seval,aw]
def Fo:b6 prog 65 sU:=b6.aew tok E6 mixed func65 (by kernel_rfl) ⟨by kernel_rfl,by kernel_rfl⟩ (fun _=>aov (by kernel_rfl)) (fun l x a r h=>G9 l x.1 x.2 (a,r) h)
def tl(l:Option (D×Row))(d:List D):=dx (eZ (bC ch) (dp (bC ch))) (fun x:cN×cN=>rD x.1 x.2) (fun r:Int =>.clean (.int .i64 r)) l d
def akZ{β:Type}{F:cN×cN->Option β}{R:β->RK}(e:Int)(f:Int)(g:Int)(a:(List Int))(h:Int)(b:(List Int))(i:Int)(j:Int)(k:Int)(c:(List Int))(l:Int)(d:(List Int)):dx (eZ (bC ch) (dp (bC ch))) F R none [.agg [.int .i64 e,.int .i64 f,.int .i64 g,.sl false false a.length (aq (eI .i64) a),.int .i64 h,.sl false false b.length (aq (eI .i64) b)],.agg [.int .i64 i,.int .i64 j,.int .i64 k,.sl false false c.length (aq (eI .i64) c),.int .i64 l,.sl false false d.length (aq (eI .i64) d)]]=(F ((cN.mk e f (an.mk (aF.mk g a) (aF.mk h b))),(cN.mk i j (an.mk (aF.mk k c) (aF.mk l d))))).map fun r=>(R r,none):=cF _ _ _ ((cN.mk e f (an.mk (aF.mk g a) (aF.mk h b))),(cN.mk i j (an.mk (aF.mk k c) (aF.mk l d))))
def yb:Env:=(Am.ext (Am.ext bd 110 false eD) 115 false Da)
def Ls:bN prog yb:=((bN.none.add qp false).add NX false)
def QQ:=ai @w<|ai @K6<|ai @eD.eq_1<|@yb.eq_1
def LC:b6 prog 67 tl:=b6.gO (mode:=.clean) tok Ls mixed func67 (by kernel_rfl) (fun _ _=>rfl) (fun _=>by kernel_rfl) fun⟨f,g⟩ r a=>by
 replace a:rD f g=some r:=a;apply aD rfl ntmps67 results67;simp only[gP];unfold rD at a;obtain⟨h,b,a⟩:=ae a;obtain⟨i,c,a⟩:=ae a;have e:=Uv ([h,i]);simp only[bY,bK,List.length_cons,an5,Nat.reduceAdd]at e;obtain⟨j,d,a⟩:=ae a;simp only[QQ,seval,b,c,e,d];refine bA (by kernel_rfl) ?_;cases a;simp only[seval]
def ug(l:Option (D×Row))(d:List D):=dx (dp (bC jK)) (fun x:aT=>CL x) (fun r:gK×Int =>.clean (.tup [.agg [.int .i64 r.1.aC,.sl false false r.1.bf.length (aq ch r.1.bf)],.int .i64 r.2])) l d
def DH:Env:=(Am.zf 9 (118,6,1) (Am.ext (Am.ext bd 39 false iY) 65 true sU))
def aa4:bN prog DH:=(bN.zf ((bN.none.add yj false).add Fo true) 9 (118,6,1))
def lR:=ai @w<|ai @IW<|ai @US<|ai @iY.eq_1<|@DH.eq_1
def aeD(i:aT)(r:gK×Int)(a:CL i=some r):XK tab DH FU 5 Tryz.f26 [.agg [.sl false false i.ak.length (aq (eI .i64) i.ak),.sl false false i.au.length (aq bD i.au)]] (Cm tab Tryz.f26.results.toList (.clean (.tup [.agg [.int .i64 r.1.aC,.sl false false r.1.bf.length (aq ch r.1.bf)],.int .i64 r.2]),none) (aj1 r)):=by
 apply acb rfl ntmps26 results26;simp only[Pq,Pr];unfold CL at a;obtain⟨G,y,a⟩:=ae a;simp only[lR,seval,y];apply sp av a<;>intro _ a
 ·cases a;simp only[lR,seval]
 ·simp only[lR,seval];obtain⟨E,A,a⟩:=ae a;refine az (fun s t H e=>match s with|(n,g)=>∃j:Nat,∃k:Nat,∃f:Nat,t 1=.ptr 1 j 0∧t 2=.ptr 2 k 0∧t 6=.mp 21 f∧t 23=sF bD i.au∧t 24=sN (i.au.length:Int)∧t 25=sN n∧H 1=rV j 25 [sI i.ak,sF bD i.au]∧H 2=rV k 66 [sN 0,.sl true true 0 []]∧H 21=some ⟨f,113,[.mpc (fW g) (iW (bC ah) g)],false,true,true⟩) (fun o x t H e=>match o with|b=>x=.exit 0∧∃l:Nat,∃h:Nat,∃d:Nat,t 1=.ptr 1 l 0∧t 2=.ptr 2 h 0∧t 6=.mp 21 d∧H 1=rV l 25 [sI i.ak,sF bD i.au]∧H 2=rV h 66 [sN 0,.sl true true 0 []]∧H 21=some ⟨d,113,[.mpc (fW b) (iW (bC ah) b)],false,true,true⟩) A ?_ ?_ ?_
  ·refine⟨0,0,3,?_,?_,?_,?_,?_,?_,?_,?_,?_⟩;all_goals (rfl)
  ·rintro⟨n,g⟩ t H e ⟨j,k,f,w⟩ c a;simp only[tW]at a;simp only[lR,seval,w];apply sp av a<;>intro _ a
   ·obtain⟨p,B,a⟩:=ae a;have q:=bh bD B;simp only[bK]at q;have C:=Hh g i.ak p.ax.aw p.ax.aN p.ax.aM p.aX p.aC;obtain⟨F,u,a⟩:=ae a;cases a;simp only[lR,seval,w,q,C,u];apply gS;refine⟨j,k,f,?_⟩;and_intros<;>first|rfl|(simp only[lR,seval,w]<;>rfl)
   ·cases a;simp only[lR,seval];apply jf;refine⟨rfl,⟨j,k,f,?_,?_,?_,?_,?_,?_⟩⟩;all_goals ((simp only[lR,seval,w]<;>rfl))
  ·rintro x t H e D;obtain⟨b,rfl⟩:∃z,z=E:=⟨_,rfl⟩;dsimp only at D a;obtain⟨rfl,⟨l,h,d,m⟩⟩:=D;simp only[lR,seval,m];apply sp av a<;>intro _ a
   ·cases a;simp only[lR,seval,m]
   ·have v:bump (4*(e+1)+2) (e+1)=some (4*(e+1)+3):=ac4 rfl;simp only[lR,seval,m,v];rw[Ll];refine⟨b,(i.ak.length:Int),d,e+1,h,(4*(e+1)+3),?_,?_,?_,?_,?_,?_,by omega,a⟩;all_goals first|rfl|(simp only[lR,seval,m]<;>rfl)
def NZ:b6 prog 26 ug:=b6.front tok aa4 mixed func26 rfl (by kernel_rfl) ⟨by kernel_rfl,by kernel_rfl⟩ (fun _=>aov (by kernel_rfl)) (aov (by kernel_rfl)) (fun x r h=>aeD x r h) (fun r=>aeS r)
def jr(l:Option (D×Row))(d:List D):=dx (eZ (iQ ah) (dp (iQ ah))) (fun x:(List an)×(List an)=>jY x.1 x.2) (fun r:an =>.clean (.agg [.int .i64 r.bF.al,.sl false false r.bF.aa.length (aq (eI .i64) r.bF.aa),.int .i64 r.bJ.al,.sl false false r.bJ.aa.length (aq (eI .i64) r.bJ.aa)])) l d
def abM{β:Type}{F:(List an)×(List an)->Option β}{R:β->RK}(a:(List an))(b:(List an)):dx (eZ (iQ ah) (dp (iQ ah))) F R none [.sl false false a.length (aq ah a),.sl false false b.length (aq ah b)]=(F (a,b)).map fun r=>(R r,none):=cF _ _ _ (a,b)
def uM:Env:=(Am.ext (Am.ext (Am.ext bd 21 false dr) 23 false gU) 58 false gV)
def G6:bN prog uM:=(((bN.none.add mH false).add vU false).add vV false)
def iC:=ai @w<|ai @GK<|ai @dr.eq_1<|ai @qI<|ai @gU.eq_1<|ai @gV.eq_1<|@uM.eq_1
def yU:b6 prog 45 jr:=b6.gO (mode:=.clean) tok G6 mixed func45 (by kernel_rfl) (fun _ _=>rfl) (fun _=>by kernel_rfl) fun⟨G,B⟩ r a=>by
 replace a:jY G B=some r:=a;apply aD rfl ntmps45 results45;simp only[gP];unfold jY at a;obtain⟨N,C,a⟩:=ae a;simp only[iC,seval,C];obtain⟨J,D,a⟩:=ae a;refine az (fun s t H e=>match s with|(q,h,i,j,k)=>∃l:Nat,∃m:Nat,t 0=sF ah G∧t 4=.ptr 4 l 0∧t 5=.ptr 5 m 0∧t 11=sF ah B∧t 12=sN (B.length:Int)∧t 13=sN q∧H 4=rV l 41 [sN 0,.sl true true 0 [],sN 0,.sl true true 0 []]∧H 5=rV m 41 [sN h,sI i,sN j,sI k]) (fun o x t H e=>match o with|(b,d,f,g)=>x=.exit 0∧∃n:Nat,∃p:Nat,t 4=.ptr 4 n 0∧t 5=.ptr 5 p 0∧H 4=rV n 41 [sN 0,.sl true true 0 [],sN 0,.sl true true 0 []]∧H 5=rV p 41 [sN b,sI d,sN f,sI g]) D ?_ ?_ ?_
 ·refine⟨0,1,?_,?_,?_,?_,?_,?_,?_,?_⟩;all_goals (rfl)
 ·rintro⟨q,h,i,j,k⟩ t H e ⟨l,m,v⟩ c a;simp only[lG]at a;simp only[iC,seval,v];apply sp av a<;>intro _ a
  ·obtain⟨O,E,a⟩:=ae a;have w:=bh ah E;simp only[bK]at w;obtain⟨K,y,a⟩:=ae a;have u:=bh ah y;simp only[bK]at u;obtain⟨L,z,a⟩:=ae a;simp only[iC,seval,v,w,u,z];refine bA (by kernel_rfl) ?_;obtain⟨M,A,a⟩:=ae a;cases a;simp only[iC,seval,v,A];apply gS;refine⟨l,m,?_⟩;and_intros<;>first|rfl|(simp only[iC,seval,v]<;>rfl)
  ·cases a;simp only[iC,seval];apply jf;refine⟨rfl,⟨l,m,?_,?_,?_,?_⟩⟩;all_goals ((simp only[iC,seval,v]<;>rfl))
 ·rintro x t H e I;rcases J with⟨b,d,f,g⟩;dsimp only at I a;obtain⟨rfl,⟨n,p,F⟩⟩:=I;cases a;simp only[iC,seval,F]
def pS(l:Option (D×Row))(d:List D):=dx (eZ (bC jK) (dp (iQ (fj ah)))) (fun x:aT×(List (List an))=>mX x.1 x.2) (fun r:(List an) =>.clean (.sl false false r.length (aq ah r))) l d
def uL:Env:=(Am.ext bd 45 false jr)
def G5:bN prog uL:=(bN.none.add yU false)
def cM:=ai @w<|ai @abM<|ai @jr.eq_1<|@uL.eq_1
def Hc:b6 prog 42 pS:=b6.gO (mode:=.clean) tok G5 mixed func42 (by kernel_rfl) (fun _ _=>rfl) (fun _=>by kernel_rfl) fun⟨C,T⟩ r a=>by
 replace a:mX C T=some r:=a;apply aD rfl ntmps42 results42;simp only[gP];unfold mX at a;obtain⟨x1,V,a⟩:=ae a;obtain⟨W,X,Y,G,Z⟩:=mk_one ah V;simp only[bK]at G;simp only[cM,seval,W,X,Y,G,Z];obtain⟨aa,I,a⟩:=ae a;refine az (fun s t H e=>match s with|(b,D)=>∃i:Nat,t 1=sF (fj ah) T∧t 5=.buf 5 i 4 0 (D).length∧t 15=sF bD C.au∧t 16=sN (C.au.length:Int)∧t 17=sN b∧H 5=rW i 41 (aq ah D)) (fun o x t H e=>match o with|j=>x=.exit 0∧∃k:Nat,t 5=.buf 5 k 4 0 (j).length∧H 5=rW k 41 (aq ah j)) I ?_ ?_ ?_
 ·refine⟨1,?_,?_,?_,?_,?_,?_⟩;all_goals (rfl)
 ·rintro⟨b,D⟩ t H e ⟨i,U⟩ c a;simp only[jR]at a;simp only[cM,seval,U];apply sp av a<;>intro _ a
  ·obtain⟨d,J,a⟩:=ae a;have l:=bh bD J;simp only[bK]at l;simp only[cM,seval,U,l];obtain⟨ab,K,a⟩:=ae a;refine az (fun s t H e=>match s with|(q,E)=>∃h:Nat,∃m:Nat,t 1=sF (fj ah) T∧t 5=.buf 5 h 4 0 (E).length∧t 6=sN b∧t 7=.ptr 7 m 0∧t 15=sF bD C.au∧t 16=sN (C.au.length:Int)∧t 17=sN b∧t 24=sF ep d.ax.aN∧t 25=sN (d.ax.aN.length:Int)∧t 26=sN q∧H 5=rW h 41 (aq ah E)∧H 7=rV m 57 [sF bo d.ax.aw,sF ep d.ax.aN,sF (fj ah) d.ax.aM,sF fu d.aX,sI d.aC]) (fun o x t H e=>match o with|n=>x=.exit 2∧∃g:Nat,t 1=sF (fj ah) T∧t 5=.buf 5 g 4 0 (n).length∧t 15=sF bD C.au∧t 16=sN (C.au.length:Int)∧t 17=sN b∧H 5=rW g 41 (aq ah n)) K ?_ ?_ ?_
   ·refine⟨i,e+1,?_⟩;and_intros<;>first|rfl|(simp only[cM,seval,U]<;>rfl)
   ·rintro⟨q,E⟩ t H e ⟨h,m,F⟩ c a;simp only[jS]at a;simp only[cM,seval,F];apply sp av a<;>intro _ a
    ·obtain⟨ag,L,a⟩:=ae a;have p:=bh ep L;simp only[bK]at p;simp only[cM,seval,F,p];apply sp av a<;>intro _ a
     ·obtain⟨ai,M,a⟩:=ae a;have u:=bh (eI .i64) M;simp only[bK]at u;obtain⟨aj,N,a⟩:=ae a;have v:=bh (fj ah) N;simp only[bK]at v;obtain⟨ak,O,a⟩:=ae a;have w:=bh (fj ah) O;simp only[bK]at w;obtain⟨f,P,a⟩:=ae a;obtain⟨al,y,a⟩:=ae a;have A:=bh ah y;simp only[bK]at A;have Q:=eN ah (x':=f) (fo:=0) (cs:=[.int .i64 f.bF.al,.sl false false f.bF.aa.length (aq (eI .i64) f.bF.aa),.int .i64 f.bJ.al,.sl false false f.bJ.aa.length (aq (eI .i64) f.bJ.aa)]) y rfl (aov rfl);simp only[bK,Nat.add_zero]at Q;have B:=Q;simp only[putCells,List.length_cons,List.length_nil,an5,Nat.reduceAdd]at B;simp only[cM,seval,l,F,p,u,v,w,P,A,B];refine bA (by kernel_rfl) ?_;cases a;apply gS;refine⟨h,m,?_⟩;and_intros<;>first|rfl|(simp only[cM,seval,F]<;>rfl)
     ·cases a;simp only[cM,seval,F];apply gS;refine⟨h,m,?_⟩;and_intros<;>first|rfl|(simp only[cM,seval,F]<;>rfl)
    ·cases a;simp only[cM,seval];apply jf;refine⟨rfl,⟨h,?_,?_,?_,?_,?_,?_⟩⟩;all_goals ((simp only[cM,seval,F]<;>rfl))
   ·rintro x t H e R;obtain⟨n,rfl⟩:∃z,z=ab:=⟨_,rfl⟩;dsimp only at R a;obtain⟨rfl,⟨g,S⟩⟩:=R;cases a;simp only[cM,seval,S];apply gS;refine⟨g,?_⟩;and_intros<;>first|rfl|(simp only[cM,seval,S]<;>rfl)
  ·cases a;simp only[cM,seval];apply jf;refine⟨rfl,⟨i,?_,?_⟩⟩;all_goals ((simp only[cM,seval,U]<;>rfl))
 ·rintro x t H e R;obtain⟨j,rfl⟩:∃z,z=aa:=⟨_,rfl⟩;dsimp only at R a;obtain⟨rfl,⟨k,ad⟩⟩:=R;cases a;simp only[cM,seval,ad]
def kp(l:Option (D×Row))(d:List D):=dx (eZ (bC ah) (dp (bC ah))) (fun x:an×an=>sB x.1 x.2) (fun r:an×Int =>.clean (.tup [.agg [.int .i64 r.1.bF.al,.sl false false r.1.bF.aa.length (aq (eI .i64) r.1.bF.aa),.int .i64 r.1.bJ.al,.sl false false r.1.bJ.aa.length (aq (eI .i64) r.1.bJ.aa)],.int .i64 r.2])) l d
def Ct:Env:=(Am.ext (Am.ext (Am.ext bd 23 false gU) 54 false bn) 71 false qN)
def SN:bN prog Ct:=(((bN.none.add vU false).add fJ false).add JV false)
def pj:=ai @w<|ai @qI<|ai @gU.eq_1<|ai @kC<|ai @bn.eq_1<|ai @y3<|ai @qN.eq_1<|@Ct.eq_1
def Aq:b6 prog 29 kp:=b6.gO (mode:=.clean) tok SN mixed func29 (by kernel_rfl) (fun _ _=>rfl) (fun _=>by kernel_rfl) fun⟨h,i⟩ r a=>by
 replace a:sB h i=some r:=a;apply aD rfl ntmps29 results29;simp only[gP];unfold sB at a;obtain⟨p,j,a⟩:=ae a;simp only[pj,seval,j];obtain⟨o,k,a⟩:=ae a;refine bX 0 (fun s t H e=>match s with|b=>∃c:Nat,∃d:Nat,∃f:Nat,t 2=.ptr 2 c 0∧t 3=.ptr 3 d 0∧t 4=.ptr 4 f 0∧t 13=.bool b∧H 2=rV c 41 [sN h.bF.al,sI h.bF.aa,sN h.bJ.al,sI h.bJ.aa]∧H 3=rV d 41 [sN i.bF.al,sI i.bF.aa,sN i.bJ.al,sI i.bJ.aa]∧H 4=rV f 41 [sN 0,.sl true true 0 [],sN 0,.sl true true 0 []]) (fun s=>s=o) ?_ ?_
 ·rintro b t H e ⟨c,d,f,g⟩ rfl;try dsimp only at a
  simp only[pj,seval,g];apply sp av a<;>intro _ a
  ·cases a;simp only[pj,seval,g]
  ·obtain⟨q,l,a⟩:=ae a;obtain⟨u,m,a⟩:=ae a;simp only[pj,seval,g,l,m];refine bA (by kernel_rfl) ?_;cases a;simp only[seval]
 ·clear a;have a:=k;simp only[pj,seval];apply sp aZ a<;>intro _ a
  ·cases a;simp only[pj,seval];rw[ay];refine⟨_,rfl,?_⟩;refine⟨0,0,0,?_,?_,?_,?_,?_,?_,?_⟩;all_goals (rfl)
  ·obtain⟨v,n,a⟩:=ae a;cases a;simp only[pj,seval,n];rw[ay];refine⟨_,rfl,?_⟩;refine⟨0,0,0,?_,?_,?_,?_,?_,?_,?_⟩;all_goals (rfl)
def mu(l:Option (D×Row))(d:List D):=dx (dp (bC yR)) (fun x:gK=>rG x) (fun r:(List an) =>.clean (.sl false false r.length (aq ah r))) l d
def LO{β:Type}{F:gK->Option β}{R:β->RK}(b:Int)(a:(List cN)):dx (dp (bC yR)) F R none [.agg [.int .i64 b,.sl false false a.length (aq ch a)]]=(F ((gK.mk b a))).map fun r=>(R r,none):=cF _ _ _ ((gK.mk b a))
def zZ:Env:=(Am.ext (Am.ext bd 21 false dr) 29 false kp)
def Pz:bN prog zZ:=((bN.none.add mH false).add Aq false)
def fv:=ai @w<|ai @GK<|ai @dr.eq_1<|ai @qI<|ai @kp.eq_1<|@zZ.eq_1
def DZ:b6 prog 126 mu:=b6.gO (mode:=.clean) tok Pz mixed func126 (by kernel_rfl) (fun _ _=>rfl) (fun _=>by kernel_rfl) fun B r a=>by
 replace a:rG B=some r:=a;apply aD rfl ntmps126 results126;simp only[gP];unfold rG at a;obtain⟨Z,Q,a⟩:=ae a;obtain⟨R,S,T,F,U⟩:=mk_one ah Q;simp only[bK]at F;simp only[fv,seval,R,S,T,F,U];obtain⟨o7,V,a⟩:=ae a;refine az (fun s t H e=>match s with|(p,C)=>∃g:Nat,∃h:Nat,t 1=.ptr 1 g 0∧t 3=.buf 3 h 4 0 (C).length∧t 11=sN ((Z).length:Int)∧t 12=sN p∧H 1=rV g 66 [sN B.aC,sF ch B.bf]∧H 3=rW h 41 (aq ah C)) (fun o x t H e=>match o with|i=>x=.exit 0∧∃j:Nat,∃d:Nat,t 1=.ptr 1 j 0∧t 3=.buf 3 d 4 0 (i).length∧H 1=rV j 66 [sN B.aC,sF ch B.bf]∧H 3=rW d 41 (aq ah i)) V ?_ ?_ ?_
 ·refine⟨0,1,?_,?_,?_,?_,?_,?_⟩;all_goals (rfl)
 ·rintro⟨p,C⟩ t H e ⟨g,h,O⟩ c a;simp only[qh]at a;simp only[fv,seval,O];apply sp av a<;>intro _ a
  ·obtain⟨D,W,a⟩:=ae a;obtain⟨aa,q,a⟩:=ae a;have u:=bh ah q;simp only[bK]at u;have G:=eN ah (x':=D) (fo:=0) (cs:=[.int .i64 D.bF.al,.sl false false D.bF.aa.length (aq (eI .i64) D.bF.aa),.int .i64 D.bJ.al,.sl false false D.bJ.aa.length (aq (eI .i64) D.bJ.aa)]) q rfl (aov rfl);simp only[bK,Nat.add_zero]at G;have v:=G;simp only[putCells,List.length_cons,List.length_nil,an5,Nat.reduceAdd]at v;cases a;simp only[fv,seval,O,W,u,v];apply gS;refine⟨g,h,?_⟩;and_intros<;>first|rfl|(simp only[fv,seval,O]<;>rfl)
  ·cases a;simp only[fv,seval];apply jf;refine⟨rfl,⟨g,h,?_,?_,?_,?_⟩⟩;all_goals ((simp only[fv,seval,O]<;>rfl))
 ·rintro x t H e I;obtain⟨i,rfl⟩:∃z,z=o7:=⟨_,rfl⟩;dsimp only at I a;obtain⟨rfl,⟨j,d,J⟩⟩:=I;simp only[fv,seval,J];obtain⟨X,K,a⟩:=ae a;refine az (fun s t H e=>match s with|(w,E)=>∃k:Nat,t 3=.buf 3 k 4 0 (E).length∧t 21=sF ch B.bf∧t 22=sN (B.bf.length:Int)∧t 23=sN w∧H 3=rW k 41 (aq ah E)) (fun o x t H e=>match o with|l=>x=.exit 2∧∃m:Nat,t 3=.buf 3 m 4 0 (l).length∧H 3=rW m 41 (aq ah l)) K ?_ ?_ ?_
  ·refine⟨d,?_⟩;and_intros<;>first|rfl|(simp only[fv,seval,J]<;>rfl)
  ·rintro⟨w,E⟩ t H e ⟨k,P⟩ c a;simp only[qk]at a;simp only[fv,seval,P];apply sp av a<;>intro _ a
   ·obtain⟨ab,L,a⟩:=ae a;have y:=bh ch L;simp only[bK]at y;obtain⟨ad,n,a⟩:=ae a;have f:=bh ah n;simp only[bK]at f;obtain⟨b,M,a⟩:=ae a;have f:=bh ah n;simp only[bK]at f;have N:=eN ah (x':=b.1) (fo:=0) (cs:=[.int .i64 b.1.bF.al,.sl false false b.1.bF.aa.length (aq (eI .i64) b.1.bF.aa),.int .i64 b.1.bJ.al,.sl false false b.1.bJ.aa.length (aq (eI .i64) b.1.bJ.aa)]) n rfl (aov rfl);simp only[bK,Nat.add_zero]at N;have A:=N;simp only[putCells,List.length_cons,List.length_nil,an5,Nat.reduceAdd]at A;simp only[fv,seval,P,y,M,f,A];refine bA (by kernel_rfl) ?_;cases a;apply gS;refine⟨k,?_⟩;and_intros<;>first|rfl|(simp only[fv,seval,P]<;>rfl)
   ·cases a;simp only[fv,seval];apply jf;refine⟨rfl,⟨k,?_,?_⟩⟩;all_goals ((simp only[fv,seval,P]<;>rfl))
  ·rintro x t H e I;obtain⟨l,rfl⟩:∃z,z=X:=⟨_,rfl⟩;dsimp only at I a;obtain⟨rfl,⟨m,Y⟩⟩:=I;cases a;simp only[fv,seval,Y]
def rU(l:Option (D×Row))(d:List D):=dx (dp (bC ah)) (fun x:an=>sJ x) (fun r:Bool =>.clean (.bool r)) l d
def wH:Env:=(Am.ext bd 24 false cR)
def Ja:bN prog wH:=(bN.none.add lx false)
def LX:=ai @w<|ai @kC<|ai @cR.eq_1<|@wH.eq_1
def J2:b6 prog 127 rU:=b6.gO (mode:=.clean) tok Ja mixed func127 (by kernel_rfl) (fun _ _=>rfl) (fun _=>by kernel_rfl) fun c r a=>by
 replace a:sJ c=some r:=a;apply aD rfl ntmps127 results127;simp only[gP];unfold sJ at a;obtain⟨d,b,a⟩:=ae a;cases a;simp only[LX,seval,b]
def fe(l:Option (D×Row))(d:List D):=dx (eZ (iQ ah) (dp (QT 127))) (fun x:(List an)×Unit=>ew x.1) (fun r:Int =>.clean (.int .i64 r)) l d
def ahf{β:Type}{F:(List an)×Unit->Option β}{R:β->RK}(a:(List an)):dx (eZ (iQ ah) (dp (QT 127))) F R none [.sl false false a.length (aq ah a),.fn 127]=(F (a,())).map fun r=>(R r,none):=cF _ _ _ (a,())
def gY:Env:=(Am.ext bd 127 false rU)
def qF:bN prog gY:=(bN.none.add J2 false)
def bZ:=ai @w<|ai @kC<|ai @rU.eq_1<|@gY.eq_1
def qH:b6 prog 102 fe:=b6.gO (mode:=.clean) tok qF mixed func102 (by kernel_rfl) (fun _ _=>rfl) (fun _=>by kernel_rfl) fun⟨h,_⟩ r a=>by
 replace a:ew h=some r:=a;apply aD rfl ntmps102 results102;simp only[gP];unfold ew at a;simp only[bZ,seval];obtain⟨l,i,a⟩:=ae a;refine az (fun s t H e=>match s with|b=>t 0=sF ah h∧t 1=.fn 127∧t 7=sN (h.length:Int)∧t 8=sN b) (fun o x t H e=>match o with|(.inl _)=>x=.exit 0|(.inr r)=>x=.ret∧gF .clean tab none [.tmp 4] ⟨t,EH H,e⟩=some (.clean (.int .i64 r),none)) i ?_ ?_ ?_
 ·refine⟨?_,?_,?_,?_⟩;all_goals (rfl)
 ·rintro b t H e f c a;simp only[eR]at a;simp only[bZ,seval,f];apply sp av a<;>intro _ a
  ·obtain⟨n,j,a⟩:=ae a;have d:=bh ah j;simp only[bK]at d;obtain⟨p,k,a⟩:=ae a;simp only[bZ,seval,f,d,k];apply sp av a<;>intro _ a
   ·cases a;simp only[bZ,seval];refine tf ⟨rfl,?_⟩;simp only[bZ,seval]
   ·cases a;simp only[bZ,seval,f];apply gS;and_intros<;>first|rfl|(simp only[bZ,seval,f]<;>rfl)
  ·cases a;simp only[bZ,seval];apply jf;exact rfl
 ·rintro x t H e g;rcases l with _|q
  ·dsimp only at g a;subst g;cases a;simp only[bZ,seval]
  ·dsimp only at g a;obtain⟨rfl,m⟩:=g;cases a;simp only[aV,bc,cw,cL];exact m
def ey(l:Option (D×Row))(d:List D):=dx (eZ (iQ ah) (dp (QT 127))) (fun x:(List an)×Unit=>cU x.1) (fun r:Bool =>.clean (.bool r)) l d
def gm:Env:=(Am.ext bd 102 false fe)
def oV:bN prog gm:=(bN.none.add qH false)
def pR:=ai @w<|ai @ahf<|ai @fe.eq_1<|@gm.eq_1
def oZ:b6 prog 52 ey:=b6.gO (mode:=.clean) tok oV mixed func52 (by kernel_rfl) (fun _ _=>rfl) (fun _=>by kernel_rfl) fun⟨c,_⟩ r a=>by
 replace a:cU c=some r:=a;apply aD rfl ntmps52 results52;simp only[gP];unfold cU at a;obtain⟨d,b,a⟩:=ae a;cases a;simp only[pR,seval,b]
def iZ(l:Option (D×Row))(d:List D):=dx (dp (bC yR)) (fun x:gK=>pA x) (fun r:Bool =>.clean (.bool r)) l d
def zY:Env:=(Am.ext (Am.ext (Am.ext (Am.ext (Am.ext (Am.ext bd 24 false cR) 52 false ey) 54 false bn) 67 false tl) 81 false dH) 126 false mu)
def Py:bN prog zY:=((((((bN.none.add lx false).add oZ false).add fJ false).add LC false).add ov false).add DZ false)
def bB:=ai @w<|ai @kC<|ai @cR.eq_1<|ai @ahf<|ai @ey.eq_1<|ai @bn.eq_1<|ai @akZ<|ai @tl.eq_1<|ai @LN<|ai @dH.eq_1<|ai @LO<|ai @mu.eq_1<|@zY.eq_1
def yk:b6 prog 73 iZ:=b6.gO (mode:=.clean) tok Py mixed func73 (by kernel_rfl) (fun _ _=>rfl) (fun _=>by kernel_rfl) fun i r a=>by
 replace a:pA i=some r:=a;apply aD rfl ntmps73 results73;simp only[gP];unfold pA at a;obtain⟨Z,K,a⟩:=ae a;simp only[bB,seval,K];obtain⟨P,L,a⟩:=ae a;refine bX 0 (fun s t H e=>match s with|k=>∃g:Nat,t 1=.ptr 1 g 0∧t 14=.bool k∧H 1=rV g 66 [sN i.aC,sF ch i.bf]) (fun s=>s=P) ?_ ?_
 ·rintro k t H e ⟨g,v⟩ rfl;try dsimp only at a
  simp only[bB,seval,v];apply sp av a<;>intro _ a
  ·cases a;simp only[bB,seval]
  ·simp only[bB,seval,v];obtain⟨M,w,a⟩:=ae a;refine az (fun s t H e=>match s with|h=>∃b:Nat,t 1=.ptr 1 b 0∧t 16=sF ch i.bf∧t 17=sN (i.bf.length:Int)∧t 18=sN h∧H 1=rV b 66 [sN i.aC,sF ch i.bf]) (fun o x t H e=>match o with|(.inl _)=>x=.exit 0∧∃l:Nat,t 1=.ptr 1 l 0∧H 1=rV l 66 [sN i.aC,sF ch i.bf]|(.inr r)=>x=.ret∧gF .clean tab none [.tmp 2] ⟨t,EH H,e⟩=some (.clean (.bool r),none)) w ?_ ?_ ?_
   ·refine⟨g,?_⟩;and_intros<;>first|rfl|(simp only[bB,seval,v]<;>rfl)
   ·rintro h t H e ⟨b,p⟩ c a;simp only[qg]at a;simp only[bB,seval,p];apply sp av a<;>intro _ a
    ·obtain⟨j,y,a⟩:=ae a;have q:=bh ch y;simp only[bK]at q;obtain⟨Q,z,a⟩:=ae a;simp only[bB,seval,p,q,z];obtain⟨N,A,a⟩:=ae a;refine bX 0 (fun s t H e=>match s with|m=>∃d:Nat,∃n:Nat,t 1=.ptr 1 d 0∧t 3=sN h∧t 4=.ptr 4 n 0∧t 16=sF ch i.bf∧t 17=sN (i.bf.length:Int)∧t 18=sN h∧t 50=.bool m∧H 1=rV d 66 [sN i.aC,sF ch i.bf]∧H 4=rV n 118 [sN j.dG,sN j.mf,sN j.gN.bF.al,sI j.gN.bF.aa,sN j.gN.bJ.al,sI j.gN.bJ.aa]) (fun s=>s=N) ?_ ?_
     ·rintro m t H e ⟨d,n,f⟩ rfl;try dsimp only at a
      simp only[bB,seval,f];apply sp av a<;>intro _ a
      ·cases a;simp only[bB,seval];refine tf ⟨rfl,?_⟩;simp only[bB,seval]
      ·simp only[bB,seval,f];apply sp HD a<;>intro _ a
       ·obtain⟨R,B,a⟩:=ae a;have u:=bh ch B;simp only[bK]at u;obtain⟨S,C,a⟩:=ae a;simp only[bB,seval,f,u,C];refine bA (by kernel_rfl) ?_;apply sp av a<;>intro _ a
        ·cases a;simp only[bB,seval];refine tf ⟨rfl,?_⟩;simp only[bB,seval]
        ·cases a;simp only[bB,seval,f];apply gS;refine⟨d,?_⟩;and_intros<;>first|rfl|(simp only[bB,seval,f]<;>rfl)
       ·simp only[bB,seval,f];refine bA (by kernel_rfl) ?_;cases a;apply gS;refine⟨d,?_⟩;and_intros<;>first|rfl|(simp only[bB,seval,f]<;>rfl)
     ·clear a;have a:=A;simp only[bB,seval];apply sp aZ a<;>intro _ a
      ·cases a;simp only[bB,seval];rw[ay];refine⟨_,rfl,?_⟩;refine⟨b,e+1,?_⟩;and_intros<;>first|rfl|(simp only[bB,seval,p]<;>rfl)
      ·obtain⟨T,D,a⟩:=ae a;simp only[bB,seval,p,D];apply sp aZ a<;>intro _ a
       ·cases a;simp only[bB,seval];rw[ay];refine⟨_,rfl,?_⟩;refine⟨b,e+1,?_⟩;and_intros<;>first|rfl|(simp only[bB,seval,p]<;>rfl)
       ·obtain⟨U,E,a⟩:=ae a;simp only[bB,seval,E];apply sp aZ a<;>intro _ a
        ·cases a;simp only[bB,seval];rw[ay];refine⟨_,rfl,?_⟩;refine⟨b,e+1,?_⟩;and_intros<;>first|rfl|(simp only[bB,seval,p]<;>rfl)
        ·obtain⟨V,F,a⟩:=ae a;cases a;simp only[bB,seval,F];rw[ay];refine⟨_,rfl,?_⟩;refine⟨b,e+1,?_⟩;and_intros<;>first|rfl|(simp only[bB,seval,p]<;>rfl)
    ·cases a;simp only[bB,seval];apply jf;refine⟨rfl,⟨b,?_,?_⟩⟩;all_goals ((simp only[bB,seval,p]<;>rfl))
   ·rintro x t H e J;rcases M with _|rb
    ·dsimp only at J a;obtain⟨rfl,⟨l,O⟩⟩:=J;obtain⟨W,G,a⟩:=ae a;obtain⟨X,I,a⟩:=ae a;cases a;simp only[bB,seval,O,G,I]
    ·dsimp only at J a;obtain⟨rfl,Y⟩:=J;cases a;simp only[aV,bc,cw,cL];exact Y
 ·clear a;have a:=L;simp only[bB,seval];apply sp aZ a<;>intro _ a
  ·cases a;simp only[bB,seval];rw[ay];refine⟨_,rfl,?_⟩;refine⟨0,?_,?_,?_⟩;all_goals (rfl)
  ·cases a;simp only[bB,seval];rw[ay];refine⟨_,rfl,?_⟩;refine⟨0,?_,?_,?_⟩;all_goals (rfl)
def mi(l:Option (D×Row))(d:List D):=dx (dp (bC ah)) (fun x:an=>lO x) (fun r:Bool =>.clean (.bool r)) l d
def p9:Env:=(Am.ext bd 54 false bn)
def CF:bN prog p9:=(bN.none.add fJ false)
def Eh:=ai @w<|ai @kC<|ai @bn.eq_1<|@p9.eq_1
def CP:b6 prog 128 mi:=b6.gO (mode:=.clean) tok CF mixed func128 (by kernel_rfl) (fun _ _=>rfl) (fun _=>by kernel_rfl) fun c r a=>by
 replace a:lO c=some r:=a;apply aD rfl ntmps128 results128;simp only[gP];unfold lO at a;obtain⟨d,b,a⟩:=ae a;cases a;simp only[Eh,seval,b]
def ee(l:Option (D×Row))(d:List D):=dx (eZ (iQ ah) (dp (QT 128))) (fun x:(List an)×Unit=>du x.1) (fun r:Int =>.clean (.int .i64 r)) l d
def ahg{β:Type}{F:(List an)×Unit->Option β}{R:β->RK}(a:(List an)):dx (eZ (iQ ah) (dp (QT 128))) F R none [.sl false false a.length (aq ah a),.fn 128]=(F (a,())).map fun r=>(R r,none):=cF _ _ _ (a,())
def fO:Env:=(Am.ext bd 128 false mi)
def ot:bN prog fO:=(bN.none.add CP false)
def bE:=ai @w<|ai @kC<|ai @mi.eq_1<|@fO.eq_1
def ow:b6 prog 102 ee:=b6.gO (mode:=.clean) tok ot mixed func102 (by kernel_rfl) (fun _ _=>rfl) (fun _=>by kernel_rfl) fun⟨h,_⟩ r a=>by
 replace a:du h=some r:=a;apply aD rfl ntmps102 results102;simp only[gP];unfold du at a;simp only[bE,seval];obtain⟨l,i,a⟩:=ae a;refine az (fun s t H e=>match s with|b=>t 0=sF ah h∧t 1=.fn 128∧t 7=sN (h.length:Int)∧t 8=sN b) (fun o x t H e=>match o with|(.inl _)=>x=.exit 0|(.inr r)=>x=.ret∧gF .clean tab none [.tmp 4] ⟨t,EH H,e⟩=some (.clean (.int .i64 r),none)) i ?_ ?_ ?_
 ·refine⟨?_,?_,?_,?_⟩;all_goals (rfl)
 ·rintro b t H e f c a;simp only[dV]at a;simp only[bE,seval,f];apply sp av a<;>intro _ a
  ·obtain⟨n,j,a⟩:=ae a;have d:=bh ah j;simp only[bK]at d;obtain⟨p,k,a⟩:=ae a;simp only[bE,seval,f,d,k];apply sp av a<;>intro _ a
   ·cases a;simp only[bE,seval];refine tf ⟨rfl,?_⟩;simp only[bE,seval]
   ·cases a;simp only[bE,seval,f];apply gS;and_intros<;>first|rfl|(simp only[bE,seval,f]<;>rfl)
  ·cases a;simp only[bE,seval];apply jf;exact rfl
 ·rintro x t H e g;rcases l with _|q
  ·dsimp only at g a;subst g;cases a;simp only[bE,seval]
  ·dsimp only at g a;obtain⟨rfl,m⟩:=g;cases a;simp only[aV,bc,cw,cL];exact m
def dA(l:Option (D×Row))(d:List D):=dx (eZ (iQ ah) (dp (QT 128))) (fun x:(List an)×Unit=>cX x.1) (fun r:Bool =>.clean (.bool r)) l d
def fi:Env:=(Am.ext bd 102 false ee)
def mB:bN prog fi:=(bN.none.add ow false)
def nN:=ai @w<|ai @ahg<|ai @ee.eq_1<|@fi.eq_1
def mI:b6 prog 52 dA:=b6.gO (mode:=.clean) tok mB mixed func52 (by kernel_rfl) (fun _ _=>rfl) (fun _=>by kernel_rfl) fun⟨c,_⟩ r a=>by
 replace a:cX c=some r:=a;apply aD rfl ntmps52 results52;simp only[gP];unfold cX at a;obtain⟨d,b,a⟩:=ae a;cases a;simp only[nN,seval,b]
def iM(l:Option (D×Row))(d:List D):=dx (eZ (iQ ah) (dp (aI .i64))) (fun x:(List an)×Int=>ji x.1 x.2) (fun r:Bool =>.clean (.bool r)) l d
def ahh{β:Type}{F:(List an)×Int->Option β}{R:β->RK}(a:(List an))(b:Int):dx (eZ (iQ ah) (dp (aI .i64))) F R none [.sl false false a.length (aq ah a),.int .i64 b]=(F (a,b)).map fun r=>(R r,none):=cF _ _ _ (a,b)
def s4:Env:=(Am.ext bd 52 false dA)
def E8:bN prog s4:=(bN.none.add mI false)
def s8:=ai @w<|ai @ahg<|ai @dA.eq_1<|@s4.eq_1
def xj:b6 prog 74 iM:=b6.gO (mode:=.clean) tok E8 mixed func74 (by kernel_rfl) (fun _ _=>rfl) (fun _=>by kernel_rfl) fun⟨c,d⟩ r a=>by
 replace a:ji c d=some r:=a;apply aD rfl ntmps74 results74;simp only[gP];unfold ji at a;simp only[s8,seval];apply sp gj a<;>intro _ a
 ·obtain⟨e,b,a⟩:=ae a;cases a;simp only[s8,seval,b]
 ·cases a;simp only[s8,seval]
def vx(l:Option (D×Row))(d:List D):=dx (dp (bC yR)) (fun x:gK=>kS x) (fun r:(List Int) =>.clean (.sl false false r.length (aq (eI .i64) r))) l d
def zX:Env:=(Am.zf 18 (3,1,0) (Am.ext (Am.ext (Am.ext bd 24 false cR) 73 false iZ) 126 false mu))
def Px:bN prog zX:=(bN.zf (((bN.none.add lx false).add yk false).add DZ false) 18 (3,1,0))
def bq:=ai @w<|ai @kC<|ai @cR.eq_1<|ai @LO<|ai @iZ.eq_1<|ai @mu.eq_1<|@zX.eq_1
end Go.Proofs.YtobnihfgnbnncaaGreat.Am
