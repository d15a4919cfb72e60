import Derived.Test.YtobnihfgnbnncaaGreatId
set_option linter.unusedSimpArgs false
set_option linter.unusedVariables false
set_option linter.defProp false
noncomputable section
open Go.Proofs.Tryz
namespace Go.Proofs.YtobnihfgnbnncaaGreat.Am
open Go.RowKit Go.Proofs.YtobnihfgnbnncaaGreat.P
set_option maxRecDepth 100000
set_option maxHeartbeats 4000000
def AX:bl.size=3:=an3
def vE:jr dR:=Bk (nQ (fL bl) (nQ (fL dX) (fL (fL ak)))) (fun x=>(x.aq,x.aG,x.aO)) (by rintro⟨⟩ ⟨⟩ h;simpa using h)
def CC (x:dR):vE.cells x=[.sl false false x.aq.length (an bl x.aq),.sl false false x.aG.length (an dX x.aG),.sl false false x.aO.length (an (fL ak) x.aO)]:=an3
def LY (x:dR):dR.mk x.aq x.aG x.aO=x:=an3
def b7:jr bo:=Bk (nQ vE (nQ (fL hZ) (fL (eI .i64)))) (fun x=>(x.av,x.bC,x.aC)) (by rintro⟨⟩ ⟨⟩ h;simpa using h)
def CF (x:bo):b7.cells x=[.sl false false x.av.aq.length (an bl x.av.aq),.sl false false x.av.aG.length (an dX x.av.aG),.sl false false x.av.aO.length (an (fL ak) x.av.aO),.sl false false x.bC.length (an hZ x.bC),.sl false false x.aC.length (an (eI .i64) x.aC)]:=an3
def Fe:b7.size=5:=an3
def L0 (x:bo):bo.mk x.av x.bC x.aC=x:=an3
def oh:jr bf:=Bk (nQ (fL (eI .i64)) (fL b7)) (fun x=>(x.aw,x.au)) (by rintro⟨⟩ ⟨⟩ h;simpa using h)
def AY (x:bf):oh.cells x=[.sl false false x.aw.length (an (eI .i64) x.aw),.sl false false x.au.length (an b7 x.au)]:=an3
def HI (x:bf):bf.mk x.aw x.au=x:=an3
def cD:jr cN:=Bk (nQ (eI .i64) (nQ (eI .i64) ak)) (fun x=>(x.dA,x.lH,x.gE)) (by rintro⟨⟩ ⟨⟩ h;simpa using h)
def th (x:cN):cD.cells x=[.int .i64 x.dA,.int .i64 x.lH,.int .i64 x.gE.bn.al,.sl false false x.gE.bn.aa.length (an (eI .i64) x.gE.bn.aa),.int .i64 x.gE.bu.al,.sl false false x.gE.bu.aa.length (an (eI .i64) x.gE.bu.aa)]:=an3
def y3:cD.size=6:=an3
def L1 (x:cN):cN.mk x.dA x.lH x.gE=x:=an3
def CG:jr ik:=Bk (nQ (eI .i64) (fL cD)) (fun x=>(x.aC,x.bq)) (by rintro⟨⟩ ⟨⟩ h;simpa using h)
def Ff (x:ik):CG.cells x=[.int .i64 x.aC,.sl false false x.bq.length (an cD x.bq)]:=an3
def Q5 (x:ik):ik.mk x.aC x.bq=x:=an3
def cr:jr gi:=Bk (nQ (eI .i64) ak) (fun x=>(x.qP,x.jz)) (by rintro⟨⟩ ⟨⟩ h;simpa using h)
def CH (x:gi):cr.cells x=[.int .i64 x.qP,.int .i64 x.jz.bn.al,.sl false false x.jz.bn.aa.length (an (eI .i64) x.jz.bn.aa),.int .i64 x.jz.bu.al,.sl false false x.jz.bu.aa.length (an (eI .i64) x.jz.bu.aa)]:=an3
def y4:cr.size=5:=an3
def L2 (x:gi):gi.mk x.qP x.jz=x:=an3
def tV:jr aL:=Bk (nQ ak (fL cr)) (fun x=>(x.bT,x.cO)) (by rintro⟨⟩ ⟨⟩ h;simpa using h)
def DI (x:aL):tV.cells x=[.int .i64 x.bT.bn.al,.sl false false x.bT.bn.aa.length (an (eI .i64) x.bT.bn.aa),.int .i64 x.bT.bu.al,.sl false false x.bT.bu.aa.length (an (eI .i64) x.bT.bu.aa),.sl false false x.cO.length (an cr x.cO)]:=an3
def bc:jr aL:=Bk (nQ ak (QS cr)) (fun x=>(x.bT,x.cO)) (by rintro⟨⟩ ⟨⟩ h;simpa using h)
def fi (x:aL):bc.cells x=[.int .i64 x.bT.bn.al,.sl false false x.bT.bn.aa.length (an (eI .i64) x.bT.bn.aa),.int .i64 x.bT.bu.al,.sl false false x.bT.bu.aa.length (an (eI .i64) x.bT.bu.aa),.nx (x.cO).length (an cr (x.cO))]:=an3
def wx:bc.size=5:=an3
def Hu (x:aL):(bc.cells x).map V4=tV.cells x:=an3
def Ht (x:aL):(bc.cells x).all (BQ 5)=true:=by simp[fi,BQ,gN,bS,y4]
def bY:jr (Bool×aL):=aiO tV bc rfl (by intro x y h;simp[DI,fi]at h)
def AZ (x:aL):bY.cells (true,x)=[.int .i64 x.bT.bn.al,.sl false false x.bT.bn.aa.length (an (eI .i64) x.bT.bn.aa),.int .i64 x.bT.bu.al,.sl false false x.bT.bu.aa.length (an (eI .i64) x.bT.bu.aa),.sl false false x.cO.length (an cr x.cO)]:=an3
def pN (x:aL):bY.cells (false,x)=bc.cells x:=an3
def Hs (x:aL):bY.cells (true,x)=tV.cells x:=an3
def qK:bY.size=5:=an3
def A0 (x:aL):aL.mk x.bT x.cO=x:=an3
def aQ:jr aY:=Bk (nQ (eI .i64) ak) (fun x=>(x.aB,x.cJ)) (by rintro⟨⟩ ⟨⟩ h;simpa using h)
def AW (x:aY):aQ.cells x=[.int .i64 x.aB,.int .i64 x.cJ.bn.al,.sl false false x.cJ.bn.aa.length (an (eI .i64) x.cJ.bn.aa),.int .i64 x.cJ.bu.al,.sl false false x.cJ.bu.aa.length (an (eI .i64) x.cJ.bu.aa)]:=an3
def CE:aQ.size=5:=an3
def agD {l:List _} : (an (eI .i64) l).length=l.length*1:=bS _ l
def VV {l:List _} : (an (eI .i64) l).take (l.length*1)=an (eI .i64) l:=by
 have:=ku (eI .i64) l l.length;rw[ano]at this;exact this
def aej {l:List _} {i:Nat} {x:_} : (an (eI .i64) (l.set i x)).take (l.length*1)=an (eI .i64) (l.set i x):=by
 have:=@VV (l.set i x)
 rwa [anm]at this
def agE {l:List _} : (an (fL ak) l).length=l.length*1:=bS _ l
def aef {l:List _} : (an (fL ak) l).take (l.length*1)=an (fL ak) l:=by
 have:=ku (fL ak) l l.length;rw[ano]at this;exact this
def agF {l:List _} : (an ak l).length=l.length*4:=bS _ l
def aeg {l:List _} : (an ak l).take (l.length*4)=an ak l:=by
 have:=ku ak l l.length;rw[ano]at this;exact this
def agG {l:List _} : (an aQ l).length=l.length*5:=bS _ l
def aeh {l:List _} : (an aQ l).take (l.length*5)=an aQ l:=by
 have:=ku aQ l l.length;rw[ano]at this;exact this
def agH {l:List _} : (an b7 l).length=l.length*5:=bS _ l
def agI {l:List _} : (an dX l).length=l.length*4:=bS _ l
def agJ {l:List _} : (an bl l).length=l.length*3:=bS _ l
def agK {l:List _} : (an cD l).length=l.length*6:=bS _ l
def aei {l:List _} : (an cD l).take (l.length*6)=an cD l:=by
 have:=ku cD l l.length;rw[ano]at this;exact this
def ac2 {l:List _} : (an hZ l).length=l.length*2:=bS _ l
def ac3 {l:List _} : (an bY l).length=l.length*5:=bS _ l
def ac4 {l:List _} : (an bc l).length=l.length*5:=bS _ l
def ac5 {l:List _} : (an cr l).length=l.length*5:=bS _ l
def YF {l:List _} : (an cr l).take (l.length*5)=an cr l:=by
 have:=ku cr l l.length;rw[ano]at this;exact this
def vme:=ai @CA<|ai @DH<|ai @W8<|ai @QT<|ai @CJ<|ai @Af<|ai @CB<|ai @fi<|ai @wx<|ai @AZ<|ai @qK<|ai @Fb<|ai @CD<|ai @Fc<|ai @Fg<|ai @Hq<|ai @Fh<|ai @Hr<|ai @yZ<|ai @AX<|ai @CC<|ai @CF<|ai @Fe<|ai @AY<|ai @th<|ai @y3<|ai @Ff<|ai @CH<|ai @y4<|ai @AW<|@CE
def vml:=ai @ch<|ai @Q4<|ai @LZ<|ai @Q6<|ai @LY<|ai @L0<|ai @HI<|ai @L1<|ai @Q5<|ai @L2<|ai @A0<|ai @agD<|ai @VV<|ai @aej<|ai @agE<|ai @aef<|ai @agF<|ai @aeg<|ai @agG<|ai @aeh<|ai @agH<|ai @agI<|ai @agJ<|ai @agK<|ai @aei<|ai @ac2<|ai @ac3<|ai @ac4<|ai @ac5<|@YF
def Wg:YP tab ⟨.map 116 41,1,8,[.map none],false⟩ true (.agg [.int .i64 0,.sl false false 0 [],.int .i64 0,.sl false false 0 []]):=⟨_,_,rfl,rfl,rfl,rfl⟩
def adb {h:Nat->Option Row} {m:D} {n a:Int} {b:Bool} : jE tab ⟨.map 116 41,1,8,[.map none],false⟩ h m (.agg [.int .i64 n,.int .i64 a]) b=lkE true b (.agg [.int .i64 0,.sl false false 0 [],.int .i64 0,.sl false false 0 []]) (n,some a) (mapOf h m):=ahA Wg rfl
def adq {h:Nat->Option Row} {y v:Nat} {n a:Int} {x:D} : eZ tab ⟨.map 116 41,1,8,[.map none],false⟩ h (.mp y v) (.agg [.int .i64 n,.int .i64 a]) x=muE true h y v (n,some a) (AN h x):=ahF Wg rfl
def adl {a e d:Nat} (b:a<900000):ado tab (some ⟨.map 116 41,1,8,[.map none],false⟩) a e d=some ⟨.mp d e,[(d,some ⟨e,a,[.mpc [] []],false,true,true⟩)]⟩:=afx Wg b
def XJ {m:List ((Int×Int)×ah)} {n a:Int} : vf (.agg [.int .i64 0,.sl false false 0 [],.int .i64 0,.sl false false 0 []]) (fQ m) (iJ (bW ak) m) (n,some a)=.agg [.int .i64 (((gO (ah.mk (aH.mk 0 ([])) (aH.mk 0 ([]))) m (n,a)).bn).al),.sl false false (((gO (ah.mk (aH.mk 0 ([])) (aH.mk 0 ([]))) m (n,a)).bn).aa).length (an (eI .i64) (((gO (ah.mk (aH.mk 0 ([])) (aH.mk 0 ([]))) m (n,a)).bn).aa)),.int .i64 (((gO (ah.mk (aH.mk 0 ([])) (aH.mk 0 ([]))) m (n,a)).bu).al),.sl false false (((gO (ah.mk (aH.mk 0 ([])) (aH.mk 0 ([]))) m (n,a)).bu).aa).length (an (eI .i64) (((gO (ah.mk (aH.mk 0 ([])) (aH.mk 0 ([]))) m (n,a)).bu).aa))]:=Mo (A:=(bW ak)) (ah.mk (aH.mk 0 ([])) (aH.mk 0 ([]))) (n,a) m
def YK {m:List ((Int×Int)×ah)} {n a:Int} {d:Int} {b:(List Int)} {e:Int} {c:(List Int)} : D.mpc (BX (fQ m) (n,some a)) (Gb (fQ m) (iJ (bW ak) m) (n,some a) (.agg [.int .i64 d,.sl false false b.length (an (eI .i64) b),.int .i64 e,.sl false false c.length (an (eI .i64) c)]))=.mpc (fQ (uC m (n,a) (ah.mk (aH.mk d b) (aH.mk e c)))) (iJ (bW ak) (uC m (n,a) (ah.mk (aH.mk d b) (aH.mk e c)))):=by
 rw[<- S6 (n,a) (ah.mk (aH.mk d b) (aH.mk e c)) m,<- S8 (n,a) (ah.mk (aH.mk d b) (aH.mk e c)) m];rfl
def adi {e d:Nat} (a:d<1000000):mkA ⟨.struct [(3,0),(64,1)],2,32,[.int .i64 0,.slice none 0 0],false⟩ 66 e d 118 6 1=some ⟨.ptr d e 0,[(d,some ⟨e,66,[.nr 118 6 (4*e+2) [.int .i64 0,.nx 0 []]],false,false,true⟩)]⟩:=by
 unfold mkA;rw[if_pos ⟨by decide,rfl,rfl,by rw[gh];exact a,rfl⟩];rfl
def vmm:=ai @adb<|ai @adq<|ai @adl<|ai @XJ<|ai @YK<|@vi
def w:=ai @v<|ai @vmt<|ai @vme<|ai @vml<|ai @vab<|ai @vn<|ai @adi<|@vmm
def bG:=ai @vme<|ai @am7<|ai @amU<|ai @amv<|ai @am9<|@am3
def gJ (l:Option (D×Row)) (d:List D):=ej (dM (jX (eI .i64))) (fun x:(List Int)=>fO x) (fun r:(List Int) =>.clean (.sl false false r.length (an (eI .i64) r))) l d
def sh0 {β:Type} {F:(List Int)->Option β} {R:β->RK} (a:(List Int)):ej (dM (jX (eI .i64))) F R none [.sl false false a.length (an (eI .i64) a)]=(F (a)).map fun r=>(R r,none):=cF _ _ _ (a)
def sf:ck prog 155 gJ:=ck.iZ (mode := .clean) tok bV.none mixed func155 (by kernel_rfl) (fun _ _=>rfl) (fun _=>by kernel_rfl) fun i r a=>by
 replace a:fO i=some r:=a;apply aJ rfl ntmps155 results155;simp only[ja];unfold fO at a;simp only[w,seval];obtain⟨v,j,a⟩:=ae a;refine az (fun s t H e=>match s with|f=>t 0=sI i∧t 3=sN f) (fun o x t H e=>match o with|b=>x=.exit 0∧t 0=sI i∧t 3=sN b) j ?_ ?_ ?_
 ·refine⟨?_,?_⟩;all_goals (rfl)
 ·rintro f t H e d c a;simp only[rM]at a;simp only[w,seval,d];apply sp gB a<;>intro _ a
  ·obtain⟨A,k,a⟩:=ae a;have g:=bz (eI .i64) k;simp only[bG]at g;simp only[w,seval,d,g];apply sp ax a<;>intro _ a
   ·cases a;simp only[w,seval,d];apply iD;and_intros<;>first|rfl|(simp only[w,seval,d]<;>rfl)
   ·cases a;simp only[w,seval];apply kf;refine⟨rfl,⟨?_,?_⟩⟩;all_goals ((simp only[w,seval,d]<;>rfl))
  ·cases a;simp only[w,seval];apply kf;refine⟨rfl,⟨?_,?_⟩⟩;all_goals ((simp only[w,seval,d]<;>rfl))
 ·rintro x t H e u;obtain⟨b,rfl⟩:∃z,z=v:=⟨_,rfl⟩;dsimp only at u a;obtain⟨rfl,l⟩:=u;obtain⟨B,m,a⟩:=ae a;obtain⟨n,y,p,q,h⟩:=VI (eI .i64) m;simp only[bG]at h;cases a;simp only[w,seval,l,n,p,q,h]
def wS:=mkE 3 (eI .i64) (as0) (fun (l:(List Int)) (x:Unit)=>fO l)
def O2 (b a:List D) (c:(List Int)):wS (some (.buf 0 0 1 b.length c.length,⟨0,3,b++(an (eI .i64) c++a),false,true,false⟩)) []=(fO c).map fun r=>(.fresh 3 1 r.length (an (eI .i64) r),none):=Vl _ _ _ _ b a c ()
def OE (b a:List D) (i:(List Int)) (r:(List Int)) (d:fO i=some r):jx (.fresh 3 1) tab bk FU Tryz.f155 (some (.buf 0 0 1 b.length i.length,⟨0,3,b++(an (eI .i64) i++a),false,true,false⟩)) []=some (.fresh 3 1 r.length (an (eI .i64) r),none):=by
 apply xR rfl ntmps155 results155;unfold fO at d;simp only[w,seval];obtain⟨F,q,d⟩:=ae d;refine az (fun s t H e=>match s with|k=>∃f:Nat,t 0=.buf 0 f 1 b.length (i).length∧t 3=sN k∧H 0=rW f 3 (b++(an (eI .i64) i++a))) (fun o x t H e=>match o with|h=>x=.exit 0∧∃g:Nat,t 0=.buf 0 g 1 b.length (i).length∧t 3=sN h∧H 0=rW g 3 (b++(an (eI .i64) i++a))) q ?_ ?_ ?_
 ·refine⟨0,?_,?_,?_⟩;all_goals (rfl)
 ·rintro k t H e ⟨f,j⟩ c d;simp only[rM]at d;simp only[w,seval,j];apply sp gB d<;>intro _ d
  ·obtain⟨I,u,d⟩:=ae d;have l:=zn (pre:=b) (post:=a) (eI .i64) u;simp only[bG]at l;simp only[w,seval,j,l];apply sp ax d<;>intro _ d
   ·cases d;simp only[w,seval,j];apply iD;refine⟨f,?_⟩;and_intros<;>first|rfl|(simp only[w,seval,j]<;>rfl)
   ·cases d;simp only[w,seval];apply kf;refine⟨rfl,⟨f,?_,?_,?_⟩⟩;all_goals ((simp only[w,seval,j]<;>rfl))
  ·cases d;simp only[w,seval];apply kf;refine⟨rfl,⟨f,?_,?_,?_⟩⟩;all_goals ((simp only[w,seval,j]<;>rfl))
 ·rintro x t H e E;obtain⟨h,rfl⟩:∃z,z=F:=⟨_,rfl⟩;dsimp only at E d;obtain⟨rfl,⟨g,v⟩⟩:=E;obtain⟨J,m,d⟩:=ae d;obtain⟨y,G,A,B,C⟩:=VI (eI .i64) m;simp only[bG]at C;obtain⟨n,p⟩:=afX (pre:=b) (post:=a) (eI .i64) m;simp only[bG]at n p;cases d;simp only[w,seval,v,y,A,n,p,B]
def Km:ck prog 155 wS:=ck.agL tok bV.none mixed func155 (by kernel_rfl) ⟨by kernel_rfl,by kernel_rfl⟩ (fun _=>amV (by kernel_rfl)) (fun b a l x r h=>OE b a l r h)
def cU (l:Option (D×Row)) (d:List D):=ej (gj (aI .i64) (dM (jX (eI .i64)))) (fun x:Int×(List Int)=>eE x.1 x.2) (fun r:aH =>.clean (.agg [.int .i64 r.al,.sl false false r.aa.length (an (eI .i64) r.aa)])) l d
def sh1 {β:Type} {F:Int×(List Int)->Option β} {R:β->RK} (b:Int) (a:(List Int)):ej (gj (aI .i64) (dM (jX (eI .i64)))) F R none [.int .i64 b,.sl false false a.length (an (eI .i64) a)]=(F (b,a)).map fun r=>(R r,none):=cF _ _ _ (b,a)
def xn:Env:=(Am.ext bk 155 false gJ)
def J8:bV prog xn:=(bV.none.add sf false)
def xT:=ai @w<|ai @sh0<|ai @gJ.eq_1<|@xn.eq_1
def lA:ck prog 113 cU:=ck.iZ (mode := .clean) tok J8 mixed func113 (by kernel_rfl) (fun _ _=>rfl) (fun _=>by kernel_rfl) fun⟨c,d⟩ r a=>by
 replace a:eE c d=some r:=a;apply aJ rfl ntmps113 results113;simp only[ja];unfold eE at a;obtain⟨e,b,a⟩:=ae a;simp only[xT,seval,b];apply sp ax a<;>intro _ a
 ·cases a;simp only[xT,seval]
 ·cases a;simp only[xT,seval]
def tK (l:Option (D×Row)) (d:List D):=ej (dM (aI .i64)) (fun x:Int=>xb x) (fun r:aH =>.clean (.agg [.int .i64 r.al,.sl false false r.aa.length (an (eI .i64) r.aa)])) l d
def FH {β:Type} {F:Int->Option β} {R:β->RK} (a:Int):ej (dM (aI .i64)) F R none [.int .i64 a]=(F (a)).map fun r=>(R r,none):=cF _ _ _ (a)
def HP:Env:=(Am.ext bk 113 false cU)
def ZH:bV prog HP:=(bV.none.add lA false)
def lq:=ai @w<|ai @sh1<|ai @cU.eq_1<|@HP.eq_1
def MJ:ck prog 61 tK:=ck.iZ (mode := .clean) tok ZH mixed func61 (by kernel_rfl) (fun _ _=>rfl) (fun _=>by kernel_rfl) fun I r a=>by
 replace a:xb I=some r:=a;apply aJ rfl ntmps61 results61;simp only[ja];unfold xb at a;simp only[lq,seval,-Int.reduceToNat];obtain⟨J,A,a⟩:=ae a;refine qn 0 (fun s t H e=>match s with|(b,k)=>∃d:Nat,t 2=.ptr 2 d 0∧t 3=sN b∧t 4=.int .u64 k∧H 2=rV d 39 [sN 0,.sl true true 0 []]) (fun s=>s=J) ?_ ?_
 ·rintro⟨b,k⟩ t H e ⟨d,B⟩ rfl;try dsimp only at a
  simp only[lq,seval,-Int.reduceToNat];obtain⟨K,C,a⟩:=ae a;refine az (fun s t H e=>match s with|(n,m)=>∃f:Nat,∃j:Nat,t 2=.ptr 2 f 0∧t 3=sN b∧t 4=.int .u64 n∧t 5=.buf 5 j 1 0 (m).length∧H 2=rV f 39 [sN 0,.sl true true 0 []]∧H 5=rW j 3 (an (eI .i64) m)) (fun o x t H e=>match o with|g=>x=.exit 0∧∃h:Nat,∃i:Nat,t 2=.ptr 2 h 0∧t 3=sN b∧t 5=.buf 5 i 1 0 (g).length∧H 2=rV h 39 [sN 0,.sl true true 0 []]∧H 5=rW i 3 (an (eI .i64) g)) C ?_ ?_ ?_
  ·refine⟨d,e,?_⟩;and_intros<;>first|rfl|(simp only[lq,seval,-Int.reduceToNat,B]<;>rfl)
  ·rintro⟨n,m⟩ t H e ⟨f,j,y⟩ c a;simp only[Aa]at a;simp only[lq,seval,-Int.reduceToNat,y];apply sp ax a<;>intro _ a
   ·obtain⟨N,D,a⟩:=ae a;obtain⟨p,l,q,u⟩:=js (eI .i64) D;simp only[bG]at l;obtain⟨L,v,a⟩:=ae a;have E:=xM v;cases a;simp only[lq,seval,-Int.reduceToNat,y,p,l,q,u,E];apply iD;refine⟨f,e+1,?_⟩;and_intros<;>first|rfl|(simp only[lq,seval,-Int.reduceToNat,y]<;>rfl)
   ·cases a;simp only[lq,seval,-Int.reduceToNat];apply kf;refine⟨rfl,⟨f,j,?_,?_,?_,?_,?_⟩⟩;all_goals ((simp only[lq,seval,-Int.reduceToNat,y]<;>rfl))
  ·rintro x t H e G;obtain⟨g,rfl⟩:∃z,z=K:=⟨_,rfl⟩;dsimp only at G a;obtain⟨rfl,⟨h,i,F⟩⟩:=G;obtain⟨M,w,a⟩:=ae a;cases a;simp only[lq,seval,-Int.reduceToNat,F,w]
 ·clear a;have a:=A;simp only[lq,seval,-Int.reduceToNat];apply sp ax a<;>intro _ a
  ·cases a;simp only[lq,seval,-Int.reduceToNat];rw[aF];refine⟨_,rfl,?_⟩;refine⟨0,?_,?_,?_,?_⟩;all_goals (rfl)
  ·cases a;simp only[lq,seval,-Int.reduceToNat];rw[aF];refine⟨_,rfl,?_⟩;refine⟨0,?_,?_,?_,?_⟩;all_goals (rfl)
def bZ (l:Option (D×Row)) (d:List D):=ej (dM (bW je)) (fun x:aH=>dZ x) (fun r:Bool =>.clean (.bool r)) l d
def FI {β:Type} {F:aH->Option β} {R:β->RK} (b:Int) (a:(List Int)):ej (dM (bW je)) F R none [.agg [.int .i64 b,.sl false false a.length (an (eI .i64) a)]]=(F ((aH.mk b a))).map fun r=>(R r,none):=cF _ _ _ ((aH.mk b a))
def iK:ck prog 103 bZ:=ck.iZ (mode := .clean) tok bV.none mixed func103 (by kernel_rfl) (fun _ _=>rfl) (fun _=>by kernel_rfl) fun g r a=>by
 replace a:dZ g=some r:=a;apply aJ rfl ntmps103 results103;simp only[ja];unfold dZ at a;simp only[w,seval];obtain⟨v,q,a⟩:=ae a;refine az (fun s t H e=>match s with|h=>∃d:Nat,t 1=.ptr 1 d 0∧t 3=sN (g.aa.length:Int)∧t 10=sI g.aa∧t 11=sN (g.aa.length:Int)∧t 12=sN h∧H 1=rV d 39 [sN g.al,sI g.aa]) (fun o x t H e=>match o with|(.inl _)=>x=.exit 0∧∃f:Nat,t 1=.ptr 1 f 0∧t 3=sN (g.aa.length:Int)∧H 1=rV f 39 [sN g.al,sI g.aa]|(.inr r)=>x=.ret∧gG .clean tab none [.tmp 2] ⟨t,EH H,e⟩=some (.clean (.bool r),none)) q ?_ ?_ ?_
 ·refine⟨0,?_,?_,?_,?_,?_,?_⟩;all_goals (rfl)
 ·rintro h t H e ⟨d,k⟩ c a;simp only[s9]at a;simp only[w,seval,k];apply sp ax a<;>intro _ a
  ·obtain⟨B,u,a⟩:=ae a;have l:=bz (eI .i64) u;simp only[bG]at l;simp only[w,seval,k,l];apply sp bQ a<;>intro _ a
   ·cases a;simp only[w,seval];refine uq ⟨rfl,?_⟩;simp only[w,seval]
   ·simp only[w,seval];apply sp ax a<;>intro _ a
    ·cases a;simp only[w,seval];refine uq ⟨rfl,?_⟩;simp only[w,seval]
    ·cases a;simp only[w,seval,k];apply iD;refine⟨d,?_⟩;and_intros<;>first|rfl|(simp only[w,seval,k]<;>rfl)
  ·cases a;simp only[w,seval];apply kf;refine⟨rfl,⟨d,?_,?_,?_⟩⟩;all_goals ((simp only[w,seval,k]<;>rfl))
 ·rintro x t H e p;rcases v with _|C
  ·dsimp only at p a;obtain⟨rfl,⟨f,b⟩⟩:=p;simp only[w,seval,b];apply sp ax a<;>intro _ a
   ·cases a;simp only[w,seval,b]
   ·simp only[w,seval,b];apply sp bQ a<;>intro _ a
    ·obtain⟨y,m,a⟩:=ae a;have i:=bz (eI .i64) m;simp only[bG]at i;cases a;simp only[w,seval,b,i]
    ·simp only[w,seval,b];apply sp gB a<;>intro _ a
     ·obtain⟨z,n,a⟩:=ae a;have j:=bz (eI .i64) n;simp only[bG]at j;cases a;simp only[w,seval,b,j]
     ·cases a;simp only[w,seval]
  ·dsimp only at p a;obtain⟨rfl,A⟩:=p;cases a;simp only[bd,bj,cL,cR];exact A
def AB (r:(List Int)) (a:cA []=some r):jx (.fresh 3 1) tab bk FU Tryz.f55 none [.sl true true 0 []]=some (.fresh 3 1 r.length (an (eI .i64) r),none):=by
 unfold cA at a;obtain⟨b,c,d⟩:=s7 a;subst b;apply aJ rfl ntmps55 results55;simp only[w,seval,anu]
def AD (r:(List Int)) (a:cA []=some r):jx (.fresh 3 1) tab bk FU Tryz.f55 none [.sl true false 0 []]=some (.fresh 3 1 r.length (an (eI .i64) r),none):=by
 unfold cA at a;obtain⟨b,c,d⟩:=s7 a;subst b;apply aJ rfl ntmps55 results55;simp only[w,seval,anu]
def AE (a r:(List Int)) (c:0<a.length) (b:cA a=some r):jx (.fresh 3 1) tab bk FU Tryz.f55 none [.sl false false a.length (an (eI .i64) a)]=some (.fresh 3 1 r.length (an (eI .i64) r),none):=by
 unfold cA at b;have g:¬a.length=0:=by omega
 obtain⟨d,e,f⟩:=s7 b;subst d;apply aJ rfl ntmps55 results55;simp only[w,seval,c,e,f]
def gw:=ej (dM (jX (eI .i64))) (fun x:(List Int)=>cA x) (fun r:(List Int) =>.fresh 3 1 r.length (an (eI .i64) r))
def dU (a:(List Int)):gw none [.sl false false a.length (an (eI .i64) a)]=(cA a).map fun r:(List Int)=>(.fresh 3 1 r.length (an (eI .i64) r),none):=cF _ _ _ a
def jj:ck prog 55 gw:=ck.ac8 (mode:=(.fresh 3 1)) tok bV.none mixed func55 (by kernel_rfl) ⟨by kernel_rfl,by kernel_rfl⟩ (amV (by kernel_rfl)) AB AD AE
def iT (l:Option (D×Row)) (d:List D):=ej (dM (bW je)) (fun x:aH=>mB x) (fun r:aH =>.clean (.agg [.int .i64 r.al,.sl false false r.aa.length (an (eI .i64) r.aa)])) l d
def DT:Env:=(Am.ext (Am.ext (Am.ext bk 55 false gw) 103 false bZ) 113 false cU)
def U4:bV prog DT:=(((bV.none.add jj false).add iK false).add lA false)
def EM:=ai @w<|ai @dU<|ai @FI<|ai @bZ.eq_1<|ai @sh1<|ai @cU.eq_1<|@DT.eq_1
def xC:ck prog 71 iT:=ck.iZ (mode := .clean) tok U4 mixed func71 (by kernel_rfl) (fun _ _=>rfl) (fun _=>by kernel_rfl) fun e r a=>by
 replace a:mB e=some r:=a;apply aJ rfl ntmps71 results71;simp only[ja];unfold mB at a;obtain⟨f,b,a⟩:=ae a;simp only[EM,seval,b];apply sp ax a<;>intro _ a
 ·cases a;simp only[EM,seval]
 ·obtain⟨g,c,a⟩:=ae a;obtain⟨h,d,a⟩:=ae a;simp only[EM,seval,c,d];refine bP (by kernel_rfl) ?_;cases a;simp only[seval]
def nL (l:Option (D×Row)) (d:List D):=ej (gj agm (dM (bW je))) (fun x:Bool×aH=>fN x.1 x.2) (fun r:aH×Int =>.clean (.tup [.agg [.int .i64 r.1.al,.sl false false r.1.aa.length (an (eI .i64) r.1.aa)],.int .i64 r.2])) l d
def uu:ck prog 114 nL:=ck.iZ (mode := .clean) tok bV.none mixed func114 (by kernel_rfl) (fun _ _=>rfl) (fun _=>by kernel_rfl) fun⟨b,c⟩ r a=>by
 replace a:fN b c=some r:=a;apply aJ rfl ntmps114 results114;simp only[ja];unfold fN at a;simp only[w,seval];apply sp ax a<;>intro _ a
 ·cases a;simp only[w,seval]
 ·cases a;simp only[w,seval]
def uS (l:Option (D×Row)) (d:List D):=ej (dM (aI .i64)) (fun x:Int=>tE x) (fun r:Bool =>.clean (.bool r)) l d
def ON:ck prog 153 uS:=ck.iZ (mode := .clean) tok bV.none mixed func153 (by kernel_rfl) (fun _ _=>rfl) (fun _=>by kernel_rfl) fun b r a=>by
 replace a:tE b=some r:=a;apply aJ rfl ntmps153 results153;simp only[ja];unfold tE at a;cases a;simp only[w,seval]
def eA (l:Option (D×Row)) (d:List D):=ej (gj (aI .i64) (dM (aI .i64))) (fun x:Int×Int=>gZ x.1 x.2) (fun r:Int =>.clean (.int .i64 r)) l d
def M8 {β:Type} {F:Int×Int->Option β} {R:β->RK} (a:Int) (b:Int):ej (gj (aI .i64) (dM (aI .i64))) F R none [.int .i64 a,.int .i64 b]=(F (a,b)).map fun r=>(R r,none):=cF _ _ _ (a,b)
def vN:Env:=(Am.ext bk 153 false uS)
def HX:bV prog vN:=(bV.none.add ON false)
def fD:=ai @w<|ai @FH<|ai @uS.eq_1<|@vN.eq_1
def p6:ck prog 110 eA:=ck.iZ (mode := .clean) tok HX mixed func110 (by kernel_rfl) (fun _ _=>rfl) (fun _=>by kernel_rfl) fun⟨d,e⟩ r a=>by
 replace a:gZ d e=some r:=a;apply aJ rfl ntmps110 results110;simp only[ja];unfold gZ at a;obtain⟨f,b,a⟩:=ae a;obtain⟨g,c,a⟩:=ae a;simp only[fD,seval,b,c];apply sp ax a<;>intro _ a
 ·simp only[fD,seval];apply sp ax a<;>intro _ a
  ·cases a;simp only[fD,seval]
  ·cases a;simp only[fD,seval]
 ·simp only[fD,seval];apply sp ax a<;>intro _ a
  ·cases a;simp only[fD,seval]
  ·simp only[fD,seval];apply sp ax a<;>intro _ a
   ·cases a;simp only[fD,seval]
   ·simp only[fD,seval];apply sp ax a<;>intro _ a
    ·cases a;simp only[fD,seval]
    ·cases a;simp only[fD,seval]
def gm (l:Option (D×Row)) (d:List D):=ej (gj (jX (eI .i64)) (dM (jX (eI .i64)))) (fun x:(List Int)×(List Int)=>iN x.1 x.2) (fun r:Int =>.clean (.int .i64 r)) l d
def Yf {β:Type} {F:(List Int)×(List Int)->Option β} {R:β->RK} (a:(List Int)) (b:(List Int)):ej (gj (jX (eI .i64)) (dM (jX (eI .i64)))) F R none [.sl false false a.length (an (eI .i64) a),.sl false false b.length (an (eI .i64) b)]=(F (a,b)).map fun r=>(R r,none):=cF _ _ _ (a,b)
def vJ:Env:=(Am.ext bk 110 false eA)
def HT:bV prog vJ:=(bV.none.add p6 false)
def fC:=ai @w<|ai @M8<|ai @eA.eq_1<|@vJ.eq_1
def uv:ck prog 111 gm:=ck.iZ (mode := .clean) tok HT mixed func111 (by kernel_rfl) (fun _ _=>rfl) (fun _=>by kernel_rfl) fun⟨n,p⟩ r a=>by
 replace a:iN n p=some r:=a;apply aJ rfl ntmps111 results111;simp only[ja];unfold iN at a;simp only[fC,seval];apply sp ax a<;>intro _ a
 ·obtain⟨z,l,a⟩:=ae a;cases a;simp only[fC,seval,l]
 ·simp only[fC,seval];obtain⟨q,m,a⟩:=ae a;refine az (fun s t H e=>match s with|h=>t 0=sI n∧t 1=sI p∧t 5=sN h) (fun o x t H e=>match o with|(.inl _)=>x=.exit 0|(.inr r)=>x=.ret∧gG .clean tab none [.tmp 4] ⟨t,EH H,e⟩=some (.clean (.int .i64 r),none)) m ?_ ?_ ?_
  ·refine⟨?_,?_,?_⟩;all_goals (rfl)
  ·rintro h t H e i c a;simp only[pK]at a;simp only[fC,seval,i];apply sp ax a<;>intro _ a
   ·obtain⟨u,f,a⟩:=ae a;have b:=bz (eI .i64) f;simp only[bG]at b;obtain⟨v,g,a⟩:=ae a;have d:=bz (eI .i64) g;simp only[bG]at d;simp only[fC,seval,i,b,d];refine bP (by kernel_rfl) ?_;apply sp ax a<;>intro _ a
    ·have b:=bz (eI .i64) f;simp only[bG]at b;have d:=bz (eI .i64) g;simp only[bG]at d;obtain⟨w,j,a⟩:=ae a;simp only[fC,seval,i,b,d,j];refine bP (by kernel_rfl) ?_;cases a;refine uq ⟨rfl,?_⟩;simp only[fC,seval]
    ·cases a;simp only[fC,seval,i];apply iD;and_intros<;>first|rfl|(simp only[fC,seval,i]<;>rfl)
   ·cases a;simp only[fC,seval];apply kf;exact rfl
  ·rintro x t H e k;rcases q with _|A
   ·dsimp only at k a;subst k;cases a;simp only[fC,seval]
   ·dsimp only at k a;obtain⟨rfl,y⟩:=k;cases a;simp only[bd,bj,cL,cR];exact y
def uR (l:Option (D×Row)) (d:List D):=ej (gj (jX (eI .i64)) (dM (aI .i64))) (fun x:(List Int)×Int=>qI x.1 x.2) (fun r:(List Int)×Int =>.clean (.tup [.sl false false r.1.length (an (eI .i64) r.1),.int .i64 r.2])) l d
def sh7 {β:Type} {F:(List Int)×Int->Option β} {R:β->RK} (a:(List Int)) (b:Int):ej (gj (jX (eI .i64)) (dM (aI .i64))) F R none [.sl false false a.length (an (eI .i64) a),.int .i64 b]=(F (a,b)).map fun r=>(R r,none):=cF _ _ _ (a,b)
def zc:Env:=(Am.ext bk 155 false gJ)
def Ol:bV prog zc:=(bV.none.add sf false)
def my:=ai @w<|ai @sh0<|ai @gJ.eq_1<|@zc.eq_1
def OM:ck prog 183 uR:=ck.iZ (mode := .clean) tok Ol mixed func183 (by kernel_rfl) (fun _ _=>rfl) (fun _=>by kernel_rfl) fun⟨O,P⟩ r a=>by
 replace a:qI O P=some r:=a;apply aJ rfl ntmps183 results183;simp only[ja];unfold qI at a;obtain⟨W,D,a⟩:=ae a;obtain⟨E,F,G,m,I⟩:=mk_one (eI .i64) D;simp only[bG]at m;simp only[my,seval,-Int.reduceToNat,E,F,G,m,I];obtain⟨J,n,a⟩:=ae a;refine az (fun s t H e=>match s with|(p,q,l)=>∃b:Nat,t 0=sI O∧t 1=sN P∧t 6=.buf 6 b 1 0 (l).length∧t 7=sN p∧t 8=sN q∧H 6=rW b 3 (an (eI .i64) l)) (fun o x t H e=>match o with|(g,d)=>x=.exit 0∧∃f:Nat,t 6=.buf 6 f 1 0 (d).length∧t 7=sN g∧H 6=rW f 3 (an (eI .i64) d)) n ?_ ?_ ?_
 ·refine⟨1,?_,?_,?_,?_,?_,?_⟩;all_goals (rfl)
 ·rintro⟨p,q,l⟩ t H e ⟨b,C⟩ c a;simp only[te]at a;simp only[my,seval,-Int.reduceToNat,C];apply sp ax a<;>intro _ a
  ·obtain⟨R,u,a⟩:=ae a;have K:=Gr u;obtain⟨S,v,a⟩:=ae a;have h:=bz (eI .i64) v;simp only[bG]at h;obtain⟨w,y,a⟩:=ae a;have L:=W0 y;obtain⟨T,i,a⟩:=ae a;have j:=bz (eI .i64) i;simp only[bG]at j;have z:=fE (eI .i64) (x':=w) (fo:=0) (cs:=[.int .i64 w]) i rfl (amV rfl);simp only[bG,Nat.add_zero]at z;have k:=z;simp only[putCells,List.length_cons,List.length_nil,amr]at k;obtain⟨U,A,a⟩:=ae a;have M:=XS A;cases a;simp only[my,seval,-Int.reduceToNat,C,K,h,L,j,k,M];apply iD;refine⟨b,?_⟩;and_intros<;>first|rfl|(simp only[my,seval,-Int.reduceToNat,C]<;>rfl)
  ·cases a;simp only[my,seval,-Int.reduceToNat];apply kf;refine⟨rfl,⟨b,?_,?_,?_⟩⟩;all_goals ((simp only[my,seval,-Int.reduceToNat,C]<;>rfl))
 ·rintro x t H e Q;rcases J with⟨g,d⟩;dsimp only at Q a;obtain⟨rfl,⟨f,N⟩⟩:=Q;obtain⟨V,B,a⟩:=ae a;cases a;simp only[my,seval,-Int.reduceToNat,N,B]
def tC (l:Option (D×Row)) (d:List D):=ej (gj (jX (eI .i64)) (dM (jX (eI .i64)))) (fun x:(List Int)×(List Int)=>td x.1 x.2) (fun r:(List Int) =>.fresh 3 1 r.length (an (eI .i64) r)) l d
def DW:Env:=(Am.ext bk 155 true wS)
def U7:bV prog DW:=(bV.none.add Km true)
def iz:=ai @w<|@DW.eq_1
def IT:ck prog 154 tC:=ck.iZ (mode:=(.fresh 3 1)) tok U7 mixed func154 (by kernel_rfl) (fun _ _=>rfl) (fun _=>by kernel_rfl) fun⟨B,F⟩ r a=>by
 replace a:td B F=some r:=a;apply aJ rfl ntmps154 results154;simp only[ja];unfold td at a;obtain⟨x1,Y,a⟩:=ae a;obtain⟨Z,aa,ab,G,ad⟩:=mk_one (eI .i64) Y;simp only[bG]at G;simp only[iz,seval,-Int.reduceToNat,Z,aa,ab,G,ad];obtain⟨ag,I,a⟩:=ae a;refine az (fun s t H e=>match s with|(b,C)=>∃j:Nat,t 1=sI F∧t 5=.buf 5 j 1 0 (C).length∧t 18=sI B∧t 19=sN (B.length:Int)∧t 20=sN b∧H 5=rW j 3 (an (eI .i64) C)) (fun o x t H e=>match o with|d=>x=.exit 0∧∃k:Nat,t 5=.buf 5 k 1 0 (d).length∧H 5=rW k 3 (an (eI .i64) d)) I ?_ ?_ ?_
 ·refine⟨1,?_,?_,?_,?_,?_,?_⟩;all_goals (rfl)
 ·rintro⟨b,C⟩ t H e ⟨j,W⟩ c a;simp only[xg]at a;simp only[iz,seval,-Int.reduceToNat,W];apply sp ax a<;>intro _ a
  ·obtain⟨D,J,a⟩:=ae a;have u:=bz (eI .i64) J;simp only[bG]at u;simp only[iz,seval,-Int.reduceToNat,W,u];obtain⟨ai,K,a⟩:=ae a;refine az (fun s t H e=>match s with|(q,v,E)=>∃l:Nat,t 1=sI F∧t 5=.buf 5 l 1 0 (E).length∧t 6=sN b∧t 7=sN D∧t 8=sN q∧t 18=sI B∧t 19=sN (B.length:Int)∧t 20=sN b∧t 25=sI F∧t 26=sN (F.length:Int)∧t 27=sN v∧H 5=rW l 3 (an (eI .i64) E)) (fun o x t H e=>match o with|(f,m)=>x=.exit 2∧∃g:Nat,t 1=sI F∧t 5=.buf 5 g 1 0 (m).length∧t 6=sN b∧t 8=sN f∧t 18=sI B∧t 19=sN (B.length:Int)∧t 20=sN b∧H 5=rW g 3 (an (eI .i64) m)) K ?_ ?_ ?_
   ·refine⟨j,?_⟩;and_intros<;>first|rfl|(simp only[iz,seval,-Int.reduceToNat,W]<;>rfl)
   ·rintro⟨q,v,E⟩ t H e ⟨l,X⟩ c a;simp only[xh]at a;simp only[iz,seval,-Int.reduceToNat,X];apply sp ax a<;>intro _ a
    ·obtain⟨L,M,a⟩:=ae a;have w:=bz (eI .i64) M;simp only[bG]at w;obtain⟨N,n,a⟩:=ae a;have h:=bz (eI .i64) n;simp only[bG]at h;obtain⟨al,O,a⟩:=ae a;have aj:=xM O;have h:=bz (eI .i64) n;simp only[bG]at h;have P:=fE (eI .i64) (x':=nN .and .i64 (IntKind.i64.wrap ((IntKind.i64.wrap (N+(IntKind.i64.wrap (D*L))))+q)) 1048575) (fo:=0) (cs:=[.int .i64 (nN .and .i64 (IntKind.i64.wrap ((IntKind.i64.wrap (N+(IntKind.i64.wrap (D*L))))+q)) 1048575)]) n rfl (amV rfl);simp only[bG,Nat.add_zero]at P;have y:=P;simp only[putCells,List.length_cons,List.length_nil,amr]at y;cases a;simp only[iz,seval,-Int.reduceToNat,X,w,aj,h,y];apply iD;refine⟨l,?_⟩;and_intros<;>first|rfl|(simp only[iz,seval,-Int.reduceToNat,X]<;>rfl)
    ·cases a;simp only[iz,seval,-Int.reduceToNat];apply kf;refine⟨rfl,⟨l,?_,?_,?_,?_,?_,?_,?_,?_⟩⟩;all_goals ((simp only[iz,seval,-Int.reduceToNat,X]<;>rfl))
   ·rintro x t H e Q;rcases ai with⟨f,m⟩;dsimp only at Q a;obtain⟨rfl,⟨g,R⟩⟩:=Q;obtain⟨S,p,a⟩:=ae a;have i:=bz (eI .i64) p;simp only[bG]at i;have i:=bz (eI .i64) p;simp only[bG]at i;have T:=fE (eI .i64) (x':=IntKind.i64.wrap (S+f)) (fo:=0) (cs:=[.int .i64 (IntKind.i64.wrap (S+f))]) p rfl (amV rfl);simp only[bG,Nat.add_zero]at T;have A:=T;simp only[putCells,List.length_cons,List.length_nil,amr]at A;cases a;simp only[iz,seval,-Int.reduceToNat,R,i,A];apply iD;refine⟨g,?_⟩;and_intros<;>first|rfl|(simp only[iz,seval,-Int.reduceToNat,R]<;>rfl)
  ·cases a;simp only[iz,seval,-Int.reduceToNat];apply kf;refine⟨rfl,⟨j,?_,?_⟩⟩;all_goals ((simp only[iz,seval,-Int.reduceToNat,W]<;>rfl))
 ·rintro x t H e Q;obtain⟨d,rfl⟩:∃z,z=ag:=⟨_,rfl⟩;dsimp only at Q a;obtain⟨rfl,⟨k,ak⟩⟩:=Q;have U:=O2 [] [] d;simp only[List.nil_append,am6,List.length_nil]at U;obtain⟨ao,V,a⟩:=ae a;cases a;simp only[iz,seval,-Int.reduceToNat,ak,U,V]
def tL:=mkW 3 (eI .i64) (gj (jX (eI .i64)) (dM (aI .i64))) (fun (l:(List Int)) (x:(List Int)×Int)=>iH l x.1 x.2) (fun r:Int =>.clean (.int .i64 r))
def Jd (b a:List D) (c:(List Int)) (d:(List Int)) (e:Int):tL (some (.buf 0 0 1 b.length c.length,⟨0,3,b++(an (eI .i64) c++a),false,true,false⟩)) [.sl false false d.length (an (eI .i64) d),.int .i64 e]=(iH c d e).map fun r=>(.clean (.int .i64 r.2),some ⟨0,3,b++(an (eI .i64) r.1++a),false,true,false⟩):=Vm _ _ _ _ _ b a c (d,e)
def It (d a:List D) (L:(List Int)) (y:(List Int)) (A:Int) (r:(List Int)×(Int)) (b:iH L y A=some r):jx .clean tab bk FU Tryz.f184 (some (.buf 0 0 1 d.length L.length,⟨0,3,d++(an (eI .i64) L++a),false,true,false⟩)) [.sl false false y.length (an (eI .i64) y),.int .i64 A]=some (.clean (.int .i64 r.2),some ⟨0,3,d++(an (eI .i64) r.1++a),false,true,false⟩):=by
 apply xR rfl ntmps184 results184;unfold iH at b;obtain⟨rw,Z,b⟩:=ae b;split at b;rotate_left
 ·cases b
 cases b;rename_i al;replace b:=Z;unfold tS at b;simp only[w,seval,-Int.reduceToNat];obtain⟨o9,aa,b⟩:=ae b;refine az (fun s t H e=>match s with|(M,j,l)=>t 0=.buf 0 0 1 d.length (l).length∧t 1=sI y∧t 2=sN A∧t 7=sN M∧t 13=sN ((L).length:Int)∧t 14=sN j∧H 0=rW 0 3 (d++(an (eI .i64) l++a))) (fun o x t H e=>match o with|(B,h)=>x=.exit 0∧t 0=.buf 0 0 1 d.length (h).length∧t 1=sI y∧t 2=sN A∧t 7=sN B∧H 0=rW 0 3 (d++(an (eI .i64) h++a))) aa ?_ ?_ ?_
 ·refine⟨?_,?_,?_,?_,?_,?_,?_⟩;all_goals (rfl)
 ·rintro⟨M,j,l⟩ t H e J c b;simp only[od]at b;simp only[w,seval,-Int.reduceToNat,J];apply sp ax b<;>intro _ b
  ·obtain⟨ao,m,b⟩:=ae b;have f:=zn (pre:=d) (post:=a) (eI .i64) m;simp only[bG]at f;simp only[w,seval,-Int.reduceToNat,J,f];obtain⟨ab,N,b⟩:=ae b;refine qn 0 (fun s t H e=>match s with|n=>t 0=.buf 0 0 1 d.length (l).length∧t 1=sI y∧t 2=sN A∧t 8=sN j∧t 9=sN n∧t 13=sN ((L).length:Int)∧t 14=sN j∧H 0=rW 0 3 (d++(an (eI .i64) l++a))) (fun s=>s=ab) ?_ ?_
   ·rintro n t H e O rfl;try dsimp only at b
    have f:=zn (pre:=d) (post:=a) (eI .i64) m;simp only[bG]at f;have P:=Db (pre:=d) (post:=a) (eI .i64) (y':=nN .and .i64 n 1048575) m;simp only[bG]at P;have C:=P;simp only[putCells,List.length_cons,List.length_nil,amr]at C;obtain⟨aq,Q,b⟩:=ae b;have ad:=xM Q;cases b;simp only[w,seval,-Int.reduceToNat,O,f,C,ad];apply iD;and_intros<;>first|rfl|(simp only[w,seval,-Int.reduceToNat,O]<;>rfl)
   ·clear b;have b:=N;simp only[w,seval,-Int.reduceToNat];apply sp ax b<;>intro _ b
    ·obtain⟨ar,R,b⟩:=ae b;have E:=bz (eI .i64) R;simp only[bG]at E;cases b;simp only[w,seval,-Int.reduceToNat,J,f,E];rw[aF];refine⟨_,rfl,?_⟩;and_intros<;>first|rfl|(simp only[w,seval,-Int.reduceToNat,J]<;>rfl)
    ·cases b;simp only[w,seval,-Int.reduceToNat];rw[aF];refine⟨_,rfl,?_⟩;and_intros<;>first|rfl|(simp only[w,seval,-Int.reduceToNat,J]<;>rfl)
  ·cases b;simp only[w,seval,-Int.reduceToNat];apply kf;refine⟨rfl,⟨?_,?_,?_,?_,?_⟩⟩;all_goals ((simp only[w,seval,-Int.reduceToNat,J]<;>rfl))
 ·rintro x t H e S;rcases o9 with⟨B,h⟩;dsimp only at S b;obtain⟨rfl,v⟩:=S;simp only[w,seval,-Int.reduceToNat,v];apply sp ax b<;>intro _ b
  ·cases b;simp only[w,seval,-Int.reduceToNat,v]
  ·simp only[w,seval,-Int.reduceToNat,v];obtain⟨ag,T,b⟩:=ae b;refine az (fun s t H e=>match s with|(F,k,p)=>t 0=.buf 0 0 1 d.length (p).length∧t 1=sI y∧t 2=sN A∧t 10=sN F∧t 48=sN ((h).length:Int)∧t 49=sN k∧H 0=rW 0 3 (d++(an (eI .i64) p++a))) (fun o x t H e=>match o with|q=>x=.exit 2∧t 0=.buf 0 0 1 d.length (q).length∧t 2=sN A∧H 0=rW 0 3 (d++(an (eI .i64) q++a))) T ?_ ?_ ?_
   ·and_intros<;>first|rfl|(simp only[w,seval,-Int.reduceToNat,v]<;>rfl)
   ·rintro⟨F,k,p⟩ t H e K c b;simp only[oe]at b;simp only[w,seval,-Int.reduceToNat,K];apply sp ax b<;>intro _ b
    ·obtain⟨au,u,b⟩:=ae b;have g:=zn (pre:=d) (post:=a) (eI .i64) u;simp only[bG]at g;simp only[w,seval,-Int.reduceToNat,K,g];obtain⟨ai,U,b⟩:=ae b;refine qn 0 (fun s t H e=>match s with|i=>t 0=.buf 0 0 1 d.length (p).length∧t 1=sI y∧t 2=sN A∧t 10=sN i∧t 11=sN k∧t 48=sN ((h).length:Int)∧t 49=sN k∧H 0=rW 0 3 (d++(an (eI .i64) p++a))) (fun s=>s=ai) ?_ ?_
     ·rintro i t H e V rfl;try dsimp only at b
      have g:=zn (pre:=d) (post:=a) (eI .i64) u;simp only[bG]at g;have W:=Db (pre:=d) (post:=a) (eI .i64) (y':=nN .and .i64 i 1048575) u;simp only[bG]at W;have G:=W;simp only[putCells,List.length_cons,List.length_nil,amr]at G;obtain⟨av,X,b⟩:=ae b;have aj:=xM X;cases b;simp only[w,seval,-Int.reduceToNat,V,g,G,aj];apply iD;and_intros<;>first|rfl|(simp only[w,seval,-Int.reduceToNat,V]<;>rfl)
     ·clear b;have b:=U;simp only[w,seval,-Int.reduceToNat];apply sp ax b<;>intro _ b
      ·obtain⟨aw,Y,b⟩:=ae b;have I:=bz (eI .i64) Y;simp only[bG]at I;cases b;simp only[w,seval,-Int.reduceToNat,K,g,I];rw[aF];refine⟨_,rfl,?_⟩;and_intros<;>first|rfl|(simp only[w,seval,-Int.reduceToNat,K]<;>rfl)
      ·cases b;simp only[w,seval,-Int.reduceToNat];rw[aF];refine⟨_,rfl,?_⟩;and_intros<;>first|rfl|(simp only[w,seval,-Int.reduceToNat,K]<;>rfl)
    ·cases b;simp only[w,seval,-Int.reduceToNat];apply kf;refine⟨rfl,⟨?_,?_,?_⟩⟩;all_goals ((simp only[w,seval,-Int.reduceToNat,K]<;>rfl))
   ·rintro x t H e S;obtain⟨q,rfl⟩:∃z,z=ag:=⟨_,rfl⟩;dsimp only at S b;obtain⟨rfl,ak⟩:=S;cases b;simp only[w,seval,-Int.reduceToNat,ak]
def F5:ck prog 184 tL:=ck.agN (mode := .clean) tok bV.none mixed func184 (by kernel_rfl) ⟨by kernel_rfl,by kernel_rfl⟩ (fun _=>amV (by kernel_rfl)) (fun b a l x c r h=>It b a l x.1 x.2 (c,r) h)
def qC (l:Option (D×Row)) (d:List D):=ej (gj (jX (eI .i64)) (dM (jX (eI .i64)))) (fun x:(List Int)×(List Int)=>xc x.1 x.2) (fun r:(List Int)×(List Int) =>.clean (.tup [.sl false false r.1.length (an (eI .i64) r.1),.sl false false r.2.length (an (eI .i64) r.2)])) l d
def MS (a:(List Int)) (b:(List Int)):tC none [.sl false false a.length (an (eI .i64) a),.sl false false b.length (an (eI .i64) b)]=(td a b).map fun r:(List Int)=>(.fresh 3 1 r.length (an (eI .i64) r),none):=cF _ _ _ (a,b)
def q8 (a:(List Int)):gJ none [.sl false false a.length (an (eI .i64) a)]=(fO a).map fun r:(List Int)=>(.clean (.sl false false r.length (an (eI .i64) r)),none):=cF _ _ _ (a)
def DV:Env:=(Am.ext (Am.ext (Am.ext (Am.ext (Am.ext (Am.ext bk 55 false gw) 111 false gm) 154 false tC) 155 false gJ) 183 false uR) 184 true tL)
def U6:bV prog DV:=((((((bV.none.add jj false).add uv false).add IT false).add sf false).add OM false).add F5 true)
def bR:=ai @w<|ai @dU<|ai @Yf<|ai @gm.eq_1<|ai @q8<|ai @sh7<|ai @uR.eq_1<|@DV.eq_1
def IS:ck prog 147 qC:=ck.iZ (mode := .clean) tok U6 mixed func147 (by kernel_rfl) (fun _ _=>rfl) (fun _=>by kernel_rfl) fun⟨p0,p1⟩ r a=>by
 replace a:xc p0 p1=some r:=a;apply aJ rfl ntmps147 results147;simp only[ja];unfold xc at a;obtain⟨r1,br,a⟩:=ae a;simp only[bR,seval,-Int.reduceToNat,br];apply sp ax a<;>intro _ a
 ·obtain⟨r3,bs,a⟩:=ae a;cases a;simp only[bR,seval,-Int.reduceToNat,bs]
 ·simp only[bR,seval,-Int.reduceToNat];apply sp ax a<;>intro _ a
  ·obtain⟨x5,bt,a⟩:=ae a;have ao:=bz (eI .i64) bt;simp only[bG]at ao;obtain⟨r6,bu,a⟩:=ae a;have i7:=q8 ([r6.2]);simp only[ch,bG,List.length_cons,amr]at i7;obtain⟨r8,bw,a⟩:=ae a;cases a;simp only[bR,seval,-Int.reduceToNat,ao,bu,i7,bw]
  ·simp only[bR,seval,-Int.reduceToNat];obtain⟨bx,aq,a⟩:=ae a;refine az (fun s t H e=>match s with|ar=>t 0=sI p0∧t 1=sI p1∧t 8=sN ar) (fun o x t H e=>match o with|d=>x=.exit 0∧t 0=sI p0∧t 1=sI p1∧t 8=sN d) aq ?_ ?_ ?_
   ·refine⟨?_,?_,?_⟩;all_goals (rfl)
   ·rintro ar t H e Za c a;simp only[xd]at a;obtain⟨bL,au,a⟩:=ae a;have U:=bz (eI .i64) au;simp only[bG]at U;simp only[bR,seval,-Int.reduceToNat,Za,U];apply sp ax a<;>intro _ a
    ·cases a;simp only[bR,seval,-Int.reduceToNat,Za];apply iD;and_intros<;>first|rfl|(simp only[bR,seval,-Int.reduceToNat,Za]<;>rfl)
    ·cases a;simp only[bR,seval,-Int.reduceToNat];apply kf;refine⟨rfl,⟨?_,?_,?_⟩⟩;all_goals ((simp only[bR,seval,-Int.reduceToNat,Za]<;>rfl))
   ·rintro x t H e V;obtain⟨d,rfl⟩:∃z,z=bx:=⟨_,rfl⟩;dsimp only at V a;obtain⟨rfl,al⟩:=V;have av:=MS p0 ([d]);simp only[ch,bG,List.length_cons,amr]at av;obtain⟨bM,aw,a⟩:=ae a;obtain⟨bN,ay,a⟩:=ae a;obtain⟨aA,W,aB,aC⟩:=js (eI .i64) ay;simp only[bG]at W;have aD:=MS p1 ([d]);simp only[ch,bG,List.length_cons,amr]at aD;obtain⟨b,aE,a⟩:=ae a;simp only[bR,seval,-Int.reduceToNat,al,av,aw,aA,W,aB,aC,aD,aE];obtain⟨bA,aG,a⟩:=ae a;refine qn 0 (fun s t H e=>match s with|K=>∃E:Nat,∃n:Nat,t 8=sN d∧t 9=.buf 9 E 1 0 (K).length∧t 10=.buf 10 n 1 0 (b).length∧H 9=rW E 3 (an (eI .i64) K)∧H 10=rW n 3 (an (eI .i64) b)) (fun s=>s=bA) ?_ ?_
    ·rintro K t H e ⟨E,n,aH⟩ rfl;try dsimp only at a
     obtain⟨bO,aI,a⟩:=ae a;obtain⟨aK,aL,aM,X,aN⟩:=mk_one (eI .i64) aI;simp only[bG]at X;simp only[bR,seval,-Int.reduceToNat,aH,aK,aL,aM,X,aN];obtain⟨bB,aO,a⟩:=ae a;refine az (fun s t H e=>match s with|(g,h,f)=>∃L:Nat,∃F:Nat,∃v:Nat,∃M:Bool,t 8=sN d∧t 9=.buf 9 L 1 0 (h).length∧t 10=.buf 10 F 1 0 (b).length∧t 11=sN ((b).length:Int)∧t 12=.buf 12 v 1 0 (f).length∧t 13=sN g∧H 9=rW L 3 (an (eI .i64) h)∧H 10=some ⟨F,3,an (eI .i64) b,M,true,false⟩∧H 12=rW v 3 (an (eI .i64) f)) (fun o x t H e=>match o with|(N,B)=>x=.exit 2∧∃O:Nat,∃C:Nat,t 8=sN d∧t 9=.buf 9 O 1 0 (N).length∧t 12=.buf 12 C 1 0 (B).length∧H 9=rW O 3 (an (eI .i64) N)∧H 12=rW C 3 (an (eI .i64) B)) aO ?_ ?_ ?_
     ·refine⟨E,n,e+1,false,?_⟩;and_intros<;>first|rfl|(simp only[bR,seval,-Int.reduceToNat,aH]<;>rfl)
     ·rintro⟨g,h,f⟩ t H e ⟨L,F,v,M,Zc⟩ c a;simp only[xe]at a;simp only[bR,seval,-Int.reduceToNat,Zc];apply sp ax a<;>intro _ a
      ·obtain⟨bQ,aP,a⟩:=ae a;have Y:=bz (eI .i64) aP;simp only[bG]at Y;obtain⟨bS,aQ,a⟩:=ae a;have aR:=Gr aQ;obtain⟨bT,aS,a⟩:=ae a;have Z:=bz (eI .i64) aS;simp only[bG]at Z;simp only[bR,seval,-Int.reduceToNat,Zc,Y,aR,Z];refine bP (by kernel_rfl) ?_;obtain⟨bU,P,a⟩:=ae a;have i:=bz (eI .i64) P;simp only[bG]at i;obtain⟨bV,aT,a⟩:=ae a;have bC:=W0 aT;have i:=bz (eI .i64) P;simp only[bG]at i;obtain⟨bW,aU,a⟩:=ae a;have bD:=XS aU;simp only[bR,seval,-Int.reduceToNat,Zc,bC,i,bD];refine bP (by kernel_rfl) ?_;obtain⟨bE,aV,a⟩:=ae a;refine az (fun s t H e=>match s with|(Q,R)=>∃J:Nat,∃l:Nat,∃m:Nat,∃w:Bool,t 8=sN d∧t 9=.buf 9 J 1 0 (h).length∧t 10=.buf 10 l 1 0 (b).length∧t 11=sN ((b).length:Int)∧t 12=.buf 12 m 1 0 (f).length∧t 13=sN g∧t 15=sN Q∧t 16=sN R∧H 9=rW J 3 (an (eI .i64) h)∧H 10=some ⟨l,3,an (eI .i64) b,w,true,false⟩∧H 12=rW m 3 (an (eI .i64) f)) (fun o x t H e=>match o with|D=>x=.exit 4∧∃G:Nat,∃p:Nat,∃q:Nat,∃S:Bool,t 8=sN d∧t 9=.buf 9 G 1 0 (h).length∧t 10=.buf 10 p 1 0 (b).length∧t 11=sN ((b).length:Int)∧t 12=.buf 12 q 1 0 (f).length∧t 13=sN g∧t 15=sN D∧H 9=rW G 3 (an (eI .i64) h)∧H 10=some ⟨p,3,an (eI .i64) b,S,true,false⟩∧H 12=rW q 3 (an (eI .i64) f)) aV ?_ ?_ ?_
       ·refine⟨L,F,v,M,?_⟩;and_intros<;>first|rfl|(simp only[bR,seval,-Int.reduceToNat,Zc]<;>rfl)
       ·rintro⟨Q,R⟩ t H e ⟨J,l,m,w,Zg⟩ c a;simp only[xf]at a;simp only[bR,seval,-Int.reduceToNat,Zg];obtain⟨bF,aW,a⟩:=ae a;refine TZ 0 (fun s t H e=>match s with|I=>∃y:Nat,∃j:Nat,∃k:Nat,∃u:Bool,t 8=sN d∧t 9=.buf 9 y 1 0 (h).length∧t 10=.buf 10 j 1 0 (b).length∧t 11=sN ((b).length:Int)∧t 12=.buf 12 k 1 0 (f).length∧t 13=sN g∧t 15=sN Q∧t 16=sN R∧t 137=.bool I∧H 9=rW y 3 (an (eI .i64) h)∧H 10=some ⟨j,3,an (eI .i64) b,u,true,false⟩∧H 12=rW k 3 (an (eI .i64) f)) (fun s=>s=bF) ?_ ?_
        ·rintro I t H e ⟨y,j,k,u,T⟩ rfl;try dsimp only at a
         simp only[bR,seval,-Int.reduceToNat,T];apply sp ax a<;>intro _ a
         ·have i:=bz (eI .i64) P;simp only[bG]at i;cases a;simp only[bR,seval,-Int.reduceToNat,T,i];apply iD;refine⟨y,j,k,u,?_⟩;and_intros<;>first|rfl|(simp only[bR,seval,-Int.reduceToNat,T]<;>rfl)
         ·cases a;simp only[bR,seval,-Int.reduceToNat];apply kf;refine⟨rfl,⟨y,j,k,u,?_,?_,?_,?_,?_,?_,?_,?_,?_,?_⟩⟩;all_goals ((simp only[bR,seval,-Int.reduceToNat,T]<;>rfl))
        ·clear a;have a:=aW;simp only[bR,seval,-Int.reduceToNat];apply sp Dq a<;>intro _ a
         ·simp only[bR,seval,-Int.reduceToNat];refine bP (by kernel_rfl) ?_;cases a;rw[aF];refine⟨_,rfl,?_⟩;refine⟨J,l,m,w,?_⟩;and_intros<;>first|rfl|(simp only[bR,seval,-Int.reduceToNat,Zg]<;>rfl)
         ·simp only[bR,seval,-Int.reduceToNat,Zg];apply sp Gx a<;>intro _ a
          ·obtain⟨bX,aX,a⟩:=ae a;have aa:=bz (eI .i64) aX;simp only[bG]at aa;obtain⟨bY,aY,a⟩:=ae a;have bH:=Gr aY;obtain⟨bZ,aZ,a⟩:=ae a;have ab:=bz (eI .i64) aZ;simp only[bG]at ab;simp only[bR,seval,-Int.reduceToNat,aR,Zg,aa,bH,ab];refine bP (by kernel_rfl) ?_;cases a;rw[aF];refine⟨_,rfl,?_⟩;refine⟨J,l,m,w,?_⟩;and_intros<;>first|rfl|(simp only[bR,seval,-Int.reduceToNat,Zg]<;>rfl)
          ·simp only[bR,seval,-Int.reduceToNat];refine bP (by kernel_rfl) ?_;cases a;rw[aF];refine⟨_,rfl,?_⟩;refine⟨J,l,m,w,?_⟩;and_intros<;>first|rfl|(simp only[bR,seval,-Int.reduceToNat,Zg]<;>rfl)
       ·rintro x t H e V;obtain⟨D,rfl⟩:∃z,z=bE:=⟨_,rfl⟩;dsimp only at V a;obtain⟨rfl,⟨G,p,q,S,a1⟩⟩:=V;obtain⟨bI,A,a⟩:=ae a;obtain⟨a6,a7,a8,bK,ba⟩:=ahX (eI .i64) A;simp only[bG]at ba;have bb:=Jd (an (eI .i64) (h.take (g).toNat)) (an (eI .i64) (h.drop (IntKind.i64.wrap ((IntKind.i64.wrap (g+((b).length:Int)))+1)).toNat)) bI b D;simp only[af9,aga (eI .i64) A,agb (eI .i64) A,ag4 A,bG]at bb;obtain⟨bc,ad,a⟩:=ae a;have bd:=D9 ad;have bg:=aew A bd;obtain⟨b1,ag,a⟩:=ae a;have ai:=bz (eI .i64) ag;simp only[bG]at ai;have bh:=fE (eI .i64) (x':=bc.2) (fo:=0) (cs:=[.int .i64 bc.2]) ag rfl (amV rfl);simp only[bG,Nat.add_zero]at bh;have aj:=bh;simp only[putCells,List.length_cons,List.length_nil,amr]at aj;cases a;simp only[bR,seval,-Int.reduceToNat,a1,a6,a7,a8,bb,ad,ai,aj];apply iD;refine⟨G,p,q,true,?_⟩;and_intros<;>first|rfl|(simp only[bR,seval,-Int.reduceToNat,a1,bg]<;>rfl)
      ·cases a;simp only[bR,seval,-Int.reduceToNat];apply kf;refine⟨rfl,⟨L,v,?_,?_,?_,?_,?_⟩⟩;all_goals ((simp only[bR,seval,-Int.reduceToNat,Zc]<;>rfl))
     ·rintro x t H e V;rcases bB with⟨N,B⟩;dsimp only at V a;obtain⟨rfl,⟨O,C,bJ⟩⟩:=V;obtain⟨b2,bj,a⟩:=ae a;obtain⟨b3,bk,a⟩:=ae a;obtain⟨b4,bl,a⟩:=ae a;cases a;simp only[bR,seval,-Int.reduceToNat,bJ,bj,bk,bl]
    ·clear a;have a:=aG;simp only[bR,seval,-Int.reduceToNat];apply sp ax a<;>intro _ a
     ·obtain⟨b5,bm,a⟩:=ae a;obtain⟨bn,ak,bp,bq⟩:=js (eI .i64) bm;simp only[bG]at ak;cases a;simp only[bR,seval,-Int.reduceToNat,bn,ak,bp,bq];rw[aF];refine⟨_,rfl,?_⟩;refine⟨e+1+1,e,?_⟩;and_intros<;>first|rfl|(simp only[bR,seval,-Int.reduceToNat,al]<;>rfl)
     ·cases a;simp only[bR,seval,-Int.reduceToNat];rw[aF];refine⟨_,rfl,?_⟩;refine⟨e,e,?_⟩;and_intros<;>first|rfl|(simp only[bR,seval,-Int.reduceToNat,al]<;>rfl)
def qB (l:Option (D×Row)) (d:List D):=ej (gj (bW je) (dM (bW je))) (fun x:aH×aH=>uZ x.1 x.2) (fun r:aH×Int =>.clean (.tup [.agg [.int .i64 r.1.al,.sl false false r.1.aa.length (an (eI .i64) r.1.aa)],.int .i64 r.2])) l d
def M9 {β:Type} {F:aH×aH->Option β} {R:β->RK} (c:Int) (a:(List Int)) (d:Int) (b:(List Int)):ej (gj (bW je) (dM (bW je))) F R none [.agg [.int .i64 c,.sl false false a.length (an (eI .i64) a)],.agg [.int .i64 d,.sl false false b.length (an (eI .i64) b)]]=(F ((aH.mk c a),(aH.mk d b))).map fun r=>(R r,none):=cF _ _ _ ((aH.mk c a),(aH.mk d b))
def gU (c:Bool) (b:Int) (a:(List Int)):nL none [.bool c,.agg [.int .i64 b,.sl false false a.length (an (eI .i64) a)]]=(fN c (aH.mk b a)).map fun r:aH×Int=>(.clean (.tup [.agg [.int .i64 r.1.al,.sl false false r.1.aa.length (an (eI .i64) r.1.aa)],.int .i64 r.2]),none):=cF _ _ _ (c,(aH.mk b a))
def DQ:Env:=(Am.keep 6 (Am.ext (Am.ext (Am.ext (Am.ext (Am.ext bk 55 false gw) 103 false bZ) 113 false cU) 114 false nL) 147 false qC))
def U1:bV prog DQ:=(bV.keep (((((bV.none.add jj false).add iK false).add lA false).add uu false).add IS false) 6)
def iy:=ai @w<|ai @dU<|ai @FI<|ai @bZ.eq_1<|ai @sh1<|ai @cU.eq_1<|ai @gU<|ai @Yf<|ai @qC.eq_1<|@DQ.eq_1
def IP:ck prog 104 qB:=ck.iZ (mode := .clean) tok U1 mixed func104 (by kernel_rfl) (fun _ _=>rfl) (fun _=>by kernel_rfl) fun⟨y,A⟩ r a=>by
 replace a:uZ y A=some r:=a;apply aJ rfl ntmps104 results104;simp only[ja];unfold uZ at a;obtain⟨R,B,a⟩:=ae a;simp only[iy,seval,B];obtain⟨K,C,a⟩:=ae a;refine cQ 0 (fun s t H e=>match s with|d=>∃f:Nat,∃g:Nat,∃b:Nat,t 2=.ptr 2 f 0∧t 3=.ptr 3 g 0∧t 4=.ptr 4 b 0∧t 17=.bool d∧H 2=rV f 39 [sN y.al,sI y.aa]∧H 3=rV g 39 [sN A.al,sI A.aa]∧H 4=rV b 39 [sN 0,.sl true true 0 []]) (fun s=>s=K) ?_ ?_
 ·rintro d t H e ⟨f,g,b,j⟩ rfl;try dsimp only at a
  simp only[iy,seval,j];apply sp ax a<;>intro _ a
  ·have I:=gU false 0 ([]);simp only[bG]at I;obtain⟨S,D,a⟩:=ae a;cases a;simp only[iy,seval,j,I,D]
  ·obtain⟨T,E,a⟩:=ae a;simp only[iy,seval,j,E];refine bP (by kernel_rfl) ?_;obtain⟨L,F,a⟩:=ae a;refine az (fun s t H e=>match s with|(l,m)=>∃h:Nat,t 4=.ptr 4 h 0∧t 6=sI l∧t 7=sI m∧H 4=rV h 39 [sN 0,.sl true true 0 []]) (fun o x t H e=>match o with|k=>x=.exit 0∧∃i:Nat,t 4=.ptr 4 i 0∧t 6=sI k∧H 4=rV i 39 [sN 0,.sl true true 0 []]) F ?_ ?_ ?_
   ·refine⟨b,?_⟩;and_intros<;>first|rfl|(simp only[iy,seval,j]<;>rfl)
   ·rintro⟨l,m⟩ t H e ⟨h,w⟩ c a;simp only[tP]at a;simp only[iy,seval,w];apply sp ax a<;>intro _ a
    ·obtain⟨M,n,a⟩:=ae a;cases a;simp only[iy,seval,w,n];apply iD;refine⟨h,?_⟩;and_intros<;>first|rfl|(simp only[iy,seval,w]<;>rfl)
    ·cases a;simp only[iy,seval];apply kf;refine⟨rfl,⟨h,?_,?_,?_⟩⟩;all_goals ((simp only[iy,seval,w]<;>rfl))
   ·rintro x t H e J;obtain⟨k,rfl⟩:∃z,z=L:=⟨_,rfl⟩;dsimp only at J a;obtain⟨rfl,⟨i,G⟩⟩:=J;obtain⟨N,p,a⟩:=ae a;obtain⟨O,q,a⟩:=ae a;obtain⟨P,u,a⟩:=ae a;cases a;simp only[iy,seval,G,p,q,u]
 ·clear a;have a:=C;simp only[iy,seval];apply sp bQ a<;>intro _ a
  ·cases a;simp only[iy,seval];rw[aF];refine⟨_,rfl,?_⟩;refine⟨0,0,0,?_,?_,?_,?_,?_,?_,?_⟩;all_goals (rfl)
  ·obtain⟨Q,v,a⟩:=ae a;cases a;simp only[iy,seval,v];rw[aF];refine⟨_,rfl,?_⟩;refine⟨0,0,0,?_,?_,?_,?_,?_,?_,?_⟩;all_goals (rfl)
def tz (l:Option (D×Row)) (d:List D):=ej (gj (jX (eI .i64)) (dM (jX (eI .i64)))) (fun x:(List Int)×(List Int)=>u3 x.1 x.2) (fun r:(List Int) =>.clean (.sl false false r.length (an (eI .i64) r))) l d
def DU:Env:=(Am.ext bk 155 false gJ)
def U5:bV prog DU:=(bV.none.add sf false)
def fk:=ai @w<|ai @q8<|@DU.eq_1
def IQ:ck prog 116 tz:=ck.iZ (mode := .clean) tok U5 mixed func116 (by kernel_rfl) (fun _ _=>rfl) (fun _=>by kernel_rfl) fun⟨p0,p1⟩ r a=>by
 replace a:u3 p0 p1=some r:=a;apply aJ rfl ntmps116 results116;simp only[ja];unfold u3 at a;simp only[fk,seval,-Int.reduceToNat];obtain⟨o1,P,a⟩:=ae a;refine qn 0 (fun s t H e=>match s with|(b,f)=>t 0=sI b∧t 1=sI f) (fun s=>s=o1) ?_ ?_
 ·rintro⟨b,f⟩ t H e B rfl;try dsimp only at a
  obtain⟨x2,Q,a⟩:=ae a;obtain⟨R,S,T,C,U⟩:=mk_one (eI .i64) Q;simp only[bG]at C;simp only[fk,seval,-Int.reduceToNat,B,R,S,T,C,U];obtain⟨V,D,a⟩:=ae a;refine az (fun s t H e=>match s with|(E,g,m)=>∃l:Nat,t 0=sI b∧t 1=sI f∧t 5=.buf 5 l 1 0 (m).length∧t 6=sN E∧t 20=sI b∧t 21=sN (b.length:Int)∧t 22=sN g∧H 5=rW l 3 (an (eI .i64) m)) (fun o x t H e=>match o with|(d,h)=>x=.exit 0∧∃n:Nat,t 0=sI b∧t 5=.buf 5 n 1 0 (h).length∧t 6=sN d∧H 5=rW n 3 (an (eI .i64) h)) D ?_ ?_ ?_
  ·refine⟨e,?_⟩;and_intros<;>first|rfl|(simp only[fk,seval,-Int.reduceToNat,B]<;>rfl)
  ·rintro⟨E,g,m⟩ t H e ⟨l,A⟩ c a;simp only[tR]at a;simp only[fk,seval,-Int.reduceToNat,A];apply sp ax a<;>intro _ a
   ·obtain⟨aa,F,a⟩:=ae a;have i:=bz (eI .i64) F;simp only[bG]at i;simp only[fk,seval,-Int.reduceToNat,A,i];obtain⟨W,G,a⟩:=ae a;refine qn 0 (fun s t H e=>match s with|j=>∃k:Nat,t 0=sI b∧t 1=sI f∧t 5=.buf 5 k 1 0 (m).length∧t 6=sN j∧t 7=sN g∧t 20=sI b∧t 21=sN (b.length:Int)∧t 22=sN g∧H 5=rW k 3 (an (eI .i64) m)) (fun s=>s=W) ?_ ?_
    ·rintro j t H e ⟨k,I⟩ rfl;try dsimp only at a
     obtain⟨ab,p,a⟩:=ae a;have q:=bz (eI .i64) p;simp only[bG]at q;have J:=fE (eI .i64) (x':=nN .and .i64 j 1048575) (fo:=0) (cs:=[.int .i64 (nN .and .i64 j 1048575)]) p rfl (amV rfl);simp only[bG,Nat.add_zero]at J;have u:=J;simp only[putCells,List.length_cons,List.length_nil,amr]at u;obtain⟨ad,K,a⟩:=ae a;have X:=xM K;cases a;simp only[fk,seval,-Int.reduceToNat,i,I,q,u,X];apply iD;refine⟨k,?_⟩;and_intros<;>first|rfl|(simp only[fk,seval,-Int.reduceToNat,I]<;>rfl)
    ·clear a;have a:=G;simp only[fk,seval,-Int.reduceToNat];apply sp ax a<;>intro _ a
     ·obtain⟨ag,L,a⟩:=ae a;have v:=bz (eI .i64) L;simp only[bG]at v;cases a;simp only[fk,seval,-Int.reduceToNat,A,i,v];rw[aF];refine⟨_,rfl,?_⟩;refine⟨l,?_⟩;and_intros<;>first|rfl|(simp only[fk,seval,-Int.reduceToNat,A]<;>rfl)
     ·cases a;simp only[fk,seval,-Int.reduceToNat];rw[aF];refine⟨_,rfl,?_⟩;refine⟨l,?_⟩;and_intros<;>first|rfl|(simp only[fk,seval,-Int.reduceToNat,A]<;>rfl)
   ·cases a;simp only[fk,seval,-Int.reduceToNat];apply kf;refine⟨rfl,⟨l,?_,?_,?_,?_⟩⟩;all_goals ((simp only[fk,seval,-Int.reduceToNat,A]<;>rfl))
  ·rintro x t H e Z;rcases V with⟨d,h⟩;dsimp only at Z a;obtain⟨rfl,⟨n,Y⟩⟩:=Z;obtain⟨ai,w,a⟩:=ae a;have y:=bz (eI .i64) w;simp only[bG]at y;have M:=fE (eI .i64) (x':=d) (fo:=0) (cs:=[.int .i64 d]) w rfl (amV rfl);simp only[bG,Nat.add_zero]at M;have z:=M;simp only[putCells,List.length_cons,List.length_nil,amr]at z;have N:=q8 (h.set ((b.length:Int)).toNat d);simp only[anm]at N;obtain⟨aj,O,a⟩:=ae a;cases a;simp only[fk,seval,-Int.reduceToNat,Y,y,z,N,O]
 ·clear a;have a:=P;simp only[fk,seval,-Int.reduceToNat];apply sp ax a<;>intro _ a
  ·cases a;simp only[fk,seval,-Int.reduceToNat];rw[aF];refine⟨_,rfl,?_⟩;refine⟨?_,?_⟩;all_goals (rfl)
  ·cases a;simp only[fk,seval,-Int.reduceToNat];rw[aF];refine⟨_,rfl,?_⟩;refine⟨?_,?_⟩;all_goals (rfl)
def qD (l:Option (D×Row)) (d:List D):=ej (gj (jX (eI .i64)) (dM (jX (eI .i64)))) (fun x:(List Int)×(List Int)=>u4 x.1 x.2) (fun r:(List Int) =>.clean (.sl false false r.length (an (eI .i64) r))) l d
def DX:Env:=(Am.ext (Am.ext bk 55 false gw) 155 false gJ)
def U8:bV prog DX:=((bV.none.add jj false).add sf false)
def iY:=ai @w<|ai @dU<|ai @sh0<|ai @gJ.eq_1<|@DX.eq_1
def IU:ck prog 117 qD:=ck.iZ (mode := .clean) tok U8 mixed func117 (by kernel_rfl) (fun _ _=>rfl) (fun _=>by kernel_rfl) fun⟨M,D⟩ r a=>by
 replace a:u4 M D=some r:=a;apply aJ rfl ntmps117 results117;simp only[ja];unfold u4 at a;obtain⟨K,E,a⟩:=ae a;simp only[iY,seval,-Int.reduceToNat,E];obtain⟨F,q,a⟩:=ae a;refine az (fun s t H e=>match s with|(u,d,i)=>∃h:Nat,t 1=sI D∧t 5=.buf 5 h 1 0 (i).length∧t 6=sN u∧t 12=sN ((K).length:Int)∧t 13=sN d∧H 5=rW h 3 (an (eI .i64) i)) (fun o x t H e=>match o with|j=>x=.exit 0∧∃k:Nat,t 5=.buf 5 k 1 0 (j).length∧H 5=rW k 3 (an (eI .i64) j)) q ?_ ?_ ?_
 ·refine⟨1,?_,?_,?_,?_,?_,?_⟩;all_goals (rfl)
 ·rintro⟨u,d,i⟩ t H e ⟨h,p⟩ c a;simp only[xi]at a;simp only[iY,seval,-Int.reduceToNat,p];apply sp ax a<;>intro _ a
  ·obtain⟨N,l,a⟩:=ae a;have b:=bz (eI .i64) l;simp only[bG]at b;simp only[iY,seval,-Int.reduceToNat,p,b];obtain⟨G,v,a⟩:=ae a;refine qn 0 (fun s t H e=>match s with|f=>∃g:Nat,t 1=sI D∧t 5=.buf 5 g 1 0 (i).length∧t 7=sN d∧t 8=sN f∧t 12=sN ((K).length:Int)∧t 13=sN d∧H 5=rW g 3 (an (eI .i64) i)) (fun s=>s=G) ?_ ?_
   ·rintro f t H e ⟨g,w⟩ rfl;try dsimp only at a
    obtain⟨O,y,a⟩:=ae a;have I:=xM y;have b:=bz (eI .i64) l;simp only[bG]at b;have A:=fE (eI .i64) (x':=nN .and .i64 f 1048575) (fo:=0) (cs:=[.int .i64 (nN .and .i64 f 1048575)]) l rfl (amV rfl);simp only[bG,Nat.add_zero]at A;have m:=A;simp only[putCells,List.length_cons,List.length_nil,amr]at m;cases a;simp only[iY,seval,-Int.reduceToNat,w,I,b,m];apply iD;refine⟨g,?_⟩;and_intros<;>first|rfl|(simp only[iY,seval,-Int.reduceToNat,w]<;>rfl)
   ·clear a;have a:=v;simp only[iY,seval,-Int.reduceToNat];apply sp ax a<;>intro _ a
    ·obtain⟨P,B,a⟩:=ae a;have n:=bz (eI .i64) B;simp only[bG]at n;cases a;simp only[iY,seval,-Int.reduceToNat,p,b,n];rw[aF];refine⟨_,rfl,?_⟩;refine⟨h,?_⟩;and_intros<;>first|rfl|(simp only[iY,seval,-Int.reduceToNat,p]<;>rfl)
    ·cases a;simp only[iY,seval,-Int.reduceToNat];rw[aF];refine⟨_,rfl,?_⟩;refine⟨h,?_⟩;and_intros<;>first|rfl|(simp only[iY,seval,-Int.reduceToNat,p]<;>rfl)
  ·cases a;simp only[iY,seval,-Int.reduceToNat];apply kf;refine⟨rfl,⟨h,?_,?_⟩⟩;all_goals ((simp only[iY,seval,-Int.reduceToNat,p]<;>rfl))
 ·rintro x t H e L;obtain⟨j,rfl⟩:∃z,z=F:=⟨_,rfl⟩;dsimp only at L a;obtain⟨rfl,⟨k,J⟩⟩:=L;obtain⟨Q,C,a⟩:=ae a;cases a;simp only[iY,seval,-Int.reduceToNat,J,C]
def zU (l:Option (D×Row)) (d:List D):=ej (gj (bW je) (dM (bW je))) (fun x:aH×aH=>s8 x.1 x.2) (fun r:aH×aH×Int =>.clean (.tup [.agg [.int .i64 r.1.al,.sl false false r.1.aa.length (an (eI .i64) r.1.aa)],.agg [.int .i64 r.2.1.al,.sl false false r.2.1.aa.length (an (eI .i64) r.2.1.aa)],.int .i64 r.2.2])) l d
def aam (a:(List Int)) (b:(List Int)):tz none [.sl false false a.length (an (eI .i64) a),.sl false false b.length (an (eI .i64) b)]=(u3 a b).map fun r:(List Int)=>(.clean (.sl false false r.length (an (eI .i64) r)),none):=cF _ _ _ (a,b)
def DP:Env:=(Am.ext (Am.ext (Am.ext (Am.ext (Am.ext bk 103 false bZ) 113 false cU) 116 false tz) 117 false qD) 147 false qC)
def U0:bV prog DP:=(((((bV.none.add iK false).add lA false).add IQ false).add IU false).add IS false)
def fS:=ai @w<|ai @FI<|ai @bZ.eq_1<|ai @sh1<|ai @cU.eq_1<|ai @Yf<|ai @qD.eq_1<|ai @qC.eq_1<|@DP.eq_1
def Vp:ck prog 118 zU:=ck.iZ (mode := .clean) tok U0 mixed func118 (by kernel_rfl) (fun _ _=>rfl) (fun _=>by kernel_rfl) fun⟨o,p⟩ r a=>by
 replace a:s8 o p=some r:=a;apply aJ rfl ntmps118 results118;simp only[ja];unfold s8 at a;obtain⟨P,z,a⟩:=ae a;simp only[fS,seval,z];obtain⟨G,A,a⟩:=ae a;refine cQ 0 (fun s t H e=>match s with|m=>∃b:Nat,∃c:Nat,∃d:Nat,∃f:Nat,t 2=.ptr 2 b 0∧t 3=.ptr 3 c 0∧t 4=.ptr 4 d 0∧t 5=.ptr 5 f 0∧t 9=.bool m∧H 2=rV b 39 [sN o.al,sI o.aa]∧H 3=rV c 39 [sN p.al,sI p.aa]∧H 4=rV d 39 [sN 0,.sl true true 0 []]∧H 5=rV f 39 [sN 0,.sl true true 0 []]) (fun s=>s=G) ?_ ?_
 ·rintro m t H e ⟨b,c,d,f,g⟩ rfl;try dsimp only at a
  simp only[fS,seval,g];apply sp ax a<;>intro _ a
  ·cases a;simp only[fS,seval,g]
  ·simp only[fS,seval,g];apply sp ax a<;>intro _ a
   ·cases a;simp only[fS,seval,g]
   ·obtain⟨B,C,a⟩:=ae a;simp only[fS,seval,g,C];obtain⟨I,D,a⟩:=ae a;refine cQ 0 (fun s t H e=>match s with|h=>∃i:Nat,∃j:Nat,∃k:Nat,∃l:Nat,t 2=.ptr 2 i 0∧t 3=.ptr 3 j 0∧t 4=.ptr 4 k 0∧t 5=.ptr 5 l 0∧t 7=sI B.1∧t 8=sI B.2∧t 44=.bool h∧H 2=rV i 39 [sN o.al,sI o.aa]∧H 3=rV j 39 [sN p.al,sI p.aa]∧H 4=rV k 39 [sN 0,.sl true true 0 []]∧H 5=rV l 39 [sN 0,.sl true true 0 []]) (fun s=>s=I) ?_ ?_
    ·rintro h t H e ⟨i,j,k,l,n⟩ rfl;try dsimp only at a
     simp only[fS,seval,n];apply sp ax a<;>intro _ a
     ·have F:=aam B.1 ([1]);simp only[ch,bG,List.length_cons,amr]at F;obtain⟨Q,E,a⟩:=ae a;obtain⟨J,q,a⟩:=ae a;obtain⟨K,u,a⟩:=ae a;obtain⟨L,v,a⟩:=ae a;simp only[fS,seval,n,F,E,q,u,v];refine bP (by kernel_rfl) ?_;cases a;simp only[seval]
     ·obtain⟨M,w,a⟩:=ae a;obtain⟨N,x,a⟩:=ae a;simp only[fS,seval,n,w,x];refine bP (by kernel_rfl) ?_;cases a;simp only[seval]
    ·clear a;have a:=D;simp only[fS,seval];apply sp gB a<;>intro _ a
     ·cases a;simp only[fS,seval];rw[aF];refine⟨_,rfl,?_⟩;refine⟨b,c,d,f,?_⟩;and_intros<;>first|rfl|(simp only[fS,seval,g]<;>rfl)
     ·cases a;simp only[fS,seval];rw[aF];refine⟨_,rfl,?_⟩;refine⟨b,c,d,f,?_⟩;and_intros<;>first|rfl|(simp only[fS,seval,g]<;>rfl)
 ·clear a;have a:=A;simp only[fS,seval];apply sp bQ a<;>intro _ a
  ·cases a;simp only[fS,seval];rw[aF];refine⟨_,rfl,?_⟩;refine⟨0,0,0,0,?_,?_,?_,?_,?_,?_,?_,?_,?_⟩;all_goals (rfl)
  ·obtain⟨O,y,a⟩:=ae a;cases a;simp only[fS,seval,y];rw[aF];refine⟨_,rfl,?_⟩;refine⟨0,0,0,0,?_,?_,?_,?_,?_,?_,?_,?_,?_⟩;all_goals (rfl)
def gK (l:Option (D×Row)) (d:List D):=ej (gj (bW je) (dM (bW je))) (fun x:aH×aH=>pP x.1 x.2) (fun r:ah×Int =>.clean (.tup [.agg [.int .i64 r.1.bn.al,.sl false false r.1.bn.aa.length (an (eI .i64) r.1.bn.aa),.int .i64 r.1.bu.al,.sl false false r.1.bu.aa.length (an (eI .i64) r.1.bu.aa)],.int .i64 r.2])) l d
def By:Env:=(Am.ext (Am.ext (Am.ext (Am.ext bk 71 false iT) 103 false bZ) 104 false qB) 118 false zU)
def Rp:bV prog By:=((((bV.none.add xC false).add iK false).add IP false).add Vp false)
def fK:=ai @w<|ai @FI<|ai @iT.eq_1<|ai @bZ.eq_1<|ai @M9<|ai @qB.eq_1<|ai @zU.eq_1<|@By.eq_1
def vo:ck prog 63 gK:=ck.iZ (mode := .clean) tok Rp mixed func63 (by kernel_rfl) (fun _ _=>rfl) (fun _=>by kernel_rfl) fun⟨u,v⟩ r a=>by
 replace a:pP u v=some r:=a;apply aJ rfl ntmps63 results63;simp only[ja];unfold pP at a;obtain⟨J,w,a⟩:=ae a;simp only[fK,seval,w];obtain⟨D,x,a⟩:=ae a;refine cQ 0 (fun s t H e=>match s with|k=>∃b:Nat,∃c:Nat,∃d:Nat,t 2=.ptr 2 b 0∧t 3=.ptr 3 c 0∧t 4=.ptr 4 d 0∧t 14=.bool k∧H 2=rV b 39 [sN u.al,sI u.aa]∧H 3=rV c 39 [sN v.al,sI v.aa]∧H 4=rV d 41 [sN 0,.sl true true 0 [],sN 0,.sl true true 0 []]) (fun s=>s=D) ?_ ?_
 ·rintro k t H e ⟨b,c,d,f⟩ rfl;try dsimp only at a
  simp only[fK,seval,f];apply sp ax a<;>intro _ a
  ·cases a;simp only[fK,seval,f]
  ·simp only[fK,seval,f];apply sp ax a<;>intro _ a
   ·cases a;simp only[fK,seval,f]
   ·simp only[fK,seval,f];obtain⟨E,y,a⟩:=ae a;refine qn 0 (fun s t H e=>match s with|(g,h,i,j)=>∃l:Nat,∃m:Nat,∃n:Nat,t 2=.ptr 2 l 0∧t 3=.ptr 3 m 0∧t 4=.ptr 4 n 0∧H 2=rV l 39 [sN g,sI h]∧H 3=rV m 39 [sN i,sI j]∧H 4=rV n 41 [sN 0,.sl true true 0 [],sN 0,.sl true true 0 []]) (fun s=>s=E) ?_ ?_
    ·rintro⟨g,h,i,j⟩ t H e ⟨l,m,n,z⟩ rfl;try dsimp only at a
     obtain⟨K,A,a⟩:=ae a;obtain⟨L,B,a⟩:=ae a;obtain⟨M,C,a⟩:=ae a;cases a;simp only[fK,seval,z,A,B,C]
    ·clear a;have a:=y;simp only[fK,seval];apply sp ax a<;>intro _ a
     ·obtain⟨F,o,a⟩:=ae a;obtain⟨G,p,a⟩:=ae a;simp only[fK,seval,f,o,p];refine bP (by kernel_rfl) ?_;cases a;rw[aF];refine⟨_,rfl,?_⟩;refine⟨b,c,d,?_⟩;and_intros<;>first|rfl|(simp only[fK,seval,f]<;>rfl)
     ·cases a;simp only[fK,seval];rw[aF];refine⟨_,rfl,?_⟩;refine⟨b,c,d,?_,?_,?_,?_,?_,?_⟩;all_goals ((simp only[fK,seval,f]<;>rfl))
 ·clear a;have a:=x;simp only[fK,seval];apply sp bQ a<;>intro _ a
  ·cases a;simp only[fK,seval];rw[aF];refine⟨_,rfl,?_⟩;refine⟨0,0,0,?_,?_,?_,?_,?_,?_,?_⟩;all_goals (rfl)
  ·obtain⟨I,q,a⟩:=ae a;cases a;simp only[fK,seval,q];rw[aF];refine⟨_,rfl,?_⟩;refine⟨0,0,0,?_,?_,?_,?_,?_,?_,?_⟩;all_goals (rfl)
def iU (l:Option (D×Row)) (d:List D):=ej (gj (aI .i64) (dM (aI .i64))) (fun x:Int×Int=>pQ x.1 x.2) (fun r:ah×Int =>.clean (.tup [.agg [.int .i64 r.1.bn.al,.sl false false r.1.bn.aa.length (an (eI .i64) r.1.bn.aa),.int .i64 r.1.bu.al,.sl false false r.1.bu.aa.length (an (eI .i64) r.1.bu.aa)],.int .i64 r.2])) l d
def DY:Env:=(Am.ext (Am.ext bk 61 false tK) 63 false gK)
def U9:bV prog DY:=((bV.none.add MJ false).add vo false)
def aaW:=ai @w<|ai @FH<|ai @tK.eq_1<|ai @M9<|ai @gK.eq_1<|@DY.eq_1
def xD:ck prog 57 iU:=ck.iZ (mode := .clean) tok U9 mixed func57 (by kernel_rfl) (fun _ _=>rfl) (fun _=>by kernel_rfl) fun⟨e,f⟩ r a=>by
 replace a:pQ e f=some r:=a;apply aJ rfl ntmps57 results57;simp only[ja];unfold pQ at a;obtain⟨g,b,a⟩:=ae a;obtain⟨h,c,a⟩:=ae a;obtain⟨i,d,a⟩:=ae a;cases a;simp only[aaW,seval,b,c,d]
def tM (l:Option (D×Row)) (d:List D):=ej (gj (aI .i64) (dM (aI .i64))) (fun x:Int×Int=>um x.1 x.2) (fun r:ah =>.clean (.agg [.int .i64 r.bn.al,.sl false false r.bn.aa.length (an (eI .i64) r.bn.aa),.int .i64 r.bu.al,.sl false false r.bu.aa.length (an (eI .i64) r.bu.aa)])) l d
def HQ:Env:=(Am.ext bk 57 false iU)
def ZI:bV prog HQ:=(bV.none.add xD false)
def aeC:=ai @w<|ai @M8<|ai @iU.eq_1<|@HQ.eq_1
def ML:ck prog 18 tM:=ck.iZ (mode := .clean) tok ZI mixed func18 (by kernel_rfl) (fun _ _=>rfl) (fun _=>by kernel_rfl) fun⟨c,d⟩ r a=>by
 replace a:um c d=some r:=a;apply aJ rfl ntmps18 results18;simp only[ja];unfold um at a;obtain⟨e,b,a⟩:=ae a;cases a;simp only[aeC,seval,b]
def rq (l:Option (D×Row)) (d:List D):=ej (as0) (fun x:Unit=>vd) (fun r:bf×(List (List ah)) =>.clean (.tup [.agg [.sl false false r.1.aw.length (an (eI .i64) r.1.aw),.sl false false r.1.au.length (an b7 r.1.au)],.sl false false r.2.length (an (fL ak) r.2)])) l d
def sh9 {β:Type} {F:Unit->Option β} {R:β->RK} : ej (as0) F R none []=(F (())).map fun r=>(R r,none):=cF _ _ _ (())
def vO:Env:=(Am.ext bk 18 false tM)
def HY:bV prog vO:=(bV.none.add ML false)
def A8:=ai @w<|ai @M8<|ai @tM.eq_1<|@vO.eq_1
def IX:ck prog 37 rq:=ck.iZ (mode := .clean) tok HY mixed func37 (by kernel_rfl) (fun _ _=>rfl) (fun _=>by kernel_rfl) fun _ r a=>by
 replace a:vd=some r:=a;apply aJ rfl ntmps37 results37;simp only[ja];unfold vd at a;obtain⟨f,b,a⟩:=ae a;obtain⟨g,c,a⟩:=ae a;obtain⟨h,d,a⟩:=ae a;obtain⟨i,e,a⟩:=ae a;simp only[A8,seval,b,c,d,e];refine bP (by kernel_rfl) ?_;cases a;simp only[A8,seval]
def dC (l:Option (D×Row)) (d:List D):=ej (gj (aI .i64) (gj (aI .i64) (dM (aI .i64)))) (fun x:Int×Int×Int=>fH x.1 x.2.1 x.2.2) (fun r:Bool =>.clean (.bool r)) l d
def Ky {β:Type} {F:Int×Int×Int->Option β} {R:β->RK} (a:Int) (b:Int) (c:Int):ej (gj (aI .i64) (gj (aI .i64) (dM (aI .i64)))) F R none [.int .i64 a,.int .i64 b,.int .i64 c]=(F (a,b,c)).map fun r=>(R r,none):=cF _ _ _ (a,b,c)
def nV:ck prog 81 dC:=ck.iZ (mode := .clean) tok bV.none mixed func81 (by kernel_rfl) (fun _ _=>rfl) (fun _=>by kernel_rfl) fun⟨b,c,d⟩ r a=>by
 replace a:fH b c d=some r:=a;apply aJ rfl ntmps81 results81;simp only[ja];unfold fH at a;simp only[w,seval];apply sp gB a<;>intro _ a
 ·cases a;simp only[w,seval]
 ·cases a;simp only[w,seval]
def cd (l:Option (D×Row)) (d:List D):=ej (dM (aI .i64)) (fun x:Int=>fb x) (fun r:ah =>.clean (.agg [.int .i64 r.bn.al,.sl false false r.bn.aa.length (an (eI .i64) r.bn.aa),.int .i64 r.bu.al,.sl false false r.bu.aa.length (an (eI .i64) r.bu.aa)])) l d
def Bv:Env:=(Am.ext bk 61 false tK)
def Rm:bV prog Bv:=(bV.none.add MJ false)
def Wf:=ai @w<|ai @FH<|ai @tK.eq_1<|@Bv.eq_1
def iQ:ck prog 21 cd:=ck.iZ (mode := .clean) tok Rm mixed func21 (by kernel_rfl) (fun _ _=>rfl) (fun _=>by kernel_rfl) fun d r a=>by
 replace a:fb d=some r:=a;apply aJ rfl ntmps21 results21;simp only[ja];unfold fb at a;obtain⟨e,b,a⟩:=ae a;obtain⟨f,c,a⟩:=ae a;cases a;simp only[Wf,seval,b,c]
def zV (l:Option (D×Row)) (d:List D):=ej (dM (bW je)) (fun x:aH=>z7 x) (fun r:Int×Bool =>.clean (.tup [.int .i64 r.1,.bool r.2])) l d
def DR:Env:=(Am.ext bk 103 false bZ)
def U2:bV prog DR:=(bV.none.add iK false)
def cg:=ai @w<|ai @FI<|ai @bZ.eq_1<|@DR.eq_1
def Vq:ck prog 148 zV:=ck.iZ (mode := .clean) tok U2 mixed func148 (by kernel_rfl) (fun _ _=>rfl) (fun _=>by kernel_rfl) fun d r a=>by
 replace a:z7 d=some r:=a;apply aJ rfl ntmps148 results148;simp only[ja];unfold z7 at a;obtain⟨R,G,a⟩:=ae a;simp only[cg,seval,-Int.reduceToNat,G];obtain⟨O,I,a⟩:=ae a;refine cQ 0 (fun s t H e=>match s with|j=>∃f:Nat,t 1=.ptr 1 f 0∧t 15=.bool j∧H 1=rV f 39 [sN d.al,sI d.aa]) (fun s=>s=O) ?_ ?_
 ·rintro j t H e ⟨f,v⟩ rfl;try dsimp only at a
  simp only[cg,seval,-Int.reduceToNat,v];apply sp ax a<;>intro _ a
  ·cases a;simp only[cg,seval,-Int.reduceToNat]
  ·simp only[cg,seval,-Int.reduceToNat,v];obtain⟨J,z,a⟩:=ae a;refine az (fun s t H e=>match s with|(w,g)=>∃i:Nat,t 1=.ptr 1 i 0∧t 4=.int .u64 w∧t 17=sI d.aa∧t 18=sN (d.aa.length:Int)∧t 19=sN g∧H 1=rV i 39 [sN d.al,sI d.aa]) (fun o x t H e=>match o with|(.inl k)=>x=.exit 0∧∃b:Nat,t 1=.ptr 1 b 0∧t 4=.int .u64 k∧H 1=rV b 39 [sN d.al,sI d.aa]|(.inr r)=>x=.ret∧gG .clean tab none [.tmp 2,.tmp 3] ⟨t,EH H,e⟩=some (.clean (.tup [.int .i64 r.1,.bool r.2]),none)) z ?_ ?_ ?_
   ·refine⟨f,?_⟩;and_intros<;>first|rfl|(simp only[cg,seval,-Int.reduceToNat,v]<;>rfl)
   ·rintro⟨w,g⟩ t H e ⟨i,A⟩ c a;simp only[xa]at a;simp only[cg,seval,-Int.reduceToNat,A];apply sp ax a<;>intro _ a
    ·obtain⟨K,B,a⟩:=ae a;have u:=bz (eI .i64) B;simp only[bG]at u;simp only[cg,seval,-Int.reduceToNat,A,u];obtain⟨L,C,a⟩:=ae a;refine cQ 0 (fun s t H e=>match s with|l=>∃h:Nat,t 1=.ptr 1 h 0∧t 4=.int .u64 w∧t 5=sN g∧t 6=sN K∧t 17=sI d.aa∧t 18=sN (d.aa.length:Int)∧t 19=sN g∧t 29=.bool l∧H 1=rV h 39 [sN d.al,sI d.aa]) (fun s=>s=L) ?_ ?_
     ·rintro l t H e ⟨h,y⟩ rfl;try dsimp only at a
      simp only[cg,seval,-Int.reduceToNat,y];apply sp ax a<;>intro _ a
      ·cases a;simp only[cg,seval,-Int.reduceToNat];refine uq ⟨rfl,?_⟩;simp only[cg,seval,-Int.reduceToNat]
      ·obtain⟨P,D,a⟩:=ae a;have M:=Gr D;cases a;simp only[cg,seval,-Int.reduceToNat,y,M];apply iD;refine⟨h,?_⟩;and_intros<;>first|rfl|(simp only[cg,seval,-Int.reduceToNat,y]<;>rfl)
     ·clear a;have a:=C;simp only[cg,seval,-Int.reduceToNat];apply sp gB a<;>intro _ a
      ·cases a;simp only[cg,seval,-Int.reduceToNat];rw[aF];refine⟨_,rfl,?_⟩;refine⟨i,?_⟩;and_intros<;>first|rfl|(simp only[cg,seval,-Int.reduceToNat,A]<;>rfl)
      ·cases a;simp only[cg,seval,-Int.reduceToNat];rw[aF];refine⟨_,rfl,?_⟩;refine⟨i,?_⟩;and_intros<;>first|rfl|(simp only[cg,seval,-Int.reduceToNat,A]<;>rfl)
    ·cases a;simp only[cg,seval,-Int.reduceToNat];apply kf;refine⟨rfl,⟨i,?_,?_,?_⟩⟩;all_goals ((simp only[cg,seval,-Int.reduceToNat,A]<;>rfl))
   ·rintro x t H e F;rcases J with k|S
    ·dsimp only at F a;obtain⟨rfl,⟨b,q⟩⟩:=F;simp only[cg,seval,-Int.reduceToNat,q];obtain⟨N,E,a⟩:=ae a;refine cQ 0 (fun s t H e=>match s with|m=>∃n:Nat,t 1=.ptr 1 n 0∧t 4=.int .u64 k∧t 38=.bool m∧H 1=rV n 39 [sN d.al,sI d.aa]) (fun s=>s=N) ?_ ?_
     ·rintro m t H e ⟨n,p⟩ rfl;try dsimp only at a
      simp only[cg,seval,-Int.reduceToNat,p];apply sp ax a<;>intro _ a
      ·cases a;simp only[cg,seval,-Int.reduceToNat,p]
      ·simp only[cg,seval,-Int.reduceToNat,p];apply sp gB a<;>intro _ a
       ·simp only[cg,seval,-Int.reduceToNat,p];apply sp ax a<;>intro _ a
        ·cases a;simp only[cg,seval,-Int.reduceToNat,p]
        ·cases a;simp only[cg,seval,-Int.reduceToNat]
       ·cases a;simp only[cg,seval,-Int.reduceToNat]
     ·clear a;have a:=E;simp only[cg,seval,-Int.reduceToNat];apply sp gB a<;>intro _ a
      ·cases a;simp only[cg,seval,-Int.reduceToNat,q];rw[aF];refine⟨_,rfl,?_⟩;refine⟨b,?_⟩;and_intros<;>first|rfl|(simp only[cg,seval,-Int.reduceToNat,q]<;>rfl)
      ·cases a;simp only[cg,seval,-Int.reduceToNat];rw[aF];refine⟨_,rfl,?_⟩;refine⟨b,?_⟩;and_intros<;>first|rfl|(simp only[cg,seval,-Int.reduceToNat,q]<;>rfl)
    ·dsimp only at F a;obtain⟨rfl,Q⟩:=F;cases a;simp only[bd,bj,cL,cR];exact Q
 ·clear a;have a:=I;simp only[cg,seval,-Int.reduceToNat];apply sp bQ a<;>intro _ a
  ·cases a;simp only[cg,seval,-Int.reduceToNat];rw[aF];refine⟨_,rfl,?_⟩;refine⟨0,?_,?_,?_⟩;all_goals (rfl)
  ·cases a;simp only[cg,seval,-Int.reduceToNat];rw[aF];refine⟨_,rfl,?_⟩;refine⟨0,?_,?_,?_⟩;all_goals (rfl)
def wV (l:Option (D×Row)) (d:List D):=ej (dM (bW je)) (fun x:aH=>wz x) (fun r:Bool =>.clean (.bool r)) l d
def BA:Env:=(Am.ext bk 148 false zV)
def Rr:bV prog BA:=(bV.none.add Vq false)
def B9:=ai @w<|ai @FI<|ai @zV.eq_1<|@BA.eq_1
def SQ:ck prog 105 wV:=ck.iZ (mode := .clean) tok Rr mixed func105 (by kernel_rfl) (fun _ _=>rfl) (fun _=>by kernel_rfl) fun c r a=>by
 replace a:wz c=some r:=a;apply aJ rfl ntmps105 results105;simp only[ja];unfold wz at a;obtain⟨d,b,a⟩:=ae a;simp only[B9,seval,b];apply sp gB a<;>intro _ a
 ·cases a;simp only[B9,seval]
 ·cases a;simp only[B9,seval]
def aV (l:Option (D×Row)) (d:List D):=ej (dM (bW ak)) (fun x:ah=>cK x) (fun r:Bool =>.clean (.bool r)) l d
def iX {β:Type} {F:ah->Option β} {R:β->RK} (c:Int) (a:(List Int)) (d:Int) (b:(List Int)):ej (dM (bW ak)) F R none [.agg [.int .i64 c,.sl false false a.length (an (eI .i64) a),.int .i64 d,.sl false false b.length (an (eI .i64) b)]]=(F ((ah.mk (aH.mk c a) (aH.mk d b)))).map fun r=>(R r,none):=cF _ _ _ ((ah.mk (aH.mk c a) (aH.mk d b)))
def xq:Env:=(Am.ext (Am.ext (Am.ext bk 103 false bZ) 104 false qB) 105 false wV)
def Kb:bV prog xq:=(((bV.none.add iK false).add IP false).add SQ false)
def gC:=ai @w<|ai @FI<|ai @bZ.eq_1<|ai @M9<|ai @qB.eq_1<|ai @wV.eq_1<|@xq.eq_1
def dS:ck prog 54 aV:=ck.iZ (mode := .clean) tok Kb mixed func54 (by kernel_rfl) (fun _ _=>rfl) (fun _=>by kernel_rfl) fun d r a=>by
 replace a:cK d=some r:=a;apply aJ rfl ntmps54 results54;simp only[ja];unfold cK at a;obtain⟨m,g,a⟩:=ae a;simp only[gC,seval,g];obtain⟨l,h,a⟩:=ae a;refine cQ 0 (fun s t H e=>match s with|b=>∃c:Nat,t 1=.ptr 1 c 0∧t 20=.bool b∧H 1=rV c 41 [sN d.bn.al,sI d.bn.aa,sN d.bu.al,sI d.bu.aa]) (fun s=>s=l) ?_ ?_
 ·rintro b t H e ⟨c,f⟩ rfl;try dsimp only at a
  simp only[gC,seval,f];apply sp ax a<;>intro _ a
  ·cases a;simp only[gC,seval]
  ·obtain⟨n,i,a⟩:=ae a;simp only[gC,seval,f,i];apply sp gB a<;>intro _ a
   ·obtain⟨o,j,a⟩:=ae a;cases a;simp only[gC,seval,j]
   ·cases a;simp only[gC,seval]
 ·clear a;have a:=h;simp only[gC,seval];apply sp bQ a<;>intro _ a
  ·cases a;simp only[gC,seval];rw[aF];refine⟨_,rfl,?_⟩;refine⟨0,?_,?_,?_⟩;all_goals (rfl)
  ·obtain⟨p,k,a⟩:=ae a;simp only[gC,seval,k];apply sp bQ a<;>intro _ a
   ·cases a;simp only[gC,seval];rw[aF];refine⟨_,rfl,?_⟩;refine⟨0,?_,?_,?_⟩;all_goals (rfl)
   ·cases a;simp only[gC,seval];rw[aF];refine⟨_,rfl,?_⟩;refine⟨0,?_,?_,?_⟩;all_goals (rfl)
def b6 (l:Option (D×Row)) (d:List D):=ej (dM (bW ak)) (fun x:ah=>fP x) (fun r:Int =>.clean (.int .i64 r)) l d
def ze:Env:=(Am.ext bk 54 false aV)
def On:bV prog ze:=(bV.none.add dS false)
def zQ:=ai @w<|ai @iX<|ai @aV.eq_1<|@ze.eq_1
def iL:ck prog 24 b6:=ck.iZ (mode := .clean) tok On mixed func24 (by kernel_rfl) (fun _ _=>rfl) (fun _=>by kernel_rfl) fun c r a=>by
 replace a:fP c=some r:=a;apply aJ rfl ntmps24 results24;simp only[ja];unfold fP at a;obtain⟨d,b,a⟩:=ae a;simp only[zQ,seval,b];apply sp ax a<;>intro _ a
 ·cases a;simp only[zQ,seval]
 ·cases a;simp only[zQ,seval]
section
variable {P:Program} {T:Nat->Option Ty} {N F:Nat} {M:Nat->Prop} {L:lG} {w0:World} {blk:Nat->Option (Nat×Nat)} {t:Nat->D} {h:Nat->Option Row} {a:Act} {w:World} {e:Nat} {Γ:Env} {done:List Nat}
def Ie (d:w7 N M L w0 blk e done t h a w):Holds N M L w0 ⟨t,h,e+1⟩ a w:=by
 refine⟨blk,d.inv.weaken fun x v c =>?_,fun x r f s g i j k l m =>?_⟩
 ·rcases c with⟨b,c|⟨c,_⟩⟩|⟨b,o,p,n⟩
  ·exact .inl ⟨b,.inl (by simp only;omega)⟩
  ·exact .inl ⟨b,.inl (by simp only;omega)⟩
  ·exact .inr ⟨b,by simp only;omega,fun _=>by simp only;omega,n⟩
 ·have:=d.nv x r f s g i j k l m;grind
def Jh (p:ke P T) (q:bV P Γ) {b l:List Oper} {K:(Nat->D)->(Nat->Option Row)->Prop} {Q:Exit->Act->World->Prop} (r:w7 N M L w0 blk e done t h a w) (j:(l.filterMap (·.dst)).Nodup) (s:∀o∈l,∀d,o.dst=some d->d∉done)
  (u:nH T Γ N F b l [] (fun _ t h _=>K t h) t h e) (hQ:∀c f g i,K c f->Holds N M L w0 ⟨c,f,e+1⟩ g i->Q .normal g i):wpList P b.toArray Q l a w:=by
 obtain⟨c,f,y,v,x⟩:=Df (T:=T) (Γ:=Γ) (N:=N) (e:=e) (ops:=b.toArray) l t h u;exact B6 p q v j s r fun g i n k m=>hQ c f g i x (Ie m)
def acM (p:ke P T) (q:bV P Γ) {b l:List Oper} {o:Oper} {K:(Nat->D)->(Nat->Option Row)->Prop} {Q:Exit->Act->World->Prop} (r:w7 N M L w0 blk e done t h a w) (s:∀d,o.dst=some d->d∉done)
  (u:nH T Γ N F b [o] [] (fun _ t h _=>K t h) t h e) (hQ:∀i j k m c,K i j->w7 N M L w0 c e (o.dst.toList++done) i j k m->wpList P b.toArray Q l k m):wpList P b.toArray Q (o::l) a w:=by
 obtain⟨i,j,z,g,v⟩:=Df (T:=T) (Γ:=Γ) (N:=N) (e:=e) (ops:=b.toArray) [o] t h u;simp only[Ew]at g;split at g
 ·rename_i t1 x f y;simp only[alz,Prod.mk.injEq]at g;obtain⟨rfl,rfl,_⟩:=g;unfold wpList;exact Pe p q r y s fun k m c n=>hQ _ _ _ _ c v n
 ·cases g
def Cp (m:ke P T) (n:bV P Γ) (o:P.follows .mixedOrders=true) {c:Code} {K:Kt} {Q:Exit->Act->World->Prop} (p:Holds N M L w0 ⟨t,h,e⟩ a w) (g:codeOk c=true) (q:eh T Γ N F [.code c] K .normal t h e)
  (hQ:∀x j k l b d,K x j k l->Holds N M L w0 ⟨j,k,l⟩ b d->Q (HJ x) b d):c.wp P Q a w:=by
 obtain⟨x,f,r,s⟩:=EL c t h e K q;exact kL m n o c ⟨t,h,e⟩ x f Q a w r g p fun b d i=>hQ x f.t f.h f.e b d s i
def jJ.maps {a:Nat->Option Row} (l:∀x,a x=h x∨∃v c d f g b,a x=some ⟨v,c,[.mpc d f],g,b,true⟩):jJ e h a:=by
 intro x m i n j k o p q r;grind
def acB {d:Nat} (b:d<N) (f:N<=PK) (c:d∉done):kZ N (VE N e done h) d e where
 no:=by
  rintro (⟨_,a|⟨_,a⟩⟩|⟨a,_⟩)
  ·omega
  ·exact c a
  omega
 lt:=b
end
def map_eraseIdx {α β:Type} (f:α->β):∀(l:List α) (j:Nat),(l.map f).eraseIdx j=(l.eraseIdx j).map f
 | [],_=>rfl
 | a::l,0=>rfl
 | a::l,j+1=>by simp[map_eraseIdx f l j]
def CZ {α:Type} : ∀m:List ((Int×Int)×α),fQ m=m.map fun q=>EP.k q.1
 | []=>rfl
 | (k,v)::m=>by simp[fQ,CZ m]
def Ix {α:Type} (A:Arg α):∀m:List ((Int×Int)×α),iJ A m=m.map fun q=>A.d q.2
 | []=>rfl
 | (k,v)::m=>by simp[iJ,Ix A m]
def I6 {α:Type} : ∀ {l:List α} {j:Nat} {q:α},l[j]? = some q->l.Perm (q::l.eraseIdx j)
 | [],_,_,h=>by simp at h
 | a::l,0,q,h=>by simp_all
 | a::l,j+1,q,h=>by
  simp only[List.getElem?_cons_succ]at h;exact ((I6 h).cons a).trans (List.Perm.swap q a _)
def kH (q:(Int×Int)×ah):cN:=cN.mk q.1.1 q.1.2 q.2
def aiA (r:ik×Int) (t:Nat->D) (h:Nat->Option Row) (e:Nat):Prop:=∃(m:List ((Int×Int)×ah)) (a:Int) (b c d f:Nat),t 6=.mp 21 b∧h 21=some ⟨b,113,[.mpc (fQ m) (iJ (bW ak) m)],false,true,true⟩ ∧
 t 9=.ptr 9 c 0∧h 9=some ⟨c,66,[.nr 118 6 f [.int .i64 a,.nx 0 []]],false,false,true⟩∧t 2=.ptr 2 d 0∧h 2=some ⟨d,66,[.int .i64 0,.sl true true 0 []],false,false,false⟩∧f<=4*e∧Gn a m=some r
def GC:=mkW 118 cD (dM (PE 67)) (fun (l:List cN) (_:Unit)=>FJ (lQ cN.dA cN.lH) l) (fun _:Unit =>.clean (.tup []))
def adF (b a:List D) (c:List cN):GC (some (.buf 0 0 6 b.length c.length,⟨0,118,b++(an cD c++a),false,true,false⟩)) [.fn 67]=(FJ (lQ cN.dA cN.lH) c).map fun r=>(.clean (.tup []),some ⟨0,118,b++(an cD r.1++a),false,true,false⟩):=Vm _ _ _ _ _ b a c ()
def aae:ck prog 66 GC:=OS y3 (fun x=>by rw[th];rfl) (fun x=>by rw[th];rfl) 118
def UY:Env:=(Am.yu 9 (118,6,1) (Am.ext bk 66 true GC))
def va:bV prog UY:=bV.yu (bV.none.add aae true) 9 (118,6,1)
def zR:=ai @w<|@UY.eq_1
def Wk (m:List ((Int×Int)×ah)) (a:Int) (d:List ((Int×Int)×ah)) (t:Nat->D) (h:Nat->Option Row) (e:Nat):Prop:=∃(f:List eB) (g:List D) (b:List cN) (i c j k l:Nat),
 t 44=.ptr 44 i 0∧h 44=some ⟨i,c,[.mpc f g],false,true,true⟩∧900000<=c∧f.drop (c-900000)=fQ d∧g.drop (c-900000)=iJ (bW ak) d ∧
 t 9=.ptr 9 j 0∧h 9=some ⟨j,66,[.nr 118 6 l [.int .i64 a,.nx b.length (an cD b)]],false,false,true⟩∧t 2=.ptr 2 k 0∧h 2=some ⟨k,66,[.int .i64 0,.sl true true 0 []],false,false,false⟩∧l<=4*e∧(b++d.map kH).Perm (m.map kH)
def afz {m:List ((Int×Int)×ah)} {c:Int} (A:m.length<=8000∧(m.map (·.1)).Nodup) {t:Nat->D} {h:Nat->Option Row} {e:Nat} {w0:World} {M:Nat->Prop} {a:Act} {w:World} (B:Wk m c [] t h e) (C:Holds 65 M none w0 ⟨t,h,e⟩ a w) :
  (ED 0 (ED 5 (abB Tryz.f26))).wp prog (bodyPost prog Tryz.f26 fun e n=>∃v,e=.returned v∧Below w0.heap.size w0 n∧yC w0 n M (fun _=>False) v (.clean (.tup [.agg [.int .i64 c,.sl false false (sS (lQ cN.dA cN.lH) (m.map kH)).length (an cD (sS (lQ cN.dA cN.lH) (m.map kH)))],.int .i64 0]))) a w:=by
 obtain⟨Z,vs,b,vI,ty,v9,v2,nv,i1,i2,i3,i4,i5,E,G,H,I,J,d⟩:=B;rw[amb,am6]at d;have hkey:∀x∈b,∀y∈b,lQ cN.dA cN.lH x y=0->x=y:=by
  intro x o y r L;obtain⟨p,N,rfl⟩:=alp.1 (d.mem_iff.1 o);obtain⟨q,O,rfl⟩:=alp.1 (d.mem_iff.1 r);obtain⟨P,Q⟩:=VU.1 L;have R:p.1=q.1:=Prod.ext P Q;have:p=q:=by
   obtain⟨i,S,rfl⟩:=ant N;obtain⟨j,T,rfl⟩:=ant O;have:=(List.getElem_inj (h₀:=by simpa using S) (h₁:=by simpa using T) A.2).1 (by simpa using R);subst this;rfl
  rw[this]
 have s:sS (lQ cN.dA cN.lH) b=sS (lQ cN.dA cN.lH) (m.map kH):=by
  refine rK (((j8 _ b).trans d).trans (j8 _ _).symm) (fun x o y r h1 h2=>hkey x ((j8 _ b).mem_iff.1 o) y ((j8 _ b).mem_iff.1 r) ?_) (pT (zM _ _) _) (pT (zM _ _) _);have:=(zM cN.dA cN.lH).neg x y;omega
 have f:b.length=m.length:=by rw[d.length_eq,alU]
 have u:FJ (lQ cN.dA cN.lH) b=some (sS (lQ cN.dA cN.lH) (m.map kH),()):=by
  unfold FJ;grind
 have g:(sS (lQ cN.dA cN.lH) (m.map kH)).length=b.length:=by rw[qT,alU,f]
 generalize sS (lQ cN.dA cN.lH) (m.map kH)=k at u g ⊢;have z:=adF [] [] b;simp only[List.nil_append,am6,List.length_nil,bG]at z;refine (show (Code.seq (Code.region _ _ _) (Code.seq (Code.region _ _ _) Code.ret)).wp _ _ _ _ from ?_);refine Cp (F:=FU) tok va mixed C (by kernel_rfl) (K:=fun x t h e=>x=.ret∧gG .clean tab none [.cell 2 66,.tmp 3] ⟨t,EH h,e⟩=some (.clean (.tup [.agg [.int .i64 c,.sl false false k.length (an cD k)],.int .i64 0]),none)) ?_ ?_
 ·simp only[zR,seval,E,G,H,I,z,u,g]
 ·rintro x U V W X n ⟨rfl,hr⟩ Y;have l:Holds Tryz.f26.ntmps M none w0 ⟨U,V,W⟩ X n:=by simp_all
  exact LW tok l (by simp_all)
def ads (r:ik×Int):PN prog Tryz.f26 (ED 5 (abB Tryz.f26)) (.clean (.tup [.agg [.int .i64 r.1.aC,.sl false false r.1.bq.length (an cD r.1.bq)],.int .i64 r.2])) (aiA r):=by
 intro w0 M s a w hJ E;obtain⟨t0,h0,H⟩:=s;obtain⟨m,c,g,z,A,O,j1,j2,j3,j4,j5,j6,j7,hr⟩:=hJ;dsimp only at j1 j2 j3 j4 j5 j6 j7;unfold Gn at hr
 by_cases hc:m.length<=8000∧(m.map (·.1)).Nodup
 rotate_left
 ·simp_all
 rw[if_pos hc]at hr;cases hr;rw[ntmps26]at E;apply wp_seq;apply wp_seq;obtain⟨blk,B⟩:=E;apply wp_region_lit;refine acM (F:=FU) tok va B (fun d _=>by simp) (K:=fun t h=>t=cq t0 43 (.mp 21 g)∧h=h0) (by simp only[zR,seval,j1,j2]) ?_;rintro t1 h1 a1 w1 aj ⟨rfl,rfl⟩ G;refine DF rfl G (by decide) (K:=fun t h=>t=cq (cq t0 43 (.mp 21 g)) 44 (.ptr 44 H 0)∧h=cq (cq h1 21 (some ⟨g,113,[.mpc (fQ m) (iJ (bW ak) m)],true,true,true⟩)) 44 (some ⟨H,900000,[.mpc (fQ m) (iJ (bW ak) m)],false,true,true⟩)) ?_ ?_
 ·refine fm.mono (UG tok G.inv (e:=H) (ty:=113) (d:=44) (k:=116) (el:=41) (x:=21) (v:=g) (v':=g) (m := .tmp 43) rfl rfl (acB (by decide) (by rw[gh];decide) (by simp)) underlying113 (by simp[ev,ay]) j2 (by decide) (by rw[gh];decide) (by decide)) fun v w' hA=>⟨_,⟨rfl,rfl⟩,zZ G (fun d hd =>?_) (jJ.maps fun x =>?_) hA⟩
  ·grind
  ·show cq (cq h1 21 _) 44 _ x=_∨_
   by_cases l:x=44
   ·subst l;rw[ay];exact .inr ⟨_,_,_,_,_,_,rfl⟩
   ·rw[aD _ _ l]
    by_cases P:x=21
    ·subst P;rw[ay];exact .inr ⟨_,_,_,_,_,_,rfl⟩
    ·rw[aD _ _ P];exact .inl rfl
 ·rintro t2 h2 Q R al ⟨rfl,rfl⟩ S;have T:=Ie S;have U:Wk m c m (cq (cq t0 43 (.mp 21 g)) 44 (.ptr 44 H 0)) (cq (cq h1 21 (some ⟨g,113,[.mpc (fQ m) (iJ (bW ak) m)],true,true,true⟩)) 44 (some ⟨H,900000,[.mpc (fQ m) (iJ (bW ak) m)],false,true,true⟩)) (H+1) :=
   ⟨_,_,[],H,900000,z,A,O,ay _ _ _,ay _ _ _,alq _,by simp_all,by simp_all,by rw[aD _ _ (by decide),aD _ _ (by decide)];exact j3,by rw[aD _ _ (by decide),aD _ _ (by decide)];exact j4,by rw[aD _ _ (by decide),aD _ _ (by decide)];exact j5,by rw[aD _ _ (by decide),aD _ _ (by decide)];exact j6,by omega,List.Perm.refl _⟩
  apply wp_block;refine wp_loop_ghost (fun n a w=>∃(o:List ((Int×Int)×ah)) (t:Nat->D) (h:Nat->Option Row) (e:Nat),o.length=n∧Wk m c o t h e∧Holds 65 M none w0 ⟨t,h,e⟩ a w) m.length ⟨m,_,_,_,rfl,U,T⟩ ?_;clear U T S G B j1 j2 j3 j4 j5 j6 j7;rintro n a w ⟨o,t,h,e,hn,⟨ks,vs,f,C,ty,z,A,O,i1,i2,i3,V,i5,i6,i7,i8,i9,ar,I⟩,blk,B⟩;replace B:w7 65 M none w0 blk e [] t h a w:=B;apply wp_seq;apply wp_region_lit;refine DF rfl B (by decide) (K:=fun t' h'=>(o=[]∧t'=cq t 45 (.tup [.bool false])∧h'=h)∨∃(k:Int×Int) (x:ah) (b:List ((Int×Int)×ah)),(o.map kH).Perm (kH (k,x)::b.map kH)∧o.length=b.length+1 ∧
   t'=cq t 45 (.tup [.bool true,.agg [.int .i64 k.1,.int .i64 k.2],.agg [.int .i64 x.bn.al,.sl false false x.bn.aa.length (an (eI .i64) x.bn.aa),.int .i64 x.bu.al,.sl false false x.bu.aa.length (an (eI .i64) x.bu.aa)]]) ∧
   h'=cq h 44 (some ⟨C,900001,[.mpc (fQ ((k,x)::b)) (iJ (bW ak) ((k,x)::b))],false,true,true⟩)) ?_ ?_
  ·refine fm.mono (Zs B.inv (e:=e) (y:=44) (p := .tmp 44) rfl (by simp[ev,i1]) i2 i3 (by rw[gh];decide)) ?_;rintro v w' (⟨J,L⟩|⟨j,k,x,J,L,W⟩)
   ·rw[V,CZ]at J;have aa:o=[]:=List.map_eq_nil_iff.1 J;exact⟨_,.inl ⟨aa,rfl,rfl⟩,zZ B (fun d hd=>by grind) (jJ.maps fun x =>.inl rfl) L⟩
   ·rw[V,i5]at W;rw[V]at J;rw[i5]at L;rw[CZ]at J W;rw[Ix]at L W;rw[aln]at J L;obtain⟨q,hq,rfl⟩:=alo.1 J;rw[hq]at L;cases L;rw[map_eraseIdx,map_eraseIdx,<- CZ,<- Ix]at W;have hp:=I6 hq;refine⟨_,.inr ⟨q.1,q.2,o.eraseIdx j,hp.map kH,hp.length_eq,rfl,rfl⟩,zZ B (fun d hd=>by grind) (jJ.maps fun x =>?_) W⟩;show cq h 44 _ x=_∨_
    by_cases l:x=44
    ·subst l;rw[ay];exact .inr ⟨_,_,_,_,_,_,rfl⟩
    ·rw[aD _ _ l];exact .inl rfl
  ·rintro t' h' a' w' ao (⟨rfl,rfl,rfl⟩|⟨k,x,b,p1,p2,rfl,rfl⟩) N
   ·refine Jh (F:=FU) tok va N (by decide) (by simp) (K:=fun t' i=>t'=cq (cq t 45 (.tup [.bool false])) 46 (.bool false)∧i=h') (by simp only[zR,seval]) ?_;rintro t2 h2 Q R ⟨rfl,rfl⟩ E;refine (show Code.wp _ (Code.seq (Code.cond _ Code.skip (Code.exit 2)) _) _ Q R from ?_);refine Cp (F:=FU) tok va mixed E (by kernel_rfl) (K:=fun x t' i X=>x=.exit 2∧t'=cq (cq t 45 (.tup [.bool false])) 46 (.bool false)∧i=h2∧X=e+1) (by simp only[zR,seval]) ?_;rintro x t3 h3 e3 a3 w3 ⟨rfl,rfl,rfl,rfl⟩ ab;refine afz hc ⟨ks,vs,f,C,ty,z,A,O,?_,i2,i3,V,i5,?_,i7,?_,i9,by omega,I⟩ ab
    ·rw[aD _ _ (by decide),aD _ _ (by decide)];exact i1
    ·rw[aD _ _ (by decide),aD _ _ (by decide)];exact i6
    ·rw[aD _ _ (by decide),aD _ _ (by decide)];exact i8
   ·refine Jh (F:=FU) tok va N (by decide) (by simp) (K:=fun t' i=>t'=cq (cq t 45 (.tup [.bool true,.agg [.int .i64 k.1,.int .i64 k.2],.agg [.int .i64 x.bn.al,.sl false false x.bn.aa.length (an (eI .i64) x.bn.aa),.int .i64 x.bu.al,.sl false false x.bu.aa.length (an (eI .i64) x.bu.aa)]])) 46 (.bool true)∧i=cq h 44 (some ⟨C,900001,[.mpc (fQ ((k,x)::b)) (iJ (bW ak) ((k,x)::b))],false,true,true⟩)) (by simp only[zR,seval]) ?_;rintro t2 h2 Q R ⟨rfl,rfl⟩ E;refine (show Code.wp _ (Code.seq (Code.cond _ Code.skip (Code.exit 2)) (Code.block 3 (Code.seq (Code.region _ (List.toArray _) false) _))) _ Q R from ?_);apply wp_seq;have hF:∃t h,(t 44=.ptr 44 C 0∧t 9=.ptr 9 z 0∧t 2=.ptr 2 A 0∧h 44=some ⟨C,900001,[.mpc (fQ ((k,x)::b)) (iJ (bW ak) ((k,x)::b))],false,true,true⟩∧h 9=some ⟨z,66,[.nr 118 6 O [.int .i64 c,.nx f.length (an cD f)]],false,false,true⟩∧h 2=some ⟨A,66,[.int .i64 0,.sl true true 0 []],false,false,false⟩∧t 46=.bool true)∧Holds 65 M none w0 ⟨t,h,e+1⟩ Q R:=by
     refine⟨_,_,⟨?_,?_,?_,ay _ _ _,?_,?_,ay _ _ _⟩,E⟩
     ·rw[aD _ _ (by decide),aD _ _ (by decide)];exact i1
     ·rw[aD _ _ (by decide),aD _ _ (by decide)];exact i6
     ·rw[aD _ _ (by decide),aD _ _ (by decide)];exact i8
     ·rw[aD _ _ (by decide)];exact i7
     ·rw[aD _ _ (by decide)];exact i9
    clear E N B i1 i2 i3 V i5 i6 i7 i8 i9;clear h t;obtain⟨t,h,⟨f1,f2,f3,f4,f5,f6,f7⟩,E⟩:=hF;refine Cp (F:=FU) tok va mixed E (by kernel_rfl) (K:=fun x t' i X=>x=.normal∧t'=t∧i=h∧X=e+1) (by simp only[zR,seval,f7]) ?_;rintro x' t3 h3 e3 a3 w3 ⟨rfl,rfl,rfl,rfl⟩ ⟨Y,u⟩;replace u:w7 65 M none w0 Y (e+1) [] t3 h3 a3 w3:=u;refine (show Code.wp _ (Code.block 3 (Code.seq (Code.region _ (List.toArray _) false) _)) _ a3 w3 from ?_);apply wp_block;apply wp_seq;apply wp_region_lit;refine DF rfl u (by decide) (K:=fun t' h'=>t'=cq t3 47 (.tup [.agg [.int .i64 k.1,.int .i64 k.2],.agg [.int .i64 x.bn.al,.sl false false x.bn.aa.length (an (eI .i64) x.bn.aa),.int .i64 x.bu.al,.sl false false x.bu.aa.length (an (eI .i64) x.bu.aa)]])∧h'=h3) ?_ ?_
    ·refine fm.mono (UD u.inv (e:=e+1) (y:=44) (p := .tmp 44) (k:=EP.k k) (x:=(bW ak).d x) (ks:=fQ b) (vs:=iJ (bW ak) b) rfl (by simp[ev,f1]) f4 (by rw[gh];decide)) fun v w' hA=>⟨_,⟨rfl,rfl⟩,zZ u (fun d hd=>by grind) (jJ.refl _ _) hA⟩
    ·rintro t4 h4 a4 w4 aq ⟨rfl,rfl⟩ ad;refine Jh (F:=FU) tok va ad (by decide) (by simp) (K:=fun t' h'=>t' 44=.ptr 44 C 0∧t' 9=.ptr 9 z 0∧t' 2=.ptr 2 A 0∧t' 10=.ptr 10 (e+1) 0∧t' 11=.ptr 11 (e+1) 0 ∧
      h' 44=some ⟨C,900001,[.mpc (fQ ((k,x)::b)) (iJ (bW ak) ((k,x)::b))],false,true,true⟩∧h' 9=some ⟨z,66,[.nr 118 6 O [.int .i64 c,.nx f.length (an cD f)]],false,false,true⟩∧h' 2=some ⟨A,66,[.int .i64 0,.sl true true 0 []],false,false,false⟩ ∧
      h' 10=some ⟨e+1,116,[.int .i64 k.1,.int .i64 k.2],false,false,false⟩∧h' 11=some ⟨e+1,41,[.int .i64 x.bn.al,.sl false false x.bn.aa.length (an (eI .i64) x.bn.aa),.int .i64 x.bu.al,.sl false false x.bu.aa.length (an (eI .i64) x.bu.aa)],false,false,false⟩) (by simp only[zR,seval,f1,f2,f3,f4,f5,f6]) ?_
     rintro t5 h5 a5 w5 ⟨g1,g2,g3,g4,g5,g6,g7,g8,g9,ae⟩ ag;have au:f.length+1+b.length=m.length:=by
      have:=I.length_eq;grind
     have Z:nB 80 f [kH (k,x)]=some (f++[kH (k,x)]):=by
      unfold nB;have:(17592186044416:Nat)<=maxLen:=by decide
      grind
     obtain⟨qa,qb,qc,qd⟩:=js cD Z;simp only[bG,kH]at qb;have bp:bump O (e+1+1)=some (4*(e+1+1)+1):=lM (by omega);refine (show Code.wp _ (Code.region _ (List.toArray _) false) _ a5 w5 from ?_);refine Cp (F:=FU) tok va mixed ag (by kernel_rfl) (K:=fun x' t' h' X=>x'=.normal∧X=e+1+1+1∧t' 44=.ptr 44 C 0∧t' 9=.ptr 9 z 0∧t' 2=.ptr 2 A 0 ∧
      h' 44=some ⟨C,900001,[.mpc (fQ ((k,x)::b)) (iJ (bW ak) ((k,x)::b))],false,true,true⟩∧h' 9=some ⟨z,66,[.nr 118 6 (4*(e+1+1)+1) [.int .i64 c,.nx (f++[kH (k,x)]).length (an cD (f++[kH (k,x)]))]],false,false,true⟩∧h' 2=some ⟨A,66,[.int .i64 0,.sl true true 0 []],false,false,false⟩)
      (by simp only[zR,seval,g1,g2,g3,g4,g5,g6,g7,g8,g9,ae,qa,qb,qc,qd,bp,kH];exact⟨qc,qd⟩) ?_
     rintro x' t6 h6 e6 a6 w6 ⟨rfl,rfl,l1,l2,l3,l4,l5,l6⟩ ai;refine (show ∃n',n'<n∧∃(o:List ((Int×Int)×ah)) (t:Nat->D) (h:Nat->Option Row) (e:Nat),o.length=n'∧Wk m c o t h e∧Holds 65 M none w0 ⟨t,h,e⟩ a6 w6 from ?_);refine⟨b.length,by omega,b,t6,h6,_,rfl,⟨_,_,_,C,900001,z,A,_,l1,l4,by decide,?_,?_,l2,l5,l3,l6,by omega,?_⟩,ai⟩
     ·rw[show 900001-900000=1 from anf (n:=900000) (m:=1)];rfl
     ·rw[show 900001-900000=1 from anf (n:=900000) (m:=1)];rfl
     ·rw[am8];exact (List.Perm.append_left f p1.symm).trans I
def zW (l:Option (D×Row)) (d:List D):=ej (gj (bW je) (dM (bW je))) (fun x:aH×aH=>z8 x.1 x.2) (fun r:aH×Int =>.clean (.tup [.agg [.int .i64 r.1.al,.sl false false r.1.aa.length (an (eI .i64) r.1.aa)],.int .i64 r.2])) l d
def DS:Env:=(Am.ext (Am.ext (Am.ext (Am.ext bk 103 false bZ) 113 false cU) 114 false nL) 154 false tC)
def U3:bV prog DS:=((((bV.none.add iK false).add lA false).add uu false).add IT false)
def rj:=ai @w<|ai @FI<|ai @bZ.eq_1<|ai @sh1<|ai @cU.eq_1<|ai @gU<|ai @Yf<|ai @tC.eq_1<|@DS.eq_1
def Vr:ck prog 112 zW:=ck.iZ (mode := .clean) tok U3 mixed func112 (by kernel_rfl) (fun _ _=>rfl) (fun _=>by kernel_rfl) fun⟨i,j⟩ r a=>by
 replace a:z8 i j=some r:=a;apply aJ rfl ntmps112 results112;simp only[ja];unfold z8 at a;obtain⟨w,k,a⟩:=ae a;simp only[rj,seval,k];obtain⟨u,l,a⟩:=ae a;refine cQ 0 (fun s t H e=>match s with|b=>∃c:Nat,∃d:Nat,∃f:Nat,t 2=.ptr 2 c 0∧t 3=.ptr 3 d 0∧t 4=.ptr 4 f 0∧t 13=.bool b∧H 2=rV c 39 [sN i.al,sI i.aa]∧H 3=rV d 39 [sN j.al,sI j.aa]∧H 4=rV f 39 [sN 0,.sl true true 0 []]) (fun s=>s=u) ?_ ?_
 ·rintro b t H e ⟨c,d,f,g⟩ rfl;try dsimp only at a
  simp only[rj,seval,g];apply sp ax a<;>intro _ a
  ·have q:=gU false 0 ([]);simp only[bG]at q;obtain⟨x,m,a⟩:=ae a;cases a;simp only[rj,seval,g,q,m]
  ·obtain⟨y,n,a⟩:=ae a;obtain⟨z,o,a⟩:=ae a;obtain⟨A,p,a⟩:=ae a;simp only[rj,seval,g,n,o,p];refine bP (by kernel_rfl) ?_;cases a;simp only[seval]
 ·clear a;have a:=l;simp only[rj,seval];apply sp bQ a<;>intro _ a
  ·cases a;simp only[rj,seval];rw[aF];refine⟨_,rfl,?_⟩;refine⟨0,0,0,?_,?_,?_,?_,?_,?_,?_⟩;all_goals (rfl)
  ·obtain⟨v,h,a⟩:=ae a;cases a;simp only[rj,seval,h];rw[aF];refine⟨_,rfl,?_⟩;refine⟨0,0,0,?_,?_,?_,?_,?_,?_,?_⟩;all_goals (rfl)
def eW (l:Option (D×Row)) (d:List D):=ej (gj (bW je) (dM (bW je))) (fun x:aH×aH=>da x.1 x.2) (fun r:aH =>.clean (.agg [.int .i64 r.al,.sl false false r.aa.length (an (eI .i64) r.aa)])) l d
def xr:Env:=(Am.ext bk 112 false zW)
def Kc:bV prog xr:=(bV.none.add Vr false)
def PA:=ai @w<|ai @M9<|ai @zW.eq_1<|@xr.eq_1
def rI:ck prog 60 eW:=ck.iZ (mode := .clean) tok Kc mixed func60 (by kernel_rfl) (fun _ _=>rfl) (fun _=>by kernel_rfl) fun⟨c,d⟩ r a=>by
 replace a:da c d=some r:=a;apply aJ rfl ntmps60 results60;simp only[ja];unfold da at a;obtain⟨e,b,a⟩:=ae a;cases a;simp only[PA,seval,b]
def Cc (l:Option (D×Row)) (d:List D):=ej (dM (jX (eI .i64))) (fun x:(List Int)=>yR x) (fun r:Int =>.clean (.int .i64 r)) l d
def MK:ck prog 115 Cc:=ck.iZ (mode := .clean) tok bV.none mixed func115 (by kernel_rfl) (fun _ _=>rfl) (fun _=>by kernel_rfl) fun h r a=>by
 replace a:yR h=some r:=a;apply aJ rfl ntmps115 results115;simp only[ja];unfold yR at a;simp only[w,seval];obtain⟨l,i,a⟩:=ae a;refine az (fun s t H e=>match s with|b=>t 3=sN 0∧t 6=sI h∧t 7=sN (h.length:Int)∧t 8=sN b) (fun o x t H e=>match o with|(.inl _)=>x=.exit 0∧t 3=sN 0|(.inr r)=>x=.ret∧gG .clean tab none [.tmp 2] ⟨t,EH H,e⟩=some (.clean (.int .i64 r),none)) i ?_ ?_ ?_
 ·refine⟨?_,?_,?_,?_⟩;all_goals (rfl)
 ·rintro b t H e d c a;simp only[Ad]at a;simp only[w,seval,d];apply sp ax a<;>intro _ a
  ·obtain⟨n,j,a⟩:=ae a;have f:=bz (eI .i64) j;simp only[bG]at f;simp only[w,seval,d,f];apply sp ax a<;>intro _ a
   ·cases a;simp only[w,seval];refine uq ⟨rfl,?_⟩;simp only[w,seval]
   ·cases a;simp only[w,seval,d];apply iD;and_intros<;>first|rfl|(simp only[w,seval,d]<;>rfl)
  ·cases a;simp only[w,seval];apply kf;refine⟨rfl,?_⟩;all_goals ((simp only[w,seval,d]<;>rfl))
 ·rintro x t H e g;rcases l with _|p
  ·dsimp only at g a;obtain⟨rfl,k⟩:=g;cases a;simp only[w,seval,k]
  ·dsimp only at g a;obtain⟨rfl,m⟩:=g;cases a;simp only[bd,bj,cL,cR];exact m
def zT (l:Option (D×Row)) (d:List D):=ej (gj (bW je) (dM (bW je))) (fun x:aH×aH=>z6 x.1 x.2) (fun r:aH×Int =>.clean (.tup [.agg [.int .i64 r.1.al,.sl false false r.1.aa.length (an (eI .i64) r.1.aa)],.int .i64 r.2])) l d
def S9 (a:(List Int)):Cc none [.sl false false a.length (an (eI .i64) a)]=(yR a).map fun r:Int=>(.clean (.int .i64 r),none):=cF _ _ _ (a)
def DO:Env:=(Am.ext (Am.ext (Am.ext (Am.ext (Am.ext (Am.ext (Am.ext bk 103 false bZ) 111 false gm) 113 false cU) 114 false nL) 115 false Cc) 116 false tz) 117 false qD)
def UZ:bV prog DO:=(((((((bV.none.add iK false).add uv false).add lA false).add uu false).add MK false).add IQ false).add IU false)
def kI:=ai @w<|ai @FI<|ai @bZ.eq_1<|ai @Yf<|ai @gm.eq_1<|ai @sh1<|ai @cU.eq_1<|ai @gU<|ai @tz.eq_1<|ai @qD.eq_1<|@DO.eq_1
def Vo:ck prog 62 zT:=ck.iZ (mode := .clean) tok UZ mixed func62 (by kernel_rfl) (fun _ _=>rfl) (fun _=>by kernel_rfl) fun⟨u,v⟩ r a=>by
 replace a:z6 u v=some r:=a;apply aJ rfl ntmps62 results62;simp only[ja];unfold z6 at a;obtain⟨P,w,a⟩:=ae a;simp only[kI,seval,w];obtain⟨D,x,a⟩:=ae a;refine cQ 0 (fun s t H e=>match s with|c=>∃d:Nat,∃f:Nat,∃g:Nat,t 2=.ptr 2 d 0∧t 3=.ptr 3 f 0∧t 4=.ptr 4 g 0∧t 13=.bool c∧H 2=rV d 39 [sN u.al,sI u.aa]∧H 3=rV f 39 [sN v.al,sI v.aa]∧H 4=rV g 39 [sN 0,.sl true true 0 []]) (fun s=>s=D) ?_ ?_
 ·rintro c t H e ⟨d,f,g,b⟩ rfl;try dsimp only at a
  simp only[kI,seval,b];apply sp ax a<;>intro _ a
  ·have B:=gU false 0 ([]);simp only[bG]at B;obtain⟨Q,y,a⟩:=ae a;cases a;simp only[kI,seval,b,B,y]
  ·simp only[kI,seval,b];apply sp ax a<;>intro _ a
   ·have C:=S9 ([u.al,v.al]);simp only[ch,bG,List.length_cons,amr,Nat.reduceAdd]at C;obtain⟨R,z,a⟩:=ae a;obtain⟨S,A,a⟩:=ae a;obtain⟨E,h,a⟩:=ae a;obtain⟨F,i,a⟩:=ae a;simp only[kI,seval,b,C,z,A,h,i];refine bP (by kernel_rfl) ?_;cases a;simp only[seval]
   ·obtain⟨G,j,a⟩:=ae a;simp only[kI,seval,b,j];apply sp ax a<;>intro _ a
    ·obtain⟨I,k,a⟩:=ae a;obtain⟨J,l,a⟩:=ae a;obtain⟨K,m,a⟩:=ae a;simp only[kI,seval,b,k,l,m];refine bP (by kernel_rfl) ?_;cases a;simp only[seval]
    ·obtain⟨L,n,a⟩:=ae a;obtain⟨M,o,a⟩:=ae a;obtain⟨N,p,a⟩:=ae a;simp only[kI,seval,b,n,o,p];refine bP (by kernel_rfl) ?_;cases a;simp only[seval]
 ·clear a;have a:=x;simp only[kI,seval];apply sp bQ a<;>intro _ a
  ·cases a;simp only[kI,seval];rw[aF];refine⟨_,rfl,?_⟩;refine⟨0,0,0,?_,?_,?_,?_,?_,?_,?_⟩;all_goals (rfl)
  ·obtain⟨O,q,a⟩:=ae a;cases a;simp only[kI,seval,q];rw[aF];refine⟨_,rfl,?_⟩;refine⟨0,0,0,?_,?_,?_,?_,?_,?_,?_⟩;all_goals (rfl)
def dj (l:Option (D×Row)) (d:List D):=ej (gj (bW ak) (dM (bW ak))) (fun x:ah×ah=>dY x.1 x.2) (fun r:ah×Int =>.clean (.tup [.agg [.int .i64 r.1.bn.al,.sl false false r.1.bn.aa.length (an (eI .i64) r.1.bn.aa),.int .i64 r.1.bu.al,.sl false false r.1.bu.aa.length (an (eI .i64) r.1.bu.aa)],.int .i64 r.2])) l d
def sk {β:Type} {F:ah×ah->Option β} {R:β->RK} (e:Int) (a:(List Int)) (f:Int) (b:(List Int)) (g:Int) (c:(List Int)) (h:Int) (d:(List Int)):ej (gj (bW ak) (dM (bW ak))) F R none [.agg [.int .i64 e,.sl false false a.length (an (eI .i64) a),.int .i64 f,.sl false false b.length (an (eI .i64) b)],.agg [.int .i64 g,.sl false false c.length (an (eI .i64) c),.int .i64 h,.sl false false d.length (an (eI .i64) d)]]=(F ((ah.mk (aH.mk e a) (aH.mk f b)),(ah.mk (aH.mk g c) (aH.mk h d)))).map fun r=>(R r,none):=cF _ _ _ ((ah.mk (aH.mk e a) (aH.mk f b)),(ah.mk (aH.mk g c) (aH.mk h d)))
def Bt:Env:=(Am.ext (Am.ext (Am.ext (Am.ext bk 54 false aV) 60 false eW) 62 false zT) 63 false gK)
def Rk:bV prog Bt:=((((bV.none.add dS false).add rI false).add Vo false).add vo false)
def mz:=ai @w<|ai @iX<|ai @aV.eq_1<|ai @M9<|ai @eW.eq_1<|ai @zT.eq_1<|ai @gK.eq_1<|@Bt.eq_1
def mj:ck prog 23 dj:=ck.iZ (mode := .clean) tok Rk mixed func23 (by kernel_rfl) (fun _ _=>rfl) (fun _=>by kernel_rfl) fun⟨h,i⟩ r a=>by
 replace a:dY h i=some r:=a;apply aJ rfl ntmps23 results23;simp only[ja];unfold dY at a;obtain⟨w,k,a⟩:=ae a;simp only[mz,seval,k];obtain⟨u,l,a⟩:=ae a;refine cQ 0 (fun s t H e=>match s with|b=>∃c:Nat,∃d:Nat,∃f:Nat,t 2=.ptr 2 c 0∧t 3=.ptr 3 d 0∧t 4=.ptr 4 f 0∧t 15=.bool b∧H 2=rV c 41 [sN h.bn.al,sI h.bn.aa,sN h.bu.al,sI h.bu.aa]∧H 3=rV d 41 [sN i.bn.al,sI i.bn.aa,sN i.bu.al,sI i.bu.aa]∧H 4=rV f 41 [sN 0,.sl true true 0 [],sN 0,.sl true true 0 []]) (fun s=>s=u) ?_ ?_
 ·rintro b t H e ⟨c,d,f,g⟩ rfl;try dsimp only at a
  simp only[mz,seval,g];apply sp ax a<;>intro _ a
  ·cases a;simp only[mz,seval,g]
  ·obtain⟨x,m,a⟩:=ae a;obtain⟨y,n,a⟩:=ae a;obtain⟨z,o,a⟩:=ae a;simp only[mz,seval,g,m,n,o];refine bP (by kernel_rfl) ?_;obtain⟨A,p,a⟩:=ae a;obtain⟨B,q,a⟩:=ae a;simp only[mz,seval,g,p,q];refine bP (by kernel_rfl) ?_;cases a;simp only[seval]
 ·clear a;have a:=l;simp only[mz,seval];apply sp bQ a<;>intro _ a
  ·cases a;simp only[mz,seval];rw[aF];refine⟨_,rfl,?_⟩;refine⟨0,0,0,?_,?_,?_,?_,?_,?_,?_⟩;all_goals (rfl)
  ·obtain⟨v,j,a⟩:=ae a;cases a;simp only[mz,seval,j];rw[aF];refine⟨_,rfl,?_⟩;refine⟨0,0,0,?_,?_,?_,?_,?_,?_,?_⟩;all_goals (rfl)
def qE (l:Option (D×Row)) (d:List D):=ej (gj (bW ak) (dM (bW ak))) (fun x:ah×ah=>tu x.1 x.2) (fun r:ah =>.clean (.agg [.int .i64 r.bn.al,.sl false false r.bn.aa.length (an (eI .i64) r.bn.aa),.int .i64 r.bu.al,.sl false false r.bu.aa.length (an (eI .i64) r.bu.aa)])) l d
def DZ:Env:=(Am.ext bk 23 false dj)
def Va:bV prog DZ:=(bV.none.add mj false)
def aaX:=ai @w<|ai @sk<|ai @dj.eq_1<|@DZ.eq_1
def I0:ck prog 120 qE:=ck.iZ (mode := .clean) tok Va mixed func120 (by kernel_rfl) (fun _ _=>rfl) (fun _=>by kernel_rfl) fun⟨c,d⟩ r a=>by
 replace a:tu c d=some r:=a;apply aJ rfl ntmps120 results120;simp only[ja];unfold tu at a;obtain⟨e,b,a⟩:=ae a;cases a;simp only[aaX,seval,b]
def rm (l:Option (D×Row)) (d:List D):=ej (gj (bW je) (dM (bW je))) (fun x:aH×aH=>oX x.1 x.2) (fun r:Int =>.clean (.int .i64 r)) l d
def vH:Env:=(Am.ext (Am.ext (Am.ext bk 103 false bZ) 110 false eA) 111 false gm)
def HS:bV prog vH:=(((bV.none.add iK false).add p6 false).add uv false)
def gW:=ai @w<|ai @FI<|ai @bZ.eq_1<|ai @M8<|ai @eA.eq_1<|ai @Yf<|ai @gm.eq_1<|@vH.eq_1
def IN:ck prog 59 rm:=ck.iZ (mode := .clean) tok HS mixed func59 (by kernel_rfl) (fun _ _=>rfl) (fun _=>by kernel_rfl) fun⟨g,h⟩ r a=>by
 replace a:oX g h=some r:=a;apply aJ rfl ntmps59 results59;simp only[ja];unfold oX at a;obtain⟨o,i,a⟩:=ae a;simp only[gW,seval,i];obtain⟨n,j,a⟩:=ae a;refine cQ 0 (fun s t H e=>match s with|b=>∃c:Nat,∃d:Nat,t 2=.ptr 2 c 0∧t 3=.ptr 3 d 0∧t 12=.bool b∧H 2=rV c 39 [sN g.al,sI g.aa]∧H 3=rV d 39 [sN h.al,sI h.aa]) (fun s=>s=n) ?_ ?_
 ·rintro b t H e ⟨c,d,f⟩ rfl;try dsimp only at a
  simp only[gW,seval,f];apply sp ax a<;>intro _ a
  ·cases a;simp only[gW,seval]
  ·simp only[gW,seval,f];apply sp ax a<;>intro _ a
   ·obtain⟨p,k,a⟩:=ae a;cases a;simp only[gW,seval,f,k]
   ·obtain⟨q,l,a⟩:=ae a;simp only[gW,seval,f,l];refine bP (by kernel_rfl) ?_;cases a;simp only[seval]
 ·clear a;have a:=j;simp only[gW,seval];apply sp bQ a<;>intro _ a
  ·cases a;simp only[gW,seval];rw[aF];refine⟨_,rfl,?_⟩;refine⟨0,0,?_,?_,?_,?_,?_⟩;all_goals (rfl)
  ·obtain⟨u,m,a⟩:=ae a;cases a;simp only[gW,seval,m];rw[aF];refine⟨_,rfl,?_⟩;refine⟨0,0,?_,?_,?_,?_,?_⟩;all_goals (rfl)
def pD (l:Option (D×Row)) (d:List D):=ej (gj (bW ak) (dM (bW ak))) (fun x:ah×ah=>kP x.1 x.2) (fun r:Int =>.clean (.int .i64 r)) l d
def uj:Env:=(Am.ext (Am.ext (Am.ext bk 54 false aV) 59 false rm) 60 false eW)
def F2:bV prog uj:=(((bV.none.add dS false).add IN false).add rI false)
def jn:=ai @w<|ai @iX<|ai @aV.eq_1<|ai @M9<|ai @rm.eq_1<|ai @eW.eq_1<|@uj.eq_1
def F7:ck prog 20 pD:=ck.iZ (mode := .clean) tok F2 mixed func20 (by kernel_rfl) (fun _ _=>rfl) (fun _=>by kernel_rfl) fun⟨f,g⟩ r a=>by
 replace a:kP f g=some r:=a;apply aJ rfl ntmps20 results20;simp only[ja];unfold kP at a;obtain⟨p,i,a⟩:=ae a;simp only[jn,seval,i];obtain⟨o,j,a⟩:=ae a;refine cQ 0 (fun s t H e=>match s with|b=>∃c:Nat,∃d:Nat,t 2=.ptr 2 c 0∧t 3=.ptr 3 d 0∧t 12=.bool b∧H 2=rV c 41 [sN f.bn.al,sI f.bn.aa,sN f.bu.al,sI f.bu.aa]∧H 3=rV d 41 [sN g.bn.al,sI g.bn.aa,sN g.bu.al,sI g.bu.aa]) (fun s=>s=o) ?_ ?_
 ·rintro b t H e ⟨c,d,h⟩ rfl;try dsimp only at a
  simp only[jn,seval,h];apply sp ax a<;>intro _ a
  ·cases a;simp only[jn,seval]
  ·obtain⟨q,k,a⟩:=ae a;obtain⟨u,l,a⟩:=ae a;obtain⟨v,m,a⟩:=ae a;simp only[jn,seval,h,k,l,m];refine bP (by kernel_rfl) ?_;cases a;simp only[seval]
 ·clear a;have a:=j;simp only[jn,seval];apply sp bQ a<;>intro _ a
  ·cases a;simp only[jn,seval];rw[aF];refine⟨_,rfl,?_⟩;refine⟨0,0,?_,?_,?_,?_,?_⟩;all_goals (rfl)
  ·obtain⟨w,n,a⟩:=ae a;cases a;simp only[jn,seval,n];rw[aF];refine⟨_,rfl,?_⟩;refine⟨0,0,?_,?_,?_,?_,?_⟩;all_goals (rfl)
def uW (l:Option (D×Row)) (d:List D):=ej (dM (jX ak)) (fun x:(List ah)=>tH x) (fun r:Bool =>.clean (.bool r)) l d
def ajk {β:Type} {F:(List ah)->Option β} {R:β->RK} (a:(List ah)):ej (dM (jX ak)) F R none [.sl false false a.length (an ak a)]=(F (a)).map fun r=>(R r,none):=cF _ _ _ (a)
def zk:Env:=(Am.ext (Am.ext (Am.ext (Am.ext (Am.ext bk 20 false pD) 21 false cd) 24 false b6) 54 false aV) 120 false qE)
def Ow:bV prog zk:=(((((bV.none.add F7 false).add iQ false).add iL false).add dS false).add I0 false)
def fT:=ai @w<|ai @sk<|ai @pD.eq_1<|ai @FH<|ai @cd.eq_1<|ai @iX<|ai @b6.eq_1<|ai @aV.eq_1<|ai @qE.eq_1<|@zk.eq_1
def OR:ck prog 172 uW:=ck.iZ (mode := .clean) tok Ow mixed func172 (by kernel_rfl) (fun _ _=>rfl) (fun _=>by kernel_rfl) fun C r a=>by
 replace a:tH C=some r:=a;apply aJ rfl ntmps172 results172;simp only[ja];unfold tH at a;obtain⟨P,D,a⟩:=ae a;simp only[fT,seval,D];obtain⟨G,E,a⟩:=ae a;refine az (fun s t H e=>match s with|(p,h,i,j,k)=>∃l:Nat,t 3=.ptr 3 l 0∧t 7=sF ak C∧t 8=sN (C.length:Int)∧t 9=sN p∧H 3=rV l 41 [sN h,sI i,sN j,sI k]) (fun o x t H e=>match o with|(.inl (b,d,f,g))=>x=.exit 0∧∃m:Nat,t 3=.ptr 3 m 0∧H 3=rV m 41 [sN b,sI d,sN f,sI g]|(.inr r)=>x=.ret∧gG .clean tab none [.tmp 2] ⟨t,EH H,e⟩=some (.clean (.bool r),none)) E ?_ ?_ ?_
 ·refine⟨1,?_,?_,?_,?_,?_⟩;all_goals (rfl)
 ·rintro⟨p,h,i,j,k⟩ t H e ⟨l,q⟩ c a;simp only[tv]at a;simp only[fT,seval,q];apply sp ax a<;>intro _ a
  ·obtain⟨I,u,a⟩:=ae a;have n:=bz ak u;simp only[bG]at n;obtain⟨J,v,a⟩:=ae a;simp only[fT,seval,q,n,v];apply sp bQ a<;>intro _ a
   ·cases a;simp only[fT,seval];refine uq ⟨rfl,?_⟩;simp only[fT,seval]
   ·obtain⟨K,w,a⟩:=ae a;simp only[fT,seval,w];apply sp ax a<;>intro _ a
    ·cases a;simp only[fT,seval];refine uq ⟨rfl,?_⟩;simp only[fT,seval]
    ·obtain⟨L,y,a⟩:=ae a;cases a;simp only[fT,seval,q,y];apply iD;refine⟨l,?_⟩;and_intros<;>first|rfl|(simp only[fT,seval,q]<;>rfl)
  ·cases a;simp only[fT,seval];apply kf;refine⟨rfl,⟨l,?_,?_⟩⟩;all_goals ((simp only[fT,seval,q]<;>rfl))
 ·rintro x t H e B;rcases G with⟨b,d,f,g⟩|Q
  ·dsimp only at B a;obtain⟨rfl,⟨m,F⟩⟩:=B;obtain⟨M,z,a⟩:=ae a;obtain⟨N,A,a⟩:=ae a;simp only[fT,seval,F,z,A];refine bP (by kernel_rfl) ?_;cases a;simp only[seval]
  ·dsimp only at B a;obtain⟨rfl,O⟩:=B;cases a;simp only[bd,bj,cL,cR];exact O
def oa (l:Option (D×Row)) (d:List D):=ej (dM (bW vE)) (fun x:dR=>lz x) (fun r:Bool =>.clean (.bool r)) l d
def afM {β:Type} {F:dR->Option β} {R:β->RK} (a:(List ir)) (b:(List sC)) (c:(List (List ah))):ej (dM (bW vE)) F R none [.agg [.sl false false a.length (an bl a),.sl false false b.length (an dX b),.sl false false c.length (an (fL ak) c)]]=(F ((dR.mk a b c))).map fun r=>(R r,none):=cF _ _ _ ((dR.mk a b c))
def sK:Env:=(Am.ext (Am.ext bk 81 false dC) 172 false uW)
def D5:bV prog sK:=((bV.none.add nV false).add OR false)
def aK:=ai @w<|ai @Ky<|ai @dC.eq_1<|ai @ajk<|ai @uW.eq_1<|@sK.eq_1
def Ek:ck prog 130 oa:=ck.iZ (mode := .clean) tok D5 mixed func130 (by kernel_rfl) (fun _ _=>rfl) (fun _=>by kernel_rfl) fun b r a=>by
 replace a:lz b=some r:=a;apply aJ rfl ntmps130 results130;simp only[ja];unfold lz at a;simp only[aK,seval];obtain⟨o1,aq,a⟩:=ae a;refine cQ 0 (fun s t H e=>match s with|l=>∃g:Nat,t 1=.ptr 1 g 0∧t 27=.bool l∧H 1=rV g 54 [sF bl b.aq,sF dX b.aG,sF (fL ak) b.aO]) (fun s=>s=o1) ?_ ?_
 ·rintro l t H e ⟨g,N⟩ rfl;try dsimp only at a
  simp only[aK,seval,N];apply sp ax a<;>intro _ a
  ·cases a;simp only[aK,seval]
  ·simp only[aK,seval,N];obtain⟨ar,Q,a⟩:=ae a;refine az (fun s t H e=>match s with|D=>∃m:Nat,t 1=.ptr 1 m 0∧t 29=sF dX b.aG∧t 30=sN (b.aG.length:Int)∧t 31=sN D∧H 1=rV m 54 [sF bl b.aq,sF dX b.aG,sF (fL ak) b.aO]) (fun o x t H e=>match o with|(.inl _)=>x=.exit 0∧∃h:Nat,t 1=.ptr 1 h 0∧H 1=rV h 54 [sF bl b.aq,sF dX b.aG,sF (fL ak) b.aO]|(.inr r)=>x=.ret∧gG .clean tab none [.tmp 2] ⟨t,EH H,e⟩=some (.clean (.bool r),none)) Q ?_ ?_ ?_
   ·refine⟨g,?_⟩;and_intros<;>first|rfl|(simp only[aK,seval,N]<;>rfl)
   ·rintro D t H e ⟨m,P⟩ c a;simp only[mW]at a;simp only[aK,seval,P];apply sp ax a<;>intro _ a
    ·obtain⟨aw,R,a⟩:=ae a;have n:=bz dX R;simp only[bG]at n;obtain⟨ay,S,a⟩:=ae a;simp only[aK,seval,P,n,S];apply sp Dq a<;>intro _ a
     ·simp only[aK,seval];refine bP (by kernel_rfl) ?_;cases a;refine uq ⟨rfl,?_⟩;simp only[aK,seval]
     ·simp only[aK,seval];apply sp Dq a<;>intro _ a
      ·simp only[aK,seval];refine bP (by kernel_rfl) ?_;cases a;refine uq ⟨rfl,?_⟩;simp only[aK,seval]
      ·obtain⟨aA,T,a⟩:=ae a;have E:=bz (fL ak) T;simp only[bG]at E;simp only[aK,seval,P,n,E];refine bP (by kernel_rfl) ?_;apply sp ax a<;>intro _ a
       ·cases a;simp only[aK,seval];refine uq ⟨rfl,?_⟩;simp only[aK,seval]
       ·cases a;simp only[aK,seval,P];apply iD;refine⟨m,?_⟩;and_intros<;>first|rfl|(simp only[aK,seval,P]<;>rfl)
    ·cases a;simp only[aK,seval];apply kf;refine⟨rfl,⟨m,?_,?_⟩⟩;all_goals ((simp only[aK,seval,P]<;>rfl))
   ·rintro x t H e k;rcases ar with _|rb
    ·dsimp only at k a;obtain⟨rfl,⟨h,U⟩⟩:=k;simp only[aK,seval,U];obtain⟨au,V,a⟩:=ae a;refine az (fun s t H e=>match s with|d=>∃C:Nat,t 1=.ptr 1 C 0∧t 59=sF bl b.aq∧t 60=sN (b.aq.length:Int)∧t 61=sN d∧H 1=rV C 54 [sF bl b.aq,sF dX b.aG,sF (fL ak) b.aO]) (fun o x t H e=>match o with|(.inl _)=>x=.exit 2|(.inr r)=>x=.ret∧gG .clean tab none [.tmp 2] ⟨t,EH H,e⟩=some (.clean (.bool r),none)) V ?_ ?_ ?_
     ·refine⟨h,?_⟩;and_intros<;>first|rfl|(simp only[aK,seval,U]<;>rfl)
     ·rintro d t H e ⟨C,Zc⟩ c a;simp only[mX]at a;simp only[aK,seval,Zc];apply sp ax a<;>intro _ a
      ·obtain⟨j,W,a⟩:=ae a;have p:=bz bl W;simp only[bG]at p;obtain⟨aB,X,a⟩:=ae a;obtain⟨Y,Z,aa,F,ab⟩:=mk_one ak X;simp only[bG]at F;simp only[aK,seval,Zc,p,Y,Z,aa,F,ab];obtain⟨av,ad,a⟩:=ae a;refine az (fun s t H e=>match s with|(G,O)=>∃q:Nat,∃u:Nat,∃v:Nat,t 1=.ptr 1 q 0∧t 5=sN d∧t 6=.ptr 6 u 0∧t 7=.buf 7 v 4 0 (O).length∧t 59=sF bl b.aq∧t 60=sN (b.aq.length:Int)∧t 61=sN d∧t 72=sN (b.aG.length:Int)∧t 73=sN G∧H 1=rV q 54 [sF bl b.aq,sF dX b.aG,sF (fL ak) b.aO]∧H 6=rV u 83 [sN j.a8,sN j.aS,sN j.aB]∧H 7=rW v 41 (an ak O)) (fun o x t H e=>match o with|w=>x=.exit 4∧∃i:Nat,∃y:Nat,∃A:Nat,t 1=.ptr 1 i 0∧t 6=.ptr 6 y 0∧t 7=.buf 7 A 4 0 (w).length∧t 59=sF bl b.aq∧t 60=sN (b.aq.length:Int)∧t 61=sN d∧H 1=rV i 54 [sF bl b.aq,sF dX b.aG,sF (fL ak) b.aO]∧H 6=rV y 83 [sN j.a8,sN j.aS,sN j.aB]∧H 7=rW A 41 (an ak w)) ad ?_ ?_ ?_
       ·refine⟨C,e+1,e+1+1,?_⟩;and_intros<;>first|rfl|(simp only[aK,seval,Zc]<;>rfl)
       ·rintro⟨G,O⟩ t H e ⟨q,u,v,Ze⟩ c a;simp only[iW]at a;simp only[aK,seval,Ze];apply sp ax a<;>intro _ a
        ·obtain⟨aC,ag,a⟩:=ae a;have I:=bz (fL ak) ag;simp only[bG]at I;obtain⟨f,ai,a⟩:=ae a;have J:=bz ak ai;simp only[bG]at J;obtain⟨aD,K,a⟩:=ae a;have L:=bz ak K;simp only[bG]at L;have aj:=fE ak (x':=f) (fo:=0) (cs:=[.int .i64 f.bn.al,.sl false false f.bn.aa.length (an (eI .i64) f.bn.aa),.int .i64 f.bu.al,.sl false false f.bu.aa.length (an (eI .i64) f.bu.aa)]) K rfl (amV rfl);simp only[bG,Nat.add_zero]at aj;have M:=aj;simp only[putCells,List.length_cons,List.length_nil,amr,Nat.reduceAdd]at M;cases a;simp only[aK,seval,p,Ze,I,J,L,M];apply iD;refine⟨q,u,v,?_⟩;and_intros<;>first|rfl|(simp only[aK,seval,Ze]<;>rfl)
        ·cases a;simp only[aK,seval];apply kf;refine⟨rfl,⟨q,u,v,?_,?_,?_,?_,?_,?_,?_,?_,?_⟩⟩;all_goals ((simp only[aK,seval,Ze]<;>rfl))
       ·rintro x t H e k;obtain⟨w,rfl⟩:∃z,z=av:=⟨_,rfl⟩;dsimp only at k a;obtain⟨rfl,⟨i,y,A,B⟩⟩:=k;obtain⟨aE,al,a⟩:=ae a;simp only[aK,seval,B,al];apply sp bQ a<;>intro _ a
        ·cases a;simp only[aK,seval];refine uq ⟨rfl,?_⟩;simp only[aK,seval]
        ·simp only[aK,seval,B];apply sp bQ a<;>intro _ a
         ·cases a;simp only[aK,seval];refine uq ⟨rfl,?_⟩;simp only[aK,seval]
         ·obtain⟨aG,ao,a⟩:=ae a;simp only[aK,seval,B,ao];apply sp ax a<;>intro _ a
          ·cases a;simp only[aK,seval];refine uq ⟨rfl,?_⟩;simp only[aK,seval]
          ·cases a;simp only[aK,seval,B];apply iD;refine⟨i,?_⟩;and_intros<;>first|rfl|(simp only[aK,seval,B]<;>rfl)
      ·cases a;simp only[aK,seval];apply kf;exact rfl
     ·rintro x t H e k;rcases au with _|rc
      ·dsimp only at k a;subst k;cases a;simp only[aK,seval]
      ·dsimp only at k a;obtain⟨rfl,hE⟩:=k;cases a;simp only[bd,bj,cL,cR];exact hE
    ·dsimp only at k a;obtain⟨rfl,hE⟩:=k;cases a;simp only[bd,bj,cL,cR];exact hE
 ·clear a;have a:=aq;simp only[aK,seval];apply sp bQ a<;>intro _ a
  ·cases a;simp only[aK,seval];rw[aF];refine⟨_,rfl,?_⟩;refine⟨0,?_,?_,?_⟩;all_goals (rfl)
  ·simp only[aK,seval];apply sp bQ a<;>intro _ a
   ·cases a;simp only[aK,seval];rw[aF];refine⟨_,rfl,?_⟩;refine⟨0,?_,?_,?_⟩;all_goals (rfl)
   ·cases a;simp only[aK,seval];rw[aF];refine⟨_,rfl,?_⟩;refine⟨0,?_,?_,?_⟩;all_goals (rfl)
def sZ (l:Option (D×Row)) (d:List D):=ej (gj (bW hZ) (dM (YX (eI .i64)))) (fun x:iG×Int=>qX x.1 x.2) (fun r:Bool =>.clean (.bool r)) l d
def ajl {β:Type} {F:iG×Int->Option β} {R:β->RK} (a:Int) (b:Int) (c:Int):ej (gj (bW hZ) (dM (YX (eI .i64)))) F R none [.agg [.int .i64 a,.int .i64 b],.ip [.int .i64 c]]=(F ((iG.mk a b),c)).map fun r=>(R r,none):=cF _ _ _ ((iG.mk a b),c)
def xu:Env:=(Am.ext bk 81 false dC)
def Ke:bV prog xu:=(bV.none.add nV false)
def xU:=ai @w<|ai @Ky<|ai @dC.eq_1<|@xu.eq_1
def Kp:ck prog 131 sZ:=ck.iZ (mode := .clean) tok Ke mixed func131 (by kernel_rfl) (fun _ _=>rfl) (fun _=>by kernel_rfl) fun⟨d,e⟩ r a=>by
 replace a:qX d e=some r:=a;apply aJ rfl ntmps131 results131;simp only[ja];unfold qX at a;obtain⟨f,b,a⟩:=ae a;simp only[xU,seval,b];apply sp bQ a<;>intro _ a
 ·cases a;simp only[xU,seval]
 ·obtain⟨g,c,a⟩:=ae a;cases a;simp only[xU,seval,c]
def s4 (l:Option (D×Row)) (d:List D):=ej (gj (aI .i64) (dM (YX (eI .i64)))) (fun x:Int×Int=>qY x.1 x.2) (fun r:Bool =>.clean (.bool r)) l d
def ajm {β:Type} {F:Int×Int->Option β} {R:β->RK} (a:Int) (b:Int):ej (gj (aI .i64) (dM (YX (eI .i64)))) F R none [.int .i64 a,.ip [.int .i64 b]]=(F (a,b)).map fun r=>(R r,none):=cF _ _ _ (a,b)
def xv:Env:=(Am.ext bk 81 false dC)
def Kf:bV prog xv:=(bV.none.add nV false)
def PC:=ai @w<|ai @Ky<|ai @dC.eq_1<|@xv.eq_1
def Kq:ck prog 132 s4:=ck.iZ (mode := .clean) tok Kf mixed func132 (by kernel_rfl) (fun _ _=>rfl) (fun _=>by kernel_rfl) fun⟨c,d⟩ r a=>by
 replace a:qY c d=some r:=a;apply aJ rfl ntmps132 results132;simp only[ja];unfold qY at a;obtain⟨e,b,a⟩:=ae a;cases a;simp only[PC,seval,b]
def sw:=ej (dM (jX (eI .i64))) (fun x:(List Int)=>rJ x) (fun r:(List Int) =>.clean (.clo 195 0 [.ip [.sl false false r.length (an (eI .i64) r)]]))
def yd (a:(List Int)):sw none [.sl false false a.length (an (eI .i64) a)]=(rJ a).map fun r:(List Int)=>(.clean (.clo 195 0 [.ip [.sl false false r.length (an (eI .i64) r)]]),none):=cF _ _ _ a
def El:ck prog 174 sw:=aaR
def eK:=ej (dM (NO 195 0 (dM (YX (fL (eI .i64)))))) (fun x:(List Int)=>dx x) (fun r:(List Int) =>.fresh 3 1 r.length (an (eI .i64) r))
def gP (a:(List Int)):eK none [.clo 195 0 [.ip [.sl false false a.length (an (eI .i64) a)]]]=(dx a).map fun r:(List Int)=>(.fresh 3 1 r.length (an (eI .i64) r),none):=cF _ _ _ a
def lI:ck prog 173 eK:=aax
def rz (l:Option (D×Row)) (d:List D):=ej (gj (jX (eI .i64)) (dM (aI .i64))) (fun x:(List Int)×Int=>mi x.1 x.2) (fun r:Bool =>.clean (.bool r)) l d
def vR:Env:=(Am.ext (Am.ext bk 173 false eK) 174 false sw)
def H3:bV prog vR:=((bV.none.add lI false).add El false)
def gr:=ai @w<|ai @gP<|ai @yd<|@vR.eq_1
def I1:ck prog 133 rz:=ck.iZ (mode := .clean) tok H3 mixed func133 (by kernel_rfl) (fun _ _=>rfl) (fun _=>by kernel_rfl) fun⟨u,k⟩ r a=>by
 replace a:mi u k=some r:=a;apply aJ rfl ntmps133 results133;simp only[ja];unfold mi at a;obtain⟨y,l,a⟩:=ae a;obtain⟨g,m,a⟩:=ae a;simp only[gr,seval,l,m];obtain⟨v,n,a⟩:=ae a;refine az (fun s t H e=>match s with|f=>∃b:Nat,t 1=sN k∧t 5=.buf 5 b 1 0 (g).length∧t 11=.buf 5 b 1 0 (g).length∧t 12=sN ((g).length:Int)∧t 13=sN f∧H 5=rW b 3 (an (eI .i64) g)) (fun o x t H e=>match o with|(.inl _)=>x=.exit 0∧∃d:Nat,t 1=sN k∧t 5=.buf 5 d 1 0 (g).length∧H 5=rW d 3 (an (eI .i64) g)|(.inr r)=>x=.ret∧gG .clean tab none [.tmp 4] ⟨t,EH H,e⟩=some (.clean (.bool r),none)) n ?_ ?_ ?_
 ·refine⟨1,?_,?_,?_,?_,?_,?_⟩;all_goals (rfl)
 ·rintro f t H e ⟨b,h⟩ c a;simp only[pY]at a;simp only[gr,seval,h];apply sp ax a<;>intro _ a
  ·obtain⟨z,p,a⟩:=ae a;have i:=bz (eI .i64) p;simp only[bG]at i;simp only[gr,seval,h,i];apply sp ax a<;>intro _ a
   ·cases a;simp only[gr,seval];refine uq ⟨rfl,?_⟩;simp only[gr,seval]
   ·cases a;simp only[gr,seval,h];apply iD;refine⟨b,?_⟩;and_intros<;>first|rfl|(simp only[gr,seval,h]<;>rfl)
  ·cases a;simp only[gr,seval];apply kf;refine⟨rfl,⟨b,?_,?_,?_⟩⟩;all_goals ((simp only[gr,seval,h]<;>rfl))
 ·rintro x t H e j;rcases v with _|A
  ·dsimp only at j a;obtain⟨rfl,⟨d,q⟩⟩:=j;cases a;simp only[gr,seval,q]
  ·dsimp only at j a;obtain⟨rfl,w⟩:=j;cases a;simp only[bd,bj,cL,cR];exact w
def eu (l:Option (D×Row)) (d:List D):=ej (gj (jX hZ) (dM (NO 131 0 (dM (YX (eI .i64)))))) (fun x:(List iG)×(Int)=>dy x.1 x.2) (fun r:Int =>.clean (.int .i64 r)) l d
def afN {β:Type} {F:(List iG)×(Int)->Option β} {R:β->RK} (b:(List iG)) (a:Int):ej (gj (jX hZ) (dM (NO 131 0 (dM (YX (eI .i64)))))) F R none [.sl false false b.length (an hZ b),.clo 131 0 [.ip [.int .i64 a]]]=(F (b,(a))).map fun r=>(R r,none):=cF _ _ _ (b,(a))
def fY:Env:=(Am.ext bk 131 false sZ)
def oI:bV prog fY:=(bV.none.add Kp false)
def bH:=ai @w<|ai @ajl<|ai @sZ.eq_1<|@fY.eq_1
def oN:ck prog 175 eu:=ck.iZ (mode := .clean) tok oI mixed func175 (by kernel_rfl) (fun _ _=>rfl) (fun _=>by kernel_rfl) fun⟨i,b⟩ r a=>by
 replace a:dy i b=some r:=a;apply aJ rfl ntmps175 results175;simp only[ja];unfold dy at a;simp only[bH,seval];obtain⟨m,j,a⟩:=ae a;refine az (fun s t H e=>match s with|d=>t 0=sF hZ i∧t 1=.clo 131 0 [.ip [sN b]]∧t 7=sN (i.length:Int)∧t 8=sN d) (fun o x t H e=>match o with|(.inl _)=>x=.exit 0|(.inr r)=>x=.ret∧gG .clean tab none [.tmp 4] ⟨t,EH H,e⟩=some (.clean (.int .i64 r),none)) j ?_ ?_ ?_
 ·refine⟨?_,?_,?_,?_⟩;all_goals (rfl)
 ·rintro d t H e g c a;simp only[ee]at a;simp only[bH,seval,g];apply sp ax a<;>intro _ a
  ·obtain⟨p,k,a⟩:=ae a;have f:=bz hZ k;simp only[bG]at f;obtain⟨q,l,a⟩:=ae a;simp only[bH,seval,g,f,l];apply sp ax a<;>intro _ a
   ·cases a;simp only[bH,seval];refine uq ⟨rfl,?_⟩;simp only[bH,seval]
   ·cases a;simp only[bH,seval,g];apply iD;and_intros<;>first|rfl|(simp only[bH,seval,g]<;>rfl)
  ·cases a;simp only[bH,seval];apply kf;exact rfl
 ·rintro x t H e h;rcases m with _|u
  ·dsimp only at h a;subst h;cases a;simp only[bH,seval]
  ·dsimp only at h a;obtain⟨rfl,n⟩:=h;cases a;simp only[bd,bj,cL,cR];exact n
def dD (l:Option (D×Row)) (d:List D):=ej (gj (jX hZ) (dM (NO 131 0 (dM (YX (eI .i64)))))) (fun x:(List iG)×(Int)=>cy x.1 x.2) (fun r:Bool =>.clean (.bool r)) l d
def fe:Env:=(Am.ext bk 175 false eu)
def mJ:bV prog fe:=(bV.none.add oN false)
def nI:=ai @w<|ai @afN<|ai @eu.eq_1<|@fe.eq_1
def mY:ck prog 134 dD:=ck.iZ (mode := .clean) tok mJ mixed func134 (by kernel_rfl) (fun _ _=>rfl) (fun _=>by kernel_rfl) fun⟨d,b⟩ r a=>by
 replace a:cy d b=some r:=a;apply aJ rfl ntmps134 results134;simp only[ja];unfold cy at a;obtain⟨e,c,a⟩:=ae a;cases a;simp only[nI,seval,c]
def ew (l:Option (D×Row)) (d:List D):=ej (gj (jX (eI .i64)) (dM (NO 132 0 (dM (YX (eI .i64)))))) (fun x:(List Int)×(Int)=>dz x.1 x.2) (fun r:Int =>.clean (.int .i64 r)) l d
def afO {β:Type} {F:(List Int)×(Int)->Option β} {R:β->RK} (b:(List Int)) (a:Int):ej (gj (jX (eI .i64)) (dM (NO 132 0 (dM (YX (eI .i64)))))) F R none [.sl false false b.length (an (eI .i64) b),.clo 132 0 [.ip [.int .i64 a]]]=(F (b,(a))).map fun r=>(R r,none):=cF _ _ _ (b,(a))
def fZ:Env:=(Am.ext bk 132 false s4)
def oJ:bV prog fZ:=(bV.none.add Kq false)
def bI:=ai @w<|ai @ajm<|ai @s4.eq_1<|@fZ.eq_1
def oO:ck prog 176 ew:=ck.iZ (mode := .clean) tok oJ mixed func176 (by kernel_rfl) (fun _ _=>rfl) (fun _=>by kernel_rfl) fun⟨i,b⟩ r a=>by
 replace a:dz i b=some r:=a;apply aJ rfl ntmps176 results176;simp only[ja];unfold dz at a;simp only[bI,seval];obtain⟨m,j,a⟩:=ae a;refine az (fun s t H e=>match s with|d=>t 0=sI i∧t 1=.clo 132 0 [.ip [sN b]]∧t 7=sN (i.length:Int)∧t 8=sN d) (fun o x t H e=>match o with|(.inl _)=>x=.exit 0|(.inr r)=>x=.ret∧gG .clean tab none [.tmp 4] ⟨t,EH H,e⟩=some (.clean (.int .i64 r),none)) j ?_ ?_ ?_
 ·refine⟨?_,?_,?_,?_⟩;all_goals (rfl)
 ·rintro d t H e g c a;simp only[ef]at a;simp only[bI,seval,g];apply sp ax a<;>intro _ a
  ·obtain⟨p,k,a⟩:=ae a;have f:=bz (eI .i64) k;simp only[bG]at f;obtain⟨q,l,a⟩:=ae a;simp only[bI,seval,g,f,l];apply sp ax a<;>intro _ a
   ·cases a;simp only[bI,seval];refine uq ⟨rfl,?_⟩;simp only[bI,seval]
   ·cases a;simp only[bI,seval,g];apply iD;and_intros<;>first|rfl|(simp only[bI,seval,g]<;>rfl)
  ·cases a;simp only[bI,seval];apply kf;exact rfl
 ·rintro x t H e h;rcases m with _|u
  ·dsimp only at h a;subst h;cases a;simp only[bI,seval]
  ·dsimp only at h a;obtain⟨rfl,n⟩:=h;cases a;simp only[bd,bj,cL,cR];exact n
def dE (l:Option (D×Row)) (d:List D):=ej (gj (jX (eI .i64)) (dM (NO 132 0 (dM (YX (eI .i64)))))) (fun x:(List Int)×(Int)=>cz x.1 x.2) (fun r:Bool =>.clean (.bool r)) l d
def ff:Env:=(Am.ext bk 176 false ew)
def mK:bV prog ff:=(bV.none.add oO false)
def nJ:=ai @w<|ai @afO<|ai @ew.eq_1<|@ff.eq_1
def mZ:ck prog 135 dE:=ck.iZ (mode := .clean) tok mK mixed func135 (by kernel_rfl) (fun _ _=>rfl) (fun _=>by kernel_rfl) fun⟨d,b⟩ r a=>by
 replace a:cz d b=some r:=a;apply aJ rfl ntmps135 results135;simp only[ja];unfold cz at a;obtain⟨e,c,a⟩:=ae a;cases a;simp only[nJ,seval,c]
def wX (l:Option (D×Row)) (d:List D):=ej (gj (bW b7) (dM (aI .i64))) (fun x:bo×Int=>wD x.1 x.2) (fun r:Bool =>.clean (.bool r)) l d
def ajn {β:Type} {F:bo×Int->Option β} {R:β->RK} (a:(List ir)) (b:(List sC)) (c:(List (List ah))) (d:(List iG)) (e:(List Int)) (f:Int):ej (gj (bW b7) (dM (aI .i64))) F R none [.agg [.sl false false a.length (an bl a),.sl false false b.length (an dX b),.sl false false c.length (an (fL ak) c),.sl false false d.length (an hZ d),.sl false false e.length (an (eI .i64) e)],.int .i64 f]=(F ((bo.mk (dR.mk a b c) d e),f)).map fun r=>(R r,none):=cF _ _ _ ((bo.mk (dR.mk a b c) d e),f)
def BC:Env:=(Am.ext (Am.ext (Am.ext (Am.ext bk 130 false oa) 133 false rz) 134 false dD) 135 false dE)
def Rt:bV prog BC:=((((bV.none.add Ek false).add I1 false).add mY false).add mZ false)
def ct:=ai @w<|ai @afM<|ai @oa.eq_1<|ai @sh7<|ai @rz.eq_1<|ai @afN<|ai @dD.eq_1<|ai @afO<|ai @dE.eq_1<|@BC.eq_1
def SS:ck prog 82 wX:=ck.iZ (mode := .clean) tok Rt mixed func82 (by kernel_rfl) (fun _ _=>rfl) (fun _=>by kernel_rfl) fun⟨b,O⟩ r a=>by
 replace a:wD b O=some r:=a;apply aJ rfl ntmps82 results82;simp only[ja];unfold wD at a;obtain⟨r1,al,a⟩:=ae a;simp only[ct,seval,al];apply sp ax a<;>intro _ a
 ·cases a;simp only[ct,seval]
 ·simp only[ct,seval];obtain⟨o8,ao,a⟩:=ae a;refine az (fun s t H e=>match s with|(D,K)=>∃j:Nat,∃k:Nat,∃q:Nat,∃l:Nat,t 2=.ptr 2 j 0∧t 3=.ptr 3 k 0∧t 5=.buf 5 q 1 0 (K).length∧t 6=.buf 6 l 1 0 0∧t 19=sF bl b.av.aq∧t 20=sN (b.av.aq.length:Int)∧t 21=sN D∧H 2=rV j 57 [sF bl b.av.aq,sF dX b.av.aG,sF (fL ak) b.av.aO,sF hZ b.bC,sI b.aC]∧H 3=rV k 3 [sN O]∧H 5=rW q 3 (an (eI .i64) K)∧H 6=rW l 3 []) (fun o x t H e=>match o with|d=>x=.exit 0∧∃f:Nat,∃g:Nat,∃h:Nat,∃i:Nat,t 2=.ptr 2 f 0∧t 3=.ptr 3 g 0∧t 5=.buf 5 h 1 0 (d).length∧t 6=.buf 6 i 1 0 0∧H 2=rV f 57 [sF bl b.av.aq,sF dX b.av.aG,sF (fL ak) b.av.aO,sF hZ b.bC,sI b.aC]∧H 3=rV g 3 [sN O]∧H 5=rW h 3 (an (eI .i64) d)∧H 6=rW i 3 []) ao ?_ ?_ ?_
  ·refine⟨0,0,2,2,?_,?_,?_,?_,?_,?_,?_,?_,?_,?_,?_⟩;all_goals (rfl)
  ·rintro⟨D,K⟩ t H e ⟨j,k,q,l,L⟩ c a;simp only[pb]at a;simp only[ct,seval,L];apply sp ax a<;>intro _ a
   ·obtain⟨ar,P,a⟩:=ae a;have E:=bz bl P;simp only[bG]at E;simp only[ct,seval,L,E];apply sp ax a<;>intro _ a
    ·obtain⟨au,Q,a⟩:=ae a;obtain⟨R,F,S,T⟩:=js (eI .i64) Q;simp only[bG]at F;cases a;simp only[ct,seval,L,R,F,S,T];apply iD;refine⟨j,k,e+1+1+1,l,?_⟩;and_intros<;>first|rfl|(simp only[ct,seval,L]<;>rfl)
    ·cases a;simp only[ct,seval,L];apply iD;refine⟨j,k,q,l,?_⟩;and_intros<;>first|rfl|(simp only[ct,seval,L]<;>rfl)
   ·cases a;simp only[ct,seval];apply kf;refine⟨rfl,⟨j,k,q,l,?_,?_,?_,?_,?_,?_,?_,?_⟩⟩;all_goals ((simp only[ct,seval,L]<;>rfl))
  ·rintro x t H e U;obtain⟨d,rfl⟩:∃z,z=o8:=⟨_,rfl⟩;dsimp only at U a;obtain⟨rfl,⟨f,g,h,i,V⟩⟩:=U;simp only[ct,seval,V];obtain⟨aq,W,a⟩:=ae a;refine az (fun s t H e=>match s with|(G,M)=>∃m:Nat,∃n:Nat,∃p:Nat,∃u:Nat,t 2=.ptr 2 m 0∧t 3=.ptr 3 n 0∧t 5=.buf 5 p 1 0 (d).length∧t 6=.buf 6 u 1 0 (M).length∧t 36=sF dX b.av.aG∧t 37=sN (b.av.aG.length:Int)∧t 38=sN G∧H 2=rV m 57 [sF bl b.av.aq,sF dX b.av.aG,sF (fL ak) b.av.aO,sF hZ b.bC,sI b.aC]∧H 3=rV n 3 [sN O]∧H 5=rW p 3 (an (eI .i64) d)∧H 6=rW u 3 (an (eI .i64) M)) (fun o x t H e=>match o with|v=>x=.exit 2∧∃w:Nat,∃y:Nat,∃A:Nat,∃B:Nat,t 2=.ptr 2 w 0∧t 3=.ptr 3 y 0∧t 5=.buf 5 A 1 0 (d).length∧t 6=.buf 6 B 1 0 (v).length∧H 2=rV w 57 [sF bl b.av.aq,sF dX b.av.aG,sF (fL ak) b.av.aO,sF hZ b.bC,sI b.aC]∧H 3=rV y 3 [sN O]∧H 5=rW A 3 (an (eI .i64) d)∧H 6=rW B 3 (an (eI .i64) v)) W ?_ ?_ ?_
   ·refine⟨f,g,h,i,?_⟩;and_intros<;>first|rfl|(simp only[ct,seval,V]<;>rfl)
   ·rintro⟨G,M⟩ t H e ⟨m,n,p,u,N⟩ c a;simp only[pc]at a;simp only[ct,seval,N];apply sp ax a<;>intro _ a
    ·obtain⟨av,X,a⟩:=ae a;have I:=bz dX X;simp only[bG]at I;simp only[ct,seval,N,I];apply sp ax a<;>intro _ a
     ·obtain⟨aw,Y,a⟩:=ae a;obtain⟨Z,J,aa,ab⟩:=js (eI .i64) Y;simp only[bG]at J;cases a;simp only[ct,seval,N,Z,J,aa,ab];apply iD;refine⟨m,n,p,e+1+1+1,?_⟩;and_intros<;>first|rfl|(simp only[ct,seval,N]<;>rfl)
     ·cases a;simp only[ct,seval,N];apply iD;refine⟨m,n,p,u,?_⟩;and_intros<;>first|rfl|(simp only[ct,seval,N]<;>rfl)
    ·cases a;simp only[ct,seval];apply kf;refine⟨rfl,⟨m,n,p,u,?_,?_,?_,?_,?_,?_,?_,?_⟩⟩;all_goals ((simp only[ct,seval,N]<;>rfl))
   ·rintro x t H e U;obtain⟨v,rfl⟩:∃z,z=aq:=⟨_,rfl⟩;dsimp only at U a;obtain⟨rfl,⟨w,y,A,B,C⟩⟩:=U;obtain⟨ay,ad,a⟩:=ae a;simp only[ct,seval,C,ad];apply sp gB a<;>intro _ a
    ·obtain⟨aA,ag,a⟩:=ae a;simp only[ct,seval,C,ag];apply sp gB a<;>intro _ a
     ·obtain⟨aB,ai,a⟩:=ae a;simp only[ct,seval,C,ai];apply sp gB a<;>intro _ a
      ·obtain⟨aC,aj,a⟩:=ae a;cases a;simp only[ct,seval,C,aj]
      ·cases a;simp only[ct,seval]
     ·cases a;simp only[ct,seval]
    ·cases a;simp only[ct,seval]
def iM (l:Option (D×Row)) (d:List D):=ej (dM (bW oh)) (fun x:bf=>o0 x) (fun r:Int×Int =>.clean (.tup [.int .i64 r.1,.int .i64 r.2])) l d
def aar {β:Type} {F:bf->Option β} {R:β->RK} (a:(List Int)) (b:(List bo)):ej (dM (bW oh)) F R none [.agg [.sl false false a.length (an (eI .i64) a),.sl false false b.length (an b7 b)]]=(F ((bf.mk a b))).map fun r=>(R r,none):=cF _ _ _ ((bf.mk a b))
def zg:Env:=(Am.ext (Am.ext bk 81 false dC) 82 false wX)
def Oq:bV prog zg:=((bV.none.add nV false).add SS false)
def aN:=ai @w<|ai @Ky<|ai @dC.eq_1<|ai @ajn<|ai @wX.eq_1<|@zg.eq_1
def xE:ck prog 39 iM:=ck.iZ (mode := .clean) tok Oq mixed func39 (by kernel_rfl) (fun _ _=>rfl) (fun _=>by kernel_rfl) fun b r a=>by
 replace a:o0 b=some r:=a;apply aJ rfl ntmps39 results39;simp only[ja];unfold o0 at a;simp only[aN,seval];obtain⟨o1,bq,a⟩:=ae a;refine cQ 0 (fun s t H e=>match s with|G=>∃l:Nat,t 1=.ptr 1 l 0∧t 27=.bool G∧H 1=rV l 25 [sI b.aw,sF b7 b.au]) (fun s=>s=o1) ?_ ?_
 ·rintro G t H e ⟨l,aG⟩ rfl;try dsimp only at a
  simp only[aN,seval,aG];apply sp ax a<;>intro _ a
  ·cases a;simp only[aN,seval]
  ·simp only[aN,seval,aG];obtain⟨o7,br,a⟩:=ae a;refine az (fun s t H e=>match s with|al=>∃I:Nat,t 1=.ptr 1 I 0∧t 29=sI b.aw∧t 30=sN (b.aw.length:Int)∧t 31=sN al∧H 1=rV I 25 [sI b.aw,sF b7 b.au]) (fun o x t H e=>match o with|(.inl _)=>x=.exit 0∧∃m:Nat,t 1=.ptr 1 m 0∧H 1=rV m 25 [sI b.aw,sF b7 b.au]|(.inr r)=>x=.ret∧gG .clean tab none [.tmp 2,.tmp 3] ⟨t,EH H,e⟩=some (.clean (.tup [.int .i64 r.1,.int .i64 r.2]),none)) br ?_ ?_ ?_
   ·refine⟨l,?_⟩;and_intros<;>first|rfl|(simp only[aN,seval,aG]<;>rfl)
   ·rintro al t H e ⟨I,Zb⟩ c a;simp only[mN]at a;simp only[aN,seval,Zb];apply sp ax a<;>intro _ a
    ·obtain⟨x9,bs,a⟩:=ae a;have aL:=bz (eI .i64) bs;simp only[bG]at aL;obtain⟨bF,aM,a⟩:=ae a;simp only[aN,seval,Zb,aL,aM];apply sp ax a<;>intro _ a
     ·cases a;simp only[aN,seval];refine uq ⟨rfl,?_⟩;simp only[aN,seval]
     ·cases a;simp only[aN,seval,Zb];apply iD;refine⟨I,?_⟩;and_intros<;>first|rfl|(simp only[aN,seval,Zb]<;>rfl)
    ·cases a;simp only[aN,seval];apply kf;refine⟨rfl,⟨I,?_,?_⟩⟩;all_goals ((simp only[aN,seval,Zb]<;>rfl))
   ·rintro x t H e g;rcases o7 with _|rb
    ·dsimp only at g a;obtain⟨rfl,⟨m,aO⟩⟩:=g;obtain⟨bH,ao,a⟩:=ae a;obtain⟨aP,aQ,aR,aq,aS⟩:=mk_one (eI .i64) ao;simp only[bG]at aq;obtain⟨bB,bC,bD,aT,bE⟩:=mk_one (eI .i64) ao;simp only[bG]at aT;simp only[aN,seval,aO,aP,aQ,aR,aq,aS];refine bP (by kernel_rfl) ?_;obtain⟨bt,aU,a⟩:=ae a;refine az (fun s t H e=>match s with|(i,aH,k)=>∃J:Nat,∃K:Nat,∃L:Nat,t 1=.ptr 1 J 0∧t 6=.buf 6 K 1 0 (aH).length∧t 7=.buf 7 L 1 0 (k).length∧t 50=sF b7 b.au∧t 51=sN (b.au.length:Int)∧t 52=sN i∧H 1=rV J 25 [sI b.aw,sF b7 b.au]∧H 6=rW K 3 (an (eI .i64) aH)∧H 7=rW L 3 (an (eI .i64) k)) (fun o x t H e=>match o with|(.inl (j,d))=>x=.exit 2∧∃n:Nat,∃p:Nat,∃q:Nat,t 1=.ptr 1 n 0∧t 6=.buf 6 p 1 0 (j).length∧t 7=.buf 7 q 1 0 (d).length∧H 1=rV n 25 [sI b.aw,sF b7 b.au]∧H 6=rW p 3 (an (eI .i64) j)∧H 7=rW q 3 (an (eI .i64) d)|(.inr r)=>x=.ret∧gG .clean tab none [.tmp 2,.tmp 3] ⟨t,EH H,e⟩=some (.clean (.tup [.int .i64 r.1,.int .i64 r.2]),none)) aU ?_ ?_ ?_
     ·refine⟨m,e,e,?_⟩;and_intros<;>first|rfl|(simp only[aN,seval,aO]<;>rfl)
     ·rintro⟨i,aH,k⟩ t H e ⟨J,K,L,Zc⟩ c a;simp only[kU]at a;simp only[aN,seval,Zc];apply sp ax a<;>intro _ a
      ·obtain⟨f,aV,a⟩:=ae a;have ar:=bz b7 aV;simp only[bG]at ar;obtain⟨bI,aW,a⟩:=ae a;simp only[aN,seval,Zc,ar,aW];apply sp ax a<;>intro _ a
       ·cases a;simp only[aN,seval];refine uq ⟨rfl,?_⟩;simp only[aN,seval]
       ·simp only[aN,seval];obtain⟨bu,aX,a⟩:=ae a;refine az (fun s t H e=>match s with|(au,aI)=>∃M:Nat,∃N:Nat,∃O:Nat,∃P:Nat,t 1=.ptr 1 M 0∧t 6=.buf 6 N 1 0 (aI).length∧t 7=.buf 7 O 1 0 (k).length∧t 9=.ptr 9 P 0∧t 50=sF b7 b.au∧t 51=sN (b.au.length:Int)∧t 52=sN i∧t 65=sI f.aC∧t 66=sN (f.aC.length:Int)∧t 67=sN au∧H 1=rV M 25 [sI b.aw,sF b7 b.au]∧H 6=rW N 3 (an (eI .i64) aI)∧H 7=rW O 3 (an (eI .i64) k)∧H 9=rV P 57 [sF bl f.av.aq,sF dX f.av.aG,sF (fL ak) f.av.aO,sF hZ f.bC,sI f.aC]) (fun o x t H e=>match o with|h=>x=.exit 4∧∃u:Nat,∃v:Nat,∃w:Nat,∃Q:Nat,t 1=.ptr 1 u 0∧t 6=.buf 6 v 1 0 (h).length∧t 7=.buf 7 w 1 0 (k).length∧t 9=.ptr 9 Q 0∧t 50=sF b7 b.au∧t 51=sN (b.au.length:Int)∧t 52=sN i∧H 1=rV u 25 [sI b.aw,sF b7 b.au]∧H 6=rW v 3 (an (eI .i64) h)∧H 7=rW w 3 (an (eI .i64) k)∧H 9=rV Q 57 [sF bl f.av.aq,sF dX f.av.aG,sF (fL ak) f.av.aO,sF hZ f.bC,sI f.aC]) aX ?_ ?_ ?_
        ·refine⟨J,K,L,e+1,?_⟩;and_intros<;>first|rfl|(simp only[aN,seval,Zc]<;>rfl)
        ·rintro⟨au,aI⟩ t H e ⟨M,N,O,P,Zf⟩ c a;simp only[mO]at a;simp only[aN,seval,Zf];apply sp ax a<;>intro _ a
         ·obtain⟨bJ,aY,a⟩:=ae a;have av:=bz (eI .i64) aY;simp only[bG]at av;obtain⟨aZ,R,a⟩:=ae a;have y:=bz (eI .i64) R;simp only[bG]at y;have y:=bz (eI .i64) R;simp only[bG]at y;have a1:=fE (eI .i64) (x':=IntKind.i64.wrap (aZ+1)) (fo:=0) (cs:=[.int .i64 (IntKind.i64.wrap (aZ+1))]) R rfl (amV rfl);simp only[bG,Nat.add_zero]at a1;have aw:=a1;simp only[putCells,List.length_cons,List.length_nil,amr]at aw;cases a;simp only[aN,seval,Zf,av,y,aw];apply iD;refine⟨M,N,O,P,?_⟩;and_intros<;>first|rfl|(simp only[aN,seval,Zf]<;>rfl)
         ·cases a;simp only[aN,seval];apply kf;refine⟨rfl,⟨M,N,O,P,?_,?_,?_,?_,?_,?_,?_,?_,?_,?_,?_⟩⟩;all_goals ((simp only[aN,seval,Zf]<;>rfl))
        ·rintro x t H e g;obtain⟨h,rfl⟩:∃z,z=bu:=⟨_,rfl⟩;dsimp only at g a;obtain⟨rfl,⟨u,v,w,Q,a6⟩⟩:=g;simp only[aN,seval,a6];obtain⟨bw,a7,a⟩:=ae a;refine az (fun s t H e=>match s with|(ay,aK)=>∃S:Nat,∃T:Nat,∃U:Nat,t 1=.ptr 1 S 0∧t 6=.buf 6 T 1 0 (h).length∧t 7=.buf 7 U 1 0 (aK).length∧t 50=sF b7 b.au∧t 51=sN (b.au.length:Int)∧t 52=sN i∧t 79=sF hZ f.bC∧t 80=sN (f.bC.length:Int)∧t 81=sN ay∧H 1=rV S 25 [sI b.aw,sF b7 b.au]∧H 6=rW T 3 (an (eI .i64) h)∧H 7=rW U 3 (an (eI .i64) aK)) (fun o x t H e=>match o with|V=>x=.exit 6∧∃A:Nat,∃B:Nat,∃C:Nat,t 1=.ptr 1 A 0∧t 6=.buf 6 B 1 0 (h).length∧t 7=.buf 7 C 1 0 (V).length∧t 50=sF b7 b.au∧t 51=sN (b.au.length:Int)∧t 52=sN i∧H 1=rV A 25 [sI b.aw,sF b7 b.au]∧H 6=rW B 3 (an (eI .i64) h)∧H 7=rW C 3 (an (eI .i64) V)) a7 ?_ ?_ ?_
         ·refine⟨u,v,w,?_⟩;and_intros<;>first|rfl|(simp only[aN,seval,a6]<;>rfl)
         ·rintro⟨ay,aK⟩ t H e ⟨S,T,U,Zg⟩ c a;simp only[mP]at a;simp only[aN,seval,Zg];apply sp ax a<;>intro _ a
          ·obtain⟨ab,a8,a⟩:=ae a;have aA:=bz hZ a8;simp only[bG]at aA;obtain⟨ad,W,a⟩:=ae a;have D:=bz (eI .i64) W;simp only[bG]at D;have D:=bz (eI .i64) W;simp only[bG]at D;have ba:=fE (eI .i64) (x':=(if 1099511627777<(IntKind.i64.wrap (ad+ab.aB)) then 1099511627777 else IntKind.i64.wrap (ad+ab.aB))) (fo:=0) (cs:=[.int .i64 (if 1099511627777<(IntKind.i64.wrap (ad+ab.aB)) then 1099511627777 else IntKind.i64.wrap (ad+ab.aB))]) W rfl (amV rfl);simp only[bG,Nat.add_zero]at ba;have aB:=ba;simp only[putCells,List.length_cons,List.length_nil,amr]at aB;simp only[aN,seval,Zg,aA,D,aB];refine bP (by kernel_rfl) ?_;cases a;apply iD;refine⟨S,T,U,?_⟩;and_intros<;>first|rfl|(simp only[aN,seval,Zg]<;>rfl)
          ·cases a;simp only[aN,seval];apply kf;refine⟨rfl,⟨S,T,U,?_,?_,?_,?_,?_,?_,?_,?_,?_⟩⟩;all_goals ((simp only[aN,seval,Zg]<;>rfl))
         ·rintro x t H e g;obtain⟨V,rfl⟩:∃z,z=bw:=⟨_,rfl⟩;dsimp only at g a;obtain⟨rfl,⟨A,B,C,bb⟩⟩:=g;cases a;simp only[aN,seval,bb];apply iD;refine⟨A,B,C,?_⟩;and_intros<;>first|rfl|(simp only[aN,seval,bb]<;>rfl)
      ·cases a;simp only[aN,seval];apply kf;refine⟨rfl,⟨J,K,L,?_,?_,?_,?_,?_,?_⟩⟩;all_goals ((simp only[aN,seval,Zc]<;>rfl))
     ·rintro x t H e g;rcases bt with⟨j,d⟩|rc
      ·dsimp only at g a;obtain⟨rfl,⟨n,p,q,bc⟩⟩:=g;simp only[aN,seval,bc];obtain⟨bx,bg,a⟩:=ae a;refine az (fun s t H e=>match s with|X=>∃Y:Nat,∃ag:Nat,∃Z:Nat,t 1=.ptr 1 Y 0∧t 7=.buf 7 Z 1 0 (d).length∧t 100=.buf 6 ag 1 0 (j).length∧t 101=sN ((j).length:Int)∧t 102=sN X∧H 1=rV Y 25 [sI b.aw,sF b7 b.au]∧H 6=rW ag 3 (an (eI .i64) j)∧H 7=rW Z 3 (an (eI .i64) d)) (fun o x t H e=>match o with|(.inl _)=>x=.exit 8∧∃E:Nat,∃F:Nat,t 1=.ptr 1 E 0∧t 7=.buf 7 F 1 0 (d).length∧H 1=rV E 25 [sI b.aw,sF b7 b.au]∧H 7=rW F 3 (an (eI .i64) d)|(.inr r)=>x=.ret∧gG .clean tab none [.tmp 2,.tmp 3] ⟨t,EH H,e⟩=some (.clean (.tup [.int .i64 r.1,.int .i64 r.2]),none)) bg ?_ ?_ ?_
       ·refine⟨n,p,q,?_⟩;and_intros<;>first|rfl|(simp only[aN,seval,bc]<;>rfl)
       ·rintro X t H e ⟨Y,ag,Z,Zh⟩ c a;simp only[mQ]at a;simp only[aN,seval,Zh];apply sp ax a<;>intro _ a
        ·obtain⟨bK,bh,a⟩:=ae a;have aC:=bz (eI .i64) bh;simp only[bG]at aC;simp only[aN,seval,Zh,aC];apply sp ax a<;>intro _ a
         ·cases a;simp only[aN,seval];refine uq ⟨rfl,?_⟩;simp only[aN,seval]
         ·simp only[aN,seval];apply sp ax a<;>intro _ a
          ·cases a;simp only[aN,seval];refine uq ⟨rfl,?_⟩;simp only[aN,seval]
          ·cases a;simp only[aN,seval,Zh];apply iD;refine⟨Y,ag,Z,?_⟩;and_intros<;>first|rfl|(simp only[aN,seval,Zh]<;>rfl)
        ·cases a;simp only[aN,seval];apply kf;refine⟨rfl,⟨Y,Z,?_,?_,?_,?_⟩⟩;all_goals ((simp only[aN,seval,Zh]<;>rfl))
       ·rintro x t H e g;rcases bx with _|rh
        ·dsimp only at g a;obtain⟨rfl,⟨E,F,bk⟩⟩:=g;simp only[aN,seval,bk];obtain⟨bA,bm,a⟩:=ae a;refine az (fun s t H e=>match s with|aa=>∃ai:Nat,∃aj:Nat,t 1=.ptr 1 ai 0∧t 116=.buf 7 aj 1 0 (d).length∧t 117=sN ((d).length:Int)∧t 118=sN aa∧H 1=rV ai 25 [sI b.aw,sF b7 b.au]∧H 7=rW aj 3 (an (eI .i64) d)) (fun o x t H e=>match o with|(.inl _)=>x=.exit 11|(.inr r)=>x=.ret∧gG .clean tab none [.tmp 2,.tmp 3] ⟨t,EH H,e⟩=some (.clean (.tup [.int .i64 r.1,.int .i64 r.2]),none)) bm ?_ ?_ ?_
         ·refine⟨E,F,?_⟩;and_intros<;>first|rfl|(simp only[aN,seval,bk]<;>rfl)
         ·rintro aa t H e ⟨ai,aj,Zi⟩ c a;simp only[mR]at a;simp only[aN,seval,Zi];apply sp ax a<;>intro _ a
          ·obtain⟨bL,bn,a⟩:=ae a;have aD:=bz (eI .i64) bn;simp only[bG]at aD;obtain⟨bM,bp,a⟩:=ae a;have aE:=bz (eI .i64) bp;simp only[bG]at aE;simp only[aN,seval,Zi,aD,aE];apply sp ax a<;>intro _ a
           ·cases a;simp only[aN,seval];refine uq ⟨rfl,?_⟩;simp only[aN,seval]
           ·cases a;simp only[aN,seval,Zi];apply iD;refine⟨ai,aj,?_⟩;and_intros<;>first|rfl|(simp only[aN,seval,Zi]<;>rfl)
          ·cases a;simp only[aN,seval];apply kf;exact rfl
         ·rintro x t H e g;rcases bA with _|ri
          ·dsimp only at g a;subst g;cases a;simp only[aN,seval]
          ·dsimp only at g a;obtain⟨rfl,hE⟩:=g;cases a;simp only[bd,bj,cL,cR];exact hE
        ·dsimp only at g a;obtain⟨rfl,hE⟩:=g;cases a;simp only[bd,bj,cL,cR];exact hE
      ·dsimp only at g a;obtain⟨rfl,hE⟩:=g;cases a;simp only[bd,bj,cL,cR];exact hE
    ·dsimp only at g a;obtain⟨rfl,hE⟩:=g;cases a;simp only[bd,bj,cL,cR];exact hE
 ·clear a;have a:=bq;simp only[aN,seval];apply sp bQ a<;>intro _ a
  ·cases a;simp only[aN,seval];rw[aF];refine⟨_,rfl,?_⟩;refine⟨0,?_,?_,?_⟩;all_goals (rfl)
  ·cases a;simp only[aN,seval];rw[aF];refine⟨_,rfl,?_⟩;refine⟨0,?_,?_,?_⟩;all_goals (rfl)
def sX (l:Option (D×Row)) (d:List D):=ej (gj (bW vE) (dM (jX ak))) (fun x:dR×(List ah)=>qJ x.1 x.2) (fun r:Bool =>.clean (.bool r)) l d
def ajo {β:Type} {F:dR×(List ah)->Option β} {R:β->RK} (a:(List ir)) (b:(List sC)) (c:(List (List ah))) (d:(List ah)):ej (gj (bW vE) (dM (jX ak))) F R none [.agg [.sl false false a.length (an bl a),.sl false false b.length (an dX b),.sl false false c.length (an (fL ak) c)],.sl false false d.length (an ak d)]=(F ((dR.mk a b c),d)).map fun r=>(R r,none):=cF _ _ _ ((dR.mk a b c),d)
def xo:Env:=(Am.ext (Am.ext bk 24 false b6) 54 false aV)
def J9:bV prog xo:=((bV.none.add iL false).add dS false)
def dq:=ai @w<|ai @iX<|ai @b6.eq_1<|ai @aV.eq_1<|@xo.eq_1
def Kn:ck prog 83 sX:=ck.iZ (mode := .clean) tok J9 mixed func83 (by kernel_rfl) (fun _ _=>rfl) (fun _=>by kernel_rfl) fun⟨n,q⟩ r a=>by
 replace a:qJ n q=some r:=a;apply aJ rfl ntmps83 results83;simp only[ja];unfold qJ at a;simp only[dq,seval];apply sp ax a<;>intro _ a
 ·cases a;simp only[dq,seval]
 ·simp only[dq,seval];obtain⟨u,i,a⟩:=ae a;refine az (fun s t H e=>match s with|f=>∃b:Nat,t 2=.ptr 2 b 0∧t 13=sF ak q∧t 14=sN (q.length:Int)∧t 15=sN f∧H 2=rV b 54 [sF bl n.aq,sF dX n.aG,sF (fL ak) n.aO]) (fun o x t H e=>match o with|(.inl _)=>x=.exit 0|(.inr r)=>x=.ret∧gG .clean tab none [.tmp 4] ⟨t,EH H,e⟩=some (.clean (.bool r),none)) i ?_ ?_ ?_
  ·refine⟨0,?_,?_,?_,?_,?_⟩;all_goals (rfl)
  ·rintro f t H e ⟨b,h⟩ c a;simp only[nP]at a;simp only[dq,seval,h];apply sp ax a<;>intro _ a
   ·obtain⟨v,j,a⟩:=ae a;have d:=bz ak j;simp only[bG]at d;obtain⟨w,k,a⟩:=ae a;simp only[dq,seval,h,d,k];apply sp bQ a<;>intro _ a
    ·cases a;simp only[dq,seval];refine uq ⟨rfl,?_⟩;simp only[dq,seval]
    ·obtain⟨y,l,a⟩:=ae a;have g:=bz bl l;simp only[bG]at g;simp only[dq,seval,h,d,g];apply sp gB a<;>intro _ a
     ·obtain⟨z,m,a⟩:=ae a;simp only[dq,seval,m];apply sp ax a<;>intro _ a
      ·cases a;simp only[dq,seval];refine uq ⟨rfl,?_⟩;simp only[dq,seval]
      ·cases a;simp only[dq,seval,h];apply iD;refine⟨b,?_⟩;and_intros<;>first|rfl|(simp only[dq,seval,h]<;>rfl)
     ·cases a;simp only[dq,seval,h];apply iD;refine⟨b,?_⟩;and_intros<;>first|rfl|(simp only[dq,seval,h]<;>rfl)
   ·cases a;simp only[dq,seval];apply kf;exact rfl
  ·rintro x t H e p;rcases u with _|B
   ·dsimp only at p a;subst p;cases a;simp only[dq,seval]
   ·dsimp only at p a;obtain⟨rfl,A⟩:=p;cases a;simp only[bd,bj,cL,cR];exact A
def n5 (l:Option (D×Row)) (d:List D):=ej (dM (bW ak)) (fun x:ah=>nO x) (fun r:Bool =>.clean (.bool r)) l d
def sH:Env:=(Am.ext bk 24 false b6)
def D2:bV prog sH:=(bV.none.add iL false)
def Gh:=ai @w<|ai @iX<|ai @b6.eq_1<|@sH.eq_1
def Eh:ck prog 84 n5:=ck.iZ (mode := .clean) tok D2 mixed func84 (by kernel_rfl) (fun _ _=>rfl) (fun _=>by kernel_rfl) fun c r a=>by
 replace a:nO c=some r:=a;apply aJ rfl ntmps84 results84;simp only[ja];unfold nO at a;obtain⟨d,b,a⟩:=ae a;cases a;simp only[Gh,seval,b]
def eH (l:Option (D×Row)) (d:List D):=ej (gj (jX ak) (dM (PE 84))) (fun x:(List ah)×Unit=>dK x.1) (fun r:Int =>.clean (.int .i64 r)) l d
def afP {β:Type} {F:(List ah)×Unit->Option β} {R:β->RK} (a:(List ah)):ej (gj (jX ak) (dM (PE 84))) F R none [.sl false false a.length (an ak a),.fn 84]=(F (a,())).map fun r=>(R r,none):=cF _ _ _ (a,())
def gA:Env:=(Am.ext bk 84 false n5)
def pr:bV prog gA:=(bV.none.add Eh false)
def bM:=ai @w<|ai @iX<|ai @n5.eq_1<|@gA.eq_1
def py:ck prog 102 eH:=ck.iZ (mode := .clean) tok pr mixed func102 (by kernel_rfl) (fun _ _=>rfl) (fun _=>by kernel_rfl) fun⟨h,_⟩ r a=>by
 replace a:dK h=some r:=a;apply aJ rfl ntmps102 results102;simp only[ja];unfold dK at a;simp only[bM,seval];obtain⟨l,i,a⟩:=ae a;refine az (fun s t H e=>match s with|b=>t 0=sF ak h∧t 1=.fn 84∧t 7=sN (h.length:Int)∧t 8=sN b) (fun o x t H e=>match o with|(.inl _)=>x=.exit 0|(.inr r)=>x=.ret∧gG .clean tab none [.tmp 4] ⟨t,EH H,e⟩=some (.clean (.int .i64 r),none)) i ?_ ?_ ?_
 ·refine⟨?_,?_,?_,?_⟩;all_goals (rfl)
 ·rintro b t H e f c a;simp only[ez]at a;simp only[bM,seval,f];apply sp ax a<;>intro _ a
  ·obtain⟨n,j,a⟩:=ae a;have d:=bz ak j;simp only[bG]at d;obtain⟨p,k,a⟩:=ae a;simp only[bM,seval,f,d,k];apply sp ax a<;>intro _ a
   ·cases a;simp only[bM,seval];refine uq ⟨rfl,?_⟩;simp only[bM,seval]
   ·cases a;simp only[bM,seval,f];apply iD;and_intros<;>first|rfl|(simp only[bM,seval,f]<;>rfl)
  ·cases a;simp only[bM,seval];apply kf;exact rfl
 ·rintro x t H e g;rcases l with _|q
  ·dsimp only at g a;subst g;cases a;simp only[bM,seval]
  ·dsimp only at g a;obtain⟨rfl,m⟩:=g;cases a;simp only[bd,bj,cL,cR];exact m
def dO (l:Option (D×Row)) (d:List D):=ej (gj (jX ak) (dM (PE 84))) (fun x:(List ah)×Unit=>cI x.1) (fun r:Bool =>.clean (.bool r)) l d
def fA:Env:=(Am.ext bk 102 false eH)
def nD:bV prog fA:=(bV.none.add py false)
def nY:=ai @w<|ai @afP<|ai @eH.eq_1<|@fA.eq_1
def nG:ck prog 52 dO:=ck.iZ (mode := .clean) tok nD mixed func52 (by kernel_rfl) (fun _ _=>rfl) (fun _=>by kernel_rfl) fun⟨c,_⟩ r a=>by
 replace a:cI c=some r:=a;apply aJ rfl ntmps52 results52;simp only[ja];unfold cI at a;obtain⟨d,b,a⟩:=ae a;cases a;simp only[nY,seval,b]
def rp (l:Option (D×Row)) (d:List D):=ej (gj (bW oh) (dM (jX (fL ak)))) (fun x:bf×(List (List ah))=>lX x.1 x.2) (fun r:Int =>.clean (.int .i64 r)) l d
def afQ {β:Type} {F:bf×(List (List ah))->Option β} {R:β->RK} (a:(List Int)) (b:(List bo)) (c:(List (List ah))):ej (gj (bW oh) (dM (jX (fL ak)))) F R none [.agg [.sl false false a.length (an (eI .i64) a),.sl false false b.length (an b7 b)],.sl false false c.length (an (fL ak) c)]=(F ((bf.mk a b),c)).map fun r=>(R r,none):=cF _ _ _ ((bf.mk a b),c)
def vM:Env:=(Am.ext (Am.ext bk 52 false dO) 83 false sX)
def HW:bV prog vM:=((bV.none.add nG false).add Kn false)
def cu:=ai @w<|ai @afP<|ai @dO.eq_1<|ai @ajo<|ai @sX.eq_1<|@vM.eq_1
def IW:ck prog 40 rp:=ck.iZ (mode := .clean) tok HW mixed func40 (by kernel_rfl) (fun _ _=>rfl) (fun _=>by kernel_rfl) fun⟨v,i⟩ r a=>by
 replace a:lX v i=some r:=a;apply aJ rfl ntmps40 results40;simp only[ja];unfold lX at a;simp only[cu,seval];apply sp ax a<;>intro _ a
 ·cases a;simp only[cu,seval]
 ·simp only[cu,seval];obtain⟨C,w,a⟩:=ae a;refine az (fun s t H e=>match s with|d=>t 1=sF (fL ak) i∧t 16=sF b7 v.au∧t 17=sN (v.au.length:Int)∧t 18=sN d) (fun o x t H e=>match o with|(.inl _)=>x=.exit 0∧t 1=sF (fL ak) i|(.inr r)=>x=.ret∧gG .clean tab none [.tmp 4] ⟨t,EH H,e⟩=some (.clean (.int .i64 r),none)) w ?_ ?_ ?_
  ·refine⟨?_,?_,?_,?_⟩;all_goals (rfl)
  ·rintro d t H e j c a;simp only[lY]at a;simp only[cu,seval,j];apply sp ax a<;>intro _ a
   ·obtain⟨I,y,a⟩:=ae a;have k:=bz b7 y;simp only[bG]at k;obtain⟨D,l,a⟩:=ae a;have f:=bz (fL ak) l;simp only[bG]at f;obtain⟨E,m,a⟩:=ae a;simp only[cu,seval,j,k,f,m];refine bP (by kernel_rfl) ?_;apply sp ax a<;>intro _ a
    ·cases a;simp only[cu,seval];refine uq ⟨rfl,?_⟩;simp only[cu,seval]
    ·cases a;simp only[cu,seval,j];apply iD;and_intros<;>first|rfl|(simp only[cu,seval,j]<;>rfl)
   ·cases a;simp only[cu,seval];apply kf;refine⟨rfl,?_⟩;all_goals ((simp only[cu,seval,j]<;>rfl))
  ·rintro x t H e b;rcases C with _|J
   ·dsimp only at b a;obtain⟨rfl,z⟩:=b;simp only[cu,seval,z];obtain⟨A,n,a⟩:=ae a;refine az (fun s t H e=>match s with|g=>t 32=sF (fL ak) i∧t 33=sN (i.length:Int)∧t 34=sN g) (fun o x t H e=>match o with|(.inl _)=>x=.exit 2|(.inr r)=>x=.ret∧gG .clean tab none [.tmp 4] ⟨t,EH H,e⟩=some (.clean (.int .i64 r),none)) n ?_ ?_ ?_
    ·refine⟨?_,?_,?_⟩;all_goals (rfl)
    ·rintro g t H e u c a;simp only[lZ]at a;simp only[cu,seval,u];apply sp ax a<;>intro _ a
     ·obtain⟨F,p,a⟩:=ae a;have h:=bz (fL ak) p;simp only[bG]at h;obtain⟨G,q,a⟩:=ae a;simp only[cu,seval,u,h,q];apply sp ax a<;>intro _ a
      ·cases a;simp only[cu,seval];refine uq ⟨rfl,?_⟩;simp only[cu,seval]
      ·cases a;simp only[cu,seval,u];apply iD;and_intros<;>first|rfl|(simp only[cu,seval,u]<;>rfl)
     ·cases a;simp only[cu,seval];apply kf;exact rfl
    ·rintro x t H e b;rcases A with _|K
     ·dsimp only at b a;subst b;cases a;simp only[cu,seval]
     ·dsimp only at b a;obtain⟨rfl,B⟩:=b;cases a;simp only[bd,bj,cL,cR];exact B
   ·dsimp only at b a;obtain⟨rfl,B⟩:=b;cases a;simp only[bd,bj,cL,cR];exact B
def fc (l:Option (D×Row)) (d:List D):=ej (gj (bW ak) (dM (bW ak))) (fun x:ah×ah=>nS x.1 x.2) (fun r:ah×Int =>.clean (.tup [.agg [.int .i64 r.1.bn.al,.sl false false r.1.bn.aa.length (an (eI .i64) r.1.bn.aa),.int .i64 r.1.bu.al,.sl false false r.1.bu.aa.length (an (eI .i64) r.1.bu.aa)],.int .i64 r.2])) l d
def Bw:Env:=(Am.ext (Am.ext (Am.ext bk 54 false aV) 60 false eW) 63 false gK)
def Rn:bV prog Bw:=(((bV.none.add dS false).add rI false).add vo false)
def oU:=ai @w<|ai @iX<|ai @aV.eq_1<|ai @M9<|ai @eW.eq_1<|ai @gK.eq_1<|@Bw.eq_1
def sg:ck prog 58 fc:=ck.iZ (mode := .clean) tok Rn mixed func58 (by kernel_rfl) (fun _ _=>rfl) (fun _=>by kernel_rfl) fun⟨h,i⟩ r a=>by
 replace a:nS h i=some r:=a;apply aJ rfl ntmps58 results58;simp only[ja];unfold nS at a;obtain⟨q,j,a⟩:=ae a;simp only[oU,seval,j];obtain⟨p,k,a⟩:=ae a;refine cQ 0 (fun s t H e=>match s with|b=>∃c:Nat,∃d:Nat,∃f:Nat,t 2=.ptr 2 c 0∧t 3=.ptr 3 d 0∧t 4=.ptr 4 f 0∧t 13=.bool b∧H 2=rV c 41 [sN h.bn.al,sI h.bn.aa,sN h.bu.al,sI h.bu.aa]∧H 3=rV d 41 [sN i.bn.al,sI i.bn.aa,sN i.bu.al,sI i.bu.aa]∧H 4=rV f 41 [sN 0,.sl true true 0 [],sN 0,.sl true true 0 []]) (fun s=>s=p) ?_ ?_
 ·rintro b t H e ⟨c,d,f,g⟩ rfl;try dsimp only at a
  simp only[oU,seval,g];apply sp ax a<;>intro _ a
  ·cases a;simp only[oU,seval,g]
  ·obtain⟨u,l,a⟩:=ae a;obtain⟨v,m,a⟩:=ae a;obtain⟨w,n,a⟩:=ae a;simp only[oU,seval,g,l,m,n];refine bP (by kernel_rfl) ?_;cases a;simp only[seval]
 ·clear a;have a:=k;simp only[oU,seval];apply sp bQ a<;>intro _ a
  ·cases a;simp only[oU,seval];rw[aF];refine⟨_,rfl,?_⟩;refine⟨0,0,0,?_,?_,?_,?_,?_,?_,?_⟩;all_goals (rfl)
  ·obtain⟨x,o,a⟩:=ae a;cases a;simp only[oU,seval,o];rw[aF];refine⟨_,rfl,?_⟩;refine⟨0,0,0,?_,?_,?_,?_,?_,?_,?_⟩;all_goals (rfl)
def su:=kT 113 (bW ak) (gj (jX (eI .i64)) (dM (bW b7))) (fun (l:(List ((Int×Int)×ah))) (x:(List Int)×bo)=>ka l x.1 x.2) (fun r:Unit =>.clean (.tup []))
def Gc (f:(List ((Int×Int)×ah))) (g:(List Int)) (a:(List ir)) (b:(List sC)) (c:(List (List ah))) (d:(List iG)) (e:(List Int)):su (some (.mp 0 0,⟨0,113,[.mpc (fQ f) (iJ (bW ak) f)],false,true,true⟩)) [.sl false false g.length (an (eI .i64) g),.agg [.sl false false a.length (an bl a),.sl false false b.length (an dX b),.sl false false c.length (an (fL ak) c),.sl false false d.length (an hZ d),.sl false false e.length (an (eI .i64) e)]]=(ka f g (bo.mk (dR.mk a b c) d e)).map fun r=>(.clean (.tup []),some ⟨0,113,[.mpc (fQ r.1) (iJ (bW ak) r.1)],false,true,true⟩):=ahD _ _ _ _ _ f (g,(bo.mk (dR.mk a b c) d e))
def ot:Env:=(Am.ext (Am.ext (Am.ext (Am.ext bk 24 false b6) 57 false iU) 58 false fc) 120 false qE)
def D4:bV prog ot:=((((bV.none.add iL false).add xD false).add sg false).add I0 false)
def ba:=ai @w<|ai @iX<|ai @b6.eq_1<|ai @M8<|ai @iU.eq_1<|ai @sk<|ai @fc.eq_1<|ai @qE.eq_1<|@ot.eq_1
def F4 (p0:(List ((Int×Int)×ah))) (N:(List Int)) (b:bo) (r:(List ((Int×Int)×ah))×(Unit)) (a:ka p0 N b=some r):jx .clean tab ot FU Tryz.f65 (some (.mp 0 0,⟨0,113,[.mpc (fQ p0) (iJ (bW ak) p0)],false,true,true⟩)) [.sl false false N.length (an (eI .i64) N),.agg [.sl false false b.av.aq.length (an bl b.av.aq),.sl false false b.av.aG.length (an dX b.av.aG),.sl false false b.av.aO.length (an (fL ak) b.av.aO),.sl false false b.bC.length (an hZ b.bC),.sl false false b.aC.length (an (eI .i64) b.aC)]]=some (.clean (.tup []),some ⟨0,113,[.mpc (fQ r.1) (iJ (bW ak) r.1)],false,true,true⟩):=by
 apply T9 rfl ntmps65 results65;unfold ka at a;simp only[ba,seval];obtain⟨aq,R,a⟩:=ae a;refine az (fun s t H e=>match s with|(d,O)=>∃u:Nat,t 0=.mp 0 0∧t 1=sI N∧t 5=.ptr 5 u 0∧t 20=sF bl b.av.aq∧t 21=sN (b.av.aq.length:Int)∧t 22=sN d∧H 0=some ⟨0,113,[.mpc (fQ O) (iJ (bW ak) O)],false,true,true⟩∧H 5=rV u 57 [sF bl b.av.aq,sF dX b.av.aG,sF (fL ak) b.av.aO,sF hZ b.bC,sI b.aC]) (fun o x t H e=>match o with|v=>x=.exit 0∧t 0=.mp 0 0∧H 0=some ⟨0,113,[.mpc (fQ v) (iJ (bW ak) v)],false,true,true⟩) R ?_ ?_ ?_
 ·refine⟨1,?_,?_,?_,?_,?_,?_,?_,?_⟩;all_goals (rfl)
 ·rintro⟨d,O⟩ t H e ⟨u,P⟩ c a;simp only[kE]at a;simp only[ba,seval,P];apply sp ax a<;>intro _ a
  ·obtain⟨aw,S,a⟩:=ae a;have l:=bz bl S;simp only[bG]at l;simp only[ba,seval,P,l];apply sp ax a<;>intro _ a
   ·cases a;simp only[ba,seval,P];apply iD;refine⟨u,?_⟩;and_intros<;>first|rfl|(simp only[ba,seval,P]<;>rfl)
   ·obtain⟨D,T,a⟩:=ae a;have F:=bz hZ T;simp only[bG]at F;obtain⟨ay,U,a⟩:=ae a;have G:=bz (eI .i64) U;simp only[bG]at G;obtain⟨j,V,a⟩:=ae a;simp only[ba,seval,P,F,G,V];refine bP (by kernel_rfl) ?_;obtain⟨ar,W,a⟩:=ae a;refine az (fun s t H e=>match s with|(m,w)=>∃q:Nat,∃y:Nat,∃A:Nat,t 0=.mp 0 0∧t 1=sI N∧t 5=.ptr 5 q 0∧t 6=sN d∧t 8=.ptr 8 y 0∧t 9=.ptr 9 A 0∧t 20=sF bl b.av.aq∧t 21=sN (b.av.aq.length:Int)∧t 22=sN d∧t 49=sF dX b.av.aG∧t 50=sN (b.av.aG.length:Int)∧t 51=sN m∧H 0=some ⟨0,113,[.mpc (fQ w) (iJ (bW ak) w)],false,true,true⟩∧H 5=rV q 57 [sF bl b.av.aq,sF dX b.av.aG,sF (fL ak) b.av.aO,sF hZ b.bC,sI b.aC]∧H 8=rV y 72 [sN D.b8,sN D.aB]∧H 9=rV A 41 [sN j.1.bn.al,sI j.1.bn.aa,sN j.1.bu.al,sI j.1.bu.aa]) (fun o x t H e=>match o with|B=>x=.exit 2∧∃n:Nat,t 0=.mp 0 0∧t 1=sI N∧t 5=.ptr 5 n 0∧t 20=sF bl b.av.aq∧t 21=sN (b.av.aq.length:Int)∧t 22=sN d∧H 0=some ⟨0,113,[.mpc (fQ B) (iJ (bW ak) B)],false,true,true⟩∧H 5=rV n 57 [sF bl b.av.aq,sF dX b.av.aG,sF (fL ak) b.av.aO,sF hZ b.bC,sI b.aC]) W ?_ ?_ ?_
    ·refine⟨u,e+1+1+1,e+1+1+1+1,?_⟩;and_intros<;>first|rfl|(simp only[ba,seval,P]<;>rfl)
    ·rintro⟨m,w⟩ t H e ⟨q,y,A,Q⟩ c a;simp only[iV]at a;simp only[ba,seval,Q];apply sp ax a<;>intro _ a
     ·obtain⟨E,X,a⟩:=ae a;have p:=bz dX X;simp only[bG]at p;simp only[ba,seval,Q,p];obtain⟨au,Y,a⟩:=ae a;refine cQ 0 (fun s t H e=>match s with|C=>∃f:Nat,∃g:Nat,∃h:Nat,∃k:Nat,t 0=.mp 0 0∧t 1=sI N∧t 5=.ptr 5 f 0∧t 6=sN d∧t 8=.ptr 8 g 0∧t 9=.ptr 9 h 0∧t 11=sN m∧t 12=.ptr 12 k 0∧t 20=sF bl b.av.aq∧t 21=sN (b.av.aq.length:Int)∧t 22=sN d∧t 49=sF dX b.av.aG∧t 50=sN (b.av.aG.length:Int)∧t 51=sN m∧t 71=.bool C∧H 0=some ⟨0,113,[.mpc (fQ w) (iJ (bW ak) w)],false,true,true⟩∧H 5=rV f 57 [sF bl b.av.aq,sF dX b.av.aG,sF (fL ak) b.av.aO,sF hZ b.bC,sI b.aC]∧H 8=rV g 72 [sN D.b8,sN D.aB]∧H 9=rV h 41 [sN j.1.bn.al,sI j.1.bn.aa,sN j.1.bu.al,sI j.1.bu.aa]∧H 12=rV k 60 [sN E.a8,sN E.aS,sN E.aB,.str E.Oe]) (fun s=>s=au) ?_ ?_
      ·rintro C t H e ⟨f,g,h,k,i⟩ rfl;try dsimp only at a
       simp only[ba,seval,i];apply sp ax a<;>intro _ a
       ·cases a;simp only[ba,seval,i];apply iD;refine⟨f,g,h,?_⟩;and_intros<;>first|rfl|(simp only[ba,seval,i]<;>rfl)
       ·obtain⟨aA,Z,a⟩:=ae a;have I:=bz (eI .i64) Z;simp only[bG]at I;simp only[ba,seval,p,i,I];refine bP (by kernel_rfl) ?_;obtain⟨aB,aa,a⟩:=ae a;have J:=bz (fL ak) aa;simp only[bG]at J;obtain⟨aC,ab,a⟩:=ae a;have K:=bz ak ab;simp only[bG]at K;obtain⟨aD,ad,a⟩:=ae a;simp only[ba,seval,l,i,J,K,ad];refine bP (by kernel_rfl) ?_;apply sp ax a<;>intro _ a
        ·obtain⟨aE,ag,a⟩:=ae a;cases a;simp only[ba,seval,i,ag];apply iD;refine⟨f,g,h,?_⟩;and_intros<;>first|rfl|(simp only[ba,seval,i]<;>rfl)
        ·cases a;simp only[ba,seval,i];apply iD;refine⟨f,g,h,?_⟩;and_intros<;>first|rfl|(simp only[ba,seval,i]<;>rfl)
      ·clear a;have a:=Y;simp only[ba,seval];apply sp bQ a<;>intro _ a
       ·cases a;simp only[ba,seval];rw[aF];refine⟨_,rfl,?_⟩;refine⟨q,y,A,e+1,?_⟩;and_intros<;>first|rfl|(simp only[ba,seval,Q]<;>rfl)
       ·obtain⟨aG,ai,a⟩:=ae a;have L:=bz (fL ak) ai;simp only[bG]at L;obtain⟨aH,aj,a⟩:=ae a;have M:=bz ak aj;simp only[bG]at M;obtain⟨aI,al,a⟩:=ae a;cases a;simp only[ba,seval,l,Q,p,L,M,al];rw[aF];refine⟨_,rfl,?_⟩;refine⟨q,y,A,e+1,?_⟩;and_intros<;>first|rfl|(simp only[ba,seval,Q]<;>rfl)
     ·cases a;simp only[ba,seval];apply kf;refine⟨rfl,⟨q,?_,?_,?_,?_,?_,?_,?_,?_⟩⟩;all_goals ((simp only[ba,seval,Q]<;>rfl))
    ·rintro x t H e hx;obtain⟨B,rfl⟩:∃z,z=ar:=⟨_,rfl⟩;dsimp only at hx a;obtain⟨rfl,⟨n,ao⟩⟩:=hx;cases a;simp only[ba,seval,ao];apply iD;refine⟨n,?_⟩;and_intros<;>first|rfl|(simp only[ba,seval,ao]<;>rfl)
  ·cases a;simp only[ba,seval];apply kf;refine⟨rfl,⟨?_,?_⟩⟩;all_goals ((simp only[ba,seval,P]<;>rfl))
 ·rintro x t H e hx;obtain⟨v,rfl⟩:∃z,z=aq:=⟨_,rfl⟩;dsimp only at hx a;obtain⟨rfl,av⟩:=hx;cases a;simp only[ba,seval,av]
def Ej:ck prog 65 su:=ck.ac7 tok D4 mixed func65 (by kernel_rfl) ⟨by kernel_rfl,by kernel_rfl⟩ (fun _=>amV (by kernel_rfl)) (fun l x a r h=>F4 l x.1 x.2 (a,r) h)
def sY (l:Option (D×Row)) (d:List D):=ej (gj (bW cD) (dM (bW cD))) (fun x:cN×cN=>qW x.1 x.2) (fun r:Int =>.clean (.int .i64 r)) l d
def ajp {β:Type} {F:cN×cN->Option β} {R:β->RK} (e:Int) (f:Int) (g:Int) (a:(List Int)) (h:Int) (b:(List Int)) (i:Int) (j:Int) (k:Int) (c:(List Int)) (l:Int) (d:(List Int)):ej (gj (bW cD) (dM (bW cD))) F R none [.agg [.int .i64 e,.int .i64 f,.int .i64 g,.sl false false a.length (an (eI .i64) a),.int .i64 h,.sl false false b.length (an (eI .i64) b)],.agg [.int .i64 i,.int .i64 j,.int .i64 k,.sl false false c.length (an (eI .i64) c),.int .i64 l,.sl false false d.length (an (eI .i64) d)]]=(F ((cN.mk e f (ah.mk (aH.mk g a) (aH.mk h b))),(cN.mk i j (ah.mk (aH.mk k c) (aH.mk l d))))).map fun r=>(R r,none):=cF _ _ _ ((cN.mk e f (ah.mk (aH.mk g a) (aH.mk h b))),(cN.mk i j (ah.mk (aH.mk k c) (aH.mk l d))))
def xt:Env:=(Am.ext (Am.ext bk 110 false eA) 115 false Cc)
def Kd:bV prog xt:=((bV.none.add p6 false).add MK false)
def PB:=ai @w<|ai @M8<|ai @eA.eq_1<|@xt.eq_1
def Ko:ck prog 67 sY:=ck.iZ (mode := .clean) tok Kd mixed func67 (by kernel_rfl) (fun _ _=>rfl) (fun _=>by kernel_rfl) fun⟨f,g⟩ r a=>by
 replace a:qW f g=some r:=a;apply aJ rfl ntmps67 results67;simp only[ja];unfold qW at a;obtain⟨h,b,a⟩:=ae a;obtain⟨i,c,a⟩:=ae a;have e:=S9 ([h,i]);simp only[ch,bG,List.length_cons,amr,Nat.reduceAdd]at e;obtain⟨j,d,a⟩:=ae a;simp only[PB,seval,b,c,e,d];refine bP (by kernel_rfl) ?_;cases a;simp only[seval]
def Ce (l:Option (D×Row)) (d:List D):=ej (dM (bW oh)) (fun x:bf=>Ef x) (fun r:ik×Int =>.clean (.tup [.agg [.int .i64 r.1.aC,.sl false false r.1.bq.length (an cD r.1.bq)],.int .i64 r.2])) l d
def CN:Env:=(Am.yu 9 (118,6,1) (Am.ext (Am.ext bk 39 false iM) 65 true su))
def ZJ:bV prog CN:=(bV.yu ((bV.none.add xE false).add Ej true) 9 (118,6,1))
def lr:=ai @w<|ai @HN<|ai @aar<|ai @iM.eq_1<|@CN.eq_1
def adf (i:bf) (r:ik×Int) (a:Ef i=some r):Wb tab CN FU 5 Tryz.f26 [.agg [.sl false false i.aw.length (an (eI .i64) i.aw),.sl false false i.au.length (an b7 i.au)]] (Bq tab Tryz.f26.results.toList (.clean (.tup [.agg [.int .i64 r.1.aC,.sl false false r.1.bq.length (an cD r.1.bq)],.int .i64 r.2]),none) (aiA r)):=by
 apply aaS rfl ntmps26 results26;simp only[Oh,Oi];unfold Ef at a;obtain⟨G,y,a⟩:=ae a;simp only[lr,seval,y];apply sp ax a<;>intro _ a
 ·cases a;simp only[lr,seval]
 ·simp only[lr,seval];obtain⟨E,A,a⟩:=ae a;refine az (fun s t H e=>match s with|(n,g)=>∃j:Nat,∃k:Nat,∃f:Nat,t 1=.ptr 1 j 0∧t 2=.ptr 2 k 0∧t 6=.mp 21 f∧t 23=sF b7 i.au∧t 24=sN (i.au.length:Int)∧t 25=sN n∧H 1=rV j 25 [sI i.aw,sF b7 i.au]∧H 2=rV k 66 [sN 0,.sl true true 0 []]∧H 21=some ⟨f,113,[.mpc (fQ g) (iJ (bW ak) g)],false,true,true⟩) (fun o x t H e=>match o with|b=>x=.exit 0∧∃l:Nat,∃h:Nat,∃d:Nat,t 1=.ptr 1 l 0∧t 2=.ptr 2 h 0∧t 6=.mp 21 d∧H 1=rV l 25 [sI i.aw,sF b7 i.au]∧H 2=rV h 66 [sN 0,.sl true true 0 []]∧H 21=some ⟨d,113,[.mpc (fQ b) (iJ (bW ak) b)],false,true,true⟩) A ?_ ?_ ?_
  ·refine⟨0,0,3,?_,?_,?_,?_,?_,?_,?_,?_,?_⟩;all_goals (rfl)
  ·rintro⟨n,g⟩ t H e ⟨j,k,f,w⟩ c a;simp only[tG]at a;simp only[lr,seval,w];apply sp ax a<;>intro _ a
   ·obtain⟨p,B,a⟩:=ae a;have q:=bz b7 B;simp only[bG]at q;have C:=Gc g i.aw p.av.aq p.av.aG p.av.aO p.bC p.aC;obtain⟨F,u,a⟩:=ae a;cases a;simp only[lr,seval,w,q,C,u];apply iD;refine⟨j,k,f,?_⟩;and_intros<;>first|rfl|(simp only[lr,seval,w]<;>rfl)
   ·cases a;simp only[lr,seval];apply kf;refine⟨rfl,⟨j,k,f,?_,?_,?_,?_,?_,?_⟩⟩;all_goals ((simp only[lr,seval,w]<;>rfl))
  ·rintro x t H e D;obtain⟨b,rfl⟩:∃z,z=E:=⟨_,rfl⟩;dsimp only at D a;obtain⟨rfl,⟨l,h,d,m⟩⟩:=D;simp only[lr,seval,m];apply sp ax a<;>intro _ a
   ·cases a;simp only[lr,seval,m]
   ·have v:bump (4*(e+1)+2) (e+1)=some (4*(e+1)+3):=abD rfl;simp only[lr,seval,m,v];rw[J7];refine⟨b,(i.aw.length:Int),d,e+1,h,(4*(e+1)+3),?_,?_,?_,?_,?_,?_,by omega,a⟩;all_goals first|rfl|(simp only[lr,seval,m]<;>rfl)
def aad:ck prog 26 Ce:=ck.front tok ZJ mixed func26 rfl (by kernel_rfl) ⟨by kernel_rfl,by kernel_rfl⟩ (fun _=>amV (by kernel_rfl)) (amV (by kernel_rfl)) (fun x r h=>adf x r h) (fun r=>ads r)
def jb (l:Option (D×Row)) (d:List D):=ej (gj (jX ak) (dM (jX ak))) (fun x:(List ah)×(List ah)=>jK x.1 x.2) (fun r:ah =>.clean (.agg [.int .i64 r.bn.al,.sl false false r.bn.aa.length (an (eI .i64) r.bn.aa),.int .i64 r.bu.al,.sl false false r.bu.aa.length (an (eI .i64) r.bu.aa)])) l d
def afR {β:Type} {F:(List ah)×(List ah)->Option β} {R:β->RK} (a:(List ah)) (b:(List ah)):ej (gj (jX ak) (dM (jX ak))) F R none [.sl false false a.length (an ak a),.sl false false b.length (an ak b)]=(F (a,b)).map fun r=>(R r,none):=cF _ _ _ (a,b)
def ui:Env:=(Am.ext (Am.ext (Am.ext bk 21 false cd) 23 false dj) 58 false fc)
def F1:bV prog ui:=(((bV.none.add iQ false).add mj false).add sg false)
def ij:=ai @w<|ai @FH<|ai @cd.eq_1<|ai @sk<|ai @dj.eq_1<|ai @fc.eq_1<|@ui.eq_1
def yc:ck prog 45 jb:=ck.iZ (mode := .clean) tok F1 mixed func45 (by kernel_rfl) (fun _ _=>rfl) (fun _=>by kernel_rfl) fun⟨G,B⟩ r a=>by
 replace a:jK G B=some r:=a;apply aJ rfl ntmps45 results45;simp only[ja];unfold jK at a;obtain⟨N,C,a⟩:=ae a;simp only[ij,seval,C];obtain⟨J,D,a⟩:=ae a;refine az (fun s t H e=>match s with|(q,h,i,j,k)=>∃l:Nat,∃m:Nat,t 0=sF ak G∧t 4=.ptr 4 l 0∧t 5=.ptr 5 m 0∧t 11=sF ak B∧t 12=sN (B.length:Int)∧t 13=sN q∧H 4=rV l 41 [sN 0,.sl true true 0 [],sN 0,.sl true true 0 []]∧H 5=rV m 41 [sN h,sI i,sN j,sI k]) (fun o x t H e=>match o with|(b,d,f,g)=>x=.exit 0∧∃n:Nat,∃p:Nat,t 4=.ptr 4 n 0∧t 5=.ptr 5 p 0∧H 4=rV n 41 [sN 0,.sl true true 0 [],sN 0,.sl true true 0 []]∧H 5=rV p 41 [sN b,sI d,sN f,sI g]) D ?_ ?_ ?_
 ·refine⟨0,1,?_,?_,?_,?_,?_,?_,?_,?_⟩;all_goals (rfl)
 ·rintro⟨q,h,i,j,k⟩ t H e ⟨l,m,v⟩ c a;simp only[k9]at a;simp only[ij,seval,v];apply sp ax a<;>intro _ a
  ·obtain⟨O,E,a⟩:=ae a;have w:=bz ak E;simp only[bG]at w;obtain⟨K,y,a⟩:=ae a;have u:=bz ak y;simp only[bG]at u;obtain⟨L,z,a⟩:=ae a;simp only[ij,seval,v,w,u,z];refine bP (by kernel_rfl) ?_;obtain⟨M,A,a⟩:=ae a;cases a;simp only[ij,seval,v,A];apply iD;refine⟨l,m,?_⟩;and_intros<;>first|rfl|(simp only[ij,seval,v]<;>rfl)
  ·cases a;simp only[ij,seval];apply kf;refine⟨rfl,⟨l,m,?_,?_,?_,?_⟩⟩;all_goals ((simp only[ij,seval,v]<;>rfl))
 ·rintro x t H e I;rcases J with⟨b,d,f,g⟩;dsimp only at I a;obtain⟨rfl,⟨n,p,F⟩⟩:=I;cases a;simp only[ij,seval,F]
def pC (l:Option (D×Row)) (d:List D):=ej (gj (bW oh) (dM (jX (fL ak)))) (fun x:bf×(List (List ah))=>mC x.1 x.2) (fun r:(List ah) =>.clean (.sl false false r.length (an ak r))) l d
def uh:Env:=(Am.ext bk 45 false jb)
def F0:bV prog uh:=(bV.none.add yc false)
def cM:=ai @w<|ai @afR<|ai @jb.eq_1<|@uh.eq_1
def F6:ck prog 42 pC:=ck.iZ (mode := .clean) tok F0 mixed func42 (by kernel_rfl) (fun _ _=>rfl) (fun _=>by kernel_rfl) fun⟨C,T⟩ r a=>by
 replace a:mC C T=some r:=a;apply aJ rfl ntmps42 results42;simp only[ja];unfold mC at a;obtain⟨x1,V,a⟩:=ae a;obtain⟨W,X,Y,G,Z⟩:=mk_one ak V;simp only[bG]at G;simp only[cM,seval,W,X,Y,G,Z];obtain⟨aa,I,a⟩:=ae a;refine az (fun s t H e=>match s with|(b,D)=>∃i:Nat,t 1=sF (fL ak) T∧t 5=.buf 5 i 4 0 (D).length∧t 15=sF b7 C.au∧t 16=sN (C.au.length:Int)∧t 17=sN b∧H 5=rW i 41 (an ak D)) (fun o x t H e=>match o with|j=>x=.exit 0∧∃k:Nat,t 5=.buf 5 k 4 0 (j).length∧H 5=rW k 41 (an ak j)) I ?_ ?_ ?_
 ·refine⟨1,?_,?_,?_,?_,?_,?_⟩;all_goals (rfl)
 ·rintro⟨b,D⟩ t H e ⟨i,U⟩ c a;simp only[jC]at a;simp only[cM,seval,U];apply sp ax a<;>intro _ a
  ·obtain⟨d,J,a⟩:=ae a;have l:=bz b7 J;simp only[bG]at l;simp only[cM,seval,U,l];obtain⟨ab,K,a⟩:=ae a;refine az (fun s t H e=>match s with|(q,E)=>∃h:Nat,∃m:Nat,t 1=sF (fL ak) T∧t 5=.buf 5 h 4 0 (E).length∧t 6=sN b∧t 7=.ptr 7 m 0∧t 15=sF b7 C.au∧t 16=sN (C.au.length:Int)∧t 17=sN b∧t 24=sF dX d.av.aG∧t 25=sN (d.av.aG.length:Int)∧t 26=sN q∧H 5=rW h 41 (an ak E)∧H 7=rV m 57 [sF bl d.av.aq,sF dX d.av.aG,sF (fL ak) d.av.aO,sF hZ d.bC,sI d.aC]) (fun o x t H e=>match o with|n=>x=.exit 2∧∃g:Nat,t 1=sF (fL ak) T∧t 5=.buf 5 g 4 0 (n).length∧t 15=sF b7 C.au∧t 16=sN (C.au.length:Int)∧t 17=sN b∧H 5=rW g 41 (an ak n)) K ?_ ?_ ?_
   ·refine⟨i,e+1,?_⟩;and_intros<;>first|rfl|(simp only[cM,seval,U]<;>rfl)
   ·rintro⟨q,E⟩ t H e ⟨h,m,F⟩ c a;simp only[jD]at a;simp only[cM,seval,F];apply sp ax a<;>intro _ a
    ·obtain⟨ag,L,a⟩:=ae a;have p:=bz dX L;simp only[bG]at p;simp only[cM,seval,F,p];apply sp ax a<;>intro _ a
     ·obtain⟨ai,M,a⟩:=ae a;have u:=bz (eI .i64) M;simp only[bG]at u;obtain⟨aj,N,a⟩:=ae a;have v:=bz (fL ak) N;simp only[bG]at v;obtain⟨al,O,a⟩:=ae a;have w:=bz (fL ak) O;simp only[bG]at w;obtain⟨f,P,a⟩:=ae a;obtain⟨ao,y,a⟩:=ae a;have A:=bz ak y;simp only[bG]at A;have Q:=fE ak (x':=f) (fo:=0) (cs:=[.int .i64 f.bn.al,.sl false false f.bn.aa.length (an (eI .i64) f.bn.aa),.int .i64 f.bu.al,.sl false false f.bu.aa.length (an (eI .i64) f.bu.aa)]) y rfl (amV rfl);simp only[bG,Nat.add_zero]at Q;have B:=Q;simp only[putCells,List.length_cons,List.length_nil,amr,Nat.reduceAdd]at B;simp only[cM,seval,l,F,p,u,v,w,P,A,B];refine bP (by kernel_rfl) ?_;cases a;apply iD;refine⟨h,m,?_⟩;and_intros<;>first|rfl|(simp only[cM,seval,F]<;>rfl)
     ·cases a;simp only[cM,seval,F];apply iD;refine⟨h,m,?_⟩;and_intros<;>first|rfl|(simp only[cM,seval,F]<;>rfl)
    ·cases a;simp only[cM,seval];apply kf;refine⟨rfl,⟨h,?_,?_,?_,?_,?_,?_⟩⟩;all_goals ((simp only[cM,seval,F]<;>rfl))
   ·rintro x t H e R;obtain⟨n,rfl⟩:∃z,z=ab:=⟨_,rfl⟩;dsimp only at R a;obtain⟨rfl,⟨g,S⟩⟩:=R;cases a;simp only[cM,seval,S];apply iD;refine⟨g,?_⟩;and_intros<;>first|rfl|(simp only[cM,seval,S]<;>rfl)
  ·cases a;simp only[cM,seval];apply kf;refine⟨rfl,⟨i,?_,?_⟩⟩;all_goals ((simp only[cM,seval,U]<;>rfl))
 ·rintro x t H e R;obtain⟨j,rfl⟩:∃z,z=aa:=⟨_,rfl⟩;dsimp only at R a;obtain⟨rfl,⟨k,ad⟩⟩:=R;cases a;simp only[cM,seval,ad]
def jY (l:Option (D×Row)) (d:List D):=ej (gj (bW ak) (dM (bW ak))) (fun x:ah×ah=>rT x.1 x.2) (fun r:ah×Int =>.clean (.tup [.agg [.int .i64 r.1.bn.al,.sl false false r.1.bn.aa.length (an (eI .i64) r.1.bn.aa),.int .i64 r.1.bu.al,.sl false false r.1.bu.aa.length (an (eI .i64) r.1.bu.aa)],.int .i64 r.2])) l d
def Bz:Env:=(Am.ext (Am.ext (Am.ext bk 23 false dj) 54 false aV) 71 false iT)
def Rq:bV prog Bz:=(((bV.none.add mj false).add dS false).add xC false)
def oV:=ai @w<|ai @sk<|ai @dj.eq_1<|ai @iX<|ai @aV.eq_1<|ai @FI<|ai @iT.eq_1<|@Bz.eq_1
def zA:ck prog 29 jY:=ck.iZ (mode := .clean) tok Rq mixed func29 (by kernel_rfl) (fun _ _=>rfl) (fun _=>by kernel_rfl) fun⟨h,i⟩ r a=>by
 replace a:rT h i=some r:=a;apply aJ rfl ntmps29 results29;simp only[ja];unfold rT at a;obtain⟨p,j,a⟩:=ae a;simp only[oV,seval,j];obtain⟨o,k,a⟩:=ae a;refine cQ 0 (fun s t H e=>match s with|b=>∃c:Nat,∃d:Nat,∃f:Nat,t 2=.ptr 2 c 0∧t 3=.ptr 3 d 0∧t 4=.ptr 4 f 0∧t 13=.bool b∧H 2=rV c 41 [sN h.bn.al,sI h.bn.aa,sN h.bu.al,sI h.bu.aa]∧H 3=rV d 41 [sN i.bn.al,sI i.bn.aa,sN i.bu.al,sI i.bu.aa]∧H 4=rV f 41 [sN 0,.sl true true 0 [],sN 0,.sl true true 0 []]) (fun s=>s=o) ?_ ?_
 ·rintro b t H e ⟨c,d,f,g⟩ rfl;try dsimp only at a
  simp only[oV,seval,g];apply sp ax a<;>intro _ a
  ·cases a;simp only[oV,seval,g]
  ·obtain⟨q,l,a⟩:=ae a;obtain⟨u,m,a⟩:=ae a;simp only[oV,seval,g,l,m];refine bP (by kernel_rfl) ?_;cases a;simp only[seval]
 ·clear a;have a:=k;simp only[oV,seval];apply sp bQ a<;>intro _ a
  ·cases a;simp only[oV,seval];rw[aF];refine⟨_,rfl,?_⟩;refine⟨0,0,0,?_,?_,?_,?_,?_,?_,?_⟩;all_goals (rfl)
  ·obtain⟨v,n,a⟩:=ae a;cases a;simp only[oV,seval,n];rw[aF];refine⟨_,rfl,?_⟩;refine⟨0,0,0,?_,?_,?_,?_,?_,?_,?_⟩;all_goals (rfl)
def lU (l:Option (D×Row)) (d:List D):=ej (dM (bW CG)) (fun x:ik=>qZ x) (fun r:(List ah) =>.clean (.sl false false r.length (an ak r))) l d
def Tx {β:Type} {F:ik->Option β} {R:β->RK} (b:Int) (a:(List cN)):ej (dM (bW CG)) F R none [.agg [.int .i64 b,.sl false false a.length (an cD a)]]=(F ((ik.mk b a))).map fun r=>(R r,none):=cF _ _ _ ((ik.mk b a))
def zj:Env:=(Am.ext (Am.ext bk 21 false cd) 29 false jY)
def Ov:bV prog zj:=((bV.none.add iQ false).add zA false)
def fj:=ai @w<|ai @FH<|ai @cd.eq_1<|ai @sk<|ai @jY.eq_1<|@zj.eq_1
def C8:ck prog 126 lU:=ck.iZ (mode := .clean) tok Ov mixed func126 (by kernel_rfl) (fun _ _=>rfl) (fun _=>by kernel_rfl) fun B r a=>by
 replace a:qZ B=some r:=a;apply aJ rfl ntmps126 results126;simp only[ja];unfold qZ at a;obtain⟨Z,Q,a⟩:=ae a;obtain⟨R,S,T,F,U⟩:=mk_one ak Q;simp only[bG]at F;simp only[fj,seval,R,S,T,F,U];obtain⟨o7,V,a⟩:=ae a;refine az (fun s t H e=>match s with|(p,C)=>∃g:Nat,∃h:Nat,t 1=.ptr 1 g 0∧t 3=.buf 3 h 4 0 (C).length∧t 11=sN ((Z).length:Int)∧t 12=sN p∧H 1=rV g 66 [sN B.aC,sF cD B.bq]∧H 3=rW h 41 (an ak C)) (fun o x t H e=>match o with|i=>x=.exit 0∧∃j:Nat,∃d:Nat,t 1=.ptr 1 j 0∧t 3=.buf 3 d 4 0 (i).length∧H 1=rV j 66 [sN B.aC,sF cD B.bq]∧H 3=rW d 41 (an ak i)) V ?_ ?_ ?_
 ·refine⟨0,1,?_,?_,?_,?_,?_,?_⟩;all_goals (rfl)
 ·rintro⟨p,C⟩ t H e ⟨g,h,O⟩ c a;simp only[pW]at a;simp only[fj,seval,O];apply sp ax a<;>intro _ a
  ·obtain⟨D,W,a⟩:=ae a;obtain⟨aa,q,a⟩:=ae a;have u:=bz ak q;simp only[bG]at u;have G:=fE ak (x':=D) (fo:=0) (cs:=[.int .i64 D.bn.al,.sl false false D.bn.aa.length (an (eI .i64) D.bn.aa),.int .i64 D.bu.al,.sl false false D.bu.aa.length (an (eI .i64) D.bu.aa)]) q rfl (amV rfl);simp only[bG,Nat.add_zero]at G;have v:=G;simp only[putCells,List.length_cons,List.length_nil,amr,Nat.reduceAdd]at v;cases a;simp only[fj,seval,O,W,u,v];apply iD;refine⟨g,h,?_⟩;and_intros<;>first|rfl|(simp only[fj,seval,O]<;>rfl)
  ·cases a;simp only[fj,seval];apply kf;refine⟨rfl,⟨g,h,?_,?_,?_,?_⟩⟩;all_goals ((simp only[fj,seval,O]<;>rfl))
 ·rintro x t H e I;obtain⟨i,rfl⟩:∃z,z=o7:=⟨_,rfl⟩;dsimp only at I a;obtain⟨rfl,⟨j,d,J⟩⟩:=I;simp only[fj,seval,J];obtain⟨X,K,a⟩:=ae a;refine az (fun s t H e=>match s with|(w,E)=>∃k:Nat,t 3=.buf 3 k 4 0 (E).length∧t 21=sF cD B.bq∧t 22=sN (B.bq.length:Int)∧t 23=sN w∧H 3=rW k 41 (an ak E)) (fun o x t H e=>match o with|l=>x=.exit 2∧∃m:Nat,t 3=.buf 3 m 4 0 (l).length∧H 3=rW m 41 (an ak l)) K ?_ ?_ ?_
  ·refine⟨d,?_⟩;and_intros<;>first|rfl|(simp only[fj,seval,J]<;>rfl)
  ·rintro⟨w,E⟩ t H e ⟨k,P⟩ c a;simp only[pX]at a;simp only[fj,seval,P];apply sp ax a<;>intro _ a
   ·obtain⟨ab,L,a⟩:=ae a;have y:=bz cD L;simp only[bG]at y;obtain⟨ad,n,a⟩:=ae a;have f:=bz ak n;simp only[bG]at f;obtain⟨b,M,a⟩:=ae a;have f:=bz ak n;simp only[bG]at f;have N:=fE ak (x':=b.1) (fo:=0) (cs:=[.int .i64 b.1.bn.al,.sl false false b.1.bn.aa.length (an (eI .i64) b.1.bn.aa),.int .i64 b.1.bu.al,.sl false false b.1.bu.aa.length (an (eI .i64) b.1.bu.aa)]) n rfl (amV rfl);simp only[bG,Nat.add_zero]at N;have A:=N;simp only[putCells,List.length_cons,List.length_nil,amr,Nat.reduceAdd]at A;simp only[fj,seval,P,y,M,f,A];refine bP (by kernel_rfl) ?_;cases a;apply iD;refine⟨k,?_⟩;and_intros<;>first|rfl|(simp only[fj,seval,P]<;>rfl)
   ·cases a;simp only[fj,seval];apply kf;refine⟨rfl,⟨k,?_,?_⟩⟩;all_goals ((simp only[fj,seval,P]<;>rfl))
  ·rintro x t H e I;obtain⟨l,rfl⟩:∃z,z=X:=⟨_,rfl⟩;dsimp only at I a;obtain⟨rfl,⟨m,Y⟩⟩:=I;cases a;simp only[fj,seval,Y]
def ru (l:Option (D×Row)) (d:List D):=ej (dM (bW ak)) (fun x:ah=>sd x) (fun r:Bool =>.clean (.bool r)) l d
def vP:Env:=(Am.ext bk 24 false b6)
def HZ:bV prog vP:=(bV.none.add iL false)
def KG:=ai @w<|ai @iX<|ai @b6.eq_1<|@vP.eq_1
def IY:ck prog 127 ru:=ck.iZ (mode := .clean) tok HZ mixed func127 (by kernel_rfl) (fun _ _=>rfl) (fun _=>by kernel_rfl) fun c r a=>by
 replace a:sd c=some r:=a;apply aJ rfl ntmps127 results127;simp only[ja];unfold sd at a;obtain⟨d,b,a⟩:=ae a;cases a;simp only[KG,seval,b]
def eX (l:Option (D×Row)) (d:List D):=ej (gj (jX ak) (dM (PE 127))) (fun x:(List ah)×Unit=>ep x.1) (fun r:Int =>.clean (.int .i64 r)) l d
def afS {β:Type} {F:(List ah)×Unit->Option β} {R:β->RK} (a:(List ah)):ej (gj (jX ak) (dM (PE 127))) F R none [.sl false false a.length (an ak a),.fn 127]=(F (a,())).map fun r=>(R r,none):=cF _ _ _ (a,())
def gL:Env:=(Am.ext bk 127 false ru)
def qt:bV prog gL:=(bV.none.add IY false)
def bU:=ai @w<|ai @iX<|ai @ru.eq_1<|@gL.eq_1
def qv:ck prog 102 eX:=ck.iZ (mode := .clean) tok qt mixed func102 (by kernel_rfl) (fun _ _=>rfl) (fun _=>by kernel_rfl) fun⟨h,_⟩ r a=>by
 replace a:ep h=some r:=a;apply aJ rfl ntmps102 results102;simp only[ja];unfold ep at a;simp only[bU,seval];obtain⟨l,i,a⟩:=ae a;refine az (fun s t H e=>match s with|b=>t 0=sF ak h∧t 1=.fn 127∧t 7=sN (h.length:Int)∧t 8=sN b) (fun o x t H e=>match o with|(.inl _)=>x=.exit 0|(.inr r)=>x=.ret∧gG .clean tab none [.tmp 4] ⟨t,EH H,e⟩=some (.clean (.int .i64 r),none)) i ?_ ?_ ?_
 ·refine⟨?_,?_,?_,?_⟩;all_goals (rfl)
 ·rintro b t H e f c a;simp only[eP]at a;simp only[bU,seval,f];apply sp ax a<;>intro _ a
  ·obtain⟨n,j,a⟩:=ae a;have d:=bz ak j;simp only[bG]at d;obtain⟨p,k,a⟩:=ae a;simp only[bU,seval,f,d,k];apply sp ax a<;>intro _ a
   ·cases a;simp only[bU,seval];refine uq ⟨rfl,?_⟩;simp only[bU,seval]
   ·cases a;simp only[bU,seval,f];apply iD;and_intros<;>first|rfl|(simp only[bU,seval,f]<;>rfl)
  ·cases a;simp only[bU,seval];apply kf;exact rfl
 ·rintro x t H e g;rcases l with _|q
  ·dsimp only at g a;subst g;cases a;simp only[bU,seval]
  ·dsimp only at g a;obtain⟨rfl,m⟩:=g;cases a;simp only[bd,bj,cL,cR];exact m
def er (l:Option (D×Row)) (d:List D):=ej (gj (jX ak) (dM (PE 127))) (fun x:(List ah)×Unit=>cT x.1) (fun r:Bool =>.clean (.bool r)) l d
def fX:Env:=(Am.ext bk 102 false eX)
def oH:bV prog fX:=(bV.none.add qv false)
def pB:=ai @w<|ai @afS<|ai @eX.eq_1<|@fX.eq_1
def oM:ck prog 52 er:=ck.iZ (mode := .clean) tok oH mixed func52 (by kernel_rfl) (fun _ _=>rfl) (fun _=>by kernel_rfl) fun⟨c,_⟩ r a=>by
 replace a:cT c=some r:=a;apply aJ rfl ntmps52 results52;simp only[ja];unfold cT at a;obtain⟨d,b,a⟩:=ae a;cases a;simp only[pB,seval,b]
def lT (l:Option (D×Row)) (d:List D):=ej (dM (bW CG)) (fun x:ik=>qV x) (fun r:Bool =>.clean (.bool r)) l d
def zi:Env:=(Am.ext (Am.ext (Am.ext (Am.ext (Am.ext (Am.ext bk 24 false b6) 52 false er) 54 false aV) 67 false sY) 81 false dC) 126 false lU)
def Ou:bV prog zi:=((((((bV.none.add iL false).add oM false).add dS false).add Ko false).add nV false).add C8 false)
def bB:=ai @w<|ai @iX<|ai @b6.eq_1<|ai @afS<|ai @er.eq_1<|ai @aV.eq_1<|ai @ajp<|ai @sY.eq_1<|ai @Ky<|ai @dC.eq_1<|ai @Tx<|ai @lU.eq_1<|@zi.eq_1
def C7:ck prog 73 lT:=ck.iZ (mode := .clean) tok Ou mixed func73 (by kernel_rfl) (fun _ _=>rfl) (fun _=>by kernel_rfl) fun i r a=>by
 replace a:qV i=some r:=a;apply aJ rfl ntmps73 results73;simp only[ja];unfold qV at a;obtain⟨Z,K,a⟩:=ae a;simp only[bB,seval,K];obtain⟨P,L,a⟩:=ae a;refine cQ 0 (fun s t H e=>match s with|k=>∃g:Nat,t 1=.ptr 1 g 0∧t 14=.bool k∧H 1=rV g 66 [sN i.aC,sF cD i.bq]) (fun s=>s=P) ?_ ?_
 ·rintro k t H e ⟨g,v⟩ rfl;try dsimp only at a
  simp only[bB,seval,v];apply sp ax a<;>intro _ a
  ·cases a;simp only[bB,seval]
  ·simp only[bB,seval,v];obtain⟨M,w,a⟩:=ae a;refine az (fun s t H e=>match s with|h=>∃b:Nat,t 1=.ptr 1 b 0∧t 16=sF cD i.bq∧t 17=sN (i.bq.length:Int)∧t 18=sN h∧H 1=rV b 66 [sN i.aC,sF cD i.bq]) (fun o x t H e=>match o with|(.inl _)=>x=.exit 0∧∃l:Nat,t 1=.ptr 1 l 0∧H 1=rV l 66 [sN i.aC,sF cD i.bq]|(.inr r)=>x=.ret∧gG .clean tab none [.tmp 2] ⟨t,EH H,e⟩=some (.clean (.bool r),none)) w ?_ ?_ ?_
   ·refine⟨g,?_⟩;and_intros<;>first|rfl|(simp only[bB,seval,v]<;>rfl)
   ·rintro h t H e ⟨b,p⟩ c a;simp only[pV]at a;simp only[bB,seval,p];apply sp ax a<;>intro _ a
    ·obtain⟨j,y,a⟩:=ae a;have q:=bz cD y;simp only[bG]at q;obtain⟨Q,z,a⟩:=ae a;simp only[bB,seval,p,q,z];obtain⟨N,A,a⟩:=ae a;refine cQ 0 (fun s t H e=>match s with|m=>∃d:Nat,∃n:Nat,t 1=.ptr 1 d 0∧t 3=sN h∧t 4=.ptr 4 n 0∧t 16=sF cD i.bq∧t 17=sN (i.bq.length:Int)∧t 18=sN h∧t 50=.bool m∧H 1=rV d 66 [sN i.aC,sF cD i.bq]∧H 4=rV n 118 [sN j.dA,sN j.lH,sN j.gE.bn.al,sI j.gE.bn.aa,sN j.gE.bu.al,sI j.gE.bu.aa]) (fun s=>s=N) ?_ ?_
     ·rintro m t H e ⟨d,n,f⟩ rfl;try dsimp only at a
      simp only[bB,seval,f];apply sp ax a<;>intro _ a
      ·cases a;simp only[bB,seval];refine uq ⟨rfl,?_⟩;simp only[bB,seval]
      ·simp only[bB,seval,f];apply sp Gx a<;>intro _ a
       ·obtain⟨R,B,a⟩:=ae a;have u:=bz cD B;simp only[bG]at u;obtain⟨S,C,a⟩:=ae a;simp only[bB,seval,f,u,C];refine bP (by kernel_rfl) ?_;apply sp ax a<;>intro _ a
        ·cases a;simp only[bB,seval];refine uq ⟨rfl,?_⟩;simp only[bB,seval]
        ·cases a;simp only[bB,seval,f];apply iD;refine⟨d,?_⟩;and_intros<;>first|rfl|(simp only[bB,seval,f]<;>rfl)
       ·simp only[bB,seval,f];refine bP (by kernel_rfl) ?_;cases a;apply iD;refine⟨d,?_⟩;and_intros<;>first|rfl|(simp only[bB,seval,f]<;>rfl)
     ·clear a;have a:=A;simp only[bB,seval];apply sp bQ a<;>intro _ a
      ·cases a;simp only[bB,seval];rw[aF];refine⟨_,rfl,?_⟩;refine⟨b,e+1,?_⟩;and_intros<;>first|rfl|(simp only[bB,seval,p]<;>rfl)
      ·obtain⟨T,D,a⟩:=ae a;simp only[bB,seval,p,D];apply sp bQ a<;>intro _ a
       ·cases a;simp only[bB,seval];rw[aF];refine⟨_,rfl,?_⟩;refine⟨b,e+1,?_⟩;and_intros<;>first|rfl|(simp only[bB,seval,p]<;>rfl)
       ·obtain⟨U,E,a⟩:=ae a;simp only[bB,seval,E];apply sp bQ a<;>intro _ a
        ·cases a;simp only[bB,seval];rw[aF];refine⟨_,rfl,?_⟩;refine⟨b,e+1,?_⟩;and_intros<;>first|rfl|(simp only[bB,seval,p]<;>rfl)
        ·obtain⟨V,F,a⟩:=ae a;cases a;simp only[bB,seval,F];rw[aF];refine⟨_,rfl,?_⟩;refine⟨b,e+1,?_⟩;and_intros<;>first|rfl|(simp only[bB,seval,p]<;>rfl)
    ·cases a;simp only[bB,seval];apply kf;refine⟨rfl,⟨b,?_,?_⟩⟩;all_goals ((simp only[bB,seval,p]<;>rfl))
   ·rintro x t H e J;rcases M with _|rb
    ·dsimp only at J a;obtain⟨rfl,⟨l,O⟩⟩:=J;obtain⟨W,G,a⟩:=ae a;obtain⟨X,I,a⟩:=ae a;cases a;simp only[bB,seval,O,G,I]
    ·dsimp only at J a;obtain⟨rfl,Y⟩:=J;cases a;simp only[bd,bj,cL,cR];exact Y
 ·clear a;have a:=L;simp only[bB,seval];apply sp bQ a<;>intro _ a
  ·cases a;simp only[bB,seval];rw[aF];refine⟨_,rfl,?_⟩;refine⟨0,?_,?_,?_⟩;all_goals (rfl)
  ·cases a;simp only[bB,seval];rw[aF];refine⟨_,rfl,?_⟩;refine⟨0,?_,?_,?_⟩;all_goals (rfl)
def lL (l:Option (D×Row)) (d:List D):=ej (dM (bW ak)) (fun x:ah=>lp x) (fun r:Bool =>.clean (.bool r)) l d
def pS:Env:=(Am.ext bk 54 false aV)
def BI:bV prog pS:=(bV.none.add dS false)
def Dx:=ai @w<|ai @iX<|ai @aV.eq_1<|@pS.eq_1
def BU:ck prog 128 lL:=ck.iZ (mode := .clean) tok BI mixed func128 (by kernel_rfl) (fun _ _=>rfl) (fun _=>by kernel_rfl) fun c r a=>by
 replace a:lp c=some r:=a;apply aJ rfl ntmps128 results128;simp only[ja];unfold lp at a;obtain⟨d,b,a⟩:=ae a;cases a;simp only[Dx,seval,b]
def ec (l:Option (D×Row)) (d:List D):=ej (gj (jX ak) (dM (PE 128))) (fun x:(List ah)×Unit=>dp x.1) (fun r:Int =>.clean (.int .i64 r)) l d
def afT {β:Type} {F:(List ah)×Unit->Option β} {R:β->RK} (a:(List ah)):ej (gj (jX ak) (dM (PE 128))) F R none [.sl false false a.length (an ak a),.fn 128]=(F (a,())).map fun r=>(R r,none):=cF _ _ _ (a,())
def fG:Env:=(Am.ext bk 128 false lL)
def nT:bV prog fG:=(bV.none.add BU false)
def bD:=ai @w<|ai @iX<|ai @lL.eq_1<|@fG.eq_1
def nW:ck prog 102 ec:=ck.iZ (mode := .clean) tok nT mixed func102 (by kernel_rfl) (fun _ _=>rfl) (fun _=>by kernel_rfl) fun⟨h,_⟩ r a=>by
 replace a:dp h=some r:=a;apply aJ rfl ntmps102 results102;simp only[ja];unfold dp at a;simp only[bD,seval];obtain⟨l,i,a⟩:=ae a;refine az (fun s t H e=>match s with|b=>t 0=sF ak h∧t 1=.fn 128∧t 7=sN (h.length:Int)∧t 8=sN b) (fun o x t H e=>match o with|(.inl _)=>x=.exit 0|(.inr r)=>x=.ret∧gG .clean tab none [.tmp 4] ⟨t,EH H,e⟩=some (.clean (.int .i64 r),none)) i ?_ ?_ ?_
 ·refine⟨?_,?_,?_,?_⟩;all_goals (rfl)
 ·rintro b t H e f c a;simp only[dV]at a;simp only[bD,seval,f];apply sp ax a<;>intro _ a
  ·obtain⟨n,j,a⟩:=ae a;have d:=bz ak j;simp only[bG]at d;obtain⟨p,k,a⟩:=ae a;simp only[bD,seval,f,d,k];apply sp ax a<;>intro _ a
   ·cases a;simp only[bD,seval];refine uq ⟨rfl,?_⟩;simp only[bD,seval]
   ·cases a;simp only[bD,seval,f];apply iD;and_intros<;>first|rfl|(simp only[bD,seval,f]<;>rfl)
  ·cases a;simp only[bD,seval];apply kf;exact rfl
 ·rintro x t H e g;rcases l with _|q
  ·dsimp only at g a;subst g;cases a;simp only[bD,seval]
  ·dsimp only at g a;obtain⟨rfl,m⟩:=g;cases a;simp only[bd,bj,cL,cR];exact m
def dw (l:Option (D×Row)) (d:List D):=ej (gj (jX ak) (dM (PE 128))) (fun x:(List ah)×Unit=>cV x.1) (fun r:Bool =>.clean (.bool r)) l d
def e9:Env:=(Am.ext bk 102 false ec)
def l9:bV prog e9:=(bV.none.add nW false)
def nt:=ai @w<|ai @afT<|ai @ec.eq_1<|@e9.eq_1
def ml:ck prog 52 dw:=ck.iZ (mode := .clean) tok l9 mixed func52 (by kernel_rfl) (fun _ _=>rfl) (fun _=>by kernel_rfl) fun⟨c,_⟩ r a=>by
 replace a:cV c=some r:=a;apply aJ rfl ntmps52 results52;simp only[ja];unfold cV at a;obtain⟨d,b,a⟩:=ae a;cases a;simp only[nt,seval,b]
def oc (l:Option (D×Row)) (d:List D):=ej (gj (jX ak) (dM (aI .i64))) (fun x:(List ah)×Int=>lC x.1 x.2) (fun r:Bool =>.clean (.bool r)) l d
def ajq {β:Type} {F:(List ah)×Int->Option β} {R:β->RK} (a:(List ah)) (b:Int):ej (gj (jX ak) (dM (aI .i64))) F R none [.sl false false a.length (an ak a),.int .i64 b]=(F (a,b)).map fun r=>(R r,none):=cF _ _ _ (a,b)
def sL:Env:=(Am.ext bk 52 false dw)
def D6:bV prog sL:=(bV.none.add ml false)
def sR:=ai @w<|ai @afT<|ai @dw.eq_1<|@sL.eq_1
def Em:ck prog 74 oc:=ck.iZ (mode := .clean) tok D6 mixed func74 (by kernel_rfl) (fun _ _=>rfl) (fun _=>by kernel_rfl) fun⟨c,d⟩ r a=>by
 replace a:lC c d=some r:=a;apply aJ rfl ntmps74 results74;simp only[ja];unfold lC at a;simp only[sR,seval];apply sp gB a<;>intro _ a
 ·obtain⟨e,b,a⟩:=ae a;cases a;simp only[sR,seval,b]
 ·cases a;simp only[sR,seval]
def uV (l:Option (D×Row)) (d:List D):=ej (dM (bW CG)) (fun x:ik=>kC x) (fun r:(List Int) =>.clean (.sl false false r.length (an (eI .i64) r))) l d
def zh:Env:=(Am.yu 18 (3,1,0) (Am.ext (Am.ext (Am.ext bk 24 false b6) 73 false lT) 126 false lU))
def Ot:bV prog zh:=(bV.yu (((bV.none.add iL false).add C7 false).add C8 false) 18 (3,1,0))
def bs:=ai @w<|ai @iX<|ai @b6.eq_1<|ai @Tx<|ai @lT.eq_1<|ai @lU.eq_1<|@zh.eq_1
def OQ:ck prog 136 uV:=ck.iZ (mode := .clean) tok Ot mixed func136 (by kernel_rfl) (fun _ _=>rfl) (fun _=>by kernel_rfl) fun p0 r a=>by
 replace a:kC p0=some r:=a;apply aJ rfl ntmps136 results136;simp only[ja];unfold kC at a;obtain⟨r1,bH,a⟩:=ae a;simp only[bs,seval,-Int.reduceToNat,bH];apply sp ax a<;>intro _ a
 ·cases a;simp only[bs,seval,-Int.reduceToNat]
 ·obtain⟨x3,b2,a⟩:=ae a;have bI:=XQ (E:=(QS (eI .i64))) (ty':=3) (s:=1) (f:=0) (k := .i64) Pk (by rfl) rfl rfl rfl rfl rfl b2;obtain⟨aR,dp,dq,dr,ds⟩:=mk_one (QS (eI .i64)) b2;simp only[bs,seval,-Int.reduceToNat,bI,aR];obtain⟨c9,b3,a⟩:=ae a;refine az (fun s t H e=>match s with|(a6,V)=>∃W:Nat,∃w:Nat,∃l:Nat,t 1=.ptr 1 W 0∧t 3=.buf 18 w 1 0 (V).length∧t 20=sF cD p0.bq∧t 21=sN (p0.bq.length:Int)∧t 22=sN a6∧H 1=rV W 66 [sN p0.aC,sF cD p0.bq]∧H 18=some ⟨w,22,[.nr 3 1 l (an (QS (eI .i64)) V)],false,true,true⟩∧l<=4*e) (fun o x t H e=>match o with|b=>x=.exit 0∧∃X:Nat,∃p:Nat,∃h:Nat,t 1=.ptr 1 X 0∧t 3=.buf 18 p 1 0 (b).length∧H 1=rV X 66 [sN p0.aC,sF cD p0.bq]∧H 18=some ⟨p,22,[.nr 3 1 h (an (QS (eI .i64)) b)],false,true,true⟩∧h<=4*e) b3 ?_ ?_ ?_
  ·refine⟨0,2,4*(2)+2,?_,?_,?_,?_,?_,?_,?_,?_⟩;all_goals (first|rfl|omega|(simp only[bs,seval,-Int.reduceToNat,bH,bI,aR]<;>rfl))
  ·rintro⟨a6,V⟩ t H e ⟨W,w,l,Za⟩ c a;simp only[mS]at a;simp only[bs,seval,-Int.reduceToNat,Za];apply sp ax a<;>intro _ a
   ·obtain⟨dt,b4,a⟩:=ae a;have a7:=bz cD b4;simp only[bG]at a7;obtain⟨du,A,a⟩:=ae a;have B:=bz (QS (eI .i64)) A;simp only[bG]at B;obtain⟨bJ,b5,a⟩:=ae a;obtain⟨b6,a8,b7,b8⟩:=js (eI .i64) b5;simp only[bG]at a8;have B:=bz (QS (eI .i64)) A;simp only[bG]at B;have b9:=S5 (QS (eI .i64)) (x':=bJ) 0 .und (.nx bJ.length (an (eI .i64) bJ)) A rfl (amV rfl);have ba:=X7 (QS (eI .i64)) 0 .und A (amV rfl);simp only[bG,Nat.add_zero]at b9 ba;have bb:=b9;simp only[putCells,List.length_cons,List.length_nil,amr]at bb;have Y:=ba;simp only[putCells,List.length_cons,List.length_nil,amr]at Y;have ca:bump l (e+1+1)=some (4*(e+1+1)+1):=lM (by omega);simp only[bs,seval,-Int.reduceToNat,Za,a7,b6,a8,b7,b8,B,bb,Y,ca];refine bP (by kernel_rfl) ?_;cases a;apply iD;refine⟨W,w,4*(e+1+1)+1,?_,?_,?_,?_,?_,?_,?_,?_⟩;all_goals (first|rfl|omega|(simp only[bs,seval,-Int.reduceToNat,Za]<;>rfl))
   ·cases a;simp only[bs,seval,-Int.reduceToNat];apply kf;refine⟨rfl,⟨W,w,l,?_,?_,?_,?_,?_⟩⟩;all_goals (first|rfl|omega|(simp only[bs,seval,-Int.reduceToNat,Za]<;>rfl))
  ·rintro x t H e Z;obtain⟨b,rfl⟩:∃z,z=c9:=⟨_,rfl⟩;dsimp only at Z a;obtain⟨rfl,⟨X,p,h,cb⟩⟩:=Z;obtain⟨dv,cd,a⟩:=ae a;obtain⟨cf,bc,bd,aa,bg⟩:=mk_one (eI .i64) cd;simp only[bG]at aa;obtain⟨cg,bh,a⟩:=ae a;simp only[bs,seval,-Int.reduceToNat,aR,cb,bc,bd,aa,bg,bh];obtain⟨da,ch,a⟩:=ae a;refine az (fun s t H e=>match s with|(bj,bK,bL)=>∃T:Nat,∃ab:Nat,∃m:Nat,∃g:Nat,∃ad:Nat,∃ag:List D,t 3=.buf 18 m 1 0 (b).length∧t 6=.buf 6 T 1 0 (bK).length∧t 7=.buf 7 ab 1 ad (bL).length∧t 44=sF ak cg∧t 45=sN (cg.length:Int)∧t 46=sN bj∧H 6=rW T 3 (an (eI .i64) bK)∧H 7=rW ab 3 (ag)∧H 18=some ⟨m,22,[.nr 3 1 g (an (QS (eI .i64)) b)],false,true,true⟩∧g<=4*e∧kg (eI .i64) ag ad bL) (fun o x t H e=>match o with|(ai,aj)=>x=.exit 2∧∃C:Nat,∃F:Nat,∃q:Nat,∃i:Nat,∃G:Nat,∃I:List D,t 3=.buf 18 q 1 0 (b).length∧t 6=.buf 6 C 1 0 (ai).length∧t 7=.buf 7 F 1 G (aj).length∧H 6=rW C 3 (an (eI .i64) ai)∧H 7=rW F 3 (I)∧H 18=some ⟨q,22,[.nr 3 1 i (an (QS (eI .i64)) b)],false,true,true⟩∧i<=4*e∧kg (eI .i64) I G aj) ch ?_ ?_ ?_
   ·refine⟨e,e+1,p,h,0,(an (eI .i64) ([])),?_,?_,?_,?_,?_,?_,?_,?_,?_,?_,(kg.self (eI .i64) ([]))⟩;all_goals (first|rfl|omega|(simp only[bs,seval,-Int.reduceToNat,cb]<;>rfl))
   ·rintro⟨bj,bK,bL⟩ t H e ⟨T,ab,m,g,ad,ag,bM,al,bN,ao,aq,J,cj,bO,bk,db,aS⟩ c a;simp only[mT]at a;have ar:=aS.fit;have au:=aS.eq;simp only[bG]at ar au;simp only[bs,seval,-Int.reduceToNat,aq,J];apply sp ax a<;>intro _ a
    ·obtain⟨dw,cm,a⟩:=ae a;have av:=bz ak cm;simp only[bG]at av;obtain⟨dx,bl,a⟩:=ae a;have aw:=bz (eI .i64) bl;simp only[bG]at aw;have cn:=fE (eI .i64) (x':=(-1)) (fo:=0) (cs:=[.int .i64 (-1)]) bl rfl (amV rfl);simp only[bG,Nat.add_zero]at cn;have bm:=cn;simp only[putCells,List.length_cons,List.length_nil,amr]at bm;obtain⟨dy,cp,a⟩:=ae a;simp only[bs,seval,-Int.reduceToNat,al,ao,J,cj,av,aw,bm,cp];apply sp ax a<;>intro _ a
     ·obtain⟨dz,bn,a⟩:=ae a;have cq:=bz (eI .i64) bn;simp only[bG,anm]at cq;have cr:=fE (eI .i64) (x':=0) (fo:=0) (cs:=[.int .i64 0]) bn rfl (amV rfl);simp only[bG,Nat.add_zero]at cr;have bp:=cr;simp only[putCells,List.length_cons,List.length_nil,amr]at bp;obtain⟨ct,cu,a⟩:=ae a;obtain⟨cv,bq,cw,cx⟩:=js (eI .i64) cu;simp only[bG]at bq;cases a;simp only[bs,seval,-Int.reduceToNat,al,bN,J,bO,ar,au,av,aw,bp,cv,bq,cw,cx];apply iD;refine⟨T,e+1+1+1+1+1,m,g,0,(an (eI .i64) ct),?_,?_,?_,?_,?_,?_,?_,?_,?_,?_,(kg.self (eI .i64) ct)⟩;all_goals (first|rfl|omega|(simp only[bs,seval,-Int.reduceToNat,bM,al,ao,aq,bk]<;>rfl))
     ·cases a;simp only[bs,seval,-Int.reduceToNat,J];apply iD;refine⟨T,ab,m,g,ad,ag,?_,?_,?_,?_,?_,?_,?_,?_,?_,?_,aS⟩;all_goals (first|rfl|omega|(simp only[bs,seval,-Int.reduceToNat,bM,al,bN,ao,aq,bO,bk]<;>rfl))
    ·cases a;simp only[bs,seval,-Int.reduceToNat];apply kf;refine⟨rfl,⟨T,ab,m,g,ad,ag,?_,?_,?_,?_,?_,?_,?_,aS⟩⟩;all_goals (first|rfl|omega|(simp only[bs,seval,-Int.reduceToNat,bM,al,bN,cj,bO]<;>rfl))
   ·rintro x t H e Z;rcases da with⟨ai,aj⟩;dsimp only at Z a;obtain⟨rfl,⟨C,F,q,i,G,I,cy,cz,cA,cB,cC,bQ,aT,ay⟩⟩:=Z;have K:=ay.fit;have L:=ay.eq;simp only[bG]at K L;simp only[bs,seval,-Int.reduceToNat];obtain⟨dc,cE,a⟩:=ae a;refine az (fun s t H e=>match s with|(bR,bS)=>∃aA:Nat,∃bT:Nat,∃M:Nat,∃u:Nat,∃aU:Nat,∃aV:List D,t 3=.buf 18 M 1 0 (b).length∧t 6=.buf 6 aA 1 0 (bR).length∧t 7=.buf 7 bT 1 aU (bS).length∧H 6=rW aA 3 (an (eI .i64) bR)∧H 7=rW bT 3 (aV)∧H 18=some ⟨M,22,[.nr 3 1 u (an (QS (eI .i64)) b)],false,true,true⟩∧u<=4*e∧kg (eI .i64) aV aU bS) (fun o x t H e=>match o with|aB=>x=.exit 4∧∃aC:Nat,t 6=.buf 6 aC 1 0 (aB).length∧H 6=rW aC 3 (an (eI .i64) aB)) cE ?_ ?_ ?_
    ·refine⟨C,F,q,i,G,I,?_,?_,?_,?_,?_,?_,?_,ay⟩;all_goals (first|rfl|omega|(simp only[bs,seval,-Int.reduceToNat,bH,bI,aR,cf,bc,bd,aa,bg,bh,cy,cz,cA,cB,cC,bQ,aT,K,L]<;>rfl))
    ·rintro⟨bR,bS⟩ t H e ⟨aA,bT,M,u,aU,aV,cF,cG,cH,cI,cJ,br,dd,aW⟩ c a;simp only[mU]at a;have bU:=aW.fit;have bV:=aW.eq;simp only[bG]at bU bV;simp only[bs,seval,-Int.reduceToNat,cH,cJ];apply sp ax a<;>intro _ a
     ·obtain⟨cK,bt,a⟩:=ae a;have cL:=oK bt;obtain⟨bu,cM,bw⟩:=aW.idx bt;simp only[bG]at bw bu;obtain⟨dA,bx,a⟩:=ae a;obtain⟨cN,dj,cO,cP,cQ⟩:=VH (eI .i64) bx;simp only[bG]at cQ;have cR:=kg.tail aW bx;obtain⟨cS,cT,a⟩:=ae a;have N:=bz (QS (eI .i64)) cT;simp only[bG]at N;simp only[bs,seval,-Int.reduceToNat,cF,cH,cJ,br,cL,bw,bu,cN,cO,N];obtain⟨de,cU,a⟩:=ae a;refine az (fun s t H e=>match s with|(bA,bW,bX)=>∃U:Nat,∃aD:Nat,∃n:Nat,∃d:Nat,∃aE:Nat,∃aF:List D,t 3=.buf 18 n 1 0 (b).length∧t 6=.buf 6 U 1 0 (bW).length∧t 7=.buf 7 aD 1 aE (bX).length∧t 10=sN cK∧t 76=.buf (NK 18 ((cK:Int).toNat*1)) d 1 0 (cS).length∧t 77=sN ((cS).length:Int)∧t 78=sN bA∧H 6=rW U 3 (an (eI .i64) bW)∧H 7=rW aD 3 (aF)∧H 18=some ⟨n,22,[.nr 3 1 d (an (QS (eI .i64)) b)],false,true,true⟩∧d<=4*e∧kg (eI .i64) aF aE bX) (fun o x t H e=>match o with|(aG,aH)=>x=.exit 6∧∃O:Nat,∃P:Nat,∃v:Nat,∃j:Nat,∃Q:Nat,∃R:List D,t 3=.buf 18 v 1 0 (b).length∧t 6=.buf 6 O 1 0 (aG).length∧t 7=.buf 7 P 1 Q (aH).length∧H 6=rW O 3 (an (eI .i64) aG)∧H 7=rW P 3 (R)∧H 18=some ⟨v,22,[.nr 3 1 j (an (QS (eI .i64)) b)],false,true,true⟩∧j<=4*e∧kg (eI .i64) R Q aH) cU ?_ ?_ ?_
      ·refine⟨aA,e+1+1,M,u,(aU+(1:Int).toNat*1),(aV),?_,?_,?_,?_,?_,?_,?_,?_,?_,?_,?_,cR⟩;all_goals (first|rfl|omega|(simp only[bs,seval,-Int.reduceToNat,cF,cG,cI,br,cP]<;>rfl))
      ·rintro⟨bA,bW,bX⟩ t H e ⟨U,aD,n,d,aE,aF,bY,aI,bZ,aK,aL,aM,S,aX,b1,bB,df,aY⟩ c a;simp only[mV]at a;have aN:=aY.fit;have aO:=aY.eq;simp only[bG]at aN aO;simp only[bs,seval,-Int.reduceToNat,aM,S];apply sp ax a<;>intro _ a
       ·obtain⟨dB,cV,a⟩:=ae a;have bC:=bz (eI .i64) cV;simp only[bG]at bC;obtain⟨dC,aP,a⟩:=ae a;have y:=bz (eI .i64) aP;simp only[bG]at y;simp only[bs,seval,-Int.reduceToNat,N,aI,aL,S,aX,bB,bC,y];apply sp ax a<;>intro _ a
        ·obtain⟨cW,cX,a⟩:=ae a;have bD:=bz (eI .i64) cX;simp only[bG]at bD;have y:=bz (eI .i64) aP;simp only[bG]at y;have cY:=fE (eI .i64) (x':=IntKind.i64.wrap (cW+1)) (fo:=0) (cs:=[.int .i64 (IntKind.i64.wrap (cW+1))]) aP rfl (amV rfl);simp only[bG,Nat.add_zero]at cY;have bE:=cY;simp only[putCells,List.length_cons,List.length_nil,amr]at bE;obtain⟨cZ,c0,a⟩:=ae a;obtain⟨c3,bF,c4,c5⟩:=js (eI .i64) c0;simp only[bG]at bF;cases a;simp only[bs,seval,-Int.reduceToNat,N,aI,bZ,aK,S,aX,b1,aN,aO,bD,y,bE,c3,bF,c4,c5];apply iD;refine⟨U,e+1+1+1+1,n,d,0,(an (eI .i64) cZ),?_,?_,?_,?_,?_,?_,?_,?_,?_,?_,?_,(kg.self (eI .i64) cZ)⟩;all_goals (first|rfl|omega|(simp only[bs,seval,-Int.reduceToNat,bY,aI,aK,aL,aM,bB]<;>rfl))
        ·cases a;simp only[bs,seval,-Int.reduceToNat,S];apply iD;refine⟨U,aD,n,d,aE,aF,?_,?_,?_,?_,?_,?_,?_,?_,?_,?_,?_,aY⟩;all_goals (first|rfl|omega|(simp only[bs,seval,-Int.reduceToNat,bY,aI,bZ,aK,aL,aM,aX,b1]<;>rfl))
       ·cases a;simp only[bs,seval,-Int.reduceToNat];apply kf;refine⟨rfl,⟨U,aD,n,d,aE,aF,?_,?_,?_,?_,?_,?_,?_,aY⟩⟩;all_goals (first|rfl|omega|(simp only[bs,seval,-Int.reduceToNat,bY,aI,bZ,aX,b1]<;>rfl))
      ·rintro x t H e Z;rcases de with⟨aG,aH⟩;dsimp only at Z a;obtain⟨rfl,⟨O,P,v,j,Q,R,dk,dm,dn,c6,c7,dh,c8,aQ⟩⟩:=Z;have aZ:=aQ.fit;have a1:=aQ.eq;simp only[bG]at aZ a1;cases a;simp only[bs,seval,-Int.reduceToNat];apply iD;refine⟨O,P,v,j,Q,R,?_,?_,?_,?_,?_,?_,?_,aQ⟩;all_goals (first|rfl|omega|(simp only[bs,seval,-Int.reduceToNat,c6,c7]<;>rfl))
     ·cases a;simp only[bs,seval,-Int.reduceToNat];apply kf;refine⟨rfl,⟨aA,?_,?_⟩⟩;all_goals ((simp only[bs,seval,-Int.reduceToNat,cG,cI]<;>rfl))
    ·rintro x t H e Z;obtain⟨aB,rfl⟩:∃z,z=dc:=⟨_,rfl⟩;dsimp only at Z a;obtain⟨rfl,⟨aC,di⟩⟩:=Z;cases a;simp only[bs,seval,-Int.reduceToNat,di]
def rv (l:Option (D×Row)) (d:List D):=ej (dM (bW CG)) (fun x:ik=>mh x) (fun r:(List Int) =>.clean (.sl false false r.length (an (eI .i64) r))) l d
def vQ:Env:=(Am.ext bk 136 false uV)
def H0:bV prog vQ:=(bV.none.add OQ false)
def gq:=ai @w<|ai @Tx<|ai @uV.eq_1<|@vQ.eq_1
def IZ:ck prog 85 rv:=ck.iZ (mode := .clean) tok H0 mixed func85 (by kernel_rfl) (fun _ _=>rfl) (fun _=>by kernel_rfl) fun B r a=>by
 replace a:mh B=some r:=a;apply aJ rfl ntmps85 results85;simp only[ja];unfold mh at a;obtain⟨y,q,a⟩:=ae a;simp only[gq,seval,q];obtain⟨C,u,a⟩:=ae a;refine az (fun s t H e=>match s with|(j,h)=>∃b:Nat,t 3=.buf 3 b 1 0 (h).length∧t 7=sI y∧t 8=sN (y.length:Int)∧t 9=sN j∧H 3=rW b 3 (an (eI .i64) h)) (fun o x t H e=>match o with|d=>x=.exit 0∧∃f:Nat,t 3=.buf 3 f 1 0 (d).length∧H 3=rW f 3 (an (eI .i64) d)) u ?_ ?_ ?_
 ·refine⟨1,?_,?_,?_,?_,?_⟩;all_goals (rfl)
 ·rintro⟨j,h⟩ t H e ⟨b,i⟩ c a;simp only[kD]at a;simp only[gq,seval,i];apply sp ax a<;>intro _ a
  ·obtain⟨E,v,a⟩:=ae a;have k:=bz (eI .i64) v;simp only[bG]at k;simp only[gq,seval,i,k];apply sp ax a<;>intro _ a
   ·obtain⟨D,l,a⟩:=ae a;obtain⟨m,g,n,p⟩:=js (eI .i64) l;simp only[bG]at g;cases a;simp only[gq,seval,i,m,g,n,p];apply iD;refine⟨e+1+1+1,?_⟩;and_intros<;>first|rfl|(simp only[gq,seval,i]<;>rfl)
   ·cases a;simp only[gq,seval,i];apply iD;refine⟨b,?_⟩;and_intros<;>first|rfl|(simp only[gq,seval,i]<;>rfl)
  ·cases a;simp only[gq,seval];apply kf;refine⟨rfl,⟨b,?_,?_⟩⟩;all_goals ((simp only[gq,seval,i]<;>rfl))
 ·rintro x t H e A;obtain⟨d,rfl⟩:∃z,z=C:=⟨_,rfl⟩;dsimp only at A a;obtain⟨rfl,⟨f,w⟩⟩:=A;cases a;simp only[gq,seval,w]
def ajr {β:Type} {F:ik×(List ah)->Option β} {R:β->RK} (b:Int) (a:(List cN)) (c:(List ah)):ej (gj (bW CG) (dM (jX ak))) F R none [.agg [.int .i64 b,.sl false false a.length (an cD a)],.sl false false c.length (an ak c)]=(F ((ik.mk b a),c)).map fun r=>(R r,none):=cF _ _ _ ((ik.mk b a),c)
def lO:Env:=(Am.yu 11 (130,5,4) bk)
def BJ:bV prog lO:=(bV.yu bV.none 11 (130,5,4))
def cn:=ai @w<|@lO.eq_1
end Go.Proofs.YtobnihfgnbnncaaGreat.Am
