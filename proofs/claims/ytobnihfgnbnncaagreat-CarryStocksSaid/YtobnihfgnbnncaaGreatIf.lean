import Derived.Test.YtobnihfgnbnncaaGreatIe
set_option linter.unusedSimpArgs false
set_option linter.unusedVariables false
set_option linter.defProp false
noncomputable section
open Go.Proofs.Tryz
namespace Go.Proofs.YtobnihfgnbnncaaGreat.Am
open Go.RowKit Go.Proofs.YtobnihfgnbnncaaGreat.P
set_option maxRecDepth 100000
set_option maxHeartbeats 4000000
def CY (F:ik) (p1:(List ah)) (r:(List aL)) (a:gD F p1=some r):B5 tab lO FU Tryz.f75 [.agg [.int .i64 F.aC,.sl false false F.bq.length (an cD F.bq)],.sl false false p1.length (an ak p1)]=some (128,130,5,5,r.length,an bc r):=by
 apply aaT rfl ntmps75 results75;unfold gD at a;obtain⟨x1,T,a⟩:=ae a;have U:=XQ (E:=bc) (ty':=130) (s:=5) (f:=4) (k := .i64) Pj (by rfl) rfl rfl rfl rfl rfl T;obtain⟨V,aC,aD,aE,aF⟩:=mk_one bc T;simp only[cn,seval,U,V];obtain⟨o8,av,a⟩:=ae a;refine az (fun s t H e=>match s with|(G,w)=>∃y:Nat,∃l:Nat,∃g:Nat,t 1=sF ak p1∧t 2=.ptr 2 y 0∧t 5=.buf 11 l 5 0 (w).length∧t 13=sN ((x1).length:Int)∧t 14=sN G∧H 2=rV y 66 [sN F.aC,sF cD F.bq]∧H 11=some ⟨l,128,[.nr 130 5 g (an bc w)],false,true,true⟩∧g<=4*e) (fun o x t H e=>match o with|n=>x=.exit 0∧∃A:Nat,∃i:Nat,∃d:Nat,t 2=.ptr 2 A 0∧t 5=.buf 11 i 5 0 (n).length∧H 2=rV A 66 [sN F.aC,sF cD F.bq]∧H 11=some ⟨i,128,[.nr 130 5 d (an bc n)],false,true,true⟩∧d<=4*e) av ?_ ?_ ?_
 ·refine⟨0,1,4*(1)+2,?_,?_,?_,?_,?_,?_,?_,?_⟩;all_goals (first|rfl|omega|(simp only[cn,seval,U,V]<;>rfl))
 ·rintro⟨G,w⟩ t H e ⟨y,l,g,Za⟩ c a;simp only[jk]at a;simp only[cn,seval,Za];apply sp ax a<;>intro _ a
  ·obtain⟨p,W,a⟩:=ae a;have I:=bz ak W;simp only[bG]at I;obtain⟨aw,B,a⟩:=ae a;have J:=bz bc B;simp only[bG]at J;have K:=lj bc 0 4 (amV rfl) B;simp only[bG,Nat.add_zero]at K;have X:=fE bc (x':=(aL.mk p aw.cO)) (fo:=0) (cs:=[.int .i64 p.bn.al,.sl false false p.bn.aa.length (an (eI .i64) p.bn.aa),.int .i64 p.bu.al,.sl false false p.bu.aa.length (an (eI .i64) p.bu.aa)]) B rfl (amV rfl);simp only[bG,Nat.add_zero]at X;have L:=X;simp only[putCells,List.length_cons,List.length_nil,amr,Nat.reduceAdd]at L;cases a;simp only[cn,seval,Za,I,J,K,L];apply iD;refine⟨y,l,g,?_,?_,?_,?_,?_,?_,?_,?_⟩;all_goals (first|rfl|omega|(simp only[cn,seval,Za]<;>rfl))
  ·cases a;simp only[cn,seval];apply kf;refine⟨rfl,⟨y,l,g,?_,?_,?_,?_,?_⟩⟩;all_goals (first|rfl|omega|(simp only[cn,seval,Za]<;>rfl))
 ·rintro x t H e Y;obtain⟨n,rfl⟩:∃z,z=o8:=⟨_,rfl⟩;dsimp only at Y a;obtain⟨rfl,⟨A,i,d,Z⟩⟩:=Y;simp only[cn,seval,Z];obtain⟨ay,aa,a⟩:=ae a;refine az (fun s t H e=>match s with|(M,C)=>∃m:Nat,∃h:Nat,t 5=.buf 11 m 5 0 (C).length∧t 27=sF cD F.bq∧t 28=sN (F.bq.length:Int)∧t 29=sN M∧H 11=some ⟨m,128,[.nr 130 5 h (an bc C)],false,true,true⟩∧h<=4*e) (fun o x t H e=>match o with|q=>x=.exit 2∧∃u:Nat,∃j:Nat,t 5=.buf 11 u 5 0 (q).length∧H 11=some ⟨u,128,[.nr 130 5 j (an bc q)],false,true,true⟩∧j<=4*e) aa ?_ ?_ ?_
  ·refine⟨i,d,?_,?_,?_,?_,?_,?_⟩;all_goals (first|rfl|omega|(simp only[cn,seval,Z]<;>rfl))
  ·rintro⟨M,C⟩ t H e ⟨m,h,Zb⟩ c a;simp only[jl]at a;simp only[cn,seval,Zb];apply sp ax a<;>intro _ a
   ·obtain⟨aG,ab,a⟩:=ae a;have N:=bz cD ab;simp only[bG]at N;obtain⟨aA,b,a⟩:=ae a;have v:=bz bc b;simp only[bG]at v;have O:=ma bc 4 b;have ad:=lj bc 4 1 (amV rfl) b;simp only[bG]at O ad;obtain⟨S,ag,a⟩:=ae a;obtain⟨ai,P,aj,al⟩:=js cr ag;simp only[bG]at P;have v:=bz bc b;simp only[bG]at v;have ao:=ma bc 4 b;have aq:=lj bc 4 1 (amV rfl) b;simp only[bG]at ao aq;have ar:=S5 bc (x':=(aL.mk aA.bT S)) 4 .und (.nx S.length (an cr S)) b rfl (amV rfl);have Q:=X7 bc 4 .und b (amV rfl);simp only[bG]at ar Q;have R:=ar;simp only[putCells,List.length_cons,List.length_nil,amr]at R;have D:=Q;simp only[putCells,List.length_cons,List.length_nil,amr]at D;have au:bump h (e+1+1)=some (4*(e+1+1)+1):=lM (by omega);simp only[cn,seval,Zb,N,O,ai,P,aj,al,v,R,D,au];refine bP (by kernel_rfl) ?_;cases a;apply iD;refine⟨m,4*(e+1+1)+1,?_,?_,?_,?_,?_,?_⟩;all_goals (first|rfl|omega|(simp only[cn,seval,Zb]<;>rfl))
   ·cases a;simp only[cn,seval];apply kf;refine⟨rfl,⟨m,h,?_,?_,?_⟩⟩;all_goals (first|rfl|omega|(simp only[cn,seval,Zb]<;>rfl))
  ·rintro x t H e Y;obtain⟨q,rfl⟩:∃z,z=ay:=⟨_,rfl⟩;dsimp only at Y a;obtain⟨rfl,⟨u,j,aB⟩⟩:=Y;cases a;simp only[cn,seval,aB]
def oC:=bJ (gj (bW CG) (dM (jX ak))) (fun x:ik×(List ah)=>gD x.1 x.2) (fun r:(List aL)=>(128,130,5,5,r.length,an bc r))
def uE (b:Int) (a:(List cN)) (c:(List ah)):oC [.agg [.int .i64 b,.sl false false a.length (an cD a)],.sl false false c.length (an ak c)]=(gD (ik.mk b a) c).map fun r:(List aL)=>(128,130,5,5,r.length,an bc r):=ahC _ _ _ ((ik.mk b a),c)
def sV:FOk prog 75 oC:=FOk.of tok BJ mixed func75 (by kernel_rfl) ⟨by kernel_rfl,by kernel_rfl⟩ (fun _=>amV (by kernel_rfl)) (fun x r h=>CY x.1 x.2 r h)
def im (l:Option (D×Row)) (d:List D):=ej (gj (bW cr) (dM (aI .i64))) (fun x:gi×Int=>eF x.1 x.2) (fun r:Int =>.clean (.int .i64 r)) l d
def ajs {β:Type} {F:gi×Int->Option β} {R:β->RK} (c:Int) (d:Int) (a:(List Int)) (e:Int) (b:(List Int)) (f:Int):ej (gj (bW cr) (dM (aI .i64))) F R none [.agg [.int .i64 c,.int .i64 d,.sl false false a.length (an (eI .i64) a),.int .i64 e,.sl false false b.length (an (eI .i64) b)],.int .i64 f]=(F ((gi.mk c (ah.mk (aH.mk d a) (aH.mk e b))),f)).map fun r=>(R r,none):=cF _ _ _ ((gi.mk c (ah.mk (aH.mk d a) (aH.mk e b))),f)
def kx:Env:=(Am.ext bk 110 false eA)
def vW:bV prog kx:=(bV.none.add p6 false)
def wM:=ai @w<|ai @M8<|ai @eA.eq_1<|@kx.eq_1
def vZ:ck prog 178 im:=ck.iZ (mode := .clean) tok vW mixed func178 (by kernel_rfl) (fun _ _=>rfl) (fun _=>by kernel_rfl) fun⟨c,d⟩ r a=>by
 replace a:eF c d=some r:=a;apply aJ rfl ntmps178 results178;simp only[ja];unfold eF at a;obtain⟨e,b,a⟩:=ae a;cases a;simp only[wM,seval,b]
def cw (l:Option (D×Row)) (d:List D):=ej (gj (jX cr) (gj (aI .i64) (dM (PE 178)))) (fun x:(List gi)×Int×Unit=>bK x.1 x.2.1) (fun r:Int×Bool =>.clean (.tup [.int .i64 r.1,.bool r.2])) l d
def ajt {β:Type} {F:(List gi)×Int×Unit->Option β} {R:β->RK} (a:(List gi)) (b:Int):ej (gj (jX cr) (gj (aI .i64) (dM (PE 178)))) F R none [.sl false false a.length (an cr a),.int .i64 b,.fn 178]=(F (a,b,())).map fun r=>(R r,none):=cF _ _ _ (a,b,())
def dm:Env:=(Am.ext bk 178 false im)
def jA:bV prog dm:=(bV.none.add vZ false)
def aM:=ai @w<|ai @ajs<|ai @im.eq_1<|@dm.eq_1
def jB:ck prog 177 cw:=ck.iZ (mode := .clean) tok jA mixed func177 (by kernel_rfl) (fun _ _=>rfl) (fun _=>by kernel_rfl) fun⟨h,q,_⟩ r a=>by
 replace a:bK h q=some r:=a;apply aJ rfl ntmps177 results177;simp only[ja];unfold bK at a;simp only[aM,seval,-Int.reduceToNat];obtain⟨A,u,a⟩:=ae a;refine az (fun s t H e=>match s with|(i,b)=>t 0=sF cr h∧t 1=sN q∧t 2=.fn 178∧t 8=sN (h.length:Int)∧t 9=sN i∧t 10=sN b) (fun o x t H e=>match o with|d=>x=.exit 0∧t 0=sF cr h∧t 1=sN q∧t 2=.fn 178∧t 8=sN (h.length:Int)∧t 9=sN d) u ?_ ?_ ?_
 ·refine⟨?_,?_,?_,?_,?_,?_⟩;all_goals (rfl)
 ·rintro⟨i,b⟩ t H e j c a;simp only[cv]at a;simp only[aM,seval,-Int.reduceToNat,j];apply sp ax a<;>intro _ a
  ·obtain⟨F,v,a⟩:=ae a;have w:=xM v;obtain⟨B,k,a⟩:=ae a;have f:=bz cr k;simp only[bG]at f;obtain⟨C,l,a⟩:=ae a;simp only[aM,seval,-Int.reduceToNat,j,w,f,l];apply sp ax a<;>intro _ a
   ·cases a;simp only[aM,seval,-Int.reduceToNat];apply iD;and_intros<;>first|rfl|(simp only[aM,seval,-Int.reduceToNat,j]<;>rfl)
   ·cases a;simp only[aM,seval,-Int.reduceToNat];apply iD;and_intros<;>first|rfl|(simp only[aM,seval,-Int.reduceToNat,j]<;>rfl)
  ·cases a;simp only[aM,seval,-Int.reduceToNat];apply kf;refine⟨rfl,⟨?_,?_,?_,?_,?_⟩⟩;all_goals ((simp only[aM,seval,-Int.reduceToNat,j]<;>rfl))
 ·rintro x t H e y;obtain⟨d,rfl⟩:∃z,z=A:=⟨_,rfl⟩;dsimp only at y a;obtain⟨rfl,m⟩:=y;simp only[aM,seval,-Int.reduceToNat,m];apply sp gB a<;>intro _ a
  ·obtain⟨D,n,a⟩:=ae a;have g:=bz cr n;simp only[bG]at g;obtain⟨E,p,a⟩:=ae a;cases a;simp only[aM,seval,-Int.reduceToNat,m,g,p]
  ·cases a;simp only[aM,seval,-Int.reduceToNat]
def gu:=Kk 128 130 5 bc (dM (aI .i64)) (fun (q:aL) (x:Int)=>dF q x) (fun r:Int×Bool =>.tup [.int .i64 r.1,.bool r.2])
def kV (b a:List D) (c:aL) (d:Int):gu 128 130 5 b.length (b++(bc.cells c++a)) [.int .i64 d]=(dF c d).map fun r=>(.tup [.int .i64 r.2.1,.bool r.2.2],b++(bc.cells r.1++a)):=OG _ _ _ _ _ _ _ b a c (d)
def jt:Env:=(Am.ext bk 177 false cw)
def xy:bV prog jt:=(bV.none.add jB false)
def yz:=ai @w<|ai @vnp<|ai @ajt<|ai @cw.eq_1<|@jt.eq_1
def yr (b a:List D) (e:aL) (f:Int) (r:aL×(Int×Bool)) (c:dF e f=some r):xQ tab jt FU Tryz.f137 128 130 5 b.length (b++(bc.cells e++a)) [.int .i64 f]=some (.tup [.int .i64 r.2.1,.bool r.2.2],b++(bc.cells r.1++a)):=by
 apply Av rfl ntmps137 results137;rw[fi];unfold dF at c;obtain⟨g,d,c⟩:=ae c;cases c;simp only[yz,seval,d]
def eN:NOk prog 137 gu:=NOk.of tok xy mixed func137 (by kernel_rfl) ⟨by kernel_rfl,by kernel_rfl⟩ (fun _=>amV (by kernel_rfl)) (fun b a q x c r h=>yr b a q x (c,r) h)
def lK:=mkE 130 cr (gj (aI .i64) (dM (aI .i64))) (fun (l:(List gi)) (x:Int×Int)=>iS l x.1 x.2)
def vu (b a:List D) (c:(List gi)) (d e:Int):lK (some (.buf 0 0 5 b.length c.length,⟨0,130,b++(an cr c++a),false,true,false⟩)) [.int .i64 d,.int .i64 e]=(iS c d e).map fun r=>(.fresh 130 5 r.length (an cr r),none):=Vl _ _ _ _ b a c (d,e)
def uz:ck prog 138 lK:=ae0 cr rfl
def wT (l:Option (D×Row)) (d:List D):=ej (gj (bW ak) (dM (bW ak))) (fun x:ah×ah=>rS x.1 x.2) (fun r:ah×Int =>.clean (.tup [.agg [.int .i64 r.1.bn.al,.sl false false r.1.bn.aa.length (an (eI .i64) r.1.bn.aa),.int .i64 r.1.bu.al,.sl false false r.1.bu.aa.length (an (eI .i64) r.1.bu.aa)],.int .i64 r.2])) l d
def Bu:Env:=(Am.ext (Am.ext (Am.ext bk 54 false aV) 60 false eW) 63 false gK)
def Rl:bV prog Bu:=(((bV.none.add dS false).add rI false).add vo false)
def kY:=ai @w<|ai @iX<|ai @aV.eq_1<|ai @M9<|ai @eW.eq_1<|ai @gK.eq_1<|@Bu.eq_1
def SO:ck prog 139 wT:=ck.iZ (mode := .clean) tok Rl mixed func139 (by kernel_rfl) (fun _ _=>rfl) (fun _=>by kernel_rfl) fun⟨h,i⟩ r a=>by
 replace a:rS h i=some r:=a;apply aJ rfl ntmps139 results139;simp only[ja];unfold rS at a;obtain⟨q,j,a⟩:=ae a;simp only[kY,seval,j];obtain⟨p,k,a⟩:=ae a;refine cQ 0 (fun s t H e=>match s with|g=>∃b:Nat,∃c:Nat,∃d:Nat,t 2=.ptr 2 b 0∧t 3=.ptr 3 c 0∧t 4=.ptr 4 d 0∧t 6=.bool g∧H 2=rV b 41 [sN h.bn.al,sI h.bn.aa,sN h.bu.al,sI h.bu.aa]∧H 3=rV c 41 [sN i.bn.al,sI i.bn.aa,sN i.bu.al,sI i.bu.aa]∧H 4=rV d 41 [sN 0,.sl true true 0 [],sN 0,.sl true true 0 []]) (fun s=>s=p) ?_ ?_
 ·rintro g t H e ⟨b,c,d,f⟩ rfl;try dsimp only at a
  simp only[kY,seval,f];apply sp ax a<;>intro _ a
  ·cases a;simp only[kY,seval,f]
  ·simp only[kY,seval,f];apply sp ax a<;>intro _ a
   ·cases a;simp only[kY,seval,f]
   ·obtain⟨u,l,a⟩:=ae a;obtain⟨v,m,a⟩:=ae a;obtain⟨w,n,a⟩:=ae a;simp only[kY,seval,f,l,m,n];refine bP (by kernel_rfl) ?_;cases a;simp only[seval]
 ·clear a;have a:=k;simp only[kY,seval];apply sp bQ a<;>intro _ a
  ·cases a;simp only[kY,seval];rw[aF];refine⟨_,rfl,?_⟩;refine⟨0,0,0,?_,?_,?_,?_,?_,?_,?_⟩;all_goals (rfl)
  ·obtain⟨x,o,a⟩:=ae a;cases a;simp only[kY,seval,o];rw[aF];refine⟨_,rfl,?_⟩;refine⟨0,0,0,?_,?_,?_,?_,?_,?_,?_⟩;all_goals (rfl)
def kn:=Kk 128 130 5 bc (dM (aI .i64)) (fun (q:aL) (x:Int)=>eQ q x) (fun r:Unit =>.tup [])
def iI:Env:=(Am.ext (Am.ext (Am.tr 137 (0,gu) (Am.ext (Am.ext bk 21 false cd) 29 false jY)) 138 true lK) 139 false wT)
def wA:bV prog iI:=(((bV.tr ((bV.none.add iQ false).add zA false) eN.callable eN.calls).add uz true).add SO false)
def cm:=ai @w<|ai @vnp<|ai @vnl<|ai @FH<|ai @cd.eq_1<|ai @sk<|ai @jY.eq_1<|ai @wT.eq_1<|@iI.eq_1
def xB (f g:List D) (R:aL) (S:Int) (r:aL×(Unit)) (a:eQ R S=some r):xQ tab iI FU Tryz.f86 128 130 5 f.length (f++(bc.cells R++g)) [.int .i64 S]=some (.tup [],f++(bc.cells r.1++g)):=by
 apply Av rfl ntmps86 results86;rw[fi];unfold eQ at a;have T:=kV f g R S;simp only[bG]at T;obtain⟨U,C,a⟩:=ae a;have V:bump 0 (1)=some (4*(1)+1):=lM (by omega);simp only[cm,seval,T,C];apply sp ax a<;>intro _ a
 ·cases a;simp only[cm,seval]
 ·obtain⟨r5,E,a⟩:=ae a;obtain⟨x6,y,a⟩:=ae a;have A:=bz cr y;simp only[bG]at A;have B:=ma cr 1 y;have F:=lj cr 1 4 (amV rfl) y;simp only[bG]at B F;obtain⟨P,G,a⟩:=ae a;simp only[cm,seval,E,A,B,G];refine bP (by kernel_rfl) ?_;have W:=vu [] [] U.1.cO U.2.1 (IntKind.i64.wrap (U.2.1+1));simp only[List.nil_append,am6,List.length_nil]at W;obtain⟨X,p,a⟩:=ae a;have I:bump (4*(1)+1) (4)=some (4*(4)+1):=lM (by omega);obtain⟨h,q,a⟩:=ae a;simp only[cm,seval,W,p,q];refine bP (by kernel_rfl) ?_;obtain⟨Y,J,a⟩:=ae a;refine az (fun s t H e=>match s with|(u,j)=>∃n:Nat,∃i:Nat,t 0=.ptr 0 0 f.length∧t 6=.ptr 6 n 0∧t 57=sN ((X).length:Int)∧t 58=sN u∧H 0=some ⟨0,128,[.nr 130 5 i (f++([sN h.1.bn.al,sI h.1.bn.aa,sN h.1.bu.al,sI h.1.bu.aa,.nx (j).length (an cr j)]++g))],false,true,true⟩∧H 6=rV n 41 [sN P.1.bn.al,sI P.1.bn.aa,sN P.1.bu.al,sI P.1.bu.aa]∧i<=4*e) (fun o x t H e=>match o with|d=>x=.exit 0∧∃k:Nat,t 0=.ptr 0 0 f.length∧H 0=some ⟨0,128,[.nr 130 5 k (f++([sN h.1.bn.al,sI h.1.bn.aa,sN h.1.bu.al,sI h.1.bu.aa,.nx (d).length (an cr d)]++g))],false,true,true⟩∧k<=4*e) J ?_ ?_ ?_
  ·refine⟨3,4*(4)+1,?_,?_,?_,?_,?_,?_,?_⟩;all_goals (first|rfl|omega|(simp only[cm,seval,T,C,V,E,A,B,F,G,W,p,I,q]<;>rfl))
  ·rintro⟨u,j⟩ t H e ⟨n,i,Q⟩ c a;simp only[fR]at a;simp only[cm,seval,Q];apply sp ax a<;>intro _ a
   ·obtain⟨Z,b,a⟩:=ae a;have m:=bz cr b;simp only[bG]at m;have v:=ma cr 1 b;have K:=lj cr 1 4 (amV rfl) b;simp only[bG]at v K;obtain⟨l,L,a⟩:=ae a;have m:=bz cr b;simp only[bG]at m;have M:=ma cr 1 b;have N:=lj cr 1 4 (amV rfl) b;simp only[bG]at M N;have O:=fE cr (x':=(gi.mk Z.qP l.1)) (fo:=1) (cs:=[.int .i64 l.1.bn.al,.sl false false l.1.bn.aa.length (an (eI .i64) l.1.bn.aa),.int .i64 l.1.bu.al,.sl false false l.1.bu.aa.length (an (eI .i64) l.1.bu.aa)]) b rfl (amV rfl);simp only[bG]at O;have w:=O;simp only[putCells,List.length_cons,List.length_nil,amr,Nat.reduceAdd]at w;simp only[cm,seval,Q,v,L,m,w];refine bP (by kernel_rfl) ?_;cases a;apply iD;refine⟨n,i,?_,?_,?_,?_,?_,?_,?_⟩;all_goals (first|rfl|omega|(simp only[cm,seval,Q]<;>rfl))
   ·cases a;simp only[cm,seval];apply kf;refine⟨rfl,⟨i,?_,?_,?_⟩⟩;all_goals (first|rfl|omega|(simp only[cm,seval,Q]<;>rfl))
  ·rintro x t H e hx;obtain⟨d,rfl⟩:∃z,z=Y:=⟨_,rfl⟩;dsimp only at hx a;obtain⟨rfl,⟨k,aa⟩⟩:=hx;cases a;simp only[cm,seval,aa]
def nU:NOk prog 86 kn:=NOk.of tok wA mixed func86 (by kernel_rfl) ⟨by kernel_rfl,by kernel_rfl⟩ (fun _=>amV (by kernel_rfl)) (fun b a q x c r h=>xB b a q x (c,r) h)
def gQ (l:Option (D×Row)) (d:List D):=ej (gj (bW ak) (gj (bW ak) (dM (bW ak)))) (fun x:ah×ah×ah=>kb x.1 x.2.1 x.2.2) (fun r:ah =>.clean (.agg [.int .i64 r.bn.al,.sl false false r.bn.aa.length (an (eI .i64) r.bn.aa),.int .i64 r.bu.al,.sl false false r.bu.aa.length (an (eI .i64) r.bu.aa)])) l d
def aas {β:Type} {F:ah×ah×ah->Option β} {R:β->RK} (g:Int) (a:(List Int)) (h:Int) (b:(List Int)) (i:Int) (c:(List Int)) (j:Int) (d:(List Int)) (k:Int) (e:(List Int)) (l:Int) (f:(List Int)):ej (gj (bW ak) (gj (bW ak) (dM (bW ak)))) F R none [.agg [.int .i64 g,.sl false false a.length (an (eI .i64) a),.int .i64 h,.sl false false b.length (an (eI .i64) b)],.agg [.int .i64 i,.sl false false c.length (an (eI .i64) c),.int .i64 j,.sl false false d.length (an (eI .i64) d)],.agg [.int .i64 k,.sl false false e.length (an (eI .i64) e),.int .i64 l,.sl false false f.length (an (eI .i64) f)]]=(F ((ah.mk (aH.mk g a) (aH.mk h b)),(ah.mk (aH.mk i c) (aH.mk j d)),(ah.mk (aH.mk k e) (aH.mk l f)))).map fun r=>(R r,none):=cF _ _ _ ((ah.mk (aH.mk g a) (aH.mk h b)),(ah.mk (aH.mk i c) (aH.mk j d)),(ah.mk (aH.mk k e) (aH.mk l f)))
def xw:Env:=(Am.ext (Am.ext bk 23 false dj) 58 false fc)
def Kg:bV prog xw:=((bV.none.add mj false).add sg false)
def PD:=ai @w<|ai @sk<|ai @dj.eq_1<|ai @fc.eq_1<|@xw.eq_1
def v7:ck prog 76 gQ:=ck.iZ (mode := .clean) tok Kg mixed func76 (by kernel_rfl) (fun _ _=>rfl) (fun _=>by kernel_rfl) fun⟨d,e,f⟩ r a=>by
 replace a:kb d e f=some r:=a;apply aJ rfl ntmps76 results76;simp only[ja];unfold kb at a;obtain⟨g,b,a⟩:=ae a;obtain⟨h,c,a⟩:=ae a;cases a;simp only[PD,seval,b,c]
def afh:aa5 prog 179 (130,5,72):=afj
def lE:=Kk 128 130 5 bc (gj (aI .i64) (dM (bW ak))) (fun (q:aL) (x:Int×ah)=>fI q x.1 x.2) (fun r:Unit =>.tup [])
def yx (f c:List D) (g:aL) (h:Int) (d:Int) (a:(List Int)) (e:Int) (b:(List Int)):lE 128 130 5 f.length (f++(bc.cells g++c)) [.int .i64 h,.agg [.int .i64 d,.sl false false a.length (an (eI .i64) a),.int .i64 e,.sl false false b.length (an (eI .i64) b)]]=(fI g h (ah.mk (aH.mk d a) (aH.mk e b))).map fun r=>(.tup [],f++(bc.cells r.1++c)):=OG _ _ _ _ _ _ _ f c g (h,(ah.mk (aH.mk d a) (aH.mk e b)))
def jO:Env:=(Am.Ii 179 (130,5,72) (Am.tr 137 (0,gu) (Am.ext (Am.ext bk 21 false cd) 76 false gQ)))
def yn:bV prog jO:=(bV.Ii (bV.tr ((bV.none.add iQ false).add v7 false) eN.callable eN.calls) afh)
def jW:=ai @w<|ai @vnp<|ai @vnl<|ai @FH<|ai @cd.eq_1<|ai @aas<|ai @gQ.eq_1<|@jO.eq_1
def zr (d c:List D) (q:aL) (s:Int) (h:ah) (r:aL×(Unit)) (a:fI q s h=some r):xQ tab jO FU Tryz.f140 128 130 5 d.length (d++(bc.cells q++c)) [.int .i64 s,.agg [.int .i64 h.bn.al,.sl false false h.bn.aa.length (an (eI .i64) h.bn.aa),.int .i64 h.bu.al,.sl false false h.bu.aa.length (an (eI .i64) h.bu.aa)]]=some (.tup [],d++(bc.cells r.1++c)):=by
 apply Av rfl ntmps140 results140;rw[fi];unfold fI at a;have z:=kV d c q s;simp only[bG]at z;obtain⟨F,t,a⟩:=ae a;have B:bump 0 (2)=some (4*(2)+1):=lM (by omega);simp only[jW,seval,z,t];apply sp ax a<;>intro _ a
 ·obtain⟨C,b,a⟩:=ae a;have e:=bz cr b;simp only[bG]at e;have j:=ma cr 1 b;have u:=lj cr 1 4 (amV rfl) b;simp only[bG]at j u;obtain⟨G,v,a⟩:=ae a;obtain⟨i,w,a⟩:=ae a;have e:=bz cr b;simp only[bG]at e;have x:=ma cr 1 b;have y:=lj cr 1 4 (amV rfl) b;simp only[bG]at x y;have k:=fE cr (x':=(gi.mk C.qP i)) (fo:=1) (cs:=[.int .i64 i.bn.al,.sl false false i.bn.aa.length (an (eI .i64) i.bn.aa),.int .i64 i.bu.al,.sl false false i.bu.aa.length (an (eI .i64) i.bu.aa)]) b rfl (amV rfl);simp only[bG]at k;have f:=k;simp only[putCells,List.length_cons,List.length_nil,amr,Nat.reduceAdd]at f;simp only[jW,seval,j,v,w,e,f];refine bP (by kernel_rfl) ?_;cases a;simp only[jW,seval]
 ·obtain⟨E,l,a⟩:=ae a;obtain⟨m,n,o,p,g⟩:=afi cr l;simp only[bG]at g;have A:bump (4*(2)+1) (4)=some (4*(4)+1):=lM (by omega);simp only[jW,ne_eq,not_false_eq_true,seval,m,n,o,p,g];refine bP (by kernel_rfl) ?_;cases a;simp only[seval]
def pZ:NOk prog 140 lE:=NOk.of tok yn mixed func140 (by kernel_rfl) ⟨by kernel_rfl,by kernel_rfl⟩ (fun _=>amV (by kernel_rfl)) (fun b a q x c r h=>zr b a q x.1 x.2 (c,r) h)
def lF:=Kk 128 130 5 bc (gj (aI .i64) (dM (bW tV))) (fun (q:aL) (x:Int×aL)=>fJ q x.1 x.2) (fun r:Unit =>.tup [])
def jP:Env:=(Am.tr 140 (0,lE) (Am.ext (Am.tr 137 (0,gu) (Am.ext (Am.ext bk 21 false cd) 76 false gQ)) 138 true lK))
def yo:bV prog jP:=(bV.tr ((bV.tr ((bV.none.add iQ false).add v7 false) eN.callable eN.calls).add uz true) pZ.callable pZ.calls)
def cW:=ai @w<|ai @vnp<|ai @vnl<|ai @FH<|ai @cd.eq_1<|ai @aas<|ai @gQ.eq_1<|@jP.eq_1
def zt (d b:List D) (T:aL) (U:Int) (v:aL) (r:aL×(Unit)) (a:fJ T U v=some r):xQ tab jP FU Tryz.f87 128 130 5 d.length (d++(bc.cells T++b)) [.int .i64 U,.agg [.int .i64 v.bT.bn.al,.sl false false v.bT.bn.aa.length (an (eI .i64) v.bT.bn.aa),.int .i64 v.bT.bu.al,.sl false false v.bT.bu.aa.length (an (eI .i64) v.bT.bu.aa),.sl false false v.cO.length (an cr v.cO)]]=some (.tup [],d++(bc.cells r.1++b)):=by
 apply Av rfl ntmps87 results87;rw[fi];unfold fJ at a;have V:=kV d b T U;simp only[bG]at V;obtain⟨W,G,a⟩:=ae a;have X:bump 0 (2)=some (4*(2)+1):=lM (by omega);simp only[cW,seval,V,G];apply sp ax a<;>intro _ a
 ·cases a;simp only[cW,seval]
 ·obtain⟨R,C,a⟩:=ae a;have E:=bz cr C;simp only[bG]at E;have F:=ma cr 1 C;have I:=lj cr 1 4 (amV rfl) C;simp only[bG]at F I;have Y:=vu [] [] W.1.cO W.2.1 (IntKind.i64.wrap (W.2.1+1));simp only[List.nil_append,am6,List.length_nil]at Y;obtain⟨r8,J,a⟩:=ae a;have Z:bump (4*(2)+1) (5)=some (4*(5)+1):=lM (by omega);obtain⟨ag,z,a⟩:=ae a;simp only[cW,seval,E,F,Y,J,z];refine bP (by kernel_rfl) ?_;obtain⟨aa,K,a⟩:=ae a;refine az (fun s t H e=>match s with|(A,i,j,k,l,f)=>∃w:Nat,∃h:Nat,t 0=.ptr 0 0 d.length∧t 8=.ptr 8 w 0∧t 50=sF cr v.cO∧t 51=sN (v.cO.length:Int)∧t 52=sN A∧H 0=some ⟨0,128,[.nr 130 5 h (d++([sN i,sI j,sN k,sI l,.nx (f).length (an cr f)]++b))],false,true,true⟩∧H 8=rV w 41 [sN R.jz.bn.al,sI R.jz.bn.aa,sN R.jz.bu.al,sI R.jz.bu.aa]∧h<=4*e) (fun o x t H e=>match o with|(n,p,q,u,g)=>x=.exit 0∧∃m:Nat,t 0=.ptr 0 0 d.length∧H 0=some ⟨0,128,[.nr 130 5 m (d++([sN n,sI p,sN q,sI u,.nx (g).length (an cr g)]++b))],false,true,true⟩∧m<=4*e) K ?_ ?_ ?_
  ·refine⟨4,4*(5)+1,?_,?_,?_,?_,?_,?_,?_,?_⟩;all_goals (first|rfl|omega|(simp only[cW,seval,V,G,X,E,F,I,Y,J,Z,z]<;>rfl))
  ·rintro⟨A,i,j,k,l,f⟩ t H e ⟨w,h,S⟩ c a;simp only[gI]at a;simp only[cW,seval,S];apply sp ax a<;>intro _ a
   ·obtain⟨ab,L,a⟩:=ae a;have B:=bz cr L;simp only[bG]at B;obtain⟨ai,M,a⟩:=ae a;obtain⟨y,N,a⟩:=ae a;have O:=yx d b (aL.mk (ah.mk (aH.mk i j) (aH.mk k l)) f) ab.qP y.bn.al y.bn.aa y.bu.al y.bu.aa;simp only[bG]at O;obtain⟨aj,P,a⟩:=ae a;have Q:bump h (e+1+1)=some (4*(e+1+1)+1):=lM (by omega);simp only[cW,seval,S,B,M,N,O,P,Q];refine bP (by kernel_rfl) ?_;cases a;apply iD;refine⟨w,4*(e+1+1)+1,?_,?_,?_,?_,?_,?_,?_,?_⟩;all_goals (first|rfl|omega|(simp only[cW,seval,S]<;>rfl))
   ·cases a;simp only[cW,seval];apply kf;refine⟨rfl,⟨h,?_,?_,?_⟩⟩;all_goals (first|rfl|omega|(simp only[cW,seval,S]<;>rfl))
  ·rintro x t H e hx;rcases aa with⟨n,p,q,u,g⟩;dsimp only at hx a;obtain⟨rfl,⟨m,ad⟩⟩:=hx;cases a;simp only[cW,seval,ad]
def p5:NOk prog 87 lF:=NOk.of tok yo mixed func87 (by kernel_rfl) ⟨by kernel_rfl,by kernel_rfl⟩ (fun _=>amV (by kernel_rfl)) (fun b a q x c r h=>zt b a q x.1 x.2 (c,r) h)
def wZ (l:Option (D×Row)) (d:List D):=ej (gj (bW CG) (dM (jX ak))) (fun x:ik×(List ah)=>ln x.1 x.2) (fun r:(List ah)×Int =>.clean (.tup [.sl false false r.1.length (an ak r.1),.int .i64 r.2])) l d
def wH {C:List (Bool×aL)} {i:Int} {b:aL} (h:P.idx C i=some (false,b)) (a:Int):kn 128 130 5 (i.toNat*bY.size) (an bY C) [.int .i64 a]=(eQ b a).map fun r=>(.tup [],an bY (C.set i.toNat (false,r.1))):=XP pN h (a)
def yw {C:List (Bool×aL)} {i:Int} {g:aL} (h:P.idx C i=some (false,g)) (f:Int) (d:Int) (a:(List Int)) (e:Int) (b:(List Int)) (c:(List gi)):lF 128 130 5 (i.toNat*bY.size) (an bY C) [.int .i64 f,.agg [.int .i64 d,.sl false false a.length (an (eI .i64) a),.int .i64 e,.sl false false b.length (an (eI .i64) b),.sl false false c.length (an cr c)]]=(fJ g f (aL.mk (ah.mk (aH.mk d a) (aH.mk e b)) c)).map fun r=>(.tup [],an bY (C.set i.toNat (false,r.1))):=XP pN h (f,(aL.mk (ah.mk (aH.mk d a) (aH.mk e b)) c))
def BG:Env:=(Am.tr 87 (0,lF) (Am.tr 86 (5,kn) (Am.ext (Am.ext (Am.C4 75 oC (Am.ext (Am.ext (Am.ext bk 21 false cd) 73 false lT) 74 false oc)) 76 false gQ) 85 false rv)))
def Rw:bV prog BG:=(bV.tr (bV.tr (((bV.C4 (((bV.none.add iQ false).add C7 false).add Em false) sV.callable sV.calls).add v7 false).add IZ false) nU.callable nU.calls) p5.callable p5.calls)
def bF:=ai @w<|ai @vnl<|ai @FH<|ai @cd.eq_1<|ai @Tx<|ai @lT.eq_1<|ai @ajq<|ai @oc.eq_1<|ai @uE<|ai @aas<|ai @gQ.eq_1<|ai @rv.eq_1<|@BG.eq_1
def SX:ck prog 41 wZ:=ck.iZ (mode := .clean) tok Rw mixed func41 (by kernel_rfl) (fun _ _=>rfl) (fun _=>by kernel_rfl) fun⟨X,p1⟩ r a=>by
 replace a:ln X p1=some r:=a;apply aJ rfl ntmps41 results41;simp only[ja];unfold ln at a;obtain⟨r1,bB,a⟩:=ae a;simp only[bF,seval,bB];obtain⟨o2,bC,a⟩:=ae a;refine cQ 0 (fun s t H e=>match s with|Y=>∃L:Nat,t 1=sF ak p1∧t 2=.ptr 2 L 0∧t 14=.bool Y∧H 2=rV L 66 [sN X.aC,sF cD X.bq]) (fun s=>s=o2) ?_ ?_
 ·rintro Y t H e ⟨L,au⟩ rfl;try dsimp only at a
  simp only[bF,seval,au];apply sp ax a<;>intro _ a
  ·cases a;simp only[bF,seval]
  ·obtain⟨r4,bD,a⟩:=ae a;simp only[bF,seval,au,bD];apply sp ax a<;>intro _ a
   ·cases a;simp only[bF,seval]
   ·obtain⟨r6,bE,a⟩:=ae a;have bH:=L8 pN r6;simp only[bF,seval,au,bE,bH];obtain⟨bI,aS,a⟩:=ae a;refine az (fun s t H e=>match s with|(g,M)=>∃Z:Nat,∃A:Nat,∃m:Nat,t 2=.ptr 2 Z 0∧t 6=.buf 32 A 5 0 (M).length∧t 34=sN ((r6).length:Int)∧t 35=sN g∧H 2=rV Z 66 [sN X.aC,sF cD X.bq]∧H 32=some ⟨A,128,[.nr 130 5 m (an bY M)],false,true,true⟩∧m<=4*e) (fun o x t H e=>match o with|b=>x=.exit 1∧∃aa:Nat,∃u:Nat,∃j:Nat,t 2=.ptr 2 aa 0∧t 6=.buf 32 u 5 0 (b).length∧H 2=rV aa 66 [sN X.aC,sF cD X.bq]∧H 32=some ⟨u,128,[.nr 130 5 j (an bY b)],false,true,true⟩∧j<=4*e) aS ?_ ?_ ?_
    ·refine⟨L,e+1,4*(e+1)+2,?_,?_,?_,?_,?_,?_,?_⟩;all_goals (first|rfl|omega|(simp only[bF,seval,au]<;>rfl))
    ·rintro⟨g,M⟩ t H e ⟨Z,A,m,Zb⟩ c a;simp only[mq]at a;simp only[bF,seval,Zb];apply sp ax a<;>intro _ a
     ·obtain⟨bS,ab,a⟩:=ae a;have ad:=And.intro (oK ab) (kR bY ab);simp only[bG]at ad;obtain⟨bJ,aT,a⟩:=ae a;have av:P.idx M g=some (false,bJ):=ab.trans (congrArg some (S0 aT));have aU:=wH av g;simp only[bG]at aU;obtain⟨bK,aV,a⟩:=ae a;have aW:bump m (e+1+1)=some (4*(e+1+1)+1):=lM (by omega);have aw:=aiR pN Hs Hu Ht av bK.1;rw[qK]at aw;simp only[bF,seval,Zb,ad,aU,aV,aW,aw];obtain⟨bL,aX,a⟩:=ae a;refine az (fun s t H e=>match s with|(aQ,B)=>∃ag:Nat,∃C:Nat,∃n:Nat,t 2=.ptr 2 ag 0∧t 6=.buf 32 C 5 0 (B).length∧t 7=sN g∧t 8=sN aQ∧t 34=sN ((r6).length:Int)∧t 35=sN g∧H 2=rV ag 66 [sN X.aC,sF cD X.bq]∧H 32=some ⟨C,128,[.nr 130 5 n (an bY B)],false,true,true⟩∧n<=4*e) (fun o x t H e=>match o with|I=>x=.exit 3∧∃N:Nat,∃v:Nat,∃k:Nat,t 2=.ptr 2 N 0∧t 6=.buf 32 v 5 0 (I).length∧t 34=sN ((r6).length:Int)∧t 35=sN g∧H 2=rV N 66 [sN X.aC,sF cD X.bq]∧H 32=some ⟨v,128,[.nr 130 5 k (an bY I)],false,true,true⟩∧k<=4*e) aX ?_ ?_ ?_
      ·refine⟨Z,A,4*(e+1+1)+1,?_,?_,?_,?_,?_,?_,?_,?_,?_⟩;all_goals (first|rfl|omega|(simp only[bF,seval,Zb]<;>rfl))
      ·rintro⟨aQ,B⟩ t H e ⟨ag,C,n,Zd⟩ c a;simp only[pj]at a;simp only[bF,seval,Zd];apply sp ax a<;>intro _ a
       ·obtain⟨bT,ai,a⟩:=ae a;have ay:=And.intro (oK ai) (kR bY ai);simp only[bG]at ay;obtain⟨bU,aj,a⟩:=ae a;have aA:=And.intro (oK aj) (kR bY aj);simp only[bG]at aA;obtain⟨W,aY,a⟩:=ae a;have aB:P.idx B g=some (true,W):=aj.trans (congrArg some (TD aY));have aC:=ma bY 0 aB;have aZ:=lj bY 0 5 (amV rfl) aB;simp only[bG,Nat.add_zero]at aC aZ;obtain⟨bM,a1,a⟩:=ae a;have a6:P.idx B aQ=some (false,bM):=ai.trans (congrArg some (S0 a1));have a7:=yw a6 g W.bT.bn.al W.bT.bn.aa W.bT.bu.al W.bT.bu.aa W.cO;simp only[bG]at a7;obtain⟨bV,a8,a⟩:=ae a;have ba:bump n (e+1)=some (4*(e+1)+1):=lM (by omega);simp only[bF,seval,ad,Zd,ay,aA,aC,a7,a8,ba];refine bP (by kernel_rfl) ?_;cases a;apply iD;refine⟨ag,C,4*(e+1)+1,?_,?_,?_,?_,?_,?_,?_,?_,?_⟩;all_goals (first|rfl|omega|(simp only[bF,seval,Zd]<;>rfl))
       ·cases a;simp only[bF,seval];apply kf;refine⟨rfl,⟨ag,C,n,?_,?_,?_,?_,?_,?_,?_⟩⟩;all_goals (first|rfl|omega|(simp only[bF,seval,Zd]<;>rfl))
      ·rintro x t H e hx;obtain⟨I,rfl⟩:∃z,z=bL:=⟨_,rfl⟩;dsimp only at hx a;obtain⟨rfl,⟨N,v,k,bb⟩⟩:=hx;cases a;simp only[bF,seval,bb];apply iD;refine⟨N,v,k,?_,?_,?_,?_,?_,?_,?_⟩;all_goals (first|rfl|omega|(simp only[bF,seval,bb]<;>rfl))
     ·cases a;simp only[bF,seval];apply kf;refine⟨rfl,⟨Z,A,m,?_,?_,?_,?_,?_⟩⟩;all_goals (first|rfl|omega|(simp only[bF,seval,Zb]<;>rfl))
    ·rintro x t H e hx;obtain⟨b,rfl⟩:∃z,z=bI:=⟨_,rfl⟩;dsimp only at hx a;obtain⟨rfl,⟨aa,u,j,bc⟩⟩:=hx;obtain⟨bW,bd,a⟩:=ae a;obtain⟨bg,bh,bj,aD,bk⟩:=mk_one ak bd;simp only[bG]at aD;simp only[bF,seval,bc,bg,bh,bj,aD,bk];obtain⟨bN,bl,a⟩:=ae a;refine az (fun s t H e=>match s with|(D,J)=>∃al:Nat,∃O:Nat,∃w:Nat,t 6=.buf 32 O 5 0 (b).length∧t 9=.buf 9 al 4 0 (J).length∧t 10=sN D∧H 9=rW al 41 (an ak J)∧H 32=some ⟨O,128,[.nr 130 5 w (an bY b)],false,true,true⟩∧w<=4*e) (fun o x t H e=>match o with|ao=>x=.exit 5∧∃aq:Nat,t 9=.buf 9 aq 4 0 (ao).length∧H 9=rW aq 41 (an ak ao)) bl ?_ ?_ ?_
     ·refine⟨e,u,j,?_,?_,?_,?_,?_,?_⟩;all_goals (first|rfl|omega|(simp only[bF,seval,bc]<;>rfl))
     ·rintro⟨D,J⟩ t H e ⟨al,O,w,Ze⟩ c a;simp only[mu]at a;simp only[bF,seval,Ze];apply sp ax a<;>intro _ a
      ·obtain⟨bX,E,a⟩:=ae a;have q:=And.intro (oK E) (kR bY E);simp only[bG]at q;obtain⟨aR,bm,a⟩:=ae a;have Q:P.idx b D=some (true,aR):=E.trans (congrArg some (TD bm));have aE:=ma bY 0 Q;have aG:=lj bY 0 4 (amV rfl) Q;simp only[bG,Nat.add_zero]at aE aG;obtain⟨bZ,bn,a⟩:=ae a;obtain⟨b1,bp,a⟩:=ae a;simp only[bF,seval,Ze,q,aE,aG,bn,bp];refine bP (by kernel_rfl) ?_;have q:=And.intro (oK E) (kR bY E);simp only[bG]at q;have aI:=ma bY 4 Q;have bq:=lj bY 4 1 (amV rfl) Q;simp only[bG]at aI bq;simp only[bF,seval,q,aI];obtain⟨bO,br,a⟩:=ae a;refine az (fun s t H e=>match s with|(aK,R,S,T,U)=>∃ar:Nat,∃F:Nat,∃G:Nat,∃p:Nat,t 6=.buf 32 G 5 0 (b).length∧t 9=.buf 9 ar 4 0 (J).length∧t 10=sN D∧t 11=.ptr 11 F 0∧t 83=sF cr aR.cO∧t 84=sN (aR.cO.length:Int)∧t 85=sN aK∧H 9=rW ar 41 (an ak J)∧H 11=rV F 41 [sN R,sI S,sN T,sI U]∧H 32=some ⟨G,128,[.nr 130 5 p (an bY b)],false,true,true⟩∧p<=4*e) (fun o x t H e=>match o with|(h,d,i,f)=>x=.exit 7∧∃V:Nat,∃K:Nat,∃y:Nat,∃l:Nat,t 6=.buf 32 y 5 0 (b).length∧t 9=.buf 9 V 4 0 (J).length∧t 10=sN D∧t 11=.ptr 11 K 0∧H 9=rW V 41 (an ak J)∧H 11=rV K 41 [sN h,sI d,sN i,sI f]∧H 32=some ⟨y,128,[.nr 130 5 l (an bY b)],false,true,true⟩∧l<=4*e) br ?_ ?_ ?_
       ·refine⟨al,e+1,O,w,?_,?_,?_,?_,?_,?_,?_,?_,?_,?_,?_⟩;all_goals (first|rfl|omega|(simp only[bF,seval,Ze]<;>rfl))
       ·rintro⟨aK,R,S,T,U⟩ t H e ⟨ar,F,G,p,Zg⟩ c a;simp only[sn]at a;simp only[bF,seval,Zg];apply sp ax a<;>intro _ a
        ·obtain⟨b2,bs,a⟩:=ae a;have aL:=bz cr bs;simp only[bG]at aL;obtain⟨b3,bt,a⟩:=ae a;have aM:=bz ak bt;simp only[bG]at aM;obtain⟨b4,bu,a⟩:=ae a;simp only[bF,seval,Zg,aL,aM,bu];refine bP (by kernel_rfl) ?_;cases a;apply iD;refine⟨ar,F,G,p,?_,?_,?_,?_,?_,?_,?_,?_,?_,?_,?_⟩;all_goals (first|rfl|omega|(simp only[bF,seval,Zg]<;>rfl))
        ·cases a;simp only[bF,seval];apply kf;refine⟨rfl,⟨ar,F,G,p,?_,?_,?_,?_,?_,?_,?_,?_⟩⟩;all_goals (first|rfl|omega|(simp only[bF,seval,Zg]<;>rfl))
       ·rintro x t H e hx;rcases bO with⟨h,d,i,f⟩;dsimp only at hx a;obtain⟨rfl,⟨V,K,y,l,bw⟩⟩:=hx;obtain⟨b5,aN,a⟩:=ae a;have aO:=bz ak aN;simp only[bG]at aO;have bx:=fE ak (x':=(ah.mk (aH.mk h d) (aH.mk i f))) (fo:=0) (cs:=[.int .i64 h,.sl false false d.length (an (eI .i64) d),.int .i64 i,.sl false false f.length (an (eI .i64) f)]) aN rfl (amV rfl);simp only[bG,Nat.add_zero]at bx;have aP:=bx;simp only[putCells,List.length_cons,List.length_nil,amr,Nat.reduceAdd]at aP;cases a;simp only[bF,seval,q,bw,aO,aP];apply iD;refine⟨V,y,l,?_,?_,?_,?_,?_,?_⟩;all_goals (first|rfl|omega|(simp only[bF,seval,bw]<;>rfl))
      ·cases a;simp only[bF,seval];apply kf;refine⟨rfl,⟨al,?_,?_⟩⟩;all_goals ((simp only[bF,seval,Ze]<;>rfl))
     ·rintro x t H e hx;obtain⟨ao,rfl⟩:∃z,z=bN:=⟨_,rfl⟩;dsimp only at hx a;obtain⟨rfl,⟨aq,bR⟩⟩:=hx;cases a;simp only[bF,seval,bR]
 ·clear a;have a:=bC;simp only[bF,seval];apply sp bQ a<;>intro _ a
  ·cases a;simp only[bF,seval];rw[aF];refine⟨_,rfl,?_⟩;refine⟨0,?_,?_,?_,?_⟩;all_goals (rfl)
  ·obtain⟨b6,bA,a⟩:=ae a;cases a;simp only[bF,seval,bA];rw[aF];refine⟨_,rfl,?_⟩;refine⟨0,?_,?_,?_,?_⟩;all_goals (rfl)
def Ea (r:(List ah)) (a:gV []=some r):jx (.fresh 41 4) tab bk FU Tryz.f43 none [.sl true true 0 []]=some (.fresh 41 4 r.length (an ak r),none):=by
 unfold gV at a;obtain⟨b,c,d⟩:=s7 a;subst b;apply aJ rfl ntmps43 results43;simp only[w,seval,anu]
def Eb (r:(List ah)) (a:gV []=some r):jx (.fresh 41 4) tab bk FU Tryz.f43 none [.sl true false 0 []]=some (.fresh 41 4 r.length (an ak r),none):=by
 unfold gV at a;obtain⟨b,c,d⟩:=s7 a;subst b;apply aJ rfl ntmps43 results43;simp only[w,seval,anu]
def Ec (a r:(List ah)) (c:0<a.length) (b:gV a=some r):jx (.fresh 41 4) tab bk FU Tryz.f43 none [.sl false false a.length (an ak a)]=some (.fresh 41 4 r.length (an ak r),none):=by
 unfold gV at b;have g:¬a.length=0:=by omega
 obtain⟨d,e,f⟩:=s7 b;subst d;apply aJ rfl ntmps43 results43;simp only[w,seval,c,e,f]
def tN:=ej (dM (jX ak)) (fun x:(List ah)=>gV x) (fun r:(List ah) =>.fresh 41 4 r.length (an ak r))
def zC (a:(List ah)):tN none [.sl false false a.length (an ak a)]=(gV a).map fun r:(List ah)=>(.fresh 41 4 r.length (an ak r),none):=cF _ _ _ a
def F8:ck prog 43 tN:=ck.ac8 (mode:=(.fresh 41 4)) tok bV.none mixed func43 (by kernel_rfl) ⟨by kernel_rfl,by kernel_rfl⟩ (amV (by kernel_rfl)) Ea Eb Ec
def kN (l:Option (D×Row)) (d:List D):=ej (gj (bW oh) (gj (jX ak) (gj (aI .i64) (dM (aI .i64))))) (fun x:bf×(List ah)×Int×Int=>l7 x.1 x.2.1 x.2.2.1 x.2.2.2) (fun r:ah =>.clean (.agg [.int .i64 r.bn.al,.sl false false r.bn.aa.length (an (eI .i64) r.bn.aa),.int .i64 r.bu.al,.sl false false r.bu.aa.length (an (eI .i64) r.bu.aa)])) l d
def afU {β:Type} {F:bf×(List ah)×Int×Int->Option β} {R:β->RK} (a:(List Int)) (b:(List bo)) (c:(List ah)) (d:Int) (e:Int):ej (gj (bW oh) (gj (jX ak) (gj (aI .i64) (dM (aI .i64))))) F R none [.agg [.sl false false a.length (an (eI .i64) a),.sl false false b.length (an b7 b)],.sl false false c.length (an ak c),.int .i64 d,.int .i64 e]=(F ((bf.mk a b),c,d,e)).map fun r=>(R r,none):=cF _ _ _ ((bf.mk a b),c,d,e)
def xp:Env:=(Am.ext (Am.ext bk 57 false iU) 58 false fc)
def Ka:bV prog xp:=((bV.none.add xD false).add sg false)
def Pz:=ai @w<|ai @M8<|ai @iU.eq_1<|ai @sk<|ai @fc.eq_1<|@xp.eq_1
def A2:ck prog 44 kN:=ck.iZ (mode := .clean) tok Ka mixed func44 (by kernel_rfl) (fun _ _=>rfl) (fun _=>by kernel_rfl) fun⟨h,i,j,k⟩ r a=>by
 replace a:l7 h i j k=some r:=a;apply aJ rfl ntmps44 results44;simp only[ja];unfold l7 at a;obtain⟨l,d,a⟩:=ae a;have b:=bz (eI .i64) d;simp only[bG]at b;obtain⟨m,e,a⟩:=ae a;obtain⟨n,f,a⟩:=ae a;have c:=bz ak f;simp only[bG]at c;obtain⟨o,g,a⟩:=ae a;simp only[Pz,seval,b,e,c,g];refine bP (by kernel_rfl) ?_;cases a;simp only[seval]
def lu (l:Option (D×Row)) (d:List D):=ej (gj (bW oh) (dM (jX (fL ak)))) (fun x:bf×(List (List ah))=>dW x.1 x.2) (fun r:(List (List ah))×(List ah)×Int =>.clean (.tup [.sl false false r.1.length (an (fL ak) r.1),.sl false false r.2.1.length (an ak r.2.1),.int .i64 r.2.2])) l d
def vK:Env:=(Am.ext (Am.ext (Am.ext (Am.ext (Am.ext (Am.ext (Am.ext (Am.ext bk 26 false Ce) 39 false iM) 40 false rp) 41 false wZ) 42 false pC) 43 false tN) 44 false kN) 45 false jb)
def HU:bV prog vK:=((((((((bV.none.add aad false).add xE false).add IW false).add SX false).add F6 false).add F8 false).add A2 false).add yc false)
def bh:=ai @w<|ai @aar<|ai @Ce.eq_1<|ai @iM.eq_1<|ai @afQ<|ai @rp.eq_1<|ai @ajr<|ai @wZ.eq_1<|ai @pC.eq_1<|ai @zC<|ai @afU<|ai @kN.eq_1<|ai @afR<|ai @jb.eq_1<|@vK.eq_1
def zy:ck prog 12 lu:=ck.iZ (mode := .clean) tok HU mixed func12 (by kernel_rfl) (fun _ _=>rfl) (fun _=>by kernel_rfl) fun⟨g,p1⟩ r a=>by
 replace a:dW g p1=some r:=a;apply aJ rfl ntmps12 results12;simp only[ja];unfold dW at a;obtain⟨r1,aI,a⟩:=ae a;simp only[bh,seval,aI];apply sp ax a<;>intro _ a
 ·cases a;simp only[bh,seval]
 ·obtain⟨r3,aK,a⟩:=ae a;simp only[bh,seval,aK];apply sp ax a<;>intro _ a
  ·cases a;simp only[bh,seval]
  ·obtain⟨r5,aL,a⟩:=ae a;simp only[bh,seval,aL];apply sp ax a<;>intro _ a
   ·cases a;simp only[bh,seval]
   ·obtain⟨r7,aM,a⟩:=ae a;obtain⟨r8,aN,a⟩:=ae a;simp only[bh,seval,aM,aN];refine bP (by kernel_rfl) ?_;apply sp ax a<;>intro _ a
    ·cases a;simp only[bh,seval]
    ·simp only[bh,seval];obtain⟨aO,aa,a⟩:=ae a;refine az (fun s t H e=>match s with|(h,d)=>∃M:Nat,∃C:Nat,t 1=sF (fL ak) p1∧t 2=.ptr 2 M 0∧t 4=.buf 4 C 1 0 (d).length∧t 5=sF ak r8.1∧t 54=sF b7 g.au∧t 55=sN (g.au.length:Int)∧t 56=sN h∧H 2=rV M 25 [sI g.aw,sF b7 g.au]∧H 4=rW C 27 (an (fL ak) d)) (fun o x t H e=>match o with|D=>x=.exit 0∧∃E:Nat,t 4=.buf 4 E 1 0 (D).length∧t 5=sF ak r8.1∧H 4=rW E 27 (an (fL ak) D)) aa ?_ ?_ ?_
     ·refine⟨0,0,?_,?_,?_,?_,?_,?_,?_,?_,?_⟩;all_goals (rfl)
     ·rintro⟨h,d⟩ t H e ⟨M,C,Za⟩ c a;simp only[jd]at a;simp only[bh,seval,Za];apply sp ax a<;>intro _ a
      ·obtain⟨b,ab,a⟩:=ae a;have N:=bz b7 ab;simp only[bG]at N;obtain⟨aS,ad,a⟩:=ae a;have O:=bz (fL ak) ad;simp only[bG]at O;obtain⟨aT,ag,a⟩:=ae a;simp only[bh,seval,Za,N,O,ag];obtain⟨aP,ai,a⟩:=ae a;refine az (fun s t H e=>match s with|(P,F)=>∃A:Nat,∃B:Nat,∃i:Nat,∃j:Nat,t 1=sF (fL ak) p1∧t 2=.ptr 2 A 0∧t 4=.buf 4 B 1 0 (d).length∧t 5=sF ak r8.1∧t 12=.ptr 12 i 0∧t 13=.buf 13 j 4 0 (F).length∧t 54=sF b7 g.au∧t 55=sN (g.au.length:Int)∧t 56=sN h∧t 68=sF bl b.av.aq∧t 69=sN (b.av.aq.length:Int)∧t 70=sN P∧H 2=rV A 25 [sI g.aw,sF b7 g.au]∧H 4=rW B 27 (an (fL ak) d)∧H 12=rV i 57 [sF bl b.av.aq,sF dX b.av.aG,sF (fL ak) b.av.aO,sF hZ b.bC,sI b.aC]∧H 13=rW j 41 (an ak F)) (fun o x t H e=>match o with|f=>x=.exit 2∧∃q:Nat,∃u:Nat,∃l:Nat,∃k:Nat,t 1=sF (fL ak) p1∧t 2=.ptr 2 q 0∧t 4=.buf 4 u 1 0 (d).length∧t 5=sF ak r8.1∧t 12=.ptr 12 l 0∧t 13=.buf 13 k 4 0 (f).length∧t 54=sF b7 g.au∧t 55=sN (g.au.length:Int)∧t 56=sN h∧H 2=rV q 25 [sI g.aw,sF b7 g.au]∧H 4=rW u 27 (an (fL ak) d)∧H 12=rV l 57 [sF bl b.av.aq,sF dX b.av.aG,sF (fL ak) b.av.aO,sF hZ b.bC,sI b.aC]∧H 13=rW k 41 (an ak f)) ai ?_ ?_ ?_
       ·refine⟨M,C,e+1,e+1+1,?_⟩;and_intros<;>first|rfl|(simp only[bh,seval,Za]<;>rfl)
       ·rintro⟨P,F⟩ t H e ⟨A,B,i,j,Zd⟩ c a;simp only[kq]at a;simp only[bh,seval,Zd];apply sp ax a<;>intro _ a
        ·obtain⟨aU,aj,a⟩:=ae a;have G:=bz bl aj;simp only[bG]at G;simp only[bh,seval,Zd,G];apply sp ax a<;>intro _ a
         ·obtain⟨aV,al,a⟩:=ae a;have Q:=bz hZ al;simp only[bG]at Q;obtain⟨m,ao,a⟩:=ae a;obtain⟨aW,R,a⟩:=ae a;have S:=bz ak R;simp only[bG]at S;have aq:=fE ak (x':=m) (fo:=0) (cs:=[.int .i64 m.bn.al,.sl false false m.bn.aa.length (an (eI .i64) m.bn.aa),.int .i64 m.bu.al,.sl false false m.bu.aa.length (an (eI .i64) m.bu.aa)]) R rfl (amV rfl);simp only[bG,Nat.add_zero]at aq;have T:=aq;simp only[putCells,List.length_cons,List.length_nil,amr,Nat.reduceAdd]at T;cases a;simp only[bh,seval,Zd,G,Q,ao,S,T];apply iD;refine⟨A,B,i,j,?_⟩;and_intros<;>first|rfl|(simp only[bh,seval,Zd]<;>rfl)
         ·cases a;simp only[bh,seval,Zd];apply iD;refine⟨A,B,i,j,?_⟩;and_intros<;>first|rfl|(simp only[bh,seval,Zd]<;>rfl)
        ·cases a;simp only[bh,seval];apply kf;refine⟨rfl,⟨A,B,i,j,?_,?_,?_,?_,?_,?_,?_,?_,?_,?_,?_,?_,?_⟩⟩;all_goals ((simp only[bh,seval,Zd]<;>rfl))
       ·rintro x t H e U;obtain⟨f,rfl⟩:∃z,z=aP:=⟨_,rfl⟩;dsimp only at U a;obtain⟨rfl,⟨q,u,l,k,ar⟩⟩:=U;simp only[bh,seval,ar];obtain⟨aQ,au,a⟩:=ae a;refine az (fun s t H e=>match s with|(V,I)=>∃J:Nat,∃K:Nat,∃v:Nat,∃w:Nat,∃W:Bool,t 1=sF (fL ak) p1∧t 2=.ptr 2 J 0∧t 4=.buf 4 K 1 0 (d).length∧t 5=sF ak r8.1∧t 13=.buf 13 v 4 0 (f).length∧t 17=.buf 17 w 4 0 (I).length∧t 54=sF b7 g.au∧t 55=sN (g.au.length:Int)∧t 56=sN h∧t 97=sF (fL ak) b.av.aO∧t 98=sN (b.av.aO.length:Int)∧t 99=sN V∧H 2=rV J 25 [sI g.aw,sF b7 g.au]∧H 4=rW K 27 (an (fL ak) d)∧H 13=some ⟨v,41,an ak f,W,true,false⟩∧H 17=rW w 41 (an ak I)) (fun o x t H e=>match o with|n=>x=.exit 4∧∃y:Nat,∃L:Nat,∃p:Nat,t 1=sF (fL ak) p1∧t 2=.ptr 2 y 0∧t 4=.buf 4 L 1 0 (d).length∧t 5=sF ak r8.1∧t 17=.buf 17 p 4 0 (n).length∧t 54=sF b7 g.au∧t 55=sN (g.au.length:Int)∧t 56=sN h∧H 2=rV y 25 [sI g.aw,sF b7 g.au]∧H 4=rW L 27 (an (fL ak) d)∧H 17=rW p 41 (an ak n)) au ?_ ?_ ?_
        ·refine⟨q,u,k,e,false,?_⟩;and_intros<;>first|rfl|(simp only[bh,seval,ar]<;>rfl)
        ·rintro⟨V,I⟩ t H e ⟨J,K,v,w,W,Ze⟩ c a;simp only[kr]at a;simp only[bh,seval,Ze];apply sp ax a<;>intro _ a
         ·obtain⟨aX,av,a⟩:=ae a;have X:=bz (fL ak) av;simp only[bG]at X;obtain⟨aY,aw,a⟩:=ae a;obtain⟨aZ,ay,a⟩:=ae a;obtain⟨aA,Y,aB,aC⟩:=js ak ay;simp only[bG]at Y;cases a;simp only[bh,seval,Ze,X,aw,aA,Y,aB,aC];apply iD;refine⟨J,K,v,e+1+1,true,?_⟩;and_intros<;>first|rfl|(simp only[bh,seval,Ze]<;>rfl)
         ·cases a;simp only[bh,seval];apply kf;refine⟨rfl,⟨J,K,w,?_,?_,?_,?_,?_,?_,?_,?_,?_,?_,?_⟩⟩;all_goals ((simp only[bh,seval,Ze]<;>rfl))
        ·rintro x t H e U;obtain⟨n,rfl⟩:∃z,z=aQ:=⟨_,rfl⟩;dsimp only at U a;obtain⟨rfl,⟨y,L,p,aD⟩⟩:=U;obtain⟨a1,aE,a⟩:=ae a;obtain⟨aF,Z,aG,aH⟩:=js (fL ak) aE;simp only[bG]at Z;cases a;simp only[bh,seval,aD,aF,Z,aG,aH];apply iD;refine⟨y,e,?_⟩;and_intros<;>first|rfl|(simp only[bh,seval,aD]<;>rfl)
      ·cases a;simp only[bh,seval];apply kf;refine⟨rfl,⟨C,?_,?_,?_⟩⟩;all_goals ((simp only[bh,seval,Za]<;>rfl))
     ·rintro x t H e U;obtain⟨D,rfl⟩:∃z,z=aO:=⟨_,rfl⟩;dsimp only at U a;obtain⟨rfl,⟨E,aR⟩⟩:=U;cases a;simp only[bh,seval,aR]
def nZ (l:Option (D×Row)) (d:List D):=ej (dM (bW ak)) (fun x:ah=>rE x) (fun r:Bool =>.clean (.bool r)) l d
def sG:Env:=(Am.ext bk 54 false aV)
def D1:bV prog sG:=(bV.none.add dS false)
def Gg:=ai @w<|ai @iX<|ai @aV.eq_1<|@sG.eq_1
def Eg:ck prog 53 nZ:=ck.iZ (mode := .clean) tok D1 mixed func53 (by kernel_rfl) (fun _ _=>rfl) (fun _=>by kernel_rfl) fun c r a=>by
 replace a:rE c=some r:=a;apply aJ rfl ntmps53 results53;simp only[ja];unfold rE at a;obtain⟨d,b,a⟩:=ae a;cases a;simp only[Gg,seval,b]
def eG (l:Option (D×Row)) (d:List D):=ej (gj (jX ak) (dM (PE 53))) (fun x:(List ah)×Unit=>fa x.1) (fun r:Int =>.clean (.int .i64 r)) l d
def afV {β:Type} {F:(List ah)×Unit->Option β} {R:β->RK} (a:(List ah)):ej (gj (jX ak) (dM (PE 53))) F R none [.sl false false a.length (an ak a),.fn 53]=(F (a,())).map fun r=>(R r,none):=cF _ _ _ (a,())
def gz:Env:=(Am.ext bk 53 false nZ)
def pq:bV prog gz:=(bV.none.add Eg false)
def bL:=ai @w<|ai @iX<|ai @nZ.eq_1<|@gz.eq_1
def pt:ck prog 102 eG:=ck.iZ (mode := .clean) tok pq mixed func102 (by kernel_rfl) (fun _ _=>rfl) (fun _=>by kernel_rfl) fun⟨h,_⟩ r a=>by
 replace a:fa h=some r:=a;apply aJ rfl ntmps102 results102;simp only[ja];unfold fa at a;simp only[bL,seval];obtain⟨l,i,a⟩:=ae a;refine az (fun s t H e=>match s with|b=>t 0=sF ak h∧t 1=.fn 53∧t 7=sN (h.length:Int)∧t 8=sN b) (fun o x t H e=>match o with|(.inl _)=>x=.exit 0|(.inr r)=>x=.ret∧gG .clean tab none [.tmp 4] ⟨t,EH H,e⟩=some (.clean (.int .i64 r),none)) i ?_ ?_ ?_
 ·refine⟨?_,?_,?_,?_⟩;all_goals (rfl)
 ·rintro b t H e f c a;simp only[jw]at a;simp only[bL,seval,f];apply sp ax a<;>intro _ a
  ·obtain⟨n,j,a⟩:=ae a;have d:=bz ak j;simp only[bG]at d;obtain⟨p,k,a⟩:=ae a;simp only[bL,seval,f,d,k];apply sp ax a<;>intro _ a
   ·cases a;simp only[bL,seval];refine uq ⟨rfl,?_⟩;simp only[bL,seval]
   ·cases a;simp only[bL,seval,f];apply iD;and_intros<;>first|rfl|(simp only[bL,seval,f]<;>rfl)
  ·cases a;simp only[bL,seval];apply kf;exact rfl
 ·rintro x t H e g;rcases l with _|q
  ·dsimp only at g a;subst g;cases a;simp only[bL,seval]
  ·dsimp only at g a;obtain⟨rfl,m⟩:=g;cases a;simp only[bd,bj,cL,cR];exact m
def dN (l:Option (D×Row)) (d:List D):=ej (gj (jX ak) (dM (PE 53))) (fun x:(List ah)×Unit=>ey x.1) (fun r:Bool =>.clean (.bool r)) l d
def fw:Env:=(Am.ext bk 102 false eG)
def nC:bV prog fw:=(bV.none.add pt false)
def nX:=ai @w<|ai @afV<|ai @eG.eq_1<|@fw.eq_1
def nF:ck prog 52 dN:=ck.iZ (mode := .clean) tok nC mixed func52 (by kernel_rfl) (fun _ _=>rfl) (fun _=>by kernel_rfl) fun⟨c,_⟩ r a=>by
 replace a:ey c=some r:=a;apply aJ rfl ntmps52 results52;simp only[ja];unfold ey at a;obtain⟨d,b,a⟩:=ae a;cases a;simp only[nX,seval,b]
def rn (l:Option (D×Row)) (d:List D):=ej (gj (bW oh) (dM (jX ak))) (fun x:bf×(List ah)=>u5 x.1 x.2) (fun r:(List ah) =>.clean (.sl false false r.length (an ak r))) l d
def aju {β:Type} {F:bf×(List ah)->Option β} {R:β->RK} (a:(List Int)) (b:(List bo)) (c:(List ah)):ej (gj (bW oh) (dM (jX ak))) F R none [.agg [.sl false false a.length (an (eI .i64) a),.sl false false b.length (an b7 b)],.sl false false c.length (an ak c)]=(F ((bf.mk a b),c)).map fun r=>(R r,none):=cF _ _ _ ((bf.mk a b),c)
def vL:Env:=(Am.ext (Am.ext (Am.ext (Am.ext bk 39 false iM) 44 false kN) 52 false dN) 55 false gw)
def HV:bV prog vL:=((((bV.none.add xE false).add A2 false).add nF false).add jj false)
def bt:=ai @w<|ai @aar<|ai @iM.eq_1<|ai @afU<|ai @kN.eq_1<|ai @afV<|ai @dN.eq_1<|ai @dU<|@vL.eq_1
def IV:ck prog 16 rn:=ck.iZ (mode := .clean) tok HV mixed func16 (by kernel_rfl) (fun _ _=>rfl) (fun _=>by kernel_rfl) fun⟨d,O⟩ r a=>by
 replace a:u5 d O=some r:=a;apply aJ rfl ntmps16 results16;simp only[ja];unfold u5 at a;obtain⟨r1,au,a⟩:=ae a;simp only[bt,seval,au];obtain⟨o2,av,a⟩:=ae a;refine cQ 0 (fun s t H e=>match s with|q=>∃h:Nat,t 1=sF ak O∧t 2=.ptr 2 h 0∧t 33=.bool q∧H 2=rV h 25 [sI d.aw,sF b7 d.au]) (fun s=>s=o2) ?_ ?_
 ·rintro q t H e ⟨h,P⟩ rfl;try dsimp only at a
  simp only[bt,seval,P];apply sp ax a<;>intro _ a
  ·cases a;simp only[bt,seval]
  ·obtain⟨r4,aw,a⟩:=ae a;simp only[bt,seval,P,aw];obtain⟨ay,S,a⟩:=ae a;refine az (fun s t H e=>match s with|(i,Q)=>∃u:Nat,∃v:Nat,t 1=sF ak O∧t 2=.ptr 2 u 0∧t 7=.buf 7 v 1 0 (Q).length∧t 38=sF b7 d.au∧t 39=sN (d.au.length:Int)∧t 40=sN i∧H 2=rV u 25 [sI d.aw,sF b7 d.au]∧H 7=rW v 3 (an (eI .i64) Q)) (fun o x t H e=>match o with|b=>x=.exit 0∧∃j:Nat,∃k:Nat,t 1=sF ak O∧t 2=.ptr 2 j 0∧t 7=.buf 7 k 1 0 (b).length∧H 2=rV j 25 [sI d.aw,sF b7 d.au]∧H 7=rW k 3 (an (eI .i64) b)) S ?_ ?_ ?_
   ·refine⟨h,e,?_⟩;and_intros<;>first|rfl|(simp only[bt,seval,P]<;>rfl)
   ·rintro⟨i,Q⟩ t H e ⟨u,v,Zb⟩ c a;simp only[yL]at a;simp only[bt,seval,Zb];apply sp ax a<;>intro _ a
    ·obtain⟨T,U,a⟩:=ae a;have F:=bz b7 U;simp only[bG]at F;simp only[bt,seval,Zb,F];obtain⟨aA,V,a⟩:=ae a;refine az (fun s t H e=>match s with|(G,R)=>∃w:Nat,∃y:Nat,t 1=sF ak O∧t 2=.ptr 2 w 0∧t 7=.buf 7 y 1 0 (R).length∧t 38=sF b7 d.au∧t 39=sN (d.au.length:Int)∧t 40=sN i∧t 45=sF hZ T.bC∧t 46=sN (T.bC.length:Int)∧t 47=sN G∧H 2=rV w 25 [sI d.aw,sF b7 d.au]∧H 7=rW y 3 (an (eI .i64) R)) (fun o x t H e=>match o with|A=>x=.exit 2∧∃l:Nat,∃m:Nat,t 1=sF ak O∧t 2=.ptr 2 l 0∧t 7=.buf 7 m 1 0 (A).length∧t 38=sF b7 d.au∧t 39=sN (d.au.length:Int)∧t 40=sN i∧H 2=rV l 25 [sI d.aw,sF b7 d.au]∧H 7=rW m 3 (an (eI .i64) A)) V ?_ ?_ ?_
     ·refine⟨u,v,?_⟩;and_intros<;>first|rfl|(simp only[bt,seval,Zb]<;>rfl)
     ·rintro⟨G,R⟩ t H e ⟨w,y,Zd⟩ c a;simp only[yM]at a;simp only[bt,seval,Zd];apply sp ax a<;>intro _ a
      ·obtain⟨W,X,a⟩:=ae a;have I:=bz hZ X;simp only[bG]at I;obtain⟨Y,B,a⟩:=ae a;have n:=bz (eI .i64) B;simp only[bG]at n;have n:=bz (eI .i64) B;simp only[bG]at n;have Z:=fE (eI .i64) (x':=IntKind.i64.wrap (Y-W.aB)) (fo:=0) (cs:=[.int .i64 (IntKind.i64.wrap (Y-W.aB))]) B rfl (amV rfl);simp only[bG,Nat.add_zero]at Z;have J:=Z;simp only[putCells,List.length_cons,List.length_nil,amr]at J;simp only[bt,seval,Zd,I,n,J];refine bP (by kernel_rfl) ?_;cases a;apply iD;refine⟨w,y,?_⟩;and_intros<;>first|rfl|(simp only[bt,seval,Zd]<;>rfl)
      ·cases a;simp only[bt,seval];apply kf;refine⟨rfl,⟨w,y,?_,?_,?_,?_,?_,?_,?_,?_⟩⟩;all_goals ((simp only[bt,seval,Zd]<;>rfl))
     ·rintro x t H e K;obtain⟨A,rfl⟩:∃z,z=aA:=⟨_,rfl⟩;dsimp only at K a;obtain⟨rfl,⟨l,m,aa⟩⟩:=K;cases a;simp only[bt,seval,aa];apply iD;refine⟨l,m,?_⟩;and_intros<;>first|rfl|(simp only[bt,seval,aa]<;>rfl)
    ·cases a;simp only[bt,seval];apply kf;refine⟨rfl,⟨u,v,?_,?_,?_,?_,?_⟩⟩;all_goals ((simp only[bt,seval,Zb]<;>rfl))
   ·rintro x t H e K;obtain⟨b,rfl⟩:∃z,z=ay:=⟨_,rfl⟩;dsimp only at K a;obtain⟨rfl,⟨j,k,ab⟩⟩:=K;simp only[bt,seval,ab];obtain⟨aB,ad,a⟩:=ae a;refine az (fun s t H e=>match s with|(L,C)=>∃D:Nat,∃E:Nat,∃p:Nat,t 1=sF ak O∧t 2=.ptr 2 D 0∧t 12=.buf 12 p 4 0 (C).length∧t 62=.buf 7 E 1 0 (b).length∧t 63=sN ((b).length:Int)∧t 64=sN L∧H 2=rV D 25 [sI d.aw,sF b7 d.au]∧H 7=rW E 3 (an (eI .i64) b)∧H 12=rW p 41 (an ak C)) (fun o x t H e=>match o with|f=>x=.exit 4∧∃g:Nat,t 12=.buf 12 g 4 0 (f).length∧H 12=rW g 41 (an ak f)) ad ?_ ?_ ?_
    ·refine⟨j,k,e,?_⟩;and_intros<;>first|rfl|(simp only[bt,seval,ab]<;>rfl)
    ·rintro⟨L,C⟩ t H e ⟨D,E,p,Ze⟩ c a;simp only[yN]at a;simp only[bt,seval,Ze];apply sp ax a<;>intro _ a
     ·obtain⟨aD,ag,a⟩:=ae a;have M:=bz (eI .i64) ag;simp only[bG]at M;obtain⟨aE,ai,a⟩:=ae a;obtain⟨aG,aj,a⟩:=ae a;obtain⟨al,N,ao,aq⟩:=js ak aj;simp only[bG]at N;cases a;simp only[bt,seval,Ze,M,ai,al,N,ao,aq];apply iD;refine⟨D,E,e+1+1,?_⟩;and_intros<;>first|rfl|(simp only[bt,seval,Ze]<;>rfl)
     ·cases a;simp only[bt,seval];apply kf;refine⟨rfl,⟨p,?_,?_⟩⟩;all_goals ((simp only[bt,seval,Ze]<;>rfl))
    ·rintro x t H e K;obtain⟨f,rfl⟩:∃z,z=aB:=⟨_,rfl⟩;dsimp only at K a;obtain⟨rfl,⟨g,aC⟩⟩:=K;cases a;simp only[bt,seval,aC]
 ·clear a;have a:=av;simp only[bt,seval];apply sp bQ a<;>intro _ a
  ·cases a;simp only[bt,seval];rw[aF];refine⟨_,rfl,?_⟩;refine⟨0,?_,?_,?_,?_⟩;all_goals (rfl)
  ·simp only[bt,seval];apply sp bQ a<;>intro _ a
   ·cases a;simp only[bt,seval];rw[aF];refine⟨_,rfl,?_⟩;refine⟨0,?_,?_,?_,?_⟩;all_goals (rfl)
   ·obtain⟨aH,ar,a⟩:=ae a;cases a;simp only[bt,seval,ar];rw[aF];refine⟨_,rfl,?_⟩;refine⟨0,?_,?_,?_,?_⟩;all_goals (rfl)
def rA (l:Option (D×Row)) (d:List D):=ej (gj (bW je) (dM (bW je))) (fun x:aH×aH=>sh x.1 x.2) (fun r:Bool =>.clean (.bool r)) l d
def I2:ck prog 101 rA:=ck.iZ (mode := .clean) tok bV.none mixed func101 (by kernel_rfl) (fun _ _=>rfl) (fun _=>by kernel_rfl) fun⟨j,k⟩ r a=>by
 replace a:sh j k=some r:=a;apply aJ rfl ntmps101 results101;simp only[ja];unfold sh at a;simp only[w,seval];obtain⟨A,v,a⟩:=ae a;refine cQ 0 (fun s t H e=>match s with|f=>∃b:Nat,∃d:Nat,t 2=.ptr 2 b 0∧t 3=.ptr 3 d 0∧t 19=.bool f∧H 2=rV b 39 [sN j.al,sI j.aa]∧H 3=rV d 39 [sN k.al,sI k.aa]) (fun s=>s=A) ?_ ?_
 ·rintro f t H e ⟨b,d,l⟩ rfl;try dsimp only at a
  simp only[w,seval,l];apply sp ax a<;>intro _ a
  ·cases a;simp only[w,seval]
  ·simp only[w,seval];obtain⟨B,y,a⟩:=ae a;refine az (fun s t H e=>match s with|m=>∃g:Nat,∃h:Nat,t 2=.ptr 2 g 0∧t 3=.ptr 3 h 0∧t 5=sN m∧H 2=rV g 39 [sN j.al,sI j.aa]∧H 3=rV h 39 [sN k.al,sI k.aa]) (fun o x t H e=>match o with|(.inl _)=>x=.exit 0|(.inr r)=>x=.ret∧gG .clean tab none [.tmp 4] ⟨t,EH H,e⟩=some (.clean (.bool r),none)) y ?_ ?_ ?_
   ·refine⟨b,d,?_⟩;and_intros<;>first|rfl|(simp only[w,seval,l]<;>rfl)
   ·rintro m t H e ⟨g,h,q⟩ c a;simp only[zD]at a;simp only[w,seval,q];apply sp ax a<;>intro _ a
    ·obtain⟨E,z,a⟩:=ae a;have n:=bz (eI .i64) z;simp only[bG]at n;obtain⟨C,p,a⟩:=ae a;have i:=bz (eI .i64) p;simp only[bG]at i;simp only[w,seval,q,n,i];refine bP (by kernel_rfl) ?_;apply sp ax a<;>intro _ a
     ·cases a;simp only[w,seval];refine uq ⟨rfl,?_⟩;simp only[w,seval]
     ·cases a;simp only[w,seval,q];apply iD;refine⟨g,h,?_⟩;and_intros<;>first|rfl|(simp only[w,seval,q]<;>rfl)
    ·cases a;simp only[w,seval];apply kf;exact rfl
   ·rintro x t H e u;rcases B with _|F
    ·dsimp only at u a;subst u;cases a;simp only[w,seval]
    ·dsimp only at u a;obtain⟨rfl,D⟩:=u;cases a;simp only[bd,bj,cL,cR];exact D
 ·clear a;have a:=v;simp only[w,seval];apply sp bQ a<;>intro _ a
  ·cases a;simp only[w,seval];rw[aF];refine⟨_,rfl,?_⟩;refine⟨0,0,?_,?_,?_,?_,?_⟩;all_goals (rfl)
  ·cases a;simp only[w,seval];rw[aF];refine⟨_,rfl,?_⟩;refine⟨0,0,?_,?_,?_,?_,?_⟩;all_goals (rfl)
def wY (l:Option (D×Row)) (d:List D):=ej (gj (bW ak) (dM (bW ak))) (fun x:ah×ah=>Dc x.1 x.2) (fun r:Bool =>.clean (.bool r)) l d
def BD:Env:=(Am.ext bk 101 false rA)
def Ru:bV prog BD:=(bV.none.add I2 false)
def Ca:=ai @w<|ai @M9<|ai @rA.eq_1<|@BD.eq_1
def SU:ck prog 51 wY:=ck.iZ (mode := .clean) tok Ru mixed func51 (by kernel_rfl) (fun _ _=>rfl) (fun _=>by kernel_rfl) fun⟨d,e⟩ r a=>by
 replace a:Dc d e=some r:=a;apply aJ rfl ntmps51 results51;simp only[ja];unfold Dc at a;obtain⟨f,b,a⟩:=ae a;simp only[Ca,seval,b];apply sp gB a<;>intro _ a
 ·obtain⟨g,c,a⟩:=ae a;cases a;simp only[Ca,seval,c]
 ·cases a;simp only[Ca,seval]
def A9 (l:Option (D×Row)) (d:List D):=ej (gj (jX ak) (dM (jX ak))) (fun x:(List ah)×(List ah)=>uH x.1 x.2) (fun r:Bool =>.clean (.bool r)) l d
def BE:Env:=(Am.ext bk 51 false wY)
def Rv:bV prog BE:=(bV.none.add SU false)
def jq:=ai @w<|ai @sk<|ai @wY.eq_1<|@BE.eq_1
def SV:ck prog 15 A9:=ck.iZ (mode := .clean) tok Rv mixed func15 (by kernel_rfl) (fun _ _=>rfl) (fun _=>by kernel_rfl) fun⟨m,n⟩ r a=>by
 replace a:uH m n=some r:=a;apply aJ rfl ntmps15 results15;simp only[ja];unfold uH at a;simp only[jq,seval];apply sp ax a<;>intro _ a
 ·cases a;simp only[jq,seval]
 ·simp only[jq,seval];obtain⟨p,k,a⟩:=ae a;refine az (fun s t H e=>match s with|d=>t 0=sF ak m∧t 1=sF ak n∧t 5=sN d) (fun o x t H e=>match o with|(.inl _)=>x=.exit 0|(.inr r)=>x=.ret∧gG .clean tab none [.tmp 4] ⟨t,EH H,e⟩=some (.clean (.bool r),none)) k ?_ ?_ ?_
  ·refine⟨?_,?_,?_⟩;all_goals (rfl)
  ·rintro d t H e i c a;simp only[FD]at a;simp only[jq,seval,i];apply sp ax a<;>intro _ a
   ·obtain⟨w,l,a⟩:=ae a;have f:=bz ak l;simp only[bG]at f;obtain⟨q,g,a⟩:=ae a;have b:=bz ak g;simp only[bG]at b;obtain⟨u,h,a⟩:=ae a;simp only[jq,seval,i,f,b,h];refine bP (by kernel_rfl) ?_;apply sp ax a<;>intro _ a
    ·cases a;simp only[jq,seval];refine uq ⟨rfl,?_⟩;simp only[jq,seval]
    ·cases a;simp only[jq,seval,i];apply iD;and_intros<;>first|rfl|(simp only[jq,seval,i]<;>rfl)
   ·cases a;simp only[jq,seval];apply kf;exact rfl
  ·rintro x t H e j;rcases p with _|y
   ·dsimp only at j a;subst j;cases a;simp only[jq,seval]
   ·dsimp only at j a;obtain⟨rfl,v⟩:=j;cases a;simp only[bd,bj,cL,cR];exact v
def wW (l:Option (D×Row)) (d:List D):=ej (as0) (fun x:Unit=>zp) (fun r:Bool =>.clean (.bool r)) l d
def BY (a:(List ah)) (b:(List ah)):A9 none [.sl false false a.length (an ak a),.sl false false b.length (an ak b)]=(uH a b).map fun r:Bool=>(.clean (.bool r),none):=cF _ _ _ (a,b)
def BB:Env:=(Am.ext (Am.ext (Am.ext (Am.ext (Am.ext bk 12 false lu) 15 false A9) 16 false rn) 18 false tM) 37 false rq)
def Rs:bV prog BB:=(((((bV.none.add zy false).add SV false).add IV false).add ML false).add IX false)
def jo:=ai @w<|ai @afQ<|ai @lu.eq_1<|ai @aju<|ai @rn.eq_1<|ai @M8<|ai @tM.eq_1<|ai @sh9<|ai @rq.eq_1<|@BB.eq_1
def SR:ck prog 9 wW:=ck.iZ (mode := .clean) tok Rs mixed func9 (by kernel_rfl) (fun _ _=>rfl) (fun _=>by kernel_rfl) fun _ r a=>by
 replace a:zp=some r:=a;apply aJ rfl ntmps9 results9;simp only[ja];unfold zp at a;obtain⟨J,p,a⟩:=ae a;obtain⟨q,u,a⟩:=ae a;obtain⟨B,v,a⟩:=ae a;simp only[jo,seval,p,u,v];obtain⟨F,w,a⟩:=ae a;refine cQ 0 (fun s t H e=>match s with|b=>t 3=sF (fL ak) q.1∧t 4=sF ak q.2.1∧t 6=sF ak B∧t 27=.bool b) (fun s=>s=F) ?_ ?_
 ·rintro b t H e c rfl;try dsimp only at a
  simp only[jo,seval,c];apply sp ax a<;>intro _ a
  ·cases a;simp only[jo,seval]
  ·obtain⟨C,h,a⟩:=ae a;obtain⟨D,i,a⟩:=ae a;have E:=BY q.2.1 ([C,D]);simp only[ch,bG,List.length_cons,amr,Nat.reduceAdd]at E;obtain⟨K,x,a⟩:=ae a;simp only[jo,seval,c,h,i,E,x];apply sp Gx a<;>intro _ a
   ·obtain⟨y,d,a⟩:=ae a;have f:=bz (fL ak) d;simp only[bG]at f;have g:=aff (fL ak) d;simp only[bG]at g;obtain⟨z,j,a⟩:=ae a;have k:=BY y ([C,z]);simp only[ch,bG,List.length_cons,amr,Nat.reduceAdd]at k;obtain⟨G,l,a⟩:=ae a;simp only[jo,seval,c,h,f,g,j,k,l];apply sp Gx a<;>intro _ a
    ·obtain⟨A,m,a⟩:=ae a;have n:=BY B ([D,A]);simp only[ch,bG,List.length_cons,amr,Nat.reduceAdd]at n;obtain⟨I,o,a⟩:=ae a;simp only[jo,seval,c,i,m,n,o];refine bP (by kernel_rfl) ?_;cases a;simp only[seval]
    ·simp only[jo,seval];refine bP (by kernel_rfl) ?_;cases a;simp only[seval]
   ·simp only[jo,seval];refine bP (by kernel_rfl) ?_;cases a;simp only[seval]
 ·clear a;have a:=w;simp only[jo,seval];apply sp bQ a<;>intro _ a
  ·cases a;simp only[jo,seval];rw[aF];refine⟨_,rfl,?_⟩;refine⟨?_,?_,?_,?_⟩;all_goals (rfl)
  ·cases a;simp only[jo,seval];rw[aF];refine⟨_,rfl,?_⟩;refine⟨?_,?_,?_,?_⟩;all_goals (rfl)
def lv (l:Option (D×Row)) (d:List D):=ej (gj (bW ak) (dM (aI .i64))) (fun x:ah×Int=>vv x.1 x.2) (fun r:Bool =>.clean (.bool r)) l d
def aat {β:Type} {F:ah×Int->Option β} {R:β->RK} (c:Int) (a:(List Int)) (d:Int) (b:(List Int)) (e:Int):ej (gj (bW ak) (dM (aI .i64))) F R none [.agg [.int .i64 c,.sl false false a.length (an (eI .i64) a),.int .i64 d,.sl false false b.length (an (eI .i64) b)],.int .i64 e]=(F ((ah.mk (aH.mk c a) (aH.mk d b)),e)).map fun r=>(R r,none):=cF _ _ _ ((ah.mk (aH.mk c a) (aH.mk d b)),e)
def BT:ck prog 38 lv:=ck.iZ (mode := .clean) tok bV.none mixed func38 (by kernel_rfl) (fun _ _=>rfl) (fun _=>by kernel_rfl) fun⟨b,c⟩ r a=>by
 replace a:vv b c=some r:=a;apply aJ rfl ntmps38 results38;simp only[ja];unfold vv at a;simp only[w,seval];apply sp gB a<;>intro _ a
 ·cases a;simp only[w,seval]
 ·cases a;simp only[w,seval]
def rB (l:Option (D×Row)) (d:List D):=ej (dM (bW vE)) (fun x:dR=>pf x) (fun r:Bool =>.clean (.bool r)) l d
def vS:Env:=(Am.ext bk 38 false lv)
def H4:bV prog vS:=(bV.none.add BT false)
def bx:=ai @w<|ai @aat<|ai @lv.eq_1<|@vS.eq_1
def I3:ck prog 32 rB:=ck.iZ (mode := .clean) tok H4 mixed func32 (by kernel_rfl) (fun _ _=>rfl) (fun _=>by kernel_rfl) fun g r a=>by
 replace a:pf g=some r:=a;apply aJ rfl ntmps32 results32;simp only[ja];unfold pf at a;simp only[bx,seval];obtain⟨G,C,a⟩:=ae a;refine cQ 0 (fun s t H e=>match s with|h=>∃d:Nat,t 1=.ptr 1 d 0∧t 20=.bool h∧H 1=rV d 54 [sF bl g.aq,sF dX g.aG,sF (fL ak) g.aO]) (fun s=>s=G) ?_ ?_
 ·rintro h t H e ⟨d,p⟩ rfl;try dsimp only at a
  simp only[bx,seval,p];apply sp ax a<;>intro _ a
  ·cases a;simp only[bx,seval]
  ·simp only[bx,seval];obtain⟨D,q,a⟩:=ae a;refine az (fun s t H e=>match s with|k=>∃l:Nat,t 1=.ptr 1 l 0∧t 3=sN k∧H 1=rV l 54 [sF bl g.aq,sF dX g.aG,sF (fL ak) g.aO]) (fun o x t H e=>match o with|(.inl _)=>x=.exit 0|(.inr r)=>x=.ret∧gG .clean tab none [.tmp 2] ⟨t,EH H,e⟩=some (.clean (.bool r),none)) q ?_ ?_ ?_
   ·refine⟨d,?_⟩;and_intros<;>first|rfl|(simp only[bx,seval,p]<;>rfl)
   ·rintro k t H e ⟨l,E⟩ c a;simp only[qe]at a;simp only[bx,seval,E];apply sp ax a<;>intro _ a
    ·obtain⟨I,i,a⟩:=ae a;have b:=bz (fL ak) i;simp only[bG]at b;simp only[bx,seval,E,b];apply sp ax a<;>intro _ a
     ·cases a;simp only[bx,seval];refine uq ⟨rfl,?_⟩;simp only[bx,seval]
     ·simp only[bx,seval];obtain⟨F,u,a⟩:=ae a;refine az (fun s t H e=>match s with|v=>∃j:Nat,t 1=.ptr 1 j 0∧t 3=sN k∧t 4=sN v∧H 1=rV j 54 [sF bl g.aq,sF dX g.aG,sF (fL ak) g.aO]) (fun o x t H e=>match o with|(.inl _)=>x=.exit 2∧∃f:Nat,t 1=.ptr 1 f 0∧t 3=sN k∧H 1=rV f 54 [sF bl g.aq,sF dX g.aG,sF (fL ak) g.aO]|(.inr r)=>x=.ret∧gG .clean tab none [.tmp 2] ⟨t,EH H,e⟩=some (.clean (.bool r),none)) u ?_ ?_ ?_
      ·refine⟨l,?_⟩;and_intros<;>first|rfl|(simp only[bx,seval,E]<;>rfl)
      ·rintro v t H e ⟨j,w⟩ c a;simp only[fB]at a;have b:=bz (fL ak) i;simp only[bG]at b;simp only[bx,seval,w,b];apply sp ax a<;>intro _ a
       ·have b:=bz (fL ak) i;simp only[bG]at b;obtain⟨J,y,a⟩:=ae a;have n:=bz ak y;simp only[bG]at n;obtain⟨K,z,a⟩:=ae a;simp only[bx,seval,w,b,n,z];apply sp ax a<;>intro _ a
        ·cases a;simp only[bx,seval];refine uq ⟨rfl,?_⟩;simp only[bx,seval]
        ·cases a;simp only[bx,seval,w];apply iD;refine⟨j,?_⟩;and_intros<;>first|rfl|(simp only[bx,seval,w]<;>rfl)
       ·cases a;simp only[bx,seval];apply kf;refine⟨rfl,⟨j,?_,?_,?_⟩⟩;all_goals ((simp only[bx,seval,w]<;>rfl))
      ·rintro x t H e m;rcases F with _|rd
       ·dsimp only at m a;obtain⟨rfl,⟨f,A⟩⟩:=m;cases a;simp only[bx,seval,A];apply iD;refine⟨f,?_⟩;and_intros<;>first|rfl|(simp only[bx,seval,A]<;>rfl)
       ·dsimp only at m a;obtain⟨rfl,B⟩:=m;cases a;simp only[bd,bj,cL];apply uq;first|exact⟨rfl,B⟩|(simp only[bx,seval]at B;exact⟨rfl,B⟩)
    ·cases a;simp only[bx,seval];apply kf;exact rfl
   ·rintro x t H e m;rcases D with _|L
    ·dsimp only at m a;subst m;cases a;simp only[bx,seval]
    ·dsimp only at m a;obtain⟨rfl,B⟩:=m;cases a;simp only[bd,bj,cL,cR];exact B
 ·clear a;have a:=C;simp only[bx,seval];apply sp bQ a<;>intro _ a
  ·cases a;simp only[bx,seval];rw[aF];refine⟨_,rfl,?_⟩;refine⟨0,?_,?_,?_⟩;all_goals (rfl)
  ·simp only[bx,seval];apply sp bQ a<;>intro _ a
   ·cases a;simp only[bx,seval];rw[aF];refine⟨_,rfl,?_⟩;refine⟨0,?_,?_,?_⟩;all_goals (rfl)
   ·cases a;simp only[bx,seval];rw[aF];refine⟨_,rfl,?_⟩;refine⟨0,?_,?_,?_⟩;all_goals (rfl)
def n9 (l:Option (D×Row)) (d:List D):=ej (dM (jX aQ)) (fun x:(List aY)=>ly x) (fun r:Bool =>.clean (.bool r)) l d
def Tz {β:Type} {F:(List aY)->Option β} {R:β->RK} (a:(List aY)):ej (dM (jX aQ)) F R none [.sl false false a.length (an aQ a)]=(F (a)).map fun r=>(R r,none):=cF _ _ _ (a)
def sJ:Env:=(Am.ext bk 38 false lv)
def D3:bV prog sJ:=(bV.none.add BT false)
def cB:=ai @w<|ai @aat<|ai @lv.eq_1<|@sJ.eq_1
def Ei:ck prog 33 n9:=ck.iZ (mode := .clean) tok D3 mixed func33 (by kernel_rfl) (fun _ _=>rfl) (fun _=>by kernel_rfl) fun j r a=>by
 replace a:ly j=some r:=a;apply aJ rfl ntmps33 results33;simp only[ja];unfold ly at a;simp only[cB,seval];obtain⟨q,m,a⟩:=ae a;refine az (fun s t H e=>match s with|g=>t 0=sF aQ j∧t 3=sN g) (fun o x t H e=>match o with|(.inl _)=>x=.exit 0∧t 0=sF aQ j|(.inr r)=>x=.ret∧gG .clean tab none [.tmp 2] ⟨t,EH H,e⟩=some (.clean (.bool r),none)) m ?_ ?_ ?_
 ·refine⟨?_,?_⟩;all_goals (rfl)
 ·rintro g t H e k c a;simp only[ky]at a;simp only[cB,seval,k];obtain⟨u,n,a⟩:=ae a;refine cQ 0 (fun s t H e=>match s with|b=>t 0=sF aQ j∧t 3=sN g∧t 11=.bool b) (fun s=>s=u) ?_ ?_
  ·rintro b t H e d rfl;try dsimp only at a
   simp only[cB,seval,d];apply sp ax a<;>intro _ a
   ·obtain⟨v,h,a⟩:=ae a;have f:=bz aQ h;simp only[bG]at f;obtain⟨w,i,a⟩:=ae a;simp only[cB,seval,d,f,i];apply sp ax a<;>intro _ a
    ·cases a;simp only[cB,seval];refine uq ⟨rfl,?_⟩;simp only[cB,seval]
    ·cases a;simp only[cB,seval,d];apply iD;and_intros<;>first|rfl|(simp only[cB,seval,d]<;>rfl)
   ·cases a;simp only[cB,seval];apply kf;refine⟨rfl,?_⟩;all_goals ((simp only[cB,seval,d]<;>rfl))
  ·clear a;have a:=n;simp only[cB,seval];apply sp gB a<;>intro _ a
   ·cases a;simp only[cB,seval,k];rw[aF];refine⟨_,rfl,?_⟩;and_intros<;>first|rfl|(simp only[cB,seval,k]<;>rfl)
   ·cases a;simp only[cB,seval];rw[aF];refine⟨_,rfl,?_⟩;and_intros<;>first|rfl|(simp only[cB,seval,k]<;>rfl)
 ·rintro x t H e l;rcases q with _|z
  ·dsimp only at l a;obtain⟨rfl,p⟩:=l;cases a;simp only[cB,seval,p]
  ·dsimp only at l a;obtain⟨rfl,y⟩:=l;cases a;simp only[bd,bj,cL,cR];exact y
def Dz (l:Option (D×Row)) (d:List D):=ej (dM (jX (fL ak))) (fun x:(List (List ah))=>xG x) (fun r:Bool =>.clean (.bool r)) l d
def D0:Env:=(Am.ext bk 38 false lv)
def Vb:bV prog D0:=(bV.none.add BT false)
def cY:=ai @w<|ai @aat<|ai @lv.eq_1<|@D0.eq_1
def Vs:ck prog 11 Dz:=ck.iZ (mode := .clean) tok Vb mixed func11 (by kernel_rfl) (fun _ _=>rfl) (fun _=>by kernel_rfl) fun k r a=>by
 replace a:xG k=some r:=a;apply aJ rfl ntmps11 results11;simp only[ja];unfold xG at a;simp only[cY,seval];obtain⟨A,l,a⟩:=ae a;refine az (fun s t H e=>match s with|d=>t 0=sF (fL ak) k∧t 3=sN d) (fun o x t H e=>match o with|(.inl _)=>x=.exit 0∧t 0=sF (fL ak) k|(.inr r)=>x=.ret∧gG .clean tab none [.tmp 2] ⟨t,EH H,e⟩=some (.clean (.bool r),none)) l ?_ ?_ ?_
 ·refine⟨?_,?_⟩;all_goals (rfl)
 ·rintro d t H e z c a;simp only[uG]at a;simp only[cY,seval,z];obtain⟨B,m,a⟩:=ae a;refine cQ 0 (fun s t H e=>match s with|f=>t 0=sF (fL ak) k∧t 3=sN d∧t 12=.bool f) (fun s=>s=B) ?_ ?_
  ·rintro f t H e h rfl;try dsimp only at a
   simp only[cY,seval,h];apply sp ax a<;>intro _ a
   ·obtain⟨E,g,a⟩:=ae a;have b:=bz (fL ak) g;simp only[bG]at b;simp only[cY,seval,h,b];apply sp ax a<;>intro _ a
    ·cases a;simp only[cY,seval];refine uq ⟨rfl,?_⟩;simp only[cY,seval]
    ·simp only[cY,seval];obtain⟨C,n,a⟩:=ae a;refine az (fun s t H e=>match s with|p=>t 0=sF (fL ak) k∧t 3=sN d∧t 4=sN p) (fun o x t H e=>match o with|(.inl _)=>x=.exit 2∧t 0=sF (fL ak) k∧t 3=sN d|(.inr r)=>x=.ret∧gG .clean tab none [.tmp 2] ⟨t,EH H,e⟩=some (.clean (.bool r),none)) n ?_ ?_ ?_
     ·and_intros<;>first|rfl|(simp only[cY,seval,h]<;>rfl)
     ·rintro p t H e q c a;simp only[q9]at a;have b:=bz (fL ak) g;simp only[bG]at b;simp only[cY,seval,q,b];apply sp ax a<;>intro _ a
      ·have b:=bz (fL ak) g;simp only[bG]at b;obtain⟨F,u,a⟩:=ae a;have j:=bz ak u;simp only[bG]at j;obtain⟨G,v,a⟩:=ae a;simp only[cY,seval,q,b,j,v];apply sp ax a<;>intro _ a
       ·cases a;simp only[cY,seval];refine uq ⟨rfl,?_⟩;simp only[cY,seval]
       ·cases a;simp only[cY,seval,q];apply iD;and_intros<;>first|rfl|(simp only[cY,seval,q]<;>rfl)
      ·cases a;simp only[cY,seval];apply kf;refine⟨rfl,⟨?_,?_⟩⟩;all_goals ((simp only[cY,seval,q]<;>rfl))
     ·rintro x t H e i;rcases C with _|I
      ·dsimp only at i a;obtain⟨rfl,w⟩:=i;cases a;simp only[cY,seval,w];apply iD;and_intros<;>first|rfl|(simp only[cY,seval,w]<;>rfl)
      ·dsimp only at i a;obtain⟨rfl,y⟩:=i;cases a;simp only[bd,bj,cL];apply uq;first|exact⟨rfl,y⟩|(simp only[cY,seval]at y;exact⟨rfl,y⟩)
   ·cases a;simp only[cY,seval];apply kf;refine⟨rfl,?_⟩;all_goals ((simp only[cY,seval,h]<;>rfl))
  ·clear a;have a:=m;simp only[cY,seval];apply sp gB a<;>intro _ a
   ·cases a;simp only[cY,seval,z];rw[aF];refine⟨_,rfl,?_⟩;and_intros<;>first|rfl|(simp only[cY,seval,z]<;>rfl)
   ·cases a;simp only[cY,seval];rw[aF];refine⟨_,rfl,?_⟩;and_intros<;>first|rfl|(simp only[cY,seval,z]<;>rfl)
 ·rintro x t H e i;rcases A with _|J
  ·dsimp only at i a;obtain⟨rfl,D⟩:=i;cases a;simp only[cY,seval,D]
  ·dsimp only at i a;obtain⟨rfl,y⟩:=i;cases a;simp only[bd,bj,cL,cR];exact y
def gn (l:Option (D×Row)) (d:List D):=ej (dM (jX aQ)) (fun x:(List aY)=>eR x) (fun r:Bool =>.clean (.bool r)) l d
def vT:Env:=(Am.ext (Am.ext bk 24 false b6) 54 false aV)
def H5:bV prog vT:=((bV.none.add iL false).add dS false)
def cG:=ai @w<|ai @iX<|ai @b6.eq_1<|ai @aV.eq_1<|@vT.eq_1
def uA:ck prog 77 gn:=ck.iZ (mode := .clean) tok H5 mixed func77 (by kernel_rfl) (fun _ _=>rfl) (fun _=>by kernel_rfl) fun f r a=>by
 replace a:eR f=some r:=a;apply aJ rfl ntmps77 results77;simp only[ja];unfold eR at a;simp only[cG,seval];obtain⟨p,m,a⟩:=ae a;refine az (fun s t H e=>match s with|(g,h)=>t 0=sF aQ f∧t 3=sN g∧t 6=sF aQ f∧t 7=sN (f.length:Int)∧t 8=sN h) (fun o x t H e=>match o with|(.inl _)=>x=.exit 0∧t 0=sF aQ f|(.inr r)=>x=.ret∧gG .clean tab none [.tmp 2] ⟨t,EH H,e⟩=some (.clean (.bool r),none)) m ?_ ?_ ?_
 ·refine⟨?_,?_,?_,?_,?_⟩;all_goals (rfl)
 ·rintro⟨g,h⟩ t H e d c a;simp only[qg]at a;simp only[cG,seval,d];apply sp ax a<;>intro _ a
  ·obtain⟨q,i,a⟩:=ae a;have b:=bz aQ i;simp only[bG]at b;simp only[cG,seval,d,b];apply sp bQ a<;>intro _ a
   ·cases a;simp only[cG,seval];refine uq ⟨rfl,?_⟩;simp only[cG,seval]
   ·simp only[cG,seval,d];apply sp bQ a<;>intro _ a
    ·cases a;simp only[cG,seval];refine uq ⟨rfl,?_⟩;simp only[cG,seval]
    ·obtain⟨u,j,a⟩:=ae a;simp only[cG,seval,j];apply sp bQ a<;>intro _ a
     ·cases a;simp only[cG,seval];refine uq ⟨rfl,?_⟩;simp only[cG,seval]
     ·obtain⟨v,k,a⟩:=ae a;simp only[cG,seval,k];apply sp ax a<;>intro _ a
      ·cases a;simp only[cG,seval];refine uq ⟨rfl,?_⟩;simp only[cG,seval]
      ·cases a;simp only[cG,seval,d];apply iD;and_intros<;>first|rfl|(simp only[cG,seval,d]<;>rfl)
  ·cases a;simp only[cG,seval];apply kf;refine⟨rfl,?_⟩;all_goals ((simp only[cG,seval,d]<;>rfl))
 ·rintro x t H e l;rcases p with _|y
  ·dsimp only at l a;obtain⟨rfl,n⟩:=l;cases a;simp only[cG,seval,n]
  ·dsimp only at l a;obtain⟨rfl,w⟩:=l;cases a;simp only[bd,bj,cL,cR];exact w
def gp (l:Option (D×Row)) (d:List D):=ej (dM (jX aQ)) (fun x:(List aY)=>ig x) (fun r:Int×ah =>.clean (.tup [.int .i64 r.1,.agg [.int .i64 r.2.bn.al,.sl false false r.2.bn.aa.length (an (eI .i64) r.2.bn.aa),.int .i64 r.2.bu.al,.sl false false r.2.bu.aa.length (an (eI .i64) r.2.bu.aa)]])) l d
def vU:Env:=(Am.ext (Am.ext (Am.ext bk 21 false cd) 23 false dj) 77 false gn)
def H6:bV prog vU:=(((bV.none.add iQ false).add mj false).add uA false)
def gX:=ai @w<|ai @FH<|ai @cd.eq_1<|ai @sk<|ai @dj.eq_1<|ai @Tz<|ai @gn.eq_1<|@vU.eq_1
def uB:ck prog 34 gp:=ck.iZ (mode := .clean) tok H6 mixed func34 (by kernel_rfl) (fun _ _=>rfl) (fun _=>by kernel_rfl) fun A r a=>by
 replace a:ig A=some r:=a;apply aJ rfl ntmps34 results34;simp only[ja];unfold ig at a;obtain⟨K,B,a⟩:=ae a;simp only[gX,seval,B];apply sp ax a<;>intro _ a
 ·cases a;simp only[gX,seval]
 ·obtain⟨L,C,a⟩:=ae a;simp only[gX,seval,C];obtain⟨I,D,a⟩:=ae a;refine az (fun s t H e=>match s with|(v,q,h,i,j,k)=>∃l:Nat,∃m:Nat,t 3=.ptr 3 l 0∧t 4=sN v∧t 5=.ptr 5 m 0∧t 13=sF aQ A∧t 14=sN (A.length:Int)∧t 15=sN q∧H 3=rV l 41 [sN 0,.sl true true 0 [],sN 0,.sl true true 0 []]∧H 5=rV m 41 [sN h,sI i,sN j,sI k]) (fun o x t H e=>match o with|(u,b,d,f,g)=>x=.exit 0∧∃n:Nat,∃p:Nat,t 3=.ptr 3 n 0∧t 4=sN u∧t 5=.ptr 5 p 0∧H 3=rV n 41 [sN 0,.sl true true 0 [],sN 0,.sl true true 0 []]∧H 5=rV p 41 [sN b,sI d,sN f,sI g]) D ?_ ?_ ?_
  ·refine⟨0,2,?_,?_,?_,?_,?_,?_,?_,?_⟩;all_goals (rfl)
  ·rintro⟨v,q,h,i,j,k⟩ t H e ⟨l,m,z⟩ c a;simp only[qh]at a;simp only[gX,seval,z];apply sp ax a<;>intro _ a
   ·obtain⟨M,E,a⟩:=ae a;have w:=bz aQ E;simp only[bG]at w;obtain⟨J,y,a⟩:=ae a;cases a;simp only[gX,seval,z,w,y];apply iD;refine⟨l,m,?_⟩;and_intros<;>first|rfl|(simp only[gX,seval,z]<;>rfl)
   ·cases a;simp only[gX,seval];apply kf;refine⟨rfl,⟨l,m,?_,?_,?_,?_,?_⟩⟩;all_goals ((simp only[gX,seval,z]<;>rfl))
  ·rintro x t H e G;rcases I with⟨u,b,d,f,g⟩;dsimp only at G a;obtain⟨rfl,⟨n,p,F⟩⟩:=G;simp only[gX,seval,F];refine bP (by kernel_rfl) ?_;cases a;simp only[seval]
def AF (r:(List aY)) (a:dG []=some r):jx (.fresh 133 5) tab bk FU Tryz.f78 none [.sl true true 0 []]=some (.fresh 133 5 r.length (an aQ r),none):=by
 unfold dG at a;obtain⟨b,c,d⟩:=s7 a;subst b;apply aJ rfl ntmps78 results78;simp only[w,seval,anu]
def AG (r:(List aY)) (a:dG []=some r):jx (.fresh 133 5) tab bk FU Tryz.f78 none [.sl true false 0 []]=some (.fresh 133 5 r.length (an aQ r),none):=by
 unfold dG at a;obtain⟨b,c,d⟩:=s7 a;subst b;apply aJ rfl ntmps78 results78;simp only[w,seval,anu]
def AH (a r:(List aY)) (c:0<a.length) (b:dG a=some r):jx (.fresh 133 5) tab bk FU Tryz.f78 none [.sl false false a.length (an aQ a)]=some (.fresh 133 5 r.length (an aQ r),none):=by
 unfold dG at b;have g:¬a.length=0:=by omega
 obtain⟨d,e,f⟩:=s7 b;subst d;apply aJ rfl ntmps78 results78;simp only[w,seval,c,e,f]
def lJ:=ej (dM (jX aQ)) (fun x:(List aY)=>dG x) (fun r:(List aY) =>.fresh 133 5 r.length (an aQ r))
def lP (a:(List aY)):lJ none [.sl false false a.length (an aQ a)]=(dG a).map fun r:(List aY)=>(.fresh 133 5 r.length (an aQ r),none):=cF _ _ _ a
def uw:ck prog 78 lJ:=ck.ac8 (mode:=(.fresh 133 5)) tok bV.none mixed func78 (by kernel_rfl) ⟨by kernel_rfl,by kernel_rfl⟩ (amV (by kernel_rfl)) AF AG AH
def oD:=mkW 133 aQ (as0) (fun (l:(List aY)) (x:Unit)=>dL l) (fun r:Unit =>.clean (.tup []))
def uF (b a:List D) (c:(List aY)):oD (some (.buf 0 0 5 b.length c.length,⟨0,133,b++(an aQ c++a),false,true,false⟩)) []=(dL c).map fun r=>(.clean (.tup []),some ⟨0,133,b++(an aQ r.1++a),false,true,false⟩):=Vm _ _ _ _ _ b a c ()
def BN (b a:List D) (A:(List aY)) (r:(List aY)×(Unit)) (d:dL A=some r):jx .clean tab bk FU Tryz.f79 (some (.buf 0 0 5 b.length A.length,⟨0,133,b++(an aQ A++a),false,true,false⟩)) []=some (.clean (.tup []),some ⟨0,133,b++(an aQ r.1++a),false,true,false⟩):=by
 apply xR rfl ntmps79 results79;unfold dL at d;obtain⟨rw,B,d⟩:=ae d;split at d;rotate_left
 ·cases d
 cases d;rename_i I;replace d:=B;unfold oS at d;simp only[w,seval];obtain⟨K,C,d⟩:=ae d;refine az (fun s t H e=>match s with|(n,p,m)=>t 0=.buf 0 0 5 b.length (m).length∧t 2=sN n∧t 3=sN p∧H 0=rW 0 133 (b++(an aQ m++a))) (fun o x t H e=>match o with|g=>x=.exit 0∧t 0=.buf 0 0 5 b.length (g).length∧H 0=rW 0 133 (b++(an aQ g++a))) C ?_ ?_ ?_
 ·refine⟨?_,?_,?_,?_⟩;all_goals (rfl)
 ·rintro⟨n,p,m⟩ t H e y c d;simp only[kl]at d;simp only[w,seval,y];apply sp ax d<;>intro _ d
  ·obtain⟨L,E,d⟩:=ae d;have q:=zn (pre:=b) (post:=a) aQ E;simp only[bG]at q;obtain⟨F,h,d⟩:=ae d;have f:=zn (pre:=b) (post:=a) aQ h;simp only[bG]at f;have f:=zn (pre:=b) (post:=a) aQ h;simp only[bG]at f;have u:=Db (pre:=b) (post:=a) aQ (y':=L) h;simp only[bG]at u;have i:=u;simp only[putCells,List.length_cons,List.length_nil,amr,Nat.reduceAdd]at i;obtain⟨M,j,d⟩:=ae d;have k:=zn (pre:=b) (post:=a) aQ j;simp only[bG,anm]at k;have v:=Db (pre:=b) (post:=a) aQ (y':=F) j;simp only[bG]at v;have l:=v;simp only[putCells,List.length_cons,List.length_nil,amr,Nat.reduceAdd]at l;simp only[w,seval,y,q,f,i,k,l];refine bP (by kernel_rfl) ?_;cases d;apply iD;and_intros<;>first|rfl|(simp only[w,seval,y]<;>rfl)
  ·cases d;simp only[w,seval];apply kf;refine⟨rfl,⟨?_,?_⟩⟩;all_goals ((simp only[w,seval,y]<;>rfl))
 ·rintro x t H e J;obtain⟨g,rfl⟩:∃z,z=K:=⟨_,rfl⟩;dsimp only at J d;obtain⟨rfl,G⟩:=J;cases d;simp only[w,seval,G]
def AJ:ck prog 79 oD:=ck.agN (mode := .clean) tok bV.none mixed func79 (by kernel_rfl) ⟨by kernel_rfl,by kernel_rfl⟩ (fun _=>amV (by kernel_rfl)) (fun b a l x c r h=>BN b a l (c,r) h)
def uU (l:Option (D×Row)) (d:List D):=ej (dM (bW je)) (fun x:aH=>qS x) (fun r:aH =>.clean (.agg [.int .i64 r.al,.sl false false r.aa.length (an (eI .i64) r.aa)])) l d
def zf:Env:=(Am.ext bk 71 false iT)
def Oo:bV prog zf:=(bV.none.add xC false)
def Ud:=ai @w<|ai @FI<|ai @iT.eq_1<|@zf.eq_1
def OP:ck prog 192 uU:=ck.iZ (mode := .clean) tok Oo mixed func192 (by kernel_rfl) (fun _ _=>rfl) (fun _=>by kernel_rfl) fun d r a=>by
 replace a:qS d=some r:=a;apply aJ rfl ntmps192 results192;simp only[ja];unfold qS at a;obtain⟨e,b,a⟩:=ae a;obtain⟨f,c,a⟩:=ae a;cases a;simp only[Ud,seval,b,c]
def wU (l:Option (D×Row)) (d:List D):=ej (dM (bW ak)) (fun x:ah=>ug x) (fun r:ah =>.clean (.agg [.int .i64 r.bn.al,.sl false false r.bn.aa.length (an (eI .i64) r.bn.aa),.int .i64 r.bu.al,.sl false false r.bu.aa.length (an (eI .i64) r.bu.aa)])) l d
def Bx:Env:=(Am.ext (Am.ext (Am.ext bk 54 false aV) 71 false iT) 192 false uU)
def Ro:bV prog Bx:=(((bV.none.add dS false).add xC false).add OP false)
def B8:=ai @w<|ai @iX<|ai @aV.eq_1<|ai @FI<|ai @iT.eq_1<|ai @uU.eq_1<|@Bx.eq_1
def SP:ck prog 171 wU:=ck.iZ (mode := .clean) tok Ro mixed func171 (by kernel_rfl) (fun _ _=>rfl) (fun _=>by kernel_rfl) fun e r a=>by
 replace a:ug e=some r:=a;apply aJ rfl ntmps171 results171;simp only[ja];unfold ug at a;obtain⟨f,b,a⟩:=ae a;simp only[B8,seval,b];apply sp ax a<;>intro _ a
 ·cases a;simp only[B8,seval]
 ·obtain⟨g,c,a⟩:=ae a;obtain⟨h,d,a⟩:=ae a;simp only[B8,seval,c,d];refine bP (by kernel_rfl) ?_;cases a;simp only[seval]
def rC (l:Option (D×Row)) (d:List D):=ej (dM (bW ak)) (fun x:ah=>pk x) (fun r:ah =>.clean (.agg [.int .i64 r.bn.al,.sl false false r.bn.aa.length (an (eI .i64) r.bn.aa),.int .i64 r.bu.al,.sl false false r.bu.aa.length (an (eI .i64) r.bu.aa)])) l d
def vV:Env:=(Am.ext bk 171 false wU)
def H7:bV prog vV:=(bV.none.add SP false)
def KH:=ai @w<|ai @iX<|ai @wU.eq_1<|@vV.eq_1
def I4:ck prog 129 rC:=ck.iZ (mode := .clean) tok H7 mixed func129 (by kernel_rfl) (fun _ _=>rfl) (fun _=>by kernel_rfl) fun d r a=>by
 replace a:pk d=some r:=a;apply aJ rfl ntmps129 results129;simp only[ja];unfold pk at a;obtain⟨e,b,a⟩:=ae a;obtain⟨f,c,a⟩:=ae a;cases a;simp only[KH,seval,b,c]
def rD:=mkE 133 aQ (as0) (fun (l:(List aY)) (x:Unit)=>kG l)
def wa (b a:List D) (c:(List aY)):rD (some (.buf 0 0 5 b.length c.length,⟨0,133,b++(an aQ c++a),false,true,false⟩)) []=(kG c).map fun r=>(.fresh 133 5 r.length (an aQ r),none):=Vl _ _ _ _ b a c ()
def rG:Env:=(Am.ext bk 129 false rC)
def H8:bV prog rG:=(bV.none.add I4 false)
def kd:=ai @w<|ai @iX<|ai @rC.eq_1<|@rG.eq_1
def Kj (b a:List D) (C:(List aY)) (r:(List aY)) (d:kG C=some r):jx (.fresh 133 5) tab rG FU Tryz.f80 (some (.buf 0 0 5 b.length C.length,⟨0,133,b++(an aQ C++a),false,true,false⟩)) []=some (.fresh 133 5 r.length (an aQ r),none):=by
 apply xR rfl ntmps80 results80;unfold kG at d;simp only[kd,seval];obtain⟨J,F,d⟩:=ae d;refine az (fun s t H e=>match s with|(u,q)=>∃h:Nat,t 0=.buf 0 h 5 b.length (q).length∧t 5=sN ((C).length:Int)∧t 6=sN u∧H 0=rW h 133 (b++(an aQ q++a))) (fun o x t H e=>match o with|g=>x=.exit 0∧∃i:Nat,t 0=.buf 0 i 5 b.length (g).length∧H 0=rW i 133 (b++(an aQ g++a))) F ?_ ?_ ?_
 ·refine⟨0,?_,?_,?_,?_⟩;all_goals (rfl)
 ·rintro⟨u,q⟩ t H e ⟨h,E⟩ c d;simp only[tx]at d;simp only[kd,seval,E];apply sp ax d<;>intro _ d
  ·obtain⟨K,j,d⟩:=ae d;have k:=zn (pre:=b) (post:=a) aQ j;simp only[bG]at k;obtain⟨l,v⟩:=agz (pre:=b) (post:=a) aQ 1 4 (amV rfl) j;simp only[bG]at l v;obtain⟨f,w,d⟩:=ae d;have k:=zn (pre:=b) (post:=a) aQ j;simp only[bG]at k;obtain⟨y,A⟩:=agz (pre:=b) (post:=a) aQ 1 4 (amV rfl) j;simp only[bG]at y A;have B:=MR (pre:=b) (post:=a) aQ (x':=(aY.mk K.aB f)) 1 [.int .i64 f.bn.al,.sl false false f.bn.aa.length (an (eI .i64) f.bn.aa),.int .i64 f.bu.al,.sl false false f.bu.aa.length (an (eI .i64) f.bu.aa)] j rfl (amV rfl);simp only[bG]at B;have m:=B;simp only[putCells,List.length_cons,List.length_nil,amr,Nat.reduceAdd]at m;cases d;simp only[kd,seval,E,l,w,k,m];apply iD;refine⟨h,?_⟩;and_intros<;>first|rfl|(simp only[kd,seval,E]<;>rfl)
  ·cases d;simp only[kd,seval];apply kf;refine⟨rfl,⟨h,?_,?_⟩⟩;all_goals ((simp only[kd,seval,E]<;>rfl))
 ·rintro x t H e I;obtain⟨g,rfl⟩:∃z,z=J:=⟨_,rfl⟩;dsimp only at I d;obtain⟨rfl,⟨i,G⟩⟩:=I;obtain⟨n,p⟩:=akT (pre:=b) (post:=a) aQ g;simp only[bG]at n p;cases d;simp only[kd,seval,G,n,p]
def zB:ck prog 80 rD:=ck.agL tok H8 mixed func80 (by kernel_rfl) ⟨by kernel_rfl,by kernel_rfl⟩ (fun _=>amV (by kernel_rfl)) (fun b a l x r h=>Kj b a l r h)
def s5 (l:Option (D×Row)) (d:List D):=ej (gj (jX aQ) (gj (aI .i64) (dM (aI .i64)))) (fun x:(List aY)×Int×Int=>kX x.1 x.2.1 x.2.2) (fun r:(List aY)×ah×Int =>.clean (.tup [.sl false false r.1.length (an aQ r.1),.agg [.int .i64 r.2.1.bn.al,.sl false false r.2.1.bn.aa.length (an (eI .i64) r.2.1.bn.aa),.int .i64 r.2.1.bu.al,.sl false false r.2.1.bu.aa.length (an (eI .i64) r.2.1.bu.aa)],.int .i64 r.2.2])) l d
def ajv {β:Type} {F:(List aY)×Int×Int->Option β} {R:β->RK} (a:(List aY)) (b:Int) (c:Int):ej (gj (jX aQ) (gj (aI .i64) (dM (aI .i64)))) F R none [.sl false false a.length (an aQ a),.int .i64 b,.int .i64 c]=(F (a,b,c)).map fun r=>(R r,none):=cF _ _ _ (a,b,c)
def xx:Env:=(Am.ext (Am.ext (Am.ext (Am.ext (Am.ext (Am.ext (Am.ext (Am.ext (Am.ext (Am.ext bk 21 false cd) 23 false dj) 29 false jY) 34 false gp) 57 false iU) 58 false fc) 77 false gn) 78 false lJ) 79 true oD) 80 true rD)
def Kh:bV prog xx:=((((((((((bV.none.add iQ false).add mj false).add zA false).add uB false).add xD false).add sg false).add uA false).add uw false).add AJ true).add zB true)
def aX:=ai @w<|ai @FH<|ai @cd.eq_1<|ai @sk<|ai @dj.eq_1<|ai @jY.eq_1<|ai @Tz<|ai @gp.eq_1<|ai @M8<|ai @iU.eq_1<|ai @fc.eq_1<|ai @gn.eq_1<|ai @lP<|@xx.eq_1
def Kr:ck prog 35 s5:=ck.iZ (mode := .clean) tok Kh mixed func35 (by kernel_rfl) (fun _ _=>rfl) (fun _=>by kernel_rfl) fun⟨p0,p1,p2⟩ r a=>by
 replace a:kX p0 p1 p2=some r:=a;apply aJ rfl ntmps35 results35;simp only[ja];unfold kX at a;obtain⟨r1,b4,a⟩:=ae a;simp only[aX,seval,-Int.reduceToNat,b4];obtain⟨o2,b5,a⟩:=ae a;refine cQ 0 (fun s t H e=>match s with|R=>∃m:Nat,t 0=sF aQ p0∧t 1=sN p1∧t 2=sN p2∧t 7=.ptr 7 m 0∧t 18=.bool R∧H 7=rV m 41 [sN 0,.sl true true 0 [],sN 0,.sl true true 0 []]) (fun s=>s=o2) ?_ ?_
 ·rintro R t H e ⟨m,N⟩ rfl;try dsimp only at a
  simp only[aX,seval,-Int.reduceToNat,N];apply sp ax a<;>intro _ a
  ·cases a;simp only[aX,seval,-Int.reduceToNat,N]
  ·simp only[aX,seval,-Int.reduceToNat,N];obtain⟨o4,b6,a⟩:=ae a;refine cQ 0 (fun s t H e=>match s with|S=>∃k:Nat,t 0=sF aQ p0∧t 1=sN p1∧t 2=sN p2∧t 7=.ptr 7 k 0∧t 31=.bool S∧H 7=rV k 41 [sN 0,.sl true true 0 [],sN 0,.sl true true 0 []]) (fun s=>s=o4) ?_ ?_
   ·rintro S t H e ⟨k,n⟩ rfl;try dsimp only at a
    simp only[aX,seval,-Int.reduceToNat,n];apply sp ax a<;>intro _ a
    ·cases a;simp only[aX,seval,-Int.reduceToNat,n]
    ·obtain⟨r6,b7,a⟩:=ae a;simp only[aX,seval,-Int.reduceToNat,n,b7];apply sp ax a<;>intro _ a
     ·cases a;simp only[aX,seval,-Int.reduceToNat,n]
     ·obtain⟨r8,b8,a⟩:=ae a;simp only[aX,seval,-Int.reduceToNat,n,b8];obtain⟨o9,b9,a⟩:=ae a;refine qn 1 (fun s t H e=>match s with|T=>∃B:Nat,∃C:Nat,∃E:Nat,∃F:List D,t 0=.buf 0 B 5 E (T).length∧t 1=sN p1∧t 2=sN p2∧t 7=.ptr 7 C 0∧H 0=rW B 133 (F)∧H 7=rV C 41 [sN 0,.sl true true 0 [],sN 0,.sl true true 0 []]∧kg aQ F E T) (fun s=>s=o9) ?_ ?_
      ·rintro T t H e ⟨B,C,E,F,bj,bk,bl,bm,bn,bp,U⟩ rfl;try dsimp only at a
       have aq:=U.fit;have ar:=U.eq;simp only[bG]at aq ar;obtain⟨cj,bq,a⟩:=ae a;simp only[aX,seval,-Int.reduceToNat,bq];obtain⟨ca,br,a⟩:=ae a;refine az (fun s t H e=>match s with|(O,aZ,G,I,J,K)=>∃V:Nat,∃P:Nat,∃l:Nat,∃Q:Nat,∃au:List D,t 0=.buf 0 V 5 Q (aZ).length∧t 1=sN p1∧t 2=sN O∧t 7=.ptr 7 P 0∧t 11=.ptr 11 l 0∧H 0=rW V 133 (au)∧H 7=rV P 41 [sN 0,.sl true true 0 [],sN 0,.sl true true 0 []]∧H 11=rV l 41 [sN G,sI I,sN J,sI K]∧kg aQ au Q aZ) (fun o x t H e=>match o with|(g,p,q,u,v)=>x=.exit 2∧∃W:Nat,∃X:Nat,∃z:Nat,∃b:Nat,∃d:List D,t 0=.buf 0 W 5 b (g).length∧t 1=sN p1∧t 7=.ptr 7 X 0∧t 11=.ptr 11 z 0∧H 0=rW W 133 (d)∧H 7=rV X 41 [sN 0,.sl true true 0 [],sN 0,.sl true true 0 []]∧H 11=rV z 41 [sN p,sI q,sN u,sI v]∧kg aQ d b g) br ?_ ?_ ?_
       ·refine⟨B,C,e,E,F,?_,?_,?_,?_,?_,?_,?_,?_,U⟩;all_goals first|rfl|(simp only[aX,seval,-Int.reduceToNat,bj,bk,bl,bm,bn,bp]<;>rfl)
       ·rintro⟨O,aZ,G,I,J,K⟩ t H e ⟨V,P,l,Q,au,av,a1,a6,a7,w,a8,ba,Y,j⟩ c a;simp only[kc]at a;have bb:=j.fit;have bc:=j.eq;simp only[bG]at bb bc;simp only[aX,seval,-Int.reduceToNat,a6];apply sp ax a<;>intro _ a
        ·obtain⟨Z,h,a⟩:=ae a;have bs:=oK h;obtain⟨aa,bt,aB⟩:=j.idx h;simp only[bG]at aB aa;have aC:=(j.RA 0 1 (amV rfl) h).1;simp only[Nat.add_zero,bG]at aC;have bu:=(j.RA 0 1 (amV rfl) h).1;simp only[Nat.add_zero,bG]at bu;obtain⟨cm,bw,a⟩:=ae a;obtain⟨bx,bz,ab⟩:=j.RA 1 4 (amV rfl) h;simp only[bG]at ab bx;obtain⟨cn,bA,a⟩:=ae a;simp only[aX,seval,-Int.reduceToNat,av,a6,w,a8,Y,bs,aB,aa,aC,bw,ab,bA];refine bP (by kernel_rfl) ?_;obtain⟨cp,bB,a⟩:=ae a;obtain⟨bC,bD,bE⟩:=j.RA 1 4 (amV rfl) h;simp only[bG]at bE bC;obtain⟨A,bF,a⟩:=ae a;obtain⟨bH,bI,bJ⟩:=j.RA 1 4 (amV rfl) h;simp only[bG]at bJ bH;obtain⟨cb,bK,y⟩:=j.put (x':=(aY.mk Z.aB A.1)) 1 [.int .i64 A.1.bn.al,.sl false false A.1.bn.aa.length (an (eI .i64) A.1.bn.aa),.int .i64 A.1.bu.al,.sl false false A.1.bu.aa.length (an (eI .i64) A.1.bu.aa)] h rfl (amV rfl);simp only[bG]at bK;have aD:=bK;simp only[putCells,List.length_cons,List.length_nil,amr,Nat.reduceAdd]at aD;simp only[aX,seval,-Int.reduceToNat,w,a8,Y,aa,ab,bB,bF,aD];refine bP (by kernel_rfl) ?_;obtain⟨bd,i,a⟩:=ae a;have ad:=oK i;obtain⟨ag,ai,L⟩:=y.idx i;simp only[bG]at L ag;simp only[anm]at ad;have aE:=(y.RA 0 1 (amV rfl) i).1;simp only[Nat.add_zero,bG]at aE;have ad:=oK i;obtain⟨ag,ai,L⟩:=y.idx i;simp only[bG]at L ag;simp only[anm]at ad;have bL:=(y.RA 0 1 (amV rfl) i).1;simp only[Nat.add_zero,bG]at bL;obtain⟨aG,bM,M⟩:=y.put (x':=(aY.mk (IntKind.i64.wrap (bd.aB-(if Z.aB<O then Z.aB else O))) bd.cJ)) 0 [.int .i64 (IntKind.i64.wrap (bd.aB-(if Z.aB<O then Z.aB else O)))] i rfl (amV rfl);simp only[bG,Nat.add_zero]at bM;have aH:=bM;simp only[putCells,List.length_cons,List.length_nil,amr]at aH;obtain⟨cq,aj,a⟩:=ae a;have bN:=oK aj;obtain⟨bO,bR,aI⟩:=M.idx aj;simp only[bG]at aI bO;simp only[anm]at bN;have aK:=(M.RA 0 1 (amV rfl) aj).1;simp only[Nat.add_zero,bG]at aK;simp only[aX,seval,-Int.reduceToNat,a6,aE,L,aH,aI,aK];apply sp ax a<;>intro _ a
         ·obtain⟨cr,aL,a⟩:=ae a;obtain⟨bS,cd,aM,aN,bT⟩:=VH aQ aL;simp only[bG]at bT;simp only[anm]at aM;simp only[anm]at aN;have bU:=kg.tail M aL;cases a;simp only[aX,seval,-Int.reduceToNat,av,bS,aM,aN];apply iD;refine⟨e+1+1+1+1+1+1+1+1+1+1,P,l,(Q+(1:Int).toNat*5),(aG),?_,?_,?_,?_,?_,?_,?_,?_,bU⟩;all_goals first|rfl|(simp only[aX,seval,-Int.reduceToNat,a1,a7,w,ba]<;>rfl)
         ·cases a;simp only[aX,seval,-Int.reduceToNat];apply iD;refine⟨V,P,l,Q,aG,?_,?_,?_,?_,?_,?_,?_,?_,M⟩;all_goals first|rfl|(simp only[aX,seval,-Int.reduceToNat,av,a1,a7,w,ba]<;>rfl)
        ·cases a;simp only[aX,seval,-Int.reduceToNat];apply kf;refine⟨rfl,⟨V,P,l,Q,au,?_,?_,?_,?_,?_,?_,?_,j⟩⟩;all_goals ((simp only[aX,seval,-Int.reduceToNat,av,a1,a7,w,a8,ba,Y]<;>rfl))
       ·rintro x t H e hx;rcases ca with⟨g,p,q,u,v⟩;dsimp only at hx a;obtain⟨rfl,⟨W,X,z,b,d,aO,bV,aP,ak,aR,aS,al,f⟩⟩:=hx;have aw:=f.fit;have ay:=f.eq;simp only[bG]at aw ay;simp only[aX,seval,-Int.reduceToNat,bV];apply sp ax a<;>intro _ a
        ·have bg:=uF (d.take b) (d.drop (b+g.length*aQ.size)) g;have cf:=f.cells;simp only[f.cells,f.len]at bg;simp only[bG]at bg;obtain⟨aA,aT,a⟩:=ae a;have bW:=rU aT;obtain⟨aU,aV,ao⟩:∃C',d.take b++(an aQ aA.1++d.drop (b+g.length*aQ.size))=C'∧kg aQ C' b aA.1:=⟨_,rfl,f.cc _⟩;simp only[bG]at aV;have bh:=wa (aU.take b) (aU.drop (b+aA.1.length*aQ.size)) aA.1;have cg:=ao.cells;simp only[ao.cells,ao.len]at bh;simp only[bW]at bh;obtain⟨ct,bX,a⟩:=ae a;simp only[aX,seval,-Int.reduceToNat,aO,aP,ak,aR,aS,al,bg,aT,aV,bh,bX];refine bP (by kernel_rfl) ?_;cases a;simp only[seval,-Int.reduceToNat]
        ·have bY:=wa (d.take b) (d.drop (b+g.length*aQ.size)) g;have ch:=f.cells;simp only[f.cells,f.len]at bY;obtain⟨cu,bZ,a⟩:=ae a;simp only[aX,seval,-Int.reduceToNat,aO,aP,ak,aR,aS,al,bY,bZ];refine bP (by kernel_rfl) ?_;cases a;simp only[seval,-Int.reduceToNat]
      ·clear a;have a:=b9;simp only[aX,seval,-Int.reduceToNat];apply sp ax a<;>intro _ a
       ·have b1:=uF [] [] r8;simp only[List.nil_append,am6,List.length_nil]at b1;obtain⟨b2,aW,a⟩:=ae a;have b3:=rU aW;cases a;simp only[aX,seval,-Int.reduceToNat,b1,aW];rw[aF];refine⟨_,rfl,?_⟩;refine⟨e+1+1,k,0,(an aQ b2.1),?_,?_,?_,?_,?_,?_,(kg.self aQ b2.1)⟩;all_goals first|rfl|(simp only[aX,seval,-Int.reduceToNat,n,b3]<;>rfl)
       ·simp only[aX,seval,-Int.reduceToNat];apply sp ax a<;>intro _ a
        ·cases a;simp only[aX,seval,-Int.reduceToNat];rw[aF];refine⟨_,rfl,?_⟩;refine⟨e+1+1+1+1+1+1,k,0,(an aQ ([(aY.mk r6.1 r6.2)])),?_,?_,?_,?_,?_,?_,(kg.self aQ ([(aY.mk r6.1 r6.2)]))⟩;all_goals first|rfl|(simp only[aX,seval,-Int.reduceToNat,n]<;>rfl)
        ·cases a;simp only[aX,seval,-Int.reduceToNat];rw[aF];refine⟨_,rfl,?_⟩;refine⟨e+1+1,k,0,(an aQ r8),?_,?_,?_,?_,?_,?_,(kg.self aQ r8)⟩;all_goals first|rfl|(simp only[aX,seval,-Int.reduceToNat,n]<;>rfl)
   ·clear a;have a:=b6;simp only[aX,seval,-Int.reduceToNat];apply sp bQ a<;>intro _ a
    ·cases a;simp only[aX,seval,-Int.reduceToNat];rw[aF];refine⟨_,rfl,?_⟩;refine⟨m,?_⟩;and_intros<;>first|rfl|(simp only[aX,seval,-Int.reduceToNat,N]<;>rfl)
    ·cases a;simp only[aX,seval,-Int.reduceToNat,N];rw[aF];refine⟨_,rfl,?_⟩;refine⟨m,?_⟩;and_intros<;>first|rfl|(simp only[aX,seval,-Int.reduceToNat,N]<;>rfl)
 ·clear a;have a:=b5;simp only[aX,seval,-Int.reduceToNat];apply sp bQ a<;>intro _ a
  ·cases a;simp only[aX,seval,-Int.reduceToNat];rw[aF];refine⟨_,rfl,?_⟩;refine⟨0,?_,?_,?_,?_,?_,?_⟩;all_goals (rfl)
  ·simp only[aX,seval,-Int.reduceToNat];apply sp bQ a<;>intro _ a
   ·cases a;simp only[aX,seval,-Int.reduceToNat];rw[aF];refine⟨_,rfl,?_⟩;refine⟨0,?_,?_,?_,?_,?_,?_⟩;all_goals (rfl)
   ·cases a;simp only[aX,seval,-Int.reduceToNat];rw[aF];refine⟨_,rfl,?_⟩;refine⟨0,?_,?_,?_,?_,?_,?_⟩;all_goals (rfl)
def uX (l:Option (D×Row)) (d:List D):=ej (gj (jX aQ) (gj (aI .i64) (dM (bW ak)))) (fun x:(List aY)×Int×ah=>ng x.1 x.2.1 x.2.2) (fun r:(List aY)×Int =>.clean (.tup [.sl false false r.1.length (an aQ r.1),.int .i64 r.2])) l d
def ajw {β:Type} {F:(List aY)×Int×ah->Option β} {R:β->RK} (e:(List aY)) (f:Int) (c:Int) (a:(List Int)) (d:Int) (b:(List Int)):ej (gj (jX aQ) (gj (aI .i64) (dM (bW ak)))) F R none [.sl false false e.length (an aQ e),.int .i64 f,.agg [.int .i64 c,.sl false false a.length (an (eI .i64) a),.int .i64 d,.sl false false b.length (an (eI .i64) b)]]=(F (e,f,(ah.mk (aH.mk c a) (aH.mk d b)))).map fun r=>(R r,none):=cF _ _ _ (e,f,(ah.mk (aH.mk c a) (aH.mk d b)))
def zl:Env:=(Am.ext (Am.ext (Am.ext (Am.ext (Am.ext (Am.ext bk 24 false b6) 34 false gp) 54 false aV) 77 false gn) 78 false lJ) 80 true rD)
def Ox:bV prog zl:=((((((bV.none.add iL false).add uB false).add dS false).add uA false).add uw false).add zB true)
def cj:=ai @w<|ai @iX<|ai @b6.eq_1<|ai @Tz<|ai @gp.eq_1<|ai @aV.eq_1<|ai @gn.eq_1<|ai @lP<|@zl.eq_1
def OT:ck prog 36 uX:=ck.iZ (mode := .clean) tok Ox mixed func36 (by kernel_rfl) (fun _ _=>rfl) (fun _=>by kernel_rfl) fun⟨y,z,f⟩ r a=>by
 replace a:ng y z f=some r:=a;apply aJ rfl ntmps36 results36;simp only[ja];unfold ng at a;obtain⟨O,A,a⟩:=ae a;simp only[cj,seval,A];obtain⟨I,B,a⟩:=ae a;refine cQ 0 (fun s t H e=>match s with|g=>∃b:Nat,t 0=sF aQ y∧t 1=sN z∧t 5=.ptr 5 b 0∧t 10=.bool g∧H 5=rV b 41 [sN f.bn.al,sI f.bn.aa,sN f.bu.al,sI f.bu.aa]) (fun s=>s=I) ?_ ?_
 ·rintro g t H e ⟨b,d⟩ rfl;try dsimp only at a
  simp only[cj,seval,d];apply sp ax a<;>intro _ a
  ·cases a;simp only[cj,seval]
  ·simp only[cj,seval,d];obtain⟨J,C,a⟩:=ae a;refine cQ 0 (fun s t H e=>match s with|h=>∃c:Nat,t 0=sF aQ y∧t 1=sN z∧t 5=.ptr 5 c 0∧t 19=.bool h∧H 5=rV c 41 [sN f.bn.al,sI f.bn.aa,sN f.bu.al,sI f.bu.aa]) (fun s=>s=J) ?_ ?_
   ·rintro h t H e ⟨c,i⟩ rfl;try dsimp only at a
    simp only[cj,seval,i];apply sp ax a<;>intro _ a
    ·cases a;simp only[cj,seval]
    ·obtain⟨P,D,a⟩:=ae a;simp only[cj,seval,i,D];obtain⟨K,E,a⟩:=ae a;refine cQ 0 (fun s t H e=>match s with|j=>∃k:Nat,t 0=sF aQ y∧t 1=sN z∧t 5=.ptr 5 k 0∧t 44=.bool j∧H 5=rV k 41 [sN f.bn.al,sI f.bn.aa,sN f.bu.al,sI f.bu.aa]) (fun s=>s=K) ?_ ?_
     ·rintro j t H e ⟨k,m⟩ rfl;try dsimp only at a
      simp only[cj,seval,m];apply sp ax a<;>intro _ a
      ·cases a;simp only[cj,seval]
      ·obtain⟨Q,F,a⟩:=ae a;obtain⟨G,n,a⟩:=ae a;obtain⟨o,l,p,q⟩:=js aQ n;simp only[bG]at l;have u:=wa [] [] G;simp only[List.nil_append,am6,List.length_nil]at u;obtain⟨L,v,a⟩:=ae a;simp only[cj,seval,m,F,o,l,p,q,u,v];refine bP (by kernel_rfl) ?_;cases a;simp only[seval]
     ·clear a;have a:=E;simp only[cj,seval];apply sp bQ a<;>intro _ a
      ·cases a;simp only[cj,seval];rw[aF];refine⟨_,rfl,?_⟩;refine⟨c,?_⟩;and_intros<;>first|rfl|(simp only[cj,seval,i]<;>rfl)
      ·cases a;simp only[cj,seval,i];rw[aF];refine⟨_,rfl,?_⟩;refine⟨c,?_⟩;and_intros<;>first|rfl|(simp only[cj,seval,i]<;>rfl)
   ·clear a;have a:=C;simp only[cj,seval];apply sp bQ a<;>intro _ a
    ·cases a;simp only[cj,seval];rw[aF];refine⟨_,rfl,?_⟩;refine⟨b,?_⟩;and_intros<;>first|rfl|(simp only[cj,seval,d]<;>rfl)
    ·simp only[cj,seval,d];apply sp bQ a<;>intro _ a
     ·cases a;simp only[cj,seval];rw[aF];refine⟨_,rfl,?_⟩;refine⟨b,?_⟩;and_intros<;>first|rfl|(simp only[cj,seval,d]<;>rfl)
     ·obtain⟨M,w,a⟩:=ae a;cases a;simp only[cj,seval,d,w];rw[aF];refine⟨_,rfl,?_⟩;refine⟨b,?_⟩;and_intros<;>first|rfl|(simp only[cj,seval,d]<;>rfl)
 ·clear a;have a:=B;simp only[cj,seval];apply sp bQ a<;>intro _ a
  ·cases a;simp only[cj,seval];rw[aF];refine⟨_,rfl,?_⟩;refine⟨0,?_,?_,?_,?_,?_⟩;all_goals (rfl)
  ·obtain⟨N,x,a⟩:=ae a;cases a;simp only[cj,seval,x];rw[aF];refine⟨_,rfl,?_⟩;refine⟨0,?_,?_,?_,?_,?_⟩;all_goals (rfl)
def pE (l:Option (D×Row)) (d:List D):=ej (gj (jX (eI .i64)) (dM (jX (eI .i64)))) (fun x:(List Int)×(List Int)=>nf x.1 x.2) (fun r:Bool =>.clean (.bool r)) l d
def F9:ck prog 119 pE:=ck.iZ (mode := .clean) tok bV.none mixed func119 (by kernel_rfl) (fun _ _=>rfl) (fun _=>by kernel_rfl) fun⟨i,m⟩ r a=>by
 replace a:nf i m=some r:=a;apply aJ rfl ntmps119 results119;simp only[ja];unfold nf at a;simp only[w,seval];apply sp ax a<;>intro _ a
 ·cases a;simp only[w,seval]
 ·simp only[w,seval];obtain⟨n,j,a⟩:=ae a;refine az (fun s t H e=>match s with|b=>t 0=sI i∧t 1=sI m∧t 12=sN (i.length:Int)∧t 13=sN b) (fun o x t H e=>match o with|(.inl _)=>x=.exit 0|(.inr r)=>x=.ret∧gG .clean tab none [.tmp 4] ⟨t,EH H,e⟩=some (.clean (.bool r),none)) j ?_ ?_ ?_
  ·refine⟨?_,?_,?_,?_⟩;all_goals (rfl)
  ·rintro b t H e g c a;simp only[oB]at a;simp only[w,seval,g];apply sp ax a<;>intro _ a
   ·obtain⟨q,k,a⟩:=ae a;have d:=bz (eI .i64) k;simp only[bG]at d;obtain⟨u,l,a⟩:=ae a;have f:=bz (eI .i64) l;simp only[bG]at f;simp only[w,seval,g,d,f];refine bP (by kernel_rfl) ?_;apply sp ax a<;>intro _ a
    ·cases a;simp only[w,seval];refine uq ⟨rfl,?_⟩;simp only[w,seval]
    ·cases a;simp only[w,seval,g];apply iD;and_intros<;>first|rfl|(simp only[w,seval,g]<;>rfl)
   ·cases a;simp only[w,seval];apply kf;exact rfl
  ·rintro x t H e h;rcases n with _|v
   ·dsimp only at h a;subst h;cases a;simp only[w,seval]
   ·dsimp only at h a;obtain⟨rfl,p⟩:=h;cases a;simp only[bd,bj,cL,cR];exact p
def wR (l:Option (D×Row)) (d:List D):=ej (gj (bW je) (dM (bW je))) (fun x:aH×aH=>tQ x.1 x.2) (fun r:Bool =>.clean (.bool r)) l d
def Br:Env:=(Am.ext bk 119 false pE)
def Rj:bV prog Br:=(bV.none.add F9 false)
def B7:=ai @w<|ai @Yf<|ai @pE.eq_1<|@Br.eq_1
def SN:ck prog 64 wR:=ck.iZ (mode := .clean) tok Rj mixed func64 (by kernel_rfl) (fun _ _=>rfl) (fun _=>by kernel_rfl) fun⟨c,d⟩ r a=>by
 replace a:tQ c d=some r:=a;apply aJ rfl ntmps64 results64;simp only[ja];unfold tQ at a;simp only[B7,seval];apply sp gB a<;>intro _ a
 ·obtain⟨e,b,a⟩:=ae a;cases a;simp only[B7,seval,b]
 ·cases a;simp only[B7,seval]
def uT (l:Option (D×Row)) (d:List D):=ej (gj (bW ak) (dM (bW ak))) (fun x:ah×ah=>mH x.1 x.2) (fun r:Bool =>.clean (.bool r)) l d
def zd:Env:=(Am.ext bk 64 false wR)
def Om:bV prog zd:=(bV.none.add SN false)
def zP:=ai @w<|ai @M9<|ai @wR.eq_1<|@zd.eq_1
def OO:ck prog 25 uT:=ck.iZ (mode := .clean) tok Om mixed func25 (by kernel_rfl) (fun _ _=>rfl) (fun _=>by kernel_rfl) fun⟨d,e⟩ r a=>by
 replace a:mH d e=some r:=a;apply aJ rfl ntmps25 results25;simp only[ja];unfold mH at a;obtain⟨f,b,a⟩:=ae a;simp only[zP,seval,b];apply sp gB a<;>intro _ a
 ·obtain⟨g,c,a⟩:=ae a;cases a;simp only[zP,seval,c]
 ·cases a;simp only[zP,seval]
def Cd (l:Option (D×Row)) (d:List D):=ej (gj (bW vE) (gj (jX aQ) (gj (aI .i64) (dM (jX ak))))) (fun x:dR×(List aY)×Int×(List ah)=>iB x.1 x.2.1 x.2.2.1 x.2.2.2) (fun r:Bool =>.clean (.bool r)) l d
def Kw (a:(List Int)) (b:(List bo)) (c:(List (List ah))):lu none [.agg [.sl false false a.length (an (eI .i64) a),.sl false false b.length (an b7 b)],.sl false false c.length (an (fL ak) c)]=(dW (bf.mk a b) c).map fun r:(List (List ah))×(List ah)×Int=>(.clean (.tup [.sl false false r.1.length (an (fL ak) r.1),.sl false false r.2.1.length (an ak r.2.1),.int .i64 r.2.2]),none):=cF _ _ _ ((bf.mk a b),c)
def aan (a:(List (List ah))):Dz none [.sl false false a.length (an (fL ak) a)]=(xG a).map fun r:Bool=>(.clean (.bool r),none):=cF _ _ _ (a)
def pR:Env:=(Am.ext (Am.ext (Am.ext (Am.ext (Am.ext (Am.ext (Am.ext (Am.ext (Am.ext (Am.ext (Am.ext bk 9 false wW) 11 false Dz) 12 false lu) 21 false cd) 23 false dj) 25 false uT) 32 false rB) 33 false n9) 34 false gp) 35 false s5) 36 false uX)
def BH:bV prog pR:=(((((((((((bV.none.add SR false).add Vs false).add zy false).add iQ false).add mj false).add OO false).add I3 false).add Ei false).add uB false).add Kr false).add OT false)
def aA:=ai @w<|ai @sh9<|ai @wW.eq_1<|ai @FH<|ai @cd.eq_1<|ai @sk<|ai @dj.eq_1<|ai @uT.eq_1<|ai @afM<|ai @rB.eq_1<|ai @Tz<|ai @n9.eq_1<|ai @gp.eq_1<|ai @ajv<|ai @s5.eq_1<|ai @ajw<|ai @uX.eq_1<|@pR.eq_1
def BS:ck prog 8 Cd:=ck.iZ (mode := .clean) tok BH mixed func8 (by kernel_rfl) (fun _ _=>rfl) (fun _=>by kernel_rfl) fun⟨q,p1,p2,p3⟩ r a=>by
 replace a:iB q p1 p2 p3=some r:=a;apply aJ rfl ntmps8 results8;simp only[ja];unfold iB at a;obtain⟨r1,bA,a⟩:=ae a;obtain⟨r2,bB,a⟩:=ae a;simp only[aA,seval,bA,bB];obtain⟨o3,bC,a⟩:=ae a;refine cQ 0 (fun s t H e=>match s with|T=>∃F:Nat,t 1=sF aQ p1∧t 2=sN p2∧t 3=sF ak p3∧t 4=.ptr 4 F 0∧t 9=.bool r1∧t 44=.bool T∧H 4=rV F 54 [sF bl q.aq,sF dX q.aG,sF (fL ak) q.aO]) (fun s=>s=o3) ?_ ?_
 ·rintro T t H e ⟨F,Y⟩ rfl;try dsimp only at a
  simp only[aA,seval,Y];apply sp ax a<;>intro _ a
  ·cases a;simp only[aA,seval,Y]
  ·obtain⟨r5,bD,a⟩:=ae a;simp only[aA,seval,Y,bD];obtain⟨bE,aK,a⟩:=ae a;refine az (fun s t H e=>match s with|(aa,ab,G,I,J,K,U)=>∃A:Nat,∃h:Nat,∃L:Nat,t 2=sN p2∧t 3=sF ak p3∧t 4=.ptr 4 A 0∧t 9=.bool r1∧t 11=.ptr 11 h 0∧t 12=sF aQ aa∧t 13=.buf 13 L 4 0 (U).length∧t 14=sN ab∧H 4=rV A 54 [sF bl q.aq,sF dX q.aG,sF (fL ak) q.aO]∧H 11=rV h 41 [sN G,sI I,sN J,sI K]∧H 13=rW L 41 (an ak U)) (fun o x t H e=>match o with|(.inl (B,b,d,f,g,n))=>x=.exit 0∧∃u:Nat,∃i:Nat,∃C:Nat,t 4=.ptr 4 u 0∧t 9=.bool r1∧t 11=.ptr 11 i 0∧t 12=sF aQ B∧t 13=.buf 13 C 4 0 (n).length∧H 4=rV u 54 [sF bl q.aq,sF dX q.aG,sF (fL ak) q.aO]∧H 11=rV i 41 [sN b,sI d,sN f,sI g]∧H 13=rW C 41 (an ak n)|(.inr r)=>x=.ret∧gG .clean tab none [.tmp 8] ⟨t,EH H,e⟩=some (.clean (.bool r),none)) aK ?_ ?_ ?_
   ·refine⟨F,e,e+1+1,?_⟩;and_intros<;>first|rfl|(simp only[aA,seval,Y]<;>rfl)
   ·rintro⟨aa,ab,G,I,J,K,U⟩ t H e ⟨A,h,L,S⟩ c a;simp only[dr]at a;simp only[aA,seval,S];apply sp ax a<;>intro _ a
    ·obtain⟨bI,aL,a⟩:=ae a;obtain⟨bJ,ad,a⟩:=ae a;have j:=bz bl ad;simp only[bG]at j;simp only[aA,seval,S,aL,j];apply sp ax a<;>intro _ a
     ·have j:=bz bl ad;simp only[bG]at j;obtain⟨bK,aM,a⟩:=ae a;simp only[aA,seval,S,j,aM];apply sp ax a<;>intro _ a
      ·cases a;simp only[aA,seval,S];refine uq ⟨rfl,?_⟩;simp only[aA,seval]
      ·obtain⟨bL,aN,a⟩:=ae a;obtain⟨aO,ag,aP,aR⟩:=js ak aN;simp only[bG]at ag;cases a;simp only[aA,seval,S,aO,ag,aP,aR];apply iD;refine⟨A,h,e+1+1+1+1+1+1+1,?_⟩;and_intros<;>first|rfl|(simp only[aA,seval,S]<;>rfl)
     ·simp only[aA,seval,S];apply sp ax a<;>intro _ a
      ·obtain⟨bM,aS,a⟩:=ae a;have ai:=bz ak aS;simp only[bG]at ai;obtain⟨bN,aT,a⟩:=ae a;obtain⟨bO,aU,a⟩:=ae a;obtain⟨aV,aj,aW,aX⟩:=js ak aU;simp only[bG]at aj;cases a;simp only[aA,seval,S,j,ai,aT,aV,aj,aW,aX];apply iD;refine⟨A,h,e+1+1+1+1+1+1,?_⟩;and_intros<;>first|rfl|(simp only[aA,seval,S]<;>rfl)
      ·obtain⟨bR,aY,a⟩:=ae a;obtain⟨aZ,al,a1,a6⟩:=js ak aY;simp only[bG]at al;cases a;simp only[aA,seval,S,aZ,al,a1,a6];apply iD;refine⟨A,h,e+1+1+1+1,?_⟩;and_intros<;>first|rfl|(simp only[aA,seval,S]<;>rfl)
    ·cases a;simp only[aA,seval];apply kf;refine⟨rfl,⟨A,h,L,?_,?_,?_,?_,?_,?_,?_,?_⟩⟩;all_goals ((simp only[aA,seval,S]<;>rfl))
   ·rintro x t H e Z;rcases bE with⟨B,b,d,f,g,n⟩|rb
    ·dsimp only at Z a;obtain⟨rfl,⟨u,i,C,V⟩⟩:=Z;have a7:=Kw ([]) ([(bo.mk q ([]) ([]))]) ([n]);simp only[ch,bG,List.length_cons,amr]at a7;obtain⟨a8,ba,a⟩:=ae a;simp only[aA,seval,V,a7,ba];apply sp ax a<;>intro _ a
     ·cases a;simp only[aA,seval,V]
     ·simp only[aA,seval];obtain⟨bF,bb,a⟩:=ae a;refine TZ 0 (fun s t H e=>match s with|M=>∃N:Nat,∃p:Nat,t 4=.ptr 4 N 0∧t 9=.bool r1∧t 11=.ptr 11 p 0∧t 12=sF aQ B∧t 19=sF (fL ak) a8.1∧t 130=.bool M∧H 4=rV N 54 [sF bl q.aq,sF dX q.aG,sF (fL ak) q.aO]∧H 11=rV p 41 [sN b,sI d,sN f,sI g]) (fun s=>s=bF) ?_ ?_
      ·rintro M t H e ⟨N,p,bc⟩ rfl;try dsimp only at a
       simp only[aA,seval,bc];apply sp ax a<;>intro _ a
       ·cases a;simp only[aA,seval]
       ·obtain⟨bS,bg,a⟩:=ae a;simp only[aA,seval,bg];obtain⟨bH,bh,a⟩:=ae a;refine az (fun s t H e=>match s with|(ao,aq,O,P,Q,R)=>∃W:Nat,∃k:Nat,∃l:Nat,t 4=.ptr 4 W 0∧t 9=.bool r1∧t 11=.ptr 11 k 0∧t 12=sF aQ ao∧t 19=sF (fL ak) a8.1∧t 22=.ptr 22 l 0∧t 23=sN aq∧H 4=rV W 54 [sF bl q.aq,sF dX q.aG,sF (fL ak) q.aO]∧H 11=rV k 41 [sN b,sI d,sN f,sI g]∧H 22=rV l 41 [sN O,sI P,sN Q,sI R]) (fun o x t H e=>match o with|(.inl (X,v,w,y,z))=>x=.exit 2∧∃D:Nat,∃E:Nat,t 9=.bool r1∧t 11=.ptr 11 D 0∧t 12=sF aQ X∧t 22=.ptr 22 E 0∧H 11=rV D 41 [sN b,sI d,sN f,sI g]∧H 22=rV E 41 [sN v,sI w,sN y,sI z]|(.inr r)=>x=.ret∧gG .clean tab none [.tmp 8] ⟨t,EH H,e⟩=some (.clean (.bool r),none)) bh ?_ ?_ ?_
        ·refine⟨N,p,e,?_⟩;and_intros<;>first|rfl|(simp only[aA,seval,bc]<;>rfl)
        ·rintro⟨ao,aq,O,P,Q,R⟩ t H e ⟨W,k,l,Zd⟩ c a;simp only[dt]at a;simp only[aA,seval,Zd];apply sp ax a<;>intro _ a
         ·obtain⟨bT,ar,a⟩:=ae a;have m:=bz dX ar;simp only[bG]at m;simp only[aA,seval,Zd,m];apply sp ax a<;>intro _ a
          ·obtain⟨bU,au,a⟩:=ae a;have av:=bz (fL ak) au;simp only[bG]at av;have aw:=aff (fL ak) au;simp only[bG]at aw;obtain⟨bV,bk,a⟩:=ae a;have ay:=bz ak bk;simp only[bG]at ay;obtain⟨bW,bm,a⟩:=ae a;simp only[aA,seval,Zd,m,av,aw,ay,bm];refine bP (by kernel_rfl) ?_;cases a;apply iD;refine⟨W,k,l,?_⟩;and_intros<;>first|rfl|(simp only[aA,seval,Zd]<;>rfl)
          ·have m:=bz dX ar;simp only[bG]at m;obtain⟨bX,aB,a⟩:=ae a;have aC:=bz (fL ak) aB;simp only[bG]at aC;have aD:=aff (fL ak) aB;simp only[bG]at aD;obtain⟨bY,bn,a⟩:=ae a;have aE:=bz ak bn;simp only[bG]at aE;obtain⟨bZ,bp,a⟩:=ae a;simp only[aA,seval,Zd,m,aC,aD,aE,bp];refine bP (by kernel_rfl) ?_;apply sp ax a<;>intro _ a
           ·cases a;simp only[aA,seval,Zd];refine uq ⟨rfl,?_⟩;simp only[aA,seval]
           ·cases a;simp only[aA,seval,Zd];apply iD;refine⟨W,k,l,?_⟩;and_intros<;>first|rfl|(simp only[aA,seval,Zd]<;>rfl)
         ·cases a;simp only[aA,seval];apply kf;refine⟨rfl,⟨k,l,?_,?_,?_,?_,?_,?_⟩⟩;all_goals ((simp only[aA,seval,Zd]<;>rfl))
        ·rintro x t H e Z;rcases bH with⟨X,v,w,y,z⟩|rd
         ·dsimp only at Z a;obtain⟨rfl,⟨D,E,bq⟩⟩:=Z;obtain⟨b1,br,a⟩:=ae a;obtain⟨b2,bs,a⟩:=ae a;simp only[aA,seval,bq,br,bs];apply sp gB a<;>intro _ a
          ·obtain⟨b3,bt,a⟩:=ae a;cases a;simp only[aA,seval,bq,bt]
          ·cases a;simp only[aA,seval]
         ·dsimp only at Z a;obtain⟨rfl,hE⟩:=Z;cases a;simp only[bd,bj,cL,cR];exact hE
      ·clear a;have a:=bb;simp only[aA,seval];apply sp Dq a<;>intro _ a
       ·simp only[aA,seval];refine bP (by kernel_rfl) ?_;cases a;rw[aF];refine⟨_,rfl,?_⟩;refine⟨u,i,?_⟩;and_intros<;>first|rfl|(simp only[aA,seval,V]<;>rfl)
       ·obtain⟨b4,aG,a⟩:=ae a;have aH:=bz (fL ak) aG;simp only[bG]at aH;have aI:=aff (fL ak) aG;simp only[bG]at aI;simp only[aA,seval,V,aH,aI];refine bP (by kernel_rfl) ?_;cases a;rw[aF];refine⟨_,rfl,?_⟩;refine⟨u,i,?_⟩;and_intros<;>first|rfl|(simp only[aA,seval,V]<;>rfl)
    ·dsimp only at Z a;obtain⟨rfl,hE⟩:=Z;cases a;simp only[bd,bj,cL,cR];exact hE
 ·clear a;have a:=bC;simp only[aA,seval];apply sp bQ a<;>intro _ a
  ·cases a;simp only[aA,seval];rw[aF];refine⟨_,rfl,?_⟩;refine⟨0,?_,?_,?_,?_,?_,?_,?_⟩;all_goals (rfl)
  ·obtain⟨b5,bu,a⟩:=ae a;simp only[aA,seval,bu];apply sp bQ a<;>intro _ a
   ·cases a;simp only[aA,seval];rw[aF];refine⟨_,rfl,?_⟩;refine⟨0,?_,?_,?_,?_,?_,?_,?_⟩;all_goals (rfl)
   ·have bw:=aan ([p3]);simp only[ch,bG,List.length_cons,amr]at bw;obtain⟨b6,bx,a⟩:=ae a;cases a;simp only[aA,seval,bw,bx];rw[aF];refine⟨_,rfl,?_⟩;refine⟨0,?_,?_,?_,?_,?_,?_,?_⟩;all_goals (rfl)
end Go.Proofs.YtobnihfgnbnncaaGreat.Am
namespace Go.Proofs.YtobnihfgnbnncaaGreat.Am
open Go.ChangeShapes Go.WideShapes Go.ChangeAt Go.RowKit Go.Proofs.YtobnihfgnbnncaaGreat.P
set_option maxRecDepth 100000
def Tryz.own:ownKnob Tryz.prog.godebug=none:=by kernel_rfl
def Tryz.laidOut:laidOutB prog=true:=by kernel_rfl
def OV (n:Nat):GI tab (n+1) 3 (eI .i64) (fun x=>(Lit.int .i64 x).wf=true):=opI TT rfl rfl
def BR (x:ir):Prop:=(Lit.int .i64 x.a8).wf=true∧((Lit.int .i64 x.aS).wf=true∧((Lit.int .i64 x.aB).wf=true))
def ai9 (n:Nat):GI tab (n+2) 83 bl (fun x=>BR x):=opS (g:=fun y=>ir.mk y.1 y.2.1 y.2.2) Pq rfl rfl (fun _=>rfl) (Ks (OV n) rfl (Ks (OV n) rfl (aaf (OV n))))
def ai4 (n:Nat):GI tab (n+3) 51 (fL bl) (fun x=>(x.length*24<=140737488351232∧∀y∈x,BR y)):=aag VS rfl rfl (by rw[Pq];rfl) (ai9 n)
def akI (n:Nat):GI tab (n+1) 9 ahm (fun x=>x.size<=140737488351232):=ai1 aee rfl rfl
def OL (x:sC):Prop:=(Lit.int .i64 x.a8).wf=true∧((Lit.int .i64 x.aS).wf=true∧((Lit.int .i64 x.aB).wf=true∧(x.Oe.size<=140737488351232)))
def ai7 (n:Nat):GI tab (n+2) 60 dX (fun x=>OL x):=opS (g:=fun y=>sC.mk y.1 y.2.1 y.2.2.1 y.2.2.2) Po rfl rfl (fun _=>rfl) (Ks (OV n) rfl (Ks (OV n) rfl (Ks (OV n) rfl (aaf (akI n)))))
def ai5 (n:Nat):GI tab (n+3) 52 (fL dX) (fun x=>(x.length*40<=140737488351232∧∀y∈x,OL y)):=aag VT rfl rfl (by rw[Po];rfl) (ai7 n)
def ai2 (n:Nat):GI tab (n+2) 22 (fL (eI .i64)) (fun x=>(x.length*8<=140737488351232∧∀y∈x,(Lit.int .i64 y).wf=true)):=aag Pk rfl rfl (by rw[TT];rfl) (OV n)
def OK (x:aH):Prop:=(Lit.int .i64 x.al).wf=true∧((x.aa.length*8<=140737488351232∧∀y∈x.aa,(Lit.int .i64 y).wf=true))
def agU (n:Nat):GI tab (n+3) 39 je (fun x=>OK x):=opS (g:=fun y=>aH.mk y.1 y.2) VR rfl rfl (fun _=>rfl) (Ks (OV (n+1)) rfl (aaf (ai2 n)))
def se (x:ah):Prop:=OK x.bn∧(OK x.bu)
def agV (n:Nat):GI tab (n+4) 41 ak (fun x=>se x):=opS (g:=fun y=>ah.mk y.1 y.2) Pm rfl rfl (fun _=>rfl) (Ks (agU n) rfl (aaf (agU n)))
def agT (n:Nat):GI tab (n+5) 27 (fL ak) (fun x=>(x.length*64<=140737488351232∧∀y∈x,se y)):=aag JC rfl rfl (by rw[Pm];rfl) (agV n)
def ai3 (n:Nat):GI tab (n+6) 26 (fL (fL ak)) (fun x=>(x.length*24<=140737488351232∧∀y∈x,(y.length*64<=140737488351232∧∀z∈y,se z))):=aag VQ rfl rfl (by rw[JC];rfl) (agT n)
def C6 (x:dR):Prop:=(x.aq.length*24<=140737488351232∧∀y∈x.aq,BR y)∧((x.aG.length*40<=140737488351232∧∀y∈x.aG,OL y)∧((x.aO.length*24<=140737488351232∧∀y∈x.aO,(y.length*64<=140737488351232∧∀z∈y,se z))))
def ai6 (n:Nat):GI tab (n+7) 54 vE (fun x=>C6 x):=opS (g:=fun y=>dR.mk y.1 y.2.1 y.2.2) Pn rfl rfl (fun _=>rfl) (Ks (ai4 (n+3)) rfl (Ks (ai5 (n+3)) rfl (aaf (ai3 n))))
def wG (x:aY):Prop:=(Lit.int .i64 x.aB).wf=true∧(se x.cJ)
def ahJ (n:Nat):GI tab (n+5) 133 aQ (fun x=>wG x):=opS (g:=fun y=>aY.mk y.1 y.2) Gv rfl rfl (fun _=>rfl) (Ks (OV (n+3)) rfl (aaf (agV n)))
def ai8 (n:Nat):GI tab (n+6) 77 (fL aQ) (fun x=>(x.length*72<=140737488351232∧∀y∈x,wG y)):=aag Pp rfl rfl (by rw[Gv];rfl) (ahJ n)
def yv:abc tab 8 [54,77,3,27] (gj (bW vE) (gj (jX aQ) (gj (aI .i64) (dM (jX ak))))) (fun x=>C6 x.1∧((x.2.1.length*72<=140737488351232∧∀y∈x.2.1,wG y)∧((Lit.int .i64 x.2.2.1).wf=true∧((x.2.2.2.length*64<=140737488351232∧∀y∈x.2.2.2,se y))))):=(ahG (oaS Pn rfl (ai6 1)) (ahG (ai0 Pp rfl (ai8 2)) (ahG (oaI TT rfl) (akH (ai0 JC rfl (agT 3))))))
def xz (law:∀(g:dR) (e:(List aY)) (h:Int) (f:(List ah)),(C6 g)->((e.length*72<=140737488351232∧∀y∈e,wG y))->((Lit.int .i64 h).wf=true)->((f.length*64<=140737488351232∧∀y∈f,se y))->P.iB g e h f=some true) (i:Os) (a:i.Started) (H:Type) (b:TypeId×Value->H) :
  ReturnsInHanded {} Tryz.checked i 8 .any (Rows.carryStocksSpec.pre6 b prog Tryz.f8 Rows.carryStocksRow.domain false) (Rows.carryStocksSpec.post b prog Tryz.f8 false true false false):=by
 refine VB (C:=Tryz.checked) (T:=tab) (tb:=4) (n:=8) tok Tryz.own a (by kernel_rfl) func8
  (ChangeSpec.witness6 (enc:=b) (C:=Tryz.checked) false ⟨#[],#[.agg #[.slice none 0 0,.slice none 0 0,.slice none 0 0],.slice none 0 0,.int .i64 0,.slice none 0 0],[]⟩ 8 (by kernel_rfl) (by kernel_rfl) (by kernel_rfl) (by kernel_rfl)) Tryz.laidOut (by kernel_rfl) rfl (by kernel_rfl) rfl (fun l c =>?_) (fun m j k =>?_)
 ·rw[Tryz.params8]at c
  match l,c with
  | [d0,d1,d2,d3],_=>exact⟨rfl,rfl,rfl⟩
 ·rw[Tryz.params8]at j k;exact ahx yv BS (fun x d=>law x.1 x.2.1 x.2.2.1 x.2.2.2 d.1 d.2.1 d.2.2.1 d.2.2.2) m j k
set_option maxHeartbeats 4000000 in
theorem yp (b:∀(f:dR) (c:(List aY)) (g:Int) (d:(List ah)),(C6 f)->((c.length*72<=140737488351232∧∀y∈c,wG y))->((Lit.int .i64 g).wf=true)->((d.length*64<=140737488351232∧∀y∈d,se y))->P.iB f c g d=some true):Rows.CarryStocksSaid :=
 OpenClaim.holds_of_wide 8 Tryz.f8 rfl rfl rfl rfl rfl rfl rfl ⟨rfl,rfl,rfl,rfl,rfl⟩ rfl rfl rfl rfl rfl (by kernel_rfl) func8 (by kernel_rfl)
  (of_decide_eq_true (by kernel_rfl)) (by unfold Func.isWrapper;first|(rw[if_pos (by decide +kernel)];kernel_rfl)|(rw[if_neg (by decide +kernel)];exact⟨rfl,rfl⟩))
  (fun h a H e _=>xz b h a H e)
end Go.Proofs.YtobnihfgnbnncaaGreat.Am
namespace Go.Proofs.YtobnihfgnbnncaaGreat.P
open Go.RowKit
def bN (n:Nat):List Int:=if h:n=0 then [] else ((n % 1048576:Nat):Int)::bN (n / 1048576)
termination_by n
decreasing_by omega
def dv:List Int->Int
 | []=>0
 | d::l=>d+1048576*dv l
def Dg (l:List Int):Prop:=∀d∈l,0<=d∧d<1048576
def pw (i:Nat):Int:=1048576 ^ i
def vt:pw 0=1:=rfl
def nc (i:Nat):pw (i+1)=1048576*pw i:=by unfold pw;omega
def uD (i:Nat):0<pw i:=by unfold pw;exact Int.pow_pos (by decide)
def O1 (i j:Nat):pw (i+j)=pw i*pw j:=by unfold pw;rw[Int.pow_add]
def xF {i j:Nat} (h:i<=j):pw i<=pw j:=by
 obtain⟨k,rfl⟩:=Nat.le.dest h;rw[O1];have a:=uD i;have b:=uD k
 calc pw i=pw i*1:=by rw[Int.mul_one]
  _<=pw i*pw k:=anv (by omega) (by omega)
def eD:bN 0=[]:=by rw[bN];rfl
def rP {n:Nat} (h:n≠0):bN n=((n % 1048576:Nat):Int)::bN (n / 1048576):=by rw[bN,dif_neg h]
def yT {n:Nat} : bN n=[]↔n=0:=by
 constructor
 ·intro h;rcases alH n with a|a
  ·exact a
  ·rw[rP (by omega)]at h;cases h
 ·rintro rfl;exact eD
def de:∀n:Nat,dv (bN n)=n:=by
 intro n
 induction n using Nat.strongRecOn with
 | _ n b =>
  rcases alH n with a|a
  ·subst a;rw[eD];rfl
  ·rw[rP (by omega),dv,b (n / 1048576) (by omega)];omega
def fV:∀n:Nat,Dg (bN n):=by
 intro n
 induction n using Nat.strongRecOn with
 | _ n c =>
  rcases alH n with b|b
  ·subst b;rw[eD];intro d a;cases a
  ·rw[rP (by omega)];intro d a;rcases alx.1 a with rfl|a
   ·omega
   ·exact c (n / 1048576) (by omega) d a
def Dg.nil:Dg []:=fun d a=>by cases a
def Dg.cons {d:Int} {l:List Int} (h:Dg (d::l)):(0<=d∧d<1048576)∧Dg l:=⟨h d amH,fun x a=>h x (amI _ a)⟩
def Dg.mk {d:Int} {l:List Int} (h:0<=d∧d<1048576) (b:Dg l):Dg (d::l):=fun x a=>by
 rcases alx.1 a with rfl|a
 ·exact h
 ·exact b x a
def Dg.append {l m:List Int} (h:Dg l) (a:Dg m):Dg (l++m):=fun x b=>(amG.1 b).elim (h x) (a x)
def Dg.take {l:List Int} (h:Dg l) (n:Nat):Dg (l.take n):=fun x a=>h x (al6 a)
def Dg.drop {l:List Int} (h:Dg l) (n:Nat):Dg (l.drop n):=fun x a=>h x (al4 a)
def Dg.rep (n:Nat):Dg (List.replicate n 0):=fun x a=>by simp_all
def Dg.set {l:List Int} (h:Dg l) (i:Nat) {x:Int} (b:0<=x∧x<1048576):Dg (l.set i x):=fun y a=>by
 rcases List.mem_or_eq_of_mem_set a with a|rfl
 ·exact h y a
 ·exact b
def Dg.get {l:List Int} (h:Dg l) {i:Nat} (a:i<l.length):0<=l[i]∧l[i]<1048576:=h _ (alC a)
def eM:∀ {l:List Int},Dg l->0<=dv l
 | [],_=>Int.le_refl _
 | d::l,h=>by
  have a:=h.cons;have:=eM a.2;simp only[dv];omega
def u7:∀ {l:List Int},Dg l->dv l<pw l.length
 | [],_=>by simp[dv,vt]
 | d::l,h=>by
  have a:=h.cons;have:=u7 a.2;simp only[dv,List.length_cons,nc];omega
def mF:∀l m:List Int,dv (l++m)=dv l+pw l.length*dv m
 | [],m=>by simp[dv,vt]
 | d::l,m=>by
  rw[am7,dv,dv,mF l m,ama,nc,anw,Int.mul_assoc];omega
def Ho:∀n:Nat,dv (List.replicate n 0)=0
 | 0=>rfl
 | n+1=>by rw[amg,dv,Ho n];rfl
def mG {l:List Int} {i:Nat} (h:i<l.length):dv (l.take (i+1))=dv (l.take i)+pw i*l[i]:=by
 have e:l.take (i+1)=l.take i++[l[i]]:=by simp_all
 rw[e,mF,alI,ann (by omega)];simp[dv]
def l8 (l:List Int) {i:Nat} (h:i<=l.length):dv l=dv (l.take i)+pw i*dv (l.drop i):=by
 have:=mF (l.take i) (l.drop i);simp_all
def yY {l:List Int} {i:Nat} (h:i<l.length) (x:Int):dv (l.set i x)=dv l+pw i*(x-l[i]):=by
 induction l generalizing i with
 | nil=>simp at h
 | cons d l a =>
  cases i with
  | zero=>simp only[List.set_cons_zero,dv,vt,List.getElem_cons_zero];omega
  | succ i =>
   have:=a (i:=i) (by simpa using h);simp only[List.set_cons_succ,dv,this,nc,List.getElem_cons_succ,anw,Int.mul_assoc];omega
def Gl:∀ {l:List Int},Dg l->(∀h:l≠[],l.getLast h≠0)->bN (dv l).toNat=l
 | [],_,_=>by simp[dv,eD]
 | d::l,h,n=>by
  have a:=h.cons;have o:=eM a.2;have b:(dv (d::l)).toNat≠0:=by
   simp only[dv];intro p;have c:d=0:=by omega
   have g:dv l=0:=by omega
   cases l with
   | nil=>simp_all
   | cons e m =>
    have f:=Gl a.2 (fun i=>by simp_all);rw[g]at f;simp[eD]at f
  rw[rP b];have j:(dv (d::l)).toNat % 1048576=d.toNat:=by simp only[dv];omega
  have k:(dv (d::l)).toNat / 1048576=(dv l).toNat:=by simp only[dv];omega
  rw[j,k];have c:(d.toNat:Int)=d:=by omega
  rw[c];cases l with
  | nil=>simp[dv,eD]
  | cons e m=>rw[Gl a.2 (fun i=>by simp_all)]
def Zj:∀(n:Nat) (h:bN n≠[]),(bN n).getLast h≠0:=by
 intro n
 induction n using Nat.strongRecOn with
 | _ n d =>
  intro h;have b:n≠0:=fun a=>h (yT.2 a);have e:=rP b
  by_cases hq:n / 1048576=0
  ·have:bN n=[((n % 1048576:Nat):Int)]:=by rw[e,hq,eD]
   grind
  ·have c:bN (n / 1048576)≠[]:=fun a=>hq (yT.1 a);grind
def abY {a b:Nat} (h:bN a=bN b):a=b:=by
 have:=congrArg dv h;rw[de,de]at this;omega
def oZ {n k:Nat} (h:(n:Int)<pw k):(bN n).length<=k:=by
 induction k generalizing n with
 | zero =>
  rw[vt]at h;have:n=0:=by omega
  rw[this,eD];simp
 | succ k b =>
  by_cases a:n=0
  ·rw[a,eD];simp
  ·rw[rP a,ama];rw[nc]at h;grind
def mg (n:Nat):(n:Int)<pw (bN n).length:=by
 have:=u7 (fV n)
 rwa [de]at this
def Ct {n:Nat} (h:n≠0):pw ((bN n).length-1)<=n∧0<(bN n).length:=by
 induction n using Nat.strongRecOn with
 | _ n b =>
  rw[rP h,ama];refine⟨?_,by omega⟩
  by_cases a:n / 1048576=0
  ·rw[a,eD];simp[vt];omega
  ·obtain⟨c,d⟩:=b (n / 1048576) (by omega) a;have:(bN (n / 1048576)).length+1-1=((bN (n / 1048576)).length-1)+1:=by omega
   rw[this,nc];omega
def yF {x:Int} (b : -9223372036854775808<=x) (c:x<9223372036854775808):nN .and .i64 x 1048575=x % 1048576:=by
 unfold nN;simp only;have a:(BitVec.ofInt IntKind.i64.bits x &&& BitVec.ofInt IntKind.i64.bits 1048575).toNat=((x % 18446744073709551616).toNat) % 1048576:=by
  rw[BitVec.toNat_and,BitVec.toNat_ofInt,BitVec.toNat_ofInt];have e:((1048575:Int) % ((2 ^ IntKind.i64.bits:Nat):Int)).toNat=2 ^ 20-1:=by decide
  rw[e,anx];rfl
 rw[a,wrap64 (by omega) (by omega)];omega
def aeN {x:Int} (b : -9223372036854775808<=x) (c:x<9223372036854775808):nN .and .i64 x 1=x % 2:=by
 unfold nN;simp only;have a:(BitVec.ofInt IntKind.i64.bits x &&& BitVec.ofInt IntKind.i64.bits 1).toNat=((x % 18446744073709551616).toNat) % 2:=by
  rw[BitVec.toNat_and,BitVec.toNat_ofInt,BitVec.toNat_ofInt];have e:((1:Int) % ((2 ^ IntKind.i64.bits:Nat):Int)).toNat=2 ^ 1-1:=by decide
  rw[e,anx];rfl
 rw[a,wrap64 (by omega) (by omega)];omega
def TB (x:Int):B1 .i64 x 20=some (x / 1048576):=by
 unfold B1;rw[if_neg (by decide)];have e:(2:Int) ^ (min (Int.toNat 20) IntKind.i64.bits)=1048576:=by decide
 grind
def adN {x:Int} (a:0<=x) (h:x<8796093022208):Kz .i64 x 20=some (1048576*x):=by
 unfold Kz;rw[if_neg (by decide)];have e:(2:Int) ^ (min (Int.toNat 20) IntKind.i64.bits)=1048576:=by decide
 rw[e,wrap64 (by omega) (by omega),Int.mul_comm]
def Vt {x y:Int} (d:0<=x) (h:x<8796093022208) (f:0<=y∧y<1048576):nN .or .i64 (1048576*x) y=1048576*x+y:=by
 unfold nN;simp only;have a:(BitVec.ofInt IntKind.i64.bits (1048576*x) ||| BitVec.ofInt IntKind.i64.bits y).toNat=1048576*x.toNat+y.toNat:=by
  rw[BitVec.toNat_or,BitVec.toNat_ofInt,BitVec.toNat_ofInt];have e:((2 ^ IntKind.i64.bits:Nat):Int)=18446744073709551616:=by decide
  rw[e];have b:((1048576*x) % 18446744073709551616).toNat=x.toNat <<< 20:=by omega
  have c:(y % 18446744073709551616).toNat=y.toNat:=by omega
  rw[b,c,<- Nat.shiftLeft_add_eq_or_of_lt (by omega),Nat.shiftLeft_eq];omega
 rw[a,wrap64 (by omega) (by omega)];omega
def mk0 {n:Nat} (h:n<=17592186044416):JV 8 (n:Int) (n:Int) (0:Int)=some (List.replicate n 0):=by
 unfold JV;rw[if_pos]
 ·simp
 ·have:(17592186044416:Int)<=maxLen:=by decide
  omega
def JY {l m:List Int} (h:l.length+m.length<=17592186044416):nB 8 l m=some (l++m):=by
 unfold nB;have:(17592186044416:Nat)<=maxLen:=by decide
 grind
def db {σ ρ:Type} {body:σ->Option (σ⊕ρ)} (I:Nat->σ->Prop) (n:Nat) (Q:ρ->Prop) {s:σ} (c:I 0 s) (m:n+1<FU)
  (a:∀i s,i<=n->I i s->(i<n∧∃b,body s=some (.inl b)∧I (i+1) b)∨(∃r,body s=some (.inr r)∧Q r)):∃r,aR body s=some r∧Q r:=by
 have key:∀(k i:Nat) (s:σ),i<=n->n-i<k->I i s->∃r,sU body k s=some r∧Q r:=by
  intro k
  induction k with
  | zero=>omega
  | succ k f =>
   intro i s g o c;rcases a i s g c with⟨h,b,d,e⟩|⟨r,d,e⟩
   ·obtain⟨r,j,l⟩:=f (i+1) b (by omega) (by omega) e;exact⟨r,by simp only[sU,d];exact j,l⟩
   ·exact⟨r,by simp only[sU,d],e⟩
 exact key FU 0 s (alr _) (by omega) c
def afJ (i:Nat) (x:Int):pw (i+1)*x=pw i*(1048576*x):=by rw[nc,Int.mul_comm 1048576 (pw i),Int.mul_assoc]
def Es (i:Nat) (t:Int):pw i*(t % 1048576)+pw (i+1)*(t / 1048576)=pw i*t:=by
 rw[afJ,<- anw];congr 1;omega
def jQ {n:Nat} (h:n<=17592186044416):n+1<FU:=by unfold FU;omega
abbrev Fit (l:List Int):Prop:=l.length<=17592186044416
def nz {x:Int} (h : -4611686018427387904<=x∧x<=4611686018427387904):IntKind.i64.wrap x=x:=wrap64 (by omega) (by omega)
def zx {α:Type} (o:Option α):(o.bind fun r=>some r)=o:=by cases o<;>rfl
def aaF {l:List Int} (b:Fit l):∃r,aR (rM l) (l.length:Int)=some r∧∃k:Nat,r=k∧k<=l.length∧(∀j (c:j<l.length),k<=j->l[j]=0)∧(∀h:0<k,∀d:k-1<l.length,l[k-1]≠0):=by
 unfold Fit at b;refine db (I:=fun i s=>s=((l.length-i:Nat):Int)∧(∀j (c:j<l.length),l.length-i<=j->l[j]=0)) l.length _ ⟨rfl,fun j c h=>by omega⟩ (jQ b) ?_;rintro i s m ⟨rfl,f⟩;generalize d:l.length-i=k at *;simp only[rM]
 by_cases g:0<k
 ·have a:k-1<l.length:=by omega
  have e:IntKind.i64.wrap ((k:Int)-1)=((k-1:Nat):Int):=by rw[nz (by omega)];omega
  rw[if_pos (by simp;omega),e,eJ a,amN]
  by_cases n:l[k-1]=0
  ·left;grind
  grind
 ·right;exact⟨_,by simp_all,k,rfl,by omega,f,fun h=>absurd h g⟩
def acm {l:List Int} {k:Nat} (b:∀j (c:j<l.length),k<=j->l[j]=0):dv (l.drop k)=0:=by
 have:l.drop k=List.replicate (l.drop k).length 0:=by
  refine List.eq_replicate_of_mem fun x a =>?_;obtain⟨i,d,rfl⟩:=List.mem_iff_getElem.1 a;simp_all
 rw[this,Ho]
def Dp {l:List Int} (c:Fit l) (d:Dg l):fO l=some (bN (dv l).toNat):=by
 obtain⟨r,e,k,rfl,b,f,a⟩:=aaF c;unfold fO;rw[e,amN,afY b,amN];congr 1;have g:dv l=dv (l.take k):=by rw[l8 l b,acm f];omega
 rw[g];refine (Gl (d.take k) fun h =>?_).symm;grind
def Gw {l:List Int} {n:Nat} (a:Fit l) (b:Dg l) (c:dv l=n):fO l=some (bN n):=by
 rw[Dp a b,c];rfl
def gd (l:List Int) (i:Nat):Int:=if h:i<l.length then l[i] else 0
def Xq {l:List Int} (h:Dg l) (i:Nat):0<=gd l i∧gd l i<1048576:=by
 unfold gd;split
 ·exact h.get _
 ·omega
def CO {l:List Int} (i:Nat):dv (l.take (i+1))=dv (l.take i)+pw i*gd l i:=by
 unfold gd;split
 ·exact mG _
 ·rw[am4 (by omega),am4 (by omega)];simp
def HR {l:List Int} {i:Nat} (h:l.length<=i):dv (l.take i)=dv l:=by rw[am4 h]
def abl {a b:List Int} (w:Dg a) (y:Dg b) (D:a.length<17592186044416) (g:b.length<=a.length) :
  ∃r,aR (tR a b) (0,0,List.replicate (a.length+1) 0)=some r∧r.2.length=a.length+1∧Dg r.2∧(∀j (f:j<r.2.length),a.length<=j->r.2[j]=0)∧(0<=r.1∧r.1<=1)∧dv r.2+pw a.length*r.1=dv a+dv b:=by
 refine db (I:=fun i s=>s.2.1=(i:Int)∧s.2.2.length=a.length+1∧Dg s.2.2∧(∀j (f:j<s.2.2.length),i<=j->s.2.2[j]=0)∧(0<=s.1∧s.1<=1)∧dv s.2.2+pw i*s.1=dv (a.take i)+dv (b.take i))
  a.length _ ⟨rfl,by simp,Dg.rep _,fun j f _=>by simp,by simp,by simp[Ho,dv]⟩ (jQ (by omega)) ?_
 rintro i ⟨c,s,l⟩ E ⟨t,k,m,hz,u,v⟩;simp only at t k m hz u v;subst t;simp only[tR]
 by_cases d:i<a.length
 ·left;rw[if_pos (by simpa using d),eJ d,amN];have F:=w.get d;have z:=Xq y i;have A:(if decide ((i:Int)<(b.length:Int))=true then (P.idx b (i:Int)).bind fun n=>some (IntKind.i64.wrap ((IntKind.i64.wrap (c+a[i]))+n)) else some (IntKind.i64.wrap (c+a[i])))=some (c+a[i]+gd b i):=by
   by_cases e:i<b.length
   ·rw[if_pos (by simpa using e),eJ e,amN];have:gd b i=b[i]:=by unfold gd;rw[dif_pos e]
    rw[this]at z ⊢;rw[nz (x:=c+a[i]) (by omega),nz (by omega)]
   ·rw[if_neg (by simpa using e)];have:gd b i=0:=by unfold gd;rw[dif_neg e]
    rw[this,nz (by omega)];simp
  rw[A,amN,eJ (by omega),amN,TB,amN,yF (by omega) (by omega)];have o:l[i]=0:=hz i (by omega) (alq _);have B:IntKind.i64.wrap ((i:Int)+1)=((i+1:Nat):Int):=by rw[nz (by omega)];omega
  refine⟨d,_,rfl,B,by simpa using k,m.set _ (by omega),fun j f C =>?_,by simp only;omega,?_⟩
  ·grind
  ·simp only[Int.toNat_natCast];rw[yY (by omega),o,CO,CO];have p:gd a i=a[i]:=by unfold gd;rw[dif_pos d]
   rw[p];have G:=Es i (c+a[i]+gd b i);grind
 ·right;have q:i=a.length:=by omega
  subst q;refine⟨_,by rw[if_neg (by simp)],k,m,fun j f h=>hz j f h,u,?_⟩;rw[v,HR (alq _),HR g]
def add_eq {a b:List Int} (k:Dg a) (m:Dg b) (g:a.length<17592186044416) (s:b.length<17592186044416):u3 a b=some (bN (dv a+dv b).toNat):=by
 have n:∀ {a b:List Int},Dg a->Dg b->a.length<17592186044416->b.length<=a.length ->
   ((JV 8 (IntKind.i64.wrap ((a.length:Int)+1)) (IntKind.i64.wrap ((a.length:Int)+1)) 0).bind fun t =>
    (aR (tR a b) (0,0,t)).bind fun q=>match q with
    | (h,d) =>
     (P.idx d (a.length:Int)).bind fun u =>
     (fO (d.set ((a.length:Int)).toNat h)).bind fun i =>
     some i)=some (bN (dv a+dv b).toNat):=by
  intro a b k m g j;have e:IntKind.i64.wrap ((a.length:Int)+1)=((a.length+1:Nat):Int):=by rw[nz (by omega)];omega
  rw[e,mk0 (by omega),amN];obtain⟨⟨c,l⟩,v,w,o,p,x,r⟩:=abl k m g j;rw[v];simp only[Option.bind_some]at w o p x r ⊢;have f:a.length<l.length:=by omega
  rw[eJ f,amN,amk,zx];have y:dv (l.set a.length c)=dv a+dv b:=by
   rw[yY f,p _ f (alq _),Int.sub_zero,r]
  rw[Dp (by simp[Fit];omega) (o.set _ (by omega)),y]
 unfold u3;grind
def yQ {l:List Int} (h:Fit l):cA l=some l:=by
 unfold cA;rw[JY (by simpa using h),amU]
def acI {l:List Int} {i:Nat} (h:i<l.length):gd l i=l[i]:=by unfold gd;rw[dif_pos h]
def acH {l:List Int} {i:Nat} (h:l.length<=i):gd l i=0:=by unfold gd;grind
def ad1 {a b:List Int} (t:Dg a) (w:Dg b) (y:Fit a) (m:b.length<=a.length) (z:dv b<=dv a) :
  ∃l,aR (xi b a) (0,0,a)=some l∧l.length=a.length∧Dg l∧dv l=dv a-dv b:=by
 unfold Fit at y;refine db (I:=fun i s=>s.2.1=(i:Int)∧s.2.2.length=a.length∧Dg s.2.2∧(∀j (u:j<s.2.2.length) (n:j<a.length),i<=j->s.2.2[j]=a[j])∧(0<=s.1∧s.1<=1)∧dv s.2.2+dv (b.take i)=dv a+pw i*s.1)
  a.length _ ⟨rfl,rfl,t,fun j u _ _=>rfl,by simp,by simp[dv]⟩ (jQ (by omega)) ?_
 rintro i ⟨c,s,l⟩ G ⟨g,h,k,o,A,v⟩;simp only at g h k o A v;subst g;simp only[xi]
 by_cases d:i<a.length
 ·left;have e:i<l.length:=by omega
  rw[if_pos (by simpa using d),eJ e,amN,o i e d (alq _)];have H:=t.get d;have B:=Xq w i;have C:(if decide ((i:Int)<(b.length:Int))=true then (P.idx b (i:Int)).bind fun p=>some (IntKind.i64.wrap ((IntKind.i64.wrap (a[i]-c))-p)) else some (IntKind.i64.wrap (a[i]-c)))=some (a[i]-c-gd b i):=by
   by_cases f:i<b.length
   ·rw[if_pos (by simpa using f),eJ f,amN];rw[acI f]at B ⊢;rw[nz (x:=a[i]-c) (by omega),nz (by omega)]
   ·rw[if_neg (by simpa using f),acH (by omega),nz (by omega)];simp
  rw[C,amN,TB,amN,yF (by omega) (by omega),aeN (by omega) (by omega)];have D:IntKind.i64.wrap ((i:Int)+1)=((i+1:Nat):Int):=by rw[nz (by omega)];omega
  refine⟨d,_,rfl,D,by simpa using h,k.set _ (by omega),fun j u n E =>?_,by simp only;omega,?_⟩
  ·grind
  ·simp only[Int.toNat_natCast];rw[yY e,o i e d (alq _),CO];have J:=Es i (a[i]-c-gd b i);have F:(a[i]-c-gd b i) / 1048576 % 2 = - ((a[i]-c-gd b i) / 1048576):=by omega
   grind
 ·right;have q:i=a.length:=by omega
  subst q;refine⟨l,by simp_all,h,k,?_⟩;rw[HR m]at v;have g:=u7 k;rw[h]at g;have r:c=0:=by
   grind
  subst r;omega
def sub_eq {a b:List Int} (f:Dg a) (g:Dg b) (e:Fit a) (c:b.length<=a.length) (d:dv b<=dv a):u4 a b=some (bN (dv a-dv b).toNat):=by
 obtain⟨l,h,k,i,j⟩:=ad1 f g e c d;unfold u4;rw[yQ e,amN,h,amN,zx,Dp (by omega) i,j]
def rF {l:List Int} {i:Nat} (h:i<l.length):dv (l.drop i)=l[i]+1048576*dv (l.drop (i+1)):=by
 rw[anc h,dv]
def aiN {x d:Int} (h:0<=x) (a:0<d) (b:x<4611686018427387904):Zo .i64 x d=some (x / d):=by
 unfold Zo;rw[if_neg (by omega),Int.tdiv_eq_ediv_of_nonneg h,nz];have:=anz h (Int.le_of_lt a);have:=Int.ediv_le_self d h;omega
def aiY {x d:Int} (h:0<=x) (a:0<d):Z7 .i64 x d=some (x % d):=by
 unfold Z7;grind
def VG {a:List Int} {d:Int} (t:Dg a) (e:0<d∧d<=1048576) (u:Fit a) :
  ∃r,aR (te a d) (0,IntKind.i64.wrap ((a.length:Int)-1),List.replicate a.length 0)=some r∧r.2.length=a.length∧Dg r.2∧(0<=r.1∧r.1<d)∧dv a=d*dv r.2+r.1:=by
 unfold Fit at u;have v:IntKind.i64.wrap ((a.length:Int)-1)=(a.length:Int)-1:=nz (by omega);rw[v];refine db (I:=fun i s=>s.2.1=((a.length-i:Nat):Int)-1∧s.2.2.length=a.length∧Dg s.2.2∧(0<=s.1∧s.1<d)∧dv (a.drop (a.length-i))=d*dv (s.2.2.drop (a.length-i))+s.1)
  a.length _ ⟨rfl,by simp,Dg.rep _,by simp;omega,by simp[dv]⟩ (jQ (by omega)) ?_
 rintro i ⟨r,s,l⟩ z ⟨n,o,p,w,q⟩;simp only at n o p w q;subst n;generalize A:a.length-i=k at *;simp only[te]
 by_cases B:0<k
 ·left;have b:k-1<a.length:=by omega
  have c:k-1<l.length:=by omega
  have x:((k:Int)-1)=((k-1:Nat):Int):=by omega
  have y:=t.get b;rw[x,if_pos (by simp),adN (by omega) (by omega),amN,eJ b,amN,Vt (by omega) (by omega) y,aiN (by omega) e.1 (by omega),amN,eJ c,amN,aiY (by omega) e.1,amN];have C:IntKind.i64.wrap (((k-1:Nat):Int)-1)=((k-1:Nat):Int)-1:=nz (by omega);have f:0<=1048576*r+a[k-1]:=by omega
  have g:0<=(1048576*r+a[k-1]) / d:=anz f (by omega);have h:(1048576*r+a[k-1]) / d<1048576:=by
   apply anA e.1;omega
  have j:=Int.emod_nonneg (1048576*r+a[k-1]) (show d≠0 by omega);have m:=anB (1048576*r+a[k-1]) e.1;refine⟨by omega,_,rfl,by grind,by simpa using o,p.set _ ⟨g,h⟩,⟨j,m⟩,?_⟩;simp only[Int.toNat_natCast];rw[show a.length-(i+1)=k-1 by omega,rF b,rF (l:=l.set (k-1) _) (i:=k-1) (by simpa using c),show k-1+1=k by omega,List.getElem_set_self,List.drop_set_of_lt (by omega),q];have:=anC (1048576*r+a[k-1]) d;grind
 simp_all
def TA {a:List Int} {d:Int} (g:Dg a) (h:0<d∧d<=1048576) (e:Fit a):qI a d=some (bN (dv a / d).toNat,dv a % d):=by
 obtain⟨⟨r,l⟩,i,j,f,b,c⟩:=VG g h e;unfold qI;rw[mk0 e,amN,i,amN];simp only at j f b c ⊢;rw[Dp (by omega) f,amN];have k:dv a / d=dv l:=by
  rw[c,Int.mul_comm,Int.add_comm,Int.add_mul_ediv_right _ _ (by omega),Int.ediv_eq_zero_of_lt b.1 b.2];omega
 have m:dv a % d=r:=by
  rw[c,Int.mul_comm,Int.add_comm,Int.add_mul_emod_self_right];exact Int.emod_eq_of_lt b.1 b.2
 rw[k,m]
def Z9 {b l0:List Int} {x:Int} {i n:Nat} (p:Dg b) (q:0<=x∧x<1048576) (t:Dg l0) (u:l0.length=n) (F:i+b.length<n) (G:n<=17592186044416) (e:∀j (f:j<l0.length),i+b.length<=j->l0[j]=0) :
  ∃r,aR (xh b (i:Int) x) (0,0,l0)=some r∧r.2.length=n∧Dg r.2∧(0<=r.1∧r.1<1048576)∧(∀j (f:j<r.2.length),i+b.length<=j->r.2[j]=0)∧dv r.2+pw (i+b.length)*r.1=dv l0+pw i*(x*dv b):=by
 refine db (I:=fun k s=>s.2.1=(k:Int)∧s.2.2.length=n∧Dg s.2.2∧(0<=s.1∧s.1<1048576)∧(∀j (f:j<s.2.2.length),i+b.length<=j->s.2.2[j]=0)∧dv s.2.2+pw (i+k)*s.1=dv l0+pw i*(x*dv (b.take k)))
  b.length _ ⟨rfl,u,t,by simp,e,by simp[dv]⟩ (jQ (by omega)) ?_
 rintro k ⟨c,s,l⟩ H ⟨h,m,g,v,e,w⟩;simp only at h m g v e w;subst h;simp only[xh]
 by_cases a:k<b.length
 ·left;have d:i+k<l.length:=by omega
  have y:IntKind.i64.wrap ((i:Int)+(k:Int))=((i+k:Nat):Int):=by rw[nz (by omega)];omega
  have o:=p.get a;have J:=g.get d;have z:0<=x*b[k]:=anD q.1 o.1;have A:x*b[k]<=1048575*1048575:=Int.mul_le_mul (by omega) (by omega) o.1 (by omega);rw[if_pos (by simpa using a),eJ a,amN,y,eJ d,amN,nz (x:=x*b[k]) (by omega),nz (x:=l[i+k]+x*b[k]) (by omega),nz (x:=l[i+k]+x*b[k]+c) (by omega),TB,amN,yF (by omega) (by omega)];have B:IntKind.i64.wrap ((k:Int)+1)=((k+1:Nat):Int):=by rw[nz (by omega)];omega
  refine⟨a,_,rfl,B,by simpa using m,g.set _ (by omega),by simp only;omega,fun j f C =>?_,?_⟩
  ·grind
  ·simp only[Int.toNat_natCast];rw[yY d,mG a];have D:=Es (i+k) (l[i+k]+x*b[k]+c);rw[anw (pw (i+k)),anw (pw (i+k))]at D;have K:pw i*(x*(dv (b.take k)+pw k*b[k]))=pw i*(x*dv (b.take k))+pw (i+k)*(x*b[k]):=by
    rw[anw,anw,O1];grind
   grind
 ·right;have E:k=b.length:=by omega
  simp_all
def Z8 {a b:List Int} (w:Dg a) (y:Dg b) (z:a.length+b.length<=17592186044416) :
  ∃l,aR (xg a b) (0,List.replicate (a.length+b.length) 0)=some l∧l.length=a.length+b.length∧Dg l∧dv l=dv a*dv b:=by
 refine db (I:=fun i s=>s.1=(i:Int)∧s.2.length=a.length+b.length∧Dg s.2∧(∀j (g:j<s.2.length),i+b.length<=j->s.2[j]=0)∧dv s.2=dv (a.take i)*dv b)
  a.length _ ⟨rfl,by simp,Dg.rep _,fun j g _=>by simp,by simp[dv,Ho]⟩ (jQ (by omega)) ?_
 rintro i ⟨s,l⟩ F ⟨h,k,o,p,q⟩;simp only at h k o p q;subst h;simp only[xg]
 by_cases d:i<a.length
 ·left;have A:=w.get d;obtain⟨⟨c,m⟩,B,r,t,u,f,v⟩:=Z9 (i:=i) (n:=a.length+b.length) y A o k (by omega) z p;rw[if_pos (by simpa using d),eJ d,amN,B,amN];simp only at r t u f v ⊢;have C:IntKind.i64.wrap ((i:Int)+(b.length:Int))=((i+b.length:Nat):Int):=by rw[nz (by omega)];omega
  have e:i+b.length<m.length:=by omega
  rw[C,eJ e,amN,f _ e (alq _),Int.zero_add,nz (x:=c) (by omega)];have D:IntKind.i64.wrap ((i:Int)+1)=((i+1:Nat):Int):=by rw[nz (by omega)];omega
  refine⟨d,_,rfl,D,by simpa using r,t.set _ u,fun j g E =>?_,?_⟩
  ·grind
  ·simp only[Int.toNat_natCast];rw[yY e,f _ e (alq _),Int.sub_zero,v,q,mG d,Int.add_mul,Int.mul_assoc]
 grind
def mul_eq {a b:List Int} (d:Dg a) (f:Dg b) (c:a.length+b.length<=17592186044416):td a b=some (bN (dv a*dv b).toNat):=by
 obtain⟨l,g,j,h,i⟩:=Z8 d f c;unfold td;have e:IntKind.i64.wrap ((a.length:Int)+(b.length:Int))=((a.length+b.length:Nat):Int):=by rw[nz (by omega)];omega
 rw[e,mk0 c,amN,g,amN,zx,Dp (by unfold Fit;omega) h,i]
def mD (x y:Int):Int:=if x<y then -1 else if y<x then 1 else 0
def DD (x y:Int):gZ x y=some (mD x y):=by
 unfold gZ tE mD;grind
def Qw {a b:List Int} (h:Dg a) (j:Dg b) (l:Fit a) (w:a.length=b.length):iN a b=some (mD (dv a) (dv b)):=by
 unfold Fit at l;unfold iN;rw[if_neg (by simp;omega)];have p:IntKind.i64.wrap ((a.length:Int)-1)=(a.length:Int)-1:=nz (by omega);rw[p];have key:∃r,aR (pK a b) ((a.length:Int)-1)=some r∧(match r with | .inl _=>mD (dv a) (dv b)=0 | .inr x=>x=mD (dv a) (dv b)):=by
  refine db (I:=fun i s=>s=((a.length-i:Nat):Int)-1∧a.drop (a.length-i)=b.drop (a.length-i)) a.length _ ⟨rfl,?_⟩ (jQ l) ?_
  ·simp_all
  rintro i s y ⟨rfl,c⟩;generalize z:a.length-i=k at *;simp only[pK]
  by_cases A:0<k
  ·have e:k-1<a.length:=by omega
   have f:k-1<b.length:=by omega
   have q:((k:Int)-1)=((k-1:Nat):Int):=by omega
   rw[q,if_pos (by simp),eJ e,amN,eJ f,amN]
   by_cases d:a[k-1]=b[k-1]
   ·left;rw[if_neg (by simpa using d)];refine⟨by omega,_,rfl,by rw[nz (by omega)];omega,?_⟩;rw[show a.length-(i+1)=k-1 by omega,anc e,anc f,d,show k-1+1=k by omega,c]
   ·right;rw[if_pos (by simpa using d),DD,amN];refine⟨_,rfl,?_⟩;simp only;have m:=l8 a (i:=k) (by omega);have t:=l8 b (i:=k) (by omega);have n:=mG e;have o:=mG f;rw[show k-1+1=k by omega]at n o;have u:=u7 (h.take (k-1));have v:=u7 (j.take (k-1));rw[alI,ann (by omega)]at u v;have B:=eM (h.take (k-1));have C:=eM (j.take (k-1));have D:=uD (k-1);rw[n]at m;rw[o]at t;rw[c]at m;unfold mD;rcases Int.lt_or_gt_of_ne d with g|g
    ·have:pw (k-1)*a[k-1]+pw (k-1)<=pw (k-1)*b[k-1]:=by
      have:pw (k-1)*(a[k-1]+1)<=pw (k-1)*b[k-1]:=anv (by omega) (by omega);grind
     omega
    ·have:pw (k-1)*b[k-1]+pw (k-1)<=pw (k-1)*a[k-1]:=by
      have:pw (k-1)*(b[k-1]+1)<=pw (k-1)*a[k-1]:=anv (by omega) (by omega);grind
     omega
  ·right;have:k=0:=by omega
   subst this;refine⟨.inl (),by simp_all,?_⟩;simp only[am3]at c;simp[c,mD]
 grind
def yS {m n:Nat} (h:(bN m).length<(bN n).length):m<n:=by
 have c:=mg m;have a:n≠0:=fun b=>by subst b;rw[eD]at h;simp at h
 have d:=Ct a;have e:=xF (i:=(bN m).length) (j:=(bN n).length-1) (by omega);omega
def gS {m n:Nat} (h:m<=n):(bN m).length<=(bN n).length:=by
 rcases al7 (bN n).length (bN m).length with h1|h1
 ·have:=yS h1;omega
 ·exact h1
def Bh {m n:Nat} (b:Fit (bN m)) (c:Fit (bN n)):iN (bN m) (bN n)=some (mD m n):=by
 by_cases a:(bN m).length=(bN n).length
 ·rw[Qw (fV m) (fV n) b a,de,de]
 ·unfold iN;rw[if_pos (by simp;omega),DD,zx];unfold mD;rcases Nat.lt_or_gt_of_ne a with h|h
  ·have:=yS h;simp_all
  ·have:=yS h;grind
def O7 {u v:List Int} {g:Int} (w:Dg u) (B:Dg v) (C:0<=g∧g<=1048576) (D:Fit u) (E:v.length<=u.length) :
  ∃r,aR (od u v g) (0,0,u)=some r∧r.2.length=u.length∧Dg r.2∧(0<=r.1∧r.1<=1048576)∧dv r.2+g*dv v=dv u+pw u.length*r.1:=by
 unfold Fit at D;refine db (I:=fun i s=>s.2.1=(i:Int)∧s.2.2.length=u.length∧Dg s.2.2∧(∀j (y:j<s.2.2.length) (f:j<u.length),i<=j->s.2.2[j]=u[j])∧(0<=s.1∧s.1<=1048576)∧dv s.2.2+g*dv (v.take i)=dv u+pw i*s.1)
  u.length _ ⟨rfl,rfl,w,fun j y _ _=>rfl,by simp,by simp[dv]⟩ (jQ (by omega)) ?_
 rintro i ⟨c,s,l⟩ J ⟨z,e,h,k,A,m⟩;simp only at z e h k A m;subst z;simp only[od]
 by_cases a:i<u.length
 ·left;have b:i<l.length:=by omega
  rw[if_pos (by simpa using a),eJ b,amN,k i b a (alq _)];have K:=w.get a;have n:=Xq B i;have o:0<=g*gd v i:=anD C.1 n.1;have p:g*gd v i<=1048576*1048575:=Int.mul_le_mul (by omega) (by omega) n.1 (by omega);have F:(if decide ((i:Int)<(v.length:Int))=true then (P.idx v (i:Int)).bind fun q=>some (IntKind.i64.wrap ((IntKind.i64.wrap (u[i]-c))-(IntKind.i64.wrap (g*q)))) else some (IntKind.i64.wrap (u[i]-c)))=some (u[i]-c-g*gd v i):=by
   by_cases d:i<v.length
   ·rw[if_pos (by simpa using d),eJ d,amN];rw[acI d]at n o p ⊢;rw[nz (x:=u[i]-c) (by omega),nz (x:=g*v[i]) (by omega),nz (by omega)]
   ·rw[if_neg (by simpa using d),acH (by omega),nz (by omega)];simp
  rw[F,amN,TB,amN,yF (by omega) (by omega),nz (x:=0-_) (by omega)];have G:IntKind.i64.wrap ((i:Int)+1)=((i+1:Nat):Int):=by rw[nz (by omega)];omega
  refine⟨a,_,rfl,G,by simpa using e,h.set _ (by omega),fun j y f H =>?_,by simp only;omega,?_⟩
  ·grind
  ·simp only[Int.toNat_natCast];rw[yY b,k i b a (alq _),CO];have L:=Es i (u[i]-c-g*gd v i);grind
 ·right;have t:i=u.length:=by omega
  subst t;refine⟨(c,l),by simp_all,e,h,A,?_⟩;rw[HR E]at m;exact m
def O8 {u v:List Int} (o:Dg u) (t:Dg v) (w:Fit u) (y:v.length<=u.length) :
  ∃l,aR (oe v u) (0,0,u)=some l∧l.length=u.length∧Dg l∧∃c,0<=c∧dv l+pw u.length*c=dv u+dv v:=by
 unfold Fit at w;refine db (I:=fun i s=>s.2.1=(i:Int)∧s.2.2.length=u.length∧Dg s.2.2∧(∀j (p:j<s.2.2.length) (f:j<u.length),i<=j->s.2.2[j]=u[j])∧(0<=s.1∧s.1<=1)∧dv s.2.2+pw i*s.1=dv u+dv (v.take i))
  u.length _ ⟨rfl,rfl,o,fun j p _ _=>rfl,by simp,by simp[dv]⟩ (jQ (by omega)) ?_
 rintro i ⟨c,s,l⟩ D ⟨q,e,g,h,r,k⟩;simp only at q e g h r k;subst q;simp only[oe]
 by_cases a:i<u.length
 ·left;have b:i<l.length:=by omega
  rw[if_pos (by simpa using a),eJ b,amN,h i b a (alq _)];have E:=o.get a;have z:=Xq t i;have A:(if decide ((i:Int)<(v.length:Int))=true then (P.idx v (i:Int)).bind fun m=>some (IntKind.i64.wrap ((IntKind.i64.wrap (c+u[i]))+m)) else some (IntKind.i64.wrap (c+u[i])))=some (c+u[i]+gd v i):=by
   by_cases d:i<v.length
   ·rw[if_pos (by simpa using d),eJ d,amN];rw[acI d]at z ⊢;rw[nz (x:=c+u[i]) (by omega),nz (by omega)]
   ·rw[if_neg (by simpa using d),acH (by omega),nz (by omega)];simp
  rw[A,amN,TB,amN,yF (by omega) (by omega)];have B:IntKind.i64.wrap ((i:Int)+1)=((i+1:Nat):Int):=by rw[nz (by omega)];omega
  refine⟨a,_,rfl,B,by simpa using e,g.set _ (by omega),fun j p f C =>?_,by simp only;omega,?_⟩
  ·grind
  ·simp only[Int.toNat_natCast];rw[yY b,h i b a (alq _),CO];have F:=Es i (c+u[i]+gd v i);grind
 ·right;have n:i=u.length:=by omega
  subst n;refine⟨l,by simp_all,e,g,c,r.1,?_⟩;rw[HR y]at k;exact k
def aaq {u v:List Int} {g:Int} (q:Dg u) (f:Dg v) (w:Fit u) (r:v.length<=u.length) (x:0<dv v) (y:dv u / dv v<=g) (z:g<=dv u / dv v+1) (i:g<=1048576) :
  ∃l,iH u v g=some (l,dv u / dv v)∧l.length=u.length∧Dg l∧dv l=dv u % dv v:=by
 have A:0<=dv u / dv v:=anz (eM q) (by omega);obtain⟨⟨c,l⟩,B,b,e,C,D⟩:=O7 q f ⟨by omega,i⟩ w r;simp only at b e C D;have L:=anC (dv u) (dv v);have E:=Int.emod_nonneg (dv u) (show dv v≠0 by omega);have F:=anB (dv u) x;have j:=u7 e;have G:=eM e;rw[b]at j;have M:=uD u.length;have H:dv v<pw u.length:=Int.lt_of_lt_of_le (u7 f) (xF r);unfold iH tS;rw[B,amN];simp only;rcases (show g=dv u / dv v∨g=dv u / dv v+1 by omega) with s|s
 ·have k:g*dv v=dv v*(dv u / dv v):=by grind
  have a:c=0:=by
   rcases (show c=0∨1<=c by omega) with h|h
   ·exact h
   ·have:pw u.length*1<=pw u.length*c:=anv h (by omega);omega
  grind
 ·have k:g*dv v=dv v*(dv u / dv v)+dv v:=by grind
  have a:c≠0:=by
   grind
  obtain⟨m,I,J,n,d,N,K⟩:=O8 e f (by omega) (by omega);rw[if_neg (by simpa using a),I,amN,amN,if_pos (by simp;omega)];refine⟨m,by rw[nz (by omega),s];simp,by omega,n,?_⟩;rw[b]at K;have o:=u7 n;have t:=eM n;rw[J,b]at o;have p:c=d:=by
   rcases Int.lt_trichotomy c d with h|h|h
   ·have:pw u.length*(c+1)<=pw u.length*d:=anv (by omega) (by omega);grind
   ·exact h
   ·have:pw u.length*(d+1)<=pw u.length*c:=anv (by omega) (by omega);grind
  subst p;omega
def Vd {v u:List Int} {s13:Int} {a b c T V W:Int} {n:Nat} (hn:2<=n) (e:v.length=n) (M:n<=17592186044416) (i:Nat) (N:s13=i) (O:i+n<=17592186044416)
  (p:P.idx v (((n-2:Nat)):Int)=some b) (q:P.idx u (((i+n-2:Nat)):Int)=some c)
  (b1:524288<=a∧a<1048576) (m:0<=b∧b<1048576) (Q:0<=c∧c<1048576) (t:0<=T) (R:T<1048576*1048576)
  (G:pw (n-2)*(a*1048576+b)<=V∧V<pw (n-2)*(a*1048576+b+1)) (hW:pw (n-2)*(T*1048576+c)<=W∧W<pw (n-2)*(T*1048576+c+1)) (w:W<1048576*V) :
  ∃g,aR (xf v s13 u a) (T / a,T % a)=some g∧W / V<=g∧g<=W / V+1∧g<=1048576:=by
 subst N;have hp:=uD (n-2);have d:0<V:=by
  have:pw (n-2)*1<=pw (n-2)*(a*1048576+b):=anv (by omega) (by omega);omega
 have y:0<=W:=by
  have:0<=pw (n-2)*(T*1048576+c):=anD (by omega) (by omega);omega
 have S:0<=W / V:=anz y (by omega);have U:W / V<1048576:=anA d w;have hm:=anC T a;have z:=Int.emod_nonneg T (show a≠0 by omega);have X:=anB T (show 0<a by omega);have Y:0<=T / a:=anz t (by omega);have A:T / a<=2097152:=by
  have:T / a<2097153:=anA (by omega) (by
   omega)
  omega
 have Z:∀g r:Int,g*a+r=T->W / V<=g->g*b>r*1048576+c->W / V<=g-1:=by
  intro g r o B C;have j:W<g*V:=by
   have k:g*(a*1048576+b)>=T*1048576+c+1:=by
    grind
   have e2:pw (n-2)*(T*1048576+c+1)<=pw (n-2)*(g*(a*1048576+b)):=anv k (by omega);have H:g*(pw (n-2)*(a*1048576+b))<=g*V:=anv G.1 (by omega);grind
  have:=anA d j;omega
 have D:∀g r:Int,g*a+r=T->0<=g->g<=1048576->g*b<=r*1048576+c->g<=W / V+1:=by
  intro g r o h0 hB C;have k:g*(a*1048576+b)<=T*1048576+c:=by
   grind
  have e2:g*V<=W+V:=by
   have f1:g*V<=g*(pw (n-2)*(a*1048576+b+1)):=anv (by omega) h0;have f2:g*(pw (n-2)*(a*1048576+b+1))=pw (n-2)*(g*(a*1048576+b))+pw (n-2)*g:=by
    grind
   have f3:pw (n-2)*(g*(a*1048576+b))<=pw (n-2)*(T*1048576+c):=anv k (by omega);have f4:pw (n-2)*g<=pw (n-2)*(a*1048576+b):=anv (by omega) (by omega);omega
  have H:(g-1)*V<=W:=by grind
  have:=Int.le_ediv_of_mul_le d H;omega
 have f:W / V<=T / a:=by
  have k:W<(T / a+1)*V:=by
   have f1:T+1<=(T / a+1)*a:=by
    grind
   have f2:T*1048576+c+1<=(T / a+1)*(a*1048576+b):=by
    have g1:(T+1)*1048576<=(T / a+1)*a*1048576:=anE f1 (by omega);have g2:0<=(T / a+1)*b:=anD (by omega) m.1;grind
   have f3:pw (n-2)*(T*1048576+c+1)<=pw (n-2)*((T / a+1)*(a*1048576+b)):=anv f2 (by omega);have f4:(T / a+1)*(pw (n-2)*(a*1048576+b))<=(T / a+1)*V:=anv G.1 (by omega);grind
  have:=anA d k;omega
 refine CX (I:=fun (s:Int×Int)=>s.1*a+s.2=T∧W / V<=s.1∧s.1<=2097152∧0<=s.2) (μ:=fun (s:Int×Int)=>s.1.toNat) _ ⟨?_,f,A,z⟩ (by unfold FU;omega) ?_
 ·grind
 rintro⟨g,r⟩ ⟨o,B,C,j⟩;simp only at o B C j;have aa:0<=g*a:=anD (by omega) (by omega);simp only[xf];have el:IntKind.i64.wrap ((v.length:Int)-2)=((n-2:Nat):Int):=by rw[e,nz (by omega)];omega
 have ei:IntKind.i64.wrap ((IntKind.i64.wrap ((i:Int)+(v.length:Int)))-2)=((i+n-2:Nat):Int):=by rw[e,nz (x:=(i:Int)+n) (by omega),nz (by omega)];omega
 rw[el,ei];have E:W / V<=g-1->∃h:Int×Int,(some (Sum.inl (IntKind.i64.wrap (g-1),IntKind.i64.wrap (r+a))):Option ((Int×Int)⊕Int))=some (.inl h)∧(h.1*a+h.2=T∧W / V<=h.1∧h.1<=2097152∧0<=h.2)∧h.1.toNat<g.toNat:=by
  intro ab;refine⟨_,rfl,?_⟩;rw[nz (x:=g-1) (by omega),nz (x:=r+a) (by omega)];grind
 by_cases l:g>=1048576
 ·rw[if_pos (by simpa using l),amN,if_pos rfl];grind
 ·rw[if_neg (by simpa using l)]
  by_cases J:r<1048576
  ·have K:0<=g*b:=anD (by omega) m.1;have F:g*b<=1048576*1048576:=Int.mul_le_mul (by omega) (by omega) m.1 (by omega);rw[if_pos (by simpa using J),p,amN,adN j (by omega),amN,q,amN,nz (x:=g*b) (by omega),Vt j (by omega) Q,amN]
   by_cases L:g*b>1048576*r+c
   ·rw[if_pos (by simpa using L)];grind
   ·rw[if_neg (by simpa using L)];grind
  ·rw[if_neg (by simpa using J),amN,if_neg (by simp)];refine .inr ⟨g,rfl,B,D g r o (by omega) (by omega) ?_,by omega⟩;have:g*b<=1048575*1048575:=Int.mul_le_mul (by omega) (by omega) m.1 (by omega);omega
def ahW {α:Type} {l:List α} {a b:Nat} (h:a<=b) (c:b<=l.length):Ge l (a:Int) (b:Int)=some ((l.drop a).take (b-a)):=by
 unfold Ge;simp_all
def ae4 {l:List Int} {n:Nat} (d:l.length=n) (f:2<=n) (a:Dg l) :
  pw (n-2)*((l[n-1]'(by omega))*1048576+l[n-2]'(by omega))<=dv l∧dv l<pw (n-2)*((l[n-1]'(by omega))*1048576+l[n-2]'(by omega)+1):=by
 have e:=l8 l (i:=n-2) (by omega);rw[rF (by omega),rF (i:=n-2+1) (by omega),amX (by omega)]at e;have b:l[n-2+1]'(by omega)=l[n-1]'(by omega):=by congr 1;omega
 rw[b]at e;have g:=eM (a.take (n-2));have c:=u7 (a.take (n-2));rw[alI,ann (by omega)]at c;simp only[dv]at e;grind
def ae5 {l:List Int} {n:Nat} (g:l.length=n+1) (h:2<=n) (a:Dg l) :
  pw (n-2)*((1048576*(l[n]'(by omega))+l[n-1]'(by omega))*1048576+l[n-2]'(by omega))<=dv l∧dv l<pw (n-2)*((1048576*(l[n]'(by omega))+l[n-1]'(by omega))*1048576+l[n-2]'(by omega)+1):=by
 have e:=l8 l (i:=n-2) (by omega);rw[rF (by omega),rF (i:=n-2+1) (by omega),rF (i:=n-2+1+1) (by omega),amX (by omega)]at e;have b:l[n-2+1]'(by omega)=l[n-1]'(by omega):=by congr 1;omega
 have c:l[n-2+1+1]'(by omega)=l[n]'(by omega):=by congr 1;omega
 rw[b,c]at e;have j:=eM (a.take (n-2));have d:=u7 (a.take (n-2));rw[alI,ann (by omega)]at d;simp only[dv]at e;have f:l[n-2]'(by omega)+1048576*(l[n-1]'(by omega)+1048576*(l[n]'(by omega)+1048576*0))=(1048576*(l[n]'(by omega))+l[n-1]'(by omega))*1048576+l[n-2]'(by omega):=by omega
 rw[f]at e;rw[anw (pw (n-2)) _ 1,Int.mul_one];omega
def ab4 {v o:List Int} {n m:Nat} (p:Dg v) (a:v.length=n) (F:2<=n) (G:524288<=v[n-1]'(by omega)) (hu:Dg o) (H:o.length=m+n) (hf:m+n<=17592186044416) (d:dv (o.drop m)<dv v) :
  ∃r,aR (xe v) ((m:Int)-1,o,List.replicate m 0)=some r∧r.1.length=m+n∧Dg r.1∧r.2.length=m∧Dg r.2∧dv r.1+dv v*dv r.2=dv o∧dv r.1<dv v:=by
 have J:=u7 p;rw[a]at J;refine db (I:=fun i s=>s.1=((m-i:Nat):Int)-1∧s.2.1.length=m+n∧Dg s.2.1∧s.2.2.length=m∧Dg s.2.2∧(∀j (E:j<s.2.2.length),j<m-i->s.2.2[j]=0)∧dv s.2.1+dv v*dv s.2.2=dv o∧dv (s.2.1.drop (m-i))<dv v)
  m _ ⟨rfl,H,hu,by simp,Dg.rep _,fun j E _=>by simp,by simp[Ho],d⟩ (jQ (by omega)) ?_
 rintro i ⟨s,u,q⟩ hi ⟨S,hl,b,t,x,K,he,d⟩;simp only at S hl b t x K he d;subst S;generalize hk:m-i=k at *;simp only[xe]
 by_cases h0:0<k
 ·left;have ek:((k:Int)-1)=((k-1:Nat):Int):=by omega
  rw[ek,if_pos (by simp)];have e1:IntKind.i64.wrap (((k-1:Nat):Int)+(v.length:Int))=((k-1+n:Nat):Int):=by rw[a,nz (by omega)];omega
  have e2:IntKind.i64.wrap (((k-1+n:Nat):Int)-1)=((k-1+n-1:Nat):Int):=by rw[nz (by omega)];omega
  have e3:IntKind.i64.wrap ((v.length:Int)-1)=((n-1:Nat):Int):=by rw[a,nz (by omega)];omega
  have e4:IntKind.i64.wrap (((k-1+n:Nat):Int)+1)=((k-1+n+1:Nat):Int):=by rw[nz (by omega)];omega
  have e5:IntKind.i64.wrap (((k-1:Nat):Int)-1)=((k-1:Nat):Int)-1:=nz (by omega);rw[e1,e2,e3,e4,e5];have U:k-1+n<u.length:=by omega
  have V:k-1+n-1<u.length:=by omega
  have W:k-1+n-2<u.length:=by omega
  have X:n-1<v.length:=by omega
  have y:n-2<v.length:=by omega
  have Y:=b.get U;have g2:=b.get V;have g3:=b.get W;have gv:=p.get X;have L:=p.get y;rw[eJ U,amN,adN Y.1 (by omega),amN,eJ V,amN,eJ X,amN,Vt Y.1 (by omega) g2,aiN (by omega) (by omega) (by omega),amN,aiY (by omega) (by omega),amN,ahW (by omega) (by omega),show k-1+n+1-(k-1)=n+1 by omega];generalize Z:(u.drop (k-1)).take (n+1)=w;have M:w.length=n+1:=by grind
  have c:Dg w:=by rw[<- Z];exact (b.drop _).take _
  have e:∀j (E:j<n+1),w[j]'(by omega)=u[k-1+j]'(by omega):=by
   grind
  have z:dv (u.drop (k+n))=0:=by
   have N:=l8 (u.drop k) (i:=n) (by grind);rw[am0]at N;have n1:=eM ((b.drop k).take n);have n2:=eM (b.drop (k+n));have hp:=uD n;rcases (show dv (u.drop (k+n))=0∨1<=dv (u.drop (k+n)) by omega) with h|h
   ·exact h
   ·have:pw n*1<=pw n*dv (u.drop (k+n)):=anv h (by omega);omega
  have hW:dv w=dv (u.drop (k-1)):=by
   have N:=l8 (u.drop (k-1)) (i:=n+1) (by grind);rw[am0,show k-1+(n+1)=k+n by omega,z,Z]at N;omega
  have aa:dv w=u[k-1]+1048576*dv (u.drop k):=by
   rw[hW,rF (by omega),show k-1+1=k by omega]
  have gk:=b.get (show k-1<u.length by omega);have A:dv w<1048576*dv v:=by omega
  have t2:=ae4 a F p;have t3:=ae5 M F c;rw[e n (by omega),e (n-1) (by omega),e (n-2) (by omega)]at t3;have a1:u[k-1+(n-1)]'(by omega)=u[k-1+n-1]'(by omega):=by congr 1;omega
  have a2:u[k-1+(n-2)]'(by omega)=u[k-1+n-2]'(by omega):=by congr 1;omega
  rw[a1,a2]at t3;obtain⟨g,q1,q2,q3,q4⟩:=Vd (s13:=((k-1:Nat):Int)) F a (by omega) (k-1) rfl (by omega) (eJ y) (eJ W) ⟨G,gv.2⟩ L g3 (T:=1048576*u[k-1+n]+u[k-1+n-1]) (by omega) (by omega) t2 t3 A;rw[q1,amN,amN];have f:0<dv v:=by
   have:=eM c;omega
  obtain⟨l,r1,r2,r3,r4⟩:=aaq c p (by unfold Fit;omega) (by omega) f q2 q3 q4;have O:k-1<q.length:=by omega
  rw[r1,amN,eJ O,amN];simp only;have P:0<=dv w / dv v:=anz (eM c) (by omega);have Q:dv w / dv v<1048576:=anA f A;have B:=anB (dv w) f;simp only[Int.toNat_natCast];have C:dv (l++u.drop (k-1+n+1))=dv w % dv v:=by
   rw[mF,show k-1+n+1=k+n by omega,z,r4];omega
  have D:(u.take (k-1)).length=k-1:=by grind
  have R:dv (u.take (k-1)++(l++u.drop (k-1+n+1)))=dv (u.take (k-1))+pw (k-1)*(dv w % dv v):=by rw[mF,D,C]
  refine⟨by omega,_,rfl,by rw[show m-(i+1)=k-1 by omega],?_,(b.take _).append (r3.append (b.drop _)),by simpa using t,x.set _ ⟨P,Q⟩,fun j E ab =>?_,?_,?_⟩
  ·grind
  ·rw[List.getElem_set_ne (by omega)];exact K j (by simpa using E) (by omega)
  ·rw[R,yY O,K _ O (by omega),Int.sub_zero,anw];have s2:=l8 u (i:=k-1) (by omega);rw[<- hW]at s2;have hm:=anC (dv w) (dv v);grind
  ·rw[show m-(i+1)=k-1 by omega,amW,D,amx,am3,amX (by omega),amU,C];exact B
 simp_all
def VF {v:List Int} {t:Int} {n:Nat} (b:v.length=n) (g:0<n) (k:n<=17592186044416) (c:v[n-1]'(by omega)=t) (d:1<=t) (l:t<1048576) :
  ∃s,aR (xd v) 1=some s∧∃j:Nat,s=2 ^ j∧j<=19∧524288<=t*s∧t*s<1048576:=by
 refine db (I:=fun i s=>s=2 ^ i∧t*s<1048576) 20 _ ⟨rfl,by omega⟩ (by unfold FU;omega) ?_;rintro i s m ⟨rfl,o⟩;have p:(0:Int)<2 ^ i:=Int.pow_pos (by decide);have f:(2:Int) ^ i<=t*2 ^ i:=by
  have:1*(2:Int) ^ i<=t*2 ^ i:=anE d (by omega);omega
 have a:i<=19:=by
  grind
 simp only[xd];have e:IntKind.i64.wrap ((v.length:Int)-1)=((n-1:Nat):Int):=by rw[b,nz (by omega)];omega
 rw[e,eJ (by omega),amN,c,nz (x:=t*2 ^ i) (by omega)]
 by_cases h:t*2 ^ i<524288
 ·left;rw[if_pos (by simpa using h)];refine⟨by omega,_,rfl,by rw[nz (by omega),Int.pow_succ],?_⟩;rw[nz (by omega),<- Int.mul_assoc];omega
 grind
def div_eq {m n:Nat} (hn:n≠0) (al:(bN m).length<=17592186043904) (an:(bN n).length<=17592186043904):xc (bN m) (bN n)=some (bN (m / n),bN (m % n)):=by
 unfold xc;rw[Bh (by unfold Fit;omega) (by unfold Fit;omega),amN]
 by_cases q:m<n
 ·have:mD (m:Int) n<0:=by unfold mD;omega
  rw[if_pos (by simpa using this),yQ (by unfold Fit;omega),amN,Nat.div_eq_of_lt q,ami q,eD]
 have:¬mD (m:Int) n<0:=by unfold mD;omega
 rw[if_neg (by simpa using this)];obtain⟨ao,aq⟩:=Ct hn;have r:=mg n
 by_cases h1:(bN n).length=1
 ·rw[if_pos (by simp;omega)];have ar:(n:Int)<1048576:=by rw[h1]at r;simpa [pw] using r
  have e:bN n=[(n:Int)]:=by
   rw[rP hn,Nat.div_eq_of_lt (by omega),eD,ami (by omega)]
  have ei:P.idx (bN n) 0=some (n:Int):=by rw[e];rfl
  rw[ei,amN,TA (fV m) ⟨by omega,by omega⟩ (by unfold Fit;omega),amN,de];have F:(m:Int) % n=((m % n:Nat):Int):=(Int.natCast_emod m n).symm;have G:((m:Int) / n).toNat=m / n:=by
   grind
  have au:m % n<n:=amf _ (by omega);simp only[F,G];rw[Gw (n:=m % n) (by simp[Fit]) (Dg.mk (by omega) Dg.nil) (by simp[dv]),amN]
 ·rw[if_neg (by simp;omega)];generalize hN:(bN n).length=N at *;have H:2<=N:=by omega
  have f:=fV n;have gt:=f.get (show N-1<(bN n).length by omega);generalize ht:(bN n)[N-1]'(by omega)=t at gt;have a:=l8 (bN n) (i:=N-1) (by omega);rw[de,rF (by omega),amX (by omega),ht]at a;simp only[dv,Int.mul_zero,Int.add_zero]at a;have I:=eM (f.take (N-1));have J:=u7 (f.take (N-1));rw[alI,ann (by omega)]at J;have av:=uD (N-1);have K:1<=t:=by
   grind
  obtain⟨s,L,j,v,hj,O,g⟩:=VF hN (by omega) (by omega) ht K gt.2;have R:(2:Int) ^ j<=524288:=by
   have:∀j:Nat,j<=19->(2:Int) ^ j<=524288:=by decide
   exact this j hj
  have T:(0:Int)<2 ^ j:=Int.pow_pos (by decide);have V:(t+1)*s<=1048576:=by
   have W:(1048576:Int)=2 ^ (20-j)*2 ^ j:=by rw[<- Int.pow_add,Nat.sub_add_cancel (by omega)];rfl
   rw[W]at g ⊢;rw[v]at g ⊢;have:t<2 ^ (20-j):=Int.lt_of_mul_lt_mul_right g (by omega);exact anE (by omega) (by omega)
  rw[<- v]at T R;obtain⟨S,rfl⟩:∃S:Nat,s=S:=⟨s.toNat,by omega⟩;have w:Dg [(S:Int)]:=Dg.mk (by omega) Dg.nil;have b:dv [(S:Int)]=S:=by simp[dv]
  rw[L,amN,mul_eq (fV m) w (by simp;omega),amN,de,b];have em:((m:Int)*S).toNat=m*S:=by omega
  have en:((n:Int)*S).toNat=n*S:=by omega
  rw[em];have aw:(bN (m*S)).length<=(bN m).length+1:=by
   apply oZ;rw[nc,anF];have l:=mg m;have:(m:Int)*S<=m*1048576:=anv (by omega) (by omega);omega
  have hU:∃u,((if ((((bN (m*S)++[0]).length:Int))==((bN m).length:Int))=true then (nB 8 (bN (m*S)++[0]) [0]).bind fun X=>some X else some (bN (m*S)++[0]))=some u)∧Dg u∧dv u=(m*S:Nat)∧dv u<pw (u.length-1)∧(bN (m*S)).length+1<=u.length∧u.length<=(bN m).length+3:=by
   have d1:Dg (bN (m*S)++[0]):=(fV _).append (Dg.mk (by omega) Dg.nil);have v1:dv (bN (m*S)++[0])=(m*S:Nat):=by rw[mF,de];simp[dv]
   have v2:=mg (m*S);split
   ·rw[JY (by simp;omega),amN];refine⟨_,rfl,d1.append (Dg.mk (by omega) Dg.nil),by rw[mF,v1];simp[dv],?_,by simp,by simp;omega⟩;rw[mF,v1];simp only[dv,amu,List.length_cons,List.length_nil];have:=xF (i:=(bN (m*S)).length) (j:=(bN (m*S)).length+1) (by omega);grind
   grind
  obtain⟨u,Y,y,Z,ax,ay,az⟩:=hU;rw[JY (by simp;omega),amN,mul_eq (fV n) w (by simp;omega),amN,de,b,en,Y,amN];have aj:524288*pw (N-1)<=((n*S:Nat):Int):=by
   rw[anF,a,Int.add_mul];have l:0<=dv ((bN n).take (N-1))*S:=anD I (by omega);have z:pw (N-1)*524288<=pw (N-1)*(t*S):=anv O (by omega);grind
  have A:((n*S:Nat):Int)<pw N:=by
   have a0:pw N=1048576*pw (N-1):=by rw[<- nc];congr 1;omega
   rw[a0,anF,a];have l:(dv ((bN n).take (N-1))+pw (N-1)*t+1)*S<=(pw (N-1)*(t+1))*S:=anE (by grind) (by omega);have z:pw (N-1)*((t+1)*S)<=pw (N-1)*1048576:=anv V (by omega);grind
  have B:(bN (n*S)).length=N:=by
   have l:=oZ A;rcases al7 (bN (n*S)).length N with h|h
   ·have z:=mg (n*S);have D:=xF (i:=(bN (n*S)).length) (j:=N-1) (by omega);omega
   ·omega
  have aa:524288<=(bN (n*S))[N-1]'(by omega):=by
   have l:=l8 (bN (n*S)) (i:=N-1) (by omega);rw[de,rF (by omega),amX (by omega)]at l;simp only[dv,Int.mul_zero,Int.add_zero]at l;have z:=u7 ((fV (n*S)).take (N-1));rw[alI,ann (by omega)]at z;have D:pw (N-1)*524288<pw (N-1)*((bN (n*S))[N-1]'(by omega)+1):=by grind
   have:=Int.lt_of_mul_lt_mul_left D (by omega);omega
  have ak:N+1<=u.length:=by
   have:n*S<=m*S:=al8 _ (by omega);have:=gS this;omega
  obtain⟨M,hM⟩:∃M,u.length=M+N:=⟨u.length-N,by omega⟩;have e1:IntKind.i64.wrap ((u.length:Int)-((bN (n*S)).length:Int))=(M:Int):=by rw[B,hM,nz (by omega)];omega
  rw[e1,mk0 (by omega),amN,List.length_replicate,nz (x:=(M:Int)-1) (by omega)];have ab:dv (u.drop M)<dv (bN (n*S)):=by
   rw[de];have l:=l8 u (i:=M) (by omega);have z:=eM (y.take M);have D:pw M*dv (u.drop M)<pw M*pw (N-1):=by
    rw[<- O1,show M+(N-1)=u.length-1 by omega];omega
   have:=Int.lt_of_mul_lt_mul_left D (by have:=uD M;omega);omega
  obtain⟨⟨U,Q⟩,r1,r2,r3,r4,r5,r6,r7⟩:=ab4 (fV (n*S)) B H aa y hM (by omega) ab;simp only at r2 r3 r4 r5 r6 r7;rw[r1,amN];simp only;rw[de,Z]at r6;rw[de]at r7;have aA:=eM r3;have aB:=eM r5;have hS:0<S:=by omega
  have ad:0<n*S:=Nat.mul_pos (by omega) hS;obtain⟨o,p⟩:∃k:Nat,dv U=k:=⟨(dv U).toNat,by omega⟩;obtain⟨E,C⟩:∃k:Nat,dv Q=k:=⟨(dv Q).toNat,by omega⟩;rw[p,C]at r6;rw[p]at r7;have c:o+n*S*E=m*S:=by
   omega
  have d:o<n*S:=by omega
  have ae:E=m / n:=by
   have:m*S / (n*S)=E:=by
    rw[<- c,Nat.add_mul_div_left _ _ ad,Nat.div_eq_of_lt d,amr]
   rw[<- this,Nat.mul_div_mul_right _ _ hS]
  have ag:o=(m % n)*S:=by
   have:m*S % (n*S)=o:=by rw[<- c,Nat.add_mul_mod_self_left,ami d]
   rw[<- this,Nat.mul_mod_mul_right]
  rw[Gw (n:=o) (by unfold Fit;omega) r3 p,amN];have ai:(bN o).length<=N:=oZ (by omega);rw[TA (fV o) ⟨by omega,by omega⟩ (by unfold Fit;omega),amN,Gw (n:=E) (by unfold Fit;omega) r5 C,amN,de,ae,ag];have:((((m % n)*S:Nat):Int) / (S:Int)).toNat=m % n:=by
   rw[anF,Int.mul_ediv_cancel _ (by omega)];rfl
  rw[this]
def iP (x:Int):aH:=aH.mk x.sign (bN x.natAbs)
def Ln (x:Int):Nat:=(bN x.natAbs).length
def eL:Nat:=4398046511104
def qF:Nat:=17592186043904
def Cf {n:Nat} (h:n<=eL):n<=qF:=als h (by decide)
def Sl:iP 0=aH.mk 0 []:=by unfold iP;rw[show (0:Int).natAbs=0 from rfl,eD];rfl
def XO {x y:Int} (h:iP x=iP y):x=y:=by
 unfold iP at h;simp only[aH.mk.injEq]at h;have:=abY h.2;grind
def PL {x:Int} {k:Nat} (h:(x.natAbs:Int)<pw k):Ln x<=k:=oZ h
def XL (x:Int):(x.natAbs:Int)<pw (Ln x):=mg _
def Wp {x y:Int} (h:x.natAbs<=y.natAbs):Ln x<=Ln y:=gS h
def GF (x:Int):Ln (-x)=Ln x:=by unfold Ln;rw[Int.natAbs_neg]
def Ul (x y:Int):Ln (x+y)<=max (Ln x) (Ln y)+1:=by
 apply PL;have a:=XL x;have b:=XL y;have c:=xF (i:=Ln x) (j:=max (Ln x) (Ln y)) (by omega);have d:=xF (i:=Ln y) (j:=max (Ln x) (Ln y)) (by omega);have e:=Int.natAbs_add_le x y;rw[nc];omega
def lV (x y:Int):Ln (x*y)<=Ln x+Ln y:=by
 apply PL;have c:=XL x;have a:=XL y;rw[Int.natAbs_mul,anF,O1];have b:=uD (Ln x)
 calc (x.natAbs:Int)*y.natAbs<=pw (Ln x)*y.natAbs:=anE (by omega) (by omega)
  _<pw (Ln x)*pw (Ln y):=Int.mul_lt_mul_of_pos_left a b
def GG {x:Int} (h:x.natAbs<1048576):Ln x<=1:=PL (by rw[nc,vt];omega)
def aeH:Ln 0=0:=by unfold Ln;rw[show (0:Int).natAbs=0 from rfl,eD];rfl
instance (l:List Int):Decidable (Dg l):=by unfold Dg;infer_instance
def okB (b:aH):Bool:=decide (Dg b.aa)&&(match b.aa.getLast? with|none=>b.al==0|some d=>(b.al==1||b.al == -1)&&d != 0)
def C5 {b:aH} : okB b=true↔∃x,b=iP x:=by
 obtain⟨s,l⟩:=b;unfold okB;simp only[al0,decide_eq_true_eq];constructor
 ·rintro⟨i,h⟩;cases f:l.getLast? with
  | none =>
   rw[f]at h;have:l=[]:=List.getLast?_eq_none_iff.1 f;subst this;exact⟨0,by rw[Sl];simpa using h⟩
  | some d =>
   rw[f]at h;simp only[al0,Bool.or_eq_true,beq_iff_eq,bne_iff_ne]at h;have a:l≠[]:=by grind
   have c:∀h:l≠[],l.getLast h≠0:=by
    grind
   have e:=Gl i c;have h0:(dv l).toNat≠0:=by
    intro h0;rw[h0,eD]at e;exact a e.symm
   have j:=eM i;refine⟨s*dv l,?_⟩;unfold iP;grind
 ·rintro⟨x,g⟩;unfold iP at g;simp only[aH.mk.injEq]at g;obtain⟨rfl,rfl⟩:=g;refine⟨fV _,?_⟩
  by_cases h0:x=0
  ·subst h0;simp[eD]
  ·have a:bN x.natAbs≠[]:=fun h=>h0 (by have:=yT.1 h;omega);rw[List.getLast?_eq_some_getLast a];have k:=Zj _ a;grind
def Vn (x:Int):okB (iP x)=true:=C5.2 ⟨x,rfl⟩
def Jj {b:aH} (h:Fit b.aa):dZ b=some (okB b):=by
 obtain⟨s,l⟩:=b;simp only[Fit]at h;have key:∃r,aR (s9 ⟨s,l⟩) 0=some r∧(match r with | .inl _=>Dg l | .inr x=>x=false∧¬Dg l):=by
  refine db (I:=fun i s=>s=(i:Int)∧Dg (l.take i)) l.length _ ⟨rfl,by simpa using Dg.nil⟩ (jQ h) ?_;rintro i s k ⟨rfl,j⟩;simp only[s9]
  by_cases a:i<l.length
  ·rw[if_pos (by simpa using a),eJ a,amN]
   by_cases f:l[i]<0
   ·right;exact⟨.inr false,by simp_all,rfl,fun g=>by have:=g.get a;omega⟩
   ·by_cases c:l[i]>1048575
    ·right;exact⟨.inr false,by simp_all,rfl,fun g=>by have:=g.get a;omega⟩
    ·left;refine⟨a,_,by rw[if_neg (by simpa using f),if_neg (by simpa using c)],by rw[nz (by omega)];omega,?_⟩;have e:l.take (i+1)=l.take i++[l[i]]:=by simp_all
     rw[e];exact j.append (Dg.mk (by omega) Dg.nil)
  ·right;have:i=l.length:=by omega
   simp_all
 obtain⟨r,f,c⟩:=key;unfold dZ okB;rw[f,amN];cases r with
 | inr x =>
  simp_all
 | inl u =>
  simp only at c ⊢;simp only[c,decide_true,amD]
  by_cases d:l=[]
  ·subst d;simp
  ·have m:0<l.length:=am5.2 d;have e:IntKind.i64.wrap ((l.length:Int)-1)=((l.length-1:Nat):Int):=by rw[nz (by omega)];omega
   rw[if_neg (by simpa using d),e,eJ (by omega),List.getLast?_eq_some_getLast d,List.getLast_eq_getElem];grind
def jT {x:Int} (h:Ln x<=17592186044416):dZ (iP x)=some true:=by
 rw[Jj (show Fit (iP x).aa from h),Vn]
def As {s:Int} {l:List Int} (x:Int) (a:Fit l) (b:Dg l) (c:dv l=x.natAbs) (d:x≠0->s=x.sign):eE s l=some (iP x):=by
 unfold eE;rw[Gw a b c,amN]
 by_cases h0:x=0
 ·subst h0;rw[show (0:Int).natAbs=0 from rfl,eD,Sl];rfl
 ·have:bN x.natAbs≠[]:=fun h=>h0 (by have:=yT.1 h;omega);rw[if_neg (by simpa using this),d h0];rfl
def pL (b:aH):fN true b=some (b,0):=rfl
def afW (x:Int):x.sign = -1∨x.sign=0∨x.sign=1:=by
 grind
def DA {x:Int} (h:Ln x<=eL):mB (iP x)=some (iP (-x)):=by
 unfold mB;have b:eL=4398046511104:=rfl;rw[jT (by omega),amN];simp only[amC,alY,if_false];have a:Fit (iP x).aa:=by unfold Fit;show Ln x<=_;omega
 rw[yQ a,amN,As (-x) a (fV _) (by show dv (bN _)=_;rw[de,Int.natAbs_neg]),amN];intro c;show IntKind.i64.wrap (0-x.sign)=_;rw[nz (by grind),Int.sign_neg,Int.zero_sub]
def agh (s t:Int):yR [s,t]=some (if s≠0 then s else t):=by
 have key:∃r,aR (Ad [s,t]) 0=some r∧(match r with | .inl _=>s=0∧t=0 | .inr x=>x=if s≠0 then s else t):=by
  refine db (I:=fun i j=>j=(i:Int)∧(1<=i->s=0)∧(2<=i->t=0)) 2 _ ⟨rfl,by omega,by omega⟩ (by unfold FU;omega) ?_;rintro i j c ⟨rfl,a,b⟩;simp only[Ad];rcases (show i=0∨i=1∨i=2 by omega) with rfl|rfl|rfl
  ·rw[if_pos (by simp)];show _∨∃r,((some s).bind _=_)∧_;rw[show P.idx [s,t] ((0:Nat):Int)=some s from rfl,amN]
   by_cases hs:s=0
   ·left;exact⟨by omega,_,by rw[if_neg (by simpa using hs)],by rw[nz (by omega)];rfl,fun _=>hs,by omega⟩
   simp_all
  ·have hs:=a (by omega);rw[if_pos (by simp),show P.idx [s,t] ((1:Nat):Int)=some t from rfl,amN]
   by_cases ht:t=0
   ·left;exact⟨by omega,_,by rw[if_neg (by simpa using ht)],by rw[nz (by omega)];rfl,fun _=>hs,fun _=>ht⟩
   simp_all
  simp_all
 obtain⟨r,a,b⟩:=key;unfold yR;grind
def Dj (x:Int):x.sign=1∧x=x.natAbs∧0<x∨x.sign = -1∧x = -x.natAbs∧x<0∨x.sign=0∧x=0:=by
 grind
def tJ {x:Int} {s:Int} {n:Nat} (a:n=x.natAbs) (b:x≠0->s=x.sign) (c:n≠0->(bN n).length<=17592186044416):eE s (bN n)=some (iP x):=by
 subst a;refine As x ?_ (fV _) (de _) b;unfold Fit
 by_cases h:x.natAbs=0
 ·rw[h,eD];simp
 ·exact c h
def ag5 {x y:Int} (k:Ln x<=eL) (l:Ln y<=eL):z6 (iP x) (iP y)=some (iP (x+y),0):=by
 have m:eL=4398046511104:=rfl;have f:=Ul x y;unfold z6;rw[jT (by omega),amN];simp only[amC,alY,if_false];rw[jT (by omega),amN,amN];simp only[amC,alY,if_false];show (if decide (IntKind.i64.wrap (x.sign*y.sign)>=0)=true then _ else _)=_;have a:(iP x).aa=bN x.natAbs:=rfl;have b:(iP y).aa=bN y.natAbs:=rfl;have c:(iP x).al=x.sign:=rfl;have d:(iP y).al=y.sign:=rfl;rw[a,b,c,d];have n:(bN x.natAbs).length<=4398046511104:=by show Ln x<=_;omega
 have o:(bN y.natAbs).length<=4398046511104:=by show Ln y<=_;omega
 have p:=Dj x;have q:=Dj y;have g:IntKind.i64.wrap (x.sign*y.sign)=x.sign*y.sign:=by
  apply nz;grind
 rw[g]
 by_cases e:x.sign*y.sign>=0
 ·rw[if_pos (by simpa using e),agh,amN,add_eq (fV _) (fV _) (by omega) (by omega),amN,de,de];have h:((x.natAbs:Int)+y.natAbs).toNat=(x+y).natAbs:=by
   grind
  rw[h,tJ (x:=x+y) rfl ?_ (fun _=>by show Ln (x+y)<=_;omega),amN,pL,amN];grind
 ·rw[if_neg (by simpa using e),Bh (by unfold Fit;omega) (by unfold Fit;omega),amN];have i:x.sign=1∧y.sign = -1∧0<x∧y<0∨x.sign = -1∧y.sign=1∧x<0∧0<y:=by
   grind
  by_cases j:x.natAbs<y.natAbs
  ·have:mD (x.natAbs:Int) y.natAbs<0:=by unfold mD;omega
   rw[if_pos (by simpa using this),sub_eq (fV _) (fV _) (by unfold Fit;omega) (gS (by omega)) (by rw[de,de];omega),amN,de,de];rw[tJ (x:=x+y) (by omega) ?_ (fun _=>by rw[show ((y.natAbs:Int)-x.natAbs).toNat=(x+y).natAbs by omega];show Ln (x+y)<=_;omega),amN,pL,amN];grind
  ·have:¬mD (x.natAbs:Int) y.natAbs<0:=by unfold mD;omega
   rw[if_neg (by simpa using this),sub_eq (fV _) (fV _) (by unfold Fit;omega) (gS (by omega)) (by rw[de,de];omega),amN,de,de];rw[tJ (x:=x+y) (by omega) ?_ (fun _=>by rw[show ((x.natAbs:Int)-y.natAbs).toNat=(x+y).natAbs by omega];show Ln (x+y)<=_;omega),amN,pL,amN];grind
def ag6 {x y:Int} (h:Ln x<=eL) (i:Ln y<=eL):z8 (iP x) (iP y)=some (iP (x*y),0):=by
 have j:eL=4398046511104:=rfl;have e:=lV x y;unfold z8;rw[jT (by omega),amN];simp only[amC,alY,if_false];rw[jT (by omega),amN,amN];simp only[amC,alY,if_false];have a:(iP x).aa=bN x.natAbs:=rfl;have b:(iP y).aa=bN y.natAbs:=rfl;have c:(iP x).al=x.sign:=rfl;have d:(iP y).al=y.sign:=rfl;rw[a,b,c,d];have k:(bN x.natAbs).length<=4398046511104:=by show Ln x<=_;omega
 have l:(bN y.natAbs).length<=4398046511104:=by show Ln y<=_;omega
 have f:IntKind.i64.wrap (x.sign*y.sign)=(x*y).sign:=by
  rw[Int.sign_mul];apply nz;grind
 rw[f,mul_eq (fV _) (fV _) (by omega),amN,de,de];have g:((x.natAbs:Int)*y.natAbs).toNat=(x*y).natAbs:=by rw[Int.natAbs_mul,<- anF];rfl
 rw[g,tJ (x:=x*y) rfl (fun _=>rfl) (fun _=>by show Ln (x*y)<=_;omega),amN,pL,amN]
def ql {x y:Int} (a:Ln x<=eL) (b:Ln y<=eL):da (iP x) (iP y)=some (iP (x*y)):=by
 unfold da;rw[ag6 a b];rfl
def aa1 {x y:Int} (o:Ln x<=eL) (p:Ln y<=eL) (g:0<y) (j:y∣x):s8 (iP x) (iP y)=some (iP (x / y),iP 0,0):=by
 have q:eL=4398046511104:=rfl;unfold s8;rw[jT (by omega),amN];simp only[amC,alY,if_false];rw[jT (by omega),amN,amN];simp only[amC,alY,if_false];have a:(iP x).aa=bN x.natAbs:=rfl;have b:(iP y).aa=bN y.natAbs:=rfl;have c:(iP x).al=x.sign:=rfl;have d:(iP y).al=1:=anG g;rw[a,b,c,d];have r:(bN x.natAbs).length<=4398046511104:=by show Ln x<=_;omega
 have s:(bN y.natAbs).length<=4398046511104:=by show Ln y<=_;omega
 have k:=gS (Nat.div_le_self x.natAbs y.natAbs);obtain⟨z,rfl⟩:=j;have e:y*z / y=z:=Int.mul_ediv_cancel_left _ (by omega);have l:(y*z).natAbs=y.natAbs*z.natAbs:=Int.natAbs_mul _ _;have i:(y*z).natAbs / y.natAbs=z.natAbs:=by rw[l,Nat.mul_div_cancel_left _ (by omega)]
 have m:(y*z).natAbs % y.natAbs=0:=by simp_all
 have f:(y*z).sign=z.sign:=by rw[Int.sign_mul,anG g,Int.one_mul]
 rw[if_neg (by decide),div_eq (by omega) (by omega) (by omega),amN,Int.mul_one,f,nz (x:=z.sign) (by grind),e,i,m,eD];rw[i]at k;have n:(if decide (z.sign<0)=true then some (decide ((([]:List Int).length:Int)>0)) else some false)=some false:=by split<;>rfl
 simp only[n,Option.bind_some,alY,if_false];rw[tJ (x:=z) rfl (fun _=>rfl) (fun _=>by omega),amN];have:eE z.sign []=some (iP 0):=As 0 (by simp[Fit]) Dg.nil rfl (fun h=>absurd rfl h);simp_all
def lg (n:Nat):Nat:=if n=0 then 0 else n.log2+1
def aiX {r x:Nat} (h:2*r<x):lg r<lg x:=by
 unfold lg;rw[if_neg (show x≠0 by omega)]
 by_cases a:r=0
 ·simp_all
 ·rw[if_neg a];have b:=Nat.log2_self_le a;have c:=@Nat.lt_log2_self x;have:2 ^ (r.log2+1)<2 ^ (x.log2+1):=by omega
  have:=(Nat.pow_lt_pow_iff_right (by decide:1<2)).1 this;omega
def agP {n k:Nat} (h:(n:Int)<pw k):lg n<=20*k:=by
 unfold lg
 by_cases a:n=0
 ·simp_all
 ·rw[if_neg a];have:n<2 ^ (20*k):=by
   have:pw k=((2 ^ (20*k):Nat):Int):=by
    unfold pw;rw[Nat.pow_mul,Int.natCast_pow];rfl
   omega
  have:=(Nat.log2_lt a).2 this;omega
def acG {a b:Nat} (g:(bN a).length<=qF) (i:(bN b).length<=qF):aR tP (bN a,bN b)=some (bN (Nat.gcd a b)):=by
 have p:qF=17592186043904:=rfl;have key:∃r,aR tP (bN a,bN b)=some r∧r=bN (Nat.gcd a b):=by
  have q:=agP (mg a);have t:=agP (mg b)
  let c:List Int->Nat:=fun l=>(dv l).toNat
  have d:∀n,c (bN n)=n:=fun n=>by show (dv (bN n)).toNat=n;rw[de];rfl
  refine CX (I:=fun (s:List Int×List Int)=>∃x y,s=(bN x,bN y)∧Nat.gcd x y=Nat.gcd a b∧(bN x).length<=qF∧(bN y).length<=qF)
   (μ:=fun (s:List Int×List Int)=>lg (c s.1)+lg (c s.2)+(if c s.1<c s.2 then 1 else 0)) _ ⟨a,b,rfl,rfl,g,i⟩ (by simp only[d];unfold FU;split<;>omega) ?_
  rintro _ ⟨x,y,rfl,j,u,k⟩;simp only[tP]
  by_cases h0:y=0
  ·right;subst h0;refine⟨_,by rw[eD,if_neg (by simp)],?_⟩;simp_all
  ·left;have f:0<(bN y).length:=am5.2 (fun h=>h0 (yT.1 h));rw[if_pos (by simpa using f),div_eq h0 (by omega) (by omega),amN];have m:=amf x (Nat.pos_of_ne_zero h0);refine⟨_,rfl,⟨y,x % y,rfl,?_,k,?_⟩,?_⟩
   ·rw[<- j,Nat.gcd_comm y,<- Nat.gcd_rec,Nat.gcd_comm]
   ·have:=gS (Nat.mod_le x y);omega
   ·simp only[d];rw[if_neg (by omega)]
    by_cases e:x<y
    ·rw[if_pos e,ami e];omega
    ·rw[if_neg e];have:lg (x % y)<lg x:=by
      apply aiX;have v:=Nat.div_add_mod x y;have o:1<=x / y:=(Nat.one_le_div_iff (by omega)).2 (by omega);have w:y*1<=y*(x / y):=Nat.mul_le_mul_left _ o;omega
     omega
 simp_all
def aa4 {x y:Int} (d:Ln x<=qF) (e:Ln y<=qF):uZ (iP x) (iP y)=some (iP (Int.gcd x y),0):=by
 have f:qF=17592186043904:=rfl;unfold uZ;rw[jT (by omega),amN];simp only[amC,alY,if_false];rw[jT (by omega),amN,amN];simp only[amC,alY,if_false];have a:(iP x).aa=bN x.natAbs:=rfl;have b:(iP y).aa=bN y.natAbs:=rfl;rw[a,b];have g:(bN x.natAbs).length<=17592186043904:=by show Ln x<=_;omega
 have i:(bN y.natAbs).length<=17592186043904:=by show Ln y<=_;omega
 have j:(bN (Nat.gcd x.natAbs y.natAbs)).length<=17592186043904:=by
  by_cases h:y.natAbs=0
  ·simp_all
  ·have:=gS (Nat.gcd_le_right x.natAbs (Nat.pos_of_ne_zero h));omega
 rw[yQ (by unfold Fit;omega),amN,acG (by omega) (by omega),amN,yQ (by unfold Fit;omega),amN];have c:Nat.gcd x.natAbs y.natAbs=((Int.gcd x y:Nat):Int).natAbs:=rfl;rw[tJ (x:=(Int.gcd x y:Int)) c ?_ (fun _=>by omega),amN,pL,amN];grind
def Uh {x y:Int} (k:Ln x<=eL) (l:Ln y<=eL):oX (iP x) (iP y)=some (mD x y):=by
 have m:eL=4398046511104:=rfl;unfold oX;rw[jT (by omega),amN];simp only[amC,alY,if_false];rw[jT (by omega),amN,amN];simp only[amC,alY,if_false];have d:(iP x).aa=bN x.natAbs:=rfl;have e:(iP y).aa=bN y.natAbs:=rfl;have f:(iP x).al=x.sign:=rfl;have g:(iP y).al=y.sign:=rfl;rw[d,e,f,g];have n:(bN x.natAbs).length<=4398046511104:=by show Ln x<=_;omega
 have o:(bN y.natAbs).length<=4398046511104:=by show Ln y<=_;omega
 by_cases h:x.sign=y.sign
 ·rw[if_neg (by simpa using h),Bh (by unfold Fit;omega) (by unfold Fit;omega),amN];have j:∀s:Int,s = -1∨s=0∨s=1->∀c:Int,c = -1∨c=0∨c=1->IntKind.i64.wrap (s*c)=s*c:=by
   rintro s (rfl|rfl|rfl) c (rfl|rfl|rfl)<;>exact nz (by decide)
  have i:∀a b:Int,mD a b = -1∨mD a b=0∨mD a b=1:=by
   intro a b;unfold mD;omega
  rw[j _ (afW x) _ (i _ _)];congr 1;unfold mD;grind
 ·rw[if_pos (by simpa using h),DD,amN];congr 1;unfold mD;grind
def YO (x:Int):IntKind.u64.wrap x=x % 18446744073709551616:=by
 unfold IntKind.wrap;simp only[IntKind.bits,IntKind.signed,ank,alY,if_false];rfl
def wu {x:Int} (h:0<=x∧x<18446744073709551616):IntKind.u64.wrap x=x:=by rw[YO];omega
def Y0 {x:Int} (h:0<=x∧x<18446744073709551616):nN .and .u64 x 1048575=x % 1048576:=by
 unfold nN;simp only;have a:(BitVec.ofInt IntKind.u64.bits x &&& BitVec.ofInt IntKind.u64.bits 1048575).toNat=((x % 18446744073709551616).toNat) % 1048576:=by
  rw[BitVec.toNat_and,BitVec.toNat_ofInt,BitVec.toNat_ofInt];have e:((1048575:Int) % ((2 ^ IntKind.u64.bits:Nat):Int)).toNat=2 ^ 20-1:=by decide
  rw[e,anx];rfl
 rw[a,wu (by omega)];omega
def ahU (x:Int):B1 .u64 x 20=some (x / 1048576):=by
 unfold B1;rw[if_neg (by decide)];have e:(2:Int) ^ (min (Int.toNat 20) IntKind.u64.bits)=1048576:=by decide
 grind
def pw4:pw 4=1208925819614629174706176:=by decide
def afC {n:Nat} (o:n<18446744073709551616):∃l,aR Aa ((n:Int),[])=some l∧Dg l∧dv l=n∧l.length<=5:=by
 refine CX (I:=fun (s:Int×List Int)=>0<=s.1∧Dg s.2∧dv s.2+pw s.2.length*s.1=n∧s.2.length<=5∧(s.1=0∨s.2.length<5)) (μ:=fun (s:Int×List Int)=>s.1.toNat) _ ⟨by simp,Dg.nil,by simp[dv,vt],by simp,by simp⟩ (by simp only[Int.toNat_natCast];unfold FU;omega) ?_;rintro⟨u,l⟩ ⟨a,b,c,d,e⟩;simp only at a b c d e;have p:=uD l.length;have f:=eM b;have q:u<=n:=by
  have:1*u<=pw l.length*u:=anE (by omega) a;omega
 simp only[Aa]
 by_cases g:u>0
 ·left;have i:l.length<5:=by omega
  have j:l.length<4:=by
   rcases al7 l.length 4 with h|h
   ·exact h
   ·have k:l.length=4:=by omega
    rw[k,pw4]at c;omega
  have m:IntKind.i64.wrap (u % 1048576)=u % 1048576:=nz (by omega);rw[if_pos (by simpa using g),Y0 ⟨a,by omega⟩,m,JY (by simp;omega),amN,ahU,amN];refine⟨_,rfl,⟨by simp only;omega,b.append (Dg.mk (by omega) Dg.nil),?_,by simp;omega,by right;simp;omega⟩,by simp only;omega⟩;simp only[mF,dv,amu,List.length_cons,List.length_nil,Int.mul_zero,Int.add_zero,amr];have:=Es l.length u;omega
 grind
def Wq {x:Int} (h : -9223372036854775808<=x∧x<9223372036854775808):xb x=some (iP x):=by
 have b:(if decide (x<0)=true then some ((-1:Int),IntKind.u64.wrap (0-(IntKind.u64.wrap x))) else some (1,IntKind.u64.wrap x))=some (if x<0 then -1 else 1,((x.natAbs:Nat):Int)):=by
  by_cases a:x<0
  ·rw[if_pos (by simpa using a),if_pos a,YO,YO];congr 2;omega
  ·rw[if_neg (by simpa using a),if_neg a,YO];congr 2;omega
 obtain⟨l,c,d,e,f⟩:=afC (n:=x.natAbs) (by omega);unfold xb;rw[b,amN];simp only;rw[c,amN,zx];refine As x (by unfold Fit;omega) d e (fun g =>?_);grind
def akL {d:Int} {i:Nat} (a:i<=3) (b:0<=d∧d<1048576) (c:i=3->d<=8):Kz .u64 (IntKind.u64.wrap d) (IntKind.i64.wrap (20*(i:Int)))=some (pw i*d):=by
 rw[wu (by omega),nz (by omega)];unfold Kz;rw[if_neg (by omega)];have e:(2:Int) ^ (min (20*(i:Int)).toNat IntKind.u64.bits)=pw i:=by
  have:∀i:Nat,i<=3->(2:Int) ^ (min (20*(i:Int)).toNat IntKind.u64.bits)=pw i:=by decide
  exact this i a
 rw[e,wu,Int.mul_comm];rcases (show i=0∨i=1∨i=2∨i=3 by omega) with rfl|rfl|rfl|rfl
 ·grind
 ·rw[show pw 1=1048576 by decide];omega
 ·rw[show pw 2=1099511627776 by decide];omega
 ·rw[show pw 3=1152921504606846976 by decide];omega
def aja {u d:Int} {i:Nat} (c:i<=3) (l:0<=u∧u<pw i) (f:0<=d∧pw i*d<9223372036854775809):nN .or .u64 u (pw i*d)=u+pw i*d:=by
 have m:=uD i;have a:0<=pw i*d:=anD (by omega) f.1;have b:pw i=((2 ^ (20*i):Nat):Int):=by unfold pw;rw[Nat.pow_mul,Int.natCast_pow];rfl
 have g:pw i<=1152921504606846976:=by
  have:=xF c
  rwa [show pw 3=1152921504606846976 by decide]at this
 unfold nN;simp only;have h:(BitVec.ofInt IntKind.u64.bits u ||| BitVec.ofInt IntKind.u64.bits (pw i*d)).toNat=(u+pw i*d).toNat:=by
  rw[BitVec.toNat_or,BitVec.toNat_ofInt,BitVec.toNat_ofInt];have e:((2 ^ IntKind.u64.bits:Nat):Int)=18446744073709551616:=by decide
  rw[e];have j:(u % 18446744073709551616).toNat=u.toNat:=by omega
  have k:((pw i*d) % 18446744073709551616).toNat=d.toNat <<< (20*i):=by
   rw[Nat.shiftLeft_eq,Int.emod_eq_of_lt a (by omega),b];grind
  rw[j,k,Nat.or_comm,<- Nat.shiftLeft_add_eq_or_of_lt (by omega),Nat.shiftLeft_eq];omega
 rw[h,wu (by omega)];omega
def ahI {g:Nat} (h:(bN g).length<=qF):wz (iP g)=some (decide (g=1)):=by
 have A:qF=17592186043904:=rfl;have b:(iP (g:Int)).aa=bN g:=rfl;have l:Ln (g:Int)=(bN g).length:=rfl;unfold wz;have f:g=1->(bN g).length<=4:=by
  rintro rfl;exact als (oZ (k:=1) (by decide)) (by decide)
 suffices B:∃r,z7 (iP g)=some r∧((if r.2=true then some (r.1==1) else some false)=some (decide (g=1))) by
  grind
 unfold z7;rw[jT (by rw[l];omega),amN];simp only[amC,alY,if_false,Option.bind_some,b]
 by_cases C:(bN g).length>4
 ·rw[if_pos (by simp;omega)];grind
 rw[if_neg (by simp;omega)];have key:∃r,aR (xa (iP g)) (0,0)=some r∧(match r with | .inl u=>u=(g:Int) | .inr x=>x=(0,false)∧g≠1):=by
  refine db (I:=fun i s=>s.2=(i:Int)∧s.1=dv ((bN g).take i)) (bN g).length _ ⟨rfl,rfl⟩ (jQ (by omega)) ?_;rintro i ⟨u,s⟩ q ⟨j,c⟩;simp only at j c;subst j c;simp only[xa,b];have d:=(fV g).take i;have m:=eM d;have e:=u7 d;rw[alI,ann q]at e
  by_cases a:i<(bN g).length
  ·have gd:=(fV g).get a;rw[if_pos (by simpa using a),eJ a,amN];have t:(if ((i:Int)==3)=true then some (decide ((bN g)[i]>8)) else some false)=some (decide (i=3∧(bN g)[i]>8)):=by
    by_cases v:i=3
    ·subst v;simp
    grind
   rw[t,amN]
   by_cases p:i=3∧(bN g)[i]>8
   ·right;rw[if_pos (by simpa using p)];refine⟨.inr (0,false),rfl,rfl,?_⟩;rintro rfl;have:=oZ (n:=1) (k:=1) (by decide);omega
   ·left;rw[if_neg (by simpa using p),akL (by omega) gd (by omega),amN];have w:pw i*(bN g)[i]<9223372036854775809:=by
     rcases (show i=0∨i=1∨i=2∨i=3 by omega) with h|h|h|h
     ·have:pw i=1:=by rw[h];decide
      rw[this];omega
     ·have:pw i=1048576:=by rw[h];decide
      rw[this];omega
     ·have:pw i=1099511627776:=by rw[h];decide
      rw[this];omega
     ·have:pw i=1152921504606846976:=by rw[h];decide
      rw[this];omega
    rw[aja (by omega) ⟨m,e⟩ ⟨gd.1,w⟩];exact⟨a,_,rfl,by rw[nz (by omega)];omega,by rw[mG a]⟩
  ·right;have:i=(bN g).length:=by omega
   subst this;exact⟨.inl (dv ((bN g).take (bN g).length)),by simp_all,by rw[ano,de]⟩
 obtain⟨r,j,c⟩:=key;rw[j,amN];cases r with
 | inr x=>simp_all
 | inl u =>
  simp only at c;subst c;have y:(iP (g:Int)).al=(g:Int).sign:=rfl;have z:¬(g:Int).sign<0:=by simp_all
  simp only[y];rw[if_neg (by simp),amN,if_neg (by simp),if_pos (by simp)]
  by_cases o:(g:Int)<9223372036854775808
  ·rw[if_pos (by simpa using o)];refine⟨_,rfl,?_⟩;simp only[if_true];rw[wrap64 (by omega) o];congr 1;grind
  ·rw[if_neg (by simpa using o)];have:g≠1:=by omega
   simp_all
def bJ (q:Rat):ah:=ah.mk (iP q.num) (iP q.den)
def LF (q:Rat):Nat:=max (Ln q.num) (Ln q.den)
def vg {p q:Rat} (h:bJ p=bJ q):p=q:=by
 unfold bJ at h;simp only[ah.mk.injEq]at h;have a:=XO h.1;have b:=XO h.2;exact Rat.ext a (by omega)
def okF (f:ah):Bool:=okB f.bn&&okB f.bu&&(f.bu.al==1)&&decide (Nat.gcd (dv f.bn.aa).toNat (dv f.bu.aa).toNat=1)
def ow {f:ah} : okF f=true↔∃q,f=bJ q:=by
 obtain⟨p,q⟩:=f;unfold okF;simp only[al0,beq_iff_eq,decide_eq_true_eq];constructor
 ·rintro⟨⟨⟨e,g⟩,h⟩,d⟩;obtain⟨x,rfl⟩:=C5.1 e;obtain⟨y,rfl⟩:=C5.1 g;have i:0<y:=by
   have:y.sign=1:=h;simp_all
  have a:(dv (iP x).aa).toNat=x.natAbs:=by show (dv (bN _)).toNat=_;rw[de];rfl
  have b:(dv (iP y).aa).toNat=y.natAbs:=by show (dv (bN _)).toNat=_;rw[de];rfl
  rw[a,b]at d;refine⟨⟨x,y.natAbs,by omega,d⟩,?_⟩;unfold bJ;grind
 ·rintro⟨q,c⟩;unfold bJ at c;simp only[ah.mk.injEq]at c;obtain⟨rfl,rfl⟩:=c;have j:=q.den_pos;refine⟨⟨⟨Vn _,Vn _⟩,anG (by omega)⟩,?_⟩;have a:(dv (iP q.num).aa).toNat=q.num.natAbs:=by show (dv (bN _)).toNat=_;rw[de];rfl
  have b:(dv (iP (q.den:Int)).aa).toNat=q.den:=by show (dv (bN _)).toNat=_;rw[de];rfl
  rw[a,b];exact q.reduced
def BP (q:Rat):okF (bJ q)=true:=ow.2 ⟨q,rfl⟩
def yk (f:ah):Prop:=f.bn.aa.length<=qF∧f.bu.aa.length<=qF
def Gi {q:Rat} (h:LF q<=eL):yk (bJ q):=by
 unfold LF at h;exact⟨Cf (show Ln q.num<=_ by omega),Cf (show Ln q.den<=_ by omega)⟩
def pJ {f:ah} (a:yk f):cK f=some (okF f):=by
 have i:qF=17592186043904:=rfl;obtain⟨p,q⟩:=f;simp only[yk]at a;unfold cK okF;rw[Jj (show Fit p.aa by unfold Fit;omega),amN]
 by_cases c:okB p=true
 ·simp only[c,amC,alY,if_false,amD];rw[Jj (show Fit q.aa by unfold Fit;omega),amN]
  by_cases d:okB q=true
  ·simp only[d,amC,alY,if_false,amD,Option.bind_some]
   by_cases b:q.al=1
   ·rw[if_neg (by simp[b])];obtain⟨x,rfl⟩:=C5.1 c;obtain⟨y,rfl⟩:=C5.1 d;rw[aa4 a.1 a.2,amN];simp only[beq_self_eq_true,if_true];have e:(dv (iP x).aa).toNat=x.natAbs:=by show (dv (bN _)).toNat=_;rw[de];rfl
    have g:(dv (iP y).aa).toNat=y.natAbs:=by show (dv (bN _)).toNat=_;rw[de];rfl
    rw[ahI,amN,e,g]
    ·rw[b];rfl
    ·have h:0<y.natAbs:=by
      have:y.sign=1:=b;grind
     have:=gS (Nat.gcd_le_right x.natAbs h);have j:(bN y.natAbs).length<=qF:=a.2;show (bN (Nat.gcd x.natAbs y.natAbs)).length<=_;omega
   simp_all
  simp_all
 simp_all
def ko {q:Rat} (h:LF q<=eL):cK (bJ q)=some true:=by rw[pJ (Gi h),BP]
def NN {p q:Int} (f:Ln p<=eL) (e:Ln q<=eL) (i:q≠0):pP (iP p) (iP q)=some (bJ (Rat.divInt p q),0):=by
 have n:eL=4398046511104:=rfl;have d:∀ {p q:Int},Ln p<=eL->Ln q<=eL->0<q ->
   ((uZ (iP p) (iP q)).bind fun j=>(s8 (iP p) j.1).bind fun k=>(s8 (iP q) j.1).bind fun l=>some ((ah.mk k.1 l.1),(0:Int)))=some (bJ (Rat.divInt p q),0):=by
  intro p q f e i;have o:0<Int.gcd p q:=Int.gcd_pos_of_ne_zero_right _ (by omega);have g:Ln (Int.gcd p q:Int)<=eL:=by
   have:=gS (Nat.gcd_le_right p.natAbs (show 0<q.natAbs by omega));show (bN (Nat.gcd p.natAbs q.natAbs)).length<=_;have r:(bN q.natAbs).length<=eL:=e;omega
  rw[aa4 (Cf f) (Cf e),amN];simp only;rw[aa1 f g (by omega) (Int.gcd_dvd_left ..),amN,aa1 e g (by omega) (Int.gcd_dvd_right ..),amN];have m:((q.natAbs / Int.gcd p q:Nat):Int)=q / (Int.gcd p q:Int):=by
   grind
  unfold bJ;rw[Rat.num_divInt,Rat.den_divInt,if_neg (by omega),anG i,Int.one_mul,Int.gcd_comm q p,m]
 unfold pP;rw[jT (by omega),amN];simp only[amC,alY,if_false];rw[jT (by omega),amN,amN];simp only[amC,alY,if_false];have h:(iP q).al=q.sign:=rfl;rw[h];rcases Dj q with⟨a,b,c⟩|⟨a,b,c⟩|⟨a,b⟩
 ·rw[if_neg (by rw[a];decide),if_neg (by rw[a];decide),amN];exact d f e c
 ·rw[if_neg (by rw[a];decide),if_pos (by rw[a];decide),DA f,amN,DA e,amN,amN];have:=d (p := -p) (q := -q) (by rw[GF];exact f) (by rw[GF];exact e) (by omega);rw[Rat.neg_divInt_neg]at this;exact this
 omega
def kO (q:Rat):Ln q.num<=LF q:=by unfold LF;omega
def oF (q:Rat):Ln q.den<=LF q:=by unfold LF;omega
def tD {p q:Int} (a:q≠0):LF (Rat.divInt p q)<=max (Ln p) (Ln q):=by
 have d:0<Int.gcd q p:=Int.gcd_pos_of_ne_zero_left _ a;have e:Ln (Rat.divInt p q).num<=Ln p:=by
  apply Wp;rw[Rat.num_divInt];obtain⟨z,b⟩:(Int.gcd q p:Int)∣q.sign*p:=Int.dvd_mul_of_dvd_right (Int.gcd_dvd_right ..);rw[b,Int.mul_ediv_cancel_left _ (by omega)];have c:(q.sign*p).natAbs=p.natAbs:=by
   grind
  rw[<- c,b,Int.natAbs_mul];exact Nat.le_mul_of_pos_left _ (by omega)
 have c:Ln ((Rat.divInt p q).den:Int)<=Ln q:=by
  apply Wp;rw[Rat.den_divInt,if_neg a];exact Nat.div_le_self _ _
 unfold LF;omega
def yA {a b:Rat} (h:LF a+LF b+1<=eL):dY (bJ a) (bJ b)=some (bJ (a+b),0):=by
 have d:=kO a;have e:=kO b;have d1:=oF a;have d2:=oF b;have f:=lV a.num b.den;have g:=lV b.num a.den;have i:=lV a.den b.den;have j:=Ul (a.num*b.den) (b.num*a.den);unfold dY;rw[ko (by omega),amN];simp only[amC,alY,if_false];rw[ko (by omega),amN,amN];simp only[amC,alY,if_false];show (da (iP a.num) (iP b.den)).bind _=_;rw[ql (by omega) (by omega),amN];show (da (iP b.num) (iP a.den)).bind _=_;rw[ql (by omega) (by omega),amN,ag5 (by omega) (by omega),amN];show (da (iP a.den) (iP b.den)).bind _=_;have c:(a.den:Int)*b.den≠0:=by
  rw[<- anF];have:=Nat.mul_pos a.den_pos b.den_pos;omega
 rw[ql (by omega) (by omega),amN,NN (by omega) (by omega) c,amN];rw[Rat.add_def',<- Rat.divInt_ofNat,anF]
def oE (a b:Rat):LF (a+b)<=LF a+LF b+1:=by
 have d:=kO a;have e:=kO b;have d1:=oF a;have d2:=oF b;have f:=lV a.num b.den;have g:=lV b.num a.den;have h:=lV a.den b.den;have i:=Ul (a.num*b.den) (b.num*a.den);have c:(a.den:Int)*b.den≠0:=by
  rw[<- anF];have:=Nat.mul_pos a.den_pos b.den_pos;omega
 rw[Rat.add_def',<- Rat.divInt_ofNat,anF];have:=tD (p:=a.num*b.den+b.num*a.den) c;omega
def Uj (a:Rat):LF (-a)=LF a:=by unfold LF;rw[Rat.neg_num,Rat.neg_den,GF]
def Uk (a b:Rat):LF (a-b)<=LF a+LF b+1:=by
 rw[Rat.sub_eq_add_neg];have:=oE a (-b);rw[Uj]at this;exact this
def Wv {a b:Rat} (h:LF a+LF b+1<=eL):rT (bJ a) (bJ b)=some (bJ (a-b),0):=by
 unfold rT;rw[ko (by omega),amN];simp only[amC,alY,if_false];rw[ko (by omega),amN,amN];simp only[amC,alY,if_false];show (mB (iP b.num)).bind _=_;have c:=kO b;rw[DA (by omega),amN];have e:ah.mk (iP (-b.num)) (bJ b).bu=bJ (-b):=by unfold bJ;simp_all
 rw[e,yA (by rw[Uj];exact h),amN,Rat.sub_eq_add_neg]
def KJ {a b:Rat} (h:LF a+LF b<=eL):nS (bJ a) (bJ b)=some (bJ (a*b),0):=by
 have d:=kO a;have e:=kO b;have d1:=oF a;have d2:=oF b;have f:=lV a.num b.num;have g:=lV a.den b.den;unfold nS;rw[ko (by omega),amN];simp only[amC,alY,if_false];rw[ko (by omega),amN,amN];simp only[amC,alY,if_false];show (da (iP a.num) (iP b.num)).bind _=_;rw[ql (by omega) (by omega),amN];show (da (iP a.den) (iP b.den)).bind _=_;have c:(a.den:Int)*b.den≠0:=by
  rw[<- anF];have:=Nat.mul_pos a.den_pos b.den_pos;omega
 rw[ql (by omega) (by omega),amN,NN (by omega) (by omega) c,amN];rw[Rat.mul_def',<- Rat.divInt_ofNat,anF]
def sA (a b:Rat):LF (a*b)<=LF a+LF b:=by
 have d:=kO a;have e:=kO b;have d1:=oF a;have d2:=oF b;have f:=lV a.num b.num;have g:=lV a.den b.den;have c:(a.den:Int)*b.den≠0:=by
  rw[<- anF];have:=Nat.mul_pos a.den_pos b.den_pos;omega
 rw[Rat.mul_def',<- Rat.divInt_ofNat,anF];have:=tD (p:=a.num*b.num) c;omega
def Hd (a b:Rat):a / b=Rat.divInt (a.num*b.den) (a.den*b.num):=by
 rw[anH,Rat.inv_def]
 conv=>lhs;rw[<- Rat.num_divInt_den a]
 rw[Rat.divInt_mul_divInt]
def aiy {a b:Rat} (h:LF a+LF b<=eL) (h0:b≠0):rS (bJ a) (bJ b)=some (bJ (a / b),0):=by
 have j:=kO a;have k:=kO b;have d1:=oF a;have d2:=oF b;have l:=lV a.num b.den;have m:=lV a.den b.num;have f:b.num≠0:=fun g=>h0 (Rat.num_eq_zero.1 g);unfold rS;rw[ko (by omega),amN];simp only[amC,alY,if_false];rw[ko (by omega),amN,amN];simp only[amC,alY,if_false];have i:(bJ b).bn.al=b.num.sign:=rfl;have e:b.num.sign≠0:=by rcases Dj b.num with⟨a,b,c⟩|⟨a,b,c⟩|⟨a,b⟩<;>omega
 rw[i,if_neg (by simpa using e)];show (da (iP a.num) (iP b.den)).bind _=_;rw[ql (by omega) (by omega),amN];show (da (iP a.den) (iP b.num)).bind _=_;have d:(a.den:Int)*b.num≠0:=Int.mul_ne_zero (by have:=a.den_pos;omega) f;rw[ql (by omega) (by omega),amN,NN (by omega) (by omega) d,amN,Hd]
def aa7 {a b:Rat} (h0:b≠0):LF (a / b)<=LF a+LF b:=by
 have f:=kO a;have g:=kO b;have d1:=oF a;have d2:=oF b;have h:=lV a.num b.den;have i:=lV a.den b.num;have d:b.num≠0:=fun e=>h0 (Rat.num_eq_zero.1 e);have c:(a.den:Int)*b.num≠0:=Int.mul_ne_zero (by have:=a.den_pos;omega) d;rw[Hd];have:=tD (p:=a.num*b.den) c;omega
def aa6 {n:Int} (h : -9223372036854775808<=n∧n<9223372036854775808):fb n=some (bJ n):=by
 unfold fb;rw[Wq h,amN,Wq (by decide),amN];unfold bJ;simp_all
def Bb {n:Int} (h:n.natAbs<1048576):LF (n:Rat)<=1:=by
 unfold LF;rw[Rat.num_intCast,Rat.den_intCast];have a:=GG h;have b:=GG (x:=((1:Nat):Int)) (by decide);omega
def yE {a:Rat} (h:LF a<=eL):fP (bJ a)=some a.num.sign:=by
 unfold fP;rw[ko h,amN];rfl
def Y7 (a b:Rat):Int:=if a<b then -1 else if b<a then 1 else 0
def aeZ (a b:Rat):mD (a.num*b.den) (b.num*a.den)=Y7 a b:=by
 unfold mD Y7;simp only[Rat.lt_iff]
def YS {a b:Rat} (h:LF a+LF b<=eL):kP (bJ a) (bJ b)=some (Y7 a b):=by
 have c:=kO a;have d:=kO b;have d1:=oF a;have d2:=oF b;have e:=lV a.num b.den;have f:=lV b.num a.den;unfold kP;rw[ko (by omega),amN];simp only[amC,alY,if_false];rw[ko (by omega),amN,amN];simp only[amC,alY,if_false];show (da (iP a.num) (iP b.den)).bind _=_;rw[ql (by omega) (by omega),amN];show (da (iP b.num) (iP a.den)).bind _=_;rw[ql (by omega) (by omega),amN,Uh (by omega) (by omega),amN,aeZ]
instance:DecidableEq aH:=fun a b=>decidable_of_iff (a.al=b.al∧a.aa=b.aa) (by cases a;cases b;simp)
instance:DecidableEq ah:=fun a b=>decidable_of_iff (a.bn=b.bn∧a.bu=b.bu) (by cases a;cases b;simp)
def aba {x:Int} (h : -9223372036854775808<=x∧x<9223372036854775808):Ln x<=eL:=by
 have:Ln x<=4:=PL (by rw[pw4];omega);have a:eL=4398046511104:=rfl;omega
def afb (f:ah) (n:Int):vv f n=some (decide ((f.bn.aa.length:Int)<=n∧(f.bu.aa.length:Int)<=n)):=by
 unfold vv;grind
def acU {σ ρ:Type} {a:σ->Option (σ⊕ρ)} {n:Nat} {s b:σ} (h:a s=some (.inl b)):sU a (n+1) s=sU a n b:=by simp only[sU,h]
def RJ {σ ρ:Type} {a:σ->Option (σ⊕ρ)} {n:Nat} {s:σ} {r:ρ} (h:a s=some (.inr r)):sU a (n+1) s=some r:=by simp only[sU,h]
def bg {i:Nat} (h:i<4611686018427387904):IntKind.i64.wrap ((i:Int)+1)=((i+1:Nat):Int):=by rw[wrap64 (by omega) (by omega)];omega
def aT {α:Type} {l:List α} {i:Nat} {x:α} (h:l[i]? = some x):P.idx l (i:Int)=some x:=RE (by omega) (by simpa using h)
def aU {α:Type} {l:List α} {i:Nat} {x:α} (h:l[i]? = some x):i<l.length:=(alT.1 h).1
def drop_cons {α:Type} {l a:List α} {i:Nat} {x:α} (h:l.drop i=x::a):i<l.length∧l[i]? = some x∧l.drop (i+1)=a:=by
 have b:i<l.length:=by
  rcases al7 i l.length with h1|h1
  ·exact h1
  ·rw[amX h1]at h;cases h
 rw[anc b]at h;grind
def fv {α ρ:Type} (a:Nat->α->Option ρ):Nat->List α->Option ρ
 | _,[]=>none
 | i,x::l=>match a i x with|some r=>some r|none=>fv a (i+1) l
def dh {α ρ:Type} {st:Nat->α->Option ρ} : ∀ {l:List α} {i:Nat},fv st i l=none↔∀(j:Nat) x,l[j]? = some x->st (i+j) x=none
 | [],i=>by simp[fv]
 | x::l,i=>by
  simp only[fv];constructor
  ·intro h j y a;cases c:st i x with
   | some r=>simp_all
   | none =>
    rw[c]at h;cases j with
    | zero=>simp_all
    | succ j =>
     have:=dh.1 h j y (by simpa using a);grind
  ·intro h;have b:=h 0 x rfl;simp only[Nat.add_zero]at b;rw[b];refine dh.2 fun j y a =>?_;have:=h (j+1) y (by simpa using a);grind
def dB {α ρ:Type} {st:Nat->α->Option ρ} {r:ρ} : ∀ {l:List α} {i:Nat},fv st i l=some r->∃(j:Nat) (x:α),l[j]? = some x∧st (i+j) x=some r∧∀(k:Nat) y,k<j->l[k]? = some y->st (i+k) y=none
 | [],i,h=>by cases h
 | x::l,i,h=>by
  simp only[fv]at h;cases a:st i x with
  | some r' =>
   rw[a]at h;exact⟨0,x,rfl,by simp_all,fun k y b=>by omega⟩
  | none =>
   rw[a]at h;obtain⟨j,y,c,d,e⟩:=dB h;refine⟨j+1,y,by simpa using c,by grind,fun k z b f =>?_⟩;cases k with
   | zero=>simp_all
   | succ k =>
    grind
def sj {α ρ:Type} (l:List α) {body:Int->Option (Int⊕(Unit⊕ρ))} (b:Nat->α->Option ρ) (e:l.length<4611686018427387904)
  (h:∀(i:Nat) x,l[i]? = some x->body (i:Int)=some (match b i x with|none =>.inl ((i+1:Nat):Int)|some r =>.inr (.inr r))) (j:body (l.length:Int)=some (.inr (.inl ()))) :
  aR body 0=some (match fv b 0 l with|none =>.inl ()|some r =>.inr r):=by
 have key:∀(rest:List α) (i a:Nat),i<=l.length->l.drop i=rest->rest.length<a->sU body a (i:Int)=some (match fv b i rest with|none =>.inl ()|some r =>.inr r):=by
  intro rest
  induction rest with
  | nil =>
   intro i a k g c;obtain⟨f,rfl⟩:∃f,a=f+1:=⟨a-1,by simp at c;omega⟩;have m:l.length<=i:=by
    simp_all
   have:i=l.length:=by omega
   subst this;rw[RJ j];rfl
  | cons x rest n =>
   intro i a k g c;obtain⟨f,rfl⟩:∃f,a=f+1:=⟨a-1,by simp at c;omega⟩;obtain⟨o,p,q⟩:=drop_cons g;have:=h i x p;cases d:b i x with
   | some r =>
    rw[d]at this;rw[RJ this];simp only[fv,d]
   | none =>
    rw[d]at this;rw[acU this,n (i+1) f o q (by simp at c;omega)];simp only[fv,d]
 exact key l 0 FU (alr _) rfl (by have:FU=1000000000000000000000000:=rfl;omega)
def tp {α σ ρ:Type} {body:Int×σ->Option ((Int×σ)⊕ρ)} (l:List α) (d:l.length<=17592186044416) (inv:Nat->σ->Prop) (Q:ρ->Prop) {s0:σ} (e:inv 0 s0)
  (a:∀(i:Nat) x s,l[i]? = some x->inv i s->∃b,body ((i:Int),s)=some (.inl (((i+1:Nat):Int),b))∧inv (i+1) b)
  (c:∀s,inv l.length s->∃r,body ((l.length:Int),s)=some (.inr r)∧Q r):∃r,aR body ((0:Int),s0)=some r∧Q r:=by
 refine db (fun i s=>s.1=(i:Int)∧inv i s.2) l.length Q ⟨rfl,e⟩ (jQ d) ?_;rintro i ⟨k,s⟩ g ⟨rfl,f⟩;rcases al7 i l.length with h|h
 ·obtain⟨b,j,m⟩:=a i _ s (alE h) f;simp_all
 grind
def dJ {α:Type} {N j:Nat} (f:Nat->α) (h:j<N):((List.range N).map f)[j]? = some (f j):=by simp[h]
def Al {α:Type} {N:Nat} (f:Nat->α):((List.range N).map f).length=N:=by simp
def iC {α:Type} {l:List α} {N:Nat} {f:Nat->α} (a:l.length=N) (h:∀j,j<N->l[j]? = some (f j)):l=(List.range N).map f:=by
 apply anp;grind
def iw {α:Type} {N i:Nat} (f:Nat->α) (v:α):((List.range N).map f).set i v=(List.range N).map fun j=>if j=i then v else f j:=by
 refine iC (by simp) fun j a =>?_;grind
def BK {α β:Type} {mk:β->α} {R:β->Prop} : ∀ {l:List α},(∀x∈l,∃y,x=mk y∧R y)->∃a:List β,l=a.map mk∧∀y∈a,R y
 | [],_=>⟨[],rfl,fun _ h=>by cases h⟩
 | x::l,h=>by
  obtain⟨y,c,d⟩:=h x (amH ..);obtain⟨a,e,f⟩:=BK (l:=l) fun z b=>h z (amI _ b);refine⟨y::a,by simp_all,fun z b =>?_⟩;grind
def OW {α:Type} {R:α->α->Prop} (g:∀a b c,R a b->R b c->R a c) {l:List α} (h:∀(i:Nat) a b,l[i]? = some a->l[i+1]? = some b->R a b):l.Pairwise R:=by
 rw[ans];intro i j k f e;obtain⟨d,rfl⟩:∃d,j=i+1+d:=⟨j-(i+1),by omega⟩;clear e
 induction d with
 | zero=>exact h i _ _ (alE k) (alE f)
 | succ d m=>exact g _ _ _ (m (by omega)) (h (i+1+d) _ _ (alE (by omega)) (alE f))
abbrev Tk:=Nat×Nat×Rat
def zw (t:Tk):cN:=cN.mk (t.1:Int) (t.2.1:Int) (bJ t.2.2)
def sM (N:Nat) (a:List Tk):ik:=ik.mk (N:Int) (a.map zw)
def XR {a b:Tk} (h:zw a=zw b):a=b:=by
 unfold zw at h;injection h with d e c;exact Prod.ext (by omega) (Prod.ext (by omega) (vg c))
def OH {N M:Nat} {a b:List Tk} (h:sM N a=sM M b):N=M∧a=b:=by
 unfold sM at h;injection h with d c;refine⟨by omega,?_⟩;exact List.map_inj_right (f:=zw) (fun x y h=>XR h) |>.1 c
def v8:List Tk->Nat->Rat
 | [],_=>0
 | t::l,p=>(if t.1=p then t.2.2 else 0)+v8 l p
def S3 (a b:List Tk) (p:Nat):v8 (a++b) p=v8 a p+v8 b p:=by
 induction a with
 | nil=>rw[amU,v8,Rat.zero_add]
 | cons t a c=>rw[am7,v8,v8,c];grind
def ib (a:List Tk) (p:Nat):Rat:=1-v8 a p
def Io {a:List Tk} {i:Nat} {t:Tk} (h:a[i]? = some t) (p:Nat):ib (a.take (i+1)) p=ib (a.take i) p-(if t.1=p then t.2.2 else 0):=by
 obtain⟨b,c⟩:=alT.1 h;unfold ib;rw[anM b,S3,c];simp only[v8];grind
def NL {a:List Tk} {K:Nat} (b:∀t∈a,LF t.2.2<=K) (p:Nat):∀i,i<=a.length->LF (ib (a.take i) p)<=1+i*(K+1)
 | 0,_=>by
  have:ib (a.take 0) p=((1:Int):Rat):=by unfold ib;rw[ane,v8];grind
  rw[this];exact als (Bb (n:=1) (by decide)) (by omega)
 | i+1,h=>by
  have d:=NL b p i (by omega);have c:a[i]? = some a[i]:=alE (by omega);rw[Io c];have e:=b _ (alC (show i<a.length by omega));rw[amY];split
  ·have:=Uk (ib (a.take i) p) a[i].2.2;omega
  grind
def PI {a:List Tk} {K:Nat} (b:∀t∈a,LF t.2.2<=K) (p:Nat):LF (ib a p)<=1+a.length*(K+1):=by
 have:=NL b p a.length (alq _);simp_all
def Fy {α:Type} {N B:Nat} (z:α) (h:N*B<=140737488355328) (a:N<=2000):JV B (N:Int) (N:Int) z=some (List.replicate N z):=by
 unfold JV;have:(2000:Nat)<=maxLen:=by decide
 grind
def afk:fb 1=some (bJ 1):=aa6 (n:=1) (by decide)
def RY {N K:Nat} {a:List Tk} (s:N<=2000) (m:a.length<=8000) (u:∀t∈a,t.1<N) (z:K<=1000000) (n:∀t∈a,LF t.2.2<=K) :
  qZ (sM N a)=some ((List.range N).map fun p=>bJ (ib a p)):=by
 unfold qZ sM;simp only;rw[Fy _ (by omega) s,amN];have b:∃r,aR (pW (List.replicate N (ah.mk (aH.mk 0 []) (aH.mk 0 [])))) ((0:Int),List.replicate N (ah.mk (aH.mk 0 []) (aH.mk 0 [])))=some r∧r=(List.range N).map fun p=>bJ (ib (a.take 0) p):=by
  refine tp (List.replicate N (ah.mk (aH.mk 0 []) (aH.mk 0 []))) (by simp;omega) (fun i l=>l.length=N∧∀j,j<i->l[j]? = some (bJ 1)) _ ⟨by simp,fun j c=>by omega⟩ ?_ ?_
  ·rintro i x l A ⟨d,e⟩;have v:i<N:=by grind
   have g:l[i]? = some l[i]:=alE (by omega);refine⟨l.set i (bJ 1),?_,by simpa using d,fun j c =>?_⟩
   ·simp only[pW];rw[if_pos (by simp;omega),afk,amN,aT g,amN,bg (by omega),amk]
   grind
  ·rintro l ⟨d,e⟩;refine⟨l,?_,?_⟩
   ·simp only[pW];simp_all
   ·rw[List.length_replicate]at e;refine iC d fun j c =>?_;rw[e j c,ane];congr 2;unfold ib v8;grind
 obtain⟨r,b,rfl⟩:=b;rw[b,amN];have B:∃r,aR (pX (ik.mk (N:Int) (a.map zw))) ((0:Int),(List.range N).map fun p=>bJ (ib (a.take 0) p))=some r∧r=(List.range N).map fun p=>bJ (ib a p):=by
  refine tp a (by omega) (fun i l=>l=(List.range N).map fun p=>bJ (ib (a.take i) p)) _ rfl ?_ ?_
  ·rintro i t _ h rfl;have v:=aU h;have o:=alR h;have k:=u t o;have g:(a.map zw)[i]? = some (zw t):=by simp_all
   refine⟨_,?_,rfl⟩;simp only[pX];have w:=NL n t.1 i (by omega);have y:=n t o;have q:i*(K+1)<=8000*1000001:=anN (by omega) (by omega);rw[if_pos (by simp;omega),aT g,amN];simp only[zw];rw[aT (dJ _ k),amN,Wv (by unfold eL;omega),amN,bg (by omega),amk,iw];congr 3;refine congrArg (fun f=>(List.range N).map f) (funext fun p =>?_);rw[Io h];grind
  ·rintro _ rfl;refine⟨_,?_,rfl⟩;simp only[pX];simp_all
 simp_all
def XK (a b:Tk):Prop:=a.1<b.1∨(a.1=b.1∧a.2.1<b.2.1)
def Z3 (a b c:Tk) (h:XK a b) (k:XK b c):XK a c:=by unfold XK at *;omega
structure lW (N:Nat) (tk:List Tk):Prop where
 ports:N<=2000
 takes:tk.length<=8000
 ok:∀t∈tk,t.1<N∧t.2.1<N∧0<t.2.2
 sorted:tk.Pairwise XK
 leak:∀p,p<N->0<=ib tk p
def ns (a b c:Int):fH a b c=some (decide (b<=a∧a<=c)):=by
 unfold fH;grind
def Y4 (a b:cN):∃c,qW a b=some c∧(c<0↔(a.dA<b.dA∨(a.dA=b.dA∧a.lH<b.lH))):=by
 unfold qW;rw[DD,amN,DD,amN,agh,amN];refine⟨_,rfl,?_⟩;unfold mD;omega
def ox {q:Rat} : q.num.sign<0↔q<0:=by
 rw[Int.sign_neg_iff,<- Rat.not_le,<- Rat.num_nonneg];omega
def adM {q:Rat} : q.num.sign=0↔q=0:=by
 simp_all
def Gq {q:Rat} : 0<q.num.sign↔0<q:=by
 constructor
 ·intro h;have b:¬q<0:=fun a=>by have:=ox.2 a;omega
  have c:q≠0:=fun a=>by simp_all
  grind
 ·intro h;have b:¬q.num.sign<0:=fun a=>by have:=ox.1 a;grind
  have c:q.num.sign≠0:=fun a=>by simp_all
  omega
def pG {q:Rat} {k:Nat} (a:(bJ q).bn.aa.length<=k) (b:(bJ q).bu.aa.length<=k):LF q<=k:=by
 unfold LF Ln;exact Nat.max_le.2 ⟨a,b⟩
def xl {q:Rat} {k:Nat} (h:LF q<=k):(bJ q).bn.aa.length<=k∧(bJ q).bu.aa.length<=k:=by
 unfold LF Ln at h;exact Nat.max_le.1 h
def Hb {l:List Rat} (g:l.length<=17592186044416) (d:∀q∈l,LF q<=eL):cT (l.map bJ)=some (decide (∃q∈l,q<0)):=by
 unfold cT ep;rw[sj l (fun i q=>if q<0 then some (i:Int) else none) (by omega) (fun i q a =>?_) (by simp only[eP];simp_all)]
 ·rw[amN];cases b:fv (fun i (q:Rat)=>if q<0 then some (i:Int) else none) 0 l with
  | none =>
   simp only;rw[amN,decide_eq_false (by decide),decide_eq_false];rintro⟨q,a,hn⟩;obtain⟨j,e⟩:=alL a;have:=dh.1 b j q e;simp_all
  | some r =>
   obtain⟨j,q,f,c,_⟩:=dB b
   by_cases hn:q<0
   ·rw[if_pos hn]at c;cases c;simp only;rw[amN,decide_eq_true (by omega),decide_eq_true ⟨q,alR f,hn⟩]
   simp_all
 ·have k:=aU a;simp only[eP,sd];rw[if_pos (by simp;omega),aT (x:=bJ q) (by simp_all),amN,yE (d q (alR a)),amN,amN]
  by_cases hn:q<0
  ·rw[decide_eq_true (ox.2 hn),if_pos hn];rfl
  ·rw[decide_eq_false (fun h=>hn (ox.1 h)),if_neg hn,bg (by omega)];rfl
def aac (N:Nat) (x:cN):Bool:=decide (0<=x.dA∧x.dA<=(N:Int)-1)&&decide (0<=x.lH∧x.lH<=(N:Int)-1)&&okF x.gE&&decide (0<x.gE.bn.al)
def Y3 (a b:cN):Prop:=a.dA<b.dA∨(a.dA=b.dA∧a.lH<b.lH)
instance (a b:cN):Decidable (Y3 a b):=by unfold Y3;infer_instance
def CR (N:Nat) (l:List cN) (i:Nat) (x:cN):Bool:=aac N x&&(decide (i=0)||(match l[i-1]? with|some y=>decide (Y3 y x)|none=>false))
def SM {N:Nat} {x:cN} : aac N x=true↔∃t:Tk,x=zw t∧t.1<N∧t.2.1<N∧0<t.2.2:=by
 unfold aac;simp only[al0,decide_eq_true_eq];constructor
 ·rintro⟨⟨⟨c,d⟩,a⟩,b⟩;obtain⟨q,e⟩:=ow.1 a;refine⟨(x.dA.toNat,x.lH.toNat,q),?_,by simp only;omega,by simp only;omega,?_⟩
  ·unfold zw;cases x;grind
  ·rw[e]at b;exact Gq.1 b
 ·rintro⟨t,rfl,c,d,a⟩;exact⟨⟨⟨by simp only[zw];omega,by simp only[zw];omega⟩,BP _⟩,Gq.2 a⟩
def WI {a b:Tk} : Y3 (zw a) (zw b)↔XK a b:=by
 unfold Y3 XK zw;simp only;omega
def acL {n:ik} {N j:Nat} {x:cN} (c:n.aC=(N:Int)) (d:n.bq[j]? = some x) (a:¬CR N n.bq j x=true):¬ ∃M b,n=sM M b∧lW M b:=by
 rintro⟨M,b,rfl,f⟩;apply a;simp only[sM]at d c ⊢;obtain rfl:M=N:=by omega
 rw[aln,alo]at d;obtain⟨t,g,rfl⟩:=d;have h:=alR g;unfold CR;rw[SM.2 ⟨t,rfl,f.ok t h⟩,amD];cases j with
 | zero=>simp
 | succ j =>
  have e:=aU g;have i:b[j]? = some b[j]:=alE (by omega);rw[amZ,aln,i];simp only[Option.map_some];rw[decide_eq_true (WI.2 ?_),Bool.or_true];have:=ans.1 f.sorted j (j+1) (by omega) e (by omega);simp_all
def acK {n:ik} {N K:Nat} (f:n.aC=(N:Int)) (r:n.bq.length<=8000) (k:∀t∈n.bq,t.gE.bn.aa.length<=K∧t.gE.bu.aa.length<=K) (c:∀(j:Nat) x,n.bq[j]? = some x->CR N n.bq j x=true) :
  ∃d,n=sM N d∧(∀t∈d,t.1<N∧t.2.1<N∧0<t.2.2)∧d.Pairwise XK∧(∀t∈d,LF t.2.2<=K)∧d.length=n.bq.length:=by
 obtain⟨d,e,h⟩:=BK (mk:=zw) (R:=fun t=>t.1<N∧t.2.1<N∧0<t.2.2) (l:=n.bq) fun x m=>by
  obtain⟨j,o⟩:=alL m;have:=c j x o;unfold CR at this;rw[al0]at this;exact SM.1 this.1
 have s:n=sM N d:=by
  unfold sM;rw[<- f,<- e]
 have g:d.Pairwise XK:=OW Z3 fun i a b p u=>by
  have:=c (i+1) (zw b) (by simp_all);unfold CR at this;rw[al0,amZ,e,aln,p]at this;simpa [WI] using this.2
 have q:∀t∈d,LF t.2.2<=K:=fun t v=>by
  have:=k (zw t) (by grind);exact pG this.1 this.2
 grind
def MY {n:ik} {K:Nat} (P:K<=1000000) (Q:∀t∈n.bq,t.gE.bn.aa.length<=K∧t.gE.bu.aa.length<=K) :
  ∃b,qV n=some b∧(b=true↔∃N a,n=sM N a∧lW N a):=by
 unfold qV;rw[ns,amN]
 by_cases E:0<=n.aC∧n.aC<=2000
 rotate_left
 ·rw[decide_eq_false E];refine⟨false,by simp,?_⟩;simp only[alY,false_iff];rintro⟨N,a,rfl,h⟩;have:=h.ports;simp only[sM]at E;omega
 rw[decide_eq_true E];simp only[amC,alY,if_false,Option.bind_some]
 by_cases F:(n.bq.length:Int)>8000
 ·rw[decide_eq_true F];refine⟨false,by simp,?_⟩;simp only[alY,false_iff];rintro⟨N,a,rfl,h⟩;have:=h.takes;simp only[sM,alU]at F;omega
 rw[decide_eq_false F];simp only[alY,if_false];obtain⟨N,f⟩:∃N:Nat,n.aC=(N:Int):=⟨n.aC.toNat,by omega⟩;have G:IntKind.i64.wrap (n.aC-1)=(N:Int)-1:=by rw[f,wrap64 (by omega) (by omega)]
 have U:K<=qF:=als P (by unfold qF;omega);have g:=sj n.bq (body:=pV n) (fun i x=>if CR N n.bq i x=true then none else some false) (by omega) (fun i x H=>by
  have hi:=aU H;obtain⟨u,v⟩:=Q x (alR H);simp only[pV];rw[if_pos (by simp;omega),aT H,amN,ns,amN,G];have k:(if (!decide (0<=x.dA∧x.dA<=(N:Int)-1))=true then some true
   else (fH x.lH 0 ((N:Int)-1)).bind fun I =>
    if (!I)=true then some true
    else (cK x.gE).bind fun J=>if (!J)=true then some true else (fP x.gE).bind fun L=>some (decide (L<=0)))=some (!aac N x):=by
   unfold aac
   by_cases V:0<=x.dA∧x.dA<=(N:Int)-1
   rotate_left
   ·grind
   rw[decide_eq_true V,ns,amN]
   by_cases W:0<=x.lH∧x.lH<=(N:Int)-1
   rotate_left
   ·grind
   rw[decide_eq_true W,pJ ⟨by omega,by omega⟩,amN];cases l:okF x.gE with
   | false=>simp
   | true =>
    obtain⟨q,l⟩:=ow.1 l;rw[l]at u v ⊢;have m:=pG u v;rw[yE (by unfold eL;omega),amN];have:(bJ q).bn.al=q.num.sign:=rfl;rw[this]
    by_cases c3:q.num.sign<=0
    ·simp_all
    simp_all
  rw[k,amN];unfold CR;cases X:aac N x with
  | false=>simp
  | true =>
   simp only[amC,alY,if_false,amD];cases i with
   | zero=>rw[if_neg (by simp),bg (by omega)];simp
   | succ i =>
    rw[if_pos (by simp)];have R:n.bq[i]? = some n.bq[i]:=alE (by omega);have Y:IntKind.i64.wrap (((i+1:Nat):Int)-1)=(i:Int):=by rw[wrap64 (by omega) (by omega)];omega
    obtain⟨c,O,w⟩:=Y4 n.bq[i] x;rw[Y,aT R,amN,O,amN,amZ,R];simp only[Nat.add_eq_zero_iff,anl,and_false,decide_false,amn]
    by_cases hb:Y3 n.bq[i] x
    ·rw[if_neg (by simp;exact w.2 hb),decide_eq_true hb,bg (by omega)];rfl
    ·rw[if_pos (by simp only[decide_eq_true_eq];have:¬c<0:=fun h=>hb (w.1 h);omega),decide_eq_false hb];rfl) (by
  unfold pV;simp_all)
 rw[g,amN];cases y:fv (fun i x=>if CR N n.bq i x=true then none else some false) 0 n.bq with
 | some r =>
  obtain⟨j,x,Z,z,_⟩:=dB y;simp only[amr]at z;split at z
  ·cases z
  rename_i A;cases z;refine⟨false,rfl,?_⟩;simp only[alY,false_iff];exact acL f Z A
 | none =>
  have B:=dh.1 y;simp only[amr]at B;have o:∀(j:Nat) x,n.bq[j]? = some x->CR N n.bq j x=true:=fun j x hj=>by
   simp_all
  obtain⟨a,hn,e,s,m,aa⟩:=acK f (by omega) Q o;have d:a.length<=8000:=by omega
  have C:N<=2000:=by omega
  simp only;rw[hn,RY C d (fun t ht=>(e t ht).1) P m,amN];have D:((List.range N).map fun p=>bJ (ib a p))=((List.range N).map fun p=>ib a p).map bJ:=by simp_all
  rw[D,Hb (by simp;omega) (fun q l=>by
   obtain⟨p,_,rfl⟩:=alp.1 l;have:=PI m p;have z:a.length*(K+1)<=8000*1000001:=anN d (by omega);unfold eL;omega),amN]
  refine⟨_,rfl,?_⟩;simp only[al1,decide_eq_false_iff_not];constructor
  ·intro ab;refine⟨N,a,rfl,⟨C,d,e,s,fun p S =>?_⟩⟩
   by_cases h0:ib a p<0
   ·simp_all
   ·grind
  ·rintro⟨M,ad,he,hR⟩ ⟨q,l,T⟩;obtain⟨rfl,rfl⟩:=OH he;obtain⟨p,S,rfl⟩:=alp.1 l;have:=hR.leak p (amQ.1 S);grind
def C3:∀(N:Nat) (l:List Nat),l.Nodup->(∀x∈l,x<N)->l.length<=N
 | 0,l,_,h=>by
  cases l with
  | nil=>simp
  | cons x l=>exact absurd (h x (amH ..)) (by omega)
 | N+1,l,a,h=>by
  have b:=C3 N (l.erase N) (a.erase N) fun x c=>by
   grind
  grind
def mM (l:List Nat):List Int:=l.map fun (p:Nat)=>(p:Int)
def adr {l:List Nat} {i p:Nat} (h:l[i]? = some p):(mM l)[i]? = some (p:Int):=by unfold mM;simp_all
def sb (l:List Nat):(mM l).length=l.length:=alU ..
def nM (a:List Tk) (p:Nat):List Nat:=(a.filter fun t=>decide (t.2.1=p)).map fun t=>t.1
def Mr {a:List Tk} {p q:Nat} : q∈nM a p↔∃t∈a,t.1=q∧t.2.1=p:=by
 unfold nM;simp_all
def KW (a:List Tk) (p:Nat):(nM a p).length<=a.length:=by
 unfold nM;grind
def Uu {a:List Tk} {i:Nat} {t:Tk} (h:a[i]? = some t) (p:Nat):nM (a.take (i+1)) p=if t.2.1=p then nM (a.take i) p++[t.1] else nM (a.take i) p:=by
 obtain⟨b,c⟩:=alT.1 h;unfold nM;rw[anM b,anO,amE,c];grind
structure sB (N:Nat) (tk:List Tk) (r:Nat->Int):Prop where
 ge:∀p,p<N -> -1<=r p
 zero:∀p,p<N->(r p=0↔0<ib tk p)
 down:∀p,p<N->0<r p->∃t∈tk,t.1=p∧r t.2.1=r p-1
 near:∀t∈tk,0<=r t.2.1->0<=r t.1∧r t.1<=r t.2.1+1
 le:∀p,p<N->r p<=2000
structure BF (N:Nat) (tk:List Tk) (r:Nat->Int) (D Q:List Nat) (h m:Int):Prop where
 nodup:(D++Q).Nodup
 lt:∀p∈D++Q,p<N
 rk:∀p,p<N->(0<=r p↔p∈D++Q)
 ge:∀p,p<N -> -1<=r p
 zero:∀p,p<N->(r p=0↔0<ib tk p)
 down:∀p,p<N->0<r p->∃t∈tk,t.1=p∧r t.2.1=r p-1
 near:∀t∈tk,t.2.1∈D->0<=r t.1∧r t.1<=r t.2.1+1
 mono:Q.Pairwise fun a b=>r a<=r b
 top:∀p∈D++Q,r p<=h+1
 low:∀q∈Q,h<=r q
 bnd:∀p,p<N->r p<=m
def aaL (r:Nat->Int) (q:Nat) (v:Int):Nat->Int:=fun x=>if x=q then v else r x
def np (r:Nat->Int) (q:Nat) (v:Int):aaL r q v q=v:=if_pos rfl
def km {r:Nat->Int} {q x:Nat} (v:Int) (h:x≠q):aaL r q v x=r x:=if_neg h
def BF.pop {N:Nat} {e:List Tk} {r:Nat->Int} {D Q:List Nat} {p:Nat} {h m:Int} (a:BF N e r D (p::Q) h m):BF N e r D (p::Q) (r p) (m+1)∧0<=r p∧p<N∧r p<=m where
 left:={
  nodup:=a.nodup,lt:=a.lt,rk:=a.rk,ge:=a.ge,zero:=a.zero,down:=a.down,near:=a.near,mono:=a.mono
  top:=fun x b=>by
   have g:=a.top x b;have i:=a.low p (amH ..);omega
  low:=fun q c=>by
   rcases alx.1 c with rfl|c
   ·exact Int.le_refl _
   ·exact (amP.1 a.mono).1 q c
  bnd:=fun x b=>by have:=a.bnd x b;omega }
 right:=by
  have f:p∈D++p::Q:=alG _ (amH ..);have d:=a.lt p f;exact⟨(a.rk p d).2 f,d,a.bnd p d⟩
end Go.Proofs.YtobnihfgnbnncaaGreat.P
