import Derived.Test.YtobnihfgnbnncaaGreatJe
set_option linter.unusedSimpArgs false
set_option linter.unusedVariables false
set_option linter.defProp false
noncomputable section
open Go.Proofs.Tryz
namespace Go.Proofs.YtobnihfgnbnncaaGreat.Am
open Go.RowKit Go.Proofs.YtobnihfgnbnncaaGreat.P
set_option maxRecDepth 100000
set_option maxHeartbeats 4000000
def jg:cr prog 177 cq:=cr.jl (mode := .clean) tok jf mixed func177 (by kernel_rfl) (fun _ _=>rfl) (fun _=>by kernel_rfl) fun⟨h,q,_⟩ r a=>by
 replace a:bE h q=some r:=a;apply aL rfl ntmps177 results177;simp only[jo];unfold bE at a;simp only[aJ,seval,-Int.reduceToNat];obtain⟨A,u,a⟩:=ae a;refine aB (fun s t H e=>match s with|(i,b)=>t 0=sF ch h∧t 1=sN q∧t 2=.fn 178∧t 8=sN (h.length:Int)∧t 9=sN i∧t 10=sN b) (fun o x t H e=>match o with|d=>x=.exit 0∧t 0=sF ch h∧t 1=sN q∧t 2=.fn 178∧t 8=sN (h.length:Int)∧t 9=sN d) u ?_ ?_ ?_
 ·refine⟨?_,?_,?_,?_,?_,?_⟩;all_goals (rfl)
 ·rintro⟨i,b⟩ t H e j c a;simp only[cn]at a;simp only[aJ,seval,-Int.reduceToNat,j];apply sp ay a<;>intro _ a
  ·obtain⟨F,v,a⟩:=ae a;have w:=wP v;obtain⟨B,k,a⟩:=ae a;have f:=bn ch k;simp only[bP]at f;obtain⟨C,l,a⟩:=ae a;simp only[aJ,seval,-Int.reduceToNat,j,w,f,l];apply sp ay a<;>intro _ a
   ·cases a;simp only[aJ,seval,-Int.reduceToNat];apply iQ;and_intros<;>first|rfl|(simp only[aJ,seval,-Int.reduceToNat,j]<;>rfl)
   ·cases a;simp only[aJ,seval,-Int.reduceToNat];apply iQ;and_intros<;>first|rfl|(simp only[aJ,seval,-Int.reduceToNat,j]<;>rfl)
  ·cases a;simp only[aJ,seval,-Int.reduceToNat];apply j9;refine⟨rfl,⟨?_,?_,?_,?_,?_⟩⟩;all_goals ((simp only[aJ,seval,-Int.reduceToNat,j]<;>rfl))
 ·rintro x t H e y;obtain⟨d,rfl⟩:∃z,z=A:=⟨_,rfl⟩;dsimp only at y a;obtain⟨rfl,m⟩:=y;simp only[aJ,seval,-Int.reduceToNat,m];apply sp fM a<;>intro _ a
  ·obtain⟨D,n,a⟩:=ae a;have g:=bn ch n;simp only[bP]at g;obtain⟨E,p,a⟩:=ae a;cases a;simp only[aJ,seval,-Int.reduceToNat,m,g,p]
  ·cases a;simp only[aJ,seval,-Int.reduceToNat]
def fV:=IV 128 130 5 a7 (dN (aI .i64)) (fun (q:aH) (x:Int)=>dw q x) (fun r:Int×Bool =>.tup [.int .i64 r.1,.bool r.2])
def kv (b a:List D) (c:aH) (d:Int):fV 128 130 5 b.length (b++(a7.cells c++a)) [.int .i64 d]=(dw c d).map fun r=>(.tup [.int .i64 r.2.1,.bool r.2.2],b++(a7.cells r.1++a)):=MV _ _ _ _ _ _ _ b a c (d)
def iY:Env:=(Am.ext bs 177 false cq)
def wB:bY prog iY:=(bY.none.add jg false)
def xy:=ai @w<|ai @vnp<|ai @ahF<|ai @cq.eq_1<|@iY.eq_1
def xq (b a:List D) (e:aH) (f:Int) (r:aH×(Int×Bool)) (c:dw e f=some r):wR tab iY FU Tryz.f137 128 130 5 b.length (b++(a7.cells e++a)) [.int .i64 f]=some (.tup [.int .i64 r.2.1,.bool r.2.2],b++(a7.cells r.1++a)):=by
 apply zx rfl ntmps137 results137;rw[eT];unfold dw at c;obtain⟨g,d,c⟩:=ae c;cases c;simp only[xy,seval,d]
def ey:NOk prog 137 fV:=NOk.of tok wB mixed func137 (by kernel_rfl) ⟨by kernel_rfl,by kernel_rfl⟩ (fun _=>ak7 (by kernel_rfl)) (fun b a q x c r h=>xq b a q x (c,r) h)
def lf:=mkE 130 ch (gG (aI .i64) (dN (aI .i64))) (fun (l:(List fR)) (x:Int×Int)=>iD l x.1 x.2)
def uv (b a:List D) (c:(List fR)) (d e:Int):lf (some (.buf 0 0 5 b.length c.length,⟨0,130,b++(av ch c++a),false,true,false⟩)) [.int .i64 d,.int .i64 e]=(iD c d e).map fun r=>(.fresh 130 5 r.length (av ch r),none):=abx _ _ _ _ b a c (d,e)
def tC:cr prog 138 lf:=adf ch rfl
def vL (l:Option (D×Row)) (d:List D):=er (gG (bV ak) (dN (bV ak))) (fun x:an×an=>qT x.1 x.2) (fun r:an×Int =>.clean (.tup [.agg [.int .i64 r.1.bL.ax,.sl false false r.1.bL.aa.length (av (eI .i64) r.1.bL.aa),.int .i64 r.1.bQ.ax,.sl false false r.1.bQ.aa.length (av (eI .i64) r.1.bQ.aa)],.int .i64 r.2])) l d
def Aw:Env:=(Am.ext (Am.ext (Am.ext bs 54 false bh) 60 false eL) 63 false gB)
def PL:bY prog Aw:=(((bY.none.add ff false).add qJ false).add uo false)
def ky:=ai @w<|ai @kh<|ai @bh.eq_1<|ai @Lv<|ai @eL.eq_1<|ai @gB.eq_1<|@Aw.eq_1
def Q9:cr prog 139 vL:=cr.jl (mode := .clean) tok PL mixed func139 (by kernel_rfl) (fun _ _=>rfl) (fun _=>by kernel_rfl) fun⟨h,i⟩ r a=>by
 replace a:qT h i=some r:=a;apply aL rfl ntmps139 results139;simp only[jo];unfold qT at a;obtain⟨q,j,a⟩:=ae a;simp only[ky,seval,j];obtain⟨p,k,a⟩:=ae a;refine cV 0 (fun s t H e=>match s with|g=>∃b:Nat,∃c:Nat,∃d:Nat,t 2=.ptr 2 b 0∧t 3=.ptr 3 c 0∧t 4=.ptr 4 d 0∧t 6=.bool g∧H 2=rV b 41 [sN h.bL.ax,sI h.bL.aa,sN h.bQ.ax,sI h.bQ.aa]∧H 3=rV c 41 [sN i.bL.ax,sI i.bL.aa,sN i.bQ.ax,sI i.bQ.aa]∧H 4=rV d 41 [sN 0,.sl true true 0 [],sN 0,.sl true true 0 []]) (fun s=>s=p) ?_ ?_
 ·rintro g t H e ⟨b,c,d,f⟩ rfl;try dsimp only at a
  simp only[ky,seval,f];apply sp ay a<;>intro _ a
  ·cases a;simp only[ky,seval,f]
  ·simp only[ky,seval,f];apply sp ay a<;>intro _ a
   ·cases a;simp only[ky,seval,f]
   ·obtain⟨u,l,a⟩:=ae a;obtain⟨v,m,a⟩:=ae a;obtain⟨w,n,a⟩:=ae a;simp only[ky,seval,f,l,m,n];refine bN (by kernel_rfl) ?_;cases a;simp only[seval]
 ·clear a;have a:=k;simp only[ky,seval];apply sp bU a<;>intro _ a
  ·cases a;simp only[ky,seval];rw[aD];refine⟨_,rfl,?_⟩;refine⟨0,0,0,?_,?_,?_,?_,?_,?_,?_⟩;all_goals (rfl)
  ·obtain⟨x,o,a⟩:=ae a;cases a;simp only[ky,seval,o];rw[aD];refine⟨_,rfl,?_⟩;refine⟨0,0,0,?_,?_,?_,?_,?_,?_,?_⟩;all_goals (rfl)
def jT:=IV 128 130 5 a7 (dN (aI .i64)) (fun (q:aH) (x:Int)=>eF q x) (fun r:Unit =>.tup [])
def ir:Env:=(Am.ext (Am.ext (Am.sj 137 (0,fV) (Am.ext (Am.ext bs 21 false cg) 29 false nM)) 138 true lf) 139 false vL)
def vl:bY prog ir:=(((bY.sj ((bY.none.add jA false).add Eh false) ey.callable ey.calls).add tC true).add Q9 false)
def b8:=ai @w<|ai @vnp<|ai @vnl<|ai @E7<|ai @cg.eq_1<|ai @sr<|ai @nM.eq_1<|ai @vL.eq_1<|@ir.eq_1
def wE (f g:List D) (R:aH) (S:Int) (r:aH×(Unit)) (a:eF R S=some r):wR tab ir FU Tryz.f86 128 130 5 f.length (f++(a7.cells R++g)) [.int .i64 S]=some (.tup [],f++(a7.cells r.1++g)):=by
 apply zx rfl ntmps86 results86;rw[eT];unfold eF at a;have T:=kv f g R S;simp only[bP]at T;obtain⟨U,C,a⟩:=ae a;have V:bump 0 (1)=some (4*(1)+1):=lk (by omega);simp only[b8,seval,T,C];apply sp ay a<;>intro _ a
 ·cases a;simp only[b8,seval]
 ·obtain⟨r5,E,a⟩:=ae a;obtain⟨x6,y,a⟩:=ae a;have A:=bn ch y;simp only[bP]at A;have B:=lG ch 1 y;have F:=kH ch 1 4 (ak7 rfl) y;simp only[bP]at B F;obtain⟨P,G,a⟩:=ae a;simp only[b8,seval,E,A,B,G];refine bN (by kernel_rfl) ?_;have W:=uv [] [] U.1.cF U.2.1 (IntKind.i64.wrap (U.2.1+1));simp only[List.nil_append,alg,List.length_nil]at W;obtain⟨X,p,a⟩:=ae a;have I:bump (4*(1)+1) (4)=some (4*(4)+1):=lk (by omega);obtain⟨h,q,a⟩:=ae a;simp only[b8,seval,W,p,q];refine bN (by kernel_rfl) ?_;obtain⟨Y,J,a⟩:=ae a;refine aB (fun s t H e=>match s with|(u,j)=>∃n:Nat,∃i:Nat,t 0=.ptr 0 0 f.length∧t 6=.ptr 6 n 0∧t 57=sN ((X).length:Int)∧t 58=sN u∧H 0=some ⟨0,128,[.nr 130 5 i (f++([sN h.1.bL.ax,sI h.1.bL.aa,sN h.1.bQ.ax,sI h.1.bQ.aa,.nx (j).length (av ch j)]++g))],false,true,true⟩∧H 6=rV n 41 [sN P.1.bL.ax,sI P.1.bL.aa,sN P.1.bQ.ax,sI P.1.bQ.aa]∧i<=4*e) (fun o x t H e=>match o with|d=>x=.exit 0∧∃k:Nat,t 0=.ptr 0 0 f.length∧H 0=some ⟨0,128,[.nr 130 5 k (f++([sN h.1.bL.ax,sI h.1.bL.aa,sN h.1.bQ.ax,sI h.1.bQ.aa,.nx (d).length (av ch d)]++g))],false,true,true⟩∧k<=4*e) J ?_ ?_ ?_
  ·refine⟨3,4*(4)+1,?_,?_,?_,?_,?_,?_,?_⟩;all_goals (first|rfl|omega|(simp only[b8,seval,T,C,V,E,A,B,F,G,W,p,I,q]<;>rfl))
  ·rintro⟨u,j⟩ t H e ⟨n,i,Q⟩ c a;simp only[fF]at a;simp only[b8,seval,Q];apply sp ay a<;>intro _ a
   ·obtain⟨Z,b,a⟩:=ae a;have m:=bn ch b;simp only[bP]at m;have v:=lG ch 1 b;have K:=kH ch 1 4 (ak7 rfl) b;simp only[bP]at v K;obtain⟨l,L,a⟩:=ae a;have m:=bn ch b;simp only[bP]at m;have M:=lG ch 1 b;have N:=kH ch 1 4 (ak7 rfl) b;simp only[bP]at M N;have O:=fL ch (x':=(fR.mk Z.p8 l.1)) (fo:=1) (cs:=[.int .i64 l.1.bL.ax,.sl false false l.1.bL.aa.length (av (eI .i64) l.1.bL.aa),.int .i64 l.1.bQ.ax,.sl false false l.1.bQ.aa.length (av (eI .i64) l.1.bQ.aa)]) b rfl (ak7 rfl);simp only[bP]at O;have w:=O;simp only[putCells,List.length_cons,List.length_nil,akw,Nat.reduceAdd]at w;simp only[b8,seval,Q,v,L,m,w];refine bN (by kernel_rfl) ?_;cases a;apply iQ;refine⟨n,i,?_,?_,?_,?_,?_,?_,?_⟩;all_goals (first|rfl|omega|(simp only[b8,seval,Q]<;>rfl))
   ·cases a;simp only[b8,seval];apply j9;refine⟨rfl,⟨i,?_,?_,?_⟩⟩;all_goals (first|rfl|omega|(simp only[b8,seval,Q]<;>rfl))
  ·rintro x t H e hx;obtain⟨d,rfl⟩:∃z,z=Y:=⟨_,rfl⟩;dsimp only at hx a;obtain⟨rfl,⟨k,aa⟩⟩:=hx;cases a;simp only[b8,seval,aa]
def nh:NOk prog 86 jT:=NOk.of tok vl mixed func86 (by kernel_rfl) ⟨by kernel_rfl,by kernel_rfl⟩ (fun _=>ak7 (by kernel_rfl)) (fun b a q x c r h=>wE b a q x (c,r) h)
def gK (l:Option (D×Row)) (d:List D):=er (gG (bV ak) (gG (bV ak) (dN (bV ak)))) (fun x:an×an×an=>jM x.1 x.2.1 x.2.2) (fun r:an =>.clean (.agg [.int .i64 r.bL.ax,.sl false false r.bL.aa.length (av (eI .i64) r.bL.aa),.int .i64 r.bQ.ax,.sl false false r.bQ.aa.length (av (eI .i64) r.bQ.aa)])) l d
def YC {β:Type} {F:an×an×an->Option β} {R:β->RK} (g:Int) (a:(List Int)) (h:Int) (b:(List Int)) (i:Int) (c:(List Int)) (j:Int) (d:(List Int)) (k:Int) (e:(List Int)) (l:Int) (f:(List Int)):er (gG (bV ak) (gG (bV ak) (dN (bV ak)))) F R none [.agg [.int .i64 g,.sl false false a.length (av (eI .i64) a),.int .i64 h,.sl false false b.length (av (eI .i64) b)],.agg [.int .i64 i,.sl false false c.length (av (eI .i64) c),.int .i64 j,.sl false false d.length (av (eI .i64) d)],.agg [.int .i64 k,.sl false false e.length (av (eI .i64) e),.int .i64 l,.sl false false f.length (av (eI .i64) f)]]=(F ((an.mk (aK.mk g a) (aK.mk h b)),(an.mk (aK.mk i c) (aK.mk j d)),(an.mk (aK.mk k e) (aK.mk l f)))).map fun r=>(R r,none):=cK _ _ _ ((an.mk (aK.mk g a) (aK.mk h b)),(an.mk (aK.mk i c) (aK.mk j d)),(an.mk (aK.mk k e) (aK.mk l f)))
def wA:Env:=(Am.ext (Am.ext bs 23 false dI) 58 false gA)
def IU:bY prog wA:=((bY.none.add ov false).add um false)
def NW:=ai @w<|ai @sr<|ai @dI.eq_1<|ai @gA.eq_1<|@wA.eq_1
def uY:cr prog 76 gK:=cr.jl (mode := .clean) tok IU mixed func76 (by kernel_rfl) (fun _ _=>rfl) (fun _=>by kernel_rfl) fun⟨d,e,f⟩ r a=>by
 replace a:jM d e f=some r:=a;apply aL rfl ntmps76 results76;simp only[jo];unfold jM at a;obtain⟨g,b,a⟩:=ae a;obtain⟨h,c,a⟩:=ae a;cases a;simp only[NW,seval,b,c]
def ads:Zm prog 179 (130,5,72):=adu
def kX:=IV 128 130 5 a7 (gG (aI .i64) (dN (bV ak))) (fun (q:aH) (x:Int×an)=>fv q x.1 x.2) (fun r:Unit =>.tup [])
def xw (f c:List D) (g:aH) (h:Int) (d:Int) (a:(List Int)) (e:Int) (b:(List Int)):kX 128 130 5 f.length (f++(a7.cells g++c)) [.int .i64 h,.agg [.int .i64 d,.sl false false a.length (av (eI .i64) a),.int .i64 e,.sl false false b.length (av (eI .i64) b)]]=(fv g h (an.mk (aK.mk d a) (aK.mk e b))).map fun r=>(.tup [],f++(a7.cells r.1++c)):=MV _ _ _ _ _ _ _ f c g (h,(an.mk (aK.mk d a) (aK.mk e b)))
def jw:Env:=(Am.GP 179 (130,5,72) (Am.sj 137 (0,fV) (Am.ext (Am.ext bs 21 false cg) 76 false gK)))
def xo:bY prog jw:=(bY.GP (bY.sj ((bY.none.add jA false).add uY false) ey.callable ey.calls) ads)
def jE:=ai @w<|ai @vnp<|ai @vnl<|ai @E7<|ai @cg.eq_1<|ai @YC<|ai @gK.eq_1<|@jw.eq_1
def yv (d c:List D) (q:aH) (s:Int) (h:an) (r:aH×(Unit)) (a:fv q s h=some r):wR tab jw FU Tryz.f140 128 130 5 d.length (d++(a7.cells q++c)) [.int .i64 s,.agg [.int .i64 h.bL.ax,.sl false false h.bL.aa.length (av (eI .i64) h.bL.aa),.int .i64 h.bQ.ax,.sl false false h.bQ.aa.length (av (eI .i64) h.bQ.aa)]]=some (.tup [],d++(a7.cells r.1++c)):=by
 apply zx rfl ntmps140 results140;rw[eT];unfold fv at a;have z:=kv d c q s;simp only[bP]at z;obtain⟨F,t,a⟩:=ae a;have B:bump 0 (2)=some (4*(2)+1):=lk (by omega);simp only[jE,seval,z,t];apply sp ay a<;>intro _ a
 ·obtain⟨C,b,a⟩:=ae a;have e:=bn ch b;simp only[bP]at e;have j:=lG ch 1 b;have u:=kH ch 1 4 (ak7 rfl) b;simp only[bP]at j u;obtain⟨G,v,a⟩:=ae a;obtain⟨i,w,a⟩:=ae a;have e:=bn ch b;simp only[bP]at e;have x:=lG ch 1 b;have y:=kH ch 1 4 (ak7 rfl) b;simp only[bP]at x y;have k:=fL ch (x':=(fR.mk C.p8 i)) (fo:=1) (cs:=[.int .i64 i.bL.ax,.sl false false i.bL.aa.length (av (eI .i64) i.bL.aa),.int .i64 i.bQ.ax,.sl false false i.bQ.aa.length (av (eI .i64) i.bQ.aa)]) b rfl (ak7 rfl);simp only[bP]at k;have f:=k;simp only[putCells,List.length_cons,List.length_nil,akw,Nat.reduceAdd]at f;simp only[jE,seval,j,v,w,e,f];refine bN (by kernel_rfl) ?_;cases a;simp only[jE,seval]
 ·obtain⟨E,l,a⟩:=ae a;obtain⟨m,n,o,p,g⟩:=adt ch l;simp only[bP]at g;have A:bump (4*(2)+1) (4)=some (4*(4)+1):=lk (by omega);simp only[jE,ne_eq,not_false_eq_true,seval,m,n,o,p,g];refine bN (by kernel_rfl) ?_;cases a;simp only[seval]
def pg:NOk prog 140 kX:=NOk.of tok xo mixed func140 (by kernel_rfl) ⟨by kernel_rfl,by kernel_rfl⟩ (fun _=>ak7 (by kernel_rfl)) (fun b a q x c r h=>yv b a q x.1 x.2 (c,r) h)
def kY:=IV 128 130 5 a7 (gG (aI .i64) (dN (bV nN))) (fun (q:aH) (x:Int×aH)=>fw q x.1 x.2) (fun r:Unit =>.tup [])
def jx:Env:=(Am.sj 140 (0,kX) (Am.ext (Am.sj 137 (0,fV) (Am.ext (Am.ext bs 21 false cg) 76 false gK)) 138 true lf))
def xp:bY prog jx:=(bY.sj ((bY.sj ((bY.none.add jA false).add uY false) ey.callable ey.calls).add tC true) pg.callable pg.calls)
def cO:=ai @w<|ai @vnp<|ai @vnl<|ai @E7<|ai @cg.eq_1<|ai @YC<|ai @gK.eq_1<|@jx.eq_1
def yw (d b:List D) (T:aH) (U:Int) (v:aH) (r:aH×(Unit)) (a:fw T U v=some r):wR tab jx FU Tryz.f87 128 130 5 d.length (d++(a7.cells T++b)) [.int .i64 U,.agg [.int .i64 v.bK.bL.ax,.sl false false v.bK.bL.aa.length (av (eI .i64) v.bK.bL.aa),.int .i64 v.bK.bQ.ax,.sl false false v.bK.bQ.aa.length (av (eI .i64) v.bK.bQ.aa),.sl false false v.cF.length (av ch v.cF)]]=some (.tup [],d++(a7.cells r.1++b)):=by
 apply zx rfl ntmps87 results87;rw[eT];unfold fw at a;have V:=kv d b T U;simp only[bP]at V;obtain⟨W,G,a⟩:=ae a;have X:bump 0 (2)=some (4*(2)+1):=lk (by omega);simp only[cO,seval,V,G];apply sp ay a<;>intro _ a
 ·cases a;simp only[cO,seval]
 ·obtain⟨R,C,a⟩:=ae a;have E:=bn ch C;simp only[bP]at E;have F:=lG ch 1 C;have I:=kH ch 1 4 (ak7 rfl) C;simp only[bP]at F I;have Y:=uv [] [] W.1.cF W.2.1 (IntKind.i64.wrap (W.2.1+1));simp only[List.nil_append,alg,List.length_nil]at Y;obtain⟨r8,J,a⟩:=ae a;have Z:bump (4*(2)+1) (5)=some (4*(5)+1):=lk (by omega);obtain⟨ag,z,a⟩:=ae a;simp only[cO,seval,E,F,Y,J,z];refine bN (by kernel_rfl) ?_;obtain⟨aa,K,a⟩:=ae a;refine aB (fun s t H e=>match s with|(A,i,j,k,l,f)=>∃w:Nat,∃h:Nat,t 0=.ptr 0 0 d.length∧t 8=.ptr 8 w 0∧t 50=sF ch v.cF∧t 51=sN (v.cF.length:Int)∧t 52=sN A∧H 0=some ⟨0,128,[.nr 130 5 h (d++([sN i,sI j,sN k,sI l,.nx (f).length (av ch f)]++b))],false,true,true⟩∧H 8=rV w 41 [sN R.je.bL.ax,sI R.je.bL.aa,sN R.je.bQ.ax,sI R.je.bQ.aa]∧h<=4*e) (fun o x t H e=>match o with|(n,p,q,u,g)=>x=.exit 0∧∃m:Nat,t 0=.ptr 0 0 d.length∧H 0=some ⟨0,128,[.nr 130 5 m (d++([sN n,sI p,sN q,sI u,.nx (g).length (av ch g)]++b))],false,true,true⟩∧m<=4*e) K ?_ ?_ ?_
  ·refine⟨4,4*(5)+1,?_,?_,?_,?_,?_,?_,?_,?_⟩;all_goals (first|rfl|omega|(simp only[cO,seval,V,G,X,E,F,I,Y,J,Z,z]<;>rfl))
  ·rintro⟨A,i,j,k,l,f⟩ t H e ⟨w,h,S⟩ c a;simp only[gx]at a;simp only[cO,seval,S];apply sp ay a<;>intro _ a
   ·obtain⟨ab,L,a⟩:=ae a;have B:=bn ch L;simp only[bP]at B;obtain⟨ah,M,a⟩:=ae a;obtain⟨y,N,a⟩:=ae a;have O:=xw d b (aH.mk (an.mk (aK.mk i j) (aK.mk k l)) f) ab.p8 y.bL.ax y.bL.aa y.bQ.ax y.bQ.aa;simp only[bP]at O;obtain⟨ai,P,a⟩:=ae a;have Q:bump h (e+1+1)=some (4*(e+1+1)+1):=lk (by omega);simp only[cO,seval,S,B,M,N,O,P,Q];refine bN (by kernel_rfl) ?_;cases a;apply iQ;refine⟨w,4*(e+1+1)+1,?_,?_,?_,?_,?_,?_,?_,?_⟩;all_goals (first|rfl|omega|(simp only[cO,seval,S]<;>rfl))
   ·cases a;simp only[cO,seval];apply j9;refine⟨rfl,⟨h,?_,?_,?_⟩⟩;all_goals (first|rfl|omega|(simp only[cO,seval,S]<;>rfl))
  ·rintro x t H e hx;rcases aa with⟨n,p,q,u,g⟩;dsimp only at hx a;obtain⟨rfl,⟨m,ad⟩⟩:=hx;cases a;simp only[cO,seval,ad]
def pj:NOk prog 87 kY:=NOk.of tok xp mixed func87 (by kernel_rfl) ⟨by kernel_rfl,by kernel_rfl⟩ (fun _=>ak7 (by kernel_rfl)) (fun b a q x c r h=>yw b a q x.1 x.2 (c,r) h)
def vQ (l:Option (D×Row)) (d:List D):=er (gG (bV BD) (dN (ko ak))) (fun x:gY×(List an)=>kK x.1 x.2) (fun r:(List an)×Int =>.clean (.tup [.sl false false r.1.length (av ak r.1),.int .i64 r.2])) l d
def vx {C:List (Bool×aH)} {i:Int} {b:aH} (h:P.idx C i=some (false,b)) (a:Int):jT 128 130 5 (i.toNat*bS.size) (av bS C) [.int .i64 a]=(eF b a).map fun r=>(.tup [],av bS (C.set i.toNat (false,r.1))):=V9 oU h (a)
def xv {C:List (Bool×aH)} {i:Int} {g:aH} (h:P.idx C i=some (false,g)) (f:Int) (d:Int) (a:(List Int)) (e:Int) (b:(List Int)) (c:(List fR)):kY 128 130 5 (i.toNat*bS.size) (av bS C) [.int .i64 f,.agg [.int .i64 d,.sl false false a.length (av (eI .i64) a),.int .i64 e,.sl false false b.length (av (eI .i64) b),.sl false false c.length (av ch c)]]=(fw g f (aH.mk (an.mk (aK.mk d a) (aK.mk e b)) c)).map fun r=>(.tup [],av bS (C.set i.toNat (false,r.1))):=V9 oU h (f,(aH.mk (an.mk (aK.mk d a) (aK.mk e b)) c))
def AH:Env:=(Am.sj 87 (0,kY) (Am.sj 86 (5,jT) (Am.ext (Am.ext (Am.B0 75 nL (Am.ext (Am.ext (Am.ext bs 21 false cg) 73 false lv) 74 false nB)) 76 false gK) 85 false qC)))
def PW:bY prog AH:=(bY.sj (bY.sj (((bY.B0 (((bY.none.add jA false).add B2 false).add C9 false) rM.callable rM.calls).add uY false).add Hw false) nh.callable nh.calls) pj.callable pj.calls)
def bB:=ai @w<|ai @vnl<|ai @E7<|ai @cg.eq_1<|ai @RV<|ai @lv.eq_1<|ai @ahC<|ai @nB.eq_1<|ai @tF<|ai @YC<|ai @gK.eq_1<|ai @qC.eq_1<|@AH.eq_1
def Rg:cr prog 41 vQ:=cr.jl (mode := .clean) tok PW mixed func41 (by kernel_rfl) (fun _ _=>rfl) (fun _=>by kernel_rfl) fun⟨X,p1⟩ r a=>by
 replace a:kK X p1=some r:=a;apply aL rfl ntmps41 results41;simp only[jo];unfold kK at a;obtain⟨r1,bC,a⟩:=ae a;simp only[bB,seval,bC];obtain⟨o2,bD,a⟩:=ae a;refine cV 0 (fun s t H e=>match s with|Y=>∃L:Nat,t 1=sF ak p1∧t 2=.ptr 2 L 0∧t 14=.bool Y∧H 2=rV L 66 [sN X.aA,sF cv X.bk]) (fun s=>s=o2) ?_ ?_
 ·rintro Y t H e ⟨L,ar⟩ rfl;try dsimp only at a
  simp only[bB,seval,ar];apply sp ay a<;>intro _ a
  ·cases a;simp only[bB,seval]
  ·obtain⟨r4,bE,a⟩:=ae a;simp only[bB,seval,ar,bE];apply sp ay a<;>intro _ a
   ·cases a;simp only[bB,seval]
   ·obtain⟨r6,bF,a⟩:=ae a;have bG:=Kv oU r6;simp only[bB,seval,ar,bF,bG];obtain⟨bH,aS,a⟩:=ae a;refine aB (fun s t H e=>match s with|(g,M)=>∃Z:Nat,∃A:Nat,∃m:Nat,t 2=.ptr 2 Z 0∧t 6=.buf 32 A 5 0 (M).length∧t 34=sN ((r6).length:Int)∧t 35=sN g∧H 2=rV Z 66 [sN X.aA,sF cv X.bk]∧H 32=some ⟨A,128,[.nr 130 5 m (av bS M)],false,true,true⟩∧m<=4*e) (fun o x t H e=>match o with|b=>x=.exit 1∧∃aa:Nat,∃u:Nat,∃j:Nat,t 2=.ptr 2 aa 0∧t 6=.buf 32 u 5 0 (b).length∧H 2=rV aa 66 [sN X.aA,sF cv X.bk]∧H 32=some ⟨u,128,[.nr 130 5 j (av bS b)],false,true,true⟩∧j<=4*e) aS ?_ ?_ ?_
    ·refine⟨L,e+1,4*(e+1)+2,?_,?_,?_,?_,?_,?_,?_⟩;all_goals (first|rfl|omega|(simp only[bB,seval,ar]<;>rfl))
    ·rintro⟨g,M⟩ t H e ⟨Z,A,m,Zb⟩ c a;simp only[lR]at a;simp only[bB,seval,Zb];apply sp ay a<;>intro _ a
     ·obtain⟨bR,ab,a⟩:=ae a;have ad:=And.intro (tp ab) (lp bS ab);simp only[bP]at ad;obtain⟨bI,aT,a⟩:=ae a;have au:P.idx M g=some (false,bI):=ab.trans (congrArg some (Rk aT));have aU:=vx au g;simp only[bP]at aU;obtain⟨bJ,aV,a⟩:=ae a;have aW:bump m (e+1+1)=some (4*(e+1+1)+1):=lk (by omega);have aw:=agZ oU F7 F9 F8 au bJ.1;rw[pX]at aw;simp only[bB,seval,Zb,ad,aU,aV,aW,aw];obtain⟨bK,aY,a⟩:=ae a;refine aB (fun s t H e=>match s with|(aQ,B)=>∃ag:Nat,∃C:Nat,∃n:Nat,t 2=.ptr 2 ag 0∧t 6=.buf 32 C 5 0 (B).length∧t 7=sN g∧t 8=sN aQ∧t 34=sN ((r6).length:Int)∧t 35=sN g∧H 2=rV ag 66 [sN X.aA,sF cv X.bk]∧H 32=some ⟨C,128,[.nr 130 5 n (av bS B)],false,true,true⟩∧n<=4*e) (fun o x t H e=>match o with|I=>x=.exit 3∧∃N:Nat,∃v:Nat,∃k:Nat,t 2=.ptr 2 N 0∧t 6=.buf 32 v 5 0 (I).length∧t 34=sN ((r6).length:Int)∧t 35=sN g∧H 2=rV N 66 [sN X.aA,sF cv X.bk]∧H 32=some ⟨v,128,[.nr 130 5 k (av bS I)],false,true,true⟩∧k<=4*e) aY ?_ ?_ ?_
      ·refine⟨Z,A,4*(e+1+1)+1,?_,?_,?_,?_,?_,?_,?_,?_,?_⟩;all_goals (first|rfl|omega|(simp only[bB,seval,Zb]<;>rfl))
      ·rintro⟨aQ,B⟩ t H e ⟨ag,C,n,Zd⟩ c a;simp only[oB]at a;simp only[bB,seval,Zd];apply sp ay a<;>intro _ a
       ·obtain⟨bT,ah,a⟩:=ae a;have ax:=And.intro (tp ah) (lp bS ah);simp only[bP]at ax;obtain⟨bV,ai,a⟩:=ae a;have az:=And.intro (tp ai) (lp bS ai);simp only[bP]at az;obtain⟨W,aZ,a⟩:=ae a;have aA:P.idx B g=some (true,W):=ai.trans (congrArg some (RZ aZ));have aC:=lG bS 0 aA;have a1:=kH bS 0 5 (ak7 rfl) aA;simp only[bP,Nat.add_zero]at aC a1;obtain⟨bL,a6,a⟩:=ae a;have a7:P.idx B aQ=some (false,bL):=ah.trans (congrArg some (Rk a6));have a8:=xv a7 g W.bK.bL.ax W.bK.bL.aa W.bK.bQ.ax W.bK.bQ.aa W.cF;simp only[bP]at a8;obtain⟨bW,ba,a⟩:=ae a;have bb:bump n (e+1)=some (4*(e+1)+1):=lk (by omega);simp only[bB,seval,ad,Zd,ax,az,aC,a8,ba,bb];refine bN (by kernel_rfl) ?_;cases a;apply iQ;refine⟨ag,C,4*(e+1)+1,?_,?_,?_,?_,?_,?_,?_,?_,?_⟩;all_goals (first|rfl|omega|(simp only[bB,seval,Zd]<;>rfl))
       ·cases a;simp only[bB,seval];apply j9;refine⟨rfl,⟨ag,C,n,?_,?_,?_,?_,?_,?_,?_⟩⟩;all_goals (first|rfl|omega|(simp only[bB,seval,Zd]<;>rfl))
      ·rintro x t H e hx;obtain⟨I,rfl⟩:∃z,z=bK:=⟨_,rfl⟩;dsimp only at hx a;obtain⟨rfl,⟨N,v,k,bc⟩⟩:=hx;cases a;simp only[bB,seval,bc];apply iQ;refine⟨N,v,k,?_,?_,?_,?_,?_,?_,?_⟩;all_goals (first|rfl|omega|(simp only[bB,seval,bc]<;>rfl))
     ·cases a;simp only[bB,seval];apply j9;refine⟨rfl,⟨Z,A,m,?_,?_,?_,?_,?_⟩⟩;all_goals (first|rfl|omega|(simp only[bB,seval,Zb]<;>rfl))
    ·rintro x t H e hx;obtain⟨b,rfl⟩:∃z,z=bH:=⟨_,rfl⟩;dsimp only at hx a;obtain⟨rfl,⟨aa,u,j,bd⟩⟩:=hx;obtain⟨bX,bf,a⟩:=ae a;obtain⟨bg,bh,bk,aE,bl⟩:=mk_one ak bf;simp only[bP]at aE;simp only[bB,seval,bd,bg,bh,bk,aE,bl];obtain⟨bM,bm,a⟩:=ae a;refine aB (fun s t H e=>match s with|(D,J)=>∃aj:Nat,∃O:Nat,∃w:Nat,t 6=.buf 32 O 5 0 (b).length∧t 9=.buf 9 aj 4 0 (J).length∧t 10=sN D∧H 9=rW aj 41 (av ak J)∧H 32=some ⟨O,128,[.nr 130 5 w (av bS b)],false,true,true⟩∧w<=4*e) (fun o x t H e=>match o with|al=>x=.exit 5∧∃ao:Nat,t 9=.buf 9 ao 4 0 (al).length∧H 9=rW ao 41 (av ak al)) bm ?_ ?_ ?_
     ·refine⟨e,u,j,?_,?_,?_,?_,?_,?_⟩;all_goals (first|rfl|omega|(simp only[bB,seval,bd]<;>rfl))
     ·rintro⟨D,J⟩ t H e ⟨aj,O,w,Ze⟩ c a;simp only[lS]at a;simp only[bB,seval,Ze];apply sp ay a<;>intro _ a
      ·obtain⟨bY,E,a⟩:=ae a;have q:=And.intro (tp E) (lp bS E);simp only[bP]at q;obtain⟨aR,bo,a⟩:=ae a;have Q:P.idx b D=some (true,aR):=E.trans (congrArg some (RZ bo));have aF:=lG bS 0 Q;have aG:=kH bS 0 4 (ak7 rfl) Q;simp only[bP,Nat.add_zero]at aF aG;obtain⟨bZ,bp,a⟩:=ae a;obtain⟨b1,bq,a⟩:=ae a;simp only[bB,seval,Ze,q,aF,aG,bp,bq];refine bN (by kernel_rfl) ?_;have q:=And.intro (tp E) (lp bS E);simp only[bP]at q;have aH:=lG bS 4 Q;have br:=kH bS 4 1 (ak7 rfl) Q;simp only[bP]at aH br;simp only[bB,seval,q,aH];obtain⟨bO,bs,a⟩:=ae a;refine aB (fun s t H e=>match s with|(aI,R,S,T,U)=>∃aq:Nat,∃F:Nat,∃G:Nat,∃p:Nat,t 6=.buf 32 G 5 0 (b).length∧t 9=.buf 9 aq 4 0 (J).length∧t 10=sN D∧t 11=.ptr 11 F 0∧t 83=sF ch aR.cF∧t 84=sN (aR.cF.length:Int)∧t 85=sN aI∧H 9=rW aq 41 (av ak J)∧H 11=rV F 41 [sN R,sI S,sN T,sI U]∧H 32=some ⟨G,128,[.nr 130 5 p (av bS b)],false,true,true⟩∧p<=4*e) (fun o x t H e=>match o with|(h,d,i,f)=>x=.exit 7∧∃V:Nat,∃K:Nat,∃y:Nat,∃l:Nat,t 6=.buf 32 y 5 0 (b).length∧t 9=.buf 9 V 4 0 (J).length∧t 10=sN D∧t 11=.ptr 11 K 0∧H 9=rW V 41 (av ak J)∧H 11=rV K 41 [sN h,sI d,sN i,sI f]∧H 32=some ⟨y,128,[.nr 130 5 l (av bS b)],false,true,true⟩∧l<=4*e) bs ?_ ?_ ?_
       ·refine⟨aj,e+1,O,w,?_,?_,?_,?_,?_,?_,?_,?_,?_,?_,?_⟩;all_goals (first|rfl|omega|(simp only[bB,seval,Ze]<;>rfl))
       ·rintro⟨aI,R,S,T,U⟩ t H e ⟨aq,F,G,p,Zg⟩ c a;simp only[rl]at a;simp only[bB,seval,Zg];apply sp ay a<;>intro _ a
        ·obtain⟨b2,bt,a⟩:=ae a;have aJ:=bn ch bt;simp only[bP]at aJ;obtain⟨b3,bu,a⟩:=ae a;have aM:=bn ak bu;simp only[bP]at aM;obtain⟨b4,bw,a⟩:=ae a;simp only[bB,seval,Zg,aJ,aM,bw];refine bN (by kernel_rfl) ?_;cases a;apply iQ;refine⟨aq,F,G,p,?_,?_,?_,?_,?_,?_,?_,?_,?_,?_,?_⟩;all_goals (first|rfl|omega|(simp only[bB,seval,Zg]<;>rfl))
        ·cases a;simp only[bB,seval];apply j9;refine⟨rfl,⟨aq,F,G,p,?_,?_,?_,?_,?_,?_,?_,?_⟩⟩;all_goals (first|rfl|omega|(simp only[bB,seval,Zg]<;>rfl))
       ·rintro x t H e hx;rcases bO with⟨h,d,i,f⟩;dsimp only at hx a;obtain⟨rfl,⟨V,K,y,l,bx⟩⟩:=hx;obtain⟨b5,aN,a⟩:=ae a;have aO:=bn ak aN;simp only[bP]at aO;have bz:=fL ak (x':=(an.mk (aK.mk h d) (aK.mk i f))) (fo:=0) (cs:=[.int .i64 h,.sl false false d.length (av (eI .i64) d),.int .i64 i,.sl false false f.length (av (eI .i64) f)]) aN rfl (ak7 rfl);simp only[bP,Nat.add_zero]at bz;have aP:=bz;simp only[putCells,List.length_cons,List.length_nil,akw,Nat.reduceAdd]at aP;cases a;simp only[bB,seval,q,bx,aO,aP];apply iQ;refine⟨V,y,l,?_,?_,?_,?_,?_,?_⟩;all_goals (first|rfl|omega|(simp only[bB,seval,bx]<;>rfl))
      ·cases a;simp only[bB,seval];apply j9;refine⟨rfl,⟨aj,?_,?_⟩⟩;all_goals ((simp only[bB,seval,Ze]<;>rfl))
     ·rintro x t H e hx;obtain⟨al,rfl⟩:∃z,z=bM:=⟨_,rfl⟩;dsimp only at hx a;obtain⟨rfl,⟨ao,bQ⟩⟩:=hx;cases a;simp only[bB,seval,bQ]
 ·clear a;have a:=bD;simp only[bB,seval];apply sp bU a<;>intro _ a
  ·cases a;simp only[bB,seval];rw[aD];refine⟨_,rfl,?_⟩;refine⟨0,?_,?_,?_,?_⟩;all_goals (rfl)
  ·obtain⟨b6,bA,a⟩:=ae a;cases a;simp only[bB,seval,bA];rw[aD];refine⟨_,rfl,?_⟩;refine⟨0,?_,?_,?_,?_⟩;all_goals (rfl)
def CY (r:(List an)) (a:gP []=some r):kM (.fresh 41 4) tab bs FU Tryz.f43 none [.sl true true 0 []]=some (.fresh 41 4 r.length (av ak r),none):=by
 unfold gP at a;obtain⟨b,c,d⟩:=y5 a;subst b;apply aL rfl ntmps43 results43;simp only[w,seval,alC]
def CZ (r:(List an)) (a:gP []=some r):kM (.fresh 41 4) tab bs FU Tryz.f43 none [.sl true false 0 []]=some (.fresh 41 4 r.length (av ak r),none):=by
 unfold gP at a;obtain⟨b,c,d⟩:=y5 a;subst b;apply aL rfl ntmps43 results43;simp only[w,seval,alC]
def C0 (a r:(List an)) (c:0<a.length) (b:gP a=some r):kM (.fresh 41 4) tab bs FU Tryz.f43 none [.sl false false a.length (av ak a)]=some (.fresh 41 4 r.length (av ak r),none):=by
 unfold gP at b;have g:¬a.length=0:=by omega
 obtain⟨d,e,f⟩:=y5 b;subst d;apply aL rfl ntmps43 results43;simp only[w,seval,c,e,f]
def sL:=er (dN (ko ak)) (fun x:(List an)=>gP x) (fun r:(List an) =>.fresh 41 4 r.length (av ak r))
def yC (a:(List an)):sL none [.sl false false a.length (av ak a)]=(gP a).map fun r:(List an)=>(.fresh 41 4 r.length (av ak r),none):=cK _ _ _ a
def EM:cr prog 43 sL:=cr.aeY (mode:=(.fresh 41 4)) tok bY.none mixed func43 (by kernel_rfl) ⟨by kernel_rfl,by kernel_rfl⟩ (ak7 (by kernel_rfl)) CY CZ C0
def kn (l:Option (D×Row)) (d:List D):=er (gG (bV jP) (gG (ko ak) (gG (aI .i64) (dN (aI .i64))))) (fun x:aX×(List an)×Int×Int=>kp x.1 x.2.1 x.2.2.1 x.2.2.2) (fun r:an =>.clean (.agg [.int .i64 r.bL.ax,.sl false false r.bL.aa.length (av (eI .i64) r.bL.aa),.int .i64 r.bQ.ax,.sl false false r.bQ.aa.length (av (eI .i64) r.bQ.aa)])) l d
def ad3 {β:Type} {F:aX×(List an)×Int×Int->Option β} {R:β->RK} (a:(List Int)) (b:(List bj)) (c:(List an)) (d:Int) (e:Int):er (gG (bV jP) (gG (ko ak) (gG (aI .i64) (dN (aI .i64))))) F R none [.agg [.sl false false a.length (av (eI .i64) a),.sl false false b.length (av bx b)],.sl false false c.length (av ak c),.int .i64 d,.int .i64 e]=(F ((aX.mk a b),c,d,e)).map fun r=>(R r,none):=cK _ _ _ ((aX.mk a b),c,d,e)
def wo:Env:=(Am.ext (Am.ext bs 57 false kP) 58 false gA)
def IM:bY prog wo:=((bY.none.add AQ false).add um false)
def NS:=ai @w<|ai @NY<|ai @kP.eq_1<|ai @sr<|ai @gA.eq_1<|@wo.eq_1
def z7:cr prog 44 kn:=cr.jl (mode := .clean) tok IM mixed func44 (by kernel_rfl) (fun _ _=>rfl) (fun _=>by kernel_rfl) fun⟨h,i,j,k⟩ r a=>by
 replace a:kp h i j k=some r:=a;apply aL rfl ntmps44 results44;simp only[jo];unfold kp at a;obtain⟨l,d,a⟩:=ae a;have b:=bn (eI .i64) d;simp only[bP]at b;obtain⟨m,e,a⟩:=ae a;obtain⟨n,f,a⟩:=ae a;have c:=bn ak f;simp only[bP]at c;obtain⟨o,g,a⟩:=ae a;simp only[NS,seval,b,e,c,g];refine bN (by kernel_rfl) ?_;cases a;simp only[seval]
def jF (l:Option (D×Row)) (d:List D):=er (gG (bV jP) (dN (ko (fk ak)))) (fun x:aX×(List (List an))=>gm x.1 x.2) (fun r:(List (List an))×(List an)×Int =>.clean (.tup [.sl false false r.1.length (av (fk ak) r.1),.sl false false r.2.1.length (av ak r.2.1),.int .i64 r.2.2])) l d
def uK:Env:=(Am.ext (Am.ext (Am.ext (Am.ext (Am.ext (Am.ext (Am.ext (Am.ext bs 26 false Bc) 39 false iy) 40 false qz) 41 false vQ) 42 false oL) 43 false sL) 44 false kn) 45 false iI)
def Gz:bY prog uK:=((((((((bY.none.add Yq false).add wG false).add Ht false).add Rg false).add EL false).add EM false).add z7 false).add xa false)
def bd:=ai @w<|ai @RU<|ai @Bc.eq_1<|ai @iy.eq_1<|ai @YB<|ai @qz.eq_1<|ai @ahD<|ai @vQ.eq_1<|ai @oL.eq_1<|ai @yC<|ai @ad3<|ai @kn.eq_1<|ai @ad0<|ai @iI.eq_1<|@uK.eq_1
def yA:cr prog 12 jF:=cr.jl (mode := .clean) tok Gz mixed func12 (by kernel_rfl) (fun _ _=>rfl) (fun _=>by kernel_rfl) fun⟨g,p1⟩ r a=>by
 replace a:gm g p1=some r:=a;apply aL rfl ntmps12 results12;simp only[jo];unfold gm at a;obtain⟨r1,aI,a⟩:=ae a;simp only[bd,seval,aI];apply sp ay a<;>intro _ a
 ·cases a;simp only[bd,seval]
 ·obtain⟨r3,aJ,a⟩:=ae a;simp only[bd,seval,aJ];apply sp ay a<;>intro _ a
  ·cases a;simp only[bd,seval]
  ·obtain⟨r5,aK,a⟩:=ae a;simp only[bd,seval,aK];apply sp ay a<;>intro _ a
   ·cases a;simp only[bd,seval]
   ·obtain⟨r7,aM,a⟩:=ae a;obtain⟨r8,aN,a⟩:=ae a;simp only[bd,seval,aM,aN];refine bN (by kernel_rfl) ?_;apply sp ay a<;>intro _ a
    ·cases a;simp only[bd,seval]
    ·simp only[bd,seval];obtain⟨aO,aa,a⟩:=ae a;refine aB (fun s t H e=>match s with|(h,d)=>∃M:Nat,∃C:Nat,t 1=sF (fk ak) p1∧t 2=.ptr 2 M 0∧t 4=.buf 4 C 1 0 (d).length∧t 5=sF ak r8.1∧t 54=sF bx g.ah∧t 55=sN (g.ah.length:Int)∧t 56=sN h∧H 2=rV M 25 [sI g.al,sF bx g.ah]∧H 4=rW C 27 (av (fk ak) d)) (fun o x t H e=>match o with|D=>x=.exit 0∧∃E:Nat,t 4=.buf 4 E 1 0 (D).length∧t 5=sF ak r8.1∧H 4=rW E 27 (av (fk ak) D)) aa ?_ ?_ ?_
     ·refine⟨0,0,?_,?_,?_,?_,?_,?_,?_,?_,?_⟩;all_goals (rfl)
     ·rintro⟨h,d⟩ t H e ⟨M,C,Za⟩ c a;simp only[iL]at a;simp only[bd,seval,Za];apply sp ay a<;>intro _ a
      ·obtain⟨b,ab,a⟩:=ae a;have N:=bn bx ab;simp only[bP]at N;obtain⟨aS,ad,a⟩:=ae a;have O:=bn (fk ak) ad;simp only[bP]at O;obtain⟨aT,ag,a⟩:=ae a;simp only[bd,seval,Za,N,O,ag];obtain⟨aP,ah,a⟩:=ae a;refine aB (fun s t H e=>match s with|(P,F)=>∃A:Nat,∃B:Nat,∃i:Nat,∃j:Nat,t 1=sF (fk ak) p1∧t 2=.ptr 2 A 0∧t 4=.buf 4 B 1 0 (d).length∧t 5=sF ak r8.1∧t 12=.ptr 12 i 0∧t 13=.buf 13 j 4 0 (F).length∧t 54=sF bx g.ah∧t 55=sN (g.ah.length:Int)∧t 56=sN h∧t 68=sF bz b.au.aw∧t 69=sN (b.au.aw.length:Int)∧t 70=sN P∧H 2=rV A 25 [sI g.al,sF bx g.ah]∧H 4=rW B 27 (av (fk ak) d)∧H 12=rV i 57 [sF bz b.au.aw,sF eA b.au.aF,sF (fk ak) b.au.aN,sF gr b.bc,sI b.aA]∧H 13=rW j 41 (av ak F)) (fun o x t H e=>match o with|f=>x=.exit 2∧∃q:Nat,∃u:Nat,∃l:Nat,∃k:Nat,t 1=sF (fk ak) p1∧t 2=.ptr 2 q 0∧t 4=.buf 4 u 1 0 (d).length∧t 5=sF ak r8.1∧t 12=.ptr 12 l 0∧t 13=.buf 13 k 4 0 (f).length∧t 54=sF bx g.ah∧t 55=sN (g.ah.length:Int)∧t 56=sN h∧H 2=rV q 25 [sI g.al,sF bx g.ah]∧H 4=rW u 27 (av (fk ak) d)∧H 12=rV l 57 [sF bz b.au.aw,sF eA b.au.aF,sF (fk ak) b.au.aN,sF gr b.bc,sI b.aA]∧H 13=rW k 41 (av ak f)) ah ?_ ?_ ?_
       ·refine⟨M,C,e+1,e+1+1,?_⟩;and_intros<;>first|rfl|(simp only[bd,seval,Za]<;>rfl)
       ·rintro⟨P,F⟩ t H e ⟨A,B,i,j,Zd⟩ c a;simp only[jV]at a;simp only[bd,seval,Zd];apply sp ay a<;>intro _ a
        ·obtain⟨aU,ai,a⟩:=ae a;have G:=bn bz ai;simp only[bP]at G;simp only[bd,seval,Zd,G];apply sp ay a<;>intro _ a
         ·obtain⟨aV,aj,a⟩:=ae a;have Q:=bn gr aj;simp only[bP]at Q;obtain⟨m,al,a⟩:=ae a;obtain⟨aW,R,a⟩:=ae a;have S:=bn ak R;simp only[bP]at S;have ao:=fL ak (x':=m) (fo:=0) (cs:=[.int .i64 m.bL.ax,.sl false false m.bL.aa.length (av (eI .i64) m.bL.aa),.int .i64 m.bQ.ax,.sl false false m.bQ.aa.length (av (eI .i64) m.bQ.aa)]) R rfl (ak7 rfl);simp only[bP,Nat.add_zero]at ao;have T:=ao;simp only[putCells,List.length_cons,List.length_nil,akw,Nat.reduceAdd]at T;cases a;simp only[bd,seval,Zd,G,Q,al,S,T];apply iQ;refine⟨A,B,i,j,?_⟩;and_intros<;>first|rfl|(simp only[bd,seval,Zd]<;>rfl)
         ·cases a;simp only[bd,seval,Zd];apply iQ;refine⟨A,B,i,j,?_⟩;and_intros<;>first|rfl|(simp only[bd,seval,Zd]<;>rfl)
        ·cases a;simp only[bd,seval];apply j9;refine⟨rfl,⟨A,B,i,j,?_,?_,?_,?_,?_,?_,?_,?_,?_,?_,?_,?_,?_⟩⟩;all_goals ((simp only[bd,seval,Zd]<;>rfl))
       ·rintro x t H e U;obtain⟨f,rfl⟩:∃z,z=aP:=⟨_,rfl⟩;dsimp only at U a;obtain⟨rfl,⟨q,u,l,k,aq⟩⟩:=U;simp only[bd,seval,aq];obtain⟨aQ,ar,a⟩:=ae a;refine aB (fun s t H e=>match s with|(V,I)=>∃J:Nat,∃K:Nat,∃v:Nat,∃w:Nat,∃W:Bool,t 1=sF (fk ak) p1∧t 2=.ptr 2 J 0∧t 4=.buf 4 K 1 0 (d).length∧t 5=sF ak r8.1∧t 13=.buf 13 v 4 0 (f).length∧t 17=.buf 17 w 4 0 (I).length∧t 54=sF bx g.ah∧t 55=sN (g.ah.length:Int)∧t 56=sN h∧t 97=sF (fk ak) b.au.aN∧t 98=sN (b.au.aN.length:Int)∧t 99=sN V∧H 2=rV J 25 [sI g.al,sF bx g.ah]∧H 4=rW K 27 (av (fk ak) d)∧H 13=some ⟨v,41,av ak f,W,true,false⟩∧H 17=rW w 41 (av ak I)) (fun o x t H e=>match o with|n=>x=.exit 4∧∃y:Nat,∃L:Nat,∃p:Nat,t 1=sF (fk ak) p1∧t 2=.ptr 2 y 0∧t 4=.buf 4 L 1 0 (d).length∧t 5=sF ak r8.1∧t 17=.buf 17 p 4 0 (n).length∧t 54=sF bx g.ah∧t 55=sN (g.ah.length:Int)∧t 56=sN h∧H 2=rV y 25 [sI g.al,sF bx g.ah]∧H 4=rW L 27 (av (fk ak) d)∧H 17=rW p 41 (av ak n)) ar ?_ ?_ ?_
        ·refine⟨q,u,k,e,false,?_⟩;and_intros<;>first|rfl|(simp only[bd,seval,aq]<;>rfl)
        ·rintro⟨V,I⟩ t H e ⟨J,K,v,w,W,Ze⟩ c a;simp only[jW]at a;simp only[bd,seval,Ze];apply sp ay a<;>intro _ a
         ·obtain⟨aY,au,a⟩:=ae a;have X:=bn (fk ak) au;simp only[bP]at X;obtain⟨aZ,aw,a⟩:=ae a;obtain⟨a1,ax,a⟩:=ae a;obtain⟨az,Y,aA,aC⟩:=lj ak ax;simp only[bP]at Y;cases a;simp only[bd,seval,Ze,X,aw,az,Y,aA,aC];apply iQ;refine⟨J,K,v,e+1+1,true,?_⟩;and_intros<;>first|rfl|(simp only[bd,seval,Ze]<;>rfl)
         ·cases a;simp only[bd,seval];apply j9;refine⟨rfl,⟨J,K,w,?_,?_,?_,?_,?_,?_,?_,?_,?_,?_,?_⟩⟩;all_goals ((simp only[bd,seval,Ze]<;>rfl))
        ·rintro x t H e U;obtain⟨n,rfl⟩:∃z,z=aQ:=⟨_,rfl⟩;dsimp only at U a;obtain⟨rfl,⟨y,L,p,aD⟩⟩:=U;obtain⟨a6,aE,a⟩:=ae a;obtain⟨aF,Z,aG,aH⟩:=lj (fk ak) aE;simp only[bP]at Z;cases a;simp only[bd,seval,aD,aF,Z,aG,aH];apply iQ;refine⟨y,e,?_⟩;and_intros<;>first|rfl|(simp only[bd,seval,aD]<;>rfl)
      ·cases a;simp only[bd,seval];apply j9;refine⟨rfl,⟨C,?_,?_,?_⟩⟩;all_goals ((simp only[bd,seval,Za]<;>rfl))
     ·rintro x t H e U;obtain⟨D,rfl⟩:∃z,z=aO:=⟨_,rfl⟩;dsimp only at U a;obtain⟨rfl,⟨E,aR⟩⟩:=U;cases a;simp only[bd,seval,aR]
def ny (l:Option (D×Row)) (d:List D):=er (dN (bV ak)) (fun x:an=>mY x) (fun r:Bool =>.clean (.bool r)) l d
def rA:Env:=(Am.ext bs 54 false bh)
def CQ:bY prog rA:=(bY.none.add ff false)
def EV:=ai @w<|ai @kh<|ai @bh.eq_1<|@rA.eq_1
def C4:cr prog 53 ny:=cr.jl (mode := .clean) tok CQ mixed func53 (by kernel_rfl) (fun _ _=>rfl) (fun _=>by kernel_rfl) fun c r a=>by
 replace a:mY c=some r:=a;apply aL rfl ntmps53 results53;simp only[jo];unfold mY at a;obtain⟨d,b,a⟩:=ae a;cases a;simp only[EV,seval,b]
def ef (l:Option (D×Row)) (d:List D):=er (gG (ko ak) (dN (NX 53))) (fun x:(List an)×Unit=>dz x.1) (fun r:Int =>.clean (.int .i64 r)) l d
def ad4 {β:Type} {F:(List an)×Unit->Option β} {R:β->RK} (a:(List an)):er (gG (ko ak) (dN (NX 53))) F R none [.sl false false a.length (av ak a),.fn 53]=(F (a,())).map fun r=>(R r,none):=cK _ _ _ (a,())
def fZ:Env:=(Am.ext bs 53 false ny)
def oE:bY prog fZ:=(bY.none.add C4 false)
def bF:=ai @w<|ai @kh<|ai @ny.eq_1<|@fZ.eq_1
def oG:cr prog 102 ef:=cr.jl (mode := .clean) tok oE mixed func102 (by kernel_rfl) (fun _ _=>rfl) (fun _=>by kernel_rfl) fun⟨h,_⟩ r a=>by
 replace a:dz h=some r:=a;apply aL rfl ntmps102 results102;simp only[jo];unfold dz at a;simp only[bF,seval];obtain⟨l,i,a⟩:=ae a;refine aB (fun s t H e=>match s with|b=>t 0=sF ak h∧t 1=.fn 53∧t 7=sN (h.length:Int)∧t 8=sN b) (fun o x t H e=>match o with|(.inl _)=>x=.exit 0|(.inr r)=>x=.ret∧gu .clean tab none [.tmp 4] ⟨t,EH H,e⟩=some (.clean (.int .i64 r),none)) i ?_ ?_ ?_
 ·refine⟨?_,?_,?_,?_⟩;all_goals (rfl)
 ·rintro b t H e f c a;simp only[dV]at a;simp only[bF,seval,f];apply sp ay a<;>intro _ a
  ·obtain⟨n,j,a⟩:=ae a;have d:=bn ak j;simp only[bP]at d;obtain⟨p,k,a⟩:=ae a;simp only[bF,seval,f,d,k];apply sp ay a<;>intro _ a
   ·cases a;simp only[bF,seval];refine si ⟨rfl,?_⟩;simp only[bF,seval]
   ·cases a;simp only[bF,seval,f];apply iQ;and_intros<;>first|rfl|(simp only[bF,seval,f]<;>rfl)
  ·cases a;simp only[bF,seval];apply j9;exact rfl
 ·rintro x t H e g;rcases l with _|q
  ·dsimp only at g a;subst g;cases a;simp only[bF,seval]
  ·dsimp only at g a;obtain⟨rfl,m⟩:=g;cases a;simp only[a8,bf,cB,cL];exact m
def dB (l:Option (D×Row)) (d:List D):=er (gG (ko ak) (dN (NX 53))) (fun x:(List an)×Unit=>cy x.1) (fun r:Bool =>.clean (.bool r)) l d
def fc:Env:=(Am.ext bs 102 false ef)
def mN:bY prog fc:=(bY.none.add oG false)
def nt:=ai @w<|ai @ad4<|ai @ef.eq_1<|@fc.eq_1
def mQ:cr prog 52 dB:=cr.jl (mode := .clean) tok mN mixed func52 (by kernel_rfl) (fun _ _=>rfl) (fun _=>by kernel_rfl) fun⟨c,_⟩ r a=>by
 replace a:cy c=some r:=a;apply aL rfl ntmps52 results52;simp only[jo];unfold cy at a;obtain⟨d,b,a⟩:=ae a;cases a;simp only[nt,seval,b]
def jG (l:Option (D×Row)) (d:List D):=er (gG (bV jP) (dN (ko ak))) (fun x:aX×(List an)=>iA x.1 x.2) (fun r:(List an) =>.clean (.sl false false r.length (av ak r))) l d
def ad5 {β:Type} {F:aX×(List an)->Option β} {R:β->RK} (a:(List Int)) (b:(List bj)) (c:(List an)):er (gG (bV jP) (dN (ko ak))) F R none [.agg [.sl false false a.length (av (eI .i64) a),.sl false false b.length (av bx b)],.sl false false c.length (av ak c)]=(F ((aX.mk a b),c)).map fun r=>(R r,none):=cK _ _ _ ((aX.mk a b),c)
def uL:Env:=(Am.ext (Am.ext (Am.ext (Am.ext bs 39 false iy) 44 false kn) 52 false dB) 55 false fW)
def GA:bY prog uL:=((((bY.none.add wG false).add z7 false).add mQ false).add iR false)
def bm:=ai @w<|ai @RU<|ai @iy.eq_1<|ai @ad3<|ai @kn.eq_1<|ai @ad4<|ai @dB.eq_1<|ai @dD<|@uL.eq_1
def yB:cr prog 16 jG:=cr.jl (mode := .clean) tok GA mixed func16 (by kernel_rfl) (fun _ _=>rfl) (fun _=>by kernel_rfl) fun⟨d,O⟩ r a=>by
 replace a:iA d O=some r:=a;apply aL rfl ntmps16 results16;simp only[jo];unfold iA at a;obtain⟨r1,ar,a⟩:=ae a;simp only[bm,seval,ar];obtain⟨o2,au,a⟩:=ae a;refine cV 0 (fun s t H e=>match s with|q=>∃h:Nat,t 1=sF ak O∧t 2=.ptr 2 h 0∧t 33=.bool q∧H 2=rV h 25 [sI d.al,sF bx d.ah]) (fun s=>s=o2) ?_ ?_
 ·rintro q t H e ⟨h,P⟩ rfl;try dsimp only at a
  simp only[bm,seval,P];apply sp ay a<;>intro _ a
  ·cases a;simp only[bm,seval]
  ·obtain⟨r4,aw,a⟩:=ae a;simp only[bm,seval,P,aw];obtain⟨ax,S,a⟩:=ae a;refine aB (fun s t H e=>match s with|(i,Q)=>∃u:Nat,∃v:Nat,t 1=sF ak O∧t 2=.ptr 2 u 0∧t 7=.buf 7 v 1 0 (Q).length∧t 38=sF bx d.ah∧t 39=sN (d.ah.length:Int)∧t 40=sN i∧H 2=rV u 25 [sI d.al,sF bx d.ah]∧H 7=rW v 3 (av (eI .i64) Q)) (fun o x t H e=>match o with|b=>x=.exit 0∧∃j:Nat,∃k:Nat,t 1=sF ak O∧t 2=.ptr 2 j 0∧t 7=.buf 7 k 1 0 (b).length∧H 2=rV j 25 [sI d.al,sF bx d.ah]∧H 7=rW k 3 (av (eI .i64) b)) S ?_ ?_ ?_
   ·refine⟨h,e,?_⟩;and_intros<;>first|rfl|(simp only[bm,seval,P]<;>rfl)
   ·rintro⟨i,Q⟩ t H e ⟨u,v,Zb⟩ c a;simp only[jX]at a;simp only[bm,seval,Zb];apply sp ay a<;>intro _ a
    ·obtain⟨T,U,a⟩:=ae a;have F:=bn bx U;simp only[bP]at F;simp only[bm,seval,Zb,F];obtain⟨az,V,a⟩:=ae a;refine aB (fun s t H e=>match s with|(G,R)=>∃w:Nat,∃y:Nat,t 1=sF ak O∧t 2=.ptr 2 w 0∧t 7=.buf 7 y 1 0 (R).length∧t 38=sF bx d.ah∧t 39=sN (d.ah.length:Int)∧t 40=sN i∧t 45=sF gr T.bc∧t 46=sN (T.bc.length:Int)∧t 47=sN G∧H 2=rV w 25 [sI d.al,sF bx d.ah]∧H 7=rW y 3 (av (eI .i64) R)) (fun o x t H e=>match o with|A=>x=.exit 2∧∃l:Nat,∃m:Nat,t 1=sF ak O∧t 2=.ptr 2 l 0∧t 7=.buf 7 m 1 0 (A).length∧t 38=sF bx d.ah∧t 39=sN (d.ah.length:Int)∧t 40=sN i∧H 2=rV l 25 [sI d.al,sF bx d.ah]∧H 7=rW m 3 (av (eI .i64) A)) V ?_ ?_ ?_
     ·refine⟨u,v,?_⟩;and_intros<;>first|rfl|(simp only[bm,seval,Zb]<;>rfl)
     ·rintro⟨G,R⟩ t H e ⟨w,y,Zd⟩ c a;simp only[jY]at a;simp only[bm,seval,Zd];apply sp ay a<;>intro _ a
      ·obtain⟨W,X,a⟩:=ae a;have I:=bn gr X;simp only[bP]at I;obtain⟨Y,B,a⟩:=ae a;have n:=bn (eI .i64) B;simp only[bP]at n;have n:=bn (eI .i64) B;simp only[bP]at n;have Z:=fL (eI .i64) (x':=IntKind.i64.wrap (Y-W.aQ)) (fo:=0) (cs:=[.int .i64 (IntKind.i64.wrap (Y-W.aQ))]) B rfl (ak7 rfl);simp only[bP,Nat.add_zero]at Z;have J:=Z;simp only[putCells,List.length_cons,List.length_nil,akw]at J;simp only[bm,seval,Zd,I,n,J];refine bN (by kernel_rfl) ?_;cases a;apply iQ;refine⟨w,y,?_⟩;and_intros<;>first|rfl|(simp only[bm,seval,Zd]<;>rfl)
      ·cases a;simp only[bm,seval];apply j9;refine⟨rfl,⟨w,y,?_,?_,?_,?_,?_,?_,?_,?_⟩⟩;all_goals ((simp only[bm,seval,Zd]<;>rfl))
     ·rintro x t H e K;obtain⟨A,rfl⟩:∃z,z=az:=⟨_,rfl⟩;dsimp only at K a;obtain⟨rfl,⟨l,m,aa⟩⟩:=K;cases a;simp only[bm,seval,aa];apply iQ;refine⟨l,m,?_⟩;and_intros<;>first|rfl|(simp only[bm,seval,aa]<;>rfl)
    ·cases a;simp only[bm,seval];apply j9;refine⟨rfl,⟨u,v,?_,?_,?_,?_,?_⟩⟩;all_goals ((simp only[bm,seval,Zb]<;>rfl))
   ·rintro x t H e K;obtain⟨b,rfl⟩:∃z,z=ax:=⟨_,rfl⟩;dsimp only at K a;obtain⟨rfl,⟨j,k,ab⟩⟩:=K;simp only[bm,seval,ab];obtain⟨aA,ad,a⟩:=ae a;refine aB (fun s t H e=>match s with|(L,C)=>∃D:Nat,∃E:Nat,∃p:Nat,t 1=sF ak O∧t 2=.ptr 2 D 0∧t 12=.buf 12 p 4 0 (C).length∧t 62=.buf 7 E 1 0 (b).length∧t 63=sN ((b).length:Int)∧t 64=sN L∧H 2=rV D 25 [sI d.al,sF bx d.ah]∧H 7=rW E 3 (av (eI .i64) b)∧H 12=rW p 41 (av ak C)) (fun o x t H e=>match o with|f=>x=.exit 4∧∃g:Nat,t 12=.buf 12 g 4 0 (f).length∧H 12=rW g 41 (av ak f)) ad ?_ ?_ ?_
    ·refine⟨j,k,e,?_⟩;and_intros<;>first|rfl|(simp only[bm,seval,ab]<;>rfl)
    ·rintro⟨L,C⟩ t H e ⟨D,E,p,Ze⟩ c a;simp only[jZ]at a;simp only[bm,seval,Ze];apply sp ay a<;>intro _ a
     ·obtain⟨aE,ag,a⟩:=ae a;have M:=bn (eI .i64) ag;simp only[bP]at M;obtain⟨aF,ah,a⟩:=ae a;obtain⟨aG,ai,a⟩:=ae a;obtain⟨aj,N,al,ao⟩:=lj ak ai;simp only[bP]at N;cases a;simp only[bm,seval,Ze,M,ah,aj,N,al,ao];apply iQ;refine⟨D,E,e+1+1,?_⟩;and_intros<;>first|rfl|(simp only[bm,seval,Ze]<;>rfl)
     ·cases a;simp only[bm,seval];apply j9;refine⟨rfl,⟨p,?_,?_⟩⟩;all_goals ((simp only[bm,seval,Ze]<;>rfl))
    ·rintro x t H e K;obtain⟨f,rfl⟩:∃z,z=aA:=⟨_,rfl⟩;dsimp only at K a;obtain⟨rfl,⟨g,aC⟩⟩:=K;cases a;simp only[bm,seval,aC]
 ·clear a;have a:=au;simp only[bm,seval];apply sp bU a<;>intro _ a
  ·cases a;simp only[bm,seval];rw[aD];refine⟨_,rfl,?_⟩;refine⟨0,?_,?_,?_,?_⟩;all_goals (rfl)
  ·simp only[bm,seval];apply sp bU a<;>intro _ a
   ·cases a;simp only[bm,seval];rw[aD];refine⟨_,rfl,?_⟩;refine⟨0,?_,?_,?_,?_⟩;all_goals (rfl)
   ·obtain⟨aH,aq,a⟩:=ae a;cases a;simp only[bm,seval,aq];rw[aD];refine⟨_,rfl,?_⟩;refine⟨0,?_,?_,?_,?_⟩;all_goals (rfl)
def qE (l:Option (D×Row)) (d:List D):=er (gG (bV jc) (dN (bV jc))) (fun x:aK×aK=>q9 x.1 x.2) (fun r:Bool =>.clean (.bool r)) l d
def HB:cr prog 101 qE:=cr.jl (mode := .clean) tok bY.none mixed func101 (by kernel_rfl) (fun _ _=>rfl) (fun _=>by kernel_rfl) fun⟨j,k⟩ r a=>by
 replace a:q9 j k=some r:=a;apply aL rfl ntmps101 results101;simp only[jo];unfold q9 at a;simp only[w,seval];obtain⟨A,v,a⟩:=ae a;refine cV 0 (fun s t H e=>match s with|f=>∃b:Nat,∃d:Nat,t 2=.ptr 2 b 0∧t 3=.ptr 3 d 0∧t 19=.bool f∧H 2=rV b 39 [sN j.ax,sI j.aa]∧H 3=rV d 39 [sN k.ax,sI k.aa]) (fun s=>s=A) ?_ ?_
 ·rintro f t H e ⟨b,d,l⟩ rfl;try dsimp only at a
  simp only[w,seval,l];apply sp ay a<;>intro _ a
  ·cases a;simp only[w,seval]
  ·simp only[w,seval];obtain⟨B,y,a⟩:=ae a;refine aB (fun s t H e=>match s with|m=>∃g:Nat,∃h:Nat,t 2=.ptr 2 g 0∧t 3=.ptr 3 h 0∧t 5=sN m∧H 2=rV g 39 [sN j.ax,sI j.aa]∧H 3=rV h 39 [sN k.ax,sI k.aa]) (fun o x t H e=>match o with|(.inl _)=>x=.exit 0|(.inr r)=>x=.ret∧gu .clean tab none [.tmp 4] ⟨t,EH H,e⟩=some (.clean (.bool r),none)) y ?_ ?_ ?_
   ·refine⟨b,d,?_⟩;and_intros<;>first|rfl|(simp only[w,seval,l]<;>rfl)
   ·rintro m t H e ⟨g,h,q⟩ c a;simp only[yD]at a;simp only[w,seval,q];apply sp ay a<;>intro _ a
    ·obtain⟨E,z,a⟩:=ae a;have n:=bn (eI .i64) z;simp only[bP]at n;obtain⟨C,p,a⟩:=ae a;have i:=bn (eI .i64) p;simp only[bP]at i;simp only[w,seval,q,n,i];refine bN (by kernel_rfl) ?_;apply sp ay a<;>intro _ a
     ·cases a;simp only[w,seval];refine si ⟨rfl,?_⟩;simp only[w,seval]
     ·cases a;simp only[w,seval,q];apply iQ;refine⟨g,h,?_⟩;and_intros<;>first|rfl|(simp only[w,seval,q]<;>rfl)
    ·cases a;simp only[w,seval];apply j9;exact rfl
   ·rintro x t H e u;rcases B with _|F
    ·dsimp only at u a;subst u;cases a;simp only[w,seval]
    ·dsimp only at u a;obtain⟨rfl,D⟩:=u;cases a;simp only[a8,bf,cB,cL];exact D
 ·clear a;have a:=v;simp only[w,seval];apply sp bU a<;>intro _ a
  ·cases a;simp only[w,seval];rw[aD];refine⟨_,rfl,?_⟩;refine⟨0,0,?_,?_,?_,?_,?_⟩;all_goals (rfl)
  ·cases a;simp only[w,seval];rw[aD];refine⟨_,rfl,?_⟩;refine⟨0,0,?_,?_,?_,?_,?_⟩;all_goals (rfl)
def vP (l:Option (D×Row)) (d:List D):=er (gG (bV ak) (dN (bV ak))) (fun x:an×an=>B6 x.1 x.2) (fun r:Bool =>.clean (.bool r)) l d
def AF:Env:=(Am.ext bs 101 false qE)
def PU:bY prog AF:=(bY.none.add HB false)
def A8:=ai @w<|ai @Lv<|ai @qE.eq_1<|@AF.eq_1
def Re:cr prog 51 vP:=cr.jl (mode := .clean) tok PU mixed func51 (by kernel_rfl) (fun _ _=>rfl) (fun _=>by kernel_rfl) fun⟨d,e⟩ r a=>by
 replace a:B6 d e=some r:=a;apply aL rfl ntmps51 results51;simp only[jo];unfold B6 at a;obtain⟨f,b,a⟩:=ae a;simp only[A8,seval,b];apply sp fM a<;>intro _ a
 ·obtain⟨g,c,a⟩:=ae a;cases a;simp only[A8,seval,c]
 ·cases a;simp only[A8,seval]
def Af (l:Option (D×Row)) (d:List D):=er (gG (ko ak) (dN (ko ak))) (fun x:(List an)×(List an)=>tH x.1 x.2) (fun r:Bool =>.clean (.bool r)) l d
def AG:Env:=(Am.ext bs 51 false vP)
def PV:bY prog AG:=(bY.none.add Re false)
def iX:=ai @w<|ai @sr<|ai @vP.eq_1<|@AG.eq_1
def Rf:cr prog 15 Af:=cr.jl (mode := .clean) tok PV mixed func15 (by kernel_rfl) (fun _ _=>rfl) (fun _=>by kernel_rfl) fun⟨m,n⟩ r a=>by
 replace a:tH m n=some r:=a;apply aL rfl ntmps15 results15;simp only[jo];unfold tH at a;simp only[iX,seval];apply sp ay a<;>intro _ a
 ·cases a;simp only[iX,seval]
 ·simp only[iX,seval];obtain⟨p,k,a⟩:=ae a;refine aB (fun s t H e=>match s with|d=>t 0=sF ak m∧t 1=sF ak n∧t 5=sN d) (fun o x t H e=>match o with|(.inl _)=>x=.exit 0|(.inr r)=>x=.ret∧gu .clean tab none [.tmp 4] ⟨t,EH H,e⟩=some (.clean (.bool r),none)) k ?_ ?_ ?_
  ·refine⟨?_,?_,?_⟩;all_goals (rfl)
  ·rintro d t H e i c a;simp only[Ek]at a;simp only[iX,seval,i];apply sp ay a<;>intro _ a
   ·obtain⟨w,l,a⟩:=ae a;have f:=bn ak l;simp only[bP]at f;obtain⟨q,g,a⟩:=ae a;have b:=bn ak g;simp only[bP]at b;obtain⟨u,h,a⟩:=ae a;simp only[iX,seval,i,f,b,h];refine bN (by kernel_rfl) ?_;apply sp ay a<;>intro _ a
    ·cases a;simp only[iX,seval];refine si ⟨rfl,?_⟩;simp only[iX,seval]
    ·cases a;simp only[iX,seval,i];apply iQ;and_intros<;>first|rfl|(simp only[iX,seval,i]<;>rfl)
   ·cases a;simp only[iX,seval];apply j9;exact rfl
  ·rintro x t H e j;rcases p with _|y
   ·dsimp only at j a;subst j;cases a;simp only[iX,seval]
   ·dsimp only at j a;obtain⟨rfl,v⟩:=j;cases a;simp only[a8,bf,cB,cL];exact v
def vN (l:Option (D×Row)) (d:List D):=er (as0) (fun x:Unit=>yt) (fun r:Bool =>.clean (.bool r)) l d
def AV (a:(List an)) (b:(List an)):Af none [.sl false false a.length (av ak a),.sl false false b.length (av ak b)]=(tH a b).map fun r:Bool=>(.clean (.bool r),none):=cK _ _ _ (a,b)
def AD:Env:=(Am.ext (Am.ext (Am.ext (Am.ext (Am.ext bs 12 false jF) 15 false Af) 16 false jG) 18 false sK) 37 false qA)
def PS:bY prog AD:=(((((bY.none.add yA false).add Rf false).add yB false).add Lb false).add Hu false)
def iW:=ai @w<|ai @YB<|ai @jF.eq_1<|ai @ad5<|ai @jG.eq_1<|ai @NY<|ai @sK.eq_1<|ai @sh9<|ai @qA.eq_1<|@AD.eq_1
def Rb:cr prog 9 vN:=cr.jl (mode := .clean) tok PS mixed func9 (by kernel_rfl) (fun _ _=>rfl) (fun _=>by kernel_rfl) fun _ r a=>by
 replace a:yt=some r:=a;apply aL rfl ntmps9 results9;simp only[jo];unfold yt at a;obtain⟨J,p,a⟩:=ae a;obtain⟨q,u,a⟩:=ae a;obtain⟨B,v,a⟩:=ae a;simp only[iW,seval,p,u,v];obtain⟨F,w,a⟩:=ae a;refine cV 0 (fun s t H e=>match s with|b=>t 3=sF (fk ak) q.1∧t 4=sF ak q.2.1∧t 6=sF ak B∧t 27=.bool b) (fun s=>s=F) ?_ ?_
 ·rintro b t H e c rfl;try dsimp only at a
  simp only[iW,seval,c];apply sp ay a<;>intro _ a
  ·cases a;simp only[iW,seval]
  ·obtain⟨C,h,a⟩:=ae a;obtain⟨D,i,a⟩:=ae a;have E:=AV q.2.1 ([C,D]);simp only[ck,bP,List.length_cons,akw,Nat.reduceAdd]at E;obtain⟨K,x,a⟩:=ae a;simp only[iW,seval,c,h,i,E,x];apply sp Fe a<;>intro _ a
   ·obtain⟨y,d,a⟩:=ae a;have f:=bn (fk ak) d;simp only[bP]at f;have g:=aiQ (fk ak) d;simp only[bP]at g;obtain⟨z,j,a⟩:=ae a;have k:=AV y ([C,z]);simp only[ck,bP,List.length_cons,akw,Nat.reduceAdd]at k;obtain⟨G,l,a⟩:=ae a;simp only[iW,seval,c,h,f,g,j,k,l];apply sp Fe a<;>intro _ a
    ·obtain⟨A,m,a⟩:=ae a;have n:=AV B ([D,A]);simp only[ck,bP,List.length_cons,akw,Nat.reduceAdd]at n;obtain⟨I,o,a⟩:=ae a;simp only[iW,seval,c,i,m,n,o];refine bN (by kernel_rfl) ?_;cases a;simp only[seval]
    ·simp only[iW,seval];refine bN (by kernel_rfl) ?_;cases a;simp only[seval]
   ·simp only[iW,seval];refine bN (by kernel_rfl) ?_;cases a;simp only[seval]
 ·clear a;have a:=w;simp only[iW,seval];apply sp bU a<;>intro _ a
  ·cases a;simp only[iW,seval];rw[aD];refine⟨_,rfl,?_⟩;refine⟨?_,?_,?_,?_⟩;all_goals (rfl)
  ·cases a;simp only[iW,seval];rw[aD];refine⟨_,rfl,?_⟩;refine⟨?_,?_,?_,?_⟩;all_goals (rfl)
def pS (l:Option (D×Row)) (d:List D):=er (gG (bV ak) (dN (aI .i64))) (fun x:an×Int=>wI x.1 x.2) (fun r:Bool =>.clean (.bool r)) l d
def ad6 {β:Type} {F:an×Int->Option β} {R:β->RK} (c:Int) (a:(List Int)) (d:Int) (b:(List Int)) (e:Int):er (gG (bV ak) (dN (aI .i64))) F R none [.agg [.int .i64 c,.sl false false a.length (av (eI .i64) a),.int .i64 d,.sl false false b.length (av (eI .i64) b)],.int .i64 e]=(F ((an.mk (aK.mk c a) (aK.mk d b)),e)).map fun r=>(R r,none):=cK _ _ _ ((an.mk (aK.mk c a) (aK.mk d b)),e)
def HA:cr prog 38 pS:=cr.jl (mode := .clean) tok bY.none mixed func38 (by kernel_rfl) (fun _ _=>rfl) (fun _=>by kernel_rfl) fun⟨b,c⟩ r a=>by
 replace a:wI b c=some r:=a;apply aL rfl ntmps38 results38;simp only[jo];unfold wI at a;simp only[w,seval];apply sp fM a<;>intro _ a
 ·cases a;simp only[w,seval]
 ·cases a;simp only[w,seval]
def qF (l:Option (D×Row)) (d:List D):=er (dN (bV xW)) (fun x:fa=>lO x) (fun r:Bool =>.clean (.bool r)) l d
def uS:Env:=(Am.ext bs 38 false pS)
def GI:bY prog uS:=(bY.none.add HA false)
def bo:=ai @w<|ai @ad6<|ai @pS.eq_1<|@uS.eq_1
def HC:cr prog 32 qF:=cr.jl (mode := .clean) tok GI mixed func32 (by kernel_rfl) (fun _ _=>rfl) (fun _=>by kernel_rfl) fun g r a=>by
 replace a:lO g=some r:=a;apply aL rfl ntmps32 results32;simp only[jo];unfold lO at a;simp only[bo,seval];obtain⟨G,C,a⟩:=ae a;refine cV 0 (fun s t H e=>match s with|h=>∃d:Nat,t 1=.ptr 1 d 0∧t 20=.bool h∧H 1=rV d 54 [sF bz g.aw,sF eA g.aF,sF (fk ak) g.aN]) (fun s=>s=G) ?_ ?_
 ·rintro h t H e ⟨d,p⟩ rfl;try dsimp only at a
  simp only[bo,seval,p];apply sp ay a<;>intro _ a
  ·cases a;simp only[bo,seval]
  ·simp only[bo,seval];obtain⟨D,q,a⟩:=ae a;refine aB (fun s t H e=>match s with|k=>∃l:Nat,t 1=.ptr 1 l 0∧t 3=sN k∧H 1=rV l 54 [sF bz g.aw,sF eA g.aF,sF (fk ak) g.aN]) (fun o x t H e=>match o with|(.inl _)=>x=.exit 0|(.inr r)=>x=.ret∧gu .clean tab none [.tmp 2] ⟨t,EH H,e⟩=some (.clean (.bool r),none)) q ?_ ?_ ?_
   ·refine⟨d,?_⟩;and_intros<;>first|rfl|(simp only[bo,seval,p]<;>rfl)
   ·rintro k t H e ⟨l,E⟩ c a;simp only[pq]at a;simp only[bo,seval,E];apply sp ay a<;>intro _ a
    ·obtain⟨I,i,a⟩:=ae a;have b:=bn (fk ak) i;simp only[bP]at b;simp only[bo,seval,E,b];apply sp ay a<;>intro _ a
     ·cases a;simp only[bo,seval];refine si ⟨rfl,?_⟩;simp only[bo,seval]
     ·simp only[bo,seval];obtain⟨F,u,a⟩:=ae a;refine aB (fun s t H e=>match s with|v=>∃j:Nat,t 1=.ptr 1 j 0∧t 3=sN k∧t 4=sN v∧H 1=rV j 54 [sF bz g.aw,sF eA g.aF,sF (fk ak) g.aN]) (fun o x t H e=>match o with|(.inl _)=>x=.exit 2∧∃f:Nat,t 1=.ptr 1 f 0∧t 3=sN k∧H 1=rV f 54 [sF bz g.aw,sF eA g.aF,sF (fk ak) g.aN]|(.inr r)=>x=.ret∧gu .clean tab none [.tmp 2] ⟨t,EH H,e⟩=some (.clean (.bool r),none)) u ?_ ?_ ?_
      ·refine⟨l,?_⟩;and_intros<;>first|rfl|(simp only[bo,seval,E]<;>rfl)
      ·rintro v t H e ⟨j,w⟩ c a;simp only[fh]at a;have b:=bn (fk ak) i;simp only[bP]at b;simp only[bo,seval,w,b];apply sp ay a<;>intro _ a
       ·have b:=bn (fk ak) i;simp only[bP]at b;obtain⟨J,y,a⟩:=ae a;have n:=bn ak y;simp only[bP]at n;obtain⟨K,z,a⟩:=ae a;simp only[bo,seval,w,b,n,z];apply sp ay a<;>intro _ a
        ·cases a;simp only[bo,seval];refine si ⟨rfl,?_⟩;simp only[bo,seval]
        ·cases a;simp only[bo,seval,w];apply iQ;refine⟨j,?_⟩;and_intros<;>first|rfl|(simp only[bo,seval,w]<;>rfl)
       ·cases a;simp only[bo,seval];apply j9;refine⟨rfl,⟨j,?_,?_,?_⟩⟩;all_goals ((simp only[bo,seval,w]<;>rfl))
      ·rintro x t H e m;rcases F with _|rd
       ·dsimp only at m a;obtain⟨rfl,⟨f,A⟩⟩:=m;cases a;simp only[bo,seval,A];apply iQ;refine⟨f,?_⟩;and_intros<;>first|rfl|(simp only[bo,seval,A]<;>rfl)
       ·dsimp only at m a;obtain⟨rfl,B⟩:=m;cases a;simp only[a8,bf,cB];apply si;first|exact⟨rfl,B⟩|(simp only[bo,seval]at B;exact⟨rfl,B⟩)
    ·cases a;simp only[bo,seval];apply j9;exact rfl
   ·rintro x t H e m;rcases D with _|L
    ·dsimp only at m a;subst m;cases a;simp only[bo,seval]
    ·dsimp only at m a;obtain⟨rfl,B⟩:=m;cases a;simp only[a8,bf,cB,cL];exact B
 ·clear a;have a:=C;simp only[bo,seval];apply sp bU a<;>intro _ a
  ·cases a;simp only[bo,seval];rw[aD];refine⟨_,rfl,?_⟩;refine⟨0,?_,?_,?_⟩;all_goals (rfl)
  ·simp only[bo,seval];apply sp bU a<;>intro _ a
   ·cases a;simp only[bo,seval];rw[aD];refine⟨_,rfl,?_⟩;refine⟨0,?_,?_,?_⟩;all_goals (rfl)
   ·cases a;simp only[bo,seval];rw[aD];refine⟨_,rfl,?_⟩;refine⟨0,?_,?_,?_⟩;all_goals (rfl)
def yW (l:Option (D×Row)) (d:List D):=er (dN (bV jP)) (fun x:aX=>zm x) (fun r:Bool =>.clean (.bool r)) l d
def CO:Env:=(Am.ext bs 32 false qF)
def TC:bY prog CO:=(bY.none.add HC false)
def dH:=ai @w<|ai @adW<|ai @qF.eq_1<|@CO.eq_1
def TT:cr prog 10 yW:=cr.jl (mode := .clean) tok TC mixed func10 (by kernel_rfl) (fun _ _=>rfl) (fun _=>by kernel_rfl) fun j r a=>by
 replace a:zm j=some r:=a;apply aL rfl ntmps10 results10;simp only[jo];unfold zm at a;simp only[dH,seval];obtain⟨u,p,a⟩:=ae a;refine cV 0 (fun s t H e=>match s with|f=>∃d:Nat,t 1=.ptr 1 d 0∧t 13=.bool f∧H 1=rV d 25 [sI j.al,sF bx j.ah]) (fun s=>s=u) ?_ ?_
 ·rintro f t H e ⟨d,k⟩ rfl;try dsimp only at a
  simp only[dH,seval,k];apply sp ay a<;>intro _ a
  ·cases a;simp only[dH,seval]
  ·simp only[dH,seval];obtain⟨v,q,a⟩:=ae a;refine aB (fun s t H e=>match s with|l=>∃h:Nat,t 1=.ptr 1 h 0∧t 3=sN l∧H 1=rV h 25 [sI j.al,sF bx j.ah]) (fun o x t H e=>match o with|(.inl _)=>x=.exit 0|(.inr r)=>x=.ret∧gu .clean tab none [.tmp 2] ⟨t,EH H,e⟩=some (.clean (.bool r),none)) q ?_ ?_ ?_
   ·refine⟨d,?_⟩;and_intros<;>first|rfl|(simp only[dH,seval,k]<;>rfl)
   ·rintro l t H e ⟨h,i⟩ c a;simp only[wJ]at a;simp only[dH,seval,i];apply sp ay a<;>intro _ a
    ·obtain⟨w,g,a⟩:=ae a;have b:=bn bx g;simp only[bP]at b;obtain⟨y,m,a⟩:=ae a;simp only[dH,seval,i,b,m];apply sp bU a<;>intro _ a
     ·cases a;simp only[dH,seval];refine si ⟨rfl,?_⟩;simp only[dH,seval]
     ·have b:=bn bx g;simp only[bP]at b;simp only[dH,seval,i,b];apply sp bU a<;>intro _ a
      ·cases a;simp only[dH,seval];refine si ⟨rfl,?_⟩;simp only[dH,seval]
      ·have b:=bn bx g;simp only[bP]at b;simp only[dH,seval,i,b];apply sp ay a<;>intro _ a
       ·cases a;simp only[dH,seval];refine si ⟨rfl,?_⟩;simp only[dH,seval]
       ·cases a;simp only[dH,seval,i];apply iQ;refine⟨h,?_⟩;and_intros<;>first|rfl|(simp only[dH,seval,i]<;>rfl)
    ·cases a;simp only[dH,seval];apply j9;exact rfl
   ·rintro x t H e n;rcases v with _|A
    ·dsimp only at n a;subst n;cases a;simp only[dH,seval]
    ·dsimp only at n a;obtain⟨rfl,z⟩:=n;cases a;simp only[a8,bf,cB,cL];exact z
 ·clear a;have a:=p;simp only[dH,seval];apply sp bU a<;>intro _ a
  ·cases a;simp only[dH,seval];rw[aD];refine⟨_,rfl,?_⟩;refine⟨0,?_,?_,?_⟩;all_goals (rfl)
  ·cases a;simp only[dH,seval];rw[aD];refine⟨_,rfl,?_⟩;refine⟨0,?_,?_,?_⟩;all_goals (rfl)
def yX (l:Option (D×Row)) (d:List D):=er (dN (ko (fk ak))) (fun x:(List (List an))=>zn x) (fun r:Bool =>.clean (.bool r)) l d
def ahG {β:Type} {F:(List (List an))->Option β} {R:β->RK} (a:(List (List an))):er (dN (ko (fk ak))) F R none [.sl false false a.length (av (fk ak) a)]=(F (a)).map fun r=>(R r,none):=cK _ _ _ (a)
def CP:Env:=(Am.ext bs 38 false pS)
def TD:bY prog CP:=(bY.none.add HA false)
def cQ:=ai @w<|ai @ad6<|ai @pS.eq_1<|@CP.eq_1
def TU:cr prog 11 yX:=cr.jl (mode := .clean) tok TD mixed func11 (by kernel_rfl) (fun _ _=>rfl) (fun _=>by kernel_rfl) fun k r a=>by
 replace a:zn k=some r:=a;apply aL rfl ntmps11 results11;simp only[jo];unfold zn at a;simp only[cQ,seval];obtain⟨A,l,a⟩:=ae a;refine aB (fun s t H e=>match s with|d=>t 0=sF (fk ak) k∧t 3=sN d) (fun o x t H e=>match o with|(.inl _)=>x=.exit 0∧t 0=sF (fk ak) k|(.inr r)=>x=.ret∧gu .clean tab none [.tmp 2] ⟨t,EH H,e⟩=some (.clean (.bool r),none)) l ?_ ?_ ?_
 ·refine⟨?_,?_⟩;all_goals (rfl)
 ·rintro d t H e z c a;simp only[tG]at a;simp only[cQ,seval,z];obtain⟨B,m,a⟩:=ae a;refine cV 0 (fun s t H e=>match s with|f=>t 0=sF (fk ak) k∧t 3=sN d∧t 12=.bool f) (fun s=>s=B) ?_ ?_
  ·rintro f t H e h rfl;try dsimp only at a
   simp only[cQ,seval,h];apply sp ay a<;>intro _ a
   ·obtain⟨E,g,a⟩:=ae a;have b:=bn (fk ak) g;simp only[bP]at b;simp only[cQ,seval,h,b];apply sp ay a<;>intro _ a
    ·cases a;simp only[cQ,seval];refine si ⟨rfl,?_⟩;simp only[cQ,seval]
    ·simp only[cQ,seval];obtain⟨C,n,a⟩:=ae a;refine aB (fun s t H e=>match s with|p=>t 0=sF (fk ak) k∧t 3=sN d∧t 4=sN p) (fun o x t H e=>match o with|(.inl _)=>x=.exit 2∧t 0=sF (fk ak) k∧t 3=sN d|(.inr r)=>x=.ret∧gu .clean tab none [.tmp 2] ⟨t,EH H,e⟩=some (.clean (.bool r),none)) n ?_ ?_ ?_
     ·and_intros<;>first|rfl|(simp only[cQ,seval,h]<;>rfl)
     ·rintro p t H e q c a;simp only[qp]at a;have b:=bn (fk ak) g;simp only[bP]at b;simp only[cQ,seval,q,b];apply sp ay a<;>intro _ a
      ·have b:=bn (fk ak) g;simp only[bP]at b;obtain⟨F,u,a⟩:=ae a;have j:=bn ak u;simp only[bP]at j;obtain⟨G,v,a⟩:=ae a;simp only[cQ,seval,q,b,j,v];apply sp ay a<;>intro _ a
       ·cases a;simp only[cQ,seval];refine si ⟨rfl,?_⟩;simp only[cQ,seval]
       ·cases a;simp only[cQ,seval,q];apply iQ;and_intros<;>first|rfl|(simp only[cQ,seval,q]<;>rfl)
      ·cases a;simp only[cQ,seval];apply j9;refine⟨rfl,⟨?_,?_⟩⟩;all_goals ((simp only[cQ,seval,q]<;>rfl))
     ·rintro x t H e i;rcases C with _|I
      ·dsimp only at i a;obtain⟨rfl,w⟩:=i;cases a;simp only[cQ,seval,w];apply iQ;and_intros<;>first|rfl|(simp only[cQ,seval,w]<;>rfl)
      ·dsimp only at i a;obtain⟨rfl,y⟩:=i;cases a;simp only[a8,bf,cB];apply si;first|exact⟨rfl,y⟩|(simp only[cQ,seval]at y;exact⟨rfl,y⟩)
   ·cases a;simp only[cQ,seval];apply j9;refine⟨rfl,?_⟩;all_goals ((simp only[cQ,seval,h]<;>rfl))
  ·clear a;have a:=m;simp only[cQ,seval];apply sp fM a<;>intro _ a
   ·cases a;simp only[cQ,seval,z];rw[aD];refine⟨_,rfl,?_⟩;and_intros<;>first|rfl|(simp only[cQ,seval,z]<;>rfl)
   ·cases a;simp only[cQ,seval];rw[aD];refine⟨_,rfl,?_⟩;and_intros<;>first|rfl|(simp only[cQ,seval,z]<;>rfl)
 ·rintro x t H e i;rcases A with _|J
  ·dsimp only at i a;obtain⟨rfl,D⟩:=i;cases a;simp only[cQ,seval,D]
  ·dsimp only at i a;obtain⟨rfl,y⟩:=i;cases a;simp only[a8,bf,cB,cL];exact y
def yV (l:Option (D×Row)) (d:List D):=er (dN (ko ak)) (fun x:(List an)=>wC x) (fun r:an =>.clean (.agg [.int .i64 r.bL.ax,.sl false false r.bL.aa.length (av (eI .i64) r.bL.aa),.int .i64 r.bQ.ax,.sl false false r.bQ.aa.length (av (eI .i64) r.bQ.aa)])) l d
def CM:Env:=(Am.ext (Am.ext bs 21 false cg) 23 false dI)
def TA:bY prog CM:=((bY.none.add jA false).add ov false)
def qv:=ai @w<|ai @E7<|ai @cg.eq_1<|ai @sr<|ai @dI.eq_1<|@CM.eq_1
def TS:cr prog 22 yV:=cr.jl (mode := .clean) tok TA mixed func22 (by kernel_rfl) (fun _ _=>rfl) (fun _=>by kernel_rfl) fun C r a=>by
 replace a:wC C=some r:=a;apply aL rfl ntmps22 results22;simp only[jo];unfold wC at a;obtain⟨F,w,a⟩:=ae a;simp only[qv,seval,w];obtain⟨E,y,a⟩:=ae a;refine aB (fun s t H e=>match s with|(q,h,i,j,k)=>∃l:Nat,∃m:Nat,t 0=sF ak C∧t 2=.ptr 2 l 0∧t 3=.ptr 3 m 0∧t 4=sN q∧H 2=rV l 41 [sN 0,.sl true true 0 [],sN 0,.sl true true 0 []]∧H 3=rV m 41 [sN h,sI i,sN j,sI k]) (fun o x t H e=>match o with|(b,d,f,g)=>x=.exit 0∧∃n:Nat,∃p:Nat,t 2=.ptr 2 n 0∧t 3=.ptr 3 p 0∧H 2=rV n 41 [sN 0,.sl true true 0 [],sN 0,.sl true true 0 []]∧H 3=rV p 41 [sN b,sI d,sN f,sI g]) y ?_ ?_ ?_
 ·refine⟨0,1,?_,?_,?_,?_,?_,?_⟩;all_goals (rfl)
 ·rintro⟨q,h,i,j,k⟩ t H e ⟨l,m,v⟩ c a;simp only[tr]at a;simp only[qv,seval,v];apply sp ay a<;>intro _ a
  ·obtain⟨G,z,a⟩:=ae a;have u:=bn ak z;simp only[bP]at u;obtain⟨I,A,a⟩:=ae a;simp only[qv,seval,v,u,A];refine bN (by kernel_rfl) ?_;cases a;apply iQ;refine⟨l,m,?_⟩;and_intros<;>first|rfl|(simp only[qv,seval,v]<;>rfl)
  ·cases a;simp only[qv,seval];apply j9;refine⟨rfl,⟨l,m,?_,?_,?_,?_⟩⟩;all_goals ((simp only[qv,seval,v]<;>rfl))
 ·rintro x t H e D;rcases E with⟨b,d,f,g⟩;dsimp only at D a;obtain⟨rfl,⟨n,p,B⟩⟩:=D;cases a;simp only[qv,seval,B]
def oM (l:Option (D×Row)) (d:List D):=er (gG (ko (eI .i64)) (dN (ko (eI .i64)))) (fun x:(List Int)×(List Int)=>mC x.1 x.2) (fun r:Bool =>.clean (.bool r)) l d
def EO:cr prog 119 oM:=cr.jl (mode := .clean) tok bY.none mixed func119 (by kernel_rfl) (fun _ _=>rfl) (fun _=>by kernel_rfl) fun⟨i,m⟩ r a=>by
 replace a:mC i m=some r:=a;apply aL rfl ntmps119 results119;simp only[jo];unfold mC at a;simp only[w,seval];apply sp ay a<;>intro _ a
 ·cases a;simp only[w,seval]
 ·simp only[w,seval];obtain⟨n,j,a⟩:=ae a;refine aB (fun s t H e=>match s with|b=>t 0=sI i∧t 1=sI m∧t 12=sN (i.length:Int)∧t 13=sN b) (fun o x t H e=>match o with|(.inl _)=>x=.exit 0|(.inr r)=>x=.ret∧gu .clean tab none [.tmp 4] ⟨t,EH H,e⟩=some (.clean (.bool r),none)) j ?_ ?_ ?_
  ·refine⟨?_,?_,?_,?_⟩;all_goals (rfl)
  ·rintro b t H e g c a;simp only[nK]at a;simp only[w,seval,g];apply sp ay a<;>intro _ a
   ·obtain⟨q,k,a⟩:=ae a;have d:=bn (eI .i64) k;simp only[bP]at d;obtain⟨u,l,a⟩:=ae a;have f:=bn (eI .i64) l;simp only[bP]at f;simp only[w,seval,g,d,f];refine bN (by kernel_rfl) ?_;apply sp ay a<;>intro _ a
    ·cases a;simp only[w,seval];refine si ⟨rfl,?_⟩;simp only[w,seval]
    ·cases a;simp only[w,seval,g];apply iQ;and_intros<;>first|rfl|(simp only[w,seval,g]<;>rfl)
   ·cases a;simp only[w,seval];apply j9;exact rfl
  ·rintro x t H e h;rcases n with _|v
   ·dsimp only at h a;subst h;cases a;simp only[w,seval]
   ·dsimp only at h a;obtain⟨rfl,p⟩:=h;cases a;simp only[a8,bf,cB,cL];exact p
def vJ (l:Option (D×Row)) (d:List D):=er (gG (bV jc) (dN (bV jc))) (fun x:aK×aK=>sQ x.1 x.2) (fun r:Bool =>.clean (.bool r)) l d
def Au:Env:=(Am.ext bs 119 false oM)
def PI:bY prog Au:=(bY.none.add EO false)
def A6:=ai @w<|ai @Wz<|ai @oM.eq_1<|@Au.eq_1
def Q8:cr prog 64 vJ:=cr.jl (mode := .clean) tok PI mixed func64 (by kernel_rfl) (fun _ _=>rfl) (fun _=>by kernel_rfl) fun⟨c,d⟩ r a=>by
 replace a:sQ c d=some r:=a;apply aL rfl ntmps64 results64;simp only[jo];unfold sQ at a;simp only[A6,seval];apply sp fM a<;>intro _ a
 ·obtain⟨e,b,a⟩:=ae a;cases a;simp only[A6,seval,b]
 ·cases a;simp only[A6,seval]
def tU (l:Option (D×Row)) (d:List D):=er (gG (bV ak) (dN (bV ak))) (fun x:an×an=>qe x.1 x.2) (fun r:Bool =>.clean (.bool r)) l d
def yi:Env:=(Am.ext bs 64 false vJ)
def MF:bY prog yi:=(bY.none.add Q8 false)
def yN:=ai @w<|ai @Lv<|ai @vJ.eq_1<|@yi.eq_1
def M6:cr prog 25 tU:=cr.jl (mode := .clean) tok MF mixed func25 (by kernel_rfl) (fun _ _=>rfl) (fun _=>by kernel_rfl) fun⟨d,e⟩ r a=>by
 replace a:qe d e=some r:=a;apply aL rfl ntmps25 results25;simp only[jo];unfold qe at a;obtain⟨f,b,a⟩:=ae a;simp only[yN,seval,b];apply sp fM a<;>intro _ a
 ·obtain⟨g,c,a⟩:=ae a;cases a;simp only[yN,seval,c]
 ·cases a;simp only[yN,seval]
def xB (l:Option (D×Row)) (d:List D):=er (gG (bV jP) (dN (ko (fk ak)))) (fun x:aX×(List (List an))=>fp x.1 x.2) (fun r:Bool =>.clean (.bool r)) l d
def lE:Env:=(Am.ext (Am.ext (Am.ext (Am.ext (Am.ext (Am.ext (Am.ext (Am.ext (Am.ext (Am.ext (Am.ext bs 9 false vN) 10 false yW) 11 false yX) 12 false jF) 16 false jG) 20 false iJ) 21 false cg) 22 false yV) 23 false dI) 24 false ca) 25 false tU)
def xn:bY prog lE:=(((((((((((bY.none.add Rb false).add TT false).add TU false).add yA false).add yB false).add xb false).add jA false).add TS false).add ov false).add jB false).add M6 false)
def aq:=ai @w<|ai @sh9<|ai @vN.eq_1<|ai @RU<|ai @yW.eq_1<|ai @ahG<|ai @yX.eq_1<|ai @YB<|ai @jF.eq_1<|ai @ad5<|ai @jG.eq_1<|ai @sr<|ai @iJ.eq_1<|ai @E7<|ai @cg.eq_1<|ai @adV<|ai @yV.eq_1<|ai @dI.eq_1<|ai @kh<|ai @ca.eq_1<|ai @tU.eq_1<|@lE.eq_1
def xu:cr prog 5 xB:=cr.jl (mode := .clean) tok xn mixed func5 (by kernel_rfl) (fun _ _=>rfl) (fun _=>by kernel_rfl) fun⟨p0,p1⟩ r a=>by
 replace a:fp p0 p1=some r:=a;apply aL rfl ntmps5 results5;simp only[jo];unfold fp at a;obtain⟨r1,a6,a⟩:=ae a;obtain⟨r2,a7,a⟩:=ae a;simp only[aq,seval,a6,a7];obtain⟨o3,ba,a⟩:=ae a;refine cV 0 (fun s t H e=>match s with|al=>∃m:Nat,t 1=sF (fk ak) p1∧t 2=.ptr 2 m 0∧t 5=.bool r1∧t 23=.bool al∧H 2=rV m 25 [sI p0.al,sF bx p0.ah]) (fun s=>s=o3) ?_ ?_
 ·rintro al t H e ⟨m,n⟩ rfl;try dsimp only at a
  simp only[aq,seval,n];apply sp ay a<;>intro _ a
  ·cases a;simp only[aq,seval,n]
  ·obtain⟨r5,bb,a⟩:=ae a;obtain⟨r6,bc,a⟩:=ae a;simp only[aq,seval,n,bb,bc];apply sp ay a<;>intro _ a
   ·simp only[aq,seval,n];obtain⟨o8,bd,a⟩:=ae a;refine cV 0 (fun s t H e=>match s with|au=>t 4=.bool au) (fun s=>s=o8) ?_ ?_
    ·rintro au t H e bg rfl;try dsimp only at a
     cases a;simp only[aq,seval,bg]
    ·clear a;have a:=bd;simp only[aq,seval];apply sp fM a<;>intro _ a
     ·simp only[aq,seval];apply sp fM a<;>intro _ a
      ·cases a;simp only[aq,seval];rw[aD];refine⟨_,rfl,?_⟩;refine ?_;all_goals (rfl)
      ·cases a;simp only[aq,seval];rw[aD];refine⟨_,rfl,?_⟩;refine ?_;all_goals (rfl)
     ·cases a;simp only[aq,seval];rw[aD];refine⟨_,rfl,?_⟩;refine ?_;all_goals (rfl)
   ·simp only[aq,seval,n];obtain⟨bh,aG,a⟩:=ae a;refine cV 0 (fun s t H e=>match s with|ao=>∃Q:Nat,t 1=sF (fk ak) p1∧t 2=.ptr 2 Q 0∧t 5=.bool r1∧t 6=sF (fk ak) r5.1∧t 7=sF ak r5.2.1∧t 9=sF ak r6∧t 75=.bool ao∧H 2=rV Q 25 [sI p0.al,sF bx p0.ah]) (fun s=>s=bh) ?_ ?_
    ·rintro ao t H e ⟨Q,aF⟩ rfl;try dsimp only at a
     simp only[aq,seval,aF];apply sp ay a<;>intro _ a
     ·cases a;simp only[aq,seval]
     ·obtain⟨bp,aH,a⟩:=ae a;obtain⟨bq,aI,a⟩:=ae a;simp only[aq,seval,aF,aH,aI];obtain⟨bk,aJ,a⟩:=ae a;refine aB (fun s t H e=>match s with|(R,S,T,U,V,W,X,Y,Z)=>∃ar:Nat,∃C:Nat,∃D:Nat,t 1=sF (fk ak) p1∧t 2=.ptr 2 ar 0∧t 5=.bool r1∧t 6=sF (fk ak) r5.1∧t 7=sF ak r5.2.1∧t 9=sF ak r6∧t 10=.ptr 10 C 0∧t 11=.ptr 11 D 0∧t 12=sN R∧H 2=rV ar 25 [sI p0.al,sF bx p0.ah]∧H 10=rV C 41 [sN S,sI T,sN U,sI V]∧H 11=rV D 41 [sN W,sI X,sN Y,sI Z]) (fun o x t H e=>match o with|(.inl (d,f,g,h,i,j,k,l))=>x=.exit 0∧∃y:Nat,∃z:Nat,t 5=.bool r1∧t 7=sF ak r5.2.1∧t 9=sF ak r6∧t 10=.ptr 10 y 0∧t 11=.ptr 11 z 0∧H 10=rV y 41 [sN d,sI f,sN g,sI h]∧H 11=rV z 41 [sN i,sI j,sN k,sI l]|(.inr r)=>x=.ret∧gu .clean tab none [.tmp 4] ⟨t,EH H,e⟩=some (.clean (.bool r),none)) aJ ?_ ?_ ?_
      ·refine⟨Q,e,e+1,?_⟩;and_intros<;>first|rfl|(simp only[aq,seval,aF]<;>rfl)
      ·rintro⟨R,S,T,U,V,W,X,Y,Z⟩ t H e ⟨ar,C,D,Zd⟩ c a;simp only[eW]at a;simp only[aq,seval,Zd];apply sp ay a<;>intro _ a
       ·obtain⟨br,aK,a⟩:=ae a;have p:=bn (fk ak) aK;simp only[bP]at p;obtain⟨bs,aM,a⟩:=ae a;obtain⟨E,aN,a⟩:=ae a;simp only[aq,seval,Zd,p,aM,aN];refine bN (by kernel_rfl) ?_;obtain⟨bt,aa,a⟩:=ae a;have b:=bn (fk ak) aa;simp only[bP]at b;obtain⟨bu,av,a⟩:=ae a;have F:=bn bx av;simp only[bP]at F;simp only[aq,seval,Zd,p,b,F];refine bN (by kernel_rfl) ?_;apply sp ay a<;>intro _ a
        ·cases a;simp only[aq,seval];refine si ⟨rfl,?_⟩;simp only[aq,seval]
        ·simp only[aq,seval];obtain⟨bl,aO,a⟩:=ae a;refine aB (fun s t H e=>match s with|(aw,ab,ad,ag,ah)=>∃aj:Nat,∃q:Nat,∃u:Nat,t 1=sF (fk ak) p1∧t 2=.ptr 2 aj 0∧t 5=.bool r1∧t 6=sF (fk ak) r5.1∧t 7=sF ak r5.2.1∧t 9=sF ak r6∧t 10=.ptr 10 q 0∧t 11=.ptr 11 u 0∧t 12=sN R∧t 13=sN aw∧H 2=rV aj 25 [sI p0.al,sF bx p0.ah]∧H 10=rV q 41 [sN E.1.bL.ax,sI E.1.bL.aa,sN E.1.bQ.ax,sI E.1.bQ.aa]∧H 11=rV u 41 [sN ab,sI ad,sN ag,sI ah]) (fun o x t H e=>match o with|(.inl (G,I,J,K))=>x=.exit 2∧∃ai:Nat,∃A:Nat,∃B:Nat,t 1=sF (fk ak) p1∧t 2=.ptr 2 ai 0∧t 5=.bool r1∧t 6=sF (fk ak) r5.1∧t 7=sF ak r5.2.1∧t 9=sF ak r6∧t 10=.ptr 10 A 0∧t 11=.ptr 11 B 0∧t 12=sN R∧H 2=rV ai 25 [sI p0.al,sF bx p0.ah]∧H 10=rV A 41 [sN E.1.bL.ax,sI E.1.bL.aa,sN E.1.bQ.ax,sI E.1.bQ.aa]∧H 11=rV B 41 [sN G,sI I,sN J,sI K]|(.inr r)=>x=.ret∧gu .clean tab none [.tmp 4] ⟨t,EH H,e⟩=some (.clean (.bool r),none)) aO ?_ ?_ ?_
         ·refine⟨ar,C,D,?_⟩;and_intros<;>first|rfl|(simp only[aq,seval,Zd]<;>rfl)
         ·rintro⟨aw,ab,ad,ag,ah⟩ t H e ⟨aj,q,u,Zf⟩ c a;simp only[gw]at a;have b:=bn (fk ak) aa;simp only[bP]at b;simp only[aq,seval,p,Zf,b];apply sp ay a<;>intro _ a
          ·have b:=bn (fk ak) aa;simp only[bP]at b;obtain⟨bw,ax,a⟩:=ae a;have v:=bn ak ax;simp only[bP]at v;obtain⟨bz,aP,a⟩:=ae a;simp only[aq,seval,p,Zf,b,v,aP];apply sp ay a<;>intro _ a
           ·cases a;simp only[aq,seval];refine si ⟨rfl,?_⟩;simp only[aq,seval]
           ·have F:=bn bx av;simp only[bP]at F;obtain⟨bA,aQ,a⟩:=ae a;have az:=bn eA aQ;simp only[bP]at az;simp only[aq,seval,p,Zf,v,F,az];apply sp ay a<;>intro _ a
            ·have b:=bn (fk ak) aa;simp only[bP]at b;have v:=bn ak ax;simp only[bP]at v;obtain⟨bB,aR,a⟩:=ae a;simp only[aq,seval,p,Zf,b,v,aR];refine bN (by kernel_rfl) ?_;cases a;apply iQ;refine⟨aj,q,u,?_⟩;and_intros<;>first|rfl|(simp only[aq,seval,Zf]<;>rfl)
            ·cases a;simp only[aq,seval,Zf];apply iQ;refine⟨aj,q,u,?_⟩;and_intros<;>first|rfl|(simp only[aq,seval,Zf]<;>rfl)
          ·cases a;simp only[aq,seval];apply j9;refine⟨rfl,⟨aj,q,u,?_,?_,?_,?_,?_,?_,?_,?_,?_,?_,?_,?_⟩⟩;all_goals ((simp only[aq,seval,Zf]<;>rfl))
         ·rintro x t H e hx;rcases bl with⟨G,I,J,K⟩|rf
          ·dsimp only at hx a;obtain⟨rfl,⟨ai,A,B,aS⟩⟩:=hx;cases a;simp only[aq,seval,aS];apply iQ;refine⟨ai,A,B,?_⟩;and_intros<;>first|rfl|(simp only[aq,seval,aS]<;>rfl)
          ·dsimp only at hx a;obtain⟨rfl,hE⟩:=hx;cases a;simp only[a8,bf,cB];apply si;first|exact⟨rfl,hE⟩|(simp only[aq,seval]at hE;exact⟨rfl,hE⟩)
       ·cases a;simp only[aq,seval];apply j9;refine⟨rfl,⟨C,D,?_,?_,?_,?_,?_,?_,?_⟩⟩;all_goals ((simp only[aq,seval,Zd]<;>rfl))
      ·rintro x t H e hx;rcases bk with⟨d,f,g,h,i,j,k,l⟩|rd
       ·dsimp only at hx a;obtain⟨rfl,⟨y,z,bm⟩⟩:=hx;simp only[aq,seval];obtain⟨bo,aT,a⟩:=ae a;refine aB (fun s t H e=>match s with|aA=>∃L:Nat,∃M:Nat,t 5=.bool r1∧t 7=sF ak r5.2.1∧t 9=sF ak r6∧t 10=.ptr 10 L 0∧t 11=.ptr 11 M 0∧t 14=sN aA∧H 10=rV L 41 [sN d,sI f,sN g,sI h]∧H 11=rV M 41 [sN i,sI j,sN k,sI l]) (fun o x t H e=>match o with|(.inl _)=>x=.exit 4∧∃O:Nat,∃P:Nat,t 5=.bool r1∧t 10=.ptr 10 O 0∧t 11=.ptr 11 P 0∧H 10=rV O 41 [sN d,sI f,sN g,sI h]∧H 11=rV P 41 [sN i,sI j,sN k,sI l]|(.inr r)=>x=.ret∧gu .clean tab none [.tmp 4] ⟨t,EH H,e⟩=some (.clean (.bool r),none)) aT ?_ ?_ ?_
        ·refine⟨y,z,?_⟩;and_intros<;>first|rfl|(simp only[aq,seval,bm]<;>rfl)
        ·rintro aA t H e ⟨L,M,Zg⟩ c a;simp only[iZ]at a;simp only[aq,seval,Zg];apply sp ay a<;>intro _ a
         ·obtain⟨bC,aC,a⟩:=ae a;have w:=bn ak aC;simp only[bP]at w;obtain⟨bD,aU,a⟩:=ae a;simp only[aq,seval,Zg,w,aU];apply sp yM a<;>intro _ a
          ·simp only[aq,seval];refine bN (by kernel_rfl) ?_;cases a;refine si ⟨rfl,?_⟩;simp only[aq,seval]
          ·obtain⟨bE,aE,a⟩:=ae a;have N:=bn ak aE;simp only[bP]at N;obtain⟨bF,aV,a⟩:=ae a;simp only[aq,seval,Zg,w,N,aV];apply sp yM a<;>intro _ a
           ·simp only[aq,seval];refine bN (by kernel_rfl) ?_;cases a;refine si ⟨rfl,?_⟩;simp only[aq,seval]
           ·have N:=bn ak aE;simp only[bP]at N;have w:=bn ak aC;simp only[bP]at w;obtain⟨bG,aW,a⟩:=ae a;simp only[aq,seval,Zg,N,w,aW];refine bN (by kernel_rfl) ?_;apply sp ay a<;>intro _ a
            ·cases a;simp only[aq,seval];refine si ⟨rfl,?_⟩;simp only[aq,seval]
            ·cases a;simp only[aq,seval,Zg];apply iQ;refine⟨L,M,?_⟩;and_intros<;>first|rfl|(simp only[aq,seval,Zg]<;>rfl)
         ·cases a;simp only[aq,seval];apply j9;refine⟨rfl,⟨L,M,?_,?_,?_,?_,?_⟩⟩;all_goals ((simp only[aq,seval,Zg]<;>rfl))
        ·rintro x t H e hx;rcases bo with _|rg
         ·dsimp only at hx a;obtain⟨rfl,⟨O,P,aY⟩⟩:=hx;simp only[aq,seval,aY];apply sp fM a<;>intro _ a
          ·obtain⟨bH,aZ,a⟩:=ae a;cases a;simp only[aq,seval,aY,aZ]
          ·cases a;simp only[aq,seval]
         ·dsimp only at hx a;obtain⟨rfl,hE⟩:=hx;cases a;simp only[a8,bf,cB,cL];exact hE
       ·dsimp only at hx a;obtain⟨rfl,hE⟩:=hx;cases a;simp only[a8,bf,cB,cL];exact hE
    ·clear a;have a:=aG;simp only[aq,seval];apply sp bU a<;>intro _ a
     ·cases a;simp only[aq,seval];rw[aD];refine⟨_,rfl,?_⟩;refine⟨m,?_⟩;and_intros<;>first|rfl|(simp only[aq,seval,n]<;>rfl)
     ·simp only[aq,seval,n];apply sp bU a<;>intro _ a
      ·cases a;simp only[aq,seval];rw[aD];refine⟨_,rfl,?_⟩;refine⟨m,?_⟩;and_intros<;>first|rfl|(simp only[aq,seval,n]<;>rfl)
      ·simp only[aq,seval];apply sp bU a<;>intro _ a
       ·cases a;simp only[aq,seval];rw[aD];refine⟨_,rfl,?_⟩;refine⟨m,?_⟩;and_intros<;>first|rfl|(simp only[aq,seval,n]<;>rfl)
       ·cases a;simp only[aq,seval,n];rw[aD];refine⟨_,rfl,?_⟩;refine⟨m,?_⟩;and_intros<;>first|rfl|(simp only[aq,seval,n]<;>rfl)
 ·clear a;have a:=ba;simp only[aq,seval];apply sp bU a<;>intro _ a
  ·cases a;simp only[aq,seval];rw[aD];refine⟨_,rfl,?_⟩;refine⟨0,?_,?_,?_,?_,?_⟩;all_goals (rfl)
  ·obtain⟨bI,a1,a⟩:=ae a;cases a;simp only[aq,seval,a1];rw[aD];refine⟨_,rfl,?_⟩;refine⟨0,?_,?_,?_,?_,?_⟩;all_goals (rfl)
end Go.Proofs.YtobnihfgnbnncaaGreat.Am
namespace Go.Proofs.YtobnihfgnbnncaaGreat.Am
open Go.ChangeShapes Go.WideShapes Go.ChangeAt Go.RowKit Go.Proofs.YtobnihfgnbnncaaGreat.P
set_option maxRecDepth 100000
def Tryz.own:ownKnob Tryz.prog.godebug=none:=by kernel_rfl
def Tryz.laidOut:laidOutB prog=true:=by kernel_rfl
def I2 (n:Nat):DC tab (n+1) 3 (eI .i64) (fun x=>(Lit.int .i64 x).wf=true):=opI W2 rfl rfl
def abN (n:Nat):DC tab (n+2) 22 (fk (eI .i64)) (fun x=>(x.length*8<=140737488351232∧∀y∈x,(Lit.int .i64 y).wf=true)):=TV Nz rfl rfl (by rw[W2];rfl) (I2 n)
def AP (x:ib):Prop:=(Lit.int .i64 x.aY).wf=true∧((Lit.int .i64 x.aR).wf=true∧((Lit.int .i64 x.aQ).wf=true))
def ahm (n:Nat):DC tab (n+2) 83 bz (fun x=>AP x):=opS (g:=fun y=>ib.mk y.1 y.2.1 y.2.2) NI rfl rfl (fun _=>rfl) (Da (I2 n) rfl (Da (I2 n) rfl (Ri (I2 n))))
def ahf (n:Nat):DC tab (n+3) 51 (fk bz) (fun x=>(x.length*24<=140737488351232∧∀y∈x,AP y)):=TV Ug rfl rfl (by rw[NI];rfl) (ahm n)
def aiW (n:Nat):DC tab (n+1) 9 afx (fun x=>x.size<=140737488351232):=aha acr rfl rfl
def M0 (x:rU):Prop:=(Lit.int .i64 x.aY).wf=true∧((Lit.int .i64 x.aR).wf=true∧((Lit.int .i64 x.aQ).wf=true∧(x.Mz.size<=140737488351232)))
def ahk (n:Nat):DC tab (n+2) 60 eA (fun x=>M0 x):=opS (g:=fun y=>rU.mk y.1 y.2.1 y.2.2.1 y.2.2.2) NG rfl rfl (fun _=>rfl) (Da (I2 n) rfl (Da (I2 n) rfl (Da (I2 n) rfl (Ri (aiW n)))))
def ahg (n:Nat):DC tab (n+3) 52 (fk eA) (fun x=>(x.length*40<=140737488351232∧∀y∈x,M0 y)):=TV Uh rfl rfl (by rw[NG];rfl) (ahk n)
def MZ (x:aK):Prop:=(Lit.int .i64 x.ax).wf=true∧((x.aa.length*8<=140737488351232∧∀y∈x.aa,(Lit.int .i64 y).wf=true))
def ae5 (n:Nat):DC tab (n+3) 39 jc (fun x=>MZ x):=opS (g:=fun y=>aK.mk y.1 y.2) Uf rfl rfl (fun _=>rfl) (Da (I2 (n+1)) rfl (Ri (abN n)))
def tw (x:an):Prop:=MZ x.bL∧(MZ x.bQ)
def ahe (n:Nat):DC tab (n+4) 41 ak (fun x=>tw x):=opS (g:=fun y=>an.mk y.1 y.2) ND rfl rfl (fun _=>rfl) (Da (ae5 n) rfl (Ri (ae5 n)))
def ahd (n:Nat):DC tab (n+5) 27 (fk ak) (fun x=>(x.length*64<=140737488351232∧∀y∈x,tw y)):=TV NC rfl rfl (by rw[ND];rfl) (ahe n)
def ae4 (n:Nat):DC tab (n+6) 26 (fk (fk ak)) (fun x=>(x.length*24<=140737488351232∧∀y∈x,(y.length*64<=140737488351232∧∀z∈y,tw z))):=TV NB rfl rfl (by rw[NC];rfl) (ahd n)
def Q7 (x:fa):Prop:=(x.aw.length*24<=140737488351232∧∀y∈x.aw,AP y)∧((x.aF.length*40<=140737488351232∧∀y∈x.aF,M0 y)∧((x.aN.length*24<=140737488351232∧∀y∈x.aN,(y.length*64<=140737488351232∧∀z∈y,tw z))))
def ahh (n:Nat):DC tab (n+7) 54 xW (fun x=>Q7 x):=opS (g:=fun y=>fa.mk y.1 y.2.1 y.2.2) Ui rfl rfl (fun _=>rfl) (Da (ahf (n+3)) rfl (Da (ahg (n+3)) rfl (Ri (ae4 n))))
def M3 (x:gC):Prop:=(Lit.int .i64 x.bJ).wf=true∧((Lit.int .i64 x.aQ).wf=true)
def ahl (n:Nat):DC tab (n+2) 72 gr (fun x=>M3 x):=opS (g:=fun y=>gC.mk y.1 y.2) NH rfl rfl (fun _=>rfl) (Da (I2 n) rfl (Ri (I2 n)))
def ahi (n:Nat):DC tab (n+3) 55 (fk gr) (fun x=>(x.length*16<=140737488351232∧∀y∈x,M3 y)):=TV Uj rfl rfl (by rw[NH];rfl) (ahl n)
def Hl (x:bj):Prop:=Q7 x.au∧((x.bc.length*16<=140737488351232∧∀y∈x.bc,M3 y)∧((x.aA.length*8<=140737488351232∧∀y∈x.aA,(Lit.int .i64 y).wf=true)))
def ahj (n:Nat):DC tab (n+8) 57 bx (fun x=>Hl x):=opS (g:=fun y=>bj.mk y.1 y.2.1 y.2.2) NF rfl rfl (fun _=>rfl) (Da (ahh n) rfl (Da (ahi (n+4)) rfl (Ri (abN (n+5)))))
def ahb (n:Nat):DC tab (n+9) 23 (fk bx) (fun x=>(x.length*120<=140737488351232∧∀y∈x,Hl y)):=TV Ue rfl rfl (by rw[NF];rfl) (ahj n)
def zl (x:aX):Prop:=(x.al.length*8<=140737488351232∧∀y∈x.al,(Lit.int .i64 y).wf=true)∧((x.ah.length*120<=140737488351232∧∀y∈x.ah,Hl y))
def ahc (n:Nat):DC tab (n+10) 25 jP (fun x=>zl x):=opS (g:=fun y=>aX.mk y.1 y.2) NA rfl rfl (fun _=>rfl) (Da (abN (n+7)) rfl (Ri (ahb n)))
def uZ:Zv tab 11 [25,26] (gG (bV jP) (dN (ko (fk ak)))) (fun x=>zl x.1∧((x.2.length*24<=140737488351232∧∀y∈x.2,(y.length*64<=140737488351232∧∀z∈y,tw z)))):=(aiV (oaS NA rfl (ahc 1)) (aiU (aiT NB rfl (ae4 5))))
def tR (law:∀(e:aX) (d:(List (List an))),(zl e)->((d.length*24<=140737488351232∧∀y∈d,(y.length*64<=140737488351232∧∀z∈y,tw z)))->P.fp e d=some true) (f:Os) (a:f.Started) (H:Type) (b:TypeId×Value->H) :
  ReturnsInHanded {} Tryz.checked f 5 .any (Rows.carryConservesSpec.pre6 b prog Tryz.f5 Rows.carryConservesRow.domain false) (Rows.carryConservesSpec.post b prog Tryz.f5 false true false false):=by
 refine T3 (C:=Tryz.checked) (T:=tab) (tb:=4) (n:=11) tok Tryz.own a (by kernel_rfl) func5
  (ChangeSpec.witness6 (enc:=b) (C:=Tryz.checked) false ⟨#[],#[.agg #[.slice none 0 0,.slice none 0 0],.slice none 0 0],[]⟩ 8 (by kernel_rfl) (by kernel_rfl) (by kernel_rfl) (by kernel_rfl)) Tryz.laidOut (by kernel_rfl) rfl (by kernel_rfl) rfl (fun j c =>?_) (fun k g h =>?_)
 ·rw[Tryz.params5]at c
  match j,c with
  | [d0,d1],_=>exact⟨rfl,rfl,rfl⟩
 ·rw[Tryz.params5]at g h;exact afJ uZ xu (fun x i=>law x.1 x.2 i.1 i.2) k g h
set_option maxHeartbeats 4000000 in
theorem uU (b:∀(e:aX) (c:(List (List an))),(zl e)->((c.length*24<=140737488351232∧∀y∈c,(y.length*64<=140737488351232∧∀z∈y,tw z)))->P.fp e c=some true):Rows.CarryConservesSaid :=
 OpenClaim.holds_of_wide 5 Tryz.f5 rfl rfl rfl rfl rfl rfl rfl ⟨rfl,rfl,rfl,rfl,rfl⟩ rfl rfl rfl rfl rfl (by kernel_rfl) func5 (by kernel_rfl)
  (of_decide_eq_true (by kernel_rfl)) (by unfold Func.isWrapper;first|(rw[if_pos (by decide +kernel)];kernel_rfl)|(rw[if_neg (by decide +kernel)];exact⟨rfl,rfl⟩))
  (fun f a H d _=>tR b f a H d)
end Go.Proofs.YtobnihfgnbnncaaGreat.Am
namespace Go.Proofs.YtobnihfgnbnncaaGreat.P
open Go.RowKit
def bH (n:Nat):List Int:=if h:n=0 then [] else ((n % 1048576:Nat):Int)::bH (n / 1048576)
termination_by n
decreasing_by omega
def dv:List Int->Int
 | []=>0
 | d::l=>d+1048576*dv l
def Dg (l:List Int):Prop:=∀d∈l,0<=d∧d<1048576
def pw (i:Nat):Int:=1048576 ^ i
def uu:pw 0=1:=rfl
def mA (i:Nat):pw (i+1)=1048576*pw i:=by unfold pw;omega
def tE (i:Nat):0<pw i:=by unfold pw;exact Int.pow_pos (by decide)
def Ni (i j:Nat):pw (i+j)=pw i*pw j:=by unfold pw;rw[Int.pow_add]
def wH {i j:Nat} (h:i<=j):pw i<=pw j:=by
 obtain⟨k,rfl⟩:=Nat.le.dest h;rw[Ni];have a:=tE i;have b:=tE k
 calc pw i=pw i*1:=by rw[Int.mul_one]
  _<=pw i*pw k:=alF (by omega) (by omega)
def eu:bH 0=[]:=by rw[bH];rfl
def qP {n:Nat} (h:n≠0):bH n=((n % 1048576:Nat):Int)::bH (n / 1048576):=by rw[bH,dif_neg h]
def xQ {n:Nat} : bH n=[]↔n=0:=by
 constructor
 ·intro h;rcases ajO n with a|a
  ·exact a
  ·rw[qP (by omega)]at h;cases h
 ·rintro rfl;exact eu
def cW:∀n:Nat,dv (bH n)=n:=by
 intro n
 induction n using Nat.strongRecOn with
 | _ n b =>
  rcases ajO n with a|a
  ·subst a;rw[eu];rfl
  ·rw[qP (by omega),dv,b (n / 1048576) (by omega)];omega
def fJ:∀n:Nat,Dg (bH n):=by
 intro n
 induction n using Nat.strongRecOn with
 | _ n c =>
  rcases ajO n with b|b
  ·subst b;rw[eu];intro d a;cases a
  ·rw[qP (by omega)];intro d a;rcases ajF.1 a with rfl|a
   ·omega
   ·exact c (n / 1048576) (by omega) d a
def Dg.nil:Dg []:=fun d a=>by cases a
def Dg.cons {d:Int} {l:List Int} (h:Dg (d::l)):(0<=d∧d<1048576)∧Dg l:=⟨h d akU,fun x a=>h x (akV _ a)⟩
def Dg.mk {d:Int} {l:List Int} (h:0<=d∧d<1048576) (b:Dg l):Dg (d::l):=fun x a=>by
 rcases ajF.1 a with rfl|a
 ·exact h
 ·exact b x a
def Dg.append {l m:List Int} (h:Dg l) (a:Dg m):Dg (l++m):=fun x b=>(akT.1 b).elim (h x) (a x)
def Dg.take {l:List Int} (h:Dg l) (n:Nat):Dg (l.take n):=fun x a=>h x (akb a)
def Dg.drop {l:List Int} (h:Dg l) (n:Nat):Dg (l.drop n):=fun x a=>h x (aj9 a)
def Dg.rep (n:Nat):Dg (List.replicate n 0):=fun x a=>by simp_all
def Dg.set {l:List Int} (h:Dg l) (i:Nat) {x:Int} (b:0<=x∧x<1048576):Dg (l.set i x):=fun y a=>by
 rcases List.mem_or_eq_of_mem_set a with a|rfl
 ·exact h y a
 ·exact b
def Dg.get {l:List Int} (h:Dg l) {i:Nat} (a:i<l.length):0<=l[i]∧l[i]<1048576:=h _ (ajK a)
def ew:∀ {l:List Int},Dg l->0<=dv l
 | [],_=>Int.le_refl _
 | d::l,h=>by
  have a:=h.cons;have:=ew a.2;simp only[dv];omega
def uc:∀ {l:List Int},Dg l->dv l<pw l.length
 | [],_=>by simp[dv,uu]
 | d::l,h=>by
  have a:=h.cons;have:=uc a.2;simp only[dv,List.length_cons,mA];omega
def l9:∀l m:List Int,dv (l++m)=dv l+pw l.length*dv m
 | [],m=>by simp[dv,uu]
 | d::l,m=>by
  rw[alh,dv,dv,l9 l m,akf,mA,alG,Int.mul_assoc];omega
def F3:∀n:Nat,dv (List.replicate n 0)=0
 | 0=>rfl
 | n+1=>by rw[akl,dv,F3 n];rfl
def ma {l:List Int} {i:Nat} (h:i<l.length):dv (l.take (i+1))=dv (l.take i)+pw i*l[i]:=by
 have e:l.take (i+1)=l.take i++[l[i]]:=by simp_all
 rw[e,l9,ajP,alw (by omega)];simp[dv]
def lD (l:List Int) {i:Nat} (h:i<=l.length):dv l=dv (l.take i)+pw i*dv (l.drop i):=by
 have:=l9 (l.take i) (l.drop i);simp_all
def xV {l:List Int} {i:Nat} (h:i<l.length) (x:Int):dv (l.set i x)=dv l+pw i*(x-l[i]):=by
 induction l generalizing i with
 | nil=>simp at h
 | cons d l a =>
  cases i with
  | zero=>simp only[List.set_cons_zero,dv,uu,List.getElem_cons_zero];omega
  | succ i =>
   have:=a (i:=i) (by simpa using h);simp only[List.set_cons_succ,dv,this,mA,List.getElem_cons_succ,alG,Int.mul_assoc];omega
def E2:∀ {l:List Int},Dg l->(∀h:l≠[],l.getLast h≠0)->bH (dv l).toNat=l
 | [],_,_=>by simp[dv,eu]
 | d::l,h,n=>by
  have a:=h.cons;have o:=ew a.2;have b:(dv (d::l)).toNat≠0:=by
   simp only[dv];intro p;have c:d=0:=by omega
   have g:dv l=0:=by omega
   cases l with
   | nil=>simp_all
   | cons e m =>
    have f:=E2 a.2 (fun i=>by simp_all);rw[g]at f;simp[eu]at f
  rw[qP b];have j:(dv (d::l)).toNat % 1048576=d.toNat:=by simp only[dv];omega
  have k:(dv (d::l)).toNat / 1048576=(dv l).toNat:=by simp only[dv];omega
  rw[j,k];have c:(d.toNat:Int)=d:=by omega
  rw[c];cases l with
  | nil=>simp[dv,eu]
  | cons e m=>rw[E2 a.2 (fun i=>by simp_all)]
def Xw:∀(n:Nat) (h:bH n≠[]),(bH n).getLast h≠0:=by
 intro n
 induction n using Nat.strongRecOn with
 | _ n d =>
  intro h;have b:n≠0:=fun a=>h (xQ.2 a);have e:=qP b
  by_cases hq:n / 1048576=0
  ·have:bH n=[((n % 1048576:Nat):Int)]:=by rw[e,hq,eu]
   grind
  ·have c:bH (n / 1048576)≠[]:=fun a=>hq (xQ.1 a);grind
def aae {a b:Nat} (h:bH a=bH b):a=b:=by
 have:=congrArg dv h;rw[cW,cW]at this;omega
def oe {n k:Nat} (h:(n:Int)<pw k):(bH n).length<=k:=by
 induction k generalizing n with
 | zero =>
  rw[uu]at h;have:n=0:=by omega
  rw[this,eu];simp
 | succ k b =>
  by_cases a:n=0
  ·rw[a,eu];simp
  ·rw[qP a,akf];rw[mA]at h;grind
def lJ (n:Nat):(n:Int)<pw (bH n).length:=by
 have:=uc (fJ n)
 rwa [cW]at this
def Bq {n:Nat} (h:n≠0):pw ((bH n).length-1)<=n∧0<(bH n).length:=by
 induction n using Nat.strongRecOn with
 | _ n b =>
  rw[qP h,akf];refine⟨?_,by omega⟩
  by_cases a:n / 1048576=0
  ·rw[a,eu];simp[uu];omega
  ·obtain⟨c,d⟩:=b (n / 1048576) (by omega) a;have:(bH (n / 1048576)).length+1-1=((bH (n / 1048576)).length-1)+1:=by omega
   rw[this,mA];omega
def xF {x:Int} (b : -9223372036854775808<=x) (c:x<9223372036854775808):mX .and .i64 x 1048575=x % 1048576:=by
 unfold mX;simp only;have a:(BitVec.ofInt IntKind.i64.bits x &&& BitVec.ofInt IntKind.i64.bits 1048575).toNat=((x % 18446744073709551616).toNat) % 1048576:=by
  rw[BitVec.toNat_and,BitVec.toNat_ofInt,BitVec.toNat_ofInt];have e:((1048575:Int) % ((2 ^ IntKind.i64.bits:Nat):Int)).toNat=2 ^ 20-1:=by decide
  rw[e,alH];rfl
 rw[a,wrap64 (by omega) (by omega)];omega
def ac1 {x:Int} (b : -9223372036854775808<=x) (c:x<9223372036854775808):mX .and .i64 x 1=x % 2:=by
 unfold mX;simp only;have a:(BitVec.ofInt IntKind.i64.bits x &&& BitVec.ofInt IntKind.i64.bits 1).toNat=((x % 18446744073709551616).toNat) % 2:=by
  rw[BitVec.toNat_and,BitVec.toNat_ofInt,BitVec.toNat_ofInt];have e:((1:Int) % ((2 ^ IntKind.i64.bits:Nat):Int)).toNat=2 ^ 1-1:=by decide
  rw[e,alH];rfl
 rw[a,wrap64 (by omega) (by omega)];omega
def RX (x:Int):AY .i64 x 20=some (x / 1048576):=by
 unfold AY;rw[if_neg (by decide)];have e:(2:Int) ^ (min (Int.toNat 20) IntKind.i64.bits)=1048576:=by decide
 grind
def ab1 {x:Int} (a:0<=x) (h:x<8796093022208):I7 .i64 x 20=some (1048576*x):=by
 unfold I7;rw[if_neg (by decide)];have e:(2:Int) ^ (min (Int.toNat 20) IntKind.i64.bits)=1048576:=by decide
 rw[e,wrap64 (by omega) (by omega),Int.mul_comm]
def TW {x y:Int} (d:0<=x) (h:x<8796093022208) (f:0<=y∧y<1048576):mX .or .i64 (1048576*x) y=1048576*x+y:=by
 unfold mX;simp only;have a:(BitVec.ofInt IntKind.i64.bits (1048576*x) ||| BitVec.ofInt IntKind.i64.bits y).toNat=1048576*x.toNat+y.toNat:=by
  rw[BitVec.toNat_or,BitVec.toNat_ofInt,BitVec.toNat_ofInt];have e:((2 ^ IntKind.i64.bits:Nat):Int)=18446744073709551616:=by decide
  rw[e];have b:((1048576*x) % 18446744073709551616).toNat=x.toNat <<< 20:=by omega
  have c:(y % 18446744073709551616).toNat=y.toNat:=by omega
  rw[b,c,<- Nat.shiftLeft_add_eq_or_of_lt (by omega),Nat.shiftLeft_eq];omega
 rw[a,wrap64 (by omega) (by omega)];omega
def mk0 {n:Nat} (h:n<=17592186044416):Iv 8 (n:Int) (n:Int) (0:Int)=some (List.replicate n 0):=by
 unfold Iv;rw[if_pos]
 ·simp
 ·have:(17592186044416:Int)<=maxLen:=by decide
  omega
def Fv {l m:List Int} (h:l.length+m.length<=17592186044416):pE 8 l m=some (l++m):=by
 unfold pE;have:(17592186044416:Nat)<=maxLen:=by decide
 grind
def eE {σ ρ:Type} {body:σ->Option (σ⊕ρ)} (I:Nat->σ->Prop) (n:Nat) (Q:ρ->Prop) {s:σ} (c:I 0 s) (m:n+1<FU)
  (a:∀i s,i<=n->I i s->(i<n∧∃b,body s=some (.inl b)∧I (i+1) b)∨(∃r,body s=some (.inr r)∧Q r)):∃r,aS body s=some r∧Q r:=by
 have key:∀(k i:Nat) (s:σ),i<=n->n-i<k->I i s->∃r,rL body k s=some r∧Q r:=by
  intro k
  induction k with
  | zero=>omega
  | succ k f =>
   intro i s g o c;rcases a i s g c with⟨h,b,d,e⟩|⟨r,d,e⟩
   ·obtain⟨r,j,l⟩:=f (i+1) b (by omega) (by omega) e;exact⟨r,by simp only[rL,d];exact j,l⟩
   ·exact⟨r,by simp only[rL,d],e⟩
 exact key FU 0 s (ajA _) (by omega) c
def adS (i:Nat) (x:Int):pw (i+1)*x=pw i*(1048576*x):=by rw[mA,Int.mul_comm 1048576 (pw i),Int.mul_assoc]
def Df (i:Nat) (t:Int):pw i*(t % 1048576)+pw (i+1)*(t / 1048576)=pw i*t:=by
 rw[adS,<- alG];congr 1;omega
def ng {n:Nat} (h:n<=17592186044416):n+1<FU:=by unfold FU;omega
abbrev Fit (l:List Int):Prop:=l.length<=17592186044416
def mG {x:Int} (h : -4611686018427387904<=x∧x<=4611686018427387904):IntKind.i64.wrap x=x:=wrap64 (by omega) (by omega)
def yz {α:Type} (o:Option α):(o.bind fun r=>some r)=o:=by cases o<;>rfl
def YN {l:List Int} (b:Fit l):∃r,aS (qM l) (l.length:Int)=some r∧∃k:Nat,r=k∧k<=l.length∧(∀j (c:j<l.length),k<=j->l[j]=0)∧(∀h:0<k,∀d:k-1<l.length,l[k-1]≠0):=by
 unfold Fit at b;refine eE (I:=fun i s=>s=((l.length-i:Nat):Int)∧(∀j (c:j<l.length),l.length-i<=j->l[j]=0)) l.length _ ⟨rfl,fun j c h=>by omega⟩ (ng b) ?_;rintro i s m ⟨rfl,f⟩;generalize d:l.length-i=k at *;simp only[qM]
 by_cases g:0<k
 ·have a:k-1<l.length:=by omega
  have e:IntKind.i64.wrap ((k:Int)-1)=((k-1:Nat):Int):=by rw[mG (by omega)];omega
  rw[if_pos (by simp;omega),e,ej a,akZ]
  by_cases n:l[k-1]=0
  ·left;grind
  grind
 ·right;exact⟨_,by simp_all,k,rfl,by omega,f,fun h=>absurd h g⟩
def aaz {l:List Int} {k:Nat} (b:∀j (c:j<l.length),k<=j->l[j]=0):dv (l.drop k)=0:=by
 have:l.drop k=List.replicate (l.drop k).length 0:=by
  refine List.eq_replicate_of_mem fun x a =>?_;obtain⟨i,d,rfl⟩:=List.mem_iff_getElem.1 a;simp_all
 rw[this,F3]
def Cg {l:List Int} (c:Fit l) (d:Dg l):fD l=some (bH (dv l).toNat):=by
 obtain⟨r,e,k,rfl,b,f,a⟩:=YN c;unfold fD;rw[e,akZ,ad9 b,akZ];congr 1;have g:dv l=dv (l.take k):=by rw[lD l b,aaz f];omega
 rw[g];refine (E2 (d.take k) fun h =>?_).symm;grind
def Fc {l:List Int} {n:Nat} (a:Fit l) (b:Dg l) (c:dv l=n):fD l=some (bH n):=by
 rw[Cg a b,c];rfl
def gd (l:List Int) (i:Nat):Int:=if h:i<l.length then l[i] else 0
def VJ {l:List Int} (h:Dg l) (i:Nat):0<=gd l i∧gd l i<1048576:=by
 unfold gd;split
 ·exact h.get _
 ·omega
def BL {l:List Int} (i:Nat):dv (l.take (i+1))=dv (l.take i)+pw i*gd l i:=by
 unfold gd;split
 ·exact ma _
 ·rw[akN (by omega),akN (by omega)];simp
def Gw {l:List Int} {i:Nat} (h:l.length<=i):dv (l.take i)=dv l:=by rw[akN h]
def ZD {a b:List Int} (w:Dg a) (y:Dg b) (D:a.length<17592186044416) (g:b.length<=a.length) :
  ∃r,aS (sR a b) (0,0,List.replicate (a.length+1) 0)=some r∧r.2.length=a.length+1∧Dg r.2∧(∀j (f:j<r.2.length),a.length<=j->r.2[j]=0)∧(0<=r.1∧r.1<=1)∧dv r.2+pw a.length*r.1=dv a+dv b:=by
 refine eE (I:=fun i s=>s.2.1=(i:Int)∧s.2.2.length=a.length+1∧Dg s.2.2∧(∀j (f:j<s.2.2.length),i<=j->s.2.2[j]=0)∧(0<=s.1∧s.1<=1)∧dv s.2.2+pw i*s.1=dv (a.take i)+dv (b.take i))
  a.length _ ⟨rfl,by simp,Dg.rep _,fun j f _=>by simp,by simp,by simp[F3,dv]⟩ (ng (by omega)) ?_
 rintro i ⟨c,s,l⟩ E ⟨t,k,m,hz,u,v⟩;simp only at t k m hz u v;subst t;simp only[sR]
 by_cases d:i<a.length
 ·left;rw[if_pos (by simpa using d),ej d,akZ];have F:=w.get d;have z:=VJ y i;have A:(if decide ((i:Int)<(b.length:Int))=true then (P.idx b (i:Int)).bind fun n=>some (IntKind.i64.wrap ((IntKind.i64.wrap (c+a[i]))+n)) else some (IntKind.i64.wrap (c+a[i])))=some (c+a[i]+gd b i):=by
   by_cases e:i<b.length
   ·rw[if_pos (by simpa using e),ej e,akZ];have:gd b i=b[i]:=by unfold gd;rw[dif_pos e]
    rw[this]at z ⊢;rw[mG (x:=c+a[i]) (by omega),mG (by omega)]
   ·rw[if_neg (by simpa using e)];have:gd b i=0:=by unfold gd;rw[dif_neg e]
    rw[this,mG (by omega)];simp
  rw[A,akZ,ej (by omega),akZ,RX,akZ,xF (by omega) (by omega)];have o:l[i]=0:=hz i (by omega) (ajz _);have B:IntKind.i64.wrap ((i:Int)+1)=((i+1:Nat):Int):=by rw[mG (by omega)];omega
  refine⟨d,_,rfl,B,by simpa using k,m.set _ (by omega),fun j f C =>?_,by simp only;omega,?_⟩
  ·grind
  ·simp only[Int.toNat_natCast];rw[xV (by omega),o,BL,BL];have p:gd a i=a[i]:=by unfold gd;rw[dif_pos d]
   rw[p];have G:=Df i (c+a[i]+gd b i);grind
 ·right;have q:i=a.length:=by omega
  subst q;refine⟨_,by rw[if_neg (by simp)],k,m,fun j f h=>hz j f h,u,?_⟩;rw[v,Gw (ajz _),Gw g]
def add_eq {a b:List Int} (k:Dg a) (m:Dg b) (g:a.length<17592186044416) (s:b.length<17592186044416):tZ a b=some (bH (dv a+dv b).toNat):=by
 have n:∀ {a b:List Int},Dg a->Dg b->a.length<17592186044416->b.length<=a.length ->
   ((Iv 8 (IntKind.i64.wrap ((a.length:Int)+1)) (IntKind.i64.wrap ((a.length:Int)+1)) 0).bind fun t =>
    (aS (sR a b) (0,0,t)).bind fun q=>match q with
    | (h,d) =>
     (P.idx d (a.length:Int)).bind fun u =>
     (fD (d.set ((a.length:Int)).toNat h)).bind fun i =>
     some i)=some (bH (dv a+dv b).toNat):=by
  intro a b k m g j;have e:IntKind.i64.wrap ((a.length:Int)+1)=((a.length+1:Nat):Int):=by rw[mG (by omega)];omega
  rw[e,mk0 (by omega),akZ];obtain⟨⟨c,l⟩,v,w,o,p,x,r⟩:=ZD k m g j;rw[v];simp only[Option.bind_some]at w o p x r ⊢;have f:a.length<l.length:=by omega
  rw[ej f,akZ,akp,yz];have y:dv (l.set a.length c)=dv a+dv b:=by
   rw[xV f,p _ f (ajz _),Int.sub_zero,r]
  rw[Cg (by simp[Fit];omega) (o.set _ (by omega)),y]
 unfold tZ;grind
def xN {l:List Int} (h:Fit l):cc l=some l:=by
 unfold cc;rw[Fv (by simpa using h),ak6]
def aaV {l:List Int} {i:Nat} (h:i<l.length):gd l i=l[i]:=by unfold gd;rw[dif_pos h]
def aaU {l:List Int} {i:Nat} (h:l.length<=i):gd l i=0:=by unfold gd;grind
def aci {a b:List Int} (t:Dg a) (w:Dg b) (y:Fit a) (m:b.length<=a.length) (z:dv b<=dv a) :
  ∃l,aS (wc b a) (0,0,a)=some l∧l.length=a.length∧Dg l∧dv l=dv a-dv b:=by
 unfold Fit at y;refine eE (I:=fun i s=>s.2.1=(i:Int)∧s.2.2.length=a.length∧Dg s.2.2∧(∀j (u:j<s.2.2.length) (n:j<a.length),i<=j->s.2.2[j]=a[j])∧(0<=s.1∧s.1<=1)∧dv s.2.2+dv (b.take i)=dv a+pw i*s.1)
  a.length _ ⟨rfl,rfl,t,fun j u _ _=>rfl,by simp,by simp[dv]⟩ (ng (by omega)) ?_
 rintro i ⟨c,s,l⟩ G ⟨g,h,k,o,A,v⟩;simp only at g h k o A v;subst g;simp only[wc]
 by_cases d:i<a.length
 ·left;have e:i<l.length:=by omega
  rw[if_pos (by simpa using d),ej e,akZ,o i e d (ajz _)];have H:=t.get d;have B:=VJ w i;have C:(if decide ((i:Int)<(b.length:Int))=true then (P.idx b (i:Int)).bind fun p=>some (IntKind.i64.wrap ((IntKind.i64.wrap (a[i]-c))-p)) else some (IntKind.i64.wrap (a[i]-c)))=some (a[i]-c-gd b i):=by
   by_cases f:i<b.length
   ·rw[if_pos (by simpa using f),ej f,akZ];rw[aaV f]at B ⊢;rw[mG (x:=a[i]-c) (by omega),mG (by omega)]
   ·rw[if_neg (by simpa using f),aaU (by omega),mG (by omega)];simp
  rw[C,akZ,RX,akZ,xF (by omega) (by omega),ac1 (by omega) (by omega)];have D:IntKind.i64.wrap ((i:Int)+1)=((i+1:Nat):Int):=by rw[mG (by omega)];omega
  refine⟨d,_,rfl,D,by simpa using h,k.set _ (by omega),fun j u n E =>?_,by simp only;omega,?_⟩
  ·grind
  ·simp only[Int.toNat_natCast];rw[xV e,o i e d (ajz _),BL];have J:=Df i (a[i]-c-gd b i);have F:(a[i]-c-gd b i) / 1048576 % 2 = - ((a[i]-c-gd b i) / 1048576):=by omega
   grind
 ·right;have q:i=a.length:=by omega
  subst q;refine⟨l,by simp_all,h,k,?_⟩;rw[Gw m]at v;have g:=uc k;rw[h]at g;have r:c=0:=by
   grind
  subst r;omega
def sub_eq {a b:List Int} (f:Dg a) (g:Dg b) (e:Fit a) (c:b.length<=a.length) (d:dv b<=dv a):ua a b=some (bH (dv a-dv b).toNat):=by
 obtain⟨l,h,k,i,j⟩:=aci f g e c d;unfold ua;rw[xN e,akZ,h,akZ,yz,Cg (by omega) i,j]
def qG {l:List Int} {i:Nat} (h:i<l.length):dv (l.drop i)=l[i]+1048576*dv (l.drop (i+1)):=by
 rw[alo h,dv]
def agV {x d:Int} (h:0<=x) (a:0<d) (b:x<4611686018427387904):XB .i64 x d=some (x / d):=by
 unfold XB;rw[if_neg (by omega),Int.tdiv_eq_ediv_of_nonneg h,mG];have:=alI h (Int.le_of_lt a);have:=Int.ediv_le_self d h;omega
def ag8 {x d:Int} (h:0<=x) (a:0<d):Yk .i64 x d=some (x % d):=by
 unfold Yk;grind
def T7 {a:List Int} {d:Int} (t:Dg a) (e:0<d∧d<=1048576) (u:Fit a) :
  ∃r,aS (sb a d) (0,IntKind.i64.wrap ((a.length:Int)-1),List.replicate a.length 0)=some r∧r.2.length=a.length∧Dg r.2∧(0<=r.1∧r.1<d)∧dv a=d*dv r.2+r.1:=by
 unfold Fit at u;have v:IntKind.i64.wrap ((a.length:Int)-1)=(a.length:Int)-1:=mG (by omega);rw[v];refine eE (I:=fun i s=>s.2.1=((a.length-i:Nat):Int)-1∧s.2.2.length=a.length∧Dg s.2.2∧(0<=s.1∧s.1<d)∧dv (a.drop (a.length-i))=d*dv (s.2.2.drop (a.length-i))+s.1)
  a.length _ ⟨rfl,by simp,Dg.rep _,by simp;omega,by simp[dv]⟩ (ng (by omega)) ?_
 rintro i ⟨r,s,l⟩ z ⟨n,o,p,w,q⟩;simp only at n o p w q;subst n;generalize A:a.length-i=k at *;simp only[sb]
 by_cases B:0<k
 ·left;have b:k-1<a.length:=by omega
  have c:k-1<l.length:=by omega
  have x:((k:Int)-1)=((k-1:Nat):Int):=by omega
  have y:=t.get b;rw[x,if_pos (by simp),ab1 (by omega) (by omega),akZ,ej b,akZ,TW (by omega) (by omega) y,agV (by omega) e.1 (by omega),akZ,ej c,akZ,ag8 (by omega) e.1,akZ];have C:IntKind.i64.wrap (((k-1:Nat):Int)-1)=((k-1:Nat):Int)-1:=mG (by omega);have f:0<=1048576*r+a[k-1]:=by omega
  have g:0<=(1048576*r+a[k-1]) / d:=alI f (by omega);have h:(1048576*r+a[k-1]) / d<1048576:=by
   apply alJ e.1;omega
  have j:=Int.emod_nonneg (1048576*r+a[k-1]) (show d≠0 by omega);have m:=alK (1048576*r+a[k-1]) e.1;refine⟨by omega,_,rfl,by grind,by simpa using o,p.set _ ⟨g,h⟩,⟨j,m⟩,?_⟩;simp only[Int.toNat_natCast];rw[show a.length-(i+1)=k-1 by omega,qG b,qG (l:=l.set (k-1) _) (i:=k-1) (by simpa using c),show k-1+1=k by omega,List.getElem_set_self,List.drop_set_of_lt (by omega),q];have:=alL (1048576*r+a[k-1]) d;grind
 simp_all
def RW {a:List Int} {d:Int} (g:Dg a) (h:0<d∧d<=1048576) (e:Fit a):pV a d=some (bH (dv a / d).toNat,dv a % d):=by
 obtain⟨⟨r,l⟩,i,j,f,b,c⟩:=T7 g h e;unfold pV;rw[mk0 e,akZ,i,akZ];simp only at j f b c ⊢;rw[Cg (by omega) f,akZ];have k:dv a / d=dv l:=by
  rw[c,Int.mul_comm,Int.add_comm,Int.add_mul_ediv_right _ _ (by omega),Int.ediv_eq_zero_of_lt b.1 b.2];omega
 have m:dv a % d=r:=by
  rw[c,Int.mul_comm,Int.add_comm,Int.add_mul_emod_self_right];exact Int.emod_eq_of_lt b.1 b.2
 rw[k,m]
def Ym {b l0:List Int} {x:Int} {i n:Nat} (p:Dg b) (q:0<=x∧x<1048576) (t:Dg l0) (u:l0.length=n) (F:i+b.length<n) (G:n<=17592186044416) (e:∀j (f:j<l0.length),i+b.length<=j->l0[j]=0) :
  ∃r,aS (wb b (i:Int) x) (0,0,l0)=some r∧r.2.length=n∧Dg r.2∧(0<=r.1∧r.1<1048576)∧(∀j (f:j<r.2.length),i+b.length<=j->r.2[j]=0)∧dv r.2+pw (i+b.length)*r.1=dv l0+pw i*(x*dv b):=by
 refine eE (I:=fun k s=>s.2.1=(k:Int)∧s.2.2.length=n∧Dg s.2.2∧(0<=s.1∧s.1<1048576)∧(∀j (f:j<s.2.2.length),i+b.length<=j->s.2.2[j]=0)∧dv s.2.2+pw (i+k)*s.1=dv l0+pw i*(x*dv (b.take k)))
  b.length _ ⟨rfl,u,t,by simp,e,by simp[dv]⟩ (ng (by omega)) ?_
 rintro k ⟨c,s,l⟩ H ⟨h,m,g,v,e,w⟩;simp only at h m g v e w;subst h;simp only[wb]
 by_cases a:k<b.length
 ·left;have d:i+k<l.length:=by omega
  have y:IntKind.i64.wrap ((i:Int)+(k:Int))=((i+k:Nat):Int):=by rw[mG (by omega)];omega
  have o:=p.get a;have J:=g.get d;have z:0<=x*b[k]:=alM q.1 o.1;have A:x*b[k]<=1048575*1048575:=Int.mul_le_mul (by omega) (by omega) o.1 (by omega);rw[if_pos (by simpa using a),ej a,akZ,y,ej d,akZ,mG (x:=x*b[k]) (by omega),mG (x:=l[i+k]+x*b[k]) (by omega),mG (x:=l[i+k]+x*b[k]+c) (by omega),RX,akZ,xF (by omega) (by omega)];have B:IntKind.i64.wrap ((k:Int)+1)=((k+1:Nat):Int):=by rw[mG (by omega)];omega
  refine⟨a,_,rfl,B,by simpa using m,g.set _ (by omega),by simp only;omega,fun j f C =>?_,?_⟩
  ·grind
  ·simp only[Int.toNat_natCast];rw[xV d,ma a];have D:=Df (i+k) (l[i+k]+x*b[k]+c);rw[alG (pw (i+k)),alG (pw (i+k))]at D;have K:pw i*(x*(dv (b.take k)+pw k*b[k]))=pw i*(x*dv (b.take k))+pw (i+k)*(x*b[k]):=by
    rw[alG,alG,Ni];grind
   grind
 ·right;have E:k=b.length:=by omega
  simp_all
def Yl {a b:List Int} (w:Dg a) (y:Dg b) (z:a.length+b.length<=17592186044416) :
  ∃l,aS (wa a b) (0,List.replicate (a.length+b.length) 0)=some l∧l.length=a.length+b.length∧Dg l∧dv l=dv a*dv b:=by
 refine eE (I:=fun i s=>s.1=(i:Int)∧s.2.length=a.length+b.length∧Dg s.2∧(∀j (g:j<s.2.length),i+b.length<=j->s.2[j]=0)∧dv s.2=dv (a.take i)*dv b)
  a.length _ ⟨rfl,by simp,Dg.rep _,fun j g _=>by simp,by simp[dv,F3]⟩ (ng (by omega)) ?_
 rintro i ⟨s,l⟩ F ⟨h,k,o,p,q⟩;simp only at h k o p q;subst h;simp only[wa]
 by_cases d:i<a.length
 ·left;have A:=w.get d;obtain⟨⟨c,m⟩,B,r,t,u,f,v⟩:=Ym (i:=i) (n:=a.length+b.length) y A o k (by omega) z p;rw[if_pos (by simpa using d),ej d,akZ,B,akZ];simp only at r t u f v ⊢;have C:IntKind.i64.wrap ((i:Int)+(b.length:Int))=((i+b.length:Nat):Int):=by rw[mG (by omega)];omega
  have e:i+b.length<m.length:=by omega
  rw[C,ej e,akZ,f _ e (ajz _),Int.zero_add,mG (x:=c) (by omega)];have D:IntKind.i64.wrap ((i:Int)+1)=((i+1:Nat):Int):=by rw[mG (by omega)];omega
  refine⟨d,_,rfl,D,by simpa using r,t.set _ u,fun j g E =>?_,?_⟩
  ·grind
  ·simp only[Int.toNat_natCast];rw[xV e,f _ e (ajz _),Int.sub_zero,v,q,ma d,Int.add_mul,Int.mul_assoc]
 grind
def mul_eq {a b:List Int} (d:Dg a) (f:Dg b) (c:a.length+b.length<=17592186044416):sa a b=some (bH (dv a*dv b).toNat):=by
 obtain⟨l,g,j,h,i⟩:=Yl d f c;unfold sa;have e:IntKind.i64.wrap ((a.length:Int)+(b.length:Int))=((a.length+b.length:Nat):Int):=by rw[mG (by omega)];omega
 rw[e,mk0 c,akZ,g,akZ,yz,Cg (by unfold Fit;omega) h,i]
def l7 (x y:Int):Int:=if x<y then -1 else if y<x then 1 else 0
def Cq (x y:Int):gT x y=some (l7 x y):=by
 unfold gT sw l7;grind
def OT {a b:List Int} (h:Dg a) (j:Dg b) (l:Fit a) (w:a.length=b.length):iz a b=some (l7 (dv a) (dv b)):=by
 unfold Fit at l;unfold iz;rw[if_neg (by simp;omega)];have p:IntKind.i64.wrap ((a.length:Int)-1)=(a.length:Int)-1:=mG (by omega);rw[p];have key:∃r,aS (oR a b) ((a.length:Int)-1)=some r∧(match r with | .inl _=>l7 (dv a) (dv b)=0 | .inr x=>x=l7 (dv a) (dv b)):=by
  refine eE (I:=fun i s=>s=((a.length-i:Nat):Int)-1∧a.drop (a.length-i)=b.drop (a.length-i)) a.length _ ⟨rfl,?_⟩ (ng l) ?_
  ·simp_all
  rintro i s y ⟨rfl,c⟩;generalize z:a.length-i=k at *;simp only[oR]
  by_cases A:0<k
  ·have e:k-1<a.length:=by omega
   have f:k-1<b.length:=by omega
   have q:((k:Int)-1)=((k-1:Nat):Int):=by omega
   rw[q,if_pos (by simp),ej e,akZ,ej f,akZ]
   by_cases d:a[k-1]=b[k-1]
   ·left;rw[if_neg (by simpa using d)];refine⟨by omega,_,rfl,by rw[mG (by omega)];omega,?_⟩;rw[show a.length-(i+1)=k-1 by omega,alo e,alo f,d,show k-1+1=k by omega,c]
   ·right;rw[if_pos (by simpa using d),Cq,akZ];refine⟨_,rfl,?_⟩;simp only;have m:=lD a (i:=k) (by omega);have t:=lD b (i:=k) (by omega);have n:=ma e;have o:=ma f;rw[show k-1+1=k by omega]at n o;have u:=uc (h.take (k-1));have v:=uc (j.take (k-1));rw[ajP,alw (by omega)]at u v;have B:=ew (h.take (k-1));have C:=ew (j.take (k-1));have D:=tE (k-1);rw[n]at m;rw[o]at t;rw[c]at m;unfold l7;rcases Int.lt_or_gt_of_ne d with g|g
    ·have:pw (k-1)*a[k-1]+pw (k-1)<=pw (k-1)*b[k-1]:=by
      have:pw (k-1)*(a[k-1]+1)<=pw (k-1)*b[k-1]:=alF (by omega) (by omega);grind
     omega
    ·have:pw (k-1)*b[k-1]+pw (k-1)<=pw (k-1)*a[k-1]:=by
      have:pw (k-1)*(b[k-1]+1)<=pw (k-1)*a[k-1]:=alF (by omega) (by omega);grind
     omega
  ·right;have:k=0:=by omega
   subst this;refine⟨.inl (),by simp_all,?_⟩;simp only[akO]at c;simp[c,l7]
 grind
def xP {m n:Nat} (h:(bH m).length<(bH n).length):m<n:=by
 have c:=lJ m;have a:n≠0:=fun b=>by subst b;rw[eu]at h;simp at h
 have d:=Bq a;have e:=wH (i:=(bH m).length) (j:=(bH n).length-1) (by omega);omega
def gM {m n:Nat} (h:m<=n):(bH m).length<=(bH n).length:=by
 rcases akc (bH n).length (bH m).length with h1|h1
 ·have:=xP h1;omega
 ·exact h1
def Ak {m n:Nat} (b:Fit (bH m)) (c:Fit (bH n)):iz (bH m) (bH n)=some (l7 m n):=by
 by_cases a:(bH m).length=(bH n).length
 ·rw[OT (fJ m) (fJ n) b a,cW,cW]
 ·unfold iz;rw[if_pos (by simp;omega),Cq,yz];unfold l7;rcases Nat.lt_or_gt_of_ne a with h|h
  ·have:=xP h;simp_all
  ·have:=xP h;grind
def Np {u v:List Int} {g:Int} (w:Dg u) (B:Dg v) (C:0<=g∧g<=1048576) (D:Fit u) (E:v.length<=u.length) :
  ∃r,aS (nC u v g) (0,0,u)=some r∧r.2.length=u.length∧Dg r.2∧(0<=r.1∧r.1<=1048576)∧dv r.2+g*dv v=dv u+pw u.length*r.1:=by
 unfold Fit at D;refine eE (I:=fun i s=>s.2.1=(i:Int)∧s.2.2.length=u.length∧Dg s.2.2∧(∀j (y:j<s.2.2.length) (f:j<u.length),i<=j->s.2.2[j]=u[j])∧(0<=s.1∧s.1<=1048576)∧dv s.2.2+g*dv (v.take i)=dv u+pw i*s.1)
  u.length _ ⟨rfl,rfl,w,fun j y _ _=>rfl,by simp,by simp[dv]⟩ (ng (by omega)) ?_
 rintro i ⟨c,s,l⟩ J ⟨z,e,h,k,A,m⟩;simp only at z e h k A m;subst z;simp only[nC]
 by_cases a:i<u.length
 ·left;have b:i<l.length:=by omega
  rw[if_pos (by simpa using a),ej b,akZ,k i b a (ajz _)];have K:=w.get a;have n:=VJ B i;have o:0<=g*gd v i:=alM C.1 n.1;have p:g*gd v i<=1048576*1048575:=Int.mul_le_mul (by omega) (by omega) n.1 (by omega);have F:(if decide ((i:Int)<(v.length:Int))=true then (P.idx v (i:Int)).bind fun q=>some (IntKind.i64.wrap ((IntKind.i64.wrap (u[i]-c))-(IntKind.i64.wrap (g*q)))) else some (IntKind.i64.wrap (u[i]-c)))=some (u[i]-c-g*gd v i):=by
   by_cases d:i<v.length
   ·rw[if_pos (by simpa using d),ej d,akZ];rw[aaV d]at n o p ⊢;rw[mG (x:=u[i]-c) (by omega),mG (x:=g*v[i]) (by omega),mG (by omega)]
   ·rw[if_neg (by simpa using d),aaU (by omega),mG (by omega)];simp
  rw[F,akZ,RX,akZ,xF (by omega) (by omega),mG (x:=0-_) (by omega)];have G:IntKind.i64.wrap ((i:Int)+1)=((i+1:Nat):Int):=by rw[mG (by omega)];omega
  refine⟨a,_,rfl,G,by simpa using e,h.set _ (by omega),fun j y f H =>?_,by simp only;omega,?_⟩
  ·grind
  ·simp only[Int.toNat_natCast];rw[xV b,k i b a (ajz _),BL];have L:=Df i (u[i]-c-g*gd v i);grind
 ·right;have t:i=u.length:=by omega
  subst t;refine⟨(c,l),by simp_all,e,h,A,?_⟩;rw[Gw E]at m;exact m
def Nq {u v:List Int} (o:Dg u) (t:Dg v) (w:Fit u) (y:v.length<=u.length) :
  ∃l,aS (nD v u) (0,0,u)=some l∧l.length=u.length∧Dg l∧∃c,0<=c∧dv l+pw u.length*c=dv u+dv v:=by
 unfold Fit at w;refine eE (I:=fun i s=>s.2.1=(i:Int)∧s.2.2.length=u.length∧Dg s.2.2∧(∀j (p:j<s.2.2.length) (f:j<u.length),i<=j->s.2.2[j]=u[j])∧(0<=s.1∧s.1<=1)∧dv s.2.2+pw i*s.1=dv u+dv (v.take i))
  u.length _ ⟨rfl,rfl,o,fun j p _ _=>rfl,by simp,by simp[dv]⟩ (ng (by omega)) ?_
 rintro i ⟨c,s,l⟩ D ⟨q,e,g,h,r,k⟩;simp only at q e g h r k;subst q;simp only[nD]
 by_cases a:i<u.length
 ·left;have b:i<l.length:=by omega
  rw[if_pos (by simpa using a),ej b,akZ,h i b a (ajz _)];have E:=o.get a;have z:=VJ t i;have A:(if decide ((i:Int)<(v.length:Int))=true then (P.idx v (i:Int)).bind fun m=>some (IntKind.i64.wrap ((IntKind.i64.wrap (c+u[i]))+m)) else some (IntKind.i64.wrap (c+u[i])))=some (c+u[i]+gd v i):=by
   by_cases d:i<v.length
   ·rw[if_pos (by simpa using d),ej d,akZ];rw[aaV d]at z ⊢;rw[mG (x:=c+u[i]) (by omega),mG (by omega)]
   ·rw[if_neg (by simpa using d),aaU (by omega),mG (by omega)];simp
  rw[A,akZ,RX,akZ,xF (by omega) (by omega)];have B:IntKind.i64.wrap ((i:Int)+1)=((i+1:Nat):Int):=by rw[mG (by omega)];omega
  refine⟨a,_,rfl,B,by simpa using e,g.set _ (by omega),fun j p f C =>?_,by simp only;omega,?_⟩
  ·grind
  ·simp only[Int.toNat_natCast];rw[xV b,h i b a (ajz _),BL];have F:=Df i (c+u[i]+gd v i);grind
 ·right;have n:i=u.length:=by omega
  subst n;refine⟨l,by simp_all,e,g,c,r.1,?_⟩;rw[Gw y]at k;exact k
def YA {u v:List Int} {g:Int} (q:Dg u) (f:Dg v) (w:Fit u) (r:v.length<=u.length) (x:0<dv v) (y:dv u / dv v<=g) (z:g<=dv u / dv v+1) (i:g<=1048576) :
  ∃l,im u v g=some (l,dv u / dv v)∧l.length=u.length∧Dg l∧dv l=dv u % dv v:=by
 have A:0<=dv u / dv v:=alI (ew q) (by omega);obtain⟨⟨c,l⟩,B,b,e,C,D⟩:=Np q f ⟨by omega,i⟩ w r;simp only at b e C D;have L:=alL (dv u) (dv v);have E:=Int.emod_nonneg (dv u) (show dv v≠0 by omega);have F:=alK (dv u) x;have j:=uc e;have G:=ew e;rw[b]at j;have M:=tE u.length;have H:dv v<pw u.length:=Int.lt_of_lt_of_le (uc f) (wH r);unfold im sS;rw[B,akZ];simp only;rcases (show g=dv u / dv v∨g=dv u / dv v+1 by omega) with s|s
 ·have k:g*dv v=dv v*(dv u / dv v):=by grind
  have a:c=0:=by
   rcases (show c=0∨1<=c by omega) with h|h
   ·exact h
   ·have:pw u.length*1<=pw u.length*c:=alF h (by omega);omega
  grind
 ·have k:g*dv v=dv v*(dv u / dv v)+dv v:=by grind
  have a:c≠0:=by
   grind
  obtain⟨m,I,J,n,d,N,K⟩:=Nq e f (by omega) (by omega);rw[if_neg (by simpa using a),I,akZ,akZ,if_pos (by simp;omega)];refine⟨m,by rw[mG (by omega),s];simp,by omega,n,?_⟩;rw[b]at K;have o:=uc n;have t:=ew n;rw[J,b]at o;have p:c=d:=by
   rcases Int.lt_trichotomy c d with h|h|h
   ·have:pw u.length*(c+1)<=pw u.length*d:=alF (by omega) (by omega);grind
   ·exact h
   ·have:pw u.length*(d+1)<=pw u.length*c:=alF (by omega) (by omega);grind
  subst p;omega
def TF {v u:List Int} {s13:Int} {a b c T V W:Int} {n:Nat} (hn:2<=n) (e:v.length=n) (M:n<=17592186044416) (i:Nat) (N:s13=i) (O:i+n<=17592186044416)
  (p:P.idx v (((n-2:Nat)):Int)=some b) (q:P.idx u (((i+n-2:Nat)):Int)=some c)
  (b1:524288<=a∧a<1048576) (m:0<=b∧b<1048576) (Q:0<=c∧c<1048576) (t:0<=T) (R:T<1048576*1048576)
  (G:pw (n-2)*(a*1048576+b)<=V∧V<pw (n-2)*(a*1048576+b+1)) (hW:pw (n-2)*(T*1048576+c)<=W∧W<pw (n-2)*(T*1048576+c+1)) (w:W<1048576*V) :
  ∃g,aS (v8 v s13 u a) (T / a,T % a)=some g∧W / V<=g∧g<=W / V+1∧g<=1048576:=by
 subst N;have hp:=tE (n-2);have d:0<V:=by
  have:pw (n-2)*1<=pw (n-2)*(a*1048576+b):=alF (by omega) (by omega);omega
 have y:0<=W:=by
  have:0<=pw (n-2)*(T*1048576+c):=alM (by omega) (by omega);omega
 have S:0<=W / V:=alI y (by omega);have U:W / V<1048576:=alJ d w;have hm:=alL T a;have z:=Int.emod_nonneg T (show a≠0 by omega);have X:=alK T (show 0<a by omega);have Y:0<=T / a:=alI t (by omega);have A:T / a<=2097152:=by
  have:T / a<2097153:=alJ (by omega) (by
   omega)
  omega
 have Z:∀g r:Int,g*a+r=T->W / V<=g->g*b>r*1048576+c->W / V<=g-1:=by
  intro g r o B C;have j:W<g*V:=by
   have k:g*(a*1048576+b)>=T*1048576+c+1:=by
    grind
   have e2:pw (n-2)*(T*1048576+c+1)<=pw (n-2)*(g*(a*1048576+b)):=alF k (by omega);have H:g*(pw (n-2)*(a*1048576+b))<=g*V:=alF G.1 (by omega);grind
  have:=alJ d j;omega
 have D:∀g r:Int,g*a+r=T->0<=g->g<=1048576->g*b<=r*1048576+c->g<=W / V+1:=by
  intro g r o h0 hB C;have k:g*(a*1048576+b)<=T*1048576+c:=by
   grind
  have e2:g*V<=W+V:=by
   have f1:g*V<=g*(pw (n-2)*(a*1048576+b+1)):=alF (by omega) h0;have f2:g*(pw (n-2)*(a*1048576+b+1))=pw (n-2)*(g*(a*1048576+b))+pw (n-2)*g:=by
    grind
   have f3:pw (n-2)*(g*(a*1048576+b))<=pw (n-2)*(T*1048576+c):=alF k (by omega);have f4:pw (n-2)*g<=pw (n-2)*(a*1048576+b):=alF (by omega) (by omega);omega
  have H:(g-1)*V<=W:=by grind
  have:=Int.le_ediv_of_mul_le d H;omega
 have f:W / V<=T / a:=by
  have k:W<(T / a+1)*V:=by
   have f1:T+1<=(T / a+1)*a:=by
    grind
   have f2:T*1048576+c+1<=(T / a+1)*(a*1048576+b):=by
    have g1:(T+1)*1048576<=(T / a+1)*a*1048576:=alO f1 (by omega);have g2:0<=(T / a+1)*b:=alM (by omega) m.1;grind
   have f3:pw (n-2)*(T*1048576+c+1)<=pw (n-2)*((T / a+1)*(a*1048576+b)):=alF f2 (by omega);have f4:(T / a+1)*(pw (n-2)*(a*1048576+b))<=(T / a+1)*V:=alF G.1 (by omega);grind
  have:=alJ d k;omega
 refine BU (I:=fun (s:Int×Int)=>s.1*a+s.2=T∧W / V<=s.1∧s.1<=2097152∧0<=s.2) (μ:=fun (s:Int×Int)=>s.1.toNat) _ ⟨?_,f,A,z⟩ (by unfold FU;omega) ?_
 ·grind
 rintro⟨g,r⟩ ⟨o,B,C,j⟩;simp only at o B C j;have aa:0<=g*a:=alM (by omega) (by omega);simp only[v8];have el:IntKind.i64.wrap ((v.length:Int)-2)=((n-2:Nat):Int):=by rw[e,mG (by omega)];omega
 have ei:IntKind.i64.wrap ((IntKind.i64.wrap ((i:Int)+(v.length:Int)))-2)=((i+n-2:Nat):Int):=by rw[e,mG (x:=(i:Int)+n) (by omega),mG (by omega)];omega
 rw[el,ei];have E:W / V<=g-1->∃h:Int×Int,(some (Sum.inl (IntKind.i64.wrap (g-1),IntKind.i64.wrap (r+a))):Option ((Int×Int)⊕Int))=some (.inl h)∧(h.1*a+h.2=T∧W / V<=h.1∧h.1<=2097152∧0<=h.2)∧h.1.toNat<g.toNat:=by
  intro ab;refine⟨_,rfl,?_⟩;rw[mG (x:=g-1) (by omega),mG (x:=r+a) (by omega)];grind
 by_cases l:g>=1048576
 ·rw[if_pos (by simpa using l),akZ,if_pos rfl];grind
 ·rw[if_neg (by simpa using l)]
  by_cases J:r<1048576
  ·have K:0<=g*b:=alM (by omega) m.1;have F:g*b<=1048576*1048576:=Int.mul_le_mul (by omega) (by omega) m.1 (by omega);rw[if_pos (by simpa using J),p,akZ,ab1 j (by omega),akZ,q,akZ,mG (x:=g*b) (by omega),TW j (by omega) Q,akZ]
   by_cases L:g*b>1048576*r+c
   ·rw[if_pos (by simpa using L)];grind
   ·rw[if_neg (by simpa using L)];grind
  ·rw[if_neg (by simpa using J),akZ,if_neg (by simp)];refine .inr ⟨g,rfl,B,D g r o (by omega) (by omega) ?_,by omega⟩;have:g*b<=1048575*1048575:=Int.mul_le_mul (by omega) (by omega) m.1 (by omega);omega
def af5 {α:Type} {l:List α} {a b:Nat} (h:a<=b) (c:b<=l.length):Fa l (a:Int) (b:Int)=some ((l.drop a).take (b-a)):=by
 unfold Fa;simp_all
def adi {l:List Int} {n:Nat} (d:l.length=n) (f:2<=n) (a:Dg l) :
  pw (n-2)*((l[n-1]'(by omega))*1048576+l[n-2]'(by omega))<=dv l∧dv l<pw (n-2)*((l[n-1]'(by omega))*1048576+l[n-2]'(by omega)+1):=by
 have e:=lD l (i:=n-2) (by omega);rw[qG (by omega),qG (i:=n-2+1) (by omega),ak9 (by omega)]at e;have b:l[n-2+1]'(by omega)=l[n-1]'(by omega):=by congr 1;omega
 rw[b]at e;have g:=ew (a.take (n-2));have c:=uc (a.take (n-2));rw[ajP,alw (by omega)]at c;simp only[dv]at e;grind
def adj {l:List Int} {n:Nat} (g:l.length=n+1) (h:2<=n) (a:Dg l) :
  pw (n-2)*((1048576*(l[n]'(by omega))+l[n-1]'(by omega))*1048576+l[n-2]'(by omega))<=dv l∧dv l<pw (n-2)*((1048576*(l[n]'(by omega))+l[n-1]'(by omega))*1048576+l[n-2]'(by omega)+1):=by
 have e:=lD l (i:=n-2) (by omega);rw[qG (by omega),qG (i:=n-2+1) (by omega),qG (i:=n-2+1+1) (by omega),ak9 (by omega)]at e;have b:l[n-2+1]'(by omega)=l[n-1]'(by omega):=by congr 1;omega
 have c:l[n-2+1+1]'(by omega)=l[n]'(by omega):=by congr 1;omega
 rw[b,c]at e;have j:=ew (a.take (n-2));have d:=uc (a.take (n-2));rw[ajP,alw (by omega)]at d;simp only[dv]at e;have f:l[n-2]'(by omega)+1048576*(l[n-1]'(by omega)+1048576*(l[n]'(by omega)+1048576*0))=(1048576*(l[n]'(by omega))+l[n-1]'(by omega))*1048576+l[n-2]'(by omega):=by omega
 rw[f]at e;rw[alG (pw (n-2)) _ 1,Int.mul_one];omega
def aak {v o:List Int} {n m:Nat} (p:Dg v) (a:v.length=n) (F:2<=n) (G:524288<=v[n-1]'(by omega)) (hu:Dg o) (H:o.length=m+n) (hf:m+n<=17592186044416) (d:dv (o.drop m)<dv v) :
  ∃r,aS (v7 v) ((m:Int)-1,o,List.replicate m 0)=some r∧r.1.length=m+n∧Dg r.1∧r.2.length=m∧Dg r.2∧dv r.1+dv v*dv r.2=dv o∧dv r.1<dv v:=by
 have J:=uc p;rw[a]at J;refine eE (I:=fun i s=>s.1=((m-i:Nat):Int)-1∧s.2.1.length=m+n∧Dg s.2.1∧s.2.2.length=m∧Dg s.2.2∧(∀j (E:j<s.2.2.length),j<m-i->s.2.2[j]=0)∧dv s.2.1+dv v*dv s.2.2=dv o∧dv (s.2.1.drop (m-i))<dv v)
  m _ ⟨rfl,H,hu,by simp,Dg.rep _,fun j E _=>by simp,by simp[F3],d⟩ (ng (by omega)) ?_
 rintro i ⟨s,u,q⟩ hi ⟨S,hl,b,t,x,K,he,d⟩;simp only at S hl b t x K he d;subst S;generalize hk:m-i=k at *;simp only[v7]
 by_cases h0:0<k
 ·left;have ek:((k:Int)-1)=((k-1:Nat):Int):=by omega
  rw[ek,if_pos (by simp)];have e1:IntKind.i64.wrap (((k-1:Nat):Int)+(v.length:Int))=((k-1+n:Nat):Int):=by rw[a,mG (by omega)];omega
  have e2:IntKind.i64.wrap (((k-1+n:Nat):Int)-1)=((k-1+n-1:Nat):Int):=by rw[mG (by omega)];omega
  have e3:IntKind.i64.wrap ((v.length:Int)-1)=((n-1:Nat):Int):=by rw[a,mG (by omega)];omega
  have e4:IntKind.i64.wrap (((k-1+n:Nat):Int)+1)=((k-1+n+1:Nat):Int):=by rw[mG (by omega)];omega
  have e5:IntKind.i64.wrap (((k-1:Nat):Int)-1)=((k-1:Nat):Int)-1:=mG (by omega);rw[e1,e2,e3,e4,e5];have U:k-1+n<u.length:=by omega
  have V:k-1+n-1<u.length:=by omega
  have W:k-1+n-2<u.length:=by omega
  have X:n-1<v.length:=by omega
  have y:n-2<v.length:=by omega
  have Y:=b.get U;have g2:=b.get V;have g3:=b.get W;have gv:=p.get X;have L:=p.get y;rw[ej U,akZ,ab1 Y.1 (by omega),akZ,ej V,akZ,ej X,akZ,TW Y.1 (by omega) g2,agV (by omega) (by omega) (by omega),akZ,ag8 (by omega) (by omega),akZ,af5 (by omega) (by omega),show k-1+n+1-(k-1)=n+1 by omega];generalize Z:(u.drop (k-1)).take (n+1)=w;have M:w.length=n+1:=by grind
  have c:Dg w:=by rw[<- Z];exact (b.drop _).take _
  have e:∀j (E:j<n+1),w[j]'(by omega)=u[k-1+j]'(by omega):=by
   grind
  have z:dv (u.drop (k+n))=0:=by
   have N:=lD (u.drop k) (i:=n) (by grind);rw[alc]at N;have n1:=ew ((b.drop k).take n);have n2:=ew (b.drop (k+n));have hp:=tE n;rcases (show dv (u.drop (k+n))=0∨1<=dv (u.drop (k+n)) by omega) with h|h
   ·exact h
   ·have:pw n*1<=pw n*dv (u.drop (k+n)):=alF h (by omega);omega
  have hW:dv w=dv (u.drop (k-1)):=by
   have N:=lD (u.drop (k-1)) (i:=n+1) (by grind);rw[alc,show k-1+(n+1)=k+n by omega,z,Z]at N;omega
  have aa:dv w=u[k-1]+1048576*dv (u.drop k):=by
   rw[hW,qG (by omega),show k-1+1=k by omega]
  have gk:=b.get (show k-1<u.length by omega);have A:dv w<1048576*dv v:=by omega
  have t2:=adi a F p;have t3:=adj M F c;rw[e n (by omega),e (n-1) (by omega),e (n-2) (by omega)]at t3;have a1:u[k-1+(n-1)]'(by omega)=u[k-1+n-1]'(by omega):=by congr 1;omega
  have a2:u[k-1+(n-2)]'(by omega)=u[k-1+n-2]'(by omega):=by congr 1;omega
  rw[a1,a2]at t3;obtain⟨g,q1,q2,q3,q4⟩:=TF (s13:=((k-1:Nat):Int)) F a (by omega) (k-1) rfl (by omega) (ej y) (ej W) ⟨G,gv.2⟩ L g3 (T:=1048576*u[k-1+n]+u[k-1+n-1]) (by omega) (by omega) t2 t3 A;rw[q1,akZ,akZ];have f:0<dv v:=by
   have:=ew c;omega
  obtain⟨l,r1,r2,r3,r4⟩:=YA c p (by unfold Fit;omega) (by omega) f q2 q3 q4;have O:k-1<q.length:=by omega
  rw[r1,akZ,ej O,akZ];simp only;have P:0<=dv w / dv v:=alI (ew c) (by omega);have Q:dv w / dv v<1048576:=alJ f A;have B:=alK (dv w) f;simp only[Int.toNat_natCast];have C:dv (l++u.drop (k-1+n+1))=dv w % dv v:=by
   rw[l9,show k-1+n+1=k+n by omega,z,r4];omega
  have D:(u.take (k-1)).length=k-1:=by grind
  have R:dv (u.take (k-1)++(l++u.drop (k-1+n+1)))=dv (u.take (k-1))+pw (k-1)*(dv w % dv v):=by rw[l9,D,C]
  refine⟨by omega,_,rfl,by rw[show m-(i+1)=k-1 by omega],?_,(b.take _).append (r3.append (b.drop _)),by simpa using t,x.set _ ⟨P,Q⟩,fun j E ab =>?_,?_,?_⟩
  ·grind
  ·rw[List.getElem_set_ne (by omega)];exact K j (by simpa using E) (by omega)
  ·rw[R,xV O,K _ O (by omega),Int.sub_zero,alG];have s2:=lD u (i:=k-1) (by omega);rw[<- hW]at s2;have hm:=alL (dv w) (dv v);grind
  ·rw[show m-(i+1)=k-1 by omega,ak8,D,akB,akO,ak9 (by omega),ak6,C];exact B
 simp_all
def T6 {v:List Int} {t:Int} {n:Nat} (b:v.length=n) (g:0<n) (k:n<=17592186044416) (c:v[n-1]'(by omega)=t) (d:1<=t) (l:t<1048576) :
  ∃s,aS (vZ v) 1=some s∧∃j:Nat,s=2 ^ j∧j<=19∧524288<=t*s∧t*s<1048576:=by
 refine eE (I:=fun i s=>s=2 ^ i∧t*s<1048576) 20 _ ⟨rfl,by omega⟩ (by unfold FU;omega) ?_;rintro i s m ⟨rfl,o⟩;have p:(0:Int)<2 ^ i:=Int.pow_pos (by decide);have f:(2:Int) ^ i<=t*2 ^ i:=by
  have:1*(2:Int) ^ i<=t*2 ^ i:=alO d (by omega);omega
 have a:i<=19:=by
  grind
 simp only[vZ];have e:IntKind.i64.wrap ((v.length:Int)-1)=((n-1:Nat):Int):=by rw[b,mG (by omega)];omega
 rw[e,ej (by omega),akZ,c,mG (x:=t*2 ^ i) (by omega)]
 by_cases h:t*2 ^ i<524288
 ·left;rw[if_pos (by simpa using h)];refine⟨by omega,_,rfl,by rw[mG (by omega),Int.pow_succ],?_⟩;rw[mG (by omega),<- Int.mul_assoc];omega
 grind
def div_eq {m n:Nat} (hn:n≠0) (ak:(bH m).length<=17592186043904) (al:(bH n).length<=17592186043904):vY (bH m) (bH n)=some (bH (m / n),bH (m % n)):=by
 unfold vY;rw[Ak (by unfold Fit;omega) (by unfold Fit;omega),akZ]
 by_cases q:m<n
 ·have:l7 (m:Int) n<0:=by unfold l7;omega
  rw[if_pos (by simpa using this),xN (by unfold Fit;omega),akZ,Nat.div_eq_of_lt q,akn q,eu]
 have:¬l7 (m:Int) n<0:=by unfold l7;omega
 rw[if_neg (by simpa using this)];obtain⟨ao,aq⟩:=Bq hn;have r:=lJ n
 by_cases h1:(bH n).length=1
 ·rw[if_pos (by simp;omega)];have ar:(n:Int)<1048576:=by rw[h1]at r;simpa [pw] using r
  have e:bH n=[(n:Int)]:=by
   rw[qP hn,Nat.div_eq_of_lt (by omega),eu,akn (by omega)]
  have ei:P.idx (bH n) 0=some (n:Int):=by rw[e];rfl
  rw[ei,akZ,RW (fJ m) ⟨by omega,by omega⟩ (by unfold Fit;omega),akZ,cW];have F:(m:Int) % n=((m % n:Nat):Int):=(Int.natCast_emod m n).symm;have G:((m:Int) / n).toNat=m / n:=by
   grind
  have au:m % n<n:=akk _ (by omega);simp only[F,G];rw[Fc (n:=m % n) (by simp[Fit]) (Dg.mk (by omega) Dg.nil) (by simp[dv]),akZ]
 ·rw[if_neg (by simp;omega)];generalize hN:(bH n).length=N at *;have H:2<=N:=by omega
  have f:=fJ n;have gt:=f.get (show N-1<(bH n).length by omega);generalize ht:(bH n)[N-1]'(by omega)=t at gt;have a:=lD (bH n) (i:=N-1) (by omega);rw[cW,qG (by omega),ak9 (by omega),ht]at a;simp only[dv,Int.mul_zero,Int.add_zero]at a;have I:=ew (f.take (N-1));have J:=uc (f.take (N-1));rw[ajP,alw (by omega)]at J;have av:=tE (N-1);have K:1<=t:=by
   grind
  obtain⟨s,L,j,v,hj,O,g⟩:=T6 hN (by omega) (by omega) ht K gt.2;have R:(2:Int) ^ j<=524288:=by
   have:∀j:Nat,j<=19->(2:Int) ^ j<=524288:=by decide
   exact this j hj
  have T:(0:Int)<2 ^ j:=Int.pow_pos (by decide);have V:(t+1)*s<=1048576:=by
   have W:(1048576:Int)=2 ^ (20-j)*2 ^ j:=by rw[<- Int.pow_add,Nat.sub_add_cancel (by omega)];rfl
   rw[W]at g ⊢;rw[v]at g ⊢;have:t<2 ^ (20-j):=Int.lt_of_mul_lt_mul_right g (by omega);exact alO (by omega) (by omega)
  rw[<- v]at T R;obtain⟨S,rfl⟩:∃S:Nat,s=S:=⟨s.toNat,by omega⟩;have w:Dg [(S:Int)]:=Dg.mk (by omega) Dg.nil;have b:dv [(S:Int)]=S:=by simp[dv]
  rw[L,akZ,mul_eq (fJ m) w (by simp;omega),akZ,cW,b];have em:((m:Int)*S).toNat=m*S:=by omega
  have en:((n:Int)*S).toNat=n*S:=by omega
  rw[em];have aw:(bH (m*S)).length<=(bH m).length+1:=by
   apply oe;rw[mA,alP];have l:=lJ m;have:(m:Int)*S<=m*1048576:=alF (by omega) (by omega);omega
  have hU:∃u,((if ((((bH (m*S)++[0]).length:Int))==((bH m).length:Int))=true then (pE 8 (bH (m*S)++[0]) [0]).bind fun X=>some X else some (bH (m*S)++[0]))=some u)∧Dg u∧dv u=(m*S:Nat)∧dv u<pw (u.length-1)∧(bH (m*S)).length+1<=u.length∧u.length<=(bH m).length+3:=by
   have d1:Dg (bH (m*S)++[0]):=(fJ _).append (Dg.mk (by omega) Dg.nil);have v1:dv (bH (m*S)++[0])=(m*S:Nat):=by rw[l9,cW];simp[dv]
   have v2:=lJ (m*S);split
   ·rw[Fv (by simp;omega),akZ];refine⟨_,rfl,d1.append (Dg.mk (by omega) Dg.nil),by rw[l9,v1];simp[dv],?_,by simp,by simp;omega⟩;rw[l9,v1];simp only[dv,aky,List.length_cons,List.length_nil];have:=wH (i:=(bH (m*S)).length) (j:=(bH (m*S)).length+1) (by omega);grind
   grind
  obtain⟨u,Y,y,Z,ax,ay,az⟩:=hU;rw[Fv (by simp;omega),akZ,mul_eq (fJ n) w (by simp;omega),akZ,cW,b,en,Y,akZ];have ai:524288*pw (N-1)<=((n*S:Nat):Int):=by
   rw[alP,a,Int.add_mul];have l:0<=dv ((bH n).take (N-1))*S:=alM I (by omega);have z:pw (N-1)*524288<=pw (N-1)*(t*S):=alF O (by omega);grind
  have A:((n*S:Nat):Int)<pw N:=by
   have a0:pw N=1048576*pw (N-1):=by rw[<- mA];congr 1;omega
   rw[a0,alP,a];have l:(dv ((bH n).take (N-1))+pw (N-1)*t+1)*S<=(pw (N-1)*(t+1))*S:=alO (by grind) (by omega);have z:pw (N-1)*((t+1)*S)<=pw (N-1)*1048576:=alF V (by omega);grind
  have B:(bH (n*S)).length=N:=by
   have l:=oe A;rcases akc (bH (n*S)).length N with h|h
   ·have z:=lJ (n*S);have D:=wH (i:=(bH (n*S)).length) (j:=N-1) (by omega);omega
   ·omega
  have aa:524288<=(bH (n*S))[N-1]'(by omega):=by
   have l:=lD (bH (n*S)) (i:=N-1) (by omega);rw[cW,qG (by omega),ak9 (by omega)]at l;simp only[dv,Int.mul_zero,Int.add_zero]at l;have z:=uc ((fJ (n*S)).take (N-1));rw[ajP,alw (by omega)]at z;have D:pw (N-1)*524288<pw (N-1)*((bH (n*S))[N-1]'(by omega)+1):=by grind
   have:=Int.lt_of_mul_lt_mul_left D (by omega);omega
  have aj:N+1<=u.length:=by
   have:n*S<=m*S:=akd _ (by omega);have:=gM this;omega
  obtain⟨M,hM⟩:∃M,u.length=M+N:=⟨u.length-N,by omega⟩;have e1:IntKind.i64.wrap ((u.length:Int)-((bH (n*S)).length:Int))=(M:Int):=by rw[B,hM,mG (by omega)];omega
  rw[e1,mk0 (by omega),akZ,List.length_replicate,mG (x:=(M:Int)-1) (by omega)];have ab:dv (u.drop M)<dv (bH (n*S)):=by
   rw[cW];have l:=lD u (i:=M) (by omega);have z:=ew (y.take M);have D:pw M*dv (u.drop M)<pw M*pw (N-1):=by
    rw[<- Ni,show M+(N-1)=u.length-1 by omega];omega
   have:=Int.lt_of_mul_lt_mul_left D (by have:=tE M;omega);omega
  obtain⟨⟨U,Q⟩,r1,r2,r3,r4,r5,r6,r7⟩:=aak (fJ (n*S)) B H aa y hM (by omega) ab;simp only at r2 r3 r4 r5 r6 r7;rw[r1,akZ];simp only;rw[cW,Z]at r6;rw[cW]at r7;have aA:=ew r3;have aB:=ew r5;have hS:0<S:=by omega
  have ad:0<n*S:=Nat.mul_pos (by omega) hS;obtain⟨o,p⟩:∃k:Nat,dv U=k:=⟨(dv U).toNat,by omega⟩;obtain⟨E,C⟩:∃k:Nat,dv Q=k:=⟨(dv Q).toNat,by omega⟩;rw[p,C]at r6;rw[p]at r7;have c:o+n*S*E=m*S:=by
   omega
  have d:o<n*S:=by omega
  have ae:E=m / n:=by
   have:m*S / (n*S)=E:=by
    rw[<- c,Nat.add_mul_div_left _ _ ad,Nat.div_eq_of_lt d,akw]
   rw[<- this,Nat.mul_div_mul_right _ _ hS]
  have ag:o=(m % n)*S:=by
   have:m*S % (n*S)=o:=by rw[<- c,Nat.add_mul_mod_self_left,akn d]
   rw[<- this,Nat.mul_mod_mul_right]
  rw[Fc (n:=o) (by unfold Fit;omega) r3 p,akZ];have ah:(bH o).length<=N:=oe (by omega);rw[RW (fJ o) ⟨by omega,by omega⟩ (by unfold Fit;omega),akZ,Fc (n:=E) (by unfold Fit;omega) r5 C,akZ,cW,ae,ag];have:((((m % n)*S:Nat):Int) / (S:Int)).toNat=m % n:=by
   rw[alP,Int.mul_ediv_cancel _ (by omega)];rfl
  rw[this]
def ja (x:Int):aK:=aK.mk x.sign (bH x.natAbs)
def Ln (x:Int):Nat:=(bH x.natAbs).length
def eV:Nat:=4398046511104
def sM:Nat:=17592186043904
def Be {n:Nat} (h:n<=eV):n<=sM:=ajB h (by decide)
def QG:ja 0=aK.mk 0 []:=by unfold ja;rw[show (0:Int).natAbs=0 from rfl,eu];rfl
def V8 {x y:Int} (h:ja x=ja y):x=y:=by
 unfold ja at h;simp only[aK.mk.injEq]at h;have:=aae h.2;grind
def N3 {x:Int} {k:Nat} (h:(x.natAbs:Int)<pw k):Ln x<=k:=oe h
def V5 (x:Int):(x.natAbs:Int)<pw (Ln x):=lJ _
def UN {x y:Int} (h:x.natAbs<=y.natAbs):Ln x<=Ln y:=gM h
def Mb (x:Int):Ln (-x)=Ln x:=by unfold Ln;rw[Int.natAbs_neg]
def SG (x y:Int):Ln (x+y)<=max (Ln x) (Ln y)+1:=by
 apply N3;have a:=V5 x;have b:=V5 y;have c:=wH (i:=Ln x) (j:=max (Ln x) (Ln y)) (by omega);have d:=wH (i:=Ln y) (j:=max (Ln x) (Ln y)) (by omega);have e:=Int.natAbs_add_le x y;rw[mA];omega
def ly (x y:Int):Ln (x*y)<=Ln x+Ln y:=by
 apply N3;have c:=V5 x;have a:=V5 y;rw[Int.natAbs_mul,alP,Ni];have b:=tE (Ln x)
 calc (x.natAbs:Int)*y.natAbs<=pw (Ln x)*y.natAbs:=alO (by omega) (by omega)
  _<pw (Ln x)*pw (Ln y):=Int.mul_lt_mul_of_pos_left a b
def N4 {x:Int} (h:x.natAbs<1048576):Ln x<=1:=N3 (by rw[mA,uu];omega)
instance (l:List Int):Decidable (Dg l):=by unfold Dg;infer_instance
def okB (b:aK):Bool:=decide (Dg b.aa)&&(match b.aa.getLast? with|none=>b.ax==0|some d=>(b.ax==1||b.ax == -1)&&d != 0)
def B1 {b:aK} : okB b=true↔∃x,b=ja x:=by
 obtain⟨s,l⟩:=b;unfold okB;simp only[aj6,decide_eq_true_eq];constructor
 ·rintro⟨i,h⟩;cases f:l.getLast? with
  | none =>
   rw[f]at h;have:l=[]:=List.getLast?_eq_none_iff.1 f;subst this;exact⟨0,by rw[QG];simpa using h⟩
  | some d =>
   rw[f]at h;simp only[aj6,Bool.or_eq_true,beq_iff_eq,bne_iff_ne]at h;have a:l≠[]:=by grind
   have c:∀h:l≠[],l.getLast h≠0:=by
    grind
   have e:=E2 i c;have h0:(dv l).toNat≠0:=by
    intro h0;rw[h0,eu]at e;exact a e.symm
   have j:=ew i;refine⟨s*dv l,?_⟩;unfold ja;grind
 ·rintro⟨x,g⟩;unfold ja at g;simp only[aK.mk.injEq]at g;obtain⟨rfl,rfl⟩:=g;refine⟨fJ _,?_⟩
  by_cases h0:x=0
  ·subst h0;simp[eu]
  ·have a:bH x.natAbs≠[]:=fun h=>h0 (by have:=xQ.1 h;omega);rw[List.getLast?_eq_some_getLast a];have k:=Xw _ a;grind
def TN (x:Int):okB (ja x)=true:=B1.2 ⟨x,rfl⟩
def HR {b:aK} (h:Fit b.aa):dF b=some (okB b):=by
 obtain⟨s,l⟩:=b;simp only[Fit]at h;have key:∃r,aS (rZ ⟨s,l⟩) 0=some r∧(match r with | .inl _=>Dg l | .inr x=>x=false∧¬Dg l):=by
  refine eE (I:=fun i s=>s=(i:Int)∧Dg (l.take i)) l.length _ ⟨rfl,by simpa using Dg.nil⟩ (ng h) ?_;rintro i s k ⟨rfl,j⟩;simp only[rZ]
  by_cases a:i<l.length
  ·rw[if_pos (by simpa using a),ej a,akZ]
   by_cases f:l[i]<0
   ·right;exact⟨.inr false,by simp_all,rfl,fun g=>by have:=g.get a;omega⟩
   ·by_cases c:l[i]>1048575
    ·right;exact⟨.inr false,by simp_all,rfl,fun g=>by have:=g.get a;omega⟩
    ·left;refine⟨a,_,by rw[if_neg (by simpa using f),if_neg (by simpa using c)],by rw[mG (by omega)];omega,?_⟩;have e:l.take (i+1)=l.take i++[l[i]]:=by simp_all
     rw[e];exact j.append (Dg.mk (by omega) Dg.nil)
  ·right;have:i=l.length:=by omega
   simp_all
 obtain⟨r,f,c⟩:=key;unfold dF okB;rw[f,akZ];cases r with
 | inr x =>
  simp_all
 | inl u =>
  simp only at c ⊢;simp only[c,decide_true,akQ]
  by_cases d:l=[]
  ·subst d;simp
  ·have m:0<l.length:=alf.2 d;have e:IntKind.i64.wrap ((l.length:Int)-1)=((l.length-1:Nat):Int):=by rw[mG (by omega)];omega
   rw[if_neg (by simpa using d),e,ej (by omega),List.getLast?_eq_some_getLast d,List.getLast_eq_getElem];grind
def jC {x:Int} (h:Ln x<=17592186044416):dF (ja x)=some true:=by
 rw[HR (show Fit (ja x).aa from h),TN]
def zu {s:Int} {l:List Int} (x:Int) (a:Fit l) (b:Dg l) (c:dv l=x.natAbs) (d:x≠0->s=x.sign):ec s l=some (ja x):=by
 unfold ec;rw[Fc a b c,akZ]
 by_cases h0:x=0
 ·subst h0;rw[show (0:Int).natAbs=0 from rfl,eu,QG];rfl
 ·have:bH x.natAbs≠[]:=fun h=>h0 (by have:=xQ.1 h;omega);rw[if_neg (by simpa using this),d h0];rfl
def oS (b:aK):fC true b=some (b,0):=rfl
def ad7 (x:Int):x.sign = -1∨x.sign=0∨x.sign=1:=by
 grind
def SH {x:Int} (h:Ln x<=eV):rY (ja x)=some (ja (-x)):=by
 unfold rY;have b:eV=4398046511104:=rfl;rw[jC (by omega),akZ];simp only[akP,aj4,if_false];have a:Fit (ja x).aa:=by unfold Fit;show Ln x<=_;omega
 rw[xN a,akZ,zu (-x) a (fJ _) (by show dv (bH _)=_;rw[cW,Int.natAbs_neg]),akZ];intro c;show IntKind.i64.wrap (0-x.sign)=_;rw[mG (by grind),Int.sign_neg,Int.zero_sub]
def aeq (s t:Int):xO [s,t]=some (if s≠0 then s else t):=by
 have key:∃r,aS (zc [s,t]) 0=some r∧(match r with | .inl _=>s=0∧t=0 | .inr x=>x=if s≠0 then s else t):=by
  refine eE (I:=fun i j=>j=(i:Int)∧(1<=i->s=0)∧(2<=i->t=0)) 2 _ ⟨rfl,by omega,by omega⟩ (by unfold FU;omega) ?_;rintro i j c ⟨rfl,a,b⟩;simp only[zc];rcases (show i=0∨i=1∨i=2 by omega) with rfl|rfl|rfl
  ·rw[if_pos (by simp)];show _∨∃r,((some s).bind _=_)∧_;rw[show P.idx [s,t] ((0:Nat):Int)=some s from rfl,akZ]
   by_cases hs:s=0
   ·left;exact⟨by omega,_,by rw[if_neg (by simpa using hs)],by rw[mG (by omega)];rfl,fun _=>hs,by omega⟩
   simp_all
  ·have hs:=a (by omega);rw[if_pos (by simp),show P.idx [s,t] ((1:Nat):Int)=some t from rfl,akZ]
   by_cases ht:t=0
   ·left;exact⟨by omega,_,by rw[if_neg (by simpa using ht)],by rw[mG (by omega)];rfl,fun _=>hs,fun _=>ht⟩
   simp_all
  simp_all
 obtain⟨r,a,b⟩:=key;unfold xO;grind
def Cc (x:Int):x.sign=1∧x=x.natAbs∧0<x∨x.sign = -1∧x = -x.natAbs∧x<0∨x.sign=0∧x=0:=by
 grind
def sG {x:Int} {s:Int} {n:Nat} (a:n=x.natAbs) (b:x≠0->s=x.sign) (c:n≠0->(bH n).length<=17592186044416):ec s (bH n)=some (ja x):=by
 subst a;refine zu x ?_ (fJ _) (cW _) b;unfold Fit
 by_cases h:x.natAbs=0
 ·rw[h,eu];simp
 ·exact c h
def afi {x y:Int} (k:Ln x<=eV) (l:Ln y<=eV):y6 (ja x) (ja y)=some (ja (x+y),0):=by
 have m:eV=4398046511104:=rfl;have f:=SG x y;unfold y6;rw[jC (by omega),akZ];simp only[akP,aj4,if_false];rw[jC (by omega),akZ,akZ];simp only[akP,aj4,if_false];show (if decide (IntKind.i64.wrap (x.sign*y.sign)>=0)=true then _ else _)=_;have a:(ja x).aa=bH x.natAbs:=rfl;have b:(ja y).aa=bH y.natAbs:=rfl;have c:(ja x).ax=x.sign:=rfl;have d:(ja y).ax=y.sign:=rfl;rw[a,b,c,d];have n:(bH x.natAbs).length<=4398046511104:=by show Ln x<=_;omega
 have o:(bH y.natAbs).length<=4398046511104:=by show Ln y<=_;omega
 have p:=Cc x;have q:=Cc y;have g:IntKind.i64.wrap (x.sign*y.sign)=x.sign*y.sign:=by
  apply mG;grind
 rw[g]
 by_cases e:x.sign*y.sign>=0
 ·rw[if_pos (by simpa using e),aeq,akZ,add_eq (fJ _) (fJ _) (by omega) (by omega),akZ,cW,cW];have h:((x.natAbs:Int)+y.natAbs).toNat=(x+y).natAbs:=by
   grind
  rw[h,sG (x:=x+y) rfl ?_ (fun _=>by show Ln (x+y)<=_;omega),akZ,oS,akZ];grind
 ·rw[if_neg (by simpa using e),Ak (by unfold Fit;omega) (by unfold Fit;omega),akZ];have i:x.sign=1∧y.sign = -1∧0<x∧y<0∨x.sign = -1∧y.sign=1∧x<0∧0<y:=by
   grind
  by_cases j:x.natAbs<y.natAbs
  ·have:l7 (x.natAbs:Int) y.natAbs<0:=by unfold l7;omega
   rw[if_pos (by simpa using this),sub_eq (fJ _) (fJ _) (by unfold Fit;omega) (gM (by omega)) (by rw[cW,cW];omega),akZ,cW,cW];rw[sG (x:=x+y) (by omega) ?_ (fun _=>by rw[show ((y.natAbs:Int)-x.natAbs).toNat=(x+y).natAbs by omega];show Ln (x+y)<=_;omega),akZ,oS,akZ];grind
  ·have:¬l7 (x.natAbs:Int) y.natAbs<0:=by unfold l7;omega
   rw[if_neg (by simpa using this),sub_eq (fJ _) (fJ _) (by unfold Fit;omega) (gM (by omega)) (by rw[cW,cW];omega),akZ,cW,cW];rw[sG (x:=x+y) (by omega) ?_ (fun _=>by rw[show ((x.natAbs:Int)-y.natAbs).toNat=(x+y).natAbs by omega];show Ln (x+y)<=_;omega),akZ,oS,akZ];grind
def afj {x y:Int} (h:Ln x<=eV) (i:Ln y<=eV):y8 (ja x) (ja y)=some (ja (x*y),0):=by
 have j:eV=4398046511104:=rfl;have e:=ly x y;unfold y8;rw[jC (by omega),akZ];simp only[akP,aj4,if_false];rw[jC (by omega),akZ,akZ];simp only[akP,aj4,if_false];have a:(ja x).aa=bH x.natAbs:=rfl;have b:(ja y).aa=bH y.natAbs:=rfl;have c:(ja x).ax=x.sign:=rfl;have d:(ja y).ax=y.sign:=rfl;rw[a,b,c,d];have k:(bH x.natAbs).length<=4398046511104:=by show Ln x<=_;omega
 have l:(bH y.natAbs).length<=4398046511104:=by show Ln y<=_;omega
 have f:IntKind.i64.wrap (x.sign*y.sign)=(x*y).sign:=by
  rw[Int.sign_mul];apply mG;grind
 rw[f,mul_eq (fJ _) (fJ _) (by omega),akZ,cW,cW];have g:((x.natAbs:Int)*y.natAbs).toNat=(x*y).natAbs:=by rw[Int.natAbs_mul,<- alP];rfl
 rw[g,sG (x:=x*y) rfl (fun _=>rfl) (fun _=>by show Ln (x*y)<=_;omega),akZ,oS,akZ]
def pz {x y:Int} (a:Ln x<=eV) (b:Ln y<=eV):cU (ja x) (ja y)=some (ja (x*y)):=by
 unfold cU;rw[afj a b];rfl
def Y9 {x y:Int} (o:Ln x<=eV) (p:Ln y<=eV) (g:0<y) (j:y∣x):rX (ja x) (ja y)=some (ja (x / y),ja 0,0):=by
 have q:eV=4398046511104:=rfl;unfold rX;rw[jC (by omega),akZ];simp only[akP,aj4,if_false];rw[jC (by omega),akZ,akZ];simp only[akP,aj4,if_false];have a:(ja x).aa=bH x.natAbs:=rfl;have b:(ja y).aa=bH y.natAbs:=rfl;have c:(ja x).ax=x.sign:=rfl;have d:(ja y).ax=1:=alQ g;rw[a,b,c,d];have r:(bH x.natAbs).length<=4398046511104:=by show Ln x<=_;omega
 have s:(bH y.natAbs).length<=4398046511104:=by show Ln y<=_;omega
 have k:=gM (Nat.div_le_self x.natAbs y.natAbs);obtain⟨z,rfl⟩:=j;have e:y*z / y=z:=Int.mul_ediv_cancel_left _ (by omega);have l:(y*z).natAbs=y.natAbs*z.natAbs:=Int.natAbs_mul _ _;have i:(y*z).natAbs / y.natAbs=z.natAbs:=by rw[l,Nat.mul_div_cancel_left _ (by omega)]
 have m:(y*z).natAbs % y.natAbs=0:=by simp_all
 have f:(y*z).sign=z.sign:=by rw[Int.sign_mul,alQ g,Int.one_mul]
 rw[if_neg (by decide),div_eq (by omega) (by omega) (by omega),akZ,Int.mul_one,f,mG (x:=z.sign) (by grind),e,i,m,eu];rw[i]at k;have n:(if decide (z.sign<0)=true then some (decide ((([]:List Int).length:Int)>0)) else some false)=some false:=by split<;>rfl
 simp only[n,Option.bind_some,aj4,if_false];rw[sG (x:=z) rfl (fun _=>rfl) (fun _=>by omega),akZ];have:ec z.sign []=some (ja 0):=zu 0 (by simp[Fit]) Dg.nil rfl (fun h=>absurd rfl h);simp_all
def lg (n:Nat):Nat:=if n=0 then 0 else n.log2+1
def ag7 {r x:Nat} (h:2*r<x):lg r<lg x:=by
 unfold lg;rw[if_neg (show x≠0 by omega)]
 by_cases a:r=0
 ·simp_all
 ·rw[if_neg a];have b:=Nat.log2_self_le a;have c:=@Nat.lt_log2_self x;have:2 ^ (r.log2+1)<2 ^ (x.log2+1):=by omega
  have:=(Nat.pow_lt_pow_iff_right (by decide:1<2)).1 this;omega
def aeX {n k:Nat} (h:(n:Int)<pw k):lg n<=20*k:=by
 unfold lg
 by_cases a:n=0
 ·simp_all
 ·rw[if_neg a];have:n<2 ^ (20*k):=by
   have:pw k=((2 ^ (20*k):Nat):Int):=by
    unfold pw;rw[Nat.pow_mul,Int.natCast_pow];rfl
   omega
  have:=(Nat.log2_lt a).2 this;omega
def aaT {a b:Nat} (g:(bH a).length<=sM) (i:(bH b).length<=sM):aS sP (bH a,bH b)=some (bH (Nat.gcd a b)):=by
 have p:sM=17592186043904:=rfl;have key:∃r,aS sP (bH a,bH b)=some r∧r=bH (Nat.gcd a b):=by
  have q:=aeX (lJ a);have t:=aeX (lJ b)
  let c:List Int->Nat:=fun l=>(dv l).toNat
  have d:∀n,c (bH n)=n:=fun n=>by show (dv (bH n)).toNat=n;rw[cW];rfl
  refine BU (I:=fun (s:List Int×List Int)=>∃x y,s=(bH x,bH y)∧Nat.gcd x y=Nat.gcd a b∧(bH x).length<=sM∧(bH y).length<=sM)
   (μ:=fun (s:List Int×List Int)=>lg (c s.1)+lg (c s.2)+(if c s.1<c s.2 then 1 else 0)) _ ⟨a,b,rfl,rfl,g,i⟩ (by simp only[d];unfold FU;split<;>omega) ?_
  rintro _ ⟨x,y,rfl,j,u,k⟩;simp only[sP]
  by_cases h0:y=0
  ·right;subst h0;refine⟨_,by rw[eu,if_neg (by simp)],?_⟩;simp_all
  ·left;have f:0<(bH y).length:=alf.2 (fun h=>h0 (xQ.1 h));rw[if_pos (by simpa using f),div_eq h0 (by omega) (by omega),akZ];have m:=akk x (Nat.pos_of_ne_zero h0);refine⟨_,rfl,⟨y,x % y,rfl,?_,k,?_⟩,?_⟩
   ·rw[<- j,Nat.gcd_comm y,<- Nat.gcd_rec,Nat.gcd_comm]
   ·have:=gM (Nat.mod_le x y);omega
   ·simp only[d];rw[if_neg (by omega)]
    by_cases e:x<y
    ·rw[if_pos e,akn e];omega
    ·rw[if_neg e];have:lg (x % y)<lg x:=by
      apply ag7;have v:=Nat.div_add_mod x y;have o:1<=x / y:=(Nat.one_le_div_iff (by omega)).2 (by omega);have w:y*1<=y*(x / y):=Nat.mul_le_mul_left _ o;omega
     omega
 simp_all
def Zl {x y:Int} (d:Ln x<=sM) (e:Ln y<=sM):tY (ja x) (ja y)=some (ja (Int.gcd x y),0):=by
 have f:sM=17592186043904:=rfl;unfold tY;rw[jC (by omega),akZ];simp only[akP,aj4,if_false];rw[jC (by omega),akZ,akZ];simp only[akP,aj4,if_false];have a:(ja x).aa=bH x.natAbs:=rfl;have b:(ja y).aa=bH y.natAbs:=rfl;rw[a,b];have g:(bH x.natAbs).length<=17592186043904:=by show Ln x<=_;omega
 have i:(bH y.natAbs).length<=17592186043904:=by show Ln y<=_;omega
 have j:(bH (Nat.gcd x.natAbs y.natAbs)).length<=17592186043904:=by
  by_cases h:y.natAbs=0
  ·simp_all
  ·have:=gM (Nat.gcd_le_right x.natAbs (Nat.pos_of_ne_zero h));omega
 rw[xN (by unfold Fit;omega),akZ,aaT (by omega) (by omega),akZ,xN (by unfold Fit;omega),akZ];have c:Nat.gcd x.natAbs y.natAbs=((Int.gcd x y:Nat):Int).natAbs:=rfl;rw[sG (x:=(Int.gcd x y:Int)) c ?_ (fun _=>by omega),akZ,oS,akZ];grind
def SD {x y:Int} (k:Ln x<=eV) (l:Ln y<=eV):oc (ja x) (ja y)=some (l7 x y):=by
 have m:eV=4398046511104:=rfl;unfold oc;rw[jC (by omega),akZ];simp only[akP,aj4,if_false];rw[jC (by omega),akZ,akZ];simp only[akP,aj4,if_false];have d:(ja x).aa=bH x.natAbs:=rfl;have e:(ja y).aa=bH y.natAbs:=rfl;have f:(ja x).ax=x.sign:=rfl;have g:(ja y).ax=y.sign:=rfl;rw[d,e,f,g];have n:(bH x.natAbs).length<=4398046511104:=by show Ln x<=_;omega
 have o:(bH y.natAbs).length<=4398046511104:=by show Ln y<=_;omega
 by_cases h:x.sign=y.sign
 ·rw[if_neg (by simpa using h),Ak (by unfold Fit;omega) (by unfold Fit;omega),akZ];have j:∀s:Int,s = -1∨s=0∨s=1->∀c:Int,c = -1∨c=0∨c=1->IntKind.i64.wrap (s*c)=s*c:=by
   rintro s (rfl|rfl|rfl) c (rfl|rfl|rfl)<;>exact mG (by decide)
  have i:∀a b:Int,l7 a b = -1∨l7 a b=0∨l7 a b=1:=by
   intro a b;unfold l7;omega
  rw[j _ (ad7 x) _ (i _ _)];congr 1;unfold l7;grind
 ·rw[if_pos (by simpa using h),Cq,akZ];congr 1;unfold l7;grind
def Xd (x:Int):IntKind.u64.wrap x=x % 18446744073709551616:=by
 unfold IntKind.wrap;simp only[IntKind.bits,IntKind.signed,als,aj4,if_false];rfl
def wu {x:Int} (h:0<=x∧x<18446744073709551616):IntKind.u64.wrap x=x:=by rw[Xd];omega
def Xn {x:Int} (h:0<=x∧x<18446744073709551616):mX .and .u64 x 1048575=x % 1048576:=by
 unfold mX;simp only;have a:(BitVec.ofInt IntKind.u64.bits x &&& BitVec.ofInt IntKind.u64.bits 1048575).toNat=((x % 18446744073709551616).toNat) % 1048576:=by
  rw[BitVec.toNat_and,BitVec.toNat_ofInt,BitVec.toNat_ofInt];have e:((1048575:Int) % ((2 ^ IntKind.u64.bits:Nat):Int)).toNat=2 ^ 20-1:=by decide
  rw[e,alH];rfl
 rw[a,wu (by omega)];omega
def af3 (x:Int):AY .u64 x 20=some (x / 1048576):=by
 unfold AY;rw[if_neg (by decide)];have e:(2:Int) ^ (min (Int.toNat 20) IntKind.u64.bits)=1048576:=by decide
 grind
def pw4:pw 4=1208925819614629174706176:=by decide
def adN {n:Nat} (o:n<18446744073709551616):∃l,aS y9 ((n:Int),[])=some l∧Dg l∧dv l=n∧l.length<=5:=by
 refine BU (I:=fun (s:Int×List Int)=>0<=s.1∧Dg s.2∧dv s.2+pw s.2.length*s.1=n∧s.2.length<=5∧(s.1=0∨s.2.length<5)) (μ:=fun (s:Int×List Int)=>s.1.toNat) _ ⟨by simp,Dg.nil,by simp[dv,uu],by simp,by simp⟩ (by simp only[Int.toNat_natCast];unfold FU;omega) ?_;rintro⟨u,l⟩ ⟨a,b,c,d,e⟩;simp only at a b c d e;have p:=tE l.length;have f:=ew b;have q:u<=n:=by
  have:1*u<=pw l.length*u:=alO (by omega) a;omega
 simp only[y9]
 by_cases g:u>0
 ·left;have i:l.length<5:=by omega
  have j:l.length<4:=by
   rcases akc l.length 4 with h|h
   ·exact h
   ·have k:l.length=4:=by omega
    rw[k,pw4]at c;omega
  have m:IntKind.i64.wrap (u % 1048576)=u % 1048576:=mG (by omega);rw[if_pos (by simpa using g),Xn ⟨a,by omega⟩,m,Fv (by simp;omega),akZ,af3,akZ];refine⟨_,rfl,⟨by simp only;omega,b.append (Dg.mk (by omega) Dg.nil),?_,by simp;omega,by right;simp;omega⟩,by simp only;omega⟩;simp only[l9,dv,aky,List.length_cons,List.length_nil,Int.mul_zero,Int.add_zero,akw];have:=Df l.length u;omega
 grind
def UP {x:Int} (h : -9223372036854775808<=x∧x<9223372036854775808):vX x=some (ja x):=by
 have b:(if decide (x<0)=true then some ((-1:Int),IntKind.u64.wrap (0-(IntKind.u64.wrap x))) else some (1,IntKind.u64.wrap x))=some (if x<0 then -1 else 1,((x.natAbs:Nat):Int)):=by
  by_cases a:x<0
  ·rw[if_pos (by simpa using a),if_pos a,Xd,Xd];congr 2;omega
  ·rw[if_neg (by simpa using a),if_neg a,Xd];congr 2;omega
 obtain⟨l,c,d,e,f⟩:=adN (n:=x.natAbs) (by omega);unfold vX;rw[b,akZ];simp only;rw[c,akZ,yz];refine zu x (by unfold Fit;omega) d e (fun g =>?_);grind
def aiZ {d:Int} {i:Nat} (a:i<=3) (b:0<=d∧d<1048576) (c:i=3->d<=8):I7 .u64 (IntKind.u64.wrap d) (IntKind.i64.wrap (20*(i:Int)))=some (pw i*d):=by
 rw[wu (by omega),mG (by omega)];unfold I7;rw[if_neg (by omega)];have e:(2:Int) ^ (min (20*(i:Int)).toNat IntKind.u64.bits)=pw i:=by
  have:∀i:Nat,i<=3->(2:Int) ^ (min (20*(i:Int)).toNat IntKind.u64.bits)=pw i:=by decide
  exact this i a
 rw[e,wu,Int.mul_comm];rcases (show i=0∨i=1∨i=2∨i=3 by omega) with rfl|rfl|rfl|rfl
 ·grind
 ·rw[show pw 1=1048576 by decide];omega
 ·rw[show pw 2=1099511627776 by decide];omega
 ·rw[show pw 3=1152921504606846976 by decide];omega
def ahn {u d:Int} {i:Nat} (c:i<=3) (l:0<=u∧u<pw i) (f:0<=d∧pw i*d<9223372036854775809):mX .or .u64 u (pw i*d)=u+pw i*d:=by
 have m:=tE i;have a:0<=pw i*d:=alM (by omega) f.1;have b:pw i=((2 ^ (20*i):Nat):Int):=by unfold pw;rw[Nat.pow_mul,Int.natCast_pow];rfl
 have g:pw i<=1152921504606846976:=by
  have:=wH c
  rwa [show pw 3=1152921504606846976 by decide]at this
 unfold mX;simp only;have h:(BitVec.ofInt IntKind.u64.bits u ||| BitVec.ofInt IntKind.u64.bits (pw i*d)).toNat=(u+pw i*d).toNat:=by
  rw[BitVec.toNat_or,BitVec.toNat_ofInt,BitVec.toNat_ofInt];have e:((2 ^ IntKind.u64.bits:Nat):Int)=18446744073709551616:=by decide
  rw[e];have j:(u % 18446744073709551616).toNat=u.toNat:=by omega
  have k:((pw i*d) % 18446744073709551616).toNat=d.toNat <<< (20*i):=by
   rw[Nat.shiftLeft_eq,Int.emod_eq_of_lt a (by omega),b];grind
  rw[j,k,Nat.or_comm,<- Nat.shiftLeft_add_eq_or_of_lt (by omega),Nat.shiftLeft_eq];omega
 rw[h,wu (by omega)];omega
def afT {g:Nat} (h:(bH g).length<=sM):vk (ja g)=some (decide (g=1)):=by
 have A:sM=17592186043904:=rfl;have b:(ja (g:Int)).aa=bH g:=rfl;have l:Ln (g:Int)=(bH g).length:=rfl;unfold vk;have f:g=1->(bH g).length<=4:=by
  rintro rfl;exact ajB (oe (k:=1) (by decide)) (by decide)
 suffices B:∃r,y7 (ja g)=some r∧((if r.2=true then some (r.1==1) else some false)=some (decide (g=1))) by
  grind
 unfold y7;rw[jC (by rw[l];omega),akZ];simp only[akP,aj4,if_false,Option.bind_some,b]
 by_cases C:(bH g).length>4
 ·rw[if_pos (by simp;omega)];grind
 rw[if_neg (by simp;omega)];have key:∃r,aS (vW (ja g)) (0,0)=some r∧(match r with | .inl u=>u=(g:Int) | .inr x=>x=(0,false)∧g≠1):=by
  refine eE (I:=fun i s=>s.2=(i:Int)∧s.1=dv ((bH g).take i)) (bH g).length _ ⟨rfl,rfl⟩ (ng (by omega)) ?_;rintro i ⟨u,s⟩ q ⟨j,c⟩;simp only at j c;subst j c;simp only[vW,b];have d:=(fJ g).take i;have m:=ew d;have e:=uc d;rw[ajP,alw q]at e
  by_cases a:i<(bH g).length
  ·have gd:=(fJ g).get a;rw[if_pos (by simpa using a),ej a,akZ];have t:(if ((i:Int)==3)=true then some (decide ((bH g)[i]>8)) else some false)=some (decide (i=3∧(bH g)[i]>8)):=by
    by_cases v:i=3
    ·subst v;simp
    grind
   rw[t,akZ]
   by_cases p:i=3∧(bH g)[i]>8
   ·right;rw[if_pos (by simpa using p)];refine⟨.inr (0,false),rfl,rfl,?_⟩;rintro rfl;have:=oe (n:=1) (k:=1) (by decide);omega
   ·left;rw[if_neg (by simpa using p),aiZ (by omega) gd (by omega),akZ];have w:pw i*(bH g)[i]<9223372036854775809:=by
     rcases (show i=0∨i=1∨i=2∨i=3 by omega) with h|h|h|h
     ·have:pw i=1:=by rw[h];decide
      rw[this];omega
     ·have:pw i=1048576:=by rw[h];decide
      rw[this];omega
     ·have:pw i=1099511627776:=by rw[h];decide
      rw[this];omega
     ·have:pw i=1152921504606846976:=by rw[h];decide
      rw[this];omega
    rw[ahn (by omega) ⟨m,e⟩ ⟨gd.1,w⟩];exact⟨a,_,rfl,by rw[mG (by omega)];omega,by rw[ma a]⟩
  ·right;have:i=(bH g).length:=by omega
   subst this;exact⟨.inl (dv ((bH g).take (bH g).length)),by simp_all,by rw[alx,cW]⟩
 obtain⟨r,j,c⟩:=key;rw[j,akZ];cases r with
 | inr x=>simp_all
 | inl u =>
  simp only at c;subst c;have y:(ja (g:Int)).ax=(g:Int).sign:=rfl;have z:¬(g:Int).sign<0:=by simp_all
  simp only[y];rw[if_neg (by simp),akZ,if_neg (by simp),if_pos (by simp)]
  by_cases o:(g:Int)<9223372036854775808
  ·rw[if_pos (by simpa using o)];refine⟨_,rfl,?_⟩;simp only[if_true];rw[wrap64 (by omega) o];congr 1;grind
  ·rw[if_neg (by simpa using o)];have:g≠1:=by omega
   simp_all
def b7 (q:Rat):an:=an.mk (ja q.num) (ja q.den)
def LF (q:Rat):Nat:=max (Ln q.num) (Ln q.den)
def wF {p q:Rat} (h:b7 p=b7 q):p=q:=by
 unfold b7 at h;simp only[an.mk.injEq]at h;have a:=V8 h.1;have b:=V8 h.2;exact Rat.ext a (by omega)
def okF (f:an):Bool:=okB f.bL&&okB f.bQ&&(f.bQ.ax==1)&&decide (Nat.gcd (dv f.bL.aa).toNat (dv f.bQ.aa).toNat=1)
def qI {f:an} : okF f=true↔∃q,f=b7 q:=by
 obtain⟨p,q⟩:=f;unfold okF;simp only[aj6,beq_iff_eq,decide_eq_true_eq];constructor
 ·rintro⟨⟨⟨e,g⟩,h⟩,d⟩;obtain⟨x,rfl⟩:=B1.1 e;obtain⟨y,rfl⟩:=B1.1 g;have i:0<y:=by
   have:y.sign=1:=h;simp_all
  have a:(dv (ja x).aa).toNat=x.natAbs:=by show (dv (bH _)).toNat=_;rw[cW];rfl
  have b:(dv (ja y).aa).toNat=y.natAbs:=by show (dv (bH _)).toNat=_;rw[cW];rfl
  rw[a,b]at d;refine⟨⟨x,y.natAbs,by omega,d⟩,?_⟩;unfold b7;grind
 ·rintro⟨q,c⟩;unfold b7 at c;simp only[an.mk.injEq]at c;obtain⟨rfl,rfl⟩:=c;have j:=q.den_pos;refine⟨⟨⟨TN _,TN _⟩,alQ (by omega)⟩,?_⟩;have a:(dv (ja q.num).aa).toNat=q.num.natAbs:=by show (dv (bH _)).toNat=_;rw[cW];rfl
  have b:(dv (ja (q.den:Int)).aa).toNat=q.den:=by show (dv (bH _)).toNat=_;rw[cW];rfl
  rw[a,b];exact q.reduced
def Hj (q:Rat):okF (b7 q)=true:=qI.2 ⟨q,rfl⟩
def acV (f:an):Prop:=f.bL.aa.length<=sM∧f.bQ.aa.length<=sM
def acW {q:Rat} (h:LF q<=eV):acV (b7 q):=by
 unfold LF at h;exact⟨Be (show Ln q.num<=_ by omega),Be (show Ln q.den<=_ by omega)⟩
def xE {f:an} (a:acV f):cT f=some (okF f):=by
 have i:sM=17592186043904:=rfl;obtain⟨p,q⟩:=f;simp only[acV]at a;unfold cT okF;rw[HR (show Fit p.aa by unfold Fit;omega),akZ]
 by_cases c:okB p=true
 ·simp only[c,akP,aj4,if_false,akQ];rw[HR (show Fit q.aa by unfold Fit;omega),akZ]
  by_cases d:okB q=true
  ·simp only[d,akP,aj4,if_false,akQ,Option.bind_some]
   by_cases b:q.ax=1
   ·rw[if_neg (by simp[b])];obtain⟨x,rfl⟩:=B1.1 c;obtain⟨y,rfl⟩:=B1.1 d;rw[Zl a.1 a.2,akZ];simp only[beq_self_eq_true,if_true];have e:(dv (ja x).aa).toNat=x.natAbs:=by show (dv (bH _)).toNat=_;rw[cW];rfl
    have g:(dv (ja y).aa).toNat=y.natAbs:=by show (dv (bH _)).toNat=_;rw[cW];rfl
    rw[afT,akZ,e,g]
    ·rw[b];rfl
    ·have h:0<y.natAbs:=by
      have:y.sign=1:=b;grind
     have:=gM (Nat.gcd_le_right x.natAbs h);have j:(bH y.natAbs).length<=sM:=a.2;show (bH (Nat.gcd x.natAbs y.natAbs)).length<=_;omega
   simp_all
  simp_all
 simp_all
def kC {q:Rat} (h:LF q<=eV):cT (b7 q)=some true:=by rw[xE (acW h),Hj]
def Mc {p q:Int} (f:Ln p<=eV) (e:Ln q<=eV) (i:q≠0):oX (ja p) (ja q)=some (b7 (Rat.divInt p q),0):=by
 have n:eV=4398046511104:=rfl;have d:∀ {p q:Int},Ln p<=eV->Ln q<=eV->0<q ->
   ((tY (ja p) (ja q)).bind fun j=>(rX (ja p) j.1).bind fun k=>(rX (ja q) j.1).bind fun l=>some ((an.mk k.1 l.1),(0:Int)))=some (b7 (Rat.divInt p q),0):=by
  intro p q f e i;have o:0<Int.gcd p q:=Int.gcd_pos_of_ne_zero_right _ (by omega);have g:Ln (Int.gcd p q:Int)<=eV:=by
   have:=gM (Nat.gcd_le_right p.natAbs (show 0<q.natAbs by omega));show (bH (Nat.gcd p.natAbs q.natAbs)).length<=_;have r:(bH q.natAbs).length<=eV:=e;omega
  rw[Zl (Be f) (Be e),akZ];simp only;rw[Y9 f g (by omega) (Int.gcd_dvd_left ..),akZ,Y9 e g (by omega) (Int.gcd_dvd_right ..),akZ];have m:((q.natAbs / Int.gcd p q:Nat):Int)=q / (Int.gcd p q:Int):=by
   grind
  unfold b7;rw[Rat.num_divInt,Rat.den_divInt,if_neg (by omega),alQ i,Int.one_mul,Int.gcd_comm q p,m]
 unfold oX;rw[jC (by omega),akZ];simp only[akP,aj4,if_false];rw[jC (by omega),akZ,akZ];simp only[akP,aj4,if_false];have h:(ja q).ax=q.sign:=rfl;rw[h];rcases Cc q with⟨a,b,c⟩|⟨a,b,c⟩|⟨a,b⟩
 ·rw[if_neg (by rw[a];decide),if_neg (by rw[a];decide),akZ];exact d f e c
 ·rw[if_neg (by rw[a];decide),if_pos (by rw[a];decide),SH f,akZ,SH e,akZ,akZ];have:=d (p := -p) (q := -q) (by rw[Mb];exact f) (by rw[Mb];exact e) (by omega);rw[Rat.neg_divInt_neg]at this;exact this
 omega
def mM (q:Rat):Ln q.num<=LF q:=by unfold LF;omega
def oO (q:Rat):Ln q.den<=LF q:=by unfold LF;omega
def u6 {p q:Int} (a:q≠0):LF (Rat.divInt p q)<=max (Ln p) (Ln q):=by
 have d:0<Int.gcd q p:=Int.gcd_pos_of_ne_zero_left _ a;have e:Ln (Rat.divInt p q).num<=Ln p:=by
  apply UN;rw[Rat.num_divInt];obtain⟨z,b⟩:(Int.gcd q p:Int)∣q.sign*p:=Int.dvd_mul_of_dvd_right (Int.gcd_dvd_right ..);rw[b,Int.mul_ediv_cancel_left _ (by omega)];have c:(q.sign*p).natAbs=p.natAbs:=by
   grind
  rw[<- c,b,Int.natAbs_mul];exact Nat.le_mul_of_pos_left _ (by omega)
 have c:Ln ((Rat.divInt p q).den:Int)<=Ln q:=by
  apply UN;rw[Rat.den_divInt,if_neg a];exact Nat.div_le_self _ _
 unfold LF;omega
def Ff {a b:Rat} (h:LF a+LF b+1<=eV):ik (b7 a) (b7 b)=some (b7 (a+b),0):=by
 have d:=mM a;have e:=mM b;have d1:=oO a;have d2:=oO b;have f:=ly a.num b.den;have g:=ly b.num a.den;have i:=ly a.den b.den;have j:=SG (a.num*b.den) (b.num*a.den);unfold ik;rw[kC (by omega),akZ];simp only[akP,aj4,if_false];rw[kC (by omega),akZ,akZ];simp only[akP,aj4,if_false];show (cU (ja a.num) (ja b.den)).bind _=_;rw[pz (by omega) (by omega),akZ];show (cU (ja b.num) (ja a.den)).bind _=_;rw[pz (by omega) (by omega),akZ,afi (by omega) (by omega),akZ];show (cU (ja a.den) (ja b.den)).bind _=_;have c:(a.den:Int)*b.den≠0:=by
  rw[<- alP];have:=Nat.mul_pos a.den_pos b.den_pos;omega
 rw[pz (by omega) (by omega),akZ,Mc (by omega) (by omega) c,akZ];rw[Rat.add_def',<- Rat.divInt_ofNat,alP]
def vS (a b:Rat):LF (a+b)<=LF a+LF b+1:=by
 have d:=mM a;have e:=mM b;have d1:=oO a;have d2:=oO b;have f:=ly a.num b.den;have g:=ly b.num a.den;have h:=ly a.den b.den;have i:=SG (a.num*b.den) (b.num*a.den);have c:(a.den:Int)*b.den≠0:=by
  rw[<- alP];have:=Nat.mul_pos a.den_pos b.den_pos;omega
 rw[Rat.add_def',<- Rat.divInt_ofNat,alP];have:=u6 (p:=a.num*b.den+b.num*a.den) c;omega
def Zp (a:Rat):LF (-a)=LF a:=by unfold LF;rw[Rat.neg_num,Rat.neg_den,Mb]
def SF (a b:Rat):LF (a-b)<=LF a+LF b+1:=by
 rw[Rat.sub_eq_add_neg];have:=vS a (-b);rw[Zp]at this;exact this
def aev {a b:Rat} (h:LF a+LF b+1<=eV):te (b7 a) (b7 b)=some (b7 (a-b),0):=by
 unfold te;rw[kC (by omega),akZ];simp only[akP,aj4,if_false];rw[kC (by omega),akZ,akZ];simp only[akP,aj4,if_false];show (rY (ja b.num)).bind _=_;have c:=mM b;rw[SH (by omega),akZ];have e:an.mk (ja (-b.num)) (b7 b).bQ=b7 (-b):=by unfold b7;simp_all
 rw[e,Ff (by rw[Zp];exact h),akZ,Rat.sub_eq_add_neg]
def UO {a b:Rat} (h:LF a+LF b<=eV):oW (b7 a) (b7 b)=some (b7 (a*b),0):=by
 have d:=mM a;have e:=mM b;have d1:=oO a;have d2:=oO b;have f:=ly a.num b.num;have g:=ly a.den b.den;unfold oW;rw[kC (by omega),akZ];simp only[akP,aj4,if_false];rw[kC (by omega),akZ,akZ];simp only[akP,aj4,if_false];show (cU (ja a.num) (ja b.num)).bind _=_;rw[pz (by omega) (by omega),akZ];show (cU (ja a.den) (ja b.den)).bind _=_;have c:(a.den:Int)*b.den≠0:=by
  rw[<- alP];have:=Nat.mul_pos a.den_pos b.den_pos;omega
 rw[pz (by omega) (by omega),akZ,Mc (by omega) (by omega) c,akZ];rw[Rat.mul_def',<- Rat.divInt_ofNat,alP]
def vT (a b:Rat):LF (a*b)<=LF a+LF b:=by
 have d:=mM a;have e:=mM b;have d1:=oO a;have d2:=oO b;have f:=ly a.num b.num;have g:=ly a.den b.den;have c:(a.den:Int)*b.den≠0:=by
  rw[<- alP];have:=Nat.mul_pos a.den_pos b.den_pos;omega
 rw[Rat.mul_def',<- Rat.divInt_ofNat,alP];have:=u6 (p:=a.num*b.num) c;omega
def FQ (a b:Rat):a / b=Rat.divInt (a.num*b.den) (a.den*b.num):=by
 rw[alR,Rat.inv_def]
 conv=>lhs;rw[<- Rat.num_divInt_den a]
 rw[Rat.divInt_mul_divInt]
def agF {a b:Rat} (h:LF a+LF b<=eV) (h0:b≠0):qT (b7 a) (b7 b)=some (b7 (a / b),0):=by
 have j:=mM a;have k:=mM b;have d1:=oO a;have d2:=oO b;have l:=ly a.num b.den;have m:=ly a.den b.num;have f:b.num≠0:=fun g=>h0 (Rat.num_eq_zero.1 g);unfold qT;rw[kC (by omega),akZ];simp only[akP,aj4,if_false];rw[kC (by omega),akZ,akZ];simp only[akP,aj4,if_false];have i:(b7 b).bL.ax=b.num.sign:=rfl;have e:b.num.sign≠0:=by rcases Cc b.num with⟨a,b,c⟩|⟨a,b,c⟩|⟨a,b⟩<;>omega
 rw[i,if_neg (by simpa using e)];show (cU (ja a.num) (ja b.den)).bind _=_;rw[pz (by omega) (by omega),akZ];show (cU (ja a.den) (ja b.num)).bind _=_;have d:(a.den:Int)*b.num≠0:=Int.mul_ne_zero (by have:=a.den_pos;omega) f;rw[pz (by omega) (by omega),akZ,Mc (by omega) (by omega) d,akZ,FQ]
def Zo {a b:Rat} (h0:b≠0):LF (a / b)<=LF a+LF b:=by
 have f:=mM a;have g:=mM b;have d1:=oO a;have d2:=oO b;have h:=ly a.num b.den;have i:=ly a.den b.num;have d:b.num≠0:=fun e=>h0 (Rat.num_eq_zero.1 e);have c:(a.den:Int)*b.num≠0:=Int.mul_ne_zero (by have:=a.den_pos;omega) d;rw[FQ];have:=u6 (p:=a.num*b.den) c;omega
def Zn {n:Int} (h : -9223372036854775808<=n∧n<9223372036854775808):fY n=some (b7 n):=by
 unfold fY;rw[UP h,akZ,UP (by decide),akZ];unfold b7;simp_all
def Ah {n:Int} (h:n.natAbs<1048576):LF (n:Rat)<=1:=by
 unfold LF;rw[Rat.num_intCast,Rat.den_intCast];have a:=N4 h;have b:=N4 (x:=((1:Nat):Int)) (by decide);omega
def uE {a:Rat} (h:LF a<=eV):gj (b7 a)=some a.num.sign:=by
 unfold gj;rw[kC h,akZ];rfl
def OP (a b:Rat):Int:=if a<b then -1 else if b<a then 1 else 0
def ade (a b:Rat):l7 (a.num*b.den) (b.num*a.den)=OP a b:=by
 unfold l7 OP;simp only[Rat.lt_iff]
def Jf {a b:Rat} (h:LF a+LF b<=eV):jv (b7 a) (b7 b)=some (OP a b):=by
 have c:=mM a;have d:=mM b;have d1:=oO a;have d2:=oO b;have e:=ly a.num b.den;have f:=ly b.num a.den;unfold jv;rw[kC (by omega),akZ];simp only[akP,aj4,if_false];rw[kC (by omega),akZ,akZ];simp only[akP,aj4,if_false];show (cU (ja a.num) (ja b.den)).bind _=_;rw[pz (by omega) (by omega),akZ];show (cU (ja b.num) (ja a.den)).bind _=_;rw[pz (by omega) (by omega),akZ,SD (by omega) (by omega),akZ,ade]
instance:DecidableEq aK:=fun a b=>decidable_of_iff (a.ax=b.ax∧a.aa=b.aa) (by cases a;cases b;simp)
instance:DecidableEq an:=fun a b=>decidable_of_iff (a.bL=b.bL∧a.bQ=b.bQ) (by cases a;cases b;simp)
def Zt {x:Int} (h : -9223372036854775808<=x∧x<9223372036854775808):Ln x<=eV:=by
 have:Ln x<=4:=N3 (by rw[pw4];omega);have a:eV=4398046511104:=rfl;omega
def afE (f:an) (n:Int):wI f n=some (decide ((f.bL.aa.length:Int)<=n∧(f.bQ.aa.length:Int)<=n)):=by
 unfold wI;grind
def aba {σ ρ:Type} {a:σ->Option (σ⊕ρ)} {n:Nat} {s b:σ} (h:a s=some (.inl b)):rL a (n+1) s=rL a n b:=by simp only[rL,h]
def P8 {σ ρ:Type} {a:σ->Option (σ⊕ρ)} {n:Nat} {s:σ} {r:ρ} (h:a s=some (.inr r)):rL a (n+1) s=some r:=by simp only[rL,h]
def ba {i:Nat} (h:i<4611686018427387904):IntKind.i64.wrap ((i:Int)+1)=((i+1:Nat):Int):=by rw[wrap64 (by omega) (by omega)];omega
def aT {α:Type} {l:List α} {i:Nat} {x:α} (h:l[i]? = some x):P.idx l (i:Int)=some x:=P3 (by omega) (by simpa using h)
def aP {α:Type} {l:List α} {i:Nat} {x:α} (h:l[i]? = some x):i<l.length:=(ajZ.1 h).1
def drop_cons {α:Type} {l a:List α} {i:Nat} {x:α} (h:l.drop i=x::a):i<l.length∧l[i]? = some x∧l.drop (i+1)=a:=by
 have b:i<l.length:=by
  rcases akc i l.length with h1|h1
  ·exact h1
  ·rw[ak9 h1]at h;cases h
 rw[alo b]at h;grind
def eC {α ρ:Type} (a:Nat->α->Option ρ):Nat->List α->Option ρ
 | _,[]=>none
 | i,x::l=>match a i x with|some r=>some r|none=>eC a (i+1) l
def cM {α ρ:Type} {st:Nat->α->Option ρ} : ∀ {l:List α} {i:Nat},eC st i l=none↔∀(j:Nat) x,l[j]? = some x->st (i+j) x=none
 | [],i=>by simp[eC]
 | x::l,i=>by
  simp only[eC];constructor
  ·intro h j y a;cases c:st i x with
   | some r=>simp_all
   | none =>
    rw[c]at h;cases j with
    | zero=>simp_all
    | succ j =>
     have:=cM.1 h j y (by simpa using a);grind
  ·intro h;have b:=h 0 x rfl;simp only[Nat.add_zero]at b;rw[b];refine cM.2 fun j y a =>?_;have:=h (j+1) y (by simpa using a);grind
def da {α ρ:Type} {st:Nat->α->Option ρ} {r:ρ} : ∀ {l:List α} {i:Nat},eC st i l=some r->∃(j:Nat) (x:α),l[j]? = some x∧st (i+j) x=some r∧∀(k:Nat) y,k<j->l[k]? = some y->st (i+k) y=none
 | [],i,h=>by cases h
 | x::l,i,h=>by
  simp only[eC]at h;cases a:st i x with
  | some r' =>
   rw[a]at h;exact⟨0,x,rfl,by simp_all,fun k y b=>by omega⟩
  | none =>
   rw[a]at h;obtain⟨j,y,c,d,e⟩:=da h;refine⟨j+1,y,by simpa using c,by grind,fun k z b f =>?_⟩;cases k with
   | zero=>simp_all
   | succ k =>
    grind
def oA {α ρ:Type} (l:List α) {body:Int->Option (Int⊕(Unit⊕ρ))} (b:Nat->α->Option ρ) (e:l.length<4611686018427387904)
  (h:∀(i:Nat) x,l[i]? = some x->body (i:Int)=some (match b i x with|none =>.inl ((i+1:Nat):Int)|some r =>.inr (.inr r))) (j:body (l.length:Int)=some (.inr (.inl ()))) :
  aS body 0=some (match eC b 0 l with|none =>.inl ()|some r =>.inr r):=by
 have key:∀(rest:List α) (i a:Nat),i<=l.length->l.drop i=rest->rest.length<a->rL body a (i:Int)=some (match eC b i rest with|none =>.inl ()|some r =>.inr r):=by
  intro rest
  induction rest with
  | nil =>
   intro i a k g c;obtain⟨f,rfl⟩:∃f,a=f+1:=⟨a-1,by simp at c;omega⟩;have m:l.length<=i:=by
    simp_all
   have:i=l.length:=by omega
   subst this;rw[P8 j];rfl
  | cons x rest n =>
   intro i a k g c;obtain⟨f,rfl⟩:∃f,a=f+1:=⟨a-1,by simp at c;omega⟩;obtain⟨o,p,q⟩:=drop_cons g;have:=h i x p;cases d:b i x with
   | some r =>
    rw[d]at this;rw[P8 this];simp only[eC,d]
   | none =>
    rw[d]at this;rw[aba this,n (i+1) f o q (by simp at c;omega)];simp only[eC,d]
 exact key l 0 FU (ajA _) rfl (by have:FU=1000000000000000000000000:=rfl;omega)
def p9 {α σ ρ:Type} {body:Int×σ->Option ((Int×σ)⊕ρ)} (l:List α) (d:l.length<=17592186044416) (inv:Nat->σ->Prop) (Q:ρ->Prop) {s0:σ} (e:inv 0 s0)
  (a:∀(i:Nat) x s,l[i]? = some x->inv i s->∃b,body ((i:Int),s)=some (.inl (((i+1:Nat):Int),b))∧inv (i+1) b)
  (c:∀s,inv l.length s->∃r,body ((l.length:Int),s)=some (.inr r)∧Q r):∃r,aS body ((0:Int),s0)=some r∧Q r:=by
 refine eE (fun i s=>s.1=(i:Int)∧inv i s.2) l.length Q ⟨rfl,e⟩ (ng d) ?_;rintro i ⟨k,s⟩ g ⟨rfl,f⟩;rcases akc i l.length with h|h
 ·obtain⟨b,j,m⟩:=a i _ s (ajL h) f;simp_all
 grind
def dm {α:Type} {N j:Nat} (f:Nat->α) (h:j<N):((List.range N).map f)[j]? = some (f j):=by simp[h]
def qq {α:Type} {N:Nat} (f:Nat->α):((List.range N).map f).length=N:=by simp
def gh {α:Type} {l:List α} {N:Nat} {f:Nat->α} (a:l.length=N) (h:∀j,j<N->l[j]? = some (f j)):l=(List.range N).map f:=by
 apply aly;grind
def gE {α:Type} {N i:Nat} (f:Nat->α) (v:α):((List.range N).map f).set i v=(List.range N).map fun j=>if j=i then v else f j:=by
 refine gh (by simp) fun j a =>?_;grind
def AK {α β:Type} {mk:β->α} {R:β->Prop} : ∀ {l:List α},(∀x∈l,∃y,x=mk y∧R y)->∃a:List β,l=a.map mk∧∀y∈a,R y
 | [],_=>⟨[],rfl,fun _ h=>by cases h⟩
 | x::l,h=>by
  obtain⟨y,c,d⟩:=h x (akU ..);obtain⟨a,e,f⟩:=AK (l:=l) fun z b=>h z (akV _ b);refine⟨y::a,by simp_all,fun z b =>?_⟩;grind
def Nc {α:Type} {R:α->α->Prop} (g:∀a b c,R a b->R b c->R a c) {l:List α} (h:∀(i:Nat) a b,l[i]? = some a->l[i+1]? = some b->R a b):l.Pairwise R:=by
 rw[alB];intro i j k f e;obtain⟨d,rfl⟩:∃d,j=i+1+d:=⟨j-(i+1),by omega⟩;clear e
 induction d with
 | zero=>exact h i _ _ (ajL k) (ajL f)
 | succ d m=>exact g _ _ _ (m (by omega)) (h (i+1+d) _ _ (ajL (by omega)) (ajL f))
abbrev Tk:=Nat×Nat×Rat
def yy (t:Tk):cA:=cA.mk (t.1:Int) (t.2.1:Int) (b7 t.2.2)
def rE (N:Nat) (tk:List Tk):gY:=gY.mk (N:Int) (tk.map yy)
def Wb {a b:Tk} (h:yy a=yy b):a=b:=by
 unfold yy at h;injection h with d e c;exact Prod.ext (by omega) (Prod.ext (by omega) (wF c))
def MW {N M:Nat} {a b:List Tk} (h:rE N a=rE M b):N=M∧a=b:=by
 unfold rE at h;injection h with d c;refine⟨by omega,?_⟩;exact List.map_inj_right (f:=yy) (fun x y h=>Wb h) |>.1 c
def u3:List Tk->Nat->Rat
 | [],_=>0
 | t::l,p=>(if t.1=p then t.2.2 else 0)+u3 l p
def Rn (a b:List Tk) (p:Nat):u3 (a++b) p=u3 a p+u3 b p:=by
 induction a with
 | nil=>rw[ak6,u3,Rat.zero_add]
 | cons t a c=>rw[alh,u3,u3,c];grind
def fl (tk:List Tk) (p:Nat):Rat:=1-u3 tk p
def GU {tk:List Tk} {i:Nat} {t:Tk} (h:tk[i]? = some t) (p:Nat):fl (tk.take (i+1)) p=fl (tk.take i) p-(if t.1=p then t.2.2 else 0):=by
 obtain⟨a,b⟩:=ajZ.1 h;unfold fl;rw[alX a,Rn,b];simp only[u3];grind
def L8 {tk:List Tk} {K:Nat} (a:∀t∈tk,LF t.2.2<=K) (p:Nat):∀i,i<=tk.length->LF (fl (tk.take i) p)<=1+i*(K+1)
 | 0,_=>by
  have:fl (tk.take 0) p=((1:Int):Rat):=by unfold fl;rw[alp,u3];grind
  rw[this];exact ajB (Ah (n:=1) (by decide)) (by omega)
 | i+1,h=>by
  have c:=L8 a p i (by omega);have b:tk[i]? = some tk[i]:=ajL (by omega);rw[GU b];have d:=a _ (ajK (show i<tk.length by omega));rw[ala];split
  ·have:=SF (fl (tk.take i) p) tk[i].2.2;omega
  grind
def N2 {tk:List Tk} {K:Nat} (a:∀t∈tk,LF t.2.2<=K) (p:Nat):LF (fl tk p)<=1+tk.length*(K+1):=by
 have:=L8 a p tk.length (ajz _);simp_all
def Ee {α:Type} {N B:Nat} (z:α) (h:N*B<=140737488355328) (a:N<=2000):Iv B (N:Int) (N:Int) z=some (List.replicate N z):=by
 unfold Iv;have:(2000:Nat)<=maxLen:=by decide
 grind
def adv:fY 1=some (b7 1):=Zn (n:=1) (by decide)
def Qi {N K:Nat} {tk:List Tk} (q:N<=2000) (k:tk.length<=8000) (s:∀t∈tk,t.1<N) (y:K<=1000000) (m:∀t∈tk,LF t.2.2<=K) :
  qn (rE N tk)=some ((List.range N).map fun p=>b7 (fl tk p)):=by
 unfold qn rE;simp only;rw[Ee _ (by omega) q,akZ];have a:∃r,aS (pc (List.replicate N (an.mk (aK.mk 0 []) (aK.mk 0 [])))) ((0:Int),List.replicate N (an.mk (aK.mk 0 []) (aK.mk 0 [])))=some r∧r=(List.range N).map fun p=>b7 (fl (tk.take 0) p):=by
  refine p9 (List.replicate N (an.mk (aK.mk 0 []) (aK.mk 0 []))) (by simp;omega) (fun i l=>l.length=N∧∀j,j<i->l[j]? = some (b7 1)) _ ⟨by simp,fun j b=>by omega⟩ ?_ ?_
  ·rintro i x l z ⟨c,d⟩;have u:i<N:=by grind
   have e:l[i]? = some l[i]:=ajL (by omega);refine⟨l.set i (b7 1),?_,by simpa using c,fun j b =>?_⟩
   ·simp only[pc];rw[if_pos (by simp;omega),adv,akZ,aT e,akZ,ba (by omega),akp]
   grind
  ·rintro l ⟨c,d⟩;refine⟨l,?_,?_⟩
   ·simp only[pc];simp_all
   ·rw[List.length_replicate]at d;refine gh c fun j b =>?_;rw[d j b,alp];congr 2;unfold fl u3;grind
 obtain⟨r,a,rfl⟩:=a;rw[a,akZ];have A:∃r,aS (pe (gY.mk (N:Int) (tk.map yy))) ((0:Int),(List.range N).map fun p=>b7 (fl (tk.take 0) p))=some r∧r=(List.range N).map fun p=>b7 (fl tk p):=by
  refine p9 tk (by omega) (fun i l=>l=(List.range N).map fun p=>b7 (fl (tk.take i) p)) _ rfl ?_ ?_
  ·rintro i t _ g rfl;have u:=aP g;have n:=ajX g;have h:=s t n;have e:(tk.map yy)[i]? = some (yy t):=by simp_all
   refine⟨_,?_,rfl⟩;simp only[pe];have v:=L8 m t.1 i (by omega);have w:=m t n;have o:i*(K+1)<=8000*1000001:=alY (by omega) (by omega);rw[if_pos (by simp;omega),aT e,akZ];simp only[yy];rw[aT (dm _ h),akZ,aev (by unfold eV;omega),akZ,ba (by omega),akp,gE];congr 3;refine congrArg (fun f=>(List.range N).map f) (funext fun p =>?_);rw[GU g];grind
  ·rintro _ rfl;refine⟨_,?_,rfl⟩;simp only[pe];simp_all
 simp_all
def V4 (a b:Tk):Prop:=a.1<b.1∨(a.1=b.1∧a.2.1<b.2.1)
def Yg (a b c:Tk) (h:V4 a b) (k:V4 b c):V4 a c:=by unfold V4 at *;omega
structure lz (N:Nat) (tk:List Tk):Prop where
 ports:N<=2000
 takes:tk.length<=8000
 ok:∀t∈tk,t.1<N∧t.2.1<N∧0<t.2.2
 sorted:tk.Pairwise V4
 leak:∀p,p<N->0<=fl tk p
def mH (a b c:Int):fu a b c=some (decide (b<=a∧a<=c)):=by
 unfold fu;grind
def Xr (a b:cA):∃c,qk a b=some c∧(c<0↔(a.dh<b.dh∨(a.dh=b.dh∧a.kF<b.kF))):=by
 unfold qk;rw[Cq,akZ,Cq,akZ,aeq,akZ];refine⟨_,rfl,?_⟩;unfold l7;omega
def pt {q:Rat} : q.num.sign<0↔q<0:=by
 rw[Int.sign_neg_iff,<- Rat.not_le,<- Rat.num_nonneg];omega
def ab0 {q:Rat} : q.num.sign=0↔q=0:=by
 simp_all
def E6 {q:Rat} : 0<q.num.sign↔0<q:=by
 constructor
 ·intro h;have b:¬q<0:=fun a=>by have:=pt.2 a;omega
  have c:q≠0:=fun a=>by simp_all
  grind
 ·intro h;have b:¬q.num.sign<0:=fun a=>by have:=pt.1 a;grind
  have c:q.num.sign≠0:=fun a=>by simp_all
  omega
def rS {q:Rat} {k:Nat} (a:(b7 q).bL.aa.length<=k) (b:(b7 q).bQ.aa.length<=k):LF q<=k:=by
 unfold LF Ln;exact Nat.max_le.2 ⟨a,b⟩
def E1 {q:Rat} {k:Nat} (h:LF q<=k):(b7 q).bL.aa.length<=k∧(b7 q).bQ.aa.length<=k:=by
 unfold LF Ln at h;exact Nat.max_le.1 h
def FO {l:List Rat} (g:l.length<=17592186044416) (d:∀q∈l,LF q<=eV):cI (l.map b7)=some (decide (∃q∈l,q<0)):=by
 unfold cI dO;rw[oA l (fun i q=>if q<0 then some (i:Int) else none) (by omega) (fun i q a =>?_) (by simp only[ez];simp_all)]
 ·rw[akZ];cases b:eC (fun i (q:Rat)=>if q<0 then some (i:Int) else none) 0 l with
  | none =>
   simp only;rw[akZ,decide_eq_false (by decide),decide_eq_false];rintro⟨q,a,hn⟩;obtain⟨j,e⟩:=ajS a;have:=cM.1 b j q e;simp_all
  | some r =>
   obtain⟨j,q,f,c,_⟩:=da b
   by_cases hn:q<0
   ·rw[if_pos hn]at c;cases c;simp only;rw[akZ,decide_eq_true (by omega),decide_eq_true ⟨q,ajX f,hn⟩]
   simp_all
 ·have k:=aP a;simp only[ez,qZ];rw[if_pos (by simp;omega),aT (x:=b7 q) (by simp_all),akZ,uE (d q (ajX a)),akZ,akZ]
  by_cases hn:q<0
  ·rw[decide_eq_true (pt.2 hn),if_pos hn];rfl
  ·rw[decide_eq_false (fun h=>hn (pt.1 h)),if_neg hn,ba (by omega)];rfl
def Yp (N:Nat) (x:cA):Bool:=decide (0<=x.dh∧x.dh<=(N:Int)-1)&&decide (0<=x.kF∧x.kF<=(N:Int)-1)&&okF x.gp&&decide (0<x.gp.bL.ax)
def Xq (a b:cA):Prop:=a.dh<b.dh∨(a.dh=b.dh∧a.kF<b.kF)
instance (a b:cA):Decidable (Xq a b):=by unfold Xq;infer_instance
def BN (N:Nat) (l:List cA) (i:Nat) (x:cA):Bool:=Yp N x&&(decide (i=0)||(match l[i-1]? with|some y=>decide (Xq y x)|none=>false))
def Q6 {N:Nat} {x:cA} : Yp N x=true↔∃t:Tk,x=yy t∧t.1<N∧t.2.1<N∧0<t.2.2:=by
 unfold Yp;simp only[aj6,decide_eq_true_eq];constructor
 ·rintro⟨⟨⟨c,d⟩,a⟩,b⟩;obtain⟨q,e⟩:=qI.1 a;refine⟨(x.dh.toNat,x.kF.toNat,q),?_,by simp only;omega,by simp only;omega,?_⟩
  ·unfold yy;cases x;grind
  ·rw[e]at b;exact E6.1 b
 ·rintro⟨t,rfl,c,d,a⟩;exact⟨⟨⟨by simp only[yy];omega,by simp only[yy];omega⟩,Hj _⟩,E6.2 a⟩
def U5 {a b:Tk} : Xq (yy a) (yy b)↔V4 a b:=by
 unfold Xq V4 yy;simp only;omega
def aaY {n:gY} {N j:Nat} {x:cA} (b:n.aA=(N:Int)) (c:n.bk[j]? = some x) (a:¬BN N n.bk j x=true):¬ ∃M tk,n=rE M tk∧lz M tk:=by
 rintro⟨M,tk,rfl,e⟩;apply a;simp only[rE]at c b ⊢;obtain rfl:M=N:=by omega
 rw[ajw,ajx]at c;obtain⟨t,f,rfl⟩:=c;have g:=ajX f;unfold BN;rw[Q6.2 ⟨t,rfl,e.ok t g⟩,akQ];cases j with
 | zero=>simp
 | succ j =>
  have d:=aP f;have h:tk[j]? = some tk[j]:=ajL (by omega);rw[alb,ajw,h];simp only[Option.map_some];rw[decide_eq_true (U5.2 ?_),Bool.or_true];have:=alB.1 e.sorted j (j+1) (by omega) d (by omega);simp_all
def aaX {n:gY} {N K:Nat} (e:n.aA=(N:Int)) (q:n.bk.length<=8000) (h:∀t∈n.bk,t.gp.bL.aa.length<=K∧t.gp.bQ.aa.length<=K) (c:∀(j:Nat) x,n.bk[j]? = some x->BN N n.bk j x=true) :
  ∃tk,n=rE N tk∧(∀t∈tk,t.1<N∧t.2.1<N∧0<t.2.2)∧tk.Pairwise V4∧(∀t∈tk,LF t.2.2<=K)∧tk.length=n.bk.length:=by
 obtain⟨tk,d,g⟩:=AK (mk:=yy) (R:=fun t=>t.1<N∧t.2.1<N∧0<t.2.2) (l:=n.bk) fun x k=>by
  obtain⟨j,m⟩:=ajS k;have:=c j x m;unfold BN at this;rw[aj6]at this;exact Q6.1 this.1
 have r:n=rE N tk:=by
  unfold rE;rw[<- e,<- d]
 have f:tk.Pairwise V4:=Nc Yg fun i a b o s=>by
  have:=c (i+1) (yy b) (by simp_all);unfold BN at this;rw[aj6,alb,d,ajw,o]at this;simpa [U5] using this.2
 have p:∀t∈tk,LF t.2.2<=K:=fun t u=>by
  have:=h (yy t) (by grind);exact rS this.1 this.2
 grind
def Lm {n:gY} {K:Nat} (O:K<=1000000) (P:∀t∈n.bk,t.gp.bL.aa.length<=K∧t.gp.bQ.aa.length<=K) :
  ∃b,qh n=some b∧(b=true↔∃N tk,n=rE N tk∧lz N tk):=by
 unfold qh;rw[mH,akZ]
 by_cases D:0<=n.aA∧n.aA<=2000
 rotate_left
 ·rw[decide_eq_false D];refine⟨false,by simp,?_⟩;simp only[aj4,false_iff];rintro⟨N,tk,rfl,h⟩;have:=h.ports;simp only[rE]at D;omega
 rw[decide_eq_true D];simp only[akP,aj4,if_false,Option.bind_some]
 by_cases E:(n.bk.length:Int)>8000
 ·rw[decide_eq_true E];refine⟨false,by simp,?_⟩;simp only[aj4,false_iff];rintro⟨N,tk,rfl,h⟩;have:=h.takes;simp only[rE,aj0]at E;omega
 rw[decide_eq_false E];simp only[aj4,if_false];obtain⟨N,e⟩:∃N:Nat,n.aA=(N:Int):=⟨n.aA.toNat,by omega⟩;have F:IntKind.i64.wrap (n.aA-1)=(N:Int)-1:=by rw[e,wrap64 (by omega) (by omega)]
 have T:K<=sM:=ajB O (by unfold sM;omega);have f:=oA n.bk (body:=pb n) (fun i x=>if BN N n.bk i x=true then none else some false) (by omega) (fun i x G=>by
  have hi:=aP G;obtain⟨s,u⟩:=P x (ajX G);simp only[pb];rw[if_pos (by simp;omega),aT G,akZ,mH,akZ,F];have g:(if (!decide (0<=x.dh∧x.dh<=(N:Int)-1))=true then some true
   else (fu x.kF 0 ((N:Int)-1)).bind fun H =>
    if (!H)=true then some true
    else (cT x.gp).bind fun I=>if (!I)=true then some true else (gj x.gp).bind fun J=>some (decide (J<=0)))=some (!Yp N x):=by
   unfold Yp
   by_cases U:0<=x.dh∧x.dh<=(N:Int)-1
   rotate_left
   ·grind
   rw[decide_eq_true U,mH,akZ]
   by_cases V:0<=x.kF∧x.kF<=(N:Int)-1
   rotate_left
   ·grind
   rw[decide_eq_true V,xE ⟨by omega,by omega⟩,akZ];cases k:okF x.gp with
   | false=>simp
   | true =>
    obtain⟨q,k⟩:=qI.1 k;rw[k]at s u ⊢;have l:=rS s u;rw[uE (by unfold eV;omega),akZ];have:(b7 q).bL.ax=q.num.sign:=rfl;rw[this]
    by_cases c3:q.num.sign<=0
    ·simp_all
    simp_all
  rw[g,akZ];unfold BN;cases W:Yp N x with
  | false=>simp
  | true =>
   simp only[akP,aj4,if_false,akQ];cases i with
   | zero=>rw[if_neg (by simp),ba (by omega)];simp
   | succ i =>
    rw[if_pos (by simp)];have Q:n.bk[i]? = some n.bk[i]:=ajL (by omega);have X:IntKind.i64.wrap (((i+1:Nat):Int)-1)=(i:Int):=by rw[wrap64 (by omega) (by omega)];omega
    obtain⟨c,L,v⟩:=Xr n.bk[i] x;rw[X,aT Q,akZ,L,akZ,alb,Q];simp only[Nat.add_eq_zero_iff,alu,and_false,decide_false,aks]
    by_cases hb:Xq n.bk[i] x
    ·rw[if_neg (by simp;exact v.2 hb),decide_eq_true hb,ba (by omega)];rfl
    ·rw[if_pos (by simp only[decide_eq_true_eq];have:¬c<0:=fun h=>hb (v.1 h);omega),decide_eq_false hb];rfl) (by
  unfold pb;simp_all)
 rw[f,akZ];cases w:eC (fun i x=>if BN N n.bk i x=true then none else some false) 0 n.bk with
 | some r =>
  obtain⟨j,x,Y,y,_⟩:=da w;simp only[akw]at y;split at y
  ·cases y
  rename_i z;cases y;refine⟨false,rfl,?_⟩;simp only[aj4,false_iff];exact aaY e Y z
 | none =>
  have A:=cM.1 w;simp only[akw]at A;have m:∀(j:Nat) x,n.bk[j]? = some x->BN N n.bk j x=true:=fun j x hj=>by
   simp_all
  obtain⟨tk,Z,d,o,l,aa⟩:=aaX e (by omega) P m;have a:tk.length<=8000:=by omega
  have B:N<=2000:=by omega
  simp only;rw[Z,Qi B a (fun t ht=>(d t ht).1) O l,akZ];have C:((List.range N).map fun p=>b7 (fl tk p))=((List.range N).map fun p=>fl tk p).map b7:=by simp_all
  rw[C,FO (by simp;omega) (fun q k=>by
   obtain⟨p,_,rfl⟩:=ajy.1 k;have:=N2 l p;have y:tk.length*(K+1)<=8000*1000001:=alY a (by omega);unfold eV;omega),akZ]
  refine⟨_,rfl,?_⟩;simp only[Bool.not_eq_true',decide_eq_false_iff_not];constructor
  ·intro ab;refine⟨N,tk,rfl,⟨B,a,d,o,fun p R =>?_⟩⟩
   by_cases h0:fl tk p<0
   ·simp_all
   ·grind
  ·rintro⟨M,ad,he,hR⟩ ⟨q,k,S⟩;obtain⟨rfl,rfl⟩:=MW he;obtain⟨p,R,rfl⟩:=ajy.1 k;have:=hR.leak p (ak2.1 R);grind
def BZ:∀(N:Nat) (l:List Nat),l.Nodup->(∀x∈l,x<N)->l.length<=N
 | 0,l,_,h=>by
  cases l with
  | nil=>simp
  | cons x l=>exact absurd (h x (akU ..)) (by omega)
 | N+1,l,a,h=>by
  have b:=BZ N (l.erase N) (a.erase N) fun x c=>by
   have d:=h x (List.mem_of_mem_erase c);have f:x≠N:=fun e=>by subst e;exact (List.Nodup.mem_erase_iff a).1 c |>.1 rfl
   omega
  rw[List.length_erase]at b;split at b<;>omega
def mg (l:List Nat):List Int:=l.map fun (p:Nat)=>(p:Int)
def abG {l:List Nat} {i p:Nat} (h:l[i]? = some p):(mg l)[i]? = some (p:Int):=by unfold mg;rw[ajw,h];rfl
def qY (l:List Nat):(mg l).length=l.length:=aj0 ..
def mW (tk:List Tk) (p:Nat):List Nat:=(tk.filter fun t=>decide (t.2.1=p)).map fun t=>t.1
def KO {tk:List Tk} {p q:Nat} : q∈mW tk p↔∃t∈tk,t.1=q∧t.2.1=p:=by
 unfold mW;simp only[ajy,ak0,decide_eq_true_eq];constructor
 ·rintro⟨t,⟨a,b⟩,c⟩;exact⟨t,a,c,b⟩
 ·rintro⟨t,a,c,b⟩;exact⟨t,⟨a,b⟩,c⟩
def Jt (tk:List Tk) (p:Nat):(mW tk p).length<=tk.length:=by
 unfold mW;rw[aj0];exact alZ ..
def SQ {tk:List Tk} {i:Nat} {t:Tk} (h:tk[i]? = some t) (p:Nat):mW (tk.take (i+1)) p=if t.2.1=p then mW (tk.take i) p++[t.1] else mW (tk.take i) p:=by
 obtain⟨b,c⟩:=ajZ.1 h;unfold mW;rw[alX b,al0,akR,c]
 by_cases a:t.2.1=p
 ·rw[if_pos a,al1 (by simpa using a)];rfl
 ·rw[if_neg a,al2 (by simpa using a)];simp
structure rv (N:Nat) (tk:List Tk) (r:Nat->Int):Prop where
 ge:∀p,p<N -> -1<=r p
 zero:∀p,p<N->(r p=0↔0<fl tk p)
 down:∀p,p<N->0<r p->∃t∈tk,t.1=p∧r t.2.1=r p-1
 near:∀t∈tk,0<=r t.2.1->0<=r t.1∧r t.1<=r t.2.1+1
 le:∀p,p<N->r p<=2000
structure BF (N:Nat) (tk:List Tk) (r:Nat->Int) (D Q:List Nat) (h m:Int):Prop where
 nodup:(D++Q).Nodup
 lt:∀p∈D++Q,p<N
 rk:∀p,p<N->(0<=r p↔p∈D++Q)
 ge:∀p,p<N -> -1<=r p
 zero:∀p,p<N->(r p=0↔0<fl tk p)
 down:∀p,p<N->0<r p->∃t∈tk,t.1=p∧r t.2.1=r p-1
 near:∀t∈tk,t.2.1∈D->0<=r t.1∧r t.1<=r t.2.1+1
 mono:Q.Pairwise fun a b=>r a<=r b
 top:∀p∈D++Q,r p<=h+1
 low:∀q∈Q,h<=r q
 bnd:∀p,p<N->r p<=m
def YT (r:Nat->Int) (q:Nat) (v:Int):Nat->Int:=fun x=>if x=q then v else r x
def mF (r:Nat->Int) (q:Nat) (v:Int):YT r q v q=v:=if_pos rfl
def jS {r:Nat->Int} {q x:Nat} (v:Int) (h:x≠q):YT r q v x=r x:=if_neg h
def BF.pop {N:Nat} {tk:List Tk} {r:Nat->Int} {D Q:List Nat} {p:Nat} {h m:Int} (a:BF N tk r D (p::Q) h m):BF N tk r D (p::Q) (r p) (m+1)∧0<=r p∧p<N∧r p<=m where
 left:={
  nodup:=a.nodup,lt:=a.lt,rk:=a.rk,ge:=a.ge,zero:=a.zero,down:=a.down,near:=a.near,mono:=a.mono
  top:=fun x b=>by
   have f:=a.top x b;have g:=a.low p (akU ..);omega
  low:=fun q c=>by
   rcases ajF.1 c with rfl|c
   ·exact Int.le_refl _
   ·exact (ak1.1 a.mono).1 q c
  bnd:=fun x b=>by have:=a.bnd x b;omega }
 right:=by
  have e:p∈D++p::Q:=ajN _ (akU ..);have d:=a.lt p e;exact⟨(a.rk p d).2 e,d,a.bnd p d⟩
def BF.push {N:Nat} {tk:List Tk} {r:Nat->Int} {D Q:List Nat} {p q:Nat} {m:Int} (f:BF N tk r D (p::Q) (r p) m) (z:0<=r p) (A:r p+1<=m) (v:q<N) (B:r q = -1) (C:∃t∈tk,t.1=q∧t.2.1=p) :
  BF N tk (YT r q (r p+1)) D (p::(Q++[q])) (r p) m∧YT r q (r p+1) p=r p:=by
 have hqn:q∉D++p::Q:=fun h=>by have:=(f.rk q v).2 h;omega
 have g:∀x,x∈D++p::(Q++[q])↔x∈D++p::Q∨x=q:=fun x=>by
  simp only[akT,ajF,al3,or_false];constructor
  ·rintro (h|h|h|h)<;>simp[h]
  ·rintro ((h|h|h)|h)<;>simp[h]
 have d:∀x,x∈D++p::Q->x≠q:=fun x c e=>hqn (e ▸ c);have s:p∈D++p::Q:=ajN _ (akU ..);have l:p≠q:=d p s;refine⟨?_,jS _ l⟩;constructor
 ·have:D++p::(Q++[q])=(D++p::Q)++[q]:=by simp
  rw[this,List.nodup_append];refine⟨f.nodup,by simp,fun a j b i =>?_⟩;simp only[ajF,al3,or_false]at i;subst i;exact d a j
 ·intro x c;rcases (g x).1 c with h|rfl
  ·exact f.lt x h
  ·exact v
 ·intro x c;rw[g]
  by_cases h:x=q
  ·subst h;rw[mF];exact⟨fun _ =>.inr rfl,fun _=>by omega⟩
  ·rw[jS _ h,f.rk x c];exact⟨.inl,fun k=>k.elim id fun e=>absurd e h⟩
 ·intro x c
  by_cases h:x=q
  ·subst h;rw[mF];omega
  ·rw[jS _ h];exact f.ge x c
 ·intro x c
  by_cases h:x=q
  ·subst h;rw[mF];have:=f.zero x c;constructor
   ·intro h;omega
   ·intro h;have:=this.2 h;omega
  ·rw[jS _ h];exact f.zero x c
 ·intro x c w
  by_cases h:x=q
  ·subst h;obtain⟨t,h1,n,o⟩:=C;refine⟨t,h1,n,?_⟩;rw[o,jS _ l,mF];omega
  ·rw[jS _ h]at w ⊢;obtain⟨t,h1,n,o⟩:=f.down x c w;refine⟨t,h1,n,?_⟩;rw[jS _ (fun e=>by rw[e,B]at o;omega)];exact o
 ·intro t u y;obtain⟨h1,n⟩:=f.near t u y;have E:t.2.1≠q:=d _ (ajM _ y);have F:t.1≠q:=fun e=>by rw[e]at h1;omega
  rw[jS _ E,jS _ F];exact⟨h1,n⟩
 ·have h1:=f.mono;have:p::(Q++[q])=(p::Q)++[q]:=by simp
  rw[this,List.pairwise_append];refine⟨h1.imp_of_mem fun {a b} j i h =>?_,by simp,fun a j b i =>?_⟩
  ·rw[jS _ (d a (ajN _ j)),jS _ (d b (ajN _ i))];exact h
  ·simp only[ajF,al3,or_false]at i;subst i;rw[jS _ (d a (ajN _ j)),mF];exact f.top a (ajN _ j)
 ·intro x c;rcases (g x).1 c with h|rfl
  ·rw[jS _ (d x h)];exact f.top x h
  ·rw[mF];exact Int.le_refl _
 ·intro x c
  by_cases h:x=q
  ·subst h;rw[mF];omega
  ·rw[jS _ h];apply f.low x;simp only[ajF,akT,al3,or_false]at c ⊢;rcases c with h1|h1|h1
   ·exact .inl h1
   ·exact .inr h1
   ·exact absurd h1 h
 ·intro x c
  by_cases h:x=q
  ·subst h;rw[mF];exact A
  ·rw[jS _ h];exact f.bnd x c
def BF.finish {N:Nat} {tk:List Tk} {r:Nat->Int} {D Q:List Nat} {p:Nat} {h m:Int} (hB:BF N tk r D (p::Q) h m) (b:∀q∈mW tk p,0<=r q∧r q<=r p+1):BF N tk r (D++[p]) Q h m:=by
 have e:(D++[p])++Q=D++p::Q:=by simp
 exact {
  nodup:=by rw[e];exact hB.nodup
  lt:=by rw[e];exact hB.lt
  rk:=by rw[e];exact hB.rk
  ge:=hB.ge,zero:=hB.zero,down:=hB.down
  near:=fun t a c=>by
   rcases akT.1 c with h1|h1
   ·exact hB.near t a h1
   ·simp only[ajF,al3,or_false]at h1;rw[h1];exact b t.1 (KO.2 ⟨t,a,rfl,h1⟩)
  mono:=(ak1.1 hB.mono).2
  top:=by rw[e];exact hB.top
  low:=fun q d=>hB.low q (akV _ d)
  bnd:=hB.bnd }
def BF.ae7 {N:Nat} {tk:List Tk} {r:Nat->Int} {D:List Nat} {h m:Int} (a:BF N tk r D [] h m) (b:∀t∈tk,t.1<N∧t.2.1<N) (d:m<=2000):rv N tk r where
 ge:=a.ge
 zero:=a.zero
 down:=a.down
 near t h1 h2:=a.near t h1 (by have:=(a.rk t.2.1 (b t h1).2).1 h2;simpa using this)
 le p c:=by have:=a.bnd p c;omega
def ab6 {α:Type} (a:α) (l:List α):Fa (a::l) 1 ((a::l).length:Int)=some l:=by
 unfold Fa;rw[if_pos ⟨by omega,by simp;omega,by omega⟩];simp
variable {N:Nat} {tk:List Tk}
def TZ {r:Nat->Int} {D Q:List Nat} {p:Nat} {m:Int} (E:BF N tk r D (p::Q) (r p) m) (F:p<N) (G:0<=r p) (P:r p+1<=m) (H:m<=2001) (y:∀t∈tk,t.1<N∧t.2.1<N) (B:tk.length<=8000) (R:N<=2000) :
  ∃b d,aS (mu (p:Int) (mg (mW tk p))) ((0:Int),(List.range N).map r,mg Q)=some ((List.range N).map b,mg d)∧BF N tk b (D++[p]) d (r p) m:=by
 have I:=Jt tk p;have key:=fun J K=>p9 (body:=mu (p:Int) (mg (mW tk p))) (mW tk p) (by omega) (fun i (s:List Int×List Int)=>∃b d,s=((List.range N).map b,mg d)∧BF N tk b D (p::d) (r p) m∧b p=r p∧∀q∈(mW tk p).take i,0<=b q∧b q<=r p+1)
  (fun x=>∃b d,x=((List.range N).map b,mg d)∧BF N tk b (D++[p]) d (r p) m) (s0:=((List.range N).map r,mg Q)) ⟨r,Q,rfl,E,rfl,fun q j=>by simp at j⟩ J K
 refine (key ?_ ?_).elim fun x ⟨k,b,d,e,v⟩=>⟨b,d,e ▸ k,v⟩
 ·rintro i q _ j ⟨b,d,rfl,c,f,a⟩;have L:=aP j;have z:=ajX j;obtain⟨t,l,n,A⟩:=KO.1 z;have h:q<N:=by rw[<- n];exact (y t l).1
  have g:(mW tk p).take (i+1)=(mW tk p).take i++[q]:=by
   rw[alX L,(ajZ.1 j).2]
  have M:d.length<=N:=by
   have k:=BZ N (D++p::d) c.nodup c.lt;simp only[aky,List.length_cons]at k;omega
  simp only[mu];rw[if_pos (by rw[qY];simp;omega),aT (abG j),akZ,aT (dm b h),akZ]
  by_cases w:b q = -1
  ·rw[if_pos (by rw[w];rfl),aT (dm b F),akZ,f,Fv (by rw[qY];simp;omega),akZ,ba (by omega),akp,gE];have O:IntKind.i64.wrap (r p+1)=r p+1:=wrap64 (by omega) (by omega);rw[O];have o:=c;rw[<- f]at o;obtain⟨k,v⟩:=o.push (by omega) (by omega) h w ⟨t,l,n,A⟩;rw[f]at k v;refine⟨_,rfl,YT b q (r p+1),d++[q],?_,k,v,fun x e =>?_⟩
   ·unfold mg YT;simp
   ·rw[g]at e;rcases akT.1 e with e|e
    ·have:=a x e
     by_cases u:x=q
     ·subst u;rw[w]at this;omega
     ·rw[jS _ u];exact this
    ·simp only[ajF,al3,or_false]at e;subst e;rw[mF];omega
  ·rw[if_neg (by simpa using w),ba (by omega)];refine⟨_,rfl,b,d,rfl,c,f,fun x e =>?_⟩;rw[g]at e;rcases akT.1 e with e|e
   ·exact a x e
   ·simp only[ajF,al3,or_false]at e;subst e;have C:0<=b x:=by have:=c.ge x h;omega
    exact⟨C,c.top x ((c.rk x h).1 C)⟩
 ·rintro _ ⟨b,d,rfl,c,f,a⟩;refine⟨_,?_,b,d,rfl,c.finish fun q j =>?_⟩
  ·simp only[mu];rw[if_neg (by rw[qY];simp)]
  ·rw[alx]at a;rw[f];exact a q j
def T0 {r:Nat->Int} {Q:List Nat} (v:BF N tk r [] Q 0 0) (e:∀t∈tk,t.1<N∧t.2.1<N) (f:tk.length<=8000) (w:N<=2000) :
  ∃b,aS (mq ((List.range N).map fun p=>mg (mW tk p))) ((List.range N).map r,mg Q)=some ((List.range N).map b)∧rv N tk b:=by
 have key:=fun y=>eE (body:=mq ((List.range N).map fun p=>mg (mW tk p))) (fun i (s:List Int×List Int)=>∃b D d h,s=((List.range N).map b,mg d)∧D.length=i∧BF N tk b D d h (i:Int)) N
  (fun x=>∃b,x=(List.range N).map b∧rv N tk b) (s:=((List.range N).map r,mg Q)) ⟨r,[],Q,0,rfl,rfl,v⟩ (ng (by omega)) y
 refine (key ?_).elim fun x ⟨g,b,z,j⟩=>⟨b,z ▸ g,j⟩
 ·rintro i _ E ⟨b,D,d,h,rfl,A,c⟩;cases d with
  | nil =>
   refine .inr ⟨_,?_,b,rfl,c.ae7 e (by omega)⟩;simp only[mq,mg,akg];rw[if_neg (by simp)]
  | cons p d =>
   obtain⟨k,m,o,B⟩:=c.pop;have n:i<N:=by
    have g:=BZ N (D++p::d) c.nodup c.lt;simp only[aky,List.length_cons]at g;omega
   obtain⟨q,u,g,j⟩:=TZ k o m (by omega) (by omega) e f w;refine .inl ⟨n,((List.range N).map q,mg u),?_,q,D++[p],u,b p,rfl,by simp[A],by simpa using j⟩;simp only[mq];have C:mg (p::d)=(p:Int)::mg d:=rfl;rw[C,if_pos (by simp),idx_zero' ,akZ,ab6,akZ,aT (dm (fun p=>mg (mW tk p)) o),akZ,g,akZ]
where
 idx_zero':∀ {α:Type} {a:α} {l:List α},P.idx (a::l) 0=some a:=fun {_ a l}=>aT (l:=a::l) (i:=0) rfl
def Xp {L:Nat} (b:∀t∈tk,t.1<N∧t.2.1<N) (g:tk.length<=8000) :
  aS (mn (rE N tk)) ((0:Int),List.replicate N ([]:List Int))=some ((List.range N).map fun p=>mg (mW tk p)):=by
 unfold rE;have key:=fun k m=>p9 (body:=mn (gY.mk (N:Int) (tk.map yy))) tk (by omega) (fun i l=>l=(List.range N).map fun p=>mg (mW (tk.take i) p)) (fun l=>l=(List.range N).map fun p=>mg (mW tk p)) (s0:=List.replicate N ([]:List Int))
  (gh (by simp) fun j n=>by rw[al4,if_pos n,List.take_zero];rfl) k m
 refine (key ?_ ?_).elim fun x ⟨o,hx⟩=>hx ▸ o
 ·rintro i t _ a rfl;have r:=aP a;have c:=(b t (ajX a)).2;have q:(tk.map yy)[i]? = some (yy t):=by rw[ajw,a];rfl
  have d:=Jt (tk.take i) t.2.1;rw[ajP]at d;refine⟨_,?_,rfl⟩;simp only[mn];rw[if_pos (by simp;omega),aT q,akZ];simp only[yy];rw[aT (dm _ c),akZ,Fv (by rw[qY];simp;omega),akZ,ba (by omega),akp,gE];congr 3;refine congrArg (fun f=>(List.range N).map f) (funext fun p =>?_);rw[SQ a]
  by_cases h:p=t.2.1
  ·subst h;rw[if_pos rfl,if_pos rfl];unfold mg;simp
  ·rw[if_neg h,if_neg (fun e=>h e.symm)]
 ·rintro _ rfl;refine⟨_,?_,rfl⟩;simp only[mn];rw[if_neg (by simp),alx]
def El (tk:List Tk) (p:Nat):Int:=if 0<fl tk p then 0 else -1
def po (tk:List Tk) (n:Nat):List Nat:=(List.range n).filter fun p=>decide (0<fl tk p)
def Rv (tk:List Tk) (n:Nat):po tk (n+1)=if 0<fl tk n then po tk n++[n] else po tk n:=by
 unfold po;rw[al5,al0]
 by_cases h:0<fl tk n
 ·rw[if_pos h,al1 (by simpa using h)];rfl
 ·rw[if_neg h,al2 (by simpa using h)];simp
def XY {K:Nat} (n:N<=2000) (a:tk.length<=8000) (o:K<=1000000) (d:∀t∈tk,LF t.2.2<=K) :
  aS (mo ((List.range N).map fun p=>b7 (fl tk p))) ((0:Int),List.replicate N (0:Int),([]:List Int))=some ((List.range N).map (El tk),mg (po tk N)):=by
 have key:=fun d g=>p9 (body:=mo ((List.range N).map fun p=>b7 (fl tk p))) (List.range N) (by simp;omega) (fun i (s:List Int×List Int)=>s=((List.range N).map (fun p=>if p<i then El tk p else 0),mg (po tk i))) (fun s=>s=((List.range N).map (El tk),mg (po tk N))) (s0:=(List.replicate N (0:Int),([]:List Int)))
  (by rw[show po tk 0=[] from rfl];refine Prod.ext ?_ rfl;exact gh (by simp) fun j c=>by rw[al4,if_pos c,if_neg (by omega)]) d g
 refine (key ?_ ?_).elim fun x ⟨k,hx⟩=>hx ▸ k
 ·rintro i x _ hx rfl;have e:i<N:=by have:=aP hx;simpa using this
  have l:=N2 d i;have r:tk.length*(K+1)<=8000*1000001:=alY a (by omega);have m:(po tk i).length<=i:=by unfold po;have:=alZ (fun p=>decide (0<fl tk p)) (List.range i);simpa using this
  refine⟨_,?_,rfl⟩;simp only[mo];rw[if_pos (by simp;omega),aT (dm (fun p=>b7 (fl tk p)) e),akZ,aT (dm _ e),akZ,uE (by unfold eV;omega),akZ,akp,gE,gE,ba (by omega),Rv]
  by_cases hl:0<fl tk i
  ·rw[if_pos (by simpa using E6.2 hl),aT (dm _ e),akZ,Fv (by rw[qY];simp;omega),akZ,if_pos hl];refine congrArg some (congrArg Sum.inl (congrArg (Prod.mk _) (Prod.ext ?_ ?_)))
   ·refine congrArg (fun f=>(List.range N).map f) (funext fun p =>?_)
    by_cases h:p=i
    ·subst h;rw[if_pos rfl,if_pos (by omega)];unfold El;rw[if_pos hl]
    ·rw[if_neg h,if_neg h]
     by_cases b:p<i
     ·rw[if_pos b,if_pos (by omega)]
     ·rw[if_neg b,if_neg (by omega)]
   ·unfold mg;simp
  ·rw[if_neg (by simpa using fun h=>hl (E6.1 h)),if_neg hl];refine congrArg some (congrArg Sum.inl (congrArg (Prod.mk _) (Prod.ext ?_ rfl)));refine congrArg (fun f=>(List.range N).map f) (funext fun p =>?_)
   by_cases h:p=i
   ·subst h;rw[if_pos rfl,if_pos (by omega)];unfold El;rw[if_neg hl]
   ·rw[if_neg h]
    by_cases b:p<i
    ·rw[if_pos b,if_pos (by omega)]
    ·rw[if_neg b,if_neg (by omega)]
 ·rintro _ rfl;refine⟨_,?_,rfl⟩;simp only[mo];rw[if_neg (by simp),aj1];refine congrArg some (congrArg Sum.inr (Prod.ext ?_ rfl));refine gh (by simp) fun j c =>?_;rw[dm _ c,if_pos c]
def adr (N:Nat) (tk:List Tk):BF N tk (El tk) [] (po tk N) 0 0:=by
 have f:∀p,p∈po tk N↔p<N∧0<fl tk p:=fun p=>by unfold po;simp[ak0]
 have d:∀p,0<fl tk p->El tk p=0:=fun p h=>if_pos h;have g:∀p,¬0<fl tk p->El tk p = -1:=fun p h=>if_neg h;constructor
 ·rw[ak6];unfold po;exact List.nodup_range.filter _
 ·intro p c;rw[ak6]at c;exact ((f p).1 c).1
 ·intro p c;rw[ak6,f]
  by_cases h:0<fl tk p
  ·rw[d p h];simp[c,h]
  ·rw[g p h];simp[h]
 ·intro p c
  by_cases h:0<fl tk p
  ·rw[d p h];omega
  ·rw[g p h];omega
 ·intro p c
  by_cases h:0<fl tk p
  ·rw[d p h];simp[h]
  ·rw[g p h];simp[h]
 ·intro p c e
  by_cases h:0<fl tk p
  ·rw[d p h]at e;omega
  ·rw[g p h]at e;omega
 ·intro t _ h;simp at h
 ·refine List.Pairwise.imp_of_mem (R:=fun _ _=>True) (fun {a b} i j _ =>?_) (List.pairwise_of_forall (fun _ _=>trivial));rw[d a ((f a).1 i).2,d b ((f b).1 j).2];exact Int.le_refl _
 ·intro p c;rw[ak6]at c;rw[d p ((f p).1 c).2];omega
 ·intro q k;rw[d q ((f q).1 k).2];omega
 ·intro p c
  by_cases h:0<fl tk p
  ·rw[d p h];omega
  ·rw[g p h];omega
def abV {K:Nat} (e:lz N tk) (g:K<=1000000) (h:∀t∈tk,LF t.2.2<=K):∃r,kb (rE N tk)=some ((List.range N).map r)∧rv N tk r:=by
 have f:=e.ports;have a:=e.takes;have c:∀t∈tk,t.1<N∧t.2.1<N:=fun t d=>⟨(e.ok t d).1,(e.ok t d).2.1⟩;obtain⟨b,i,j⟩:=Lm (n:=rE N tk) g (fun t d=>by
  simp only[rE,ajy]at d;obtain⟨l,k,rfl⟩:=d;exact E1 (h l k))
 obtain rfl:b=true:=j.2 ⟨N,tk,rfl,e⟩;obtain⟨m,k,o⟩:=T0 (adr N tk) c a f;refine⟨m,?_,o⟩;unfold kb;rw[i,akZ];simp only[akP,aj4,if_false];have p:(rE N tk).aA=(N:Int):=rfl;rw[p,Ee _ (by omega) f,akZ,Xp (L:=0) c a,akZ,Ee _ (by omega) f,akZ,Qi f a (fun t d=>(c t d).1) g h,akZ,XY f a g h,akZ];simp only;rw[k,akZ]
def pA (N:Nat) (r:Nat->Int):List Nat:=(List.range N).filter fun p=>decide (r p = -1)
def Up (n:Nat) (r:Nat->Int):pA (n+1) r=if r n = -1 then pA n r++[n] else pA n r:=by
 unfold pA;rw[al5,al0]
 by_cases h:r n = -1
 ·rw[if_pos h,al1 (by simpa using h)];rfl
 ·rw[if_neg h,al2 (by simpa using h)];simp
def Uq {r:Nat->Int} (j:N<=2000) (h:kb (rE N tk)=some ((List.range N).map r)):lK (rE N tk)=some (mg (pA N r)):=by
 unfold lK;rw[h,akZ];have key:=fun b c=>p9 (body:=kc ((List.range N).map r)) (List.range N) (by simp;omega) (fun i l=>l=mg (pA i r)) (fun l=>l=mg (pA N r)) (s0:=([]:List Int)) rfl b c;have d:aS (kc ((List.range N).map r)) ((0:Int),[])=some (mg (pA N r)):=by
  refine (key ?_ ?_).elim fun x ⟨e,hx⟩=>hx ▸ e
  ·rintro i x _ hx rfl;have f:i<N:=by have:=aP hx;simpa using this
   have g:(pA i r).length<=i:=by unfold pA;have:=alZ (fun p=>decide (r p = -1)) (List.range i);simpa using this
   refine⟨_,?_,rfl⟩;simp only[kc];rw[if_pos (by simp;omega),aT (dm r f),akZ,ba (by omega),Up]
   by_cases a:r i = -1
   ·rw[if_pos (by rw[a];rfl),Fv (by rw[qY];simp;omega),akZ,if_pos a];unfold mg;simp
   ·rw[if_neg (by simpa using a),if_neg a]
  ·rintro _ rfl;refine⟨_,?_,rfl⟩;simp only[kc];rw[if_neg (by simp),aj1]
 rw[d,akZ]
end Go.Proofs.YtobnihfgnbnncaaGreat.P
namespace Go.Proofs.YtobnihfgnbnncaaGreat.P
open Go.RowKit
def sm:Nat->(Nat->Rat)->Rat
 | 0,_=>0
 | n+1,f=>sm n f+f n
def H0 {n:Nat} {f g:Nat->Rat} (h:∀i,i<n->f i=g i):sm n f=sm n g:=by
 induction n with
 | zero=>rfl
 | succ n a=>rw[sm,sm,a fun i b=>h i (by omega),h n (by omega)]
def ab7 (n:Nat) (f g:Nat->Rat):sm n (fun i=>f i+g i)=sm n f+sm n g:=by
 induction n with
 | zero=>simp only[sm];grind
 | succ n a=>simp only[sm];rw[a];grind
def ab8 (n:Nat) (f g:Nat->Rat):sm n (fun i=>f i-g i)=sm n f-sm n g:=by
 induction n with
 | zero=>simp only[sm];grind
 | succ n a=>simp only[sm];rw[a];grind
def Dm {n:Nat} {f:Nat->Rat} (h:∀i,i<n->0<=f i):0<=sm n f:=by
 induction n with
 | zero=>simp only[sm];grind
 | succ n a =>
  have b:=a fun i c=>h i (by omega);have d:=h n (by omega);simp only[sm];grind
def WB {n:Nat} {f:Nat->Rat} (h:∀i,i<n->0<=f i) (a:sm n f<=0):∀i,i<n->f i=0:=by
 induction n with
 | zero=>intro i b;omega
 | succ n c =>
  have d:=Dm (n:=n) fun i b=>h i (by omega);have e:=h n (by omega);simp only[sm]at a;grind
def aea (n:Nat):sm n (fun _=>0)=0:=by
 induction n with
 | zero=>rfl
 | succ n a=>simp only[sm];rw[a];grind
def Ly {n t:Nat} (v:Rat) (h:t<n):sm n (fun p=>if t=p then v else 0)=v:=by
 induction n with
 | zero=>omega
 | succ n b =>
  simp only[sm]
  by_cases a:t=n
  ·subst a;rw[H0 (g:=fun _=>0) fun i c=>if_neg (by omega),aea,if_pos rfl];grind
  grind
def BR:List Tk->(Nat->Rat)->Nat->Rat
 | [],_,_=>0
 | t::l,x,p=>(if t.2.1=p then t.2.2*x t.1 else 0)+BR l x p
def VN (l:List Tk) (c:Rat) (x:Nat->Rat) (p:Nat):BR l (fun j=>c*x j) p=c*BR l x p:=by
 induction l with
 | nil=>simp only[BR];grind
 | cons t l a=>simp only[BR];grind
def GN {x y:Nat->Rat} {p:Nat} : ∀ {l:List Tk},(∀t∈l,0<=t.2.2)->(∀t∈l,t.2.1=p->x t.1<=y t.1)->BR l x p<=BR l y p
 | [],_,_=>by simp only[BR];grind
 | t::l,h0,h=>by
  simp only[BR];have c:=GN (l:=l) (fun t a=>h0 t (akV _ a)) fun t a=>h t (akV _ a);have a:=h0 t (akU ..)
  by_cases b:t.2.1=p
  ·rw[if_pos b,if_pos b];have:=Rat.mul_le_mul_of_nonneg_left (h t (akU ..) b) a;grind
  grind
def GO {x:Nat->Rat} {p:Nat} {l:List Tk} (a:∀t∈l,0<=t.2.2) (h:∀t∈l,t.2.1=p->0<=x t.1):0<=BR l x p:=by
 have:=GN (x:=fun _=>0) (y:=x) (p:=p) a h;have b:BR l (fun _=>0) p=0:=by
  have:=VN l 0 (fun _=>0) p;simp_all
 grind
def aa4 {x:Nat->Rat} {p:Nat} : ∀ {l:List Tk},(∀t∈l,0<=t.2.2)->(∀t∈l,t.2.1=p->0<=x t.1)->∀t∈l,t.2.1=p->t.2.2*x t.1<=BR l x p
 | [],_,_,t,a,_=>by cases a
 | t::l,h0,h,u,hu,c=>by
  simp only[BR];have d:=GO (x:=x) (p:=p) (l:=l) (fun t a=>h0 t (akV _ a)) fun t a=>h t (akV _ a);rcases ajF.1 hu with rfl|hu
  ·grind
  ·have e:=aa4 (x:=x) (p:=p) (l:=l) (fun t a=>h0 t (akV _ a)) (fun t a=>h t (akV _ a)) u hu c
   by_cases b:t.2.1=p
   ·rw[if_pos b];have:=al6 (h0 t (akU ..)) (h t (akU ..) b);grind
   grind
def VO {N:Nat} (x:Nat->Rat):∀ {l:List Tk},(∀t∈l,t.1<N∧t.2.1<N)->sm N (fun p=>BR l x p)=sm N (fun q=>u3 l q*x q)
 | [],_=>by simp only[BR,u3];simp_all
 | t::l,h=>by
  simp only[BR,u3];obtain⟨a,b⟩:=h t (akU ..);rw[ab7,Ly _ b,VO x fun t c=>h t (akV _ c)];have:sm N (fun q=>((if t.1=q then t.2.2 else 0)+u3 l q)*x q)=sm N (fun q=>(if t.1=q then t.2.2*x t.1 else 0)+u3 l q*x q):=H0 fun q _=>by
   grind
  rw[this,ab7,Ly _ a]
variable {N:Nat} {tk:List Tk} {r:Nat->Int}
def lz.pos (a:lz N tk):∀t∈tk,0<=t.2.2:=fun t b=>by have:=(a.ok t b).2.2;grind
def lz.rng (a:lz N tk):∀t∈tk,t.1<N∧t.2.1<N:=fun t b=>⟨(a.ok t b).1,(a.ok t b).2.1⟩
def Is (b:lz N tk) (j:rv N tk r) (n:∀p,p<N->0<=r p) {y:Nat->Rat} (hy:∀p,p<N->0<=y p) (o:∀p,p<N->y p<=BR tk y p):∀p,p<N->y p=0:=by
 have s:=VO y b.rng;have c:∀p,p<N->0<=fl tk p*y p:=fun p a=>al6 (b.leak p a) (hy p a);have d:∀p,p<N->0<=BR tk y p-y p:=fun p a=>by grind
 have C:sm N (fun p=>fl tk p*y p)=sm N y-sm N (fun q=>u3 tk q*y q):=by
  rw[<- ab8];exact H0 fun p _=>by unfold fl;grind
 have D:sm N (fun p=>BR tk y p-y p)=sm N (fun q=>u3 tk q*y q)-sm N y:=by rw[ab8,s]
 have E:=Dm c;have F:=Dm d;have G:=WB c (by grind);have v:=WB d (by grind);have key:∀(k:Nat) p,p<N->r p=(k:Int)->y p=0:=by
  intro k
  induction k with
  | zero =>
   intro p a l;have H:=(j.zero p a).1 l;grind
  | succ k w =>
   intro p a l;obtain⟨t,g,rfl,z⟩:=j.down p a (by omega);have f:=(b.rng t g).2;have I:=w t.2.1 f (by omega);have e:=v t.2.1 f;have A:=aa4 (x:=y) (p:=t.2.1) b.pos (fun u B _=>hy _ (b.rng u B).1) t g rfl;have m:=(b.ok t g).2.2;have i:=hy t.1 a;have J:t.2.2*y t.1<=0:=by grind
   have K:=al6 (show 0<=t.2.2 by grind) i;rcases Rat.mul_eq_zero.1 (show t.2.2*y t.1=0 by grind) with h|h
   ·grind
   ·exact h
 intro p a;have:=n p a;exact key (r p).toNat p a (by omega)
def acY (N:Nat) (tk:List Tk) (d x:Nat->Rat):Prop:=∀p,p<N->x p=d p+BR tk x p
def T9 (a:lz N tk) (b:rv N tk r) (c:∀p,p<N->0<=r p) {d x:Nat->Rat} (e:acY N tk d x) (k:∀p,p<N->0<=d p):∀p,p<N->0<=x p:=by
 intro p f;have:=Is a b c (y:=fun j=>if 0<=x j then 0 else -x j) (fun j _=>by grind) (fun q g=>by
  have h:0<=BR tk (fun j=>if 0<=x j then 0 else -x j) q:=GO a.pos fun t _ _=>by grind
  try simp only
  split
  ·exact h
  ·have i:=GN (l:=tk) (p:=q) (x:=fun j => -1*x j) (y:=fun j=>if 0<=x j then 0 else -x j) a.pos fun t _ _=>by grind
   rw[VN]at i;have:=e q g;grind) p f
 grind
end Go.Proofs.YtobnihfgnbnncaaGreat.P
namespace Go.Proofs.YtobnihfgnbnncaaGreat.P
open Go.RowKit
abbrev Tm:=Nat×Rat
def kr (t:Tm):fR:=fR.mk (t.1:Int) (b7 t.2)
structure QE where
 D:Rat
 T:List Tm
def mkEq (e:QE):aH:=aH.mk (b7 e.D) (e.T.map kr)
def eH:List Tm->(Nat->Rat)->Rat
 | [],_=>0
 | t::l,x=>t.2*x t.1+eH l x
def qU (a b:List Tm) (x:Nat->Rat):eH (a++b) x=eH a x+eH b x:=by
 induction a with
 | nil=>simp only[List.nil_append,eH];grind
 | cons t a c=>simp only[List.cons_append,eH];rw[c];grind
abbrev ki (T:List Tm):Prop:=T.Pairwise fun a b=>a.1<b.1
def pK (T:List Tm) (k:Nat):List Tm:=T.filter fun t=>decide (t.1<k)
def E3 (T:List Tm) (k:Nat):List Tm:=T.filter fun t=>decide (k<t.1)
def fX:List Tm->Nat->Option Rat
 | [],_=>none
 | t::l,k=>if t.1=k then some t.2 else fX l k
def TK {T:List Tm} {k:Nat} {t:Tm} : t∈pK T k↔t∈T∧t.1<k:=by unfold pK;simp_all
def G4 {T:List Tm} {k:Nat} {t:Tm} : t∈E3 T k↔t∈T∧k<t.1:=by unfold E3;simp_all
def TJ {T:List Tm} {k:Nat} (h:∀t∈T,k<=t.1):pK T k=[]:=by
 unfold pK;rw[List.filter_eq_nil_iff];grind
def aa0 {T:List Tm} {k:Nat} (h:∀t∈T,k<t.1):E3 T k=T:=by
 unfold E3;rw[List.filter_eq_self];grind
def Xv {T:List Tm} {k:Nat} (h:∀t∈T,t.1≠k):fX T k=none:=by
 induction T with
 | nil=>rfl
 | cons t T a=>rw[fX,if_neg (h t (akU ..)),a fun u b=>h u (akV _ b)]
def zw {k:Nat} : ∀ {T:List Tm},ki T->(fX T k=none∧T=pK T k++E3 T k)∨∃c,fX T k=some c∧T=pK T k++(k,c)::E3 T k
 | [],_ =>.inl ⟨rfl,rfl⟩
 | t::T,h=>by
  obtain⟨e,f⟩:=ak1.1 h;rcases al7 t.1 k with hk|hk|hk
  ·have a:pK (t::T) k=t::pK T k:=al1 (by simpa using hk);have b:E3 (t::T) k=E3 T k:=al2 (by simp;omega);have g:fX (t::T) k=fX T k:=by rw[fX,if_neg (by omega)]
   rw[a,b,g];rcases zw (k:=k) f with⟨i,j⟩|⟨c,i,j⟩
   ·grind
   grind
  ·subst hk;have a:pK (t::T) t.1=[]:=TJ fun u d=>by
    grind
   have b:E3 (t::T) t.1=T:=by
    rw[show E3 (t::T) t.1=E3 T t.1 from al2 (by simp),aa0 e]
   refine .inr ⟨t.2,by rw[fX,if_pos rfl],?_⟩;rw[a,b];rfl
  ·have a:pK (t::T) k=[]:=TJ fun u d=>by
    grind
   have b:E3 (t::T) k=t::T:=aa0 fun u d=>by
    grind
   refine .inl ⟨Xv fun u d =>?_,by rw[a,b];rfl⟩;grind
def nW (T:List Tm) (k:Nat):List Tm:=pK T k++E3 T k
def MO (T:List Tm) (k:Nat) (a:Rat):List Tm:=pK T k++(k,a)::E3 T k
def Fs (T:List Tm) (k:Nat) (v:Rat):List Tm:=MO T k ((fX T k).getD 0+v)
def kq {T:List Tm} {k:Nat} {t:Tm} : t∈nW T k↔t∈T∧t.1≠k:=by
 unfold nW;rw[akT,TK,G4];grind
def MU {T:List Tm} {k:Nat} {a:Rat} {t:Tm} : t∈MO T k a↔t=(k,a)∨t∈nW T k:=by
 unfold MO nW;grind
def H4 {T:List Tm} (h:ki T) (k:Nat):ki (nW T k):=by
 unfold nW;rw[ki,List.pairwise_append];refine⟨h.filter _,h.filter _,fun a c b d =>?_⟩;have:=(TK.1 c).2;have:=(G4.1 d).2;omega
def acd {T:List Tm} (h:ki T) (k:Nat) (a:Rat):ki (MO T k a):=by
 unfold MO;rw[ki,List.pairwise_append,ak1];refine⟨h.filter _,⟨fun b c=>(G4.1 c).2,h.filter _⟩,fun x d b c =>?_⟩;have e:=(TK.1 d).2;rcases ajF.1 c with rfl|c
 ·exact e
 ·have:=(G4.1 c).2;omega
def zj {T:List Tm} (h:ki T) (k:Nat) (x:Nat->Rat):eH T x=eH (nW T k) x+(fX T k).getD 0*x k:=by
 rcases zw (k:=k) h with⟨a,b⟩|⟨c,a,b⟩
 ·rw[a];unfold nW;grind
 ·have e:eH T x=eH (pK T k++(k,c)::E3 T k) x:=by rw[<- b]
  rw[e,a];unfold nW;rw[qU,qU];simp only[eH,Option.getD_some];grind
def adA {T:List Tm} (k:Nat) (a:Rat) (x:Nat->Rat):eH (MO T k a) x=eH (nW T k) x+a*x k:=by
 unfold MO nW;rw[qU,qU];simp only[eH];grind
def ady {T:List Tm} (h:ki T) (k:Nat) (v:Rat) (x:Nat->Rat):eH (Fs T k v) x=eH T x+v*x k:=by
 unfold Fs;rw[adA,zj h k x];grind
def qO {T:List Tm} {k:Nat} {c:Rat} (h:fX T k=some c):(k,c)∈T:=by
 induction T with
 | nil=>cases h
 | cons t T a =>
  rw[fX]at h;grind
def KI {x y:Nat->Rat} : ∀ {T:List Tm},(∀t∈T,x t.1=y t.1)->eH T x=eH T y
 | [],_=>rfl
 | t::T,h=>by rw[eH,eH,h t (akU ..),KI fun u a=>h u (akV _ a)]
def wD {x:Nat->Rat} : ∀ {T:List Tm},(∀t∈T,0<=t.2)->(∀t∈T,0<=x t.1)->0<=eH T x
 | [],_,_=>by simp only[eH];grind
 | t::T,h,hx=>by
  have b:=al6 (h t (akU ..)) (hx t (akU ..));have c:=wD (T:=T) (fun u a=>h u (akV _ a)) fun u a=>hx u (akV _ a);simp only[eH];grind
def adz (T:List Tm) (c:Rat) (x:Nat->Rat):eH (T.map fun t=>(t.1,t.2 / c)) x=eH T x / c:=by
 induction T with
 | nil=>simp only[akg,eH];grind
 | cons t T a=>simp only[ajE,eH];rw[a];grind
structure UW (N K:Nat) (T:List Tm):Prop where
 sorted:ki T
 lt:∀t∈T,t.1<N
 sz:∀t∈T,LF t.2<=K
def UW.len {N K:Nat} {T:List Tm} (h:UW N K T):T.length<=N:=by
 have a:=BZ N (T.map (·.1)) (by
  rw[List.Nodup,alA];exact h.sorted.imp fun h=>by omega) (fun x b=>by
  obtain⟨t,c,rfl⟩:=ajy.1 b;exact h.lt t c)
 simpa using a
def UW.rem {N K:Nat} {T:List Tm} (h:UW N K T) (k:Nat):UW N K (nW T k):=⟨H4 h.sorted k,fun t a=>h.lt t (kq.1 a).1,fun t a=>h.sz t (kq.1 a).1⟩
def UW.mono {N K a:Nat} {T:List Tm} (h:UW N K T) (b:K<=a):UW N a T:=⟨h.sorted,h.lt,fun t c=>ajB (h.sz t c) b⟩
def ahH (x:Int):AY .u64 x 1=some (x / 2):=by
 unfold AY;rw[if_neg (by decide)];have e:(2:Int) ^ (min (Int.toNat 1) IntKind.u64.bits)=2:=by decide
 grind
def ae0 {k:Nat} : ∀ {T:List Tm},ki T->∀(i:Nat) t,T[i]? = some t->(t.1<k↔i<(pK T k).length)
 | [],_,i,t,h=>by simp at h
 | a::T,hs,i,t,h=>by
  obtain⟨e,c⟩:=ak1.1 hs
  by_cases d:a.1<k
  ·have b:pK (a::T) k=a::pK T k:=al1 (by simpa using d);rw[b,akf];cases i with
   | zero=>simp_all
   | succ i =>
    have:=ae0 (k:=k) c i t (by simpa using h);omega
  ·have b:pK (a::T) k=[]:=TJ fun u f=>by
    grind
   grind
def Gp (t:Tm) (k:Nat):ee (kr t) (k:Int)=some (l7 (t.1:Int) (k:Int)):=by
 unfold ee;rw[Cq];rfl
def OO {a b:Int} : l7 a b<0↔a<b:=by unfold l7;omega
def JO {a b:Int} : l7 a b=0↔a=b:=by unfold l7;omega
def SS {T:List Tm} (n:ki T) (y:T.length<=2000) (k:Nat) :
  bE (T.map kr) (k:Int)=some (((pK T k).length:Int),(fX T k).isSome):=by
 have f:(pK T k).length<=T.length:=alZ ..;have key:=fun g=>BU (body:=cn (T.map kr) (k:Int)) (I:=fun (s:Int×Int)=>∃b a:Nat,s=((b:Int),(a:Int))∧b<=(pK T k).length∧(pK T k).length<=a∧a<=T.length) (μ:=fun (s:Int×Int)=>(s.2-s.1).toNat)
  (fun r=>r=((pK T k).length:Int)) (s:=(0,((T.map kr).length:Int))) ⟨0,T.length,by simp,by omega,f,ajz _⟩ (by simp only[aj0];unfold FU;omega) g
 obtain⟨r,i,rfl⟩:=key (by
  rintro _ ⟨b,a,rfl,i,o,p⟩;simp only[cn]
  by_cases q:b<a
  ·have j:(b+a) / 2<T.length:=by omega
   have e:(T.map kr)[(b+a) / 2]? = some (kr T[(b+a) / 2]):=by simp_all
   have d:=ae0 (k:=k) n ((b+a) / 2) _ (ajL j);have t:IntKind.i64.wrap ((b:Int)+a)=(b:Int)+a:=wrap64 (by omega) (by omega);have u:IntKind.u64.wrap ((b:Int)+a)=(b:Int)+a:=wu (by omega);have v:IntKind.i64.wrap (((b:Int)+a) / 2)=(((b+a) / 2:Nat):Int):=by rw[wrap64 (by omega) (by omega)];omega
   rw[if_pos (by simpa using q),t,u,ahH,akZ,v,aT e,akZ,Gp,akZ];refine .inl ?_
   by_cases w:T[(b+a) / 2].1<k
   ·rw[if_pos (by simp only[decide_eq_true_eq];exact OO.2 (by omega)),ba (by omega)];refine⟨_,rfl,⟨(b+a) / 2+1,a,rfl,by omega,o,p⟩,?_⟩;simp only;omega
   ·rw[if_neg (by simp only[decide_eq_true_eq];intro h;exact w (by have:=OO.1 h;omega))];refine⟨_,rfl,⟨b,(b+a) / 2,rfl,i,by omega,by omega⟩,?_⟩;simp only;omega
  grind)
 unfold bE;rw[i,akZ];rcases zw (k:=k) n with⟨l,x⟩|⟨c,l,x⟩
 ·rw[l]
  by_cases d:(pK T k).length<T.length
  ·have e:(T.map kr)[(pK T k).length]? = some (kr T[(pK T k).length]):=by grind
   rw[if_pos (by simpa using d),aT e,akZ,Gp,akZ];have hne:T[(pK T k).length].1≠k:=by
    have j:T[(pK T k).length]∈pK T k++E3 T k:=by grind
    rcases akT.1 j with h|h
    ·grind
    ·have:=(G4.1 h).2;omega
   have:l7 (T[(pK T k).length].1:Int) (k:Int)≠0:=fun h=>hne (by have:=JO.1 h;omega);simp[this]
  grind
 ·rw[l];have m:T[(pK T k).length]? = some (k,c):=by
   grind
  have d:=aP m;have e:(T.map kr)[(pK T k).length]? = some (kr (k,c)):=by grind
  rw[if_pos (by simpa using d),aT e,akZ,Gp,akZ];have:l7 ((k,c).1:Int) (k:Int)=0:=JO.2 rfl;rw[this];rfl
def find_eq {e:QE} (a:ki e.T) (b:e.T.length<=2000) (k:Nat):dw (mkEq e) (k:Int)=some (mkEq e,((pK e.T k).length:Int),(fX e.T k).isSome):=by
 unfold dw mkEq;rw[SS a b,akZ]
def HI {a x y:Rat} (h:LF a+(LF x+LF y)+1<=eV):jM (b7 a) (b7 x) (b7 y)=some (b7 (a+x*y)):=by
 unfold jM;have:=vT x y;rw[UO (by omega),akZ];simp only;rw[Ff (by omega),akZ]
def aa8:fY 0=some (b7 0):=Zn (n:=0) (by decide)
def L9:LF 1<=1:=Ah (n:=1) (by decide)
def Zq:LF 0<=1:=Ah (n:=0) (by decide)
def agM (e:QE) (k:Nat) (v:Rat):QE:=⟨e.D,Fs e.T k v⟩
def agN {N K:Nat} {e:QE} (d:UW N K e.T) (q:N<=2000) {k:Nat} {v:Rat} (h:K+LF v+10<=eV):fv (mkEq e) (k:Int) (b7 v)=some (mkEq (agM e k v),()):=by
 have r:=d.len;unfold fv;rw[find_eq d.sorted (by omega),akZ];simp only;have g:=L9;rcases zw (k:=k) d.sorted with⟨a,i⟩|⟨c,a,i⟩
 ·rw[a];simp only[Option.isSome_none,aj4,if_false];have j:(pK e.T k).length<=e.T.length:=alZ ..;have b:aa6 72 (mkEq e).cF ((pK e.T k).length:Int) [fR.mk (k:Int) (b7 v)]=some ((Fs e.T k v).map kr):=by
   unfold aa6 mkEq;simp only[aj0,List.length_cons,List.length_nil,Int.toNat_natCast];rw[if_pos ⟨by omega,by omega,by omega,by omega⟩];congr 1;have f:e.T.map kr=(pK e.T k).map kr++(E3 e.T k).map kr:=by grind
   unfold Fs MO;rw[a,f,List.take_left' (by simp),List.drop_left' (by simp),akR,ajE];simp only[Option.getD_none,List.cons_append,List.nil_append];congr 2;unfold kr;grind
  rw[b];rfl
 ·rw[a];simp only[Option.isSome_some,if_true];have l:e.T[(pK e.T k).length]? = some (k,c):=by
   grind
  have m:(e.T.map kr)[(pK e.T k).length]? = some (kr (k,c)):=by grind
  have n:LF c<=K:=d.sz (k,c) (qO a);have o:(mkEq e).cF=e.T.map kr:=rfl;rw[o,aT m,akZ,adv,akZ];simp only[kr];rw[HI (by omega),akZ,akp];unfold agM Fs MO mkEq;rw[a];simp only[Option.getD_some];have f:e.T.map kr=(pK e.T k).map kr++kr (k,c)::(E3 e.T k).map kr:=by grind
  have p:((e.T.map fun t=>fR.mk (t.1:Int) (b7 t.2)).set (pK e.T k).length (fR.mk (k:Int) (b7 (c+v*1))))=(pK e.T k++(k,c+v)::E3 e.T k).map kr:=by
   show (e.T.map kr).set (pK e.T k).length _=_;rw[f,List.set_append_right _ _ (by simp),aj0,akB,List.set_cons_zero,akR,ajE];unfold kr;grind
  rw[<- p];rfl
def ka (e:QE) (p:Nat):QE:=match fX e.T p with|none=>e|some c=>⟨e.D / (1-c),(nW e.T p).map fun t=>(t.1,t.2 / (1-c))⟩
def aac {T:List Tm} {k:Nat} {c:Rat} (e:T.length<=2000) (g:T=pK T k++(k,c)::E3 T k):aab (T.map kr) ((pK T k).length:Int) (IntKind.i64.wrap (((pK T k).length:Int)+1))=some ((nW T k).map kr):=by
 have a:T.length=(pK T k).length+1+(E3 T k).length:=by
  grind
 rw[ba (by omega)];unfold aab;have:(2000:Nat)<=maxLen:=by decide
 rw[if_pos ⟨by omega,by omega,by simp;omega,by simp;omega⟩,akp,akp];have b:T.map kr=(pK T k).map kr++kr (k,c)::(E3 T k).map kr:=by grind
 rw[b,List.take_left' (by simp)];have d:((pK T k).map kr++kr (k,c)::(E3 T k).map kr).drop ((pK T k).length+1)=(E3 T k).map kr:=by
  rw[ak8,ak9 (by simp)];simp
 rw[d];unfold nW;grind
def aeD {a b:Rat} (h:LF a+LF b<=eV) (c:b≠0):qT (b7 a) (b7 b)=some (b7 (a / b),0):=agF h c
def adC {N K:Nat} {e:QE} (a:UW N K e.T) (G:LF e.D<=K) (H:N<=2000) (I:2*K+10<=eV) {p:Nat} (s:∀c,fX e.T p=some c->1-c≠0):eF (mkEq e) (p:Int)=some (mkEq (ka e p),()):=by
 have J:=a.len;unfold eF;rw[find_eq a.sorted (by omega),akZ];simp only;have m:=L9;unfold ka;rcases zw (k:=p) a.sorted with⟨b,n⟩|⟨c,b,n⟩
 ·rw[b];rfl
 ·rw[b];simp only[Option.isSome_some,akP,aj4,if_false];have v:e.T[(pK e.T p).length]? = some (p,c):=by
   grind
  have w:(e.T.map kr)[(pK e.T p).length]? = some (kr (p,c)):=by grind
  have x:LF c<=K:=a.sz (p,c) (qO b);have o:=s c b;have y:(mkEq e).cF=e.T.map kr:=rfl;have z:(mkEq e).bK=b7 e.D:=rfl;rw[adv,akZ,y,aT w,akZ];simp only[kr];have A:=SF 1 c;rw[aev (by omega),akZ];have B:iD (e.T.map kr) ((pK e.T p).length:Int) (IntKind.i64.wrap (((pK e.T p).length:Int)+1))=some ((nW e.T p).map kr):=by unfold iD;exact aac (by omega) n
  rw[B,akZ,z];simp only;rw[aeD (by omega) o,akZ];have C:=(a.rem p).len;have key:=fun D d=>p9 (body:=fF (b7 (1-c),0) ((nW e.T p).map kr)) (nW e.T p) (by omega) (fun i (l:List fR)=>l.length=(nW e.T p).length∧∀(j:Nat) t,(nW e.T p)[j]? = some t->l[j]? = some (if j<i then kr (t.1,t.2 / (1-c)) else kr t)) (fun l=>l=((nW e.T p).map fun t=>(t.1,t.2 / (1-c))).map kr) (s0:=(nW e.T p).map kr)
   ⟨by simp,fun j t h=>by grind⟩ D d
  obtain⟨r,E,rfl⟩:=key (by
   rintro i t l h ⟨f,q⟩;have M:=aP h;have g:=q i t h;rw[if_neg (by omega)]at g;have F:=a.sz t (kq.1 (ajX h)).1;refine⟨l.set i (kr (t.1,t.2 / (1-c))),?_,by simpa using f,fun j u O =>?_⟩
   ·simp only[fF];rw[if_pos (by simp;omega),aT g,akZ];simp only[kr];rw[aeD (by omega) o,akZ,ba (by omega),akp]
   ·rw[List.getElem?_set];grind) (by
   rintro l ⟨f,q⟩;refine⟨l,?_,?_⟩
   ·simp only[fF];grind
   ·apply aly;grind)
  rw[E,akZ];rfl
def ll (c:Rat):List Tm->List Tm->List Tm
 | [],T=>T
 | b::B,T=>ll c B (Fs T b.1 (c*b.2))
def De (e:QE) (p:Nat) (b:QE):QE:=match fX e.T p with|none=>e|some c=>⟨e.D+c*b.D,ll c b.T (nW e.T p)⟩
def wh (c:Rat):∀(A B T:List Tm),ll c (A++B) T=ll c B (ll c A T)
 | [],_,_=>rfl
 | a::A,B,T=>by rw[alh,ll,ll,wh c A B]
def Jj {T:List Tm} (h:ki T) (k:Nat) (v:Rat):ki (Fs T k v):=acd h k _
def Gr (c:Rat):∀(B:List Tm) {T:List Tm},ki T->ki (ll c B T)
 | [],_,h=>h
 | b::B,_,h=>Gr c B (Jj h _ _)
def Qj (c:Rat) (x:Nat->Rat):∀(B:List Tm) {T:List Tm},ki T->eH (ll c B T) x=eH T x+c*eH B x
 | [],T,_=>by simp only[ll,eH];grind
 | b::B,T,h=>by
  rw[ll,Qj c x B (Jj h _ _),ady h,eH];grind
def Ar (c:Rat) {R:Nat->Prop} : ∀(B:List Tm) {T:List Tm},(∀t∈T,R t.1)->(∀b∈B,R b.1)->∀t∈ll c B T,R t.1
 | [],_,h,_=>h
 | b::B,T,h,hB=>Ar c B (T:=Fs T b.1 (c*b.2)) (fun t a=>by
   rcases MU.1 a with rfl|a
   ·simp_all
   ·exact h t (kq.1 a).1) fun u d=>hB u (akV _ d)
end Go.Proofs.YtobnihfgnbnncaaGreat.P
