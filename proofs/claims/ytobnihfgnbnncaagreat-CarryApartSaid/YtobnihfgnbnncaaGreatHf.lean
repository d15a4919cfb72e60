import Derived.Test.YtobnihfgnbnncaaGreatHe
set_option linter.unusedSimpArgs false
set_option linter.unusedVariables false
set_option linter.defProp false
noncomputable section
open Go.Proofs.Tryz
namespace Go.Proofs.YtobnihfgnbnncaaGreat.Am
open Go.RowKit Go.Proofs.YtobnihfgnbnncaaGreat.P
set_option maxRecDepth 100000
set_option maxHeartbeats 4000000
def ain{β:Type}{F:fU×Int->Option β}{R:β->RK}(c:Int)(d:Int)(a:(List Int))(e:Int)(b:(List Int))(f:Int):ew (fV (bT ch) (dO (aI .i64))) F R none [.agg [.int .i64 c,.int .i64 d,.sl false false a.length (al (eI .i64) a),.int .i64 e,.sl false false b.length (al (eI .i64) b)],.int .i64 f]=(F ((fU.mk c (ak.mk (aN.mk d a) (aN.mk e b))),f)).map fun r=>(R r,none):=cJ _ _ _ ((fU.mk c (ak.mk (aN.mk d a) (aN.mk e b))),f)
def jX:Env:=(Am.ext bq 110 false dZ)
def uZ:bU prog jX:=(bU.none.add pq false)
def vE:=ai @w<|ai @Ot<|ai @dZ.eq_1<|@jX.eq_1
def u5:cn prog 178 gX:=cn.jB (mode:=.clean) tok uZ mixed func178 (by kernel_rfl) (fun _ _=>rfl) (fun _=>by kernel_rfl) fun⟨c,d⟩ r a=>by
 replace a:ej c d=some r:=a;apply aL rfl ntmps178 results178;simp only[jD];unfold ej at a;obtain⟨e,b,a⟩:=ae a;cases a;simp only[vE,seval,b]
def cq(l:Option (D×Row))(d:List D):=ew (fV (kb ch) (fV (aI .i64) (dO (Oq 178)))) (fun x:(List fU)×Int×Unit=>bE x.1 x.2.1) (fun r:Int×Bool =>.clean (.tup [.int .i64 r.1,.bool r.2])) l d
def aio{β:Type}{F:(List fU)×Int×Unit->Option β}{R:β->RK}(a:(List fU))(b:Int):ew (fV (kb ch) (fV (aI .i64) (dO (Oq 178)))) F R none [.sl false false a.length (al ch a),.int .i64 b,.fn 178]=(F (a,b,())).map fun r=>(R r,none):=cJ _ _ _ (a,b,())
def df:Env:=(Am.ext bq 178 false gX)
def ji:bU prog df:=(bU.none.add u5 false)
def aK:=ai @w<|ai @ain<|ai @gX.eq_1<|@df.eq_1
def jj:cn prog 177 cq:=cn.jB (mode:=.clean) tok ji mixed func177 (by kernel_rfl) (fun _ _=>rfl) (fun _=>by kernel_rfl) fun⟨h,q,_⟩ r a=>by
 replace a:bE h q=some r:=a;apply aL rfl ntmps177 results177;simp only[jD];unfold bE at a;simp only[aK,seval,-Int.reduceToNat];obtain⟨A,u,a⟩:=ae a;refine aD (fun s t H e=>match s with|(i,b)=>t 0=sF ch h∧t 1=sN q∧t 2=.fn 178∧t 8=sN (h.length:Int)∧t 9=sN i∧t 10=sN b) (fun o x t H e=>match o with|d=>x=.exit 0∧t 0=sF ch h∧t 1=sN q∧t 2=.fn 178∧t 8=sN (h.length:Int)∧t 9=sN d) u ?_ ?_ ?_
 ·refine⟨?_,?_,?_,?_,?_,?_⟩;all_goals (rfl)
 ·rintro⟨i,b⟩ t H e j c a;simp only[cm]at a;simp only[aK,seval,-Int.reduceToNat,j];apply sp aw a<;>intro _ a
  ·obtain⟨F,v,a⟩:=ae a;have w:=wR v;obtain⟨B,k,a⟩:=ae a;have f:=bg ch k;simp only[bM]at f;obtain⟨C,l,a⟩:=ae a;simp only[aK,seval,-Int.reduceToNat,j,w,f,l];apply sp aw a<;>intro _ a
   ·cases a;simp only[aK,seval,-Int.reduceToNat];apply ij;and_intros<;>first|rfl|(simp only[aK,seval,-Int.reduceToNat,j]<;>rfl)
   ·cases a;simp only[aK,seval,-Int.reduceToNat];apply ij;and_intros<;>first|rfl|(simp only[aK,seval,-Int.reduceToNat,j]<;>rfl)
  ·cases a;simp only[aK,seval,-Int.reduceToNat];apply jN;refine⟨rfl,⟨?_,?_,?_,?_,?_⟩⟩;all_goals ((simp only[aK,seval,-Int.reduceToNat,j]<;>rfl))
 ·rintro x t H e y;obtain⟨d,rfl⟩:∃z,z=A:=⟨_,rfl⟩;dsimp only at y a;obtain⟨rfl,m⟩:=y;simp only[aK,seval,-Int.reduceToNat,m];apply sp fP a<;>intro _ a
  ·obtain⟨D,n,a⟩:=ae a;have g:=bg ch n;simp only[bM]at g;obtain⟨E,p,a⟩:=ae a;cases a;simp only[aK,seval,-Int.reduceToNat,m,g,p]
  ·cases a;simp only[aK,seval,-Int.reduceToNat]
def gh:=Jj 128 130 5 a7 (dO (aI .i64)) (fun (q:aJ) (x:Int)=>dx q x) (fun r:Int×Bool =>.tup [.int .i64 r.1,.bool r.2])
def ku(b a:List D)(c:aJ)(d:Int):gh 128 130 5 b.length (b++(a7.cells c++a)) [.int .i64 d]=(dx c d).map fun r=>(.tup [.int .i64 r.2.1,.bool r.2.2],b++(a7.cells r.1++a)):=Np _ _ _ _ _ _ _ b a c (d)
def jc:Env:=(Am.ext bq 177 false cq)
def wE:bU prog jc:=(bU.none.add jj false)
def xu:=ai @w<|ai @vnp<|ai @aio<|ai @cq.eq_1<|@jc.eq_1
def xo(b a:List D)(e:aJ)(f:Int)(r:aJ×(Int×Bool))(c:dx e f=some r):wW tab jc FU Tryz.f137 128 130 5 b.length (b++(a7.cells e++a)) [.int .i64 f]=some (.tup [.int .i64 r.2.1,.bool r.2.2],b++(a7.cells r.1++a)):=by
 apply zD rfl ntmps137 results137;rw[e9];unfold dx at c;obtain⟨g,d,c⟩:=ae c;cases c;simp only[xu,seval,d]
def eA:NOk prog 137 gh:=NOk.of tok wE mixed func137 (by kernel_rfl) ⟨by kernel_rfl,by kernel_rfl⟩ (fun _=>alK (by kernel_rfl)) (fun b a q x c r h=>xo b a q x (c,r) h)
def lf:=mkE 130 ch (fV (aI .i64) (dO (aI .i64))) (fun (l:(List fU)) (x:Int×Int)=>iE l x.1 x.2)
def uE(b a:List D)(c:(List fU))(d e:Int):lf (some (.buf 0 0 5 b.length c.length,⟨0,130,b++(al ch c++a),false,true,false⟩)) [.int .i64 d,.int .i64 e]=(iE c d e).map fun r=>(.fresh 130 5 r.length (al ch r),none):=ab3 _ _ _ _ b a c (d,e)
def tF:cn prog 138 lf:=adR ch rfl
def vN(l:Option (D×Row))(d:List D):=ew (fV (bT ah) (dO (bT ah))) (fun x:ak×ak=>qX x.1 x.2) (fun r:ak×Int =>.clean (.tup [.agg [.int .i64 r.1.bX.aq,.sl false false r.1.bX.aa.length (al (eI .i64) r.1.bX.aa),.int .i64 r.1.b8.aq,.sl false false r.1.b8.aa.length (al (eI .i64) r.1.b8.aa)],.int .i64 r.2])) l d
def AF:Env:=(Am.ext (Am.ext (Am.ext bq 54 false bh) 60 false eN) 63 false gC)
def Qd:bU prog AF:=(((bU.none.add fm false).add qN false).add uA false)
def kx:=ai @w<|ai @kJ<|ai @bh.eq_1<|ai @L1<|ai @eN.eq_1<|ai @gC.eq_1<|@AF.eq_1
def RB:cn prog 139 vN:=cn.jB (mode:=.clean) tok Qd mixed func139 (by kernel_rfl) (fun _ _=>rfl) (fun _=>by kernel_rfl) fun⟨h,i⟩ r a=>by
 replace a:qX h i=some r:=a;apply aL rfl ntmps139 results139;simp only[jD];unfold qX at a;obtain⟨q,j,a⟩:=ae a;simp only[kx,seval,j];obtain⟨p,k,a⟩:=ae a;refine cK 0 (fun s t H e=>match s with|g=>∃b:Nat,∃c:Nat,∃d:Nat,t 2=.ptr 2 b 0∧t 3=.ptr 3 c 0∧t 4=.ptr 4 d 0∧t 6=.bool g∧H 2=rV b 41 [sN h.bX.aq,sI h.bX.aa,sN h.b8.aq,sI h.b8.aa]∧H 3=rV c 41 [sN i.bX.aq,sI i.bX.aa,sN i.b8.aq,sI i.b8.aa]∧H 4=rV d 41 [sN 0,.sl true true 0 [],sN 0,.sl true true 0 []]) (fun s=>s=p) ?_ ?_
 ·rintro g t H e ⟨b,c,d,f⟩ rfl;try dsimp only at a
  simp only[kx,seval,f];apply sp aw a<;>intro _ a
  ·cases a;simp only[kx,seval,f]
  ·simp only[kx,seval,f];apply sp aw a<;>intro _ a
   ·cases a;simp only[kx,seval,f]
   ·obtain⟨u,l,a⟩:=ae a;obtain⟨v,m,a⟩:=ae a;obtain⟨w,n,a⟩:=ae a;simp only[kx,seval,f,l,m,n];refine bP (by kernel_rfl) ?_;cases a;simp only[seval]
 ·clear a;have a:=k;simp only[kx,seval];apply sp bL a<;>intro _ a
  ·cases a;simp only[kx,seval];rw[aG];refine⟨_,rfl,?_⟩;refine⟨0,0,0,?_,?_,?_,?_,?_,?_,?_⟩;all_goals (rfl)
  ·obtain⟨x,o,a⟩:=ae a;cases a;simp only[kx,seval,o];rw[aG];refine⟨_,rfl,?_⟩;refine⟨0,0,0,?_,?_,?_,?_,?_,?_,?_⟩;all_goals (rfl)
def jS:=Jj 128 130 5 a7 (dO (aI .i64)) (fun (q:aJ) (x:Int)=>eF q x) (fun r:Unit =>.tup [])
def ir:Env:=(Am.ext (Am.ext (Am.si 137 (0,gh) (Am.ext (Am.ext bq 21 false cH) 29 false nR)) 138 true lf) 139 false vN)
def vo:bU prog ir:=(((bU.si ((bU.none.add kg false).add Ew false) eA.callable eA.calls).add tF true).add RB false)
def cc:=ai @w<|ai @vnp<|ai @vnl<|ai @IV<|ai @cH.eq_1<|ai @tV<|ai @nR.eq_1<|ai @vN.eq_1<|@ir.eq_1
def wG(f g:List D)(R:aJ)(S:Int)(r:aJ×(Unit))(a:eF R S=some r):wW tab ir FU Tryz.f86 128 130 5 f.length (f++(a7.cells R++g)) [.int .i64 S]=some (.tup [],f++(a7.cells r.1++g)):=by
 apply zD rfl ntmps86 results86;rw[e9];unfold eF at a;have T:=ku f g R S;simp only[bM]at T;obtain⟨U,C,a⟩:=ae a;have V:bump 0 (1)=some (4*(1)+1):=jO (by omega);simp only[cc,seval,T,C];apply sp aw a<;>intro _ a
 ·cases a;simp only[cc,seval]
 ·obtain⟨r5,E,a⟩:=ae a;obtain⟨x6,y,a⟩:=ae a;have A:=bg ch y;simp only[bM]at A;have B:=lG ch 1 y;have F:=kF ch 1 4 (alK rfl) y;simp only[bM]at B F;obtain⟨P,G,a⟩:=ae a;simp only[cc,seval,E,A,B,G];refine bP (by kernel_rfl) ?_;have W:=uE [] [] U.1.cB U.2.1 (IntKind.i64.wrap (U.2.1+1));simp only[List.nil_append,alX,List.length_nil]at W;obtain⟨X,p,a⟩:=ae a;have I:bump (4*(1)+1) (4)=some (4*(4)+1):=jO (by omega);obtain⟨h,q,a⟩:=ae a;simp only[cc,seval,W,p,q];refine bP (by kernel_rfl) ?_;obtain⟨Y,J,a⟩:=ae a;refine aD (fun s t H e=>match s with|(u,j)=>∃n:Nat,∃i:Nat,t 0=.ptr 0 0 f.length∧t 6=.ptr 6 n 0∧t 57=sN ((X).length:Int)∧t 58=sN u∧H 0=some ⟨0,128,[.nr 130 5 i (f++([sN h.1.bX.aq,sI h.1.bX.aa,sN h.1.b8.aq,sI h.1.b8.aa,.nx (j).length (al ch j)]++g))],false,true,true⟩∧H 6=rV n 41 [sN P.1.bX.aq,sI P.1.bX.aa,sN P.1.b8.aq,sI P.1.b8.aa]∧i<=4*e) (fun o x t H e=>match o with|d=>x=.exit 0∧∃k:Nat,t 0=.ptr 0 0 f.length∧H 0=some ⟨0,128,[.nr 130 5 k (f++([sN h.1.bX.aq,sI h.1.bX.aa,sN h.1.b8.aq,sI h.1.b8.aa,.nx (d).length (al ch d)]++g))],false,true,true⟩∧k<=4*e) J ?_ ?_ ?_
  ·refine⟨3,4*(4)+1,?_,?_,?_,?_,?_,?_,?_⟩;all_goals (first|rfl|omega|(simp only[cc,seval,T,C,V,E,A,B,F,G,W,p,I,q]<;>rfl))
  ·rintro⟨u,j⟩ t H e ⟨n,i,Q⟩ c a;simp only[fK]at a;simp only[cc,seval,Q];apply sp aw a<;>intro _ a
   ·obtain⟨Z,b,a⟩:=ae a;have m:=bg ch b;simp only[bM]at m;have v:=lG ch 1 b;have K:=kF ch 1 4 (alK rfl) b;simp only[bM]at v K;obtain⟨l,L,a⟩:=ae a;have m:=bg ch b;simp only[bM]at m;have M:=lG ch 1 b;have N:=kF ch 1 4 (alK rfl) b;simp only[bM]at M N;have O:=eT ch (x':=(fU.mk Z.qf l.1)) (fo:=1) (cs:=[.int .i64 l.1.bX.aq,.sl false false l.1.bX.aa.length (al (eI .i64) l.1.bX.aa),.int .i64 l.1.b8.aq,.sl false false l.1.b8.aa.length (al (eI .i64) l.1.b8.aa)]) b rfl (alK rfl);simp only[bM]at O;have w:=O;simp only[putCells,List.length_cons,List.length_nil,alf,Nat.reduceAdd]at w;simp only[cc,seval,Q,v,L,m,w];refine bP (by kernel_rfl) ?_;cases a;apply ij;refine⟨n,i,?_,?_,?_,?_,?_,?_,?_⟩;all_goals (first|rfl|omega|(simp only[cc,seval,Q]<;>rfl))
   ·cases a;simp only[cc,seval];apply jN;refine⟨rfl,⟨i,?_,?_,?_⟩⟩;all_goals (first|rfl|omega|(simp only[cc,seval,Q]<;>rfl))
  ·rintro x t H e hx;obtain⟨d,rfl⟩:∃z,z=Y:=⟨_,rfl⟩;dsimp only at hx a;obtain⟨rfl,⟨k,aa⟩⟩:=hx;cases a;simp only[cc,seval,aa]
def ns:NOk prog 86 jS:=NOk.of tok vo mixed func86 (by kernel_rfl) ⟨by kernel_rfl,by kernel_rfl⟩ (fun _=>alK (by kernel_rfl)) (fun b a q x c r h=>wG b a q x (c,r) h)
def gK(l:Option (D×Row))(d:List D):=ew (fV (bT ah) (fV (bT ah) (dO (bT ah)))) (fun x:ak×ak×ak=>jK x.1 x.2.1 x.2.2) (fun r:ak =>.clean (.agg [.int .i64 r.bX.aq,.sl false false r.bX.aa.length (al (eI .i64) r.bX.aa),.int .i64 r.b8.aq,.sl false false r.b8.aa.length (al (eI .i64) r.b8.aa)])) l d
def Y5{β:Type}{F:ak×ak×ak->Option β}{R:β->RK}(g:Int)(a:(List Int))(h:Int)(b:(List Int))(i:Int)(c:(List Int))(j:Int)(d:(List Int))(k:Int)(e:(List Int))(l:Int)(f:(List Int)):ew (fV (bT ah) (fV (bT ah) (dO (bT ah)))) F R none [.agg [.int .i64 g,.sl false false a.length (al (eI .i64) a),.int .i64 h,.sl false false b.length (al (eI .i64) b)],.agg [.int .i64 i,.sl false false c.length (al (eI .i64) c),.int .i64 j,.sl false false d.length (al (eI .i64) d)],.agg [.int .i64 k,.sl false false e.length (al (eI .i64) e),.int .i64 l,.sl false false f.length (al (eI .i64) f)]]=(F ((ak.mk (aN.mk g a) (aN.mk h b)),(ak.mk (aN.mk i c) (aN.mk j d)),(ak.mk (aN.mk k e) (aN.mk l f)))).map fun r=>(R r,none):=cJ _ _ _ ((ak.mk (aN.mk g a) (aN.mk h b)),(ak.mk (aN.mk i c) (aN.mk j d)),(ak.mk (aN.mk k e) (aN.mk l f)))
def wD:Env:=(Am.ext (Am.ext bq 23 false gA) 58 false gB)
def Ji:bU prog wD:=((bU.none.add uw false).add uz false)
def Oo:=ai @w<|ai @tV<|ai @gA.eq_1<|ai @gB.eq_1<|@wD.eq_1
def u6:cn prog 76 gK:=cn.jB (mode:=.clean) tok Ji mixed func76 (by kernel_rfl) (fun _ _=>rfl) (fun _=>by kernel_rfl) fun⟨d,e,f⟩ r a=>by
 replace a:jK d e f=some r:=a;apply aL rfl ntmps76 results76;simp only[jD];unfold jK at a;obtain⟨g,b,a⟩:=ae a;obtain⟨h,c,a⟩:=ae a;cases a;simp only[Oo,seval,b,c]
def ad6:ZT prog 179 (130,5,72):=ad8
def kX:=Jj 128 130 5 a7 (fV (aI .i64) (dO (bT ah))) (fun (q:aJ) (x:Int×ak)=>fC q x.1 x.2) (fun r:Unit =>.tup [])
def xt(f c:List D)(g:aJ)(h:Int)(d:Int)(a:(List Int))(e:Int)(b:(List Int)):kX 128 130 5 f.length (f++(a7.cells g++c)) [.int .i64 h,.agg [.int .i64 d,.sl false false a.length (al (eI .i64) a),.int .i64 e,.sl false false b.length (al (eI .i64) b)]]=(fC g h (ak.mk (aN.mk d a) (aN.mk e b))).map fun r=>(.tup [],f++(a7.cells r.1++c)):=Np _ _ _ _ _ _ _ f c g (h,(ak.mk (aN.mk d a) (aN.mk e b)))
def jx:Env:=(Am.Hb 179 (130,5,72) (Am.si 137 (0,gh) (Am.ext (Am.ext bq 21 false cH) 76 false gK)))
def xl:bU prog jx:=(bU.Hb (bU.si ((bU.none.add kg false).add u6 false) eA.callable eA.calls) ad6)
def jE:=ai @w<|ai @vnp<|ai @vnl<|ai @IV<|ai @cH.eq_1<|ai @Y5<|ai @gK.eq_1<|@jx.eq_1
def yz(d c:List D)(q:aJ)(s:Int)(h:ak)(r:aJ×(Unit))(a:fC q s h=some r):wW tab jx FU Tryz.f140 128 130 5 d.length (d++(a7.cells q++c)) [.int .i64 s,.agg [.int .i64 h.bX.aq,.sl false false h.bX.aa.length (al (eI .i64) h.bX.aa),.int .i64 h.b8.aq,.sl false false h.b8.aa.length (al (eI .i64) h.b8.aa)]]=some (.tup [],d++(a7.cells r.1++c)):=by
 apply zD rfl ntmps140 results140;rw[e9];unfold fC at a;have z:=ku d c q s;simp only[bM]at z;obtain⟨F,t,a⟩:=ae a;have B:bump 0 (2)=some (4*(2)+1):=jO (by omega);simp only[jE,seval,z,t];apply sp aw a<;>intro _ a
 ·obtain⟨C,b,a⟩:=ae a;have e:=bg ch b;simp only[bM]at e;have j:=lG ch 1 b;have u:=kF ch 1 4 (alK rfl) b;simp only[bM]at j u;obtain⟨G,v,a⟩:=ae a;obtain⟨i,w,a⟩:=ae a;have e:=bg ch b;simp only[bM]at e;have x:=lG ch 1 b;have y:=kF ch 1 4 (alK rfl) b;simp only[bM]at x y;have k:=eT ch (x':=(fU.mk C.qf i)) (fo:=1) (cs:=[.int .i64 i.bX.aq,.sl false false i.bX.aa.length (al (eI .i64) i.bX.aa),.int .i64 i.b8.aq,.sl false false i.b8.aa.length (al (eI .i64) i.b8.aa)]) b rfl (alK rfl);simp only[bM]at k;have f:=k;simp only[putCells,List.length_cons,List.length_nil,alf,Nat.reduceAdd]at f;simp only[jE,seval,j,v,w,e,f];refine bP (by kernel_rfl) ?_;cases a;simp only[jE,seval]
 ·obtain⟨E,l,a⟩:=ae a;obtain⟨m,n,o,p,g⟩:=ad7 ch l;simp only[bM]at g;have A:bump (4*(2)+1) (4)=some (4*(4)+1):=jO (by omega);simp only[jE,ne_eq,not_false_eq_true,seval,m,n,o,p,g];refine bP (by kernel_rfl) ?_;cases a;simp only[seval]
def pn:NOk prog 140 kX:=NOk.of tok xl mixed func140 (by kernel_rfl) ⟨by kernel_rfl,by kernel_rfl⟩ (fun _=>alK (by kernel_rfl)) (fun b a q x c r h=>yz b a q x.1 x.2 (c,r) h)
def kY:=Jj 128 130 5 a7 (fV (aI .i64) (dO (bT s4))) (fun (q:aJ) (x:Int×aJ)=>fD q x.1 x.2) (fun r:Unit =>.tup [])
def jy:Env:=(Am.si 140 (0,kX) (Am.ext (Am.si 137 (0,gh) (Am.ext (Am.ext bq 21 false cH) 76 false gK)) 138 true lf))
def xm:bU prog jy:=(bU.si ((bU.si ((bU.none.add kg false).add u6 false) eA.callable eA.calls).add tF true) pn.callable pn.calls)
def cP:=ai @w<|ai @vnp<|ai @vnl<|ai @IV<|ai @cH.eq_1<|ai @Y5<|ai @gK.eq_1<|@jy.eq_1
def yA(d b:List D)(T:aJ)(U:Int)(v:aJ)(r:aJ×(Unit))(a:fD T U v=some r):wW tab jy FU Tryz.f87 128 130 5 d.length (d++(a7.cells T++b)) [.int .i64 U,.agg [.int .i64 v.bK.bX.aq,.sl false false v.bK.bX.aa.length (al (eI .i64) v.bK.bX.aa),.int .i64 v.bK.b8.aq,.sl false false v.bK.b8.aa.length (al (eI .i64) v.bK.b8.aa),.sl false false v.cB.length (al ch v.cB)]]=some (.tup [],d++(a7.cells r.1++b)):=by
 apply zD rfl ntmps87 results87;rw[e9];unfold fD at a;have V:=ku d b T U;simp only[bM]at V;obtain⟨W,G,a⟩:=ae a;have X:bump 0 (2)=some (4*(2)+1):=jO (by omega);simp only[cP,seval,V,G];apply sp aw a<;>intro _ a
 ·cases a;simp only[cP,seval]
 ·obtain⟨R,C,a⟩:=ae a;have E:=bg ch C;simp only[bM]at E;have F:=lG ch 1 C;have I:=kF ch 1 4 (alK rfl) C;simp only[bM]at F I;have Y:=uE [] [] W.1.cB W.2.1 (IntKind.i64.wrap (W.2.1+1));simp only[List.nil_append,alX,List.length_nil]at Y;obtain⟨r8,J,a⟩:=ae a;have Z:bump (4*(2)+1) (5)=some (4*(5)+1):=jO (by omega);obtain⟨ag,z,a⟩:=ae a;simp only[cP,seval,E,F,Y,J,z];refine bP (by kernel_rfl) ?_;obtain⟨aa,K,a⟩:=ae a;refine aD (fun s t H e=>match s with|(A,i,j,k,l,f)=>∃w:Nat,∃h:Nat,t 0=.ptr 0 0 d.length∧t 8=.ptr 8 w 0∧t 50=sF ch v.cB∧t 51=sN (v.cB.length:Int)∧t 52=sN A∧H 0=some ⟨0,128,[.nr 130 5 h (d++([sN i,sI j,sN k,sI l,.nx (f).length (al ch f)]++b))],false,true,true⟩∧H 8=rV w 41 [sN R.jh.bX.aq,sI R.jh.bX.aa,sN R.jh.b8.aq,sI R.jh.b8.aa]∧h<=4*e) (fun o x t H e=>match o with|(n,p,q,u,g)=>x=.exit 0∧∃m:Nat,t 0=.ptr 0 0 d.length∧H 0=some ⟨0,128,[.nr 130 5 m (d++([sN n,sI p,sN q,sI u,.nx (g).length (al ch g)]++b))],false,true,true⟩∧m<=4*e) K ?_ ?_ ?_
  ·refine⟨4,4*(5)+1,?_,?_,?_,?_,?_,?_,?_,?_⟩;all_goals (first|rfl|omega|(simp only[cP,seval,V,G,X,E,F,I,Y,J,Z,z]<;>rfl))
  ·rintro⟨A,i,j,k,l,f⟩ t H e ⟨w,h,S⟩ c a;simp only[gw]at a;simp only[cP,seval,S];apply sp aw a<;>intro _ a
   ·obtain⟨ab,L,a⟩:=ae a;have B:=bg ch L;simp only[bM]at B;obtain⟨ah,M,a⟩:=ae a;obtain⟨y,N,a⟩:=ae a;have O:=xt d b (aJ.mk (ak.mk (aN.mk i j) (aN.mk k l)) f) ab.qf y.bX.aq y.bX.aa y.b8.aq y.b8.aa;simp only[bM]at O;obtain⟨ai,P,a⟩:=ae a;have Q:bump h (e+1+1)=some (4*(e+1+1)+1):=jO (by omega);simp only[cP,seval,S,B,M,N,O,P,Q];refine bP (by kernel_rfl) ?_;cases a;apply ij;refine⟨w,4*(e+1+1)+1,?_,?_,?_,?_,?_,?_,?_,?_⟩;all_goals (first|rfl|omega|(simp only[cP,seval,S]<;>rfl))
   ·cases a;simp only[cP,seval];apply jN;refine⟨rfl,⟨h,?_,?_,?_⟩⟩;all_goals (first|rfl|omega|(simp only[cP,seval,S]<;>rfl))
  ·rintro x t H e hx;rcases aa with⟨n,p,q,u,g⟩;dsimp only at hx a;obtain⟨rfl,⟨m,ad⟩⟩:=hx;cases a;simp only[cP,seval,ad]
def po:NOk prog 87 kY:=NOk.of tok xm mixed func87 (by kernel_rfl) ⟨by kernel_rfl,by kernel_rfl⟩ (fun _=>alK (by kernel_rfl)) (fun b a q x c r h=>yA b a q x.1 x.2 (c,r) h)
def vS(l:Option (D×Row))(d:List D):=ew (fV (bT xX) (dO (kb ah))) (fun x:fW×(List ak)=>kL x.1 x.2) (fun r:(List ak)×Int =>.clean (.tup [.sl false false r.1.length (al ah r.1),.int .i64 r.2])) l d
def vA{C:List (Bool×aJ)}{i:Int}{b:aJ}(h:P.idx C i=some (false,b))(a:Int):jS 128 130 5 (i.toNat*bS.size) (al bS C) [.int .i64 a]=(eF b a).map fun r=>(.tup [],al bS (C.set i.toNat (false,r.1))):=WB oU h (a)
def xr{C:List (Bool×aJ)}{i:Int}{g:aJ}(h:P.idx C i=some (false,g))(f:Int)(d:Int)(a:(List Int))(e:Int)(b:(List Int))(c:(List fU)):kY 128 130 5 (i.toNat*bS.size) (al bS C) [.int .i64 f,.agg [.int .i64 d,.sl false false a.length (al (eI .i64) a),.int .i64 e,.sl false false b.length (al (eI .i64) b),.sl false false c.length (al ch c)]]=(fD g f (aJ.mk (ak.mk (aN.mk d a) (aN.mk e b)) c)).map fun r=>(.tup [],al bS (C.set i.toNat (false,r.1))):=WB oU h (f,(aJ.mk (ak.mk (aN.mk d a) (aN.mk e b)) c))
def AP:Env:=(Am.si 87 (0,kY) (Am.si 86 (5,jS) (Am.ext (Am.ext (Am.B9 75 nQ (Am.ext (Am.ext (Am.ext bq 21 false cH) 73 false lv) 74 false nG)) 76 false gK) 85 false qF)))
def Qn:bU prog AP:=(bU.si (bU.si (((bU.B9 (((bU.none.add kg false).add Cd false).add Dl false) rN.callable rN.calls).add u6 false).add HT false) ns.callable ns.calls) po.callable po.calls)
def bB:=ai @w<|ai @vnl<|ai @IV<|ai @cH.eq_1<|ai @Sp<|ai @lv.eq_1<|ai @ail<|ai @nG.eq_1<|ai @tJ<|ai @Y5<|ai @gK.eq_1<|ai @qF.eq_1<|@AP.eq_1
def RH:cn prog 41 vS:=cn.jB (mode:=.clean) tok Qn mixed func41 (by kernel_rfl) (fun _ _=>rfl) (fun _=>by kernel_rfl) fun⟨X,p1⟩ r a=>by
 replace a:kL X p1=some r:=a;apply aL rfl ntmps41 results41;simp only[jD];unfold kL at a;obtain⟨r1,bC,a⟩:=ae a;simp only[bB,seval,bC];obtain⟨o2,bD,a⟩:=ae a;refine cK 0 (fun s t H e=>match s with|Y=>∃L:Nat,t 1=sF ah p1∧t 2=.ptr 2 L 0∧t 14=.bool Y∧H 2=rV L 66 [sN X.aF,sF bW X.aZ]) (fun s=>s=o2) ?_ ?_
 ·rintro Y t H e ⟨L,au⟩ rfl;try dsimp only at a
  simp only[bB,seval,au];apply sp aw a<;>intro _ a
  ·cases a;simp only[bB,seval]
  ·obtain⟨r4,bE,a⟩:=ae a;simp only[bB,seval,au,bE];apply sp aw a<;>intro _ a
   ·cases a;simp only[bB,seval]
   ·obtain⟨r6,bF,a⟩:=ae a;have bG:=KS oU r6;simp only[bB,seval,au,bF,bG];obtain⟨bH,aS,a⟩:=ae a;refine aD (fun s t H e=>match s with|(g,M)=>∃Z:Nat,∃A:Nat,∃m:Nat,t 2=.ptr 2 Z 0∧t 6=.buf 32 A 5 0 (M).length∧t 34=sN ((r6).length:Int)∧t 35=sN g∧H 2=rV Z 66 [sN X.aF,sF bW X.aZ]∧H 32=some ⟨A,128,[.nr 130 5 m (al bS M)],false,true,true⟩∧m<=4*e) (fun o x t H e=>match o with|b=>x=.exit 1∧∃aa:Nat,∃u:Nat,∃j:Nat,t 2=.ptr 2 aa 0∧t 6=.buf 32 u 5 0 (b).length∧H 2=rV aa 66 [sN X.aF,sF bW X.aZ]∧H 32=some ⟨u,128,[.nr 130 5 j (al bS b)],false,true,true⟩∧j<=4*e) aS ?_ ?_ ?_
    ·refine⟨L,e+1,4*(e+1)+2,?_,?_,?_,?_,?_,?_,?_⟩;all_goals (first|rfl|omega|(simp only[bB,seval,au]<;>rfl))
    ·rintro⟨g,M⟩ t H e ⟨Z,A,m,Zb⟩ c a;simp only[lV]at a;simp only[bB,seval,Zb];apply sp aw a<;>intro _ a
     ·obtain⟨bT,ab,a⟩:=ae a;have ad:=And.intro (oZ ab) (kn bS ab);simp only[bM]at ad;obtain⟨bI,aT,a⟩:=ae a;have av:P.idx M g=some (false,bI):=ab.trans (congrArg some (RM aT));have aV:=vA av g;simp only[bM]at aV;obtain⟨bJ,aW,a⟩:=ae a;have aX:bump m (e+1+1)=some (4*(e+1+1)+1):=jO (by omega);have ax:=ahE oU Gp Gr Gq av bJ.1;rw[p6]at ax;simp only[bB,seval,Zb,ad,aV,aW,aX,ax];obtain⟨bK,aY,a⟩:=ae a;refine aD (fun s t H e=>match s with|(aQ,B)=>∃ag:Nat,∃C:Nat,∃n:Nat,t 2=.ptr 2 ag 0∧t 6=.buf 32 C 5 0 (B).length∧t 7=sN g∧t 8=sN aQ∧t 34=sN ((r6).length:Int)∧t 35=sN g∧H 2=rV ag 66 [sN X.aF,sF bW X.aZ]∧H 32=some ⟨C,128,[.nr 130 5 n (al bS B)],false,true,true⟩∧n<=4*e) (fun o x t H e=>match o with|I=>x=.exit 3∧∃N:Nat,∃v:Nat,∃k:Nat,t 2=.ptr 2 N 0∧t 6=.buf 32 v 5 0 (I).length∧t 34=sN ((r6).length:Int)∧t 35=sN g∧H 2=rV N 66 [sN X.aF,sF bW X.aZ]∧H 32=some ⟨v,128,[.nr 130 5 k (al bS I)],false,true,true⟩∧k<=4*e) aY ?_ ?_ ?_
      ·refine⟨Z,A,4*(e+1+1)+1,?_,?_,?_,?_,?_,?_,?_,?_,?_⟩;all_goals (first|rfl|omega|(simp only[bB,seval,Zb]<;>rfl))
      ·rintro⟨aQ,B⟩ t H e ⟨ag,C,n,Zd⟩ c a;simp only[oA]at a;simp only[bB,seval,Zd];apply sp aw a<;>intro _ a
       ·obtain⟨bU,ai,a⟩:=ae a;have ay:=And.intro (oZ ai) (kn bS ai);simp only[bM]at ay;obtain⟨bV,aj,a⟩:=ae a;have az:=And.intro (oZ aj) (kn bS aj);simp only[bM]at az;obtain⟨W,aZ,a⟩:=ae a;have aA:P.idx B g=some (true,W):=aj.trans (congrArg some (Su aZ));have aB:=lG bS 0 aA;have a1:=kF bS 0 5 (alK rfl) aA;simp only[bM,Nat.add_zero]at aB a1;obtain⟨bN,a6,a⟩:=ae a;have a7:P.idx B aQ=some (false,bN):=ai.trans (congrArg some (RM a6));have a8:=xr a7 g W.bK.bX.aq W.bK.bX.aa W.bK.b8.aq W.bK.b8.aa W.cB;simp only[bM]at a8;obtain⟨bX,ba,a⟩:=ae a;have bb:bump n (e+1)=some (4*(e+1)+1):=jO (by omega);simp only[bB,seval,ad,Zd,ay,az,aB,a8,ba,bb];refine bP (by kernel_rfl) ?_;cases a;apply ij;refine⟨ag,C,4*(e+1)+1,?_,?_,?_,?_,?_,?_,?_,?_,?_⟩;all_goals (first|rfl|omega|(simp only[bB,seval,Zd]<;>rfl))
       ·cases a;simp only[bB,seval];apply jN;refine⟨rfl,⟨ag,C,n,?_,?_,?_,?_,?_,?_,?_⟩⟩;all_goals (first|rfl|omega|(simp only[bB,seval,Zd]<;>rfl))
      ·rintro x t H e hx;obtain⟨I,rfl⟩:∃z,z=bK:=⟨_,rfl⟩;dsimp only at hx a;obtain⟨rfl,⟨N,v,k,bc⟩⟩:=hx;cases a;simp only[bB,seval,bc];apply ij;refine⟨N,v,k,?_,?_,?_,?_,?_,?_,?_⟩;all_goals (first|rfl|omega|(simp only[bB,seval,bc]<;>rfl))
     ·cases a;simp only[bB,seval];apply jN;refine⟨rfl,⟨Z,A,m,?_,?_,?_,?_,?_⟩⟩;all_goals (first|rfl|omega|(simp only[bB,seval,Zb]<;>rfl))
    ·rintro x t H e hx;obtain⟨b,rfl⟩:∃z,z=bH:=⟨_,rfl⟩;dsimp only at hx a;obtain⟨rfl,⟨aa,u,j,bd⟩⟩:=hx;obtain⟨bZ,bf,a⟩:=ae a;obtain⟨bh,bj,bk,aC,bl⟩:=mk_one ah bf;simp only[bM]at aC;simp only[bB,seval,bd,bh,bj,bk,aC,bl];obtain⟨bO,bm,a⟩:=ae a;refine aD (fun s t H e=>match s with|(D,J)=>∃an:Nat,∃O:Nat,∃w:Nat,t 6=.buf 32 O 5 0 (b).length∧t 9=.buf 9 an 4 0 (J).length∧t 10=sN D∧H 9=rW an 41 (al ah J)∧H 32=some ⟨O,128,[.nr 130 5 w (al bS b)],false,true,true⟩∧w<=4*e) (fun o x t H e=>match o with|ao=>x=.exit 5∧∃aq:Nat,t 9=.buf 9 aq 4 0 (ao).length∧H 9=rW aq 41 (al ah ao)) bm ?_ ?_ ?_
     ·refine⟨e,u,j,?_,?_,?_,?_,?_,?_⟩;all_goals (first|rfl|omega|(simp only[bB,seval,bd]<;>rfl))
     ·rintro⟨D,J⟩ t H e ⟨an,O,w,Ze⟩ c a;simp only[lW]at a;simp only[bB,seval,Ze];apply sp aw a<;>intro _ a
      ·obtain⟨b1,E,a⟩:=ae a;have q:=And.intro (oZ E) (kn bS E);simp only[bM]at q;obtain⟨aR,bn,a⟩:=ae a;have Q:P.idx b D=some (true,aR):=E.trans (congrArg some (Su bn));have aE:=lG bS 0 Q;have aF:=kF bS 0 4 (alK rfl) Q;simp only[bM,Nat.add_zero]at aE aF;obtain⟨b2,bo,a⟩:=ae a;obtain⟨b3,bp,a⟩:=ae a;simp only[bB,seval,Ze,q,aE,aF,bo,bp];refine bP (by kernel_rfl) ?_;have q:=And.intro (oZ E) (kn bS E);simp only[bM]at q;have aH:=lG bS 4 Q;have bq:=kF bS 4 1 (alK rfl) Q;simp only[bM]at aH bq;simp only[bB,seval,q,aH];obtain⟨bQ,br,a⟩:=ae a;refine aD (fun s t H e=>match s with|(aI,R,S,T,U)=>∃ar:Nat,∃F:Nat,∃G:Nat,∃p:Nat,t 6=.buf 32 G 5 0 (b).length∧t 9=.buf 9 ar 4 0 (J).length∧t 10=sN D∧t 11=.ptr 11 F 0∧t 83=sF ch aR.cB∧t 84=sN (aR.cB.length:Int)∧t 85=sN aI∧H 9=rW ar 41 (al ah J)∧H 11=rV F 41 [sN R,sI S,sN T,sI U]∧H 32=some ⟨G,128,[.nr 130 5 p (al bS b)],false,true,true⟩∧p<=4*e) (fun o x t H e=>match o with|(h,d,i,f)=>x=.exit 7∧∃V:Nat,∃K:Nat,∃y:Nat,∃l:Nat,t 6=.buf 32 y 5 0 (b).length∧t 9=.buf 9 V 4 0 (J).length∧t 10=sN D∧t 11=.ptr 11 K 0∧H 9=rW V 41 (al ah J)∧H 11=rV K 41 [sN h,sI d,sN i,sI f]∧H 32=some ⟨y,128,[.nr 130 5 l (al bS b)],false,true,true⟩∧l<=4*e) br ?_ ?_ ?_
       ·refine⟨an,e+1,O,w,?_,?_,?_,?_,?_,?_,?_,?_,?_,?_,?_⟩;all_goals (first|rfl|omega|(simp only[bB,seval,Ze]<;>rfl))
       ·rintro⟨aI,R,S,T,U⟩ t H e ⟨ar,F,G,p,Zg⟩ c a;simp only[rm]at a;simp only[bB,seval,Zg];apply sp aw a<;>intro _ a
        ·obtain⟨b4,bs,a⟩:=ae a;have aJ:=bg ch bs;simp only[bM]at aJ;obtain⟨b5,bt,a⟩:=ae a;have aK:=bg ah bt;simp only[bM]at aK;obtain⟨b6,bu,a⟩:=ae a;simp only[bB,seval,Zg,aJ,aK,bu];refine bP (by kernel_rfl) ?_;cases a;apply ij;refine⟨ar,F,G,p,?_,?_,?_,?_,?_,?_,?_,?_,?_,?_,?_⟩;all_goals (first|rfl|omega|(simp only[bB,seval,Zg]<;>rfl))
        ·cases a;simp only[bB,seval];apply jN;refine⟨rfl,⟨ar,F,G,p,?_,?_,?_,?_,?_,?_,?_,?_⟩⟩;all_goals (first|rfl|omega|(simp only[bB,seval,Zg]<;>rfl))
       ·rintro x t H e hx;rcases bQ with⟨h,d,i,f⟩;dsimp only at hx a;obtain⟨rfl,⟨V,K,y,l,bw⟩⟩:=hx;obtain⟨b7,aM,a⟩:=ae a;have aO:=bg ah aM;simp only[bM]at aO;have bx:=eT ah (x':=(ak.mk (aN.mk h d) (aN.mk i f))) (fo:=0) (cs:=[.int .i64 h,.sl false false d.length (al (eI .i64) d),.int .i64 i,.sl false false f.length (al (eI .i64) f)]) aM rfl (alK rfl);simp only[bM,Nat.add_zero]at bx;have aP:=bx;simp only[putCells,List.length_cons,List.length_nil,alf,Nat.reduceAdd]at aP;cases a;simp only[bB,seval,q,bw,aO,aP];apply ij;refine⟨V,y,l,?_,?_,?_,?_,?_,?_⟩;all_goals (first|rfl|omega|(simp only[bB,seval,bw]<;>rfl))
      ·cases a;simp only[bB,seval];apply jN;refine⟨rfl,⟨an,?_,?_⟩⟩;all_goals ((simp only[bB,seval,Ze]<;>rfl))
     ·rintro x t H e hx;obtain⟨ao,rfl⟩:∃z,z=bO:=⟨_,rfl⟩;dsimp only at hx a;obtain⟨rfl,⟨aq,bR⟩⟩:=hx;cases a;simp only[bB,seval,bR]
 ·clear a;have a:=bD;simp only[bB,seval];apply sp bL a<;>intro _ a
  ·cases a;simp only[bB,seval];rw[aG];refine⟨_,rfl,?_⟩;refine⟨0,?_,?_,?_,?_⟩;all_goals (rfl)
  ·obtain⟨b8,bA,a⟩:=ae a;cases a;simp only[bB,seval,bA];rw[aG];refine⟨_,rfl,?_⟩;refine⟨0,?_,?_,?_,?_⟩;all_goals (rfl)
def Da(r:(List ak))(a:gO []=some r):kN (.fresh 41 4) tab bq FU Tryz.f43 none [.sl true true 0 []]=some (.fresh 41 4 r.length (al ah r),none):=by
 unfold gO at a;obtain⟨b,c,d⟩:=vX a;subst b;apply aL rfl ntmps43 results43;simp only[w,seval,Nat.lt_irrefl]
def Db(r:(List ak))(a:gO []=some r):kN (.fresh 41 4) tab bq FU Tryz.f43 none [.sl true false 0 []]=some (.fresh 41 4 r.length (al ah r),none):=by
 unfold gO at a;obtain⟨b,c,d⟩:=vX a;subst b;apply aL rfl ntmps43 results43;simp only[w,seval,Nat.lt_irrefl]
def Dc(a r:(List ak))(c:0<a.length)(b:gO a=some r):kN (.fresh 41 4) tab bq FU Tryz.f43 none [.sl false false a.length (al ah a)]=some (.fresh 41 4 r.length (al ah r),none):=by
 unfold gO at b;have g:¬a.length=0:=by omega
 obtain⟨d,e,f⟩:=vX b;subst d;apply aL rfl ntmps43 results43;simp only[w,seval,c,e,f]
def sP:=ew (dO (kb ah)) (fun x:(List ak)=>gO x) (fun r:(List ak) =>.fresh 41 4 r.length (al ah r))
def yF(a:(List ak)):sP none [.sl false false a.length (al ah a)]=(gO a).map fun r:(List ak)=>(.fresh 41 4 r.length (al ah r),none):=cJ _ _ _ a
def E6:cn prog 43 sP:=cn.afB (mode:=(.fresh 41 4)) tok bU.none mixed func43 (by kernel_rfl) ⟨by kernel_rfl,by kernel_rfl⟩ (alK (by kernel_rfl)) Da Db Dc
def kj(l:Option (D×Row))(d:List D):=ew (fV (bT jw) (fV (kb ah) (fV (aI .i64) (dO (aI .i64))))) (fun x:aU×(List ak)×Int×Int=>lD x.1 x.2.1 x.2.2.1 x.2.2.2) (fun r:ak =>.clean (.agg [.int .i64 r.bX.aq,.sl false false r.bX.aa.length (al (eI .i64) r.bX.aa),.int .i64 r.b8.aq,.sl false false r.b8.aa.length (al (eI .i64) r.b8.aa)])) l d
def aeJ{β:Type}{F:aU×(List ak)×Int×Int->Option β}{R:β->RK}(a:(List Int))(b:(List bz))(c:(List ak))(d:Int)(e:Int):ew (fV (bT jw) (fV (kb ah) (fV (aI .i64) (dO (aI .i64))))) F R none [.agg [.sl false false a.length (al (eI .i64) a),.sl false false b.length (al bm b)],.sl false false c.length (al ah c),.int .i64 d,.int .i64 e]=(F ((aU.mk a b),c,d,e)).map fun r=>(R r,none):=cJ _ _ _ ((aU.mk a b),c,d,e)
def wx:Env:=(Am.ext (Am.ext bq 57 false kQ) 58 false gB)
def Jc:bU prog wx:=((bU.none.add A1 false).add uz false)
def Oj:=ai @w<|ai @Ot<|ai @kQ.eq_1<|ai @tV<|ai @gB.eq_1<|@wx.eq_1
def Af:cn prog 44 kj:=cn.jB (mode:=.clean) tok Jc mixed func44 (by kernel_rfl) (fun _ _=>rfl) (fun _=>by kernel_rfl) fun⟨h,i,j,k⟩ r a=>by
 replace a:lD h i j k=some r:=a;apply aL rfl ntmps44 results44;simp only[jD];unfold lD at a;obtain⟨l,d,a⟩:=ae a;have b:=bg (eI .i64) d;simp only[bM]at b;obtain⟨m,e,a⟩:=ae a;obtain⟨n,f,a⟩:=ae a;have c:=bg ah f;simp only[bM]at c;obtain⟨o,g,a⟩:=ae a;simp only[Oj,seval,b,e,c,g];refine bP (by kernel_rfl) ?_;cases a;simp only[seval]
def fY(l:Option (D×Row))(d:List D):=ew (fV (bT jw) (dO (kb (dW ah)))) (fun x:aU×(List (List ak))=>fI x.1 x.2) (fun r:(List (List ak))×(List ak)×Int =>.clean (.tup [.sl false false r.1.length (al (dW ah) r.1),.sl false false r.2.1.length (al ah r.2.1),.int .i64 r.2.2])) l d
def uQ:Env:=(Am.ext (Am.ext (Am.ext (Am.ext (Am.ext (Am.ext (Am.ext (Am.ext bq 26 false sO) 39 false iy) 40 false qB) 41 false vS) 42 false oL) 43 false sP) 44 false kj) 45 false iL)
def GQ:bU prog uQ:=((((((((bU.none.add LD false).add wI false).add HP false).add RH false).add E4 false).add E6 false).add Af false).add xc false)
def bd:=ai @w<|ai @Jw<|ai @sO.eq_1<|ai @iy.eq_1<|ai @Sn<|ai @qB.eq_1<|ai @aim<|ai @vS.eq_1<|ai @oL.eq_1<|ai @yF<|ai @aeJ<|ai @kj.eq_1<|ai @Y4<|ai @iL.eq_1<|@uQ.eq_1
def tE:cn prog 12 fY:=cn.jB (mode:=.clean) tok GQ mixed func12 (by kernel_rfl) (fun _ _=>rfl) (fun _=>by kernel_rfl) fun⟨g,p1⟩ r a=>by
 replace a:fI g p1=some r:=a;apply aL rfl ntmps12 results12;simp only[jD];unfold fI at a;obtain⟨r1,aI,a⟩:=ae a;simp only[bd,seval,aI];apply sp aw a<;>intro _ a
 ·cases a;simp only[bd,seval]
 ·obtain⟨r3,aJ,a⟩:=ae a;simp only[bd,seval,aJ];apply sp aw a<;>intro _ a
  ·cases a;simp only[bd,seval]
  ·obtain⟨r5,aK,a⟩:=ae a;simp only[bd,seval,aK];apply sp aw a<;>intro _ a
   ·cases a;simp only[bd,seval]
   ·obtain⟨r7,aM,a⟩:=ae a;obtain⟨r8,aN,a⟩:=ae a;simp only[bd,seval,aM,aN];refine bP (by kernel_rfl) ?_;apply sp aw a<;>intro _ a
    ·cases a;simp only[bd,seval]
    ·simp only[bd,seval];obtain⟨aO,aa,a⟩:=ae a;refine aD (fun s t H e=>match s with|(h,d)=>∃M:Nat,∃C:Nat,t 1=sF (dW ah) p1∧t 2=.ptr 2 M 0∧t 4=.buf 4 C 1 0 (d).length∧t 5=sF ah r8.1∧t 54=sF bm g.an∧t 55=sN (g.an.length:Int)∧t 56=sN h∧H 2=rV M 25 [sI g.av,sF bm g.an]∧H 4=rW C 27 (al (dW ah) d)) (fun o x t H e=>match o with|D=>x=.exit 0∧∃E:Nat,t 4=.buf 4 E 1 0 (D).length∧t 5=sF ah r8.1∧H 4=rW E 27 (al (dW ah) D)) aa ?_ ?_ ?_
     ·refine⟨0,0,?_,?_,?_,?_,?_,?_,?_,?_,?_⟩;all_goals (rfl)
     ·rintro⟨h,d⟩ t H e ⟨M,C,Za⟩ c a;simp only[iN]at a;simp only[bd,seval,Za];apply sp aw a<;>intro _ a
      ·obtain⟨b,ab,a⟩:=ae a;have N:=bg bm ab;simp only[bM]at N;obtain⟨aS,ad,a⟩:=ae a;have O:=bg (dW ah) ad;simp only[bM]at O;obtain⟨aT,ag,a⟩:=ae a;simp only[bd,seval,Za,N,O,ag];obtain⟨aP,ai,a⟩:=ae a;refine aD (fun s t H e=>match s with|(P,F)=>∃A:Nat,∃B:Nat,∃i:Nat,∃j:Nat,t 1=sF (dW ah) p1∧t 2=.ptr 2 A 0∧t 4=.buf 4 B 1 0 (d).length∧t 5=sF ah r8.1∧t 12=.ptr 12 i 0∧t 13=.buf 13 j 4 0 (F).length∧t 54=sF bm g.an∧t 55=sN (g.an.length:Int)∧t 56=sN h∧t 68=sF bA b.az.au∧t 69=sN (b.az.au.length:Int)∧t 70=sN P∧H 2=rV A 25 [sI g.av,sF bm g.an]∧H 4=rW B 27 (al (dW ah) d)∧H 12=rV i 57 [sF bA b.az.au,sF eK b.az.aQ,sF (dW ah) b.az.aO,sF gr b.ba,sI b.aF]∧H 13=rW j 41 (al ah F)) (fun o x t H e=>match o with|f=>x=.exit 2∧∃q:Nat,∃u:Nat,∃l:Nat,∃k:Nat,t 1=sF (dW ah) p1∧t 2=.ptr 2 q 0∧t 4=.buf 4 u 1 0 (d).length∧t 5=sF ah r8.1∧t 12=.ptr 12 l 0∧t 13=.buf 13 k 4 0 (f).length∧t 54=sF bm g.an∧t 55=sN (g.an.length:Int)∧t 56=sN h∧H 2=rV q 25 [sI g.av,sF bm g.an]∧H 4=rW u 27 (al (dW ah) d)∧H 12=rV l 57 [sF bA b.az.au,sF eK b.az.aQ,sF (dW ah) b.az.aO,sF gr b.ba,sI b.aF]∧H 13=rW k 41 (al ah f)) ai ?_ ?_ ?_
       ·refine⟨M,C,e+1,e+1+1,?_⟩;and_intros<;>first|rfl|(simp only[bd,seval,Za]<;>rfl)
       ·rintro⟨P,F⟩ t H e ⟨A,B,i,j,Zd⟩ c a;simp only[jU]at a;simp only[bd,seval,Zd];apply sp aw a<;>intro _ a
        ·obtain⟨aV,aj,a⟩:=ae a;have G:=bg bA aj;simp only[bM]at G;simp only[bd,seval,Zd,G];apply sp aw a<;>intro _ a
         ·obtain⟨aW,an,a⟩:=ae a;have Q:=bg gr an;simp only[bM]at Q;obtain⟨m,ao,a⟩:=ae a;obtain⟨aX,R,a⟩:=ae a;have S:=bg ah R;simp only[bM]at S;have aq:=eT ah (x':=m) (fo:=0) (cs:=[.int .i64 m.bX.aq,.sl false false m.bX.aa.length (al (eI .i64) m.bX.aa),.int .i64 m.b8.aq,.sl false false m.b8.aa.length (al (eI .i64) m.b8.aa)]) R rfl (alK rfl);simp only[bM,Nat.add_zero]at aq;have T:=aq;simp only[putCells,List.length_cons,List.length_nil,alf,Nat.reduceAdd]at T;cases a;simp only[bd,seval,Zd,G,Q,ao,S,T];apply ij;refine⟨A,B,i,j,?_⟩;and_intros<;>first|rfl|(simp only[bd,seval,Zd]<;>rfl)
         ·cases a;simp only[bd,seval,Zd];apply ij;refine⟨A,B,i,j,?_⟩;and_intros<;>first|rfl|(simp only[bd,seval,Zd]<;>rfl)
        ·cases a;simp only[bd,seval];apply jN;refine⟨rfl,⟨A,B,i,j,?_,?_,?_,?_,?_,?_,?_,?_,?_,?_,?_,?_,?_⟩⟩;all_goals ((simp only[bd,seval,Zd]<;>rfl))
       ·rintro x t H e U;obtain⟨f,rfl⟩:∃z,z=aP:=⟨_,rfl⟩;dsimp only at U a;obtain⟨rfl,⟨q,u,l,k,ar⟩⟩:=U;simp only[bd,seval,ar];obtain⟨aQ,au,a⟩:=ae a;refine aD (fun s t H e=>match s with|(V,I)=>∃J:Nat,∃K:Nat,∃v:Nat,∃w:Nat,∃W:Bool,t 1=sF (dW ah) p1∧t 2=.ptr 2 J 0∧t 4=.buf 4 K 1 0 (d).length∧t 5=sF ah r8.1∧t 13=.buf 13 v 4 0 (f).length∧t 17=.buf 17 w 4 0 (I).length∧t 54=sF bm g.an∧t 55=sN (g.an.length:Int)∧t 56=sN h∧t 97=sF (dW ah) b.az.aO∧t 98=sN (b.az.aO.length:Int)∧t 99=sN V∧H 2=rV J 25 [sI g.av,sF bm g.an]∧H 4=rW K 27 (al (dW ah) d)∧H 13=some ⟨v,41,al ah f,W,true,false⟩∧H 17=rW w 41 (al ah I)) (fun o x t H e=>match o with|n=>x=.exit 4∧∃y:Nat,∃L:Nat,∃p:Nat,t 1=sF (dW ah) p1∧t 2=.ptr 2 y 0∧t 4=.buf 4 L 1 0 (d).length∧t 5=sF ah r8.1∧t 17=.buf 17 p 4 0 (n).length∧t 54=sF bm g.an∧t 55=sN (g.an.length:Int)∧t 56=sN h∧H 2=rV y 25 [sI g.av,sF bm g.an]∧H 4=rW L 27 (al (dW ah) d)∧H 17=rW p 41 (al ah n)) au ?_ ?_ ?_
        ·refine⟨q,u,k,e,false,?_⟩;and_intros<;>first|rfl|(simp only[bd,seval,ar]<;>rfl)
        ·rintro⟨V,I⟩ t H e ⟨J,K,v,w,W,Ze⟩ c a;simp only[jV]at a;simp only[bd,seval,Ze];apply sp aw a<;>intro _ a
         ·obtain⟨aY,av,a⟩:=ae a;have X:=bg (dW ah) av;simp only[bM]at X;obtain⟨aZ,ax,a⟩:=ae a;obtain⟨a1,ay,a⟩:=ae a;obtain⟨az,Y,aA,aB⟩:=lj ah ay;simp only[bM]at Y;cases a;simp only[bd,seval,Ze,X,ax,az,Y,aA,aB];apply ij;refine⟨J,K,v,e+1+1,true,?_⟩;and_intros<;>first|rfl|(simp only[bd,seval,Ze]<;>rfl)
         ·cases a;simp only[bd,seval];apply jN;refine⟨rfl,⟨J,K,w,?_,?_,?_,?_,?_,?_,?_,?_,?_,?_,?_⟩⟩;all_goals ((simp only[bd,seval,Ze]<;>rfl))
        ·rintro x t H e U;obtain⟨n,rfl⟩:∃z,z=aQ:=⟨_,rfl⟩;dsimp only at U a;obtain⟨rfl,⟨y,L,p,aC⟩⟩:=U;obtain⟨a6,aE,a⟩:=ae a;obtain⟨aF,Z,aG,aH⟩:=lj (dW ah) aE;simp only[bM]at Z;cases a;simp only[bd,seval,aC,aF,Z,aG,aH];apply ij;refine⟨y,e,?_⟩;and_intros<;>first|rfl|(simp only[bd,seval,aC]<;>rfl)
      ·cases a;simp only[bd,seval];apply jN;refine⟨rfl,⟨C,?_,?_,?_⟩⟩;all_goals ((simp only[bd,seval,Za]<;>rfl))
     ·rintro x t H e U;obtain⟨D,rfl⟩:∃z,z=aO:=⟨_,rfl⟩;dsimp only at U a;obtain⟨rfl,⟨E,aR⟩⟩:=U;cases a;simp only[bd,seval,aR]
def nD(l:Option (D×Row))(d:List D):=ew (dO (bT ah)) (fun x:ak=>qJ x) (fun r:Bool =>.clean (.bool r)) l d
def rD:Env:=(Am.ext bq 54 false bh)
def C1:bU prog rD:=(bU.none.add fm false)
def Fe:=ai @w<|ai @kJ<|ai @bh.eq_1<|@rD.eq_1
def Df:cn prog 53 nD:=cn.jB (mode:=.clean) tok C1 mixed func53 (by kernel_rfl) (fun _ _=>rfl) (fun _=>by kernel_rfl) fun c r a=>by
 replace a:qJ c=some r:=a;apply aL rfl ntmps53 results53;simp only[jD];unfold qJ at a;obtain⟨d,b,a⟩:=ae a;cases a;simp only[Fe,seval,b]
def er(l:Option (D×Row))(d:List D):=ew (fV (kb ah) (dO (Oq 53))) (fun x:(List ak)×Unit=>eU x.1) (fun r:Int =>.clean (.int .i64 r)) l d
def aeK{β:Type}{F:(List ak)×Unit->Option β}{R:β->RK}(a:(List ak)):ew (fV (kb ah) (dO (Oq 53))) F R none [.sl false false a.length (al ah a),.fn 53]=(F (a,())).map fun r=>(R r,none):=cJ _ _ _ (a,())
def gn:Env:=(Am.ext bq 53 false nD)
def oF:bU prog gn:=(bU.none.add Df false)
def bG:=ai @w<|ai @kJ<|ai @nD.eq_1<|@gn.eq_1
def oH:cn prog 102 er:=cn.jB (mode:=.clean) tok oF mixed func102 (by kernel_rfl) (fun _ _=>rfl) (fun _=>by kernel_rfl) fun⟨h,_⟩ r a=>by
 replace a:eU h=some r:=a;apply aL rfl ntmps102 results102;simp only[jD];unfold eU at a;simp only[bG,seval];obtain⟨l,i,a⟩:=ae a;refine aD (fun s t H e=>match s with|b=>t 0=sF ah h∧t 1=.fn 53∧t 7=sN (h.length:Int)∧t 8=sN b) (fun o x t H e=>match o with|(.inl _)=>x=.exit 0|(.inr r)=>x=.ret∧gE .clean tab none [.tmp 4] ⟨t,EH H,e⟩=some (.clean (.int .i64 r),none)) i ?_ ?_ ?_
 ·refine⟨?_,?_,?_,?_⟩;all_goals (rfl)
 ·rintro b t H e f c a;simp only[jf]at a;simp only[bG,seval,f];apply sp aw a<;>intro _ a
  ·obtain⟨n,j,a⟩:=ae a;have d:=bg ah j;simp only[bM]at d;obtain⟨p,k,a⟩:=ae a;simp only[bG,seval,f,d,k];apply sp aw a<;>intro _ a
   ·cases a;simp only[bG,seval];refine tU ⟨rfl,?_⟩;simp only[bG,seval]
   ·cases a;simp only[bG,seval,f];apply ij;and_intros<;>first|rfl|(simp only[bG,seval,f]<;>rfl)
  ·cases a;simp only[bG,seval];apply jN;exact rfl
 ·rintro x t H e g;rcases l with _|q
  ·dsimp only at g a;subst g;cases a;simp only[bG,seval]
  ·dsimp only at g a;obtain⟨rfl,m⟩:=g;cases a;simp only[a8,bj,cD,cZ];exact m
def dC(l:Option (D×Row))(d:List D):=ew (fV (kb ah) (dO (Oq 53))) (fun x:(List ak)×Unit=>dX x.1) (fun r:Bool =>.clean (.bool r)) l d
def fk:Env:=(Am.ext bq 102 false er)
def mR:bU prog fk:=(bU.none.add oH false)
def nB:=ai @w<|ai @aeK<|ai @er.eq_1<|@fk.eq_1
def mT:cn prog 52 dC:=cn.jB (mode:=.clean) tok mR mixed func52 (by kernel_rfl) (fun _ _=>rfl) (fun _=>by kernel_rfl) fun⟨c,_⟩ r a=>by
 replace a:dX c=some r:=a;apply aL rfl ntmps52 results52;simp only[jD];unfold dX at a;obtain⟨d,b,a⟩:=ae a;cases a;simp only[nB,seval,b]
def qA(l:Option (D×Row))(d:List D):=ew (fV (bT jw) (dO (kb ah))) (fun x:aU×(List ak)=>uf x.1 x.2) (fun r:(List ak) =>.clean (.sl false false r.length (al ah r))) l d
def aip{β:Type}{F:aU×(List ak)->Option β}{R:β->RK}(a:(List Int))(b:(List bz))(c:(List ak)):ew (fV (bT jw) (dO (kb ah))) F R none [.agg [.sl false false a.length (al (eI .i64) a),.sl false false b.length (al bm b)],.sl false false c.length (al ah c)]=(F ((aU.mk a b),c)).map fun r=>(R r,none):=cJ _ _ _ ((aU.mk a b),c)
def uR:Env:=(Am.ext (Am.ext (Am.ext (Am.ext bq 39 false iy) 44 false kj) 52 false dC) 55 false gi)
def GR:bU prog uR:=((((bU.none.add wI false).add Af false).add mT false).add iU false)
def bl:=ai @w<|ai @Jw<|ai @iy.eq_1<|ai @aeJ<|ai @kj.eq_1<|ai @aeK<|ai @dC.eq_1<|ai @dE<|@uR.eq_1
def HO:cn prog 16 qA:=cn.jB (mode:=.clean) tok GR mixed func16 (by kernel_rfl) (fun _ _=>rfl) (fun _=>by kernel_rfl) fun⟨d,O⟩ r a=>by
 replace a:uf d O=some r:=a;apply aL rfl ntmps16 results16;simp only[jD];unfold uf at a;obtain⟨r1,au,a⟩:=ae a;simp only[bl,seval,au];obtain⟨o2,av,a⟩:=ae a;refine cK 0 (fun s t H e=>match s with|q=>∃h:Nat,t 1=sF ah O∧t 2=.ptr 2 h 0∧t 33=.bool q∧H 2=rV h 25 [sI d.av,sF bm d.an]) (fun s=>s=o2) ?_ ?_
 ·rintro q t H e ⟨h,P⟩ rfl;try dsimp only at a
  simp only[bl,seval,P];apply sp aw a<;>intro _ a
  ·cases a;simp only[bl,seval]
  ·obtain⟨r4,ax,a⟩:=ae a;simp only[bl,seval,P,ax];obtain⟨ay,S,a⟩:=ae a;refine aD (fun s t H e=>match s with|(i,Q)=>∃u:Nat,∃v:Nat,t 1=sF ah O∧t 2=.ptr 2 u 0∧t 7=.buf 7 v 1 0 (Q).length∧t 38=sF bm d.an∧t 39=sN (d.an.length:Int)∧t 40=sN i∧H 2=rV u 25 [sI d.av,sF bm d.an]∧H 7=rW v 3 (al (eI .i64) Q)) (fun o x t H e=>match o with|b=>x=.exit 0∧∃j:Nat,∃k:Nat,t 1=sF ah O∧t 2=.ptr 2 j 0∧t 7=.buf 7 k 1 0 (b).length∧H 2=rV j 25 [sI d.av,sF bm d.an]∧H 7=rW k 3 (al (eI .i64) b)) S ?_ ?_ ?_
   ·refine⟨h,e,?_⟩;and_intros<;>first|rfl|(simp only[bl,seval,P]<;>rfl)
   ·rintro⟨i,Q⟩ t H e ⟨u,v,Zb⟩ c a;simp only[xH]at a;simp only[bl,seval,Zb];apply sp aw a<;>intro _ a
    ·obtain⟨T,U,a⟩:=ae a;have F:=bg bm U;simp only[bM]at F;simp only[bl,seval,Zb,F];obtain⟨az,V,a⟩:=ae a;refine aD (fun s t H e=>match s with|(G,R)=>∃w:Nat,∃y:Nat,t 1=sF ah O∧t 2=.ptr 2 w 0∧t 7=.buf 7 y 1 0 (R).length∧t 38=sF bm d.an∧t 39=sN (d.an.length:Int)∧t 40=sN i∧t 45=sF gr T.ba∧t 46=sN (T.ba.length:Int)∧t 47=sN G∧H 2=rV w 25 [sI d.av,sF bm d.an]∧H 7=rW y 3 (al (eI .i64) R)) (fun o x t H e=>match o with|A=>x=.exit 2∧∃l:Nat,∃m:Nat,t 1=sF ah O∧t 2=.ptr 2 l 0∧t 7=.buf 7 m 1 0 (A).length∧t 38=sF bm d.an∧t 39=sN (d.an.length:Int)∧t 40=sN i∧H 2=rV l 25 [sI d.av,sF bm d.an]∧H 7=rW m 3 (al (eI .i64) A)) V ?_ ?_ ?_
     ·refine⟨u,v,?_⟩;and_intros<;>first|rfl|(simp only[bl,seval,Zb]<;>rfl)
     ·rintro⟨G,R⟩ t H e ⟨w,y,Zd⟩ c a;simp only[xI]at a;simp only[bl,seval,Zd];apply sp aw a<;>intro _ a
      ·obtain⟨W,X,a⟩:=ae a;have I:=bg gr X;simp only[bM]at I;obtain⟨Y,B,a⟩:=ae a;have n:=bg (eI .i64) B;simp only[bM]at n;have n:=bg (eI .i64) B;simp only[bM]at n;have Z:=eT (eI .i64) (x':=IntKind.i64.wrap (Y-W.aV)) (fo:=0) (cs:=[.int .i64 (IntKind.i64.wrap (Y-W.aV))]) B rfl (alK rfl);simp only[bM,Nat.add_zero]at Z;have J:=Z;simp only[putCells,List.length_cons,List.length_nil,alf]at J;simp only[bl,seval,Zd,I,n,J];refine bP (by kernel_rfl) ?_;cases a;apply ij;refine⟨w,y,?_⟩;and_intros<;>first|rfl|(simp only[bl,seval,Zd]<;>rfl)
      ·cases a;simp only[bl,seval];apply jN;refine⟨rfl,⟨w,y,?_,?_,?_,?_,?_,?_,?_,?_⟩⟩;all_goals ((simp only[bl,seval,Zd]<;>rfl))
     ·rintro x t H e K;obtain⟨A,rfl⟩:∃z,z=az:=⟨_,rfl⟩;dsimp only at K a;obtain⟨rfl,⟨l,m,aa⟩⟩:=K;cases a;simp only[bl,seval,aa];apply ij;refine⟨l,m,?_⟩;and_intros<;>first|rfl|(simp only[bl,seval,aa]<;>rfl)
    ·cases a;simp only[bl,seval];apply jN;refine⟨rfl,⟨u,v,?_,?_,?_,?_,?_⟩⟩;all_goals ((simp only[bl,seval,Zb]<;>rfl))
   ·rintro x t H e K;obtain⟨b,rfl⟩:∃z,z=ay:=⟨_,rfl⟩;dsimp only at K a;obtain⟨rfl,⟨j,k,ab⟩⟩:=K;simp only[bl,seval,ab];obtain⟨aA,ad,a⟩:=ae a;refine aD (fun s t H e=>match s with|(L,C)=>∃D:Nat,∃E:Nat,∃p:Nat,t 1=sF ah O∧t 2=.ptr 2 D 0∧t 12=.buf 12 p 4 0 (C).length∧t 62=.buf 7 E 1 0 (b).length∧t 63=sN ((b).length:Int)∧t 64=sN L∧H 2=rV D 25 [sI d.av,sF bm d.an]∧H 7=rW E 3 (al (eI .i64) b)∧H 12=rW p 41 (al ah C)) (fun o x t H e=>match o with|f=>x=.exit 4∧∃g:Nat,t 12=.buf 12 g 4 0 (f).length∧H 12=rW g 41 (al ah f)) ad ?_ ?_ ?_
    ·refine⟨j,k,e,?_⟩;and_intros<;>first|rfl|(simp only[bl,seval,ab]<;>rfl)
    ·rintro⟨L,C⟩ t H e ⟨D,E,p,Ze⟩ c a;simp only[xJ]at a;simp only[bl,seval,Ze];apply sp aw a<;>intro _ a
     ·obtain⟨aC,ag,a⟩:=ae a;have M:=bg (eI .i64) ag;simp only[bM]at M;obtain⟨aE,ai,a⟩:=ae a;obtain⟨aF,aj,a⟩:=ae a;obtain⟨an,N,ao,aq⟩:=lj ah aj;simp only[bM]at N;cases a;simp only[bl,seval,Ze,M,ai,an,N,ao,aq];apply ij;refine⟨D,E,e+1+1,?_⟩;and_intros<;>first|rfl|(simp only[bl,seval,Ze]<;>rfl)
     ·cases a;simp only[bl,seval];apply jN;refine⟨rfl,⟨p,?_,?_⟩⟩;all_goals ((simp only[bl,seval,Ze]<;>rfl))
    ·rintro x t H e K;obtain⟨f,rfl⟩:∃z,z=aA:=⟨_,rfl⟩;dsimp only at K a;obtain⟨rfl,⟨g,aB⟩⟩:=K;cases a;simp only[bl,seval,aB]
 ·clear a;have a:=av;simp only[bl,seval];apply sp bL a<;>intro _ a
  ·cases a;simp only[bl,seval];rw[aG];refine⟨_,rfl,?_⟩;refine⟨0,?_,?_,?_,?_⟩;all_goals (rfl)
  ·simp only[bl,seval];apply sp bL a<;>intro _ a
   ·cases a;simp only[bl,seval];rw[aG];refine⟨_,rfl,?_⟩;refine⟨0,?_,?_,?_,?_⟩;all_goals (rfl)
   ·obtain⟨aH,ar,a⟩:=ae a;cases a;simp only[bl,seval,ar];rw[aG];refine⟨_,rfl,?_⟩;refine⟨0,?_,?_,?_,?_⟩;all_goals (rfl)
def qH(l:Option (D×Row))(d:List D):=ew (fV (bT je) (dO (bT je))) (fun x:aN×aN=>lS x.1 x.2) (fun r:Bool =>.clean (.bool r)) l d
def HX:cn prog 101 qH:=cn.jB (mode:=.clean) tok bU.none mixed func101 (by kernel_rfl) (fun _ _=>rfl) (fun _=>by kernel_rfl) fun⟨j,k⟩ r a=>by
 replace a:lS j k=some r:=a;apply aL rfl ntmps101 results101;simp only[jD];unfold lS at a;simp only[w,seval];obtain⟨A,v,a⟩:=ae a;refine cK 0 (fun s t H e=>match s with|f=>∃b:Nat,∃d:Nat,t 2=.ptr 2 b 0∧t 3=.ptr 3 d 0∧t 19=.bool f∧H 2=rV b 39 [sN j.aq,sI j.aa]∧H 3=rV d 39 [sN k.aq,sI k.aa]) (fun s=>s=A) ?_ ?_
 ·rintro f t H e ⟨b,d,l⟩ rfl;try dsimp only at a
  simp only[w,seval,l];apply sp aw a<;>intro _ a
  ·cases a;simp only[w,seval]
  ·simp only[w,seval];obtain⟨B,y,a⟩:=ae a;refine aD (fun s t H e=>match s with|m=>∃g:Nat,∃h:Nat,t 2=.ptr 2 g 0∧t 3=.ptr 3 h 0∧t 5=sN m∧H 2=rV g 39 [sN j.aq,sI j.aa]∧H 3=rV h 39 [sN k.aq,sI k.aa]) (fun o x t H e=>match o with|(.inl _)=>x=.exit 0|(.inr r)=>x=.ret∧gE .clean tab none [.tmp 4] ⟨t,EH H,e⟩=some (.clean (.bool r),none)) y ?_ ?_ ?_
   ·refine⟨b,d,?_⟩;and_intros<;>first|rfl|(simp only[w,seval,l]<;>rfl)
   ·rintro m t H e ⟨g,h,q⟩ c a;simp only[pz]at a;simp only[w,seval,q];apply sp aw a<;>intro _ a
    ·obtain⟨E,z,a⟩:=ae a;have n:=bg (eI .i64) z;simp only[bM]at n;obtain⟨C,p,a⟩:=ae a;have i:=bg (eI .i64) p;simp only[bM]at i;simp only[w,seval,q,n,i];refine bP (by kernel_rfl) ?_;apply sp aw a<;>intro _ a
     ·cases a;simp only[w,seval];refine tU ⟨rfl,?_⟩;simp only[w,seval]
     ·cases a;simp only[w,seval,q];apply ij;refine⟨g,h,?_⟩;and_intros<;>first|rfl|(simp only[w,seval,q]<;>rfl)
    ·cases a;simp only[w,seval];apply jN;exact rfl
   ·rintro x t H e u;rcases B with _|F
    ·dsimp only at u a;subst u;cases a;simp only[w,seval]
    ·dsimp only at u a;obtain⟨rfl,D⟩:=u;cases a;simp only[a8,bj,cD,cZ];exact D
 ·clear a;have a:=v;simp only[w,seval];apply sp bL a<;>intro _ a
  ·cases a;simp only[w,seval];rw[aG];refine⟨_,rfl,?_⟩;refine⟨0,0,?_,?_,?_,?_,?_⟩;all_goals (rfl)
  ·cases a;simp only[w,seval];rw[aG];refine⟨_,rfl,?_⟩;refine⟨0,0,?_,?_,?_,?_,?_⟩;all_goals (rfl)
def vR(l:Option (D×Row))(d:List D):=ew (fV (bT ah) (dO (bT ah))) (fun x:ak×ak=>tK x.1 x.2) (fun r:Bool =>.clean (.bool r)) l d
def AN:Env:=(Am.ext bq 101 false qH)
def Ql:bU prog AN:=(bU.none.add HX false)
def Bi:=ai @w<|ai @L1<|ai @qH.eq_1<|@AN.eq_1
def RG:cn prog 51 vR:=cn.jB (mode:=.clean) tok Ql mixed func51 (by kernel_rfl) (fun _ _=>rfl) (fun _=>by kernel_rfl) fun⟨d,e⟩ r a=>by
 replace a:tK d e=some r:=a;apply aL rfl ntmps51 results51;simp only[jD];unfold tK at a;obtain⟨f,b,a⟩:=ae a;simp only[Bi,seval,b];apply sp fP a<;>intro _ a
 ·obtain⟨g,c,a⟩:=ae a;cases a;simp only[Bi,seval,c]
 ·cases a;simp only[Bi,seval]
def pV(l:Option (D×Row))(d:List D):=ew (fV (kb ah) (dO (kb ah))) (fun x:(List ak)×(List ak)=>nz x.1 x.2) (fun r:Bool =>.clean (.bool r)) l d
def AO:Env:=(Am.ext bq 51 false vR)
def Qm:bU prog AO:=(bU.none.add RG false)
def jb:=ai @w<|ai @tV<|ai @vR.eq_1<|@AO.eq_1
def Ey:cn prog 15 pV:=cn.jB (mode:=.clean) tok Qm mixed func15 (by kernel_rfl) (fun _ _=>rfl) (fun _=>by kernel_rfl) fun⟨m,n⟩ r a=>by
 replace a:nz m n=some r:=a;apply aL rfl ntmps15 results15;simp only[jD];unfold nz at a;simp only[jb,seval];apply sp aw a<;>intro _ a
 ·cases a;simp only[jb,seval]
 ·simp only[jb,seval];obtain⟨p,k,a⟩:=ae a;refine aD (fun s t H e=>match s with|d=>t 0=sF ah m∧t 1=sF ah n∧t 5=sN d) (fun o x t H e=>match o with|(.inl _)=>x=.exit 0|(.inr r)=>x=.ret∧gE .clean tab none [.tmp 4] ⟨t,EH H,e⟩=some (.clean (.bool r),none)) k ?_ ?_ ?_
  ·refine⟨?_,?_,?_⟩;all_goals (rfl)
  ·rintro d t H e i c a;simp only[uF]at a;simp only[jb,seval,i];apply sp aw a<;>intro _ a
   ·obtain⟨w,l,a⟩:=ae a;have f:=bg ah l;simp only[bM]at f;obtain⟨q,g,a⟩:=ae a;have b:=bg ah g;simp only[bM]at b;obtain⟨u,h,a⟩:=ae a;simp only[jb,seval,i,f,b,h];refine bP (by kernel_rfl) ?_;apply sp aw a<;>intro _ a
    ·cases a;simp only[jb,seval];refine tU ⟨rfl,?_⟩;simp only[jb,seval]
    ·cases a;simp only[jb,seval,i];apply ij;and_intros<;>first|rfl|(simp only[jb,seval,i]<;>rfl)
   ·cases a;simp only[jb,seval];apply jN;exact rfl
  ·rintro x t H e j;rcases p with _|y
   ·dsimp only at j a;subst j;cases a;simp only[jb,seval]
   ·dsimp only at j a;obtain⟨rfl,v⟩:=j;cases a;simp only[a8,bj,cD,cZ];exact v
def vP(l:Option (D×Row))(d:List D):=ew (as0) (fun x:Unit=>yx) (fun r:Bool =>.clean (.bool r)) l d
def A7(a:(List ak))(b:(List ak)):pV none [.sl false false a.length (al ah a),.sl false false b.length (al ah b)]=(nz a b).map fun r:Bool=>(.clean (.bool r),none):=cJ _ _ _ (a,b)
def AL:Env:=(Am.ext (Am.ext (Am.ext (Am.ext (Am.ext bq 12 false fY) 15 false pV) 16 false qA) 18 false sM) 37 false qC)
def Qj:bU prog AL:=(((((bU.none.add tE false).add Ey false).add HO false).add LC false).add HQ false)
def ja:=ai @w<|ai @Sn<|ai @fY.eq_1<|ai @aip<|ai @qA.eq_1<|ai @Ot<|ai @sM.eq_1<|ai @sh9<|ai @qC.eq_1<|@AL.eq_1
def RE:cn prog 9 vP:=cn.jB (mode:=.clean) tok Qj mixed func9 (by kernel_rfl) (fun _ _=>rfl) (fun _=>by kernel_rfl) fun _ r a=>by
 replace a:yx=some r:=a;apply aL rfl ntmps9 results9;simp only[jD];unfold yx at a;obtain⟨J,p,a⟩:=ae a;obtain⟨q,u,a⟩:=ae a;obtain⟨B,v,a⟩:=ae a;simp only[ja,seval,p,u,v];obtain⟨F,w,a⟩:=ae a;refine cK 0 (fun s t H e=>match s with|b=>t 3=sF (dW ah) q.1∧t 4=sF ah q.2.1∧t 6=sF ah B∧t 27=.bool b) (fun s=>s=F) ?_ ?_
 ·rintro b t H e c rfl;try dsimp only at a
  simp only[ja,seval,c];apply sp aw a<;>intro _ a
  ·cases a;simp only[ja,seval]
  ·obtain⟨C,h,a⟩:=ae a;obtain⟨D,i,a⟩:=ae a;have E:=A7 q.2.1 ([C,D]);simp only[b9,bM,List.length_cons,alf,Nat.reduceAdd]at E;obtain⟨K,x,a⟩:=ae a;simp only[ja,seval,c,h,i,E,x];apply sp zC a<;>intro _ a
   ·obtain⟨y,d,a⟩:=ae a;have f:=bg (dW ah) d;simp only[bM]at f;have g:=ajz (dW ah) d;simp only[bM]at g;obtain⟨z,j,a⟩:=ae a;have k:=A7 y ([C,z]);simp only[b9,bM,List.length_cons,alf,Nat.reduceAdd]at k;obtain⟨G,l,a⟩:=ae a;simp only[ja,seval,c,h,f,g,j,k,l];apply sp zC a<;>intro _ a
    ·obtain⟨A,m,a⟩:=ae a;have n:=A7 B ([D,A]);simp only[b9,bM,List.length_cons,alf,Nat.reduceAdd]at n;obtain⟨I,o,a⟩:=ae a;simp only[ja,seval,c,i,m,n,o];refine bP (by kernel_rfl) ?_;cases a;simp only[seval]
    ·simp only[ja,seval];refine bP (by kernel_rfl) ?_;cases a;simp only[seval]
   ·simp only[ja,seval];refine bP (by kernel_rfl) ?_;cases a;simp only[seval]
 ·clear a;have a:=w;simp only[ja,seval];apply sp bL a<;>intro _ a
  ·cases a;simp only[ja,seval];rw[aG];refine⟨_,rfl,?_⟩;refine⟨?_,?_,?_,?_⟩;all_goals (rfl)
  ·cases a;simp only[ja,seval];rw[aG];refine⟨_,rfl,?_⟩;refine⟨?_,?_,?_,?_⟩;all_goals (rfl)
def pU(l:Option (D×Row))(d:List D):=ew (fV (bT ah) (dO (aI .i64))) (fun x:ak×Int=>wK x.1 x.2) (fun r:Bool =>.clean (.bool r)) l d
def aeL{β:Type}{F:ak×Int->Option β}{R:β->RK}(c:Int)(a:(List Int))(d:Int)(b:(List Int))(e:Int):ew (fV (bT ah) (dO (aI .i64))) F R none [.agg [.int .i64 c,.sl false false a.length (al (eI .i64) a),.int .i64 d,.sl false false b.length (al (eI .i64) b)],.int .i64 e]=(F ((ak.mk (aN.mk c a) (aN.mk d b)),e)).map fun r=>(R r,none):=cJ _ _ _ ((ak.mk (aN.mk c a) (aN.mk d b)),e)
def HW:cn prog 38 pU:=cn.jB (mode:=.clean) tok bU.none mixed func38 (by kernel_rfl) (fun _ _=>rfl) (fun _=>by kernel_rfl) fun⟨b,c⟩ r a=>by
 replace a:wK b c=some r:=a;apply aL rfl ntmps38 results38;simp only[jD];unfold wK at a;simp only[w,seval];apply sp fP a<;>intro _ a
 ·cases a;simp only[w,seval]
 ·cases a;simp only[w,seval]
def qI(l:Option (D×Row))(d:List D):=ew (dO (bT xW)) (fun x:fh=>lT x) (fun r:Bool =>.clean (.bool r)) l d
def uY:Env:=(Am.ext bq 38 false pU)
def GZ:bU prog uY:=(bU.none.add HW false)
def bo:=ai @w<|ai @aeL<|ai @pU.eq_1<|@uY.eq_1
def HY:cn prog 32 qI:=cn.jB (mode:=.clean) tok GZ mixed func32 (by kernel_rfl) (fun _ _=>rfl) (fun _=>by kernel_rfl) fun g r a=>by
 replace a:lT g=some r:=a;apply aL rfl ntmps32 results32;simp only[jD];unfold lT at a;simp only[bo,seval];obtain⟨G,C,a⟩:=ae a;refine cK 0 (fun s t H e=>match s with|h=>∃d:Nat,t 1=.ptr 1 d 0∧t 20=.bool h∧H 1=rV d 54 [sF bA g.au,sF eK g.aQ,sF (dW ah) g.aO]) (fun s=>s=G) ?_ ?_
 ·rintro h t H e ⟨d,p⟩ rfl;try dsimp only at a
  simp only[bo,seval,p];apply sp aw a<;>intro _ a
  ·cases a;simp only[bo,seval]
  ·simp only[bo,seval];obtain⟨D,q,a⟩:=ae a;refine aD (fun s t H e=>match s with|k=>∃l:Nat,t 1=.ptr 1 l 0∧t 3=sN k∧H 1=rV l 54 [sF bA g.au,sF eK g.aQ,sF (dW ah) g.aO]) (fun o x t H e=>match o with|(.inl _)=>x=.exit 0|(.inr r)=>x=.ret∧gE .clean tab none [.tmp 2] ⟨t,EH H,e⟩=some (.clean (.bool r),none)) q ?_ ?_ ?_
   ·refine⟨d,?_⟩;and_intros<;>first|rfl|(simp only[bo,seval,p]<;>rfl)
   ·rintro k t H e ⟨l,E⟩ c a;simp only[pA]at a;simp only[bo,seval,E];apply sp aw a<;>intro _ a
    ·obtain⟨I,i,a⟩:=ae a;have b:=bg (dW ah) i;simp only[bM]at b;simp only[bo,seval,E,b];apply sp aw a<;>intro _ a
     ·cases a;simp only[bo,seval];refine tU ⟨rfl,?_⟩;simp only[bo,seval]
     ·simp only[bo,seval];obtain⟨F,u,a⟩:=ae a;refine aD (fun s t H e=>match s with|v=>∃j:Nat,t 1=.ptr 1 j 0∧t 3=sN k∧t 4=sN v∧H 1=rV j 54 [sF bA g.au,sF eK g.aQ,sF (dW ah) g.aO]) (fun o x t H e=>match o with|(.inl _)=>x=.exit 2∧∃f:Nat,t 1=.ptr 1 f 0∧t 3=sN k∧H 1=rV f 54 [sF bA g.au,sF eK g.aQ,sF (dW ah) g.aO]|(.inr r)=>x=.ret∧gE .clean tab none [.tmp 2] ⟨t,EH H,e⟩=some (.clean (.bool r),none)) u ?_ ?_ ?_
      ·refine⟨l,?_⟩;and_intros<;>first|rfl|(simp only[bo,seval,E]<;>rfl)
      ·rintro v t H e ⟨j,w⟩ c a;simp only[fp]at a;have b:=bg (dW ah) i;simp only[bM]at b;simp only[bo,seval,w,b];apply sp aw a<;>intro _ a
       ·have b:=bg (dW ah) i;simp only[bM]at b;obtain⟨J,y,a⟩:=ae a;have n:=bg ah y;simp only[bM]at n;obtain⟨K,z,a⟩:=ae a;simp only[bo,seval,w,b,n,z];apply sp aw a<;>intro _ a
        ·cases a;simp only[bo,seval];refine tU ⟨rfl,?_⟩;simp only[bo,seval]
        ·cases a;simp only[bo,seval,w];apply ij;refine⟨j,?_⟩;and_intros<;>first|rfl|(simp only[bo,seval,w]<;>rfl)
       ·cases a;simp only[bo,seval];apply jN;refine⟨rfl,⟨j,?_,?_,?_⟩⟩;all_goals ((simp only[bo,seval,w]<;>rfl))
      ·rintro x t H e m;rcases F with _|rd
       ·dsimp only at m a;obtain⟨rfl,⟨f,A⟩⟩:=m;cases a;simp only[bo,seval,A];apply ij;refine⟨f,?_⟩;and_intros<;>first|rfl|(simp only[bo,seval,A]<;>rfl)
       ·dsimp only at m a;obtain⟨rfl,B⟩:=m;cases a;simp only[a8,bj,cD];apply tU;first|exact⟨rfl,B⟩|(simp only[bo,seval]at B;exact⟨rfl,B⟩)
    ·cases a;simp only[bo,seval];apply jN;exact rfl
   ·rintro x t H e m;rcases D with _|L
    ·dsimp only at m a;subst m;cases a;simp only[bo,seval]
    ·dsimp only at m a;obtain⟨rfl,B⟩:=m;cases a;simp only[a8,bj,cD,cZ];exact B
 ·clear a;have a:=C;simp only[bo,seval];apply sp bL a<;>intro _ a
  ·cases a;simp only[bo,seval];rw[aG];refine⟨_,rfl,?_⟩;refine⟨0,?_,?_,?_⟩;all_goals (rfl)
  ·simp only[bo,seval];apply sp bL a<;>intro _ a
   ·cases a;simp only[bo,seval];rw[aG];refine⟨_,rfl,?_⟩;refine⟨0,?_,?_,?_⟩;all_goals (rfl)
   ·cases a;simp only[bo,seval];rw[aG];refine⟨_,rfl,?_⟩;refine⟨0,?_,?_,?_⟩;all_goals (rfl)
def y4(l:Option (D×Row))(d:List D):=ew (dO (bT jw)) (fun x:aU=>zp x) (fun r:Bool =>.clean (.bool r)) l d
def CZ:Env:=(Am.ext bq 32 false qI)
def T2:bU prog CZ:=(bU.none.add HY false)
def dJ:=ai @w<|ai @aeD<|ai @qI.eq_1<|@CZ.eq_1
def Uj:cn prog 10 y4:=cn.jB (mode:=.clean) tok T2 mixed func10 (by kernel_rfl) (fun _ _=>rfl) (fun _=>by kernel_rfl) fun j r a=>by
 replace a:zp j=some r:=a;apply aL rfl ntmps10 results10;simp only[jD];unfold zp at a;simp only[dJ,seval];obtain⟨u,p,a⟩:=ae a;refine cK 0 (fun s t H e=>match s with|f=>∃d:Nat,t 1=.ptr 1 d 0∧t 13=.bool f∧H 1=rV d 25 [sI j.av,sF bm j.an]) (fun s=>s=u) ?_ ?_
 ·rintro f t H e ⟨d,k⟩ rfl;try dsimp only at a
  simp only[dJ,seval,k];apply sp aw a<;>intro _ a
  ·cases a;simp only[dJ,seval]
  ·simp only[dJ,seval];obtain⟨v,q,a⟩:=ae a;refine aD (fun s t H e=>match s with|l=>∃h:Nat,t 1=.ptr 1 h 0∧t 3=sN l∧H 1=rV h 25 [sI j.av,sF bm j.an]) (fun o x t H e=>match o with|(.inl _)=>x=.exit 0|(.inr r)=>x=.ret∧gE .clean tab none [.tmp 2] ⟨t,EH H,e⟩=some (.clean (.bool r),none)) q ?_ ?_ ?_
   ·refine⟨d,?_⟩;and_intros<;>first|rfl|(simp only[dJ,seval,k]<;>rfl)
   ·rintro l t H e ⟨h,i⟩ c a;simp only[wL]at a;simp only[dJ,seval,i];apply sp aw a<;>intro _ a
    ·obtain⟨w,g,a⟩:=ae a;have b:=bg bm g;simp only[bM]at b;obtain⟨y,m,a⟩:=ae a;simp only[dJ,seval,i,b,m];apply sp bL a<;>intro _ a
     ·cases a;simp only[dJ,seval];refine tU ⟨rfl,?_⟩;simp only[dJ,seval]
     ·have b:=bg bm g;simp only[bM]at b;simp only[dJ,seval,i,b];apply sp bL a<;>intro _ a
      ·cases a;simp only[dJ,seval];refine tU ⟨rfl,?_⟩;simp only[dJ,seval]
      ·have b:=bg bm g;simp only[bM]at b;simp only[dJ,seval,i,b];apply sp aw a<;>intro _ a
       ·cases a;simp only[dJ,seval];refine tU ⟨rfl,?_⟩;simp only[dJ,seval]
       ·cases a;simp only[dJ,seval,i];apply ij;refine⟨h,?_⟩;and_intros<;>first|rfl|(simp only[dJ,seval,i]<;>rfl)
    ·cases a;simp only[dJ,seval];apply jN;exact rfl
   ·rintro x t H e n;rcases v with _|A
    ·dsimp only at n a;subst n;cases a;simp only[dJ,seval]
    ·dsimp only at n a;obtain⟨rfl,z⟩:=n;cases a;simp only[a8,bj,cD,cZ];exact z
 ·clear a;have a:=p;simp only[dJ,seval];apply sp bL a<;>intro _ a
  ·cases a;simp only[dJ,seval];rw[aG];refine⟨_,rfl,?_⟩;refine⟨0,?_,?_,?_⟩;all_goals (rfl)
  ·cases a;simp only[dJ,seval];rw[aG];refine⟨_,rfl,?_⟩;refine⟨0,?_,?_,?_⟩;all_goals (rfl)
def y5(l:Option (D×Row))(d:List D):=ew (dO (kb (dW ah))) (fun x:(List (List ak))=>zq x) (fun r:Bool =>.clean (.bool r)) l d
def aiq{β:Type}{F:(List (List ak))->Option β}{R:β->RK}(a:(List (List ak))):ew (dO (kb (dW ah))) F R none [.sl false false a.length (al (dW ah) a)]=(F (a)).map fun r=>(R r,none):=cJ _ _ _ (a)
def C0:Env:=(Am.ext bq 38 false pU)
def T3:bU prog C0:=(bU.none.add HW false)
def cT:=ai @w<|ai @aeL<|ai @pU.eq_1<|@C0.eq_1
def Uk:cn prog 11 y5:=cn.jB (mode:=.clean) tok T3 mixed func11 (by kernel_rfl) (fun _ _=>rfl) (fun _=>by kernel_rfl) fun k r a=>by
 replace a:zq k=some r:=a;apply aL rfl ntmps11 results11;simp only[jD];unfold zq at a;simp only[cT,seval];obtain⟨A,l,a⟩:=ae a;refine aD (fun s t H e=>match s with|d=>t 0=sF (dW ah) k∧t 3=sN d) (fun o x t H e=>match o with|(.inl _)=>x=.exit 0∧t 0=sF (dW ah) k|(.inr r)=>x=.ret∧gE .clean tab none [.tmp 2] ⟨t,EH H,e⟩=some (.clean (.bool r),none)) l ?_ ?_ ?_
 ·refine⟨?_,?_⟩;all_goals (rfl)
 ·rintro d t H e z c a;simp only[tL]at a;simp only[cT,seval,z];obtain⟨B,m,a⟩:=ae a;refine cK 0 (fun s t H e=>match s with|f=>t 0=sF (dW ah) k∧t 3=sN d∧t 12=.bool f) (fun s=>s=B) ?_ ?_
  ·rintro f t H e h rfl;try dsimp only at a
   simp only[cT,seval,h];apply sp aw a<;>intro _ a
   ·obtain⟨E,g,a⟩:=ae a;have b:=bg (dW ah) g;simp only[bM]at b;simp only[cT,seval,h,b];apply sp aw a<;>intro _ a
    ·cases a;simp only[cT,seval];refine tU ⟨rfl,?_⟩;simp only[cT,seval]
    ·simp only[cT,seval];obtain⟨C,n,a⟩:=ae a;refine aD (fun s t H e=>match s with|p=>t 0=sF (dW ah) k∧t 3=sN d∧t 4=sN p) (fun o x t H e=>match o with|(.inl _)=>x=.exit 2∧t 0=sF (dW ah) k∧t 3=sN d|(.inr r)=>x=.ret∧gE .clean tab none [.tmp 2] ⟨t,EH H,e⟩=some (.clean (.bool r),none)) n ?_ ?_ ?_
     ·and_intros<;>first|rfl|(simp only[cT,seval,h]<;>rfl)
     ·rintro p t H e q c a;simp only[qu]at a;have b:=bg (dW ah) g;simp only[bM]at b;simp only[cT,seval,q,b];apply sp aw a<;>intro _ a
      ·have b:=bg (dW ah) g;simp only[bM]at b;obtain⟨F,u,a⟩:=ae a;have j:=bg ah u;simp only[bM]at j;obtain⟨G,v,a⟩:=ae a;simp only[cT,seval,q,b,j,v];apply sp aw a<;>intro _ a
       ·cases a;simp only[cT,seval];refine tU ⟨rfl,?_⟩;simp only[cT,seval]
       ·cases a;simp only[cT,seval,q];apply ij;and_intros<;>first|rfl|(simp only[cT,seval,q]<;>rfl)
      ·cases a;simp only[cT,seval];apply jN;refine⟨rfl,⟨?_,?_⟩⟩;all_goals ((simp only[cT,seval,q]<;>rfl))
     ·rintro x t H e i;rcases C with _|I
      ·dsimp only at i a;obtain⟨rfl,w⟩:=i;cases a;simp only[cT,seval,w];apply ij;and_intros<;>first|rfl|(simp only[cT,seval,w]<;>rfl)
      ·dsimp only at i a;obtain⟨rfl,y⟩:=i;cases a;simp only[a8,bj,cD];apply tU;first|exact⟨rfl,y⟩|(simp only[cT,seval]at y;exact⟨rfl,y⟩)
   ·cases a;simp only[cT,seval];apply jN;refine⟨rfl,?_⟩;all_goals ((simp only[cT,seval,h]<;>rfl))
  ·clear a;have a:=m;simp only[cT,seval];apply sp fP a<;>intro _ a
   ·cases a;simp only[cT,seval,z];rw[aG];refine⟨_,rfl,?_⟩;and_intros<;>first|rfl|(simp only[cT,seval,z]<;>rfl)
   ·cases a;simp only[cT,seval];rw[aG];refine⟨_,rfl,?_⟩;and_intros<;>first|rfl|(simp only[cT,seval,z]<;>rfl)
 ·rintro x t H e i;rcases A with _|J
  ·dsimp only at i a;obtain⟨rfl,D⟩:=i;cases a;simp only[cT,seval,D]
  ·dsimp only at i a;obtain⟨rfl,y⟩:=i;cases a;simp only[a8,bj,cD,cZ];exact y
def qD(l:Option (D×Row))(d:List D):=ew (fV (bT xX) (dO (kb (eI .i64)))) (fun x:fW×(List Int)=>lH x.1 x.2) (fun r:(List Bool) =>.clean (.sl false false r.length (al jv r))) l d
def air{β:Type}{F:fW×(List Int)->Option β}{R:β->RK}(b:Int)(a:(List cA))(c:(List Int)):ew (fV (bT xX) (dO (kb (eI .i64)))) F R none [.agg [.int .i64 b,.sl false false a.length (al bW a)],.sl false false c.length (al (eI .i64) c)]=(F ((fW.mk b a),c)).map fun r=>(R r,none):=cJ _ _ _ ((fW.mk b a),c)
def HR:cn prog 27 qD:=cn.jB (mode:=.clean) tok bU.none mixed func27 (by kernel_rfl) (fun _ _=>rfl) (fun _=>by kernel_rfl) fun⟨j,p1⟩ r a=>by
 replace a:lH j p1=some r:=a;apply aL rfl ntmps27 results27;simp only[jD];unfold lH at a;obtain⟨x1,az,a⟩:=ae a;obtain⟨aA,aB,aC,ag,aE⟩:=mk_one jv az;simp only[bM]at ag;simp only[w,seval,aA,aB,aC,ag,aE];obtain⟨aF,ah,a⟩:=ae a;refine aD (fun s t H e=>match s with|(Z,C)=>∃u:Nat,∃v:Nat,t 1=sI p1∧t 2=.ptr 2 u 0∧t 5=.buf 5 v 1 0 (C).length∧t 6=sN Z∧H 2=rV u 66 [sN j.aF,sF bW j.aZ]∧H 5=rW v 4 (al jv C)) (fun o x t H e=>match o with|D=>x=.exit 0∧∃l:Nat,∃m:Nat,t 2=.ptr 2 l 0∧t 5=.buf 5 m 1 0 (D).length∧H 2=rV l 66 [sN j.aF,sF bW j.aZ]∧H 5=rW m 4 (al jv D)) ah ?_ ?_ ?_
 ·refine⟨0,1,?_,?_,?_,?_,?_,?_⟩;all_goals (rfl)
 ·rintro⟨Z,C⟩ t H e ⟨u,v,Za⟩ c a;simp only[lI]at a;simp only[w,seval,Za];apply sp aw a<;>intro _ a
  ·obtain⟨aP,E,a⟩:=ae a;have b:=bg (eI .i64) E;simp only[bM]at b;simp only[w,seval,Za,b];obtain⟨aH,ai,a⟩:=ae a;refine cK 0 (fun s t H e=>match s with|F=>∃g:Nat,∃h:Nat,t 1=sI p1∧t 2=.ptr 2 g 0∧t 5=.buf 5 h 1 0 (C).length∧t 6=sN Z∧t 32=.bool F∧H 2=rV g 66 [sN j.aF,sF bW j.aZ]∧H 5=rW h 4 (al jv C)) (fun s=>s=aH) ?_ ?_
   ·rintro F t H e ⟨g,h,G⟩ rfl;try dsimp only at a
    simp only[w,seval,G];apply sp aw a<;>intro _ a
    ·have b:=bg (eI .i64) E;simp only[bM]at b;obtain⟨aQ,O,a⟩:=ae a;have P:=bg jv O;simp only[bM]at P;have aj:=eT jv (x':=true) (fo:=0) (cs:=[.bool true]) O rfl (alK rfl);simp only[bM,Nat.add_zero]at aj;have Q:=aj;simp only[putCells,List.length_cons,List.length_nil,alf]at Q;cases a;simp only[w,seval,G,b,P,Q];apply ij;refine⟨g,h,?_⟩;and_intros<;>first|rfl|(simp only[w,seval,G]<;>rfl)
    ·cases a;simp only[w,seval,G];apply ij;refine⟨g,h,?_⟩;and_intros<;>first|rfl|(simp only[w,seval,G]<;>rfl)
   ·clear a;have a:=ai;simp only[w,seval];apply sp fP a<;>intro _ a
    ·have b:=bg (eI .i64) E;simp only[bM]at b;cases a;simp only[w,seval,Za,b];rw[aG];refine⟨_,rfl,?_⟩;refine⟨u,v,?_⟩;and_intros<;>first|rfl|(simp only[w,seval,Za]<;>rfl)
    ·cases a;simp only[w,seval];rw[aG];refine⟨_,rfl,?_⟩;refine⟨u,v,?_⟩;and_intros<;>first|rfl|(simp only[w,seval,Za]<;>rfl)
  ·cases a;simp only[w,seval];apply jN;refine⟨rfl,⟨u,v,?_,?_,?_,?_⟩⟩;all_goals ((simp only[w,seval,Za]<;>rfl))
 ·rintro x t H e R;obtain⟨D,rfl⟩:∃z,z=aF:=⟨_,rfl⟩;dsimp only at R a;obtain⟨rfl,⟨l,m,aI⟩⟩:=R;simp only[w,seval];obtain⟨aJ,an,a⟩:=ae a;refine aD (fun s t H e=>match s with|(ao,aa)=>∃N:Nat,∃I:Nat,t 2=.ptr 2 N 0∧t 5=.buf 5 I 1 0 (aa).length∧t 7=.bool ao∧H 2=rV N 66 [sN j.aF,sF bW j.aZ]∧H 5=rW I 4 (al jv aa)) (fun o x t H e=>match o with|J=>x=.exit 2∧∃K:Nat,t 5=.buf 5 K 1 0 (J).length∧H 5=rW K 4 (al jv J)) an ?_ ?_ ?_
  ·refine⟨l,m,?_⟩;and_intros<;>first|rfl|(simp only[w,seval,aI]<;>rfl)
  ·rintro⟨ao,aa⟩ t H e ⟨N,I,Zd⟩ c a;simp only[pb]at a;simp only[w,seval,Zd];apply sp aw a<;>intro _ a
   ·simp only[w,seval];obtain⟨aK,aq,a⟩:=ae a;refine aD (fun s t H e=>match s with|(ab,ad,L)=>∃y:Nat,∃A:Nat,t 2=.ptr 2 y 0∧t 5=.buf 5 A 1 0 (L).length∧t 7=.bool ab∧t 8=sN ad∧H 2=rV y 66 [sN j.aF,sF bW j.aZ]∧H 5=rW A 4 (al jv L)) (fun o x t H e=>match o with|(S,M)=>x=.exit 4∧∃n:Nat,∃p:Nat,t 2=.ptr 2 n 0∧t 5=.buf 5 p 1 0 (M).length∧t 7=.bool S∧H 2=rV n 66 [sN j.aF,sF bW j.aZ]∧H 5=rW p 4 (al jv M)) aq ?_ ?_ ?_
    ·refine⟨N,I,?_⟩;and_intros<;>first|rfl|(simp only[w,seval,Zd]<;>rfl)
    ·rintro⟨ab,ad,L⟩ t H e ⟨y,A,Zh⟩ c a;simp only[lJ]at a;simp only[w,seval,Zh];apply sp aw a<;>intro _ a
     ·obtain⟨B,ar,a⟩:=ae a;have T:=bg bW ar;simp only[bM]at T;obtain⟨aR,au,a⟩:=ae a;have U:=bg jv au;simp only[bM]at U;simp only[w,seval,Zh,T,U];obtain⟨aM,av,a⟩:=ae a;refine cK 0 (fun s t H e=>match s with|q=>∃d:Nat,∃f:Nat,∃k:Nat,t 2=.ptr 2 d 0∧t 5=.buf 5 f 1 0 (L).length∧t 7=.bool ab∧t 8=sN ad∧t 9=.ptr 9 k 0∧t 64=.bool q∧H 2=rV d 66 [sN j.aF,sF bW j.aZ]∧H 5=rW f 4 (al jv L)∧H 9=rV k 118 [sN B.db,sN B.jM,sN B.fj.bX.aq,sI B.fj.bX.aa,sN B.fj.b8.aq,sI B.fj.b8.aa]) (fun s=>s=aM) ?_ ?_
      ·rintro q t H e ⟨d,f,k,i⟩ rfl;try dsimp only at a
       simp only[w,seval,i];apply sp aw a<;>intro _ a
       ·obtain⟨aS,V,a⟩:=ae a;have W:=bg jv V;simp only[bM]at W;have ax:=eT jv (x':=true) (fo:=0) (cs:=[.bool true]) V rfl (alK rfl);simp only[bM,Nat.add_zero]at ax;have X:=ax;simp only[putCells,List.length_cons,List.length_nil,alf]at X;cases a;simp only[w,seval,i,W,X];apply ij;refine⟨d,f,?_⟩;and_intros<;>first|rfl|(simp only[w,seval,i]<;>rfl)
       ·cases a;simp only[w,seval,i];apply ij;refine⟨d,f,?_⟩;and_intros<;>first|rfl|(simp only[w,seval,i]<;>rfl)
      ·clear a;have a:=av;simp only[w,seval];apply sp fP a<;>intro _ a
       ·obtain⟨aT,ay,a⟩:=ae a;have Y:=bg jv ay;simp only[bM]at Y;cases a;simp only[w,seval,Zh,Y];rw[aG];refine⟨_,rfl,?_⟩;refine⟨y,A,e+1,?_⟩;and_intros<;>first|rfl|(simp only[w,seval,Zh]<;>rfl)
       ·cases a;simp only[w,seval];rw[aG];refine⟨_,rfl,?_⟩;refine⟨y,A,e+1,?_⟩;and_intros<;>first|rfl|(simp only[w,seval,Zh]<;>rfl)
     ·cases a;simp only[w,seval];apply jN;refine⟨rfl,⟨y,A,?_,?_,?_,?_,?_⟩⟩;all_goals ((simp only[w,seval,Zh]<;>rfl))
    ·rintro x t H e R;rcases aK with⟨S,M⟩;dsimp only at R a;obtain⟨rfl,⟨n,p,aN⟩⟩:=R;cases a;simp only[w,seval];apply ij;refine⟨n,p,?_,?_,?_,?_,?_⟩;all_goals ((simp only[w,seval,aN]<;>rfl))
   ·cases a;simp only[w,seval];apply jN;refine⟨rfl,⟨I,?_,?_⟩⟩;all_goals ((simp only[w,seval,Zd]<;>rfl))
  ·rintro x t H e R;obtain⟨J,rfl⟩:∃z,z=aJ:=⟨_,rfl⟩;dsimp only at R a;obtain⟨rfl,⟨K,aO⟩⟩:=R;cases a;simp only[w,seval,aO]
def oN(l:Option (D×Row))(d:List D):=ew (fV (kb (eI .i64)) (dO (kb (eI .i64)))) (fun x:(List Int)×(List Int)=>mH x.1 x.2) (fun r:Bool =>.clean (.bool r)) l d
def E7:cn prog 119 oN:=cn.jB (mode:=.clean) tok bU.none mixed func119 (by kernel_rfl) (fun _ _=>rfl) (fun _=>by kernel_rfl) fun⟨i,m⟩ r a=>by
 replace a:mH i m=some r:=a;apply aL rfl ntmps119 results119;simp only[jD];unfold mH at a;simp only[w,seval];apply sp aw a<;>intro _ a
 ·cases a;simp only[w,seval]
 ·simp only[w,seval];obtain⟨n,j,a⟩:=ae a;refine aD (fun s t H e=>match s with|b=>t 0=sI i∧t 1=sI m∧t 12=sN (i.length:Int)∧t 13=sN b) (fun o x t H e=>match o with|(.inl _)=>x=.exit 0|(.inr r)=>x=.ret∧gE .clean tab none [.tmp 4] ⟨t,EH H,e⟩=some (.clean (.bool r),none)) j ?_ ?_ ?_
  ·refine⟨?_,?_,?_,?_⟩;all_goals (rfl)
  ·rintro b t H e g c a;simp only[nP]at a;simp only[w,seval,g];apply sp aw a<;>intro _ a
   ·obtain⟨q,k,a⟩:=ae a;have d:=bg (eI .i64) k;simp only[bM]at d;obtain⟨u,l,a⟩:=ae a;have f:=bg (eI .i64) l;simp only[bM]at f;simp only[w,seval,g,d,f];refine bP (by kernel_rfl) ?_;apply sp aw a<;>intro _ a
    ·cases a;simp only[w,seval];refine tU ⟨rfl,?_⟩;simp only[w,seval]
    ·cases a;simp only[w,seval,g];apply ij;and_intros<;>first|rfl|(simp only[w,seval,g]<;>rfl)
   ·cases a;simp only[w,seval];apply jN;exact rfl
  ·rintro x t H e h;rcases n with _|v
   ·dsimp only at h a;subst h;cases a;simp only[w,seval]
   ·dsimp only at h a;obtain⟨rfl,p⟩:=h;cases a;simp only[a8,bj,cD,cZ];exact p
def vL(l:Option (D×Row))(d:List D):=ew (fV (bT je) (dO (bT je))) (fun x:aN×aN=>sU x.1 x.2) (fun r:Bool =>.clean (.bool r)) l d
def AD:Env:=(Am.ext bq 119 false oN)
def Qb:bU prog AD:=(bU.none.add E7 false)
def Bg:=ai @w<|ai @W2<|ai @oN.eq_1<|@AD.eq_1
def RA:cn prog 64 vL:=cn.jB (mode:=.clean) tok Qb mixed func64 (by kernel_rfl) (fun _ _=>rfl) (fun _=>by kernel_rfl) fun⟨c,d⟩ r a=>by
 replace a:sU c d=some r:=a;apply aL rfl ntmps64 results64;simp only[jD];unfold sU at a;simp only[Bg,seval];apply sp fP a<;>intro _ a
 ·obtain⟨e,b,a⟩:=ae a;cases a;simp only[Bg,seval,b]
 ·cases a;simp only[Bg,seval]
def tY(l:Option (D×Row))(d:List D):=ew (fV (bT ah) (dO (bT ah))) (fun x:ak×ak=>sA x.1 x.2) (fun r:Bool =>.clean (.bool r)) l d
def yj:Env:=(Am.ext bq 64 false vL)
def M7:bU prog yj:=(bU.none.add RA false)
def yT:=ai @w<|ai @L1<|ai @vL.eq_1<|@yj.eq_1
def NA:cn prog 25 tY:=cn.jB (mode:=.clean) tok M7 mixed func25 (by kernel_rfl) (fun _ _=>rfl) (fun _=>by kernel_rfl) fun⟨d,e⟩ r a=>by
 replace a:sA d e=some r:=a;apply aL rfl ntmps25 results25;simp only[jD];unfold sA at a;obtain⟨f,b,a⟩:=ae a;simp only[yT,seval,b];apply sp fP a<;>intro _ a
 ·obtain⟨g,c,a⟩:=ae a;cases a;simp only[yT,seval,c]
 ·cases a;simp only[yT,seval]
def Cy(l:Option (D×Row))(d:List D):=ew (fV (bT jw) (fV (kb (dW ah)) (fV (aI .u8) (fV (aI .u8) (dO (aI .u16)))))) (fun x:aU×(List (List ak))×Int×Int×Int=>gS x.1 x.2.1 x.2.2.1 x.2.2.2.1 x.2.2.2.2) (fun r:Bool =>.clean (.bool r)) l d
def mh:Env:=(Am.ext (Am.ext (Am.ext (Am.ext bq 9 false vP) 10 false y4) 11 false y5) 12 false fY)
def BU:bU prog mh:=((((bU.none.add RE false).add Uj false).add Uk false).add tE false)
def cG:=ai @w<|ai @qh<|ai @sh9<|ai @vP.eq_1<|ai @Jw<|ai @y4.eq_1<|ai @aiq<|ai @y5.eq_1<|ai @Sn<|ai @fY.eq_1<|@mh.eq_1
def ln:Env:=(Am.ext (Am.ext (Am.ext (Am.ext (Am.ext bq 12 false fY) 15 false pV) 25 false tY) 26 false sO) 27 false qD)
def AQ:bU prog ln:=(((((bU.none.add tE false).add Ey false).add NA false).add LD false).add HR false)
def aA:=ai @w<|ai @qh<|ai @Sn<|ai @fY.eq_1<|ai @Y4<|ai @pV.eq_1<|ai @tV<|ai @tY.eq_1<|ai @Jw<|ai @sO.eq_1<|ai @air<|ai @qD.eq_1<|@ln.eq_1
def B1:Z3 kG ln:=by
 intro B U X ps m l r t H e Y aN a j f b d g Z k aa;apply aeA rfl ntmps6 results6;simp only[yM,yN];unfold kG at a;obtain⟨I,ay,a⟩:=ae a;obtain⟨r2,az,a⟩:=ae a;simp only[aA,seval,j,Z,k,aa,ay,az];apply sp aw a<;>intro _ a
 ·simp only[aA,seval,f];obtain⟨o4,aB,a⟩:=ae a;refine cK 0 (fun s t H e=>match s with|D=>t 10=.bool D) (fun s=>s=o4) ?_ ?_
  ·rintro D t H e aC rfl;try dsimp only at a
   cases a;simp only[aA,seval,aC]
  ·clear a;have a:=aB;simp only[aA,seval];apply sp fP a<;>intro _ a
   ·cases a;simp only[aA,seval];rw[aG];refine⟨_,rfl,?_⟩;refine ?_;all_goals (rfl)
   ·cases a;simp only[aA,seval];rw[aG];refine⟨_,rfl,?_⟩;refine ?_;all_goals (rfl)
 ·simp only[aA,seval];obtain⟨o6,aE,a⟩:=ae a;refine cK 0 (fun s t H e=>match s with|p=>∃q:Nat,∃n:Nat,t 5=.ptr 5 q 0∧t 11=.bool U∧t 12=sF (dW ah) X∧t 13=sF ah ps∧t 15=sN m∧t 17=sF (dW ah) I.1∧t 18=sF ah I.2.1∧t 20=.ptr 20 n 0∧t 142=.bool p∧H 5=rV q 25 [sI B.av,sF bm B.an]∧H 20=rV n 66 [sN r2.1.aF,sF bW r2.1.aZ]) (fun s=>s=o6) ?_ ?_
  ·rintro p t H e ⟨q,n,V⟩ rfl;try dsimp only at a
   simp only[aA,seval,V];apply sp aw a<;>intro _ a
   ·cases a;simp only[aA,seval]
   ·obtain⟨x8,aF,a⟩:=ae a;have ab:=bg bm aF;simp only[bM]at ab;obtain⟨r9,aH,a⟩:=ae a;simp only[aA,seval,V,ab,aH];refine bP (by kernel_rfl) ?_;obtain⟨aI,ad,a⟩:=ae a;refine aD (fun s t H e=>match s with|J=>∃w:Nat,t 5=.ptr 5 w 0∧t 11=.bool U∧t 12=sF (dW ah) X∧t 13=sF ah ps∧t 15=sN m∧t 17=sF (dW ah) I.1∧t 18=sF ah I.2.1∧t 22=sF jv r9∧t 23=sN J∧H 5=rV w 25 [sI B.av,sF bm B.an]) (fun o x t H e=>match o with|(.inl _)=>x=.exit 0∧∃u:Nat,t 5=.ptr 5 u 0∧t 11=.bool U∧t 12=sF (dW ah) X∧t 15=sN m∧t 17=sF (dW ah) I.1∧t 22=sF jv r9∧H 5=rV u 25 [sI B.av,sF bm B.an]|(.inr r)=>x=.ret∧gE .clean tab none [.tmp 10] ⟨t,EH H,e⟩=some (.clean (.bool r),none)) ad ?_ ?_ ?_
    ·refine⟨q,?_⟩;and_intros<;>first|rfl|(simp only[aA,seval,V]<;>rfl)
    ·rintro J t H e ⟨w,K⟩ c a;simp only[iQ]at a;simp only[aA,seval,K];apply sp aw a<;>intro _ a
     ·obtain⟨aO,ag,a⟩:=ae a;have E:=bg jv ag;simp only[bM]at E;simp only[aA,seval,K,E];apply sp zC a<;>intro _ a
      ·obtain⟨aP,ai,a⟩:=ae a;have L:=bg ah ai;simp only[bM]at L;obtain⟨aQ,aj,a⟩:=ae a;have M:=bg ah aj;simp only[bM]at M;obtain⟨aR,al,a⟩:=ae a;simp only[aA,seval,K,E,L,M,al];refine bP (by kernel_rfl) ?_;apply sp aw a<;>intro _ a
       ·cases a;simp only[aA,seval];refine tU ⟨rfl,?_⟩;simp only[aA,seval]
       ·cases a;simp only[aA,seval,K];apply ij;refine⟨w,?_⟩;and_intros<;>first|rfl|(simp only[aA,seval,K]<;>rfl)
      ·simp only[aA,seval,K];refine bP (by kernel_rfl) ?_;cases a;apply ij;refine⟨w,?_⟩;and_intros<;>first|rfl|(simp only[aA,seval,K]<;>rfl)
     ·cases a;simp only[aA,seval];apply jN;refine⟨rfl,⟨w,?_,?_,?_,?_,?_,?_,?_⟩⟩;all_goals ((simp only[aA,seval,K]<;>rfl))
    ·rintro x t H e C;rcases aI with _|rc
     ·dsimp only at C a;obtain⟨rfl,⟨u,aJ⟩⟩:=C;simp only[aA,seval];obtain⟨aK,an,a⟩:=ae a;refine aD (fun s t H e=>match s with|v=>∃G:Nat,t 5=.ptr 5 G 0∧t 11=.bool U∧t 12=sF (dW ah) X∧t 15=sN m∧t 17=sF (dW ah) I.1∧t 22=sF jv r9∧t 24=sN v∧H 5=rV G 25 [sI B.av,sF bm B.an]) (fun o x t H e=>match o with|(.inl _)=>x=.exit 2∧t 11=.bool U|(.inr r)=>x=.ret∧gE .clean tab none [.tmp 10] ⟨t,EH H,e⟩=some (.clean (.bool r),none)) an ?_ ?_ ?_
      ·refine⟨u,?_⟩;and_intros<;>first|rfl|(simp only[aA,seval,aJ]<;>rfl)
      ·rintro v t H e ⟨G,Zd⟩ c a;simp only[iR]at a;simp only[aA,seval,Zd];apply sp aw a<;>intro _ a
       ·simp only[aA,seval,Zd];obtain⟨aL,ao,a⟩:=ae a;refine aD (fun s t H e=>match s with|(N,O)=>∃y:Nat,t 5=.ptr 5 y 0∧t 11=.bool U∧t 12=sF (dW ah) X∧t 15=sN m∧t 17=sF (dW ah) I.1∧t 22=sF jv r9∧t 24=sN v∧t 25=.bool N∧t 26=sN O∧H 5=rV y 25 [sI B.av,sF bm B.an]) (fun o x t H e=>match o with|F=>x=.exit 4∧∃h:Nat,t 5=.ptr 5 h 0∧t 11=.bool U∧t 12=sF (dW ah) X∧t 15=sN m∧t 17=sF (dW ah) I.1∧t 22=sF jv r9∧t 24=sN v∧t 25=.bool F∧H 5=rV h 25 [sI B.av,sF bm B.an]) ao ?_ ?_ ?_
        ·refine⟨G,?_⟩;and_intros<;>first|rfl|(simp only[aA,seval,Zd]<;>rfl)
        ·rintro⟨N,O⟩ t H e ⟨y,W⟩ c a;simp only[iS]at a;obtain⟨aS,P,a⟩:=ae a;have i:=bg bm P;simp only[bM]at i;simp only[aA,seval,W,i];apply sp aw a<;>intro _ a
         ·simp only[aA,seval,W];apply sp bL a<;>intro _ a
          ·cases a;simp only[aA,seval,W];apply ij;refine⟨y,?_⟩;and_intros<;>first|rfl|(simp only[aA,seval,W]<;>rfl)
          ·have i:=bg bm P;simp only[bM]at i;obtain⟨aT,aq,a⟩:=ae a;have Q:=bg gr aq;simp only[bM]at Q;obtain⟨aV,ar,a⟩:=ae a;have R:=bg jv ar;simp only[bM]at R;cases a;simp only[aA,seval,W,i,Q,R];apply ij;refine⟨y,?_⟩;and_intros<;>first|rfl|(simp only[aA,seval,W]<;>rfl)
         ·cases a;simp only[aA,seval];apply jN;refine⟨rfl,⟨y,?_,?_,?_,?_,?_,?_,?_,?_,?_⟩⟩;all_goals ((simp only[aA,seval,W]<;>rfl))
        ·rintro x t H e C;obtain⟨F,rfl⟩:∃z,z=aL:=⟨_,rfl⟩;dsimp only at C a;obtain⟨rfl,⟨h,A⟩⟩:=C;simp only[aA,seval,A];apply sp zC a<;>intro _ a
         ·obtain⟨aW,au,a⟩:=ae a;have S:=bg (dW ah) au;simp only[bM]at S;obtain⟨aX,av,a⟩:=ae a;have T:=bg (dW ah) av;simp only[bM]at T;obtain⟨aY,ax,a⟩:=ae a;simp only[aA,seval,A,S,T,ax];refine bP (by kernel_rfl) ?_;apply sp aw a<;>intro _ a
          ·cases a;simp only[aA,seval];refine tU ⟨rfl,?_⟩;simp only[aA,seval]
          ·cases a;simp only[aA,seval,A];apply ij;refine⟨h,?_⟩;and_intros<;>first|rfl|(simp only[aA,seval,A]<;>rfl)
         ·simp only[aA,seval,A];refine bP (by kernel_rfl) ?_;cases a;apply ij;refine⟨h,?_⟩;and_intros<;>first|rfl|(simp only[aA,seval,A]<;>rfl)
       ·cases a;simp only[aA,seval];apply jN;refine⟨rfl,?_⟩;all_goals ((simp only[aA,seval,Zd]<;>rfl))
      ·rintro x t H e C;rcases aK with _|rd
       ·dsimp only at C a;obtain⟨rfl,aM⟩:=C;cases a;simp only[aA,seval,aM]
       ·dsimp only at C a;obtain⟨rfl,hE⟩:=C;cases a;simp only[a8,bj,cD];exact hE
     ·dsimp only at C a;obtain⟨rfl,hE⟩:=C;cases a;simp only[a8,bj,cD];exact hE
  ·clear a;have a:=aE;simp only[aA,seval];apply sp bL a<;>intro _ a
   ·cases a;simp only[aA,seval];rw[aG];refine⟨_,rfl,?_⟩;refine⟨Y,e+1,?_⟩;and_intros<;>first|rfl|(simp only[aA,seval,j,f,b,d,g,k]<;>rfl)
   ·simp only[aA,seval,d];apply sp bL a<;>intro _ a
    ·cases a;simp only[aA,seval];rw[aG];refine⟨_,rfl,?_⟩;refine⟨Y,e+1,?_⟩;and_intros<;>first|rfl|(simp only[aA,seval,j,f,b,d,g,k]<;>rfl)
    ·simp only[aA,seval,d];apply sp bL a<;>intro _ a
     ·cases a;simp only[aA,seval];rw[aG];refine⟨_,rfl,?_⟩;refine⟨Y,e+1,?_⟩;and_intros<;>first|rfl|(simp only[aA,seval,j,f,b,d,g,k]<;>rfl)
     ·simp only[aA,seval,j,b,k];apply sp bL a<;>intro _ a
      ·cases a;simp only[aA,seval];rw[aG];refine⟨_,rfl,?_⟩;refine⟨Y,e+1,?_⟩;and_intros<;>first|rfl|(simp only[aA,seval,j,f,b,d,g,k]<;>rfl)
      ·cases a;simp only[aA,seval,b];rw[aG];refine⟨_,rfl,?_⟩;refine⟨Y,e+1,?_⟩;and_intros<;>first|rfl|(simp only[aA,seval,j,f,b,d,g,k]<;>rfl)
def C9(g:aU)(h:(List (List ak)))(p:Int)(n:Int)(o:Int)(r:Bool)(a:gS g h p n o=some r):Of tab mh FU 6 Tryz.f6 [.agg [.sl false false g.av.length (al (eI .i64) g.av),.sl false false g.an.length (al bm g.an)],.sl false false h.length (al (dW ah) h),.int .u8 p,.int .u8 n,.int .u16 o] (tn tab Tryz.f6.results.toList (.clean (.bool r),none) (ZN kG r)):=by
 apply Mp rfl ntmps6 results6;simp only[BQ,BR];unfold gS at a;obtain⟨z,q,a⟩:=ae a;obtain⟨G,u,a⟩:=ae a;simp only[cG,seval,q,u];obtain⟨B,v,a⟩:=ae a;refine cK 0 (fun s t H e=>match s with|d=>∃c:Nat,t 1=sF (dW ah) h∧t 2=.int .u8 p∧t 3=.int .u8 n∧t 4=.int .u16 o∧t 5=.ptr 5 c 0∧t 11=.bool z∧t 40=.bool d∧H 5=rV c 25 [sI g.av,sF bm g.an]) (fun s=>s=B) ?_ ?_
 ·rintro d t H e ⟨c,b⟩ rfl;try dsimp only at a
  simp only[cG,seval,b];apply sp aw a<;>intro _ a
  ·cases a;simp only[cG,seval,b]
  ·obtain⟨A,w,a⟩:=ae a;obtain⟨C,x,a⟩:=ae a;have D:=Nr x;simp only[cG,seval,b,w,D];apply sp bL a<;>intro _ a
   ·cases a;simp only[cG,seval,b]
   ·obtain⟨I,y,a⟩:=ae a;have i:=bg (dW ah) y;simp only[bM]at i;simp only[cG,seval,b,i];apply sp aw a<;>intro _ a
    ·cases a;simp only[cG,seval,b]
    ·obtain⟨E,j,a⟩:=ae a;obtain⟨f,k,l⟩:=vX j;replace f:=f.symm;subst f;simp only[cG,seval,b,k,l];rw[Ad];refine⟨g,h,n,o,z,A.1,A.2.1,C,c,e+1+1+1,?_,?_,?_,?_,?_,?_,?_,?_,?_,?_,?_,a⟩;all_goals first|rfl|(simp only[cG,seval,b]<;>rfl)
 ·clear a;have a:=v;simp only[cG,seval];apply sp bL a<;>intro _ a
  ·cases a;simp only[cG,seval];rw[aG];refine⟨_,rfl,?_⟩;refine⟨0,?_,?_,?_,?_,?_,?_,?_,?_⟩;all_goals (rfl)
  ·obtain⟨F,m,a⟩:=ae a;simp only[cG,seval,m];apply sp bL a<;>intro _ a
   ·cases a;simp only[cG,seval];rw[aG];refine⟨_,rfl,?_⟩;refine⟨0,?_,?_,?_,?_,?_,?_,?_,?_⟩;all_goals (rfl)
   ·cases a;simp only[cG,seval];rw[aG];refine⟨_,rfl,?_⟩;refine⟨0,?_,?_,?_,?_,?_,?_,?_,?_⟩;all_goals (rfl)
def Cc:cn prog 6 Cy:=show cn prog 6 (ew (fV (bT jw) (fV (kb (dW ah)) (fV (aI .u8) (fV (aI .u8) (dO (aI .u16)))))) (fun x:aU×(List (List ak))×Int×Int×Int=>gS x.1 x.2.1 x.2.2.1 x.2.2.2.1 x.2.2.2.2) (fun r:Bool =>.clean (.bool r))) from cn.front tok BU mixed func6 rfl (by kernel_rfl) ⟨by kernel_rfl,by kernel_rfl⟩ (fun _=>alK (by kernel_rfl)) (alK (by kernel_rfl)) (fun x r h=>C9 x.1 x.2.1 x.2.2.1 x.2.2.2.1 x.2.2.2.2 r h) (fun r=>Th AQ B1 r)
end Go.Proofs.YtobnihfgnbnncaaGreat.Am
namespace Go.Proofs.YtobnihfgnbnncaaGreat.Am
open Go.ChangeShapes Go.WideShapes Go.ChangeAt Go.RowKit Go.Proofs.YtobnihfgnbnncaaGreat.P
set_option maxRecDepth 100000
def Tryz.own:ownKnob Tryz.prog.godebug=none:=by kernel_rfl
def Tryz.laidOut:laidOutB prog=true:=by kernel_rfl
def Jr(n:Nat):DM tab (n+1) 3 (eI .i64) (fun x=>(Lit.int .i64 x).wf=true):=opI Xu rfl rfl
def acm(n:Nat):DM tab (n+2) 22 (dW (eI .i64)) (fun x=>(x.length*8<=140737488351232∧∀y∈x,(Lit.int .i64 y).wf=true)):=Ul NZ rfl rfl (by rw[Xu];rfl) (Jr n)
def A0(x:gY):Prop:=(Lit.int .i64 x.bn).wf=true∧((Lit.int .i64 x.aX).wf=true∧((Lit.int .i64 x.aV).wf=true))
def ah2(n:Nat):DM tab (n+2) 83 bA (fun x=>A0 x):=opS (g:=fun y=>gY.mk y.1 y.2.1 y.2.2) N7 rfl rfl (fun _=>rfl) (Dm (Jr n) rfl (Dm (Jr n) rfl (RJ (Jr n))))
def ahV(n:Nat):DM tab (n+3) 51 (dW bA) (fun x=>(x.length*24<=140737488351232∧∀y∈x,A0 y)):=Ul UH rfl rfl (by rw[N7];rfl) (ah2 n)
def ajF(n:Nat):DM tab (n+1) 9 af4 (fun x=>x.size<=140737488351232):=ahQ ac0 rfl rfl
def Nw(x:tS):Prop:=(Lit.int .i64 x.bn).wf=true∧((Lit.int .i64 x.aX).wf=true∧((Lit.int .i64 x.aV).wf=true∧(x.M3.size<=140737488351232)))
def ah0(n:Nat):DM tab (n+2) 60 eK (fun x=>Nw x):=opS (g:=fun y=>tS.mk y.1 y.2.1 y.2.2.1 y.2.2.2) N5 rfl rfl (fun _=>rfl) (Dm (Jr n) rfl (Dm (Jr n) rfl (Dm (Jr n) rfl (RJ (ajF n)))))
def ahW(n:Nat):DM tab (n+3) 52 (dW eK) (fun x=>(x.length*40<=140737488351232∧∀y∈x,Nw y)):=Ul UI rfl rfl (by rw[N5];rfl) (ah0 n)
def Nv(x:aN):Prop:=(Lit.int .i64 x.aq).wf=true∧((x.aa.length*8<=140737488351232∧∀y∈x.aa,(Lit.int .i64 y).wf=true))
def afI(n:Nat):DM tab (n+3) 39 je (fun x=>Nv x):=opS (g:=fun y=>aN.mk y.1 y.2) UG rfl rfl (fun _=>rfl) (Dm (Jr (n+1)) rfl (RJ (acm n)))
def tz(x:ak):Prop:=Nv x.bX∧(Nv x.b8)
def ahU(n:Nat):DM tab (n+4) 41 ah (fun x=>tz x):=opS (g:=fun y=>ak.mk y.1 y.2) N3 rfl rfl (fun _=>rfl) (Dm (afI n) rfl (RJ (afI n)))
def ahT(n:Nat):DM tab (n+5) 27 (dW ah) (fun x=>(x.length*64<=140737488351232∧∀y∈x,tz y)):=Ul N2 rfl rfl (by rw[N3];rfl) (ahU n)
def afH(n:Nat):DM tab (n+6) 26 (dW (dW ah)) (fun x=>(x.length*24<=140737488351232∧∀y∈x,(y.length*64<=140737488351232∧∀z∈y,tz z))):=Ul N1 rfl rfl (by rw[N2];rfl) (ahT n)
def Rz(x:fh):Prop:=(x.au.length*24<=140737488351232∧∀y∈x.au,A0 y)∧((x.aQ.length*40<=140737488351232∧∀y∈x.aQ,Nw y)∧((x.aO.length*24<=140737488351232∧∀y∈x.aO,(y.length*64<=140737488351232∧∀z∈y,tz z))))
def ahX(n:Nat):DM tab (n+7) 54 xW (fun x=>Rz x):=opS (g:=fun y=>fh.mk y.1 y.2.1 y.2.2) UJ rfl rfl (fun _=>rfl) (Dm (ahV (n+3)) rfl (Dm (ahW (n+3)) rfl (RJ (afH n))))
def Nx(x:ie):Prop:=(Lit.int .i64 x.bQ).wf=true∧((Lit.int .i64 x.aV).wf=true)
def ah1(n:Nat):DM tab (n+2) 72 gr (fun x=>Nx x):=opS (g:=fun y=>ie.mk y.1 y.2) N6 rfl rfl (fun _=>rfl) (Dm (Jr n) rfl (RJ (Jr n)))
def ahY(n:Nat):DM tab (n+3) 55 (dW gr) (fun x=>(x.length*16<=140737488351232∧∀y∈x,Nx y)):=Ul UK rfl rfl (by rw[N6];rfl) (ah1 n)
def HG(x:bz):Prop:=Rz x.az∧((x.ba.length*16<=140737488351232∧∀y∈x.ba,Nx y)∧((x.aF.length*8<=140737488351232∧∀y∈x.aF,(Lit.int .i64 y).wf=true)))
def ahZ(n:Nat):DM tab (n+8) 57 bm (fun x=>HG x):=opS (g:=fun y=>bz.mk y.1 y.2.1 y.2.2) N4 rfl rfl (fun _=>rfl) (Dm (ahX n) rfl (Dm (ahY (n+4)) rfl (RJ (acm (n+5)))))
def ahR(n:Nat):DM tab (n+9) 23 (dW bm) (fun x=>(x.length*120<=140737488351232∧∀y∈x,HG y)):=Ul UF rfl rfl (by rw[N4];rfl) (ahZ n)
def zo(x:aU):Prop:=(x.av.length*8<=140737488351232∧∀y∈x.av,(Lit.int .i64 y).wf=true)∧((x.an.length*120<=140737488351232∧∀y∈x.an,HG y))
def ahS(n:Nat):DM tab (n+10) 25 jw (fun x=>zo x):=opS (g:=fun y=>aU.mk y.1 y.2) N0 rfl rfl (fun _=>rfl) (Dm (acm (n+7)) rfl (RJ (ahR n)))
def yD:Z0 tab 11 [25,26,5,5,63] (fV (bT jw) (fV (kb (dW ah)) (fV (aI .u8) (fV (aI .u8) (dO (aI .u16)))))) (fun x=>zo x.1∧((x.2.1.length*24<=140737488351232∧∀y∈x.2.1,(y.length*64<=140737488351232∧∀z∈y,tz z))∧((Lit.int .u8 x.2.2.1).wf=true∧((Lit.int .u8 x.2.2.2.1).wf=true∧((Lit.int .u16 x.2.2.2.2).wf=true))))):=(aeq (oaS N0 rfl (ahS 1)) (aeq (ajD N1 rfl (afH 5)) (aeq (oaI Xv rfl) (aeq (oaI Xv rfl) (ajE (oaI UL rfl))))))
def xn(law:∀(f:aU)(e:(List (List ak)))(g:Int)(h:Int)(i:Int),(zo f)->((e.length*24<=140737488351232∧∀y∈e,(y.length*64<=140737488351232∧∀z∈y,tz z)))->((Lit.int .u8 g).wf=true)->((Lit.int .u8 h).wf=true)->((Lit.int .u16 i).wf=true)->P.gS f e g h i=some true)(j:Os)(a:j.Started)(H:Type)(b:TypeId×Value->H) :
  ReturnsInHanded {} Tryz.checked j 6 .any (Rows.carryApartSpec.pre6 b prog Tryz.f6 Rows.carryApartRow.domain false) (Rows.carryApartSpec.post b prog Tryz.f6 false true false false):=by
 refine Uu (C:=Tryz.checked) (T:=tab) (tb:=4) (n:=11) tok Tryz.own a (by kernel_rfl) func6
  (ChangeSpec.witness6 (enc:=b) (C:=Tryz.checked) false ⟨#[],#[.agg #[.slice none 0 0,.slice none 0 0],.slice none 0 0,.int .u8 0,.int .u8 0,.int .u16 0],[]⟩ 8 (by kernel_rfl) (by kernel_rfl) (by kernel_rfl) (by kernel_rfl)) Tryz.laidOut (by kernel_rfl) rfl (by kernel_rfl) rfl (fun m c =>?_) (fun o k l =>?_)
 ·rw[Tryz.params6]at c
  match m,c with
  | [d0,d1,d2,d3,d4],_=>exact⟨rfl,rfl,rfl⟩
 ·rw[Tryz.params6]at k l;exact agh yD Cc (fun x d=>law x.1 x.2.1 x.2.2.1 x.2.2.2.1 x.2.2.2.2 d.1 d.2.1 d.2.2.1 d.2.2.2.1 d.2.2.2.2) o k l
set_option maxHeartbeats 4000000 in
theorem yu(b:∀(e:aU)(c:(List (List ak)))(f:Int)(g:Int)(h:Int),(zo e)->((c.length*24<=140737488351232∧∀y∈c,(y.length*64<=140737488351232∧∀z∈y,tz z)))->((Lit.int .u8 f).wf=true)->((Lit.int .u8 g).wf=true)->((Lit.int .u16 h).wf=true)->P.gS e c f g h=some true):Rows.CarryApartSaid :=
 OpenClaim.holds_of_wide 6 Tryz.f6 rfl rfl rfl rfl rfl rfl rfl ⟨rfl,rfl,rfl,rfl,rfl⟩ rfl rfl rfl rfl rfl (by kernel_rfl) func6 (by kernel_rfl)
  (of_decide_eq_true (by kernel_rfl)) (by unfold Func.isWrapper;first|(rw[if_pos (by decide +kernel)];kernel_rfl)|(rw[if_neg (by decide +kernel)];exact⟨rfl,rfl⟩))
  (fun i a H d _=>xn b i a H d)
end Go.Proofs.YtobnihfgnbnncaaGreat.Am
namespace Go.Proofs.YtobnihfgnbnncaaGreat.P
open Go.RowKit
def bI(n:Nat):List Int:=if h:n=0 then [] else ((n % 1048576:Nat):Int)::bI (n / 1048576)
termination_by n
decreasing_by omega
def dv:List Int->Int
 | []=>0
 | d::l=>d+1048576*dv l
def Dg(l:List Int):Prop:=∀d∈l,0<=d∧d<1048576
def pw(i:Nat):Int:=1048576 ^ i
theorem uD:pw 0=1:=rfl
theorem pt(i:Nat):pw (i+1)=1048576*pw i:=by unfold pw;omega
def tI(i:Nat):0<pw i:=by simp_all[pw,Int.pow_pos]
def NM(i j:Nat):pw (i+j)=pw i*pw j:=by unfold pw;rw[Int.pow_add]
def wJ{i j:Nat}(h:i<=j):pw i<=pw j:=by
 obtain⟨k,rfl⟩:=Nat.le.dest h;rw[NM];have a:=tI i;have b:=tI k
 calc pw i=pw i*1:=by rw[Int.mul_one]
  _<=pw i*pw k:=amk (by omega) (by omega)
theorem ef:bI 0=[]:=by rw[bI];rfl
theorem qU{n:Nat}(h:n≠0):bI n=((n % 1048576:Nat):Int)::bI (n / 1048576):=by rw[bI,dif_neg h]
def xQ{n:Nat}:bI n=[]↔n=0:=by
 grind[Nat.eq_zero_or_pos,qU,ef]
theorem da:∀n:Nat,dv (bI n)=n:=by
 intro n
 induction n using Nat.strongRecOn with
 | _ n a =>
  grind[dv,Nat.eq_zero_or_pos,ef,qU]
theorem fN:∀n:Nat,Dg (bI n):=by
 intro n
 induction n using Nat.strongRecOn with
 | _ n c =>
  rcases akx n with b|b
  ·subst b;rw[ef];intro d a;cases a
  ·rw[qU (by omega)];intro d a;rcases ako.1 a with rfl|a
   ·omega
   ·exact c (n / 1048576) (by omega) d a
def Dg.nil:Dg []:=fun d a=>by cases a
def Dg.cons{d:Int}{l:List Int}(h:Dg (d::l)):(0<=d∧d<1048576)∧Dg l:=⟨h d alw,fun x a=>h x (alx _ a)⟩
def Dg.mk{d:Int}{l:List Int}(h:0<=d∧d<1048576)(b:Dg l):Dg (d::l):=fun x a=>by
 rcases ako.1 a with rfl|a
 ·exact h
 ·exact b x a
def Dg.append{l m:List Int}(h:Dg l)(a:Dg m):Dg (l++m):=fun x b=>(alv.1 b).elim (h x) (a x)
def Dg.take{l:List Int}(h:Dg l)(n:Nat):Dg (l.take n):=fun x a=>h x (akU a)
def Dg.drop{l:List Int}(h:Dg l)(n:Nat):Dg (l.drop n):=fun x a=>h x (akS a)
def Dg.rep(n:Nat):Dg (List.replicate n 0):=fun x a=>by simp_all
def Dg.set{l:List Int}(h:Dg l)(i:Nat){x:Int}(b:0<=x∧x<1048576):Dg (l.set i x):=fun y a=>by
 rcases aml a with a|rfl
 ·exact h y a
 ·exact b
def Dg.get{l:List Int}(h:Dg l){i:Nat}(a:i<l.length):0<=l[i]∧l[i]<1048576:=h _ (akt a)
def ez:∀{l:List Int},Dg l->0<=dv l
 | [],_=>Int.le_refl _
 | d::l,h=>by
  have a:=h.cons;have:=ez a.2;simp only[dv];omega
def uh:∀{l:List Int},Dg l->dv l<pw l.length
 | [],_=>by simp[dv,uD]
 | d::l,h=>by
  have a:=h.cons;have:=uh a.2;grind[dv,List.length_cons,pt]
def me:∀l m:List Int,dv (l++m)=dv l+pw l.length*dv m
 | [],m=>by simp[dv,uD]
 | d::l,m=>by
  rw[alY,dv,dv,me l m,akY,pt,amm,Int.mul_assoc];omega
def Gj:∀n:Nat,dv (List.replicate n 0)=0
 | 0=>rfl
 | n+1=>by rw[ak4,dv,Gj n];rfl
theorem mf{l:List Int}{i:Nat}(h:i<l.length):dv (l.take (i+1))=dv (l.take i)+pw i*l[i]:=by
 have e:l.take (i+1)=l.take i++[l[i]]:=by simp_all
 rw[e,me,aky,amc (by omega)];simp[dv]
def lE(l:List Int){i:Nat}(h:i<=l.length):dv l=dv (l.take i)+pw i*dv (l.drop i):=by
 have:=me (l.take i) (l.drop i);simp_all
def xV{l:List Int}{i:Nat}(h:i<l.length)(x:Int):dv (l.set i x)=dv l+pw i*(x-l[i]):=by
 induction l generalizing i with
 | nil=>simp at h
 | cons d l a =>
  cases i with
  | zero=>grind[dv,uD]
  | succ i =>
   grind[dv,pt,Int.mul_add,Int.mul_assoc]
def Fj:∀{l:List Int},Dg l->(∀h:l≠[],l.getLast h≠0)->bI (dv l).toNat=l
 | [],_,_=>by simp[dv,ef]
 | d::l,h,n=>by
  have a:=h.cons;have o:=ez a.2;have b:(dv (d::l)).toNat≠0:=by
   simp only[dv];intro p;have c:d=0:=by omega
   have g:dv l=0:=by omega
   cases l with
   | nil=>simp_all
   | cons e m =>
    have f:=Fj a.2 (fun i=>by simp_all);rw[g]at f;simp[ef]at f
  rw[qU b];have j:(dv (d::l)).toNat % 1048576=d.toNat:=by simp only[dv];omega
  have k:(dv (d::l)).toNat / 1048576=(dv l).toNat:=by simp only[dv];omega
  rw[j,k];have c:(d.toNat:Int)=d:=by omega
  rw[c];cases l with
  | nil=>simp[dv,ef]
  | cons e m=>rw[Fj a.2 (fun i=>by simp_all)]
def X3:∀(n:Nat)(h:bI n≠[]),(bI n).getLast h≠0:=by
 intro n
 induction n using Nat.strongRecOn with
 | _ n d =>
  intro h;have b:n≠0:=fun a=>h (xQ.2 a);have e:=qU b
  by_cases hq:n / 1048576=0
  ·have:bI n=[((n % 1048576:Nat):Int)]:=by rw[e,hq,ef]
   grind
  ·have c:bI (n / 1048576)≠[]:=fun a=>hq (xQ.1 a);grind
def aaL{a b:Nat}(h:bI a=bI b):a=b:=by
 have:=congrArg dv h;grind[da]
def oh{n k:Nat}(h:(n:Int)<pw k):(bI n).length<=k:=by
 induction k generalizing n with
 | zero =>
  rw[uD]at h;have:n=0:=by omega
  rw[this,ef];simp
 | succ k b =>
  by_cases a:n=0
  ·rw[a,ef];simp
  ·rw[qU a,akY];rw[pt]at h;grind
def lM(n:Nat):(n:Int)<pw (bI n).length:=by
 have:=uh (fN n)
 rwa [da]at this
def Bx{n:Nat}(h:n≠0):pw ((bI n).length-1)<=n∧0<(bI n).length:=by
 induction n using Nat.strongRecOn with
 | _ n a =>
  rw[qU h,akY];refine⟨?_,by omega⟩
  by_cases b:n / 1048576=0
  ·grind[ef,uD]
  ·obtain⟨c,d⟩:=a (n / 1048576) (by omega) b;grind[bI,pt]
def xC{x:Int}(a : -9223372036854775808<=x)(b:x<9223372036854775808):nd .and .i64 x 1048575=x % 1048576:=by
 unfold nd;simp only;have c:(BitVec.ofInt IntKind.i64.bits x &&& BitVec.ofInt IntKind.i64.bits 1048575).toNat=((x % 18446744073709551616).toNat) % 1048576:=by
  rw[BitVec.toNat_and,BitVec.toNat_ofInt,BitVec.toNat_ofInt];have e:((1048575:Int) % ((2 ^ IntKind.i64.bits:Nat):Int)).toNat=2 ^ 20-1:=by decide
  rw[e,amn];rfl
 grind[wrap64]
def adD{x:Int}(a : -9223372036854775808<=x)(b:x<9223372036854775808):nd .and .i64 x 1=x % 2:=by
 grind[nd,BitVec.ofInt,BitVec.toNat_and,BitVec.toNat_ofInt,Nat.and_two_pow_sub_one_eq_mod,wrap64]
def Sr(x:Int):Ba .i64 x 20=some (x / 1048576):=by
 unfold Ba;rw[if_neg (by decide)];have e:(2:Int) ^ (min (Int.toNat 20) IntKind.i64.bits)=1048576:=by decide
 grind
def acB{x:Int}(a:0<=x)(h:x<8796093022208):Jy .i64 x 20=some (1048576*x):=by
 unfold Jy;rw[if_neg (by decide)];have e:(2:Int) ^ (min (Int.toNat 20) IntKind.i64.bits)=1048576:=by decide
 grind[wrap64,Int.mul_comm]
def Um{x y:Int}(d:0<=x)(h:x<8796093022208)(f:0<=y∧y<1048576):nd .or .i64 (1048576*x) y=1048576*x+y:=by
 unfold nd;simp only;have a:(BitVec.ofInt IntKind.i64.bits (1048576*x) ||| BitVec.ofInt IntKind.i64.bits y).toNat=1048576*x.toNat+y.toNat:=by
  rw[BitVec.toNat_or,BitVec.toNat_ofInt,BitVec.toNat_ofInt];have e:((2 ^ IntKind.i64.bits:Nat):Int)=18446744073709551616:=by decide
  rw[e];have b:((1048576*x) % 18446744073709551616).toNat=x.toNat <<< 20:=by omega
  have c:(y % 18446744073709551616).toNat=y.toNat:=by omega
  rw[b,c,<- Nat.shiftLeft_add_eq_or_of_lt (by omega),Nat.shiftLeft_eq];omega
 rw[a,wrap64 (by omega) (by omega)];omega
theorem mk0{n:Nat}(h:n<=17592186044416):Hr 8 (n:Int) (n:Int) (0:Int)=some (List.replicate n 0):=by
 unfold Hr;rw[if_pos]
 ·simp
 ·have:(17592186044416:Int)<=maxLen:=by decide
  omega
theorem I1{l m:List Int}(h:l.length+m.length<=17592186044416):oQ 8 l m=some (l++m):=by
 unfold oQ;have:(17592186044416:Nat)<=maxLen:=by decide
 grind
def dz{σ ρ:Type}{body:σ->Option (σ⊕ρ)}(I:Nat->σ->Prop)(n:Nat)(Q:ρ->Prop){s:σ}(c:I 0 s)(m:n+1<FU)
  (a:∀i s,i<=n->I i s->(i<n∧∃b,body s=some (.inl b)∧I (i+1) b)∨(∃r,body s=some (.inr r)∧Q r)):∃r,aT body s=some r∧Q r:=by
 have key:∀(k i:Nat)(s:σ),i<=n->n-i<k->I i s->∃r,rM body k s=some r∧Q r:=by
  intro k
  induction k with
  | zero=>omega
  | succ k f =>
   intro i s g o c;rcases a i s g c with⟨h,b,d,e⟩|⟨r,d,e⟩
   ·obtain⟨r,j,l⟩:=f (i+1) b (by omega) (by omega) e;exact⟨r,by simp only[rM,d];exact j,l⟩
   ·exact⟨r,by simp only[rM,d],e⟩
 exact key FU 0 s (akj _) (by omega) c
theorem aez(i:Nat)(x:Int):pw (i+1)*x=pw i*(1048576*x):=by grind[pw,pt,Int.mul_comm,Int.mul_assoc]
def Dt(i:Nat)(t:Int):pw i*(t % 1048576)+pw (i+1)*(t / 1048576)=pw i*t:=by
 grind[aez,Int.mul_add]
def kH{n:Nat}(h:n<=17592186044416):n+1<FU:=by unfold FU;omega
abbrev Fit(l:List Int):Prop:=l.length<=17592186044416
theorem mJ{x:Int}(h : -4611686018427387904<=x∧x<=4611686018427387904):IntKind.i64.wrap x=x:=wrap64 (by omega) (by omega)
theorem yC{α:Type}(o:Option α):(o.bind fun r=>some r)=o:=by cases o<;>rfl
def Zu{l:List Int}(b:Fit l):∃r,aT (qQ l) (l.length:Int)=some r∧∃k:Nat,r=k∧k<=l.length∧(∀j (c:j<l.length),k<=j->l[j]=0)∧(∀h:0<k,∀d:k-1<l.length,l[k-1]≠0):=by
 unfold Fit at b;refine dz (I:=fun i s=>s=((l.length-i:Nat):Int)∧(∀j (c:j<l.length),l.length-i<=j->l[j]=0)) l.length _ ⟨rfl,fun j c h=>by omega⟩ (kH b) ?_;rintro i s m ⟨rfl,f⟩;generalize d:l.length-i=k at *;simp only[qQ]
 by_cases g:0<k
 ·have a:k-1<l.length:=by omega
  have e:IntKind.i64.wrap ((k:Int)-1)=((k-1:Nat):Int):=by rw[mJ (by omega)];omega
  rw[if_pos (by simp;omega),e,dL a,alC]
  by_cases n:l[k-1]=0
  ·left;grind
  grind
 ·right;exact⟨_,by simp_all,k,rfl,by omega,f,fun h=>absurd h g⟩
def aa5{l:List Int}{k:Nat}(b:∀j (c:j<l.length),k<=j->l[j]=0):dv (l.drop k)=0:=by
 have:l.drop k=List.replicate (l.drop k).length 0:=by
  refine List.eq_replicate_of_mem fun x a =>?_;obtain⟨i,d,rfl⟩:=List.mem_iff_getElem.1 a;simp_all
 rw[this,Gj]
theorem Cr{l:List Int}(c:Fit l)(d:Dg l):fH l=some (bI (dv l).toNat):=by
 obtain⟨r,e,k,rfl,b,f,a⟩:=Zu c;unfold fH;rw[e,alC,aeO b,alC];congr 1;have g:dv l=dv (l.take k):=by rw[lE l b,aa5 f];omega
 rw[g];refine (Fj (d.take k) fun h =>?_).symm;grind
def Fu{l:List Int}{n:Nat}(a:Fit l)(b:Dg l)(c:dv l=n):fH l=some (bI n):=by
 rw[Cr a b,c];rfl
def gd(l:List Int)(i:Nat):Int:=if h:i<l.length then l[i] else 0
def Wf{l:List Int}(h:Dg l)(i:Nat):0<=gd l i∧gd l i<1048576:=by
 unfold gd;split
 ·exact h.get _
 ·omega
def BT{l:List Int}(i:Nat):dv (l.take (i+1))=dv (l.take i)+pw i*gd l i:=by
 grind[gd,mf,List.take_of_length_le]
def GN{l:List Int}{i:Nat}(h:l.length<=i):dv (l.take i)=dv l:=by rw[alV h]
def Z9{a b:List Int}(w:Dg a)(y:Dg b)(D:a.length<17592186044416)(g:b.length<=a.length) :
  ∃r,aT (sV a b) (0,0,List.replicate (a.length+1) 0)=some r∧r.2.length=a.length+1∧Dg r.2∧(∀j (f:j<r.2.length),a.length<=j->r.2[j]=0)∧(0<=r.1∧r.1<=1)∧dv r.2+pw a.length*r.1=dv a+dv b:=by
 refine dz (I:=fun i s=>s.2.1=(i:Int)∧s.2.2.length=a.length+1∧Dg s.2.2∧(∀j (f:j<s.2.2.length),i<=j->s.2.2[j]=0)∧(0<=s.1∧s.1<=1)∧dv s.2.2+pw i*s.1=dv (a.take i)+dv (b.take i))
  a.length _ ⟨rfl,by simp,Dg.rep _,fun j f _=>by simp,by simp,by simp[Gj,dv]⟩ (kH (by omega)) ?_
 rintro i ⟨c,s,l⟩ E ⟨t,k,m,hz,u,v⟩;simp only at t k m hz u v;subst t;simp only[sV]
 by_cases d:i<a.length
 ·left;rw[if_pos (by simpa using d),dL d,alC];have F:=w.get d;have z:=Wf y i;have A:(if decide ((i:Int)<(b.length:Int))=true then (P.idx b (i:Int)).bind fun n=>some (IntKind.i64.wrap ((IntKind.i64.wrap (c+a[i]))+n)) else some (IntKind.i64.wrap (c+a[i])))=some (c+a[i]+gd b i):=by
   by_cases e:i<b.length
   ·rw[if_pos (by simpa using e),dL e,alC];have:gd b i=b[i]:=by unfold gd;rw[dif_pos e]
    rw[this]at z ⊢;rw[mJ (x:=c+a[i]) (by omega),mJ (by omega)]
   ·rw[if_neg (by simpa using e)];have:gd b i=0:=by unfold gd;rw[dif_neg e]
    rw[this,mJ (by omega)];simp
  rw[A,alC,dL (by omega),alC,Sr,alC,xC (by omega) (by omega)];have o:l[i]=0:=hz i (by omega) (aki _);have B:IntKind.i64.wrap ((i:Int)+1)=((i+1:Nat):Int):=by rw[mJ (by omega)];omega
  refine⟨d,_,rfl,B,by simpa using k,m.set _ (by omega),fun j f C =>?_,by simp only;omega,?_⟩
  ·grind
  ·simp only[Int.toNat_natCast];rw[xV (by omega),o,BT,BT];have p:gd a i=a[i]:=by unfold gd;rw[dif_pos d]
   rw[p];have G:=Dt i (c+a[i]+gd b i);grind
 ·right;have q:i=a.length:=by omega
  subst q;refine⟨_,by rw[if_neg (by simp)],k,m,fun j f h=>hz j f h,u,?_⟩;rw[v,GN (aki _),GN g]
def add_eq{a b:List Int}(k:Dg a)(m:Dg b)(g:a.length<17592186044416)(s:b.length<17592186044416):ud a b=some (bI (dv a+dv b).toNat):=by
 have n:∀{a b:List Int},Dg a->Dg b->a.length<17592186044416->b.length<=a.length ->
   ((Hr 8 (IntKind.i64.wrap ((a.length:Int)+1)) (IntKind.i64.wrap ((a.length:Int)+1)) 0).bind fun t =>
    (aT (sV a b) (0,0,t)).bind fun q=>match q with
    | (h,d) =>
     (P.idx d (a.length:Int)).bind fun u =>
     (fH (d.set ((a.length:Int)).toNat h)).bind fun i =>
     some i)=some (bI (dv a+dv b).toNat):=by
  intro a b k m g j;have e:IntKind.i64.wrap ((a.length:Int)+1)=((a.length+1:Nat):Int):=by rw[mJ (by omega)];omega
  rw[e,mk0 (by omega),alC];obtain⟨⟨c,l⟩,v,w,o,p,x,r⟩:=Z9 k m g j;rw[v];simp only[Option.bind_some]at w o p x r ⊢;have f:a.length<l.length:=by omega
  rw[dL f,alC,ak8,yC];have y:dv (l.set a.length c)=dv a+dv b:=by
   rw[xV f,p _ f (aki _),Int.sub_zero,r]
  rw[Cr (by simp[Fit];omega) (o.set _ (by omega)),y]
 unfold ud;grind
def xN{l:List Int}(h:Fit l):cu l=some l:=by
 grind[cu,I1]
def abt{l:List Int}{i:Nat}(h:i<l.length):gd l i=l[i]:=by unfold gd;rw[dif_pos h]
def abr{l:List Int}{i:Nat}(h:l.length<=i):gd l i=0:=by unfold gd;grind
def acR{a b:List Int}(t:Dg a)(w:Dg b)(y:Fit a)(m:b.length<=a.length)(z:dv b<=dv a) :
  ∃l,aT (wg b a) (0,0,a)=some l∧l.length=a.length∧Dg l∧dv l=dv a-dv b:=by
 unfold Fit at y;refine dz (I:=fun i s=>s.2.1=(i:Int)∧s.2.2.length=a.length∧Dg s.2.2∧(∀j (u:j<s.2.2.length) (n:j<a.length),i<=j->s.2.2[j]=a[j])∧(0<=s.1∧s.1<=1)∧dv s.2.2+dv (b.take i)=dv a+pw i*s.1)
  a.length _ ⟨rfl,rfl,t,fun j u _ _=>rfl,by simp,by simp[dv]⟩ (kH (by omega)) ?_
 rintro i ⟨c,s,l⟩ G ⟨g,h,k,o,A,v⟩;simp only at g h k o A v;subst g;simp only[wg]
 by_cases d:i<a.length
 ·left;have e:i<l.length:=by omega
  rw[if_pos (by simpa using d),dL e,alC,o i e d (aki _)];have H:=t.get d;have B:=Wf w i;have C:(if decide ((i:Int)<(b.length:Int))=true then (P.idx b (i:Int)).bind fun p=>some (IntKind.i64.wrap ((IntKind.i64.wrap (a[i]-c))-p)) else some (IntKind.i64.wrap (a[i]-c)))=some (a[i]-c-gd b i):=by
   by_cases f:i<b.length
   ·rw[if_pos (by simpa using f),dL f,alC];rw[abt f]at B ⊢;rw[mJ (x:=a[i]-c) (by omega),mJ (by omega)]
   ·rw[if_neg (by simpa using f),abr (by omega),mJ (by omega)];simp
  rw[C,alC,Sr,alC,xC (by omega) (by omega),adD (by omega) (by omega)];have D:IntKind.i64.wrap ((i:Int)+1)=((i+1:Nat):Int):=by rw[mJ (by omega)];omega
  refine⟨d,_,rfl,D,by simpa using h,k.set _ (by omega),fun j u n E =>?_,by simp only;omega,?_⟩
  ·grind
  ·simp only[Int.toNat_natCast];rw[xV e,o i e d (aki _),BT];have J:=Dt i (a[i]-c-gd b i);have F:(a[i]-c-gd b i) / 1048576 % 2 = - ((a[i]-c-gd b i) / 1048576):=by omega
   grind
 ·right;have q:i=a.length:=by omega
  subst q;refine⟨l,by simp_all,h,k,?_⟩;rw[GN m]at v;have g:=uh k;rw[h]at g;have r:c=0:=by
   grind
  subst r;omega
def sub_eq{a b:List Int}(f:Dg a)(g:Dg b)(e:Fit a)(c:b.length<=a.length)(d:dv b<=dv a):ue a b=some (bI (dv a-dv b).toNat):=by
 obtain⟨l,h,k,i,j⟩:=acR f g e c d;unfold ue;rw[xN e,alC,h,alC,yC,Cr (by omega) i,j]
def qK{l:List Int}{i:Nat}(h:i<l.length):dv (l.drop i)=l[i]+1048576*dv (l.drop (i+1)):=by
 rw[al3 h,dv]
def ahA{x d:Int}(h:0<=x)(a:0<d)(b:x<4611686018427387904):X8 .i64 x d=some (x / d):=by
 unfold X8;rw[if_neg (by omega),Int.tdiv_eq_ediv_of_nonneg h,mJ];have:=amo h (Int.le_of_lt a);have:=Int.ediv_le_self d h;omega
def agp{x d:Int}(h:0<=x)(a:0<d):Q9 .i64 x d=some (x % d):=by
 unfold Q9;grind
def Uy{a:List Int}{d:Int}(t:Dg a)(e:0<d∧d<=1048576)(u:Fit a) :
  ∃r,aT (sb a d) (0,IntKind.i64.wrap ((a.length:Int)-1),List.replicate a.length 0)=some r∧r.2.length=a.length∧Dg r.2∧(0<=r.1∧r.1<d)∧dv a=d*dv r.2+r.1:=by
 unfold Fit at u;have v:IntKind.i64.wrap ((a.length:Int)-1)=(a.length:Int)-1:=mJ (by omega);rw[v];refine dz (I:=fun i s=>s.2.1=((a.length-i:Nat):Int)-1∧s.2.2.length=a.length∧Dg s.2.2∧(0<=s.1∧s.1<d)∧dv (a.drop (a.length-i))=d*dv (s.2.2.drop (a.length-i))+s.1)
  a.length _ ⟨rfl,by simp,Dg.rep _,by simp;omega,by simp[dv]⟩ (kH (by omega)) ?_
 rintro i ⟨r,s,l⟩ z ⟨n,o,p,w,q⟩;simp only at n o p w q;subst n;generalize A:a.length-i=k at *;simp only[sb]
 by_cases B:0<k
 ·left;have b:k-1<a.length:=by omega
  have c:k-1<l.length:=by omega
  have x:((k:Int)-1)=((k-1:Nat):Int):=by omega
  have y:=t.get b;rw[x,if_pos (by simp),acB (by omega) (by omega),alC,dL b,alC,Um (by omega) (by omega) y,ahA (by omega) e.1 (by omega),alC,dL c,alC,agp (by omega) e.1,alC];have C:IntKind.i64.wrap (((k-1:Nat):Int)-1)=((k-1:Nat):Int)-1:=mJ (by omega);have f:0<=1048576*r+a[k-1]:=by omega
  have g:0<=(1048576*r+a[k-1]) / d:=amo f (by omega);have h:(1048576*r+a[k-1]) / d<1048576:=by
   apply amp e.1;omega
  have j:=amq (1048576*r+a[k-1]) (show d≠0 by omega);have m:=amr (1048576*r+a[k-1]) e.1;refine⟨by omega,_,rfl,by grind,by simpa using o,p.set _ ⟨g,h⟩,⟨j,m⟩,?_⟩;simp only[Int.toNat_natCast];rw[show a.length-(i+1)=k-1 by omega,qK b,qK (l:=l.set (k-1) _) (i:=k-1) (by simpa using c),show k-1+1=k by omega,List.getElem_set_self,List.drop_set_of_lt (by omega),q];have:=ams (1048576*r+a[k-1]) d;grind
 simp_all
def Sq{a:List Int}{d:Int}(g:Dg a)(h:0<d∧d<=1048576)(e:Fit a):pZ a d=some (bI (dv a / d).toNat,dv a % d):=by
 obtain⟨⟨r,l⟩,i,j,f,b,c⟩:=Uy g h e;unfold pZ;rw[mk0 e,alC,i,alC];simp only at j f b c ⊢;rw[Cr (by omega) f,alC];have k:dv a / d=dv l:=by
  rw[c,Int.mul_comm,Int.add_comm,Int.add_mul_ediv_right _ _ (by omega),Int.ediv_eq_zero_of_lt b.1 b.2];omega
 have m:dv a % d=r:=by
  rw[c,Int.mul_comm,Int.add_comm,Int.add_mul_emod_self_right];exact Int.emod_eq_of_lt b.1 b.2
 rw[k,m]
def YP{b l0:List Int}{x:Int}{i n:Nat}(p:Dg b)(q:0<=x∧x<1048576)(t:Dg l0)(u:l0.length=n)(F:i+b.length<n)(G:n<=17592186044416)(e:∀j (f:j<l0.length),i+b.length<=j->l0[j]=0) :
  ∃r,aT (we b (i:Int) x) (0,0,l0)=some r∧r.2.length=n∧Dg r.2∧(0<=r.1∧r.1<1048576)∧(∀j (f:j<r.2.length),i+b.length<=j->r.2[j]=0)∧dv r.2+pw (i+b.length)*r.1=dv l0+pw i*(x*dv b):=by
 refine dz (I:=fun k s=>s.2.1=(k:Int)∧s.2.2.length=n∧Dg s.2.2∧(0<=s.1∧s.1<1048576)∧(∀j (f:j<s.2.2.length),i+b.length<=j->s.2.2[j]=0)∧dv s.2.2+pw (i+k)*s.1=dv l0+pw i*(x*dv (b.take k)))
  b.length _ ⟨rfl,u,t,by simp,e,by simp[dv]⟩ (kH (by omega)) ?_
 rintro k ⟨c,s,l⟩ H ⟨h,m,g,v,e,w⟩;simp only at h m g v e w;subst h;simp only[we]
 by_cases a:k<b.length
 ·left;have d:i+k<l.length:=by omega
  have y:IntKind.i64.wrap ((i:Int)+(k:Int))=((i+k:Nat):Int):=by rw[mJ (by omega)];omega
  have o:=p.get a;have J:=g.get d;have z:0<=x*b[k]:=amu q.1 o.1;have A:x*b[k]<=1048575*1048575:=Int.mul_le_mul (by omega) (by omega) o.1 (by omega);rw[if_pos (by simpa using a),dL a,alC,y,dL d,alC,mJ (x:=x*b[k]) (by omega),mJ (x:=l[i+k]+x*b[k]) (by omega),mJ (x:=l[i+k]+x*b[k]+c) (by omega),Sr,alC,xC (by omega) (by omega)];have B:IntKind.i64.wrap ((k:Int)+1)=((k+1:Nat):Int):=by rw[mJ (by omega)];omega
  refine⟨a,_,rfl,B,by simpa using m,g.set _ (by omega),by simp only;omega,fun j f C =>?_,?_⟩
  ·grind
  ·simp only[Int.toNat_natCast];rw[xV d,mf a];have D:=Dt (i+k) (l[i+k]+x*b[k]+c);rw[amm (pw (i+k)),amm (pw (i+k))]at D;have K:pw i*(x*(dv (b.take k)+pw k*b[k]))=pw i*(x*dv (b.take k))+pw (i+k)*(x*b[k]):=by
    rw[amm,amm,NM];grind
   grind
 ·right;have E:k=b.length:=by omega
  simp_all
def YO{a b:List Int}(w:Dg a)(y:Dg b)(z:a.length+b.length<=17592186044416) :
  ∃l,aT (wc a b) (0,List.replicate (a.length+b.length) 0)=some l∧l.length=a.length+b.length∧Dg l∧dv l=dv a*dv b:=by
 refine dz (I:=fun i s=>s.1=(i:Int)∧s.2.length=a.length+b.length∧Dg s.2∧(∀j (g:j<s.2.length),i+b.length<=j->s.2[j]=0)∧dv s.2=dv (a.take i)*dv b)
  a.length _ ⟨rfl,by simp,Dg.rep _,fun j g _=>by simp,by simp[dv,Gj]⟩ (kH (by omega)) ?_
 rintro i ⟨s,l⟩ F ⟨h,k,o,p,q⟩;simp only at h k o p q;subst h;simp only[wc]
 by_cases d:i<a.length
 ·left;have A:=w.get d;obtain⟨⟨c,m⟩,B,r,t,u,f,v⟩:=YP (i:=i) (n:=a.length+b.length) y A o k (by omega) z p;rw[if_pos (by simpa using d),dL d,alC,B,alC];simp only at r t u f v ⊢;have C:IntKind.i64.wrap ((i:Int)+(b.length:Int))=((i+b.length:Nat):Int):=by rw[mJ (by omega)];omega
  have e:i+b.length<m.length:=by omega
  rw[C,dL e,alC,f _ e (aki _),Int.zero_add,mJ (x:=c) (by omega)];have D:IntKind.i64.wrap ((i:Int)+1)=((i+1:Nat):Int):=by rw[mJ (by omega)];omega
  refine⟨d,_,rfl,D,by simpa using r,t.set _ u,fun j g E =>?_,?_⟩
  ·grind
  ·simp only[Int.toNat_natCast];rw[xV e,f _ e (aki _),Int.sub_zero,v,q,mf d,Int.add_mul,Int.mul_assoc]
 grind
def mul_eq{a b:List Int}(c:Dg a)(d:Dg b)(e:a.length+b.length<=17592186044416):sa a b=some (bI (dv a*dv b).toNat):=by
 obtain⟨l,f,g,h,i⟩:=YO c d e;unfold sa;grind[mJ,mk0,yC,Cr]
def mc(x y:Int):Int:=if x<y then -1 else if y<x then 1 else 0
def CA(x y:Int):gQ x y=some (mc x y):=by
 unfold gQ su mc;grind
def Pk{a b:List Int}(h:Dg a)(j:Dg b)(l:Fit a)(w:a.length=b.length):iA a b=some (mc (dv a) (dv b)):=by
 unfold Fit at l;unfold iA;rw[if_neg (by simp;omega)];have p:IntKind.i64.wrap ((a.length:Int)-1)=(a.length:Int)-1:=mJ (by omega);rw[p];have key:∃r,aT (oR a b) ((a.length:Int)-1)=some r∧(match r with | .inl _=>mc (dv a) (dv b)=0 | .inr x=>x=mc (dv a) (dv b)):=by
  refine dz (I:=fun i s=>s=((a.length-i:Nat):Int)-1∧a.drop (a.length-i)=b.drop (a.length-i)) a.length _ ⟨rfl,?_⟩ (kH l) ?_
  ·simp_all
  rintro i s y ⟨rfl,c⟩;generalize z:a.length-i=k at *;simp only[oR]
  by_cases A:0<k
  ·have e:k-1<a.length:=by omega
   have f:k-1<b.length:=by omega
   have q:((k:Int)-1)=((k-1:Nat):Int):=by omega
   rw[q,if_pos (by simp),dL e,alC,dL f,alC]
   by_cases d:a[k-1]=b[k-1]
   ·left;rw[if_neg (by simpa using d)];refine⟨by omega,_,rfl,by rw[mJ (by omega)];omega,?_⟩;rw[show a.length-(i+1)=k-1 by omega,al3 e,al3 f,d,show k-1+1=k by omega,c]
   ·right;rw[if_pos (by simpa using d),CA,alC];refine⟨_,rfl,?_⟩;simp only;have m:=lE a (i:=k) (by omega);have t:=lE b (i:=k) (by omega);have n:=mf e;have o:=mf f;rw[show k-1+1=k by omega]at n o;have u:=uh (h.take (k-1));have v:=uh (j.take (k-1));rw[aky,amc (by omega)]at u v;have B:=ez (h.take (k-1));have C:=ez (j.take (k-1));have D:=tI (k-1);rw[n]at m;rw[o]at t;rw[c]at m;unfold mc;rcases Int.lt_or_gt_of_ne d with g|g
    ·have:pw (k-1)*a[k-1]+pw (k-1)<=pw (k-1)*b[k-1]:=by
      have:pw (k-1)*(a[k-1]+1)<=pw (k-1)*b[k-1]:=amk (by omega) (by omega);grind
     omega
    ·have:pw (k-1)*b[k-1]+pw (k-1)<=pw (k-1)*a[k-1]:=by
      have:pw (k-1)*(b[k-1]+1)<=pw (k-1)*a[k-1]:=amk (by omega) (by omega);grind
     omega
  ·right;have:k=0:=by omega
   subst this;refine⟨.inl (),by simp_all,?_⟩;simp only[alU]at c;simp[c,mc]
 grind
def xP{m n:Nat}(h:(bI m).length<(bI n).length):m<n:=by
 have b:=lM m;have a:n≠0:=fun c=>by grind[ef]
 have d:=Bx a;have e:=wJ (i:=(bI m).length) (j:=(bI n).length-1) (by omega);omega
def gL{m n:Nat}(h:m<=n):(bI m).length<=(bI n).length:=by
 rcases akV (bI n).length (bI m).length with h1|h1
 ·have:=xP h1;omega
 ·exact h1
def Av{m n:Nat}(b:Fit (bI m))(c:Fit (bI n)):iA (bI m) (bI n)=some (mc m n):=by
 by_cases a:(bI m).length=(bI n).length
 ·rw[Pk (fN m) (fN n) b a,da,da]
 ·unfold iA;rw[if_pos (by simp;omega),CA,yC];unfold mc;rcases Nat.lt_or_gt_of_ne a with h|h
  ·have:=xP h;simp_all
  ·have:=xP h;grind
def NS{u v:List Int}{g:Int}(w:Dg u)(B:Dg v)(C:0<=g∧g<=1048576)(D:Fit u)(E:v.length<=u.length) :
  ∃r,aT (nH u v g) (0,0,u)=some r∧r.2.length=u.length∧Dg r.2∧(0<=r.1∧r.1<=1048576)∧dv r.2+g*dv v=dv u+pw u.length*r.1:=by
 unfold Fit at D;refine dz (I:=fun i s=>s.2.1=(i:Int)∧s.2.2.length=u.length∧Dg s.2.2∧(∀j (y:j<s.2.2.length) (f:j<u.length),i<=j->s.2.2[j]=u[j])∧(0<=s.1∧s.1<=1048576)∧dv s.2.2+g*dv (v.take i)=dv u+pw i*s.1)
  u.length _ ⟨rfl,rfl,w,fun j y _ _=>rfl,by simp,by simp[dv]⟩ (kH (by omega)) ?_
 rintro i ⟨c,s,l⟩ J ⟨z,e,h,k,A,m⟩;simp only at z e h k A m;subst z;simp only[nH]
 by_cases a:i<u.length
 ·left;have b:i<l.length:=by omega
  rw[if_pos (by simpa using a),dL b,alC,k i b a (aki _)];have K:=w.get a;have n:=Wf B i;have o:0<=g*gd v i:=amu C.1 n.1;have p:g*gd v i<=1048576*1048575:=Int.mul_le_mul (by omega) (by omega) n.1 (by omega);have F:(if decide ((i:Int)<(v.length:Int))=true then (P.idx v (i:Int)).bind fun q=>some (IntKind.i64.wrap ((IntKind.i64.wrap (u[i]-c))-(IntKind.i64.wrap (g*q)))) else some (IntKind.i64.wrap (u[i]-c)))=some (u[i]-c-g*gd v i):=by
   by_cases d:i<v.length
   ·rw[if_pos (by simpa using d),dL d,alC];rw[abt d]at n o p ⊢;rw[mJ (x:=u[i]-c) (by omega),mJ (x:=g*v[i]) (by omega),mJ (by omega)]
   ·rw[if_neg (by simpa using d),abr (by omega),mJ (by omega)];simp
  rw[F,alC,Sr,alC,xC (by omega) (by omega),mJ (x:=0-_) (by omega)];have G:IntKind.i64.wrap ((i:Int)+1)=((i+1:Nat):Int):=by rw[mJ (by omega)];omega
  refine⟨a,_,rfl,G,by simpa using e,h.set _ (by omega),fun j y f H =>?_,by simp only;omega,?_⟩
  ·grind
  ·simp only[Int.toNat_natCast];rw[xV b,k i b a (aki _),BT];have L:=Dt i (u[i]-c-g*gd v i);grind
 ·right;have t:i=u.length:=by omega
  subst t;refine⟨(c,l),by simp_all,e,h,A,?_⟩;rw[GN E]at m;exact m
def NT{u v:List Int}(o:Dg u)(t:Dg v)(w:Fit u)(y:v.length<=u.length) :
  ∃l,aT (nI v u) (0,0,u)=some l∧l.length=u.length∧Dg l∧∃c,0<=c∧dv l+pw u.length*c=dv u+dv v:=by
 unfold Fit at w;refine dz (I:=fun i s=>s.2.1=(i:Int)∧s.2.2.length=u.length∧Dg s.2.2∧(∀j (p:j<s.2.2.length) (f:j<u.length),i<=j->s.2.2[j]=u[j])∧(0<=s.1∧s.1<=1)∧dv s.2.2+pw i*s.1=dv u+dv (v.take i))
  u.length _ ⟨rfl,rfl,o,fun j p _ _=>rfl,by simp,by simp[dv]⟩ (kH (by omega)) ?_
 rintro i ⟨c,s,l⟩ D ⟨q,e,g,h,r,k⟩;simp only at q e g h r k;subst q;simp only[nI]
 by_cases a:i<u.length
 ·left;have b:i<l.length:=by omega
  rw[if_pos (by simpa using a),dL b,alC,h i b a (aki _)];have E:=o.get a;have z:=Wf t i;have A:(if decide ((i:Int)<(v.length:Int))=true then (P.idx v (i:Int)).bind fun m=>some (IntKind.i64.wrap ((IntKind.i64.wrap (c+u[i]))+m)) else some (IntKind.i64.wrap (c+u[i])))=some (c+u[i]+gd v i):=by
   by_cases d:i<v.length
   ·rw[if_pos (by simpa using d),dL d,alC];rw[abt d]at z ⊢;rw[mJ (x:=c+u[i]) (by omega),mJ (by omega)]
   ·rw[if_neg (by simpa using d),abr (by omega),mJ (by omega)];simp
  rw[A,alC,Sr,alC,xC (by omega) (by omega)];have B:IntKind.i64.wrap ((i:Int)+1)=((i+1:Nat):Int):=by rw[mJ (by omega)];omega
  refine⟨a,_,rfl,B,by simpa using e,g.set _ (by omega),fun j p f C =>?_,by simp only;omega,?_⟩
  ·grind
  ·simp only[Int.toNat_natCast];rw[xV b,h i b a (aki _),BT];have F:=Dt i (c+u[i]+gd v i);grind
 ·right;have n:i=u.length:=by omega
  subst n;refine⟨l,by simp_all,e,g,c,r.1,?_⟩;rw[GN y]at k;exact k
def Y3{u v:List Int}{g:Int}(q:Dg u)(f:Dg v)(w:Fit u)(r:v.length<=u.length)(x:0<dv v)(y:dv u / dv v<=g)(z:g<=dv u / dv v+1)(i:g<=1048576) :
  ∃l,il u v g=some (l,dv u / dv v)∧l.length=u.length∧Dg l∧dv l=dv u % dv v:=by
 have A:0<=dv u / dv v:=amo (ez q) (by omega);obtain⟨⟨c,l⟩,B,b,e,C,D⟩:=NS q f ⟨by omega,i⟩ w r;simp only at b e C D;have L:=ams (dv u) (dv v);have E:=amq (dv u) (show dv v≠0 by omega);have F:=amr (dv u) x;have j:=uh e;have G:=ez e;rw[b]at j;have M:=tI u.length;have H:dv v<pw u.length:=Int.lt_of_lt_of_le (uh f) (wJ r);unfold il sW;rw[B,alC];simp only;rcases (show g=dv u / dv v∨g=dv u / dv v+1 by omega) with s|s
 ·have k:g*dv v=dv v*(dv u / dv v):=by grind
  have a:c=0:=by
   rcases (show c=0∨1<=c by omega) with h|h
   ·exact h
   ·have:pw u.length*1<=pw u.length*c:=amk h (by omega);omega
  grind
 ·have k:g*dv v=dv v*(dv u / dv v)+dv v:=by grind
  have a:c≠0:=by
   grind
  obtain⟨m,I,J,n,d,N,K⟩:=NT e f (by omega) (by omega);rw[if_neg (by simpa using a),I,alC,alC,if_pos (by simp;omega)];refine⟨m,by rw[mJ (by omega),s];simp,by omega,n,?_⟩;rw[b]at K;have o:=uh n;have t:=ez n;rw[J,b]at o;have p:c=d:=by
   rcases Int.lt_trichotomy c d with h|h|h
   ·have:pw u.length*(c+1)<=pw u.length*d:=amk (by omega) (by omega);grind
   ·exact h
   ·have:pw u.length*(d+1)<=pw u.length*c:=amk (by omega) (by omega);grind
  subst p;omega
def T5{v u:List Int}{s13:Int}{a b c T V W:Int}{n:Nat}(hn:2<=n)(e:v.length=n)(M:n<=17592186044416)(i:Nat)(N:s13=i)(O:i+n<=17592186044416)
  (p:P.idx v (((n-2:Nat)):Int)=some b) (q:P.idx u (((i+n-2:Nat)):Int)=some c)
  (b1:524288<=a∧a<1048576) (m:0<=b∧b<1048576) (Q:0<=c∧c<1048576) (t:0<=T) (R:T<1048576*1048576)
  (G:pw (n-2)*(a*1048576+b)<=V∧V<pw (n-2)*(a*1048576+b+1)) (hW:pw (n-2)*(T*1048576+c)<=W∧W<pw (n-2)*(T*1048576+c+1)) (w:W<1048576*V) :
  ∃g,aT (wb v s13 u a) (T / a,T % a)=some g∧W / V<=g∧g<=W / V+1∧g<=1048576:=by
 subst N;have hp:=tI (n-2);have d:0<V:=by
  have:pw (n-2)*1<=pw (n-2)*(a*1048576+b):=amk (by omega) (by omega);omega
 have y:0<=W:=by
  have:0<=pw (n-2)*(T*1048576+c):=amu (by omega) (by omega);omega
 have S:0<=W / V:=amo y (by omega);have U:W / V<1048576:=amp d w;have hm:=ams T a;have z:=amq T (show a≠0 by omega);have X:=amr T (show 0<a by omega);have Y:0<=T / a:=amo t (by omega);have A:T / a<=2097152:=by
  have:T / a<2097153:=amp (by omega) (by
   omega)
  omega
 have Z:∀g r:Int,g*a+r=T->W / V<=g->g*b>r*1048576+c->W / V<=g-1:=by
  intro g r o B C;have j:W<g*V:=by
   have k:g*(a*1048576+b)>=T*1048576+c+1:=by
    grind
   have e2:pw (n-2)*(T*1048576+c+1)<=pw (n-2)*(g*(a*1048576+b)):=amk k (by omega);have H:g*(pw (n-2)*(a*1048576+b))<=g*V:=amk G.1 (by omega);grind
  have:=amp d j;omega
 have D:∀g r:Int,g*a+r=T->0<=g->g<=1048576->g*b<=r*1048576+c->g<=W / V+1:=by
  intro g r o h0 hB C;have k:g*(a*1048576+b)<=T*1048576+c:=by
   grind
  have e2:g*V<=W+V:=by
   have f1:g*V<=g*(pw (n-2)*(a*1048576+b+1)):=amk (by omega) h0;have f2:g*(pw (n-2)*(a*1048576+b+1))=pw (n-2)*(g*(a*1048576+b))+pw (n-2)*g:=by
    grind
   have f3:pw (n-2)*(g*(a*1048576+b))<=pw (n-2)*(T*1048576+c):=amk k (by omega);have f4:pw (n-2)*g<=pw (n-2)*(a*1048576+b):=amk (by omega) (by omega);omega
  have H:(g-1)*V<=W:=by grind
  have:=Int.le_ediv_of_mul_le d H;omega
 have f:W / V<=T / a:=by
  have k:W<(T / a+1)*V:=by
   have f1:T+1<=(T / a+1)*a:=by
    grind
   have f2:T*1048576+c+1<=(T / a+1)*(a*1048576+b):=by
    have g1:(T+1)*1048576<=(T / a+1)*a*1048576:=amv f1 (by omega);have g2:0<=(T / a+1)*b:=amu (by omega) m.1;grind
   have f3:pw (n-2)*(T*1048576+c+1)<=pw (n-2)*((T / a+1)*(a*1048576+b)):=amk f2 (by omega);have f4:(T / a+1)*(pw (n-2)*(a*1048576+b))<=(T / a+1)*V:=amk G.1 (by omega);grind
  have:=amp d k;omega
 refine B0 (I:=fun (s:Int×Int)=>s.1*a+s.2=T∧W / V<=s.1∧s.1<=2097152∧0<=s.2) (μ:=fun (s:Int×Int)=>s.1.toNat) _ ⟨?_,f,A,z⟩ (by unfold FU;omega) ?_
 ·grind
 rintro⟨g,r⟩ ⟨o,B,C,j⟩;simp only at o B C j;have aa:0<=g*a:=amu (by omega) (by omega);simp only[wb];have el:IntKind.i64.wrap ((v.length:Int)-2)=((n-2:Nat):Int):=by rw[e,mJ (by omega)];omega
 have ei:IntKind.i64.wrap ((IntKind.i64.wrap ((i:Int)+(v.length:Int)))-2)=((i+n-2:Nat):Int):=by rw[e,mJ (x:=(i:Int)+n) (by omega),mJ (by omega)];omega
 rw[el,ei];have E:W / V<=g-1->∃h:Int×Int,(some (Sum.inl (IntKind.i64.wrap (g-1),IntKind.i64.wrap (r+a))):Option ((Int×Int)⊕Int))=some (.inl h)∧(h.1*a+h.2=T∧W / V<=h.1∧h.1<=2097152∧0<=h.2)∧h.1.toNat<g.toNat:=by
  intro ab;refine⟨_,rfl,?_⟩;rw[mJ (x:=g-1) (by omega),mJ (x:=r+a) (by omega)];grind
 by_cases l:g>=1048576
 ·rw[if_pos (by simpa using l),alC,if_pos rfl];grind
 ·rw[if_neg (by simpa using l)]
  by_cases J:r<1048576
  ·have K:0<=g*b:=amu (by omega) m.1;have F:g*b<=1048576*1048576:=Int.mul_le_mul (by omega) (by omega) m.1 (by omega);rw[if_pos (by simpa using J),p,alC,acB j (by omega),alC,q,alC,mJ (x:=g*b) (by omega),Um j (by omega) Q,alC]
   by_cases L:g*b>1048576*r+c
   ·rw[if_pos (by simpa using L)];grind
   ·rw[if_neg (by simpa using L)];grind
  ·rw[if_neg (by simpa using J),alC,if_neg (by simp)];refine .inr ⟨g,rfl,B,D g r o (by omega) (by omega) ?_,by omega⟩;have:g*b<=1048575*1048575:=Int.mul_le_mul (by omega) (by omega) m.1 (by omega);omega
def agF{α:Type}{l:List α}{a b:Nat}(h:a<=b)(c:b<=l.length):Fs l (a:Int) (b:Int)=some ((l.drop a).take (b-a)):=by
 unfold Fs;simp_all
def adU{l:List Int}{n:Nat}(d:l.length=n)(f:2<=n)(a:Dg l) :
  pw (n-2)*((l[n-1]'(by omega))*1048576+l[n-2]'(by omega))<=dv l∧dv l<pw (n-2)*((l[n-1]'(by omega))*1048576+l[n-2]'(by omega)+1):=by
 have e:=lE l (i:=n-2) (by omega);rw[qK (by omega),qK (i:=n-2+1) (by omega),alM (by omega)]at e;have b:l[n-2+1]'(by omega)=l[n-1]'(by omega):=by congr 1;omega
 rw[b]at e;have g:=ez (a.take (n-2));have c:=uh (a.take (n-2));rw[aky,amc (by omega)]at c;simp only[dv]at e;grind
def adV{l:List Int}{n:Nat}(g:l.length=n+1)(h:2<=n)(a:Dg l) :
  pw (n-2)*((1048576*(l[n]'(by omega))+l[n-1]'(by omega))*1048576+l[n-2]'(by omega))<=dv l∧dv l<pw (n-2)*((1048576*(l[n]'(by omega))+l[n-1]'(by omega))*1048576+l[n-2]'(by omega)+1):=by
 have e:=lE l (i:=n-2) (by omega);rw[qK (by omega),qK (i:=n-2+1) (by omega),qK (i:=n-2+1+1) (by omega),alM (by omega)]at e;have b:l[n-2+1]'(by omega)=l[n-1]'(by omega):=by congr 1;omega
 have c:l[n-2+1+1]'(by omega)=l[n]'(by omega):=by congr 1;omega
 rw[b,c]at e;have j:=ez (a.take (n-2));have d:=uh (a.take (n-2));rw[aky,amc (by omega)]at d;simp only[dv]at e;have f:l[n-2]'(by omega)+1048576*(l[n-1]'(by omega)+1048576*(l[n]'(by omega)+1048576*0))=(1048576*(l[n]'(by omega))+l[n-1]'(by omega))*1048576+l[n-2]'(by omega):=by omega
 rw[f]at e;rw[amm (pw (n-2)) _ 1,Int.mul_one];omega
def aaQ{v o:List Int}{n m:Nat}(p:Dg v)(a:v.length=n)(F:2<=n)(G:524288<=v[n-1]'(by omega))(hu:Dg o)(H:o.length=m+n)(hf:m+n<=17592186044416)(d:dv (o.drop m)<dv v) :
  ∃r,aT (wa v) ((m:Int)-1,o,List.replicate m 0)=some r∧r.1.length=m+n∧Dg r.1∧r.2.length=m∧Dg r.2∧dv r.1+dv v*dv r.2=dv o∧dv r.1<dv v:=by
 have J:=uh p;rw[a]at J;refine dz (I:=fun i s=>s.1=((m-i:Nat):Int)-1∧s.2.1.length=m+n∧Dg s.2.1∧s.2.2.length=m∧Dg s.2.2∧(∀j (E:j<s.2.2.length),j<m-i->s.2.2[j]=0)∧dv s.2.1+dv v*dv s.2.2=dv o∧dv (s.2.1.drop (m-i))<dv v)
  m _ ⟨rfl,H,hu,by simp,Dg.rep _,fun j E _=>by simp,by simp[Gj],d⟩ (kH (by omega)) ?_
 rintro i ⟨s,u,q⟩ hi ⟨S,hl,b,t,x,K,he,d⟩;simp only at S hl b t x K he d;subst S;generalize hk:m-i=k at *;simp only[wa]
 by_cases h0:0<k
 ·left;have ek:((k:Int)-1)=((k-1:Nat):Int):=by omega
  rw[ek,if_pos (by simp)];have e1:IntKind.i64.wrap (((k-1:Nat):Int)+(v.length:Int))=((k-1+n:Nat):Int):=by rw[a,mJ (by omega)];omega
  have e2:IntKind.i64.wrap (((k-1+n:Nat):Int)-1)=((k-1+n-1:Nat):Int):=by rw[mJ (by omega)];omega
  have e3:IntKind.i64.wrap ((v.length:Int)-1)=((n-1:Nat):Int):=by rw[a,mJ (by omega)];omega
  have e4:IntKind.i64.wrap (((k-1+n:Nat):Int)+1)=((k-1+n+1:Nat):Int):=by rw[mJ (by omega)];omega
  have e5:IntKind.i64.wrap (((k-1:Nat):Int)-1)=((k-1:Nat):Int)-1:=mJ (by omega);rw[e1,e2,e3,e4,e5];have U:k-1+n<u.length:=by omega
  have V:k-1+n-1<u.length:=by omega
  have W:k-1+n-2<u.length:=by omega
  have X:n-1<v.length:=by omega
  have y:n-2<v.length:=by omega
  have Y:=b.get U;have g2:=b.get V;have g3:=b.get W;have gv:=p.get X;have L:=p.get y;rw[dL U,alC,acB Y.1 (by omega),alC,dL V,alC,dL X,alC,Um Y.1 (by omega) g2,ahA (by omega) (by omega) (by omega),alC,agp (by omega) (by omega),alC,agF (by omega) (by omega),show k-1+n+1-(k-1)=n+1 by omega];generalize Z:(u.drop (k-1)).take (n+1)=w;have M:w.length=n+1:=by grind
  have c:Dg w:=by rw[<- Z];exact (b.drop _).take _
  have e:∀j (E:j<n+1),w[j]'(by omega)=u[k-1+j]'(by omega):=by
   grind
  have z:dv (u.drop (k+n))=0:=by
   have N:=lE (u.drop k) (i:=n) (by grind);rw[alR]at N;have n1:=ez ((b.drop k).take n);have n2:=ez (b.drop (k+n));have hp:=tI n;rcases (show dv (u.drop (k+n))=0∨1<=dv (u.drop (k+n)) by omega) with h|h
   ·exact h
   ·have:pw n*1<=pw n*dv (u.drop (k+n)):=amk h (by omega);omega
  have hW:dv w=dv (u.drop (k-1)):=by
   have N:=lE (u.drop (k-1)) (i:=n+1) (by grind);rw[alR,show k-1+(n+1)=k+n by omega,z,Z]at N;omega
  have aa:dv w=u[k-1]+1048576*dv (u.drop k):=by
   rw[hW,qK (by omega),show k-1+1=k by omega]
  have gk:=b.get (show k-1<u.length by omega);have A:dv w<1048576*dv v:=by omega
  have t2:=adU a F p;have t3:=adV M F c;rw[e n (by omega),e (n-1) (by omega),e (n-2) (by omega)]at t3;have a1:u[k-1+(n-1)]'(by omega)=u[k-1+n-1]'(by omega):=by congr 1;omega
  have a2:u[k-1+(n-2)]'(by omega)=u[k-1+n-2]'(by omega):=by congr 1;omega
  rw[a1,a2]at t3;obtain⟨g,q1,q2,q3,q4⟩:=T5 (s13:=((k-1:Nat):Int)) F a (by omega) (k-1) rfl (by omega) (dL y) (dL W) ⟨G,gv.2⟩ L g3 (T:=1048576*u[k-1+n]+u[k-1+n-1]) (by omega) (by omega) t2 t3 A;rw[q1,alC,alC];have f:0<dv v:=by
   have:=ez c;omega
  obtain⟨l,r1,r2,r3,r4⟩:=Y3 c p (by unfold Fit;omega) (by omega) f q2 q3 q4;have O:k-1<q.length:=by omega
  rw[r1,alC,dL O,alC];simp only;have P:0<=dv w / dv v:=amo (ez c) (by omega);have Q:dv w / dv v<1048576:=amp f A;have B:=amr (dv w) f;simp only[Int.toNat_natCast];have C:dv (l++u.drop (k-1+n+1))=dv w % dv v:=by
   rw[me,show k-1+n+1=k+n by omega,z,r4];omega
  have D:(u.take (k-1)).length=k-1:=by grind
  have R:dv (u.take (k-1)++(l++u.drop (k-1+n+1)))=dv (u.take (k-1))+pw (k-1)*(dv w % dv v):=by rw[me,D,C]
  refine⟨by omega,_,rfl,by rw[show m-(i+1)=k-1 by omega],?_,(b.take _).append (r3.append (b.drop _)),by simpa using t,x.set _ ⟨P,Q⟩,fun j E ab =>?_,?_,?_⟩
  ·grind
  ·rw[List.getElem_set_ne (by omega)];exact K j (by simpa using E) (by omega)
  ·rw[R,xV O,K _ O (by omega),Int.sub_zero,amm];have s2:=lE u (i:=k-1) (by omega);rw[<- hW]at s2;have hm:=ams (dv w) (dv v);grind
  ·rw[show m-(i+1)=k-1 by omega,alL,D,aln,alU,alM (by omega),alO,C];exact B
 simp_all
def Ux{v:List Int}{t:Int}{n:Nat}(b:v.length=n)(g:0<n)(k:n<=17592186044416)(c:v[n-1]'(by omega)=t)(d:1<=t)(l:t<1048576) :
  ∃s,aT (v8 v) 1=some s∧∃j:Nat,s=2 ^ j∧j<=19∧524288<=t*s∧t*s<1048576:=by
 refine dz (I:=fun i s=>s=2 ^ i∧t*s<1048576) 20 _ ⟨rfl,by omega⟩ (by unfold FU;omega) ?_;rintro i s m ⟨rfl,o⟩;have p:(0:Int)<2 ^ i:=Int.pow_pos (by decide);have f:(2:Int) ^ i<=t*2 ^ i:=by
  have:1*(2:Int) ^ i<=t*2 ^ i:=amv d (by omega);omega
 have a:i<=19:=by
  grind
 simp only[v8];have e:IntKind.i64.wrap ((v.length:Int)-1)=((n-1:Nat):Int):=by rw[b,mJ (by omega)];omega
 rw[e,dL (by omega),alC,c,mJ (x:=t*2 ^ i) (by omega)]
 by_cases h:t*2 ^ i<524288
 ·left;rw[if_pos (by simpa using h)];refine⟨by omega,_,rfl,by rw[mJ (by omega),Int.pow_succ],?_⟩;rw[mJ (by omega),<- Int.mul_assoc];omega
 grind
def div_eq{m n:Nat}(hn:n≠0)(al:(bI m).length<=17592186043904)(an:(bI n).length<=17592186043904):v7 (bI m) (bI n)=some (bI (m / n),bI (m % n)):=by
 unfold v7;rw[Av (by unfold Fit;omega) (by unfold Fit;omega),alC]
 by_cases q:m<n
 ·have:mc (m:Int) n<0:=by unfold mc;omega
  rw[if_pos (by simpa using this),xN (by unfold Fit;omega),alC,Nat.div_eq_of_lt q,ak6 q,ef]
 have:¬mc (m:Int) n<0:=by unfold mc;omega
 rw[if_neg (by simpa using this)];obtain⟨ao,aq⟩:=Bx hn;have r:=lM n
 by_cases h1:(bI n).length=1
 ·rw[if_pos (by simp;omega)];have ar:(n:Int)<1048576:=by rw[h1]at r;simpa [pw] using r
  have e:bI n=[(n:Int)]:=by
   rw[qU hn,Nat.div_eq_of_lt (by omega),ef,ak6 (by omega)]
  have ei:P.idx (bI n) 0=some (n:Int):=by rw[e];rfl
  rw[ei,alC,Sq (fN m) ⟨by omega,by omega⟩ (by unfold Fit;omega),alC,da];have F:(m:Int) % n=((m % n:Nat):Int):=(Int.natCast_emod m n).symm;have G:((m:Int) / n).toNat=m / n:=by
   grind
  have au:m % n<n:=ak3 _ (by omega);simp only[F,G];rw[Fu (n:=m % n) (by simp[Fit]) (Dg.mk (by omega) Dg.nil) (by simp[dv]),alC]
 ·rw[if_neg (by simp;omega)];generalize hN:(bI n).length=N at *;have H:2<=N:=by omega
  have f:=fN n;have gt:=f.get (show N-1<(bI n).length by omega);generalize ht:(bI n)[N-1]'(by omega)=t at gt;have a:=lE (bI n) (i:=N-1) (by omega);rw[da,qK (by omega),alM (by omega),ht]at a;simp only[dv,Int.mul_zero,Int.add_zero]at a;have I:=ez (f.take (N-1));have J:=uh (f.take (N-1));rw[aky,amc (by omega)]at J;have av:=tI (N-1);have K:1<=t:=by
   grind
  obtain⟨s,L,j,v,hj,O,g⟩:=Ux hN (by omega) (by omega) ht K gt.2;have R:(2:Int) ^ j<=524288:=by
   have:∀j:Nat,j<=19->(2:Int) ^ j<=524288:=by decide
   exact this j hj
  have T:(0:Int)<2 ^ j:=Int.pow_pos (by decide);have V:(t+1)*s<=1048576:=by
   have W:(1048576:Int)=2 ^ (20-j)*2 ^ j:=by rw[<- Int.pow_add,Nat.sub_add_cancel (by omega)];rfl
   rw[W]at g ⊢;rw[v]at g ⊢;have:t<2 ^ (20-j):=Int.lt_of_mul_lt_mul_right g (by omega);exact amv (by omega) (by omega)
  rw[<- v]at T R;obtain⟨S,rfl⟩:∃S:Nat,s=S:=⟨s.toNat,by omega⟩;have w:Dg [(S:Int)]:=Dg.mk (by omega) Dg.nil;have b:dv [(S:Int)]=S:=by simp[dv]
  rw[L,alC,mul_eq (fN m) w (by simp;omega),alC,da,b];have em:((m:Int)*S).toNat=m*S:=by omega
  have en:((n:Int)*S).toNat=n*S:=by omega
  rw[em];have aw:(bI (m*S)).length<=(bI m).length+1:=by
   apply oh;rw[pt,amw];have l:=lM m;have:(m:Int)*S<=m*1048576:=amk (by omega) (by omega);omega
  have hU:∃u,((if ((((bI (m*S)++[0]).length:Int))==((bI m).length:Int))=true then (oQ 8 (bI (m*S)++[0]) [0]).bind fun X=>some X else some (bI (m*S)++[0]))=some u)∧Dg u∧dv u=(m*S:Nat)∧dv u<pw (u.length-1)∧(bI (m*S)).length+1<=u.length∧u.length<=(bI m).length+3:=by
   have d1:Dg (bI (m*S)++[0]):=(fN _).append (Dg.mk (by omega) Dg.nil);have v1:dv (bI (m*S)++[0])=(m*S:Nat):=by rw[me,da];simp[dv]
   have v2:=lM (m*S);split
   ·rw[I1 (by simp;omega),alC];refine⟨_,rfl,d1.append (Dg.mk (by omega) Dg.nil),by rw[me,v1];simp[dv],?_,by simp,by simp;omega⟩;rw[me,v1];simp only[dv,alh,List.length_cons,List.length_nil];have:=wJ (i:=(bI (m*S)).length) (j:=(bI (m*S)).length+1) (by omega);grind
   grind
  obtain⟨u,Y,y,Z,ax,ay,az⟩:=hU;rw[I1 (by simp;omega),alC,mul_eq (fN n) w (by simp;omega),alC,da,b,en,Y,alC];have ai:524288*pw (N-1)<=((n*S:Nat):Int):=by
   rw[amw,a,Int.add_mul];have l:0<=dv ((bI n).take (N-1))*S:=amu I (by omega);have z:pw (N-1)*524288<=pw (N-1)*(t*S):=amk O (by omega);grind
  have A:((n*S:Nat):Int)<pw N:=by
   have a0:pw N=1048576*pw (N-1):=by rw[<- pt];congr 1;omega
   rw[a0,amw,a];have l:(dv ((bI n).take (N-1))+pw (N-1)*t+1)*S<=(pw (N-1)*(t+1))*S:=amv (by grind) (by omega);have z:pw (N-1)*((t+1)*S)<=pw (N-1)*1048576:=amk V (by omega);grind
  have B:(bI (n*S)).length=N:=by
   have l:=oh A;rcases akV (bI (n*S)).length N with h|h
   ·have z:=lM (n*S);have D:=wJ (i:=(bI (n*S)).length) (j:=N-1) (by omega);omega
   ·omega
  have aa:524288<=(bI (n*S))[N-1]'(by omega):=by
   have l:=lE (bI (n*S)) (i:=N-1) (by omega);rw[da,qK (by omega),alM (by omega)]at l;simp only[dv,Int.mul_zero,Int.add_zero]at l;have z:=uh ((fN (n*S)).take (N-1));rw[aky,amc (by omega)]at z;have D:pw (N-1)*524288<pw (N-1)*((bI (n*S))[N-1]'(by omega)+1):=by grind
   have:=Int.lt_of_mul_lt_mul_left D (by omega);omega
  have aj:N+1<=u.length:=by
   have:n*S<=m*S:=akW _ (by omega);have:=gL this;omega
  obtain⟨M,hM⟩:∃M,u.length=M+N:=⟨u.length-N,by omega⟩;have e1:IntKind.i64.wrap ((u.length:Int)-((bI (n*S)).length:Int))=(M:Int):=by rw[B,hM,mJ (by omega)];omega
  rw[e1,mk0 (by omega),alC,List.length_replicate,mJ (x:=(M:Int)-1) (by omega)];have ab:dv (u.drop M)<dv (bI (n*S)):=by
   rw[da];have l:=lE u (i:=M) (by omega);have z:=ez (y.take M);have D:pw M*dv (u.drop M)<pw M*pw (N-1):=by
    rw[<- NM,show M+(N-1)=u.length-1 by omega];omega
   have:=Int.lt_of_mul_lt_mul_left D (by have:=tI M;omega);omega
  obtain⟨⟨U,Q⟩,r1,r2,r3,r4,r5,r6,r7⟩:=aaQ (fN (n*S)) B H aa y hM (by omega) ab;simp only at r2 r3 r4 r5 r6 r7;rw[r1,alC];simp only;rw[da,Z]at r6;rw[da]at r7;have aA:=ez r3;have aB:=ez r5;have hS:0<S:=by omega
  have ad:0<n*S:=Nat.mul_pos (by omega) hS;obtain⟨o,p⟩:∃k:Nat,dv U=k:=⟨(dv U).toNat,by omega⟩;obtain⟨E,C⟩:∃k:Nat,dv Q=k:=⟨(dv Q).toNat,by omega⟩;rw[p,C]at r6;rw[p]at r7;have c:o+n*S*E=m*S:=by
   omega
  have d:o<n*S:=by omega
  have ae:E=m / n:=by
   have:m*S / (n*S)=E:=by
    rw[<- c,Nat.add_mul_div_left _ _ ad,Nat.div_eq_of_lt d,alf]
   rw[<- this,Nat.mul_div_mul_right _ _ hS]
  have ag:o=(m % n)*S:=by
   have:m*S % (n*S)=o:=by rw[<- c,Nat.add_mul_mod_self_left,ak6 d]
   rw[<- this,Nat.mul_mod_mul_right]
  rw[Fu (n:=o) (by unfold Fit;omega) r3 p,alC];have ah:(bI o).length<=N:=oh (by omega);rw[Sq (fN o) ⟨by omega,by omega⟩ (by unfold Fit;omega),alC,Fu (n:=E) (by unfold Fit;omega) r5 C,alC,da,ae,ag];have:((((m % n)*S:Nat):Int) / (S:Int)).toNat=m % n:=by
   rw[amw,Int.mul_ediv_cancel _ (by omega)];rfl
  rw[this]
def jd(x:Int):aN:=aN.mk x.sign (bI x.natAbs)
def Ln(x:Int):Nat:=(bI x.natAbs).length
def fb:Nat:=4398046511104
def sQ:Nat:=17592186043904
def Bm{n:Nat}(h:n<=fb):n<=sQ:=akk h (by decide)
theorem Q6:jd 0=aN.mk 0 []:=by unfold jd;grind[ef]
theorem aek{x y:Int}(h:jd x=jd y):x=y:=by
 unfold jd at h;simp only[aN.mk.injEq]at h;have:=aaL h.2;grind
def Oz{x:Int}{k:Nat}(h:(x.natAbs:Int)<pw k):Ln x<=k:=oh h
def Wy(x:Int):(x.natAbs:Int)<pw (Ln x):=lM _
def Vi{x y:Int}(h:x.natAbs<=y.natAbs):Ln x<=Ln y:=gL h
def MB(x:Int):Ln (-x)=Ln x:=by unfold Ln;rw[Int.natAbs_neg]
def S8(x y:Int):Ln (x+y)<=max (Ln x) (Ln y)+1:=by
 apply Oz;have a:=Wy x;have b:=Wy y;have c:=wJ (i:=Ln x) (j:=max (Ln x) (Ln y)) (by omega);have d:=wJ (i:=Ln y) (j:=max (Ln x) (Ln y)) (by omega);grind[Int.natAbs_add_le,pt]
def ly(x y:Int):Ln (x*y)<=Ln x+Ln y:=by
 apply Oz;have c:=Wy x;have a:=Wy y;rw[Int.natAbs_mul,amw,NM];have b:=tI (Ln x)
 calc (x.natAbs:Int)*y.natAbs<=pw (Ln x)*y.natAbs:=amv (by omega) (by omega)
  _<pw (Ln x)*pw (Ln y):=Int.mul_lt_mul_of_pos_left a b
theorem OA{x:Int}(h:x.natAbs<1048576):Ln x<=1:=Oz (by rw[pt,uD];omega)
def adz:Ln 0=0:=by unfold Ln;grind[ef]
instance (l:List Int):Decidable (Dg l):=by unfold Dg;infer_instance
def okB(b:aN):Bool:=decide (Dg b.aa)&&(match b.aa.getLast? with|none=>b.aq==0|some d=>(b.aq==1||b.aq == -1)&&d != 0)
def Cb{b:aN}:okB b=true↔∃x,b=jd x:=by
 obtain⟨s,l⟩:=b;unfold okB;simp only[akP,decide_eq_true_eq];constructor
 ·rintro⟨i,h⟩;cases f:l.getLast? with
  | none =>
   rw[f]at h;have:l=[]:=List.getLast?_eq_none_iff.1 f;subst this;exact⟨0,by rw[Q6];simpa using h⟩
  | some d =>
   rw[f]at h;simp only[akP,Bool.or_eq_true,beq_iff_eq,bne_iff_ne]at h;have a:l≠[]:=by grind
   have c:∀h:l≠[],l.getLast h≠0:=by
    grind
   have e:=Fj i c;have h0:(dv l).toNat≠0:=by
    intro h0;rw[h0,ef]at e;exact a e.symm
   have j:=ez i;refine⟨s*dv l,?_⟩;unfold jd;grind
 ·rintro⟨x,g⟩;unfold jd at g;simp only[aN.mk.injEq]at g;obtain⟨rfl,rfl⟩:=g;refine⟨fN _,?_⟩
  by_cases h0:x=0
  ·subst h0;simp[ef]
  ·have a:bI x.natAbs≠[]:=fun h=>h0 (by have:=xQ.1 h;omega);rw[List.getLast?_eq_some_getLast a];have k:=X3 _ a;grind
def Ue(x:Int):okB (jd x)=true:=Cb.2 ⟨x,rfl⟩
def Ii{b:aN}(h:Fit b.aa):dG b=some (okB b):=by
 obtain⟨s,l⟩:=b;simp only[Fit]at h;have key:∃r,aT (rZ ⟨s,l⟩) 0=some r∧(match r with | .inl _=>Dg l | .inr x=>x=false∧¬Dg l):=by
  refine dz (I:=fun i s=>s=(i:Int)∧Dg (l.take i)) l.length _ ⟨rfl,by simpa using Dg.nil⟩ (kH h) ?_;rintro i s k ⟨rfl,j⟩;simp only[rZ]
  by_cases a:i<l.length
  ·rw[if_pos (by simpa using a),dL a,alC]
   by_cases f:l[i]<0
   ·right;exact⟨.inr false,by simp_all,rfl,fun g=>by have:=g.get a;omega⟩
   ·by_cases c:l[i]>1048575
    ·right;exact⟨.inr false,by simp_all,rfl,fun g=>by have:=g.get a;omega⟩
    ·left;refine⟨a,_,by rw[if_neg (by simpa using f),if_neg (by simpa using c)],by rw[mJ (by omega)];omega,?_⟩;have e:l.take (i+1)=l.take i++[l[i]]:=by simp_all
     rw[e];exact j.append (Dg.mk (by omega) Dg.nil)
  ·right;have:i=l.length:=by omega
   simp_all
 obtain⟨r,f,c⟩:=key;unfold dG okB;rw[f,alC];cases r with
 | inr x =>
  simp_all
 | inl u =>
  simp only at c ⊢;simp only[c,decide_true,al9]
  by_cases d:l=[]
  ·subst d;simp
  ·have m:0<l.length:=alW.2 d;have e:IntKind.i64.wrap ((l.length:Int)-1)=((l.length-1:Nat):Int):=by rw[mJ (by omega)];omega
   rw[if_neg (by simpa using d),e,dL (by omega),List.getLast?_eq_some_getLast d,List.getLast_eq_getElem];grind
def jC{x:Int}(h:Ln x<=17592186044416):dG (jd x)=some true:=by
 rw[Ii (show Fit (jd x).aa from h),Ue]
theorem zA{s:Int}{l:List Int}(x:Int)(a:Fit l)(b:Dg l)(c:dv l=x.natAbs)(d:x≠0->s=x.sign):eh s l=some (jd x):=by
 unfold eh;rw[Fu a b c,alC]
 by_cases h0:x=0
 ·grind[ef,Q6]
 ·have:bI x.natAbs≠[]:=fun h=>h0 (by have:=xQ.1 h;omega);rw[if_neg (by simpa using this),d h0];rfl
def oS(b:aN):fG true b=some (b,0):=rfl
def aeM(x:Int):x.sign = -1∨x.sign=0∨x.sign=1:=by
 grind
def S9{x:Int}(h:Ln x<=fb):rY (jd x)=some (jd (-x)):=by
 unfold rY;have b:fb=4398046511104:=rfl;rw[jC (by omega),alC];simp only[alG,akN,if_false];have a:Fit (jd x).aa:=by unfold Fit;show Ln x<=_;omega
 rw[xN a,alC,zA (-x) a (fN _) (by show dv (bI _)=_;rw[da,Int.natAbs_neg]),alC];intro c;show IntKind.i64.wrap (0-x.sign)=_;rw[mJ (by grind),Int.sign_neg,Int.zero_sub]
def ae5(s t:Int):xO [s,t]=some (if s≠0 then s else t):=by
 have key:∃r,aT (zf [s,t]) 0=some r∧(match r with | .inl _=>s=0∧t=0 | .inr x=>x=if s≠0 then s else t):=by
  refine dz (I:=fun i j=>j=(i:Int)∧(1<=i->s=0)∧(2<=i->t=0)) 2 _ ⟨rfl,by omega,by omega⟩ (by unfold FU;omega) ?_;rintro i j c ⟨rfl,a,b⟩;simp only[zf];rcases (show i=0∨i=1∨i=2 by omega) with rfl|rfl|rfl
  ·rw[if_pos (by simp)];show _∨∃r,((some s).bind _=_)∧_;rw[show P.idx [s,t] ((0:Nat):Int)=some s from rfl,alC]
   by_cases hs:s=0
   ·left;exact⟨by omega,_,by rw[if_neg (by simpa using hs)],by rw[mJ (by omega)];rfl,fun _=>hs,by omega⟩
   simp_all
  ·have hs:=a (by omega);rw[if_pos (by simp),show P.idx [s,t] ((1:Nat):Int)=some t from rfl,alC]
   by_cases ht:t=0
   ·left;exact⟨by omega,_,by rw[if_neg (by simpa using ht)],by rw[mJ (by omega)];rfl,fun _=>hs,fun _=>ht⟩
   simp_all
  simp_all
 obtain⟨r,a,b⟩:=key;unfold xO;grind
theorem Ck(x:Int):x.sign=1∧x=x.natAbs∧0<x∨x.sign = -1∧x = -x.natAbs∧x<0∨x.sign=0∧x=0:=by
 grind
def sG{x:Int}{s:Int}{n:Nat}(a:n=x.natAbs)(b:x≠0->s=x.sign)(c:n≠0->(bI n).length<=17592186044416):eh s (bI n)=some (jd x):=by
 grind[zA,fN,da,ef]
def afQ{x y:Int}(k:Ln x<=fb)(l:Ln y<=fb):y9 (jd x) (jd y)=some (jd (x+y),0):=by
 have m:fb=4398046511104:=rfl;have f:=S8 x y;unfold y9;rw[jC (by omega),alC];simp only[alG,akN,if_false];rw[jC (by omega),alC,alC];simp only[alG,akN,if_false];show (if decide (IntKind.i64.wrap (x.sign*y.sign)>=0)=true then _ else _)=_;have a:(jd x).aa=bI x.natAbs:=rfl;have b:(jd y).aa=bI y.natAbs:=rfl;have c:(jd x).aq=x.sign:=rfl;have d:(jd y).aq=y.sign:=rfl;rw[a,b,c,d];have n:(bI x.natAbs).length<=4398046511104:=by show Ln x<=_;omega
 have o:(bI y.natAbs).length<=4398046511104:=by show Ln y<=_;omega
 have p:=Ck x;have q:=Ck y;have g:IntKind.i64.wrap (x.sign*y.sign)=x.sign*y.sign:=by
  apply mJ;grind
 rw[g]
 by_cases e:x.sign*y.sign>=0
 ·rw[if_pos (by simpa using e),ae5,alC,add_eq (fN _) (fN _) (by omega) (by omega),alC,da,da];have h:((x.natAbs:Int)+y.natAbs).toNat=(x+y).natAbs:=by
   grind
  rw[h,sG (x:=x+y) rfl ?_ (fun _=>by show Ln (x+y)<=_;omega),alC,oS,alC];grind
 ·rw[if_neg (by simpa using e),Av (by unfold Fit;omega) (by unfold Fit;omega),alC];have i:x.sign=1∧y.sign = -1∧0<x∧y<0∨x.sign = -1∧y.sign=1∧x<0∧0<y:=by
   grind
  by_cases j:x.natAbs<y.natAbs
  ·have:mc (x.natAbs:Int) y.natAbs<0:=by unfold mc;omega
   rw[if_pos (by simpa using this),sub_eq (fN _) (fN _) (by unfold Fit;omega) (gL (by omega)) (by rw[da,da];omega),alC,da,da];rw[sG (x:=x+y) (by omega) ?_ (fun _=>by rw[show ((y.natAbs:Int)-x.natAbs).toNat=(x+y).natAbs by omega];show Ln (x+y)<=_;omega),alC,oS,alC];grind
  ·have:¬mc (x.natAbs:Int) y.natAbs<0:=by unfold mc;omega
   rw[if_neg (by simpa using this),sub_eq (fN _) (fN _) (by unfold Fit;omega) (gL (by omega)) (by rw[da,da];omega),alC,da,da];rw[sG (x:=x+y) (by omega) ?_ (fun _=>by rw[show ((x.natAbs:Int)-y.natAbs).toNat=(x+y).natAbs by omega];show Ln (x+y)<=_;omega),alC,oS,alC];grind
theorem afS{x y:Int}(h:Ln x<=fb)(i:Ln y<=fb):zb (jd x) (jd y)=some (jd (x*y),0):=by
 have j:fb=4398046511104:=rfl;have e:=ly x y;unfold zb;rw[jC (by omega),alC];simp only[alG,akN,if_false];rw[jC (by omega),alC,alC];simp only[alG,akN,if_false];have a:(jd x).aa=bI x.natAbs:=rfl;have b:(jd y).aa=bI y.natAbs:=rfl;have c:(jd x).aq=x.sign:=rfl;have d:(jd y).aq=y.sign:=rfl;rw[a,b,c,d];have k:(bI x.natAbs).length<=4398046511104:=by show Ln x<=_;omega
 have l:(bI y.natAbs).length<=4398046511104:=by show Ln y<=_;omega
 have f:IntKind.i64.wrap (x.sign*y.sign)=(x*y).sign:=by
  rw[Int.sign_mul];apply mJ;grind
 rw[f,mul_eq (fN _) (fN _) (by omega),alC,da,da];have g:((x.natAbs:Int)*y.natAbs).toNat=(x*y).natAbs:=by rw[Int.natAbs_mul,<- amw];rfl
 rw[g,sG (x:=x*y) rfl (fun _=>rfl) (fun _=>by show Ln (x*y)<=_;omega),alC,oS,alC]
theorem pE{x y:Int}(a:Ln x<=fb)(b:Ln y<=fb):cW (jd x) (jd y)=some (jd (x*y)):=by
 grind[cW,afS]
def ZP{x y:Int}(o:Ln x<=fb)(p:Ln y<=fb)(g:0<y)(j:y∣x):rX (jd x) (jd y)=some (jd (x / y),jd 0,0):=by
 have q:fb=4398046511104:=rfl;unfold rX;rw[jC (by omega),alC];simp only[alG,akN,if_false];rw[jC (by omega),alC,alC];simp only[alG,akN,if_false];have a:(jd x).aa=bI x.natAbs:=rfl;have b:(jd y).aa=bI y.natAbs:=rfl;have c:(jd x).aq=x.sign:=rfl;have d:(jd y).aq=1:=amx g;rw[a,b,c,d];have r:(bI x.natAbs).length<=4398046511104:=by show Ln x<=_;omega
 have s:(bI y.natAbs).length<=4398046511104:=by show Ln y<=_;omega
 have k:=gL (Nat.div_le_self x.natAbs y.natAbs);obtain⟨z,rfl⟩:=j;have e:y*z / y=z:=Int.mul_ediv_cancel_left _ (by omega);have l:(y*z).natAbs=y.natAbs*z.natAbs:=Int.natAbs_mul _ _;have i:(y*z).natAbs / y.natAbs=z.natAbs:=by rw[l,Nat.mul_div_cancel_left _ (by omega)]
 have m:(y*z).natAbs % y.natAbs=0:=by simp_all
 have f:(y*z).sign=z.sign:=by rw[Int.sign_mul,amx g,Int.one_mul]
 rw[if_neg (by decide),div_eq (by omega) (by omega) (by omega),alC,Int.mul_one,f,mJ (x:=z.sign) (by grind),e,i,m,ef];rw[i]at k;have n:(if decide (z.sign<0)=true then some (decide ((([]:List Int).length:Int)>0)) else some false)=some false:=by split<;>rfl
 simp only[n,Option.bind_some,akN,if_false];rw[sG (x:=z) rfl (fun _=>rfl) (fun _=>by omega),alC];have:eh z.sign []=some (jd 0):=zA 0 (by simp[Fit]) Dg.nil rfl (fun h=>absurd rfl h);simp_all
def lg(n:Nat):Nat:=if n=0 then 0 else n.log2+1
def ahM{r x:Nat}(h:2*r<x):lg r<lg x:=by
 unfold lg;rw[if_neg (show x≠0 by omega)]
 by_cases a:r=0
 ·simp_all
 ·rw[if_neg a];have b:=Nat.log2_self_le a;have c:=@Nat.lt_log2_self x;have:2 ^ (r.log2+1)<2 ^ (x.log2+1):=by omega
  have:=(Nat.pow_lt_pow_iff_right (by decide:1<2)).1 this;omega
def afA{n k:Nat}(h:(n:Int)<pw k):lg n<=20*k:=by
 unfold lg
 by_cases a:n=0
 ·simp_all
 ·rw[if_neg a];have:n<2 ^ (20*k):=by
   have:pw k=((2 ^ (20*k):Nat):Int):=by
    unfold pw;rw[Nat.pow_mul,Int.natCast_pow];rfl
   omega
  have:=(Nat.log2_lt a).2 this;omega
def abq{a b:Nat}(g:(bI a).length<=sQ)(i:(bI b).length<=sQ):aT sS (bI a,bI b)=some (bI (Nat.gcd a b)):=by
 have p:sQ=17592186043904:=rfl;have key:∃r,aT sS (bI a,bI b)=some r∧r=bI (Nat.gcd a b):=by
  have q:=afA (lM a);have t:=afA (lM b)
  let c:List Int->Nat:=fun l=>(dv l).toNat
  have d:∀n,c (bI n)=n:=fun n=>by show (dv (bI n)).toNat=n;rw[da];rfl
  refine B0 (I:=fun (s:List Int×List Int)=>∃x y,s=(bI x,bI y)∧Nat.gcd x y=Nat.gcd a b∧(bI x).length<=sQ∧(bI y).length<=sQ)
   (μ:=fun (s:List Int×List Int)=>lg (c s.1)+lg (c s.2)+(if c s.1<c s.2 then 1 else 0)) _ ⟨a,b,rfl,rfl,g,i⟩ (by simp only[d];unfold FU;split<;>omega) ?_
  rintro _ ⟨x,y,rfl,j,u,k⟩;simp only[sS]
  by_cases h0:y=0
  ·right;subst h0;refine⟨_,by rw[ef,if_neg (by simp)],?_⟩;simp_all
  ·left;have f:0<(bI y).length:=alW.2 (fun h=>h0 (xQ.1 h));rw[if_pos (by simpa using f),div_eq h0 (by omega) (by omega),alC];have m:=ak3 x (Nat.pos_of_ne_zero h0);refine⟨_,rfl,⟨y,x % y,rfl,?_,k,?_⟩,?_⟩
   ·rw[<- j,Nat.gcd_comm y,<- Nat.gcd_rec,Nat.gcd_comm]
   ·have:=gL (Nat.mod_le x y);omega
   ·simp only[d];rw[if_neg (by omega)]
    by_cases e:x<y
    ·rw[if_pos e,ak6 e];omega
    ·rw[if_neg e];have:lg (x % y)<lg x:=by
      apply ahM;have v:=Nat.div_add_mod x y;have o:1<=x / y:=(Nat.one_le_div_iff (by omega)).2 (by omega);have w:y*1<=y*(x / y):=Nat.mul_le_mul_left _ o;omega
     omega
 simp_all
def ZS{x y:Int}(d:Ln x<=sQ)(e:Ln y<=sQ):uc (jd x) (jd y)=some (jd (Int.gcd x y),0):=by
 have f:sQ=17592186043904:=rfl;unfold uc;rw[jC (by omega),alC];simp only[alG,akN,if_false];rw[jC (by omega),alC,alC];simp only[alG,akN,if_false];have a:(jd x).aa=bI x.natAbs:=rfl;have b:(jd y).aa=bI y.natAbs:=rfl;rw[a,b];have g:(bI x.natAbs).length<=17592186043904:=by show Ln x<=_;omega
 have i:(bI y.natAbs).length<=17592186043904:=by show Ln y<=_;omega
 have j:(bI (Nat.gcd x.natAbs y.natAbs)).length<=17592186043904:=by
  by_cases h:y.natAbs=0
  ·simp_all
  ·have:=gL (Nat.gcd_le_right x.natAbs (Nat.pos_of_ne_zero h));omega
 rw[xN (by unfold Fit;omega),alC,abq (by omega) (by omega),alC,xN (by unfold Fit;omega),alC];have c:Nat.gcd x.natAbs y.natAbs=((Int.gcd x y:Nat):Int).natAbs:=rfl;rw[sG (x:=(Int.gcd x y:Int)) c ?_ (fun _=>by omega),alC,oS,alC];grind
theorem S5{x y:Int}(k:Ln x<=fb)(l:Ln y<=fb):og (jd x) (jd y)=some (mc x y):=by
 have m:fb=4398046511104:=rfl;unfold og;rw[jC (by omega),alC];simp only[alG,akN,if_false];rw[jC (by omega),alC,alC];simp only[alG,akN,if_false];have d:(jd x).aa=bI x.natAbs:=rfl;have e:(jd y).aa=bI y.natAbs:=rfl;have f:(jd x).aq=x.sign:=rfl;have g:(jd y).aq=y.sign:=rfl;rw[d,e,f,g];have n:(bI x.natAbs).length<=4398046511104:=by show Ln x<=_;omega
 have o:(bI y.natAbs).length<=4398046511104:=by show Ln y<=_;omega
 by_cases h:x.sign=y.sign
 ·rw[if_neg (by simpa using h),Av (by unfold Fit;omega) (by unfold Fit;omega),alC];have j:∀s:Int,s = -1∨s=0∨s=1->∀c:Int,c = -1∨c=0∨c=1->IntKind.i64.wrap (s*c)=s*c:=by
   rintro s (rfl|rfl|rfl) c (rfl|rfl|rfl)<;>exact mJ (by decide)
  have i:∀a b:Int,mc a b = -1∨mc a b=0∨mc a b=1:=by
   intro a b;unfold mc;omega
  rw[j _ (aeM x) _ (i _ _)];congr 1;unfold mc;grind
 ·rw[if_pos (by simpa using h),CA,alC];congr 1;unfold mc;grind
def XF(x:Int):IntKind.u64.wrap x=x % 18446744073709551616:=by
 simp_all[IntKind.wrap,IntKind.bits,IntKind.signed,Bool.false_and,akN,if_false]
def wu{x:Int}(h:0<=x∧x<18446744073709551616):IntKind.u64.wrap x=x:=by rw[XF];omega
def XT{x:Int}(h:0<=x∧x<18446744073709551616):nd .and .u64 x 1048575=x % 1048576:=by
 unfold nd;simp only;have a:(BitVec.ofInt IntKind.u64.bits x &&& BitVec.ofInt IntKind.u64.bits 1048575).toNat=((x % 18446744073709551616).toNat) % 1048576:=by
  rw[BitVec.toNat_and,BitVec.toNat_ofInt,BitVec.toNat_ofInt];have e:((1048575:Int) % ((2 ^ IntKind.u64.bits:Nat):Int)).toNat=2 ^ 20-1:=by decide
  rw[e,amn];rfl
 rw[a,wu (by omega)];omega
def agD(x:Int):Ba .u64 x 20=some (x / 1048576):=by
 unfold Ba;rw[if_neg (by decide)];have e:(2:Int) ^ (min (Int.toNat 20) IntKind.u64.bits)=1048576:=by decide
 grind
def pw4:pw 4=1208925819614629174706176:=by decide
def aes{n:Nat}(o:n<18446744073709551616):∃l,aT zc ((n:Int),[])=some l∧Dg l∧dv l=n∧l.length<=5:=by
 refine B0 (I:=fun (s:Int×List Int)=>0<=s.1∧Dg s.2∧dv s.2+pw s.2.length*s.1=n∧s.2.length<=5∧(s.1=0∨s.2.length<5)) (μ:=fun (s:Int×List Int)=>s.1.toNat) _ ⟨by simp,Dg.nil,by simp[dv,uD],by simp,by simp⟩ (by simp only[Int.toNat_natCast];unfold FU;omega) ?_;rintro⟨u,l⟩ ⟨a,b,c,d,e⟩;simp only at a b c d e;have p:=tI l.length;have f:=ez b;have q:u<=n:=by
  have:1*u<=pw l.length*u:=amv (by omega) a;omega
 simp only[zc]
 by_cases g:u>0
 ·left;have i:l.length<5:=by omega
  have j:l.length<4:=by
   rcases akV l.length 4 with h|h
   ·exact h
   ·have k:l.length=4:=by omega
    rw[k,pw4]at c;omega
  have m:IntKind.i64.wrap (u % 1048576)=u % 1048576:=mJ (by omega);rw[if_pos (by simpa using g),XT ⟨a,by omega⟩,m,I1 (by simp;omega),alC,agD,alC];refine⟨_,rfl,⟨by simp only;omega,b.append (Dg.mk (by omega) Dg.nil),?_,by simp;omega,by right;simp;omega⟩,by simp only;omega⟩;simp only[me,dv,alh,List.length_cons,List.length_nil,Int.mul_zero,Int.add_zero,alf];have:=Dt l.length u;omega
 grind
theorem ZZ{x:Int}(h : -9223372036854775808<=x∧x<9223372036854775808):vZ x=some (jd x):=by
 have b:(if decide (x<0)=true then some ((-1:Int),IntKind.u64.wrap (0-(IntKind.u64.wrap x))) else some (1,IntKind.u64.wrap x))=some (if x<0 then -1 else 1,((x.natAbs:Nat):Int)):=by
  by_cases a:x<0
  ·rw[if_pos (by simpa using a),if_pos a,XF,XF];congr 2;omega
  ·rw[if_neg (by simpa using a),if_neg a,XF];congr 2;omega
 obtain⟨l,c,d,e,f⟩:=aes (n:=x.natAbs) (by omega);unfold vZ;rw[b,alC];simp only;rw[c,alC,yC];refine zA x (by unfold Fit;omega) d e (fun g =>?_);grind
def ajI{d:Int}{i:Nat}(a:i<=3)(b:0<=d∧d<1048576)(c:i=3->d<=8):Jy .u64 (IntKind.u64.wrap d) (IntKind.i64.wrap (20*(i:Int)))=some (pw i*d):=by
 rw[wu (by omega),mJ (by omega)];unfold Jy;rw[if_neg (by omega)];have e:(2:Int) ^ (min (20*(i:Int)).toNat IntKind.u64.bits)=pw i:=by
  have:∀i:Nat,i<=3->(2:Int) ^ (min (20*(i:Int)).toNat IntKind.u64.bits)=pw i:=by decide
  exact this i a
 rw[e,wu,Int.mul_comm];rcases (show i=0∨i=1∨i=2∨i=3 by omega) with rfl|rfl|rfl|rfl
 ·grind
 ·rw[show pw 1=1048576 by decide];omega
 ·rw[show pw 2=1099511627776 by decide];omega
 ·rw[show pw 3=1152921504606846976 by decide];omega
def ah3{u d:Int}{i:Nat}(c:i<=3)(l:0<=u∧u<pw i)(f:0<=d∧pw i*d<9223372036854775809):nd .or .u64 u (pw i*d)=u+pw i*d:=by
 have m:=tI i;have a:0<=pw i*d:=amu (by omega) f.1;have b:pw i=((2 ^ (20*i):Nat):Int):=by unfold pw;rw[Nat.pow_mul,Int.natCast_pow];rfl
 have g:pw i<=1152921504606846976:=by
  have:=wJ c
  rwa [show pw 3=1152921504606846976 by decide]at this
 unfold nd;simp only;have h:(BitVec.ofInt IntKind.u64.bits u ||| BitVec.ofInt IntKind.u64.bits (pw i*d)).toNat=(u+pw i*d).toNat:=by
  rw[BitVec.toNat_or,BitVec.toNat_ofInt,BitVec.toNat_ofInt];have e:((2 ^ IntKind.u64.bits:Nat):Int)=18446744073709551616:=by decide
  rw[e];have j:(u % 18446744073709551616).toNat=u.toNat:=by omega
  have k:((pw i*d) % 18446744073709551616).toNat=d.toNat <<< (20*i):=by
   rw[Nat.shiftLeft_eq,Int.emod_eq_of_lt a (by omega),b];grind
  rw[j,k,Nat.or_comm,<- Nat.shiftLeft_add_eq_or_of_lt (by omega),Nat.shiftLeft_eq];omega
 rw[h,wu (by omega)];omega
def ags{g:Nat}(h:(bI g).length<=sQ):vl (jd g)=some (decide (g=1)):=by
 have A:sQ=17592186043904:=rfl;have b:(jd (g:Int)).aa=bI g:=rfl;have l:Ln (g:Int)=(bI g).length:=rfl;unfold vl;have f:g=1->(bI g).length<=4:=by
  rintro rfl;exact akk (oh (k:=1) (by decide)) (by decide)
 suffices B:∃r,za (jd g)=some r∧((if r.2=true then some (r.1==1) else some false)=some (decide (g=1))) by
  grind
 unfold za;rw[jC (by rw[l];omega),alC];simp only[alG,akN,if_false,Option.bind_some,b]
 by_cases C:(bI g).length>4
 ·rw[if_pos (by simp;omega)];grind
 rw[if_neg (by simp;omega)];have key:∃r,aT (vY (jd g)) (0,0)=some r∧(match r with | .inl u=>u=(g:Int) | .inr x=>x=(0,false)∧g≠1):=by
  refine dz (I:=fun i s=>s.2=(i:Int)∧s.1=dv ((bI g).take i)) (bI g).length _ ⟨rfl,rfl⟩ (kH (by omega)) ?_;rintro i ⟨u,s⟩ q ⟨j,c⟩;simp only at j c;subst j c;simp only[vY,b];have d:=(fN g).take i;have m:=ez d;have e:=uh d;rw[aky,amc q]at e
  by_cases a:i<(bI g).length
  ·have gd:=(fN g).get a;rw[if_pos (by simpa using a),dL a,alC];have t:(if ((i:Int)==3)=true then some (decide ((bI g)[i]>8)) else some false)=some (decide (i=3∧(bI g)[i]>8)):=by
    by_cases v:i=3
    ·subst v;simp
    grind
   rw[t,alC]
   by_cases p:i=3∧(bI g)[i]>8
   ·right;rw[if_pos (by simpa using p)];refine⟨.inr (0,false),rfl,rfl,?_⟩;rintro rfl;have:=oh (n:=1) (k:=1) (by decide);omega
   ·left;rw[if_neg (by simpa using p),ajI (by omega) gd (by omega),alC];have w:pw i*(bI g)[i]<9223372036854775809:=by
     rcases (show i=0∨i=1∨i=2∨i=3 by omega) with h|h|h|h
     ·have:pw i=1:=by rw[h];decide
      rw[this];omega
     ·have:pw i=1048576:=by rw[h];decide
      rw[this];omega
     ·have:pw i=1099511627776:=by rw[h];decide
      rw[this];omega
     ·have:pw i=1152921504606846976:=by rw[h];decide
      rw[this];omega
    rw[ah3 (by omega) ⟨m,e⟩ ⟨gd.1,w⟩];exact⟨a,_,rfl,by rw[mJ (by omega)];omega,by rw[mf a]⟩
  ·right;have:i=(bI g).length:=by omega
   subst this;exact⟨.inl (dv ((bI g).take (bI g).length)),by simp_all,by rw[amd,da]⟩
 obtain⟨r,j,c⟩:=key;rw[j,alC];cases r with
 | inr x=>simp_all
 | inl u =>
  simp only at c;subst c;have y:(jd (g:Int)).aq=(g:Int).sign:=rfl;have z:¬(g:Int).sign<0:=by simp_all
  simp only[y];rw[if_neg (by simp),alC,if_neg (by simp),if_pos (by simp)]
  by_cases o:(g:Int)<9223372036854775808
  ·rw[if_pos (by simpa using o)];refine⟨_,rfl,?_⟩;simp only[if_true];rw[wrap64 (by omega) o];congr 1;grind
  ·rw[if_neg (by simpa using o)];have:g≠1:=by omega
   simp_all
def cw(q:Rat):ak:=ak.mk (jd q.num) (jd q.den)
def LF(q:Rat):Nat:=max (Ln q.num) (Ln q.den)
theorem uu{p q:Rat}(h:cw p=cw q):p=q:=by
 grind[cw,ak.mk.injEq,aek,Rat.ext]
def okF(f:ak):Bool:=okB f.bX&&okB f.b8&&(f.b8.aq==1)&&decide (Nat.gcd (dv f.bX.aa).toNat (dv f.b8.aa).toNat=1)
def qM{f:ak}:okF f=true↔∃q,f=cw q:=by
 obtain⟨p,q⟩:=f;unfold okF;simp only[akP,beq_iff_eq,decide_eq_true_eq];constructor
 ·rintro⟨⟨⟨e,g⟩,h⟩,d⟩;obtain⟨x,rfl⟩:=Cb.1 e;obtain⟨y,rfl⟩:=Cb.1 g;have i:0<y:=by
   have:y.sign=1:=h;simp_all
  have a:(dv (jd x).aa).toNat=x.natAbs:=by show (dv (bI _)).toNat=_;rw[da];rfl
  have b:(dv (jd y).aa).toNat=y.natAbs:=by show (dv (bI _)).toNat=_;rw[da];rfl
  rw[a,b]at d;refine⟨⟨x,y.natAbs,by omega,d⟩,?_⟩;unfold cw;grind
 ·rintro⟨q,c⟩;unfold cw at c;simp only[ak.mk.injEq]at c;obtain⟨rfl,rfl⟩:=c;have j:=q.den_pos;refine⟨⟨⟨Ue _,Ue _⟩,amx (by omega)⟩,?_⟩;have a:(dv (jd q.num).aa).toNat=q.num.natAbs:=by show (dv (bI _)).toNat=_;rw[da];rfl
  have b:(dv (jd (q.den:Int)).aa).toNat=q.den:=by show (dv (bI _)).toNat=_;rw[da];rfl
  rw[a,b];exact q.reduced
def HE(q:Rat):okF (cw q)=true:=qM.2 ⟨q,rfl⟩
def adx(f:ak):Prop:=f.bX.aa.length<=sQ∧f.b8.aa.length<=sQ
def ady{q:Rat}(h:LF q<=fb):adx (cw q):=by
 unfold LF at h;exact⟨Bm (show Ln q.num<=_ by omega),Bm (show Ln q.den<=_ by omega)⟩
def xB{f:ak}(a:adx f):cV f=some (okF f):=by
 have i:sQ=17592186043904:=rfl;obtain⟨p,q⟩:=f;simp only[adx]at a;unfold cV okF;rw[Ii (show Fit p.aa by unfold Fit;omega),alC]
 by_cases c:okB p=true
 ·simp only[c,alG,akN,if_false,al9];rw[Ii (show Fit q.aa by unfold Fit;omega),alC]
  by_cases d:okB q=true
  ·simp only[d,alG,akN,if_false,al9,Option.bind_some]
   by_cases b:q.aq=1
   ·rw[if_neg (by simp[b])];obtain⟨x,rfl⟩:=Cb.1 c;obtain⟨y,rfl⟩:=Cb.1 d;rw[ZS a.1 a.2,alC];simp only[beq_self_eq_true,if_true];have e:(dv (jd x).aa).toNat=x.natAbs:=by show (dv (bI _)).toNat=_;rw[da];rfl
    have g:(dv (jd y).aa).toNat=y.natAbs:=by show (dv (bI _)).toNat=_;rw[da];rfl
    rw[ags,alC,e,g]
    ·rw[b];rfl
    ·have h:0<y.natAbs:=by
      have:y.sign=1:=b;grind
     have:=gL (Nat.gcd_le_right x.natAbs h);have j:(bI y.natAbs).length<=sQ:=a.2;show (bI (Nat.gcd x.natAbs y.natAbs)).length<=_;omega
   simp_all
  simp_all
 simp_all
def lz{q:Rat}(h:LF q<=fb):cV (cw q)=some true:=by rw[xB (ady h),HE]
theorem MC{p q:Int}(f:Ln p<=fb)(e:Ln q<=fb)(i:q≠0):oX (jd p) (jd q)=some (cw (Rat.divInt p q),0):=by
 have n:fb=4398046511104:=rfl;have d:∀{p q:Int},Ln p<=fb->Ln q<=fb->0<q ->
   ((uc (jd p) (jd q)).bind fun j=>(rX (jd p) j.1).bind fun k=>(rX (jd q) j.1).bind fun l=>some ((ak.mk k.1 l.1),(0:Int)))=some (cw (Rat.divInt p q),0):=by
  intro p q f e i;have o:0<Int.gcd p q:=Int.gcd_pos_of_ne_zero_right _ (by omega);have g:Ln (Int.gcd p q:Int)<=fb:=by
   have:=gL (Nat.gcd_le_right p.natAbs (show 0<q.natAbs by omega));show (bI (Nat.gcd p.natAbs q.natAbs)).length<=_;have r:(bI q.natAbs).length<=fb:=e;omega
  rw[ZS (Bm f) (Bm e),alC];simp only;rw[ZP f g (by omega) (Int.gcd_dvd_left ..),alC,ZP e g (by omega) (Int.gcd_dvd_right ..),alC];have m:((q.natAbs / Int.gcd p q:Nat):Int)=q / (Int.gcd p q:Int):=by
   grind
  unfold cw;rw[Rat.num_divInt,Rat.den_divInt,if_neg (by omega),amx i,Int.one_mul,Int.gcd_comm q p,m]
 unfold oX;rw[jC (by omega),alC];simp only[alG,akN,if_false];rw[jC (by omega),alC,alC];simp only[alG,akN,if_false];have h:(jd q).aq=q.sign:=rfl;rw[h];rcases Ck q with⟨a,b,c⟩|⟨a,b,c⟩|⟨a,b⟩
 ·rw[if_neg (by rw[a];decide),if_neg (by rw[a];decide),alC];exact d f e c
 ·rw[if_neg (by rw[a];decide),if_pos (by rw[a];decide),S9 f,alC,S9 e,alC,alC];have:=d (p := -p) (q := -q) (by rw[MB];exact f) (by rw[MB];exact e) (by omega);rw[Rat.neg_divInt_neg]at this;exact this
 omega
def mQ(q:Rat):Ln q.num<=LF q:=by unfold LF;omega
def oO(q:Rat):Ln q.den<=LF q:=by unfold LF;omega
theorem u7{p q:Int}(a:q≠0):LF (Rat.divInt p q)<=max (Ln p) (Ln q):=by
 have d:0<Int.gcd q p:=Int.gcd_pos_of_ne_zero_left _ a;have e:Ln (Rat.divInt p q).num<=Ln p:=by
  apply Vi;rw[Rat.num_divInt];obtain⟨z,b⟩:(Int.gcd q p:Int)∣q.sign*p:=Int.dvd_mul_of_dvd_right (Int.gcd_dvd_right ..);rw[b,Int.mul_ediv_cancel_left _ (by omega)];have c:(q.sign*p).natAbs=p.natAbs:=by
   grind
  rw[<- c,b,Int.natAbs_mul];exact Nat.le_mul_of_pos_left _ (by omega)
 have c:Ln ((Rat.divInt p q).den:Int)<=Ln q:=by
  apply Vi;rw[Rat.den_divInt,if_neg a];exact Nat.div_le_self _ _
 unfold LF;omega
theorem U9{a b:Rat}(h:LF a+LF b+1<=fb):nk (cw a) (cw b)=some (cw (a+b),0):=by
 have d:=mQ a;have e:=mQ b;have d1:=oO a;have d2:=oO b;have f:=ly a.num b.den;have g:=ly b.num a.den;have i:=ly a.den b.den;have j:=S8 (a.num*b.den) (b.num*a.den);unfold nk;rw[lz (by omega),alC];simp only[alG,akN,if_false];rw[lz (by omega),alC,alC];simp only[alG,akN,if_false];show (cW (jd a.num) (jd b.den)).bind _=_;rw[pE (by omega) (by omega),alC];show (cW (jd b.num) (jd a.den)).bind _=_;rw[pE (by omega) (by omega),alC,afQ (by omega) (by omega),alC];show (cW (jd a.den) (jd b.den)).bind _=_;have c:(a.den:Int)*b.den≠0:=by
  rw[<- amw];have:=Nat.mul_pos a.den_pos b.den_pos;omega
 rw[pE (by omega) (by omega),alC,MC (by omega) (by omega) c,alC];rw[Rat.add_def',<- Rat.divInt_ofNat,amw]
theorem xz(a b:Rat):LF (a+b)<=LF a+LF b+1:=by
 have d:=mQ a;have e:=mQ b;have d1:=oO a;have d2:=oO b;have f:=ly a.num b.den;have g:=ly b.num a.den;have h:=ly a.den b.den;have i:=S8 (a.num*b.den) (b.num*a.den);have c:(a.den:Int)*b.den≠0:=by
  rw[<- amw];have:=Nat.mul_pos a.den_pos b.den_pos;omega
 rw[Rat.add_def',<- Rat.divInt_ofNat,amw];grind[u7]
theorem ZV(a:Rat):LF (-a)=LF a:=by simp_all[LF,Rat.neg_num,Rat.neg_den,MB]
def S7(a b:Rat):LF (a-b)<=LF a+LF b+1:=by
 grind[Rat.sub_eq_add_neg,xz,ZV]
def afa{a b:Rat}(h:LF a+LF b+1<=fb):tl (cw a) (cw b)=some (cw (a-b),0):=by
 unfold tl;rw[lz (by omega),alC];simp only[alG,akN,if_false];rw[lz (by omega),alC,alC];simp only[alG,akN,if_false];show (rY (jd b.num)).bind _=_;have c:=mQ b;rw[S9 (by omega),alC];have e:ak.mk (jd (-b.num)) (cw b).b8=cw (-b):=by unfold cw;simp_all
 rw[e,U9 (by rw[ZV];exact h),alC,Rat.sub_eq_add_neg]
theorem Vj{a b:Rat}(h:LF a+LF b<=fb):oW (cw a) (cw b)=some (cw (a*b),0):=by
 have d:=mQ a;have e:=mQ b;have d1:=oO a;have d2:=oO b;have f:=ly a.num b.num;have g:=ly a.den b.den;unfold oW;rw[lz (by omega),alC];simp only[alG,akN,if_false];rw[lz (by omega),alC,alC];simp only[alG,akN,if_false];show (cW (jd a.num) (jd b.num)).bind _=_;rw[pE (by omega) (by omega),alC];show (cW (jd a.den) (jd b.den)).bind _=_;have c:(a.den:Int)*b.den≠0:=by
  rw[<- amw];have:=Nat.mul_pos a.den_pos b.den_pos;omega
 rw[pE (by omega) (by omega),alC,MC (by omega) (by omega) c,alC];rw[Rat.mul_def',<- Rat.divInt_ofNat,amw]
theorem vU(a b:Rat):LF (a*b)<=LF a+LF b:=by
 have d:=mQ a;have e:=mQ b;have d1:=oO a;have d2:=oO b;have f:=ly a.num b.num;have g:=ly a.den b.den;have c:(a.den:Int)*b.den≠0:=by
  rw[<- amw];have:=Nat.mul_pos a.den_pos b.den_pos;omega
 rw[Rat.mul_def',<- Rat.divInt_ofNat,amw];grind[u7]
theorem F8(a b:Rat):a / b=Rat.divInt (a.num*b.den) (a.den*b.num):=by
 grind[Rat.div_def,Rat.inv_def,Rat.num_divInt_den,Rat.divInt_mul_divInt]
def ahf{a b:Rat}(h:LF a+LF b<=fb)(h0:b≠0):qX (cw a) (cw b)=some (cw (a / b),0):=by
 have i:=mQ a;have j:=mQ b;have d1:=oO a;have d2:=oO b;have k:=ly a.num b.den;have l:=ly a.den b.num;have e:b.num≠0:=fun f=>h0 (Rat.num_eq_zero.1 f);unfold qX;rw[lz (by omega),alC];simp only[alG,akN,if_false];rw[lz (by omega),alC,alC];simp only[alG,akN,if_false];have g:(cw b).bX.aq=b.num.sign:=rfl;have c:b.num.sign≠0:=by grind[Ck]
 rw[g,if_neg (by simpa using c)];show (cW (jd a.num) (jd b.den)).bind _=_;rw[pE (by omega) (by omega),alC];show (cW (jd a.den) (jd b.num)).bind _=_;have d:(a.den:Int)*b.num≠0:=Int.mul_ne_zero (by have:=a.den_pos;omega) e;grind[pE,MC,F8]
def ZU{a b:Rat}(h0:b≠0):LF (a / b)<=LF a+LF b:=by
 have f:=mQ a;have g:=mQ b;have d1:=oO a;have d2:=oO b;have h:=ly a.num b.den;have i:=ly a.den b.num;have d:b.num≠0:=fun e=>h0 (Rat.num_eq_zero.1 e);have c:(a.den:Int)*b.num≠0:=Int.mul_ne_zero (by have:=a.den_pos;omega) d;rw[F8];grind[u7]
def Vd{n:Int}(h : -9223372036854775808<=n∧n<9223372036854775808):gm n=some (cw n):=by
 unfold gm;rw[ZZ h,alC,ZZ (by decide),alC];unfold cw;simp_all
def Ap{n:Int}(h:n.natAbs<1048576):LF (n:Rat)<=1:=by
 grind[LF,Rat.num_intCast,Rat.den_intCast,OA]
def Aq{a:Rat}(h:LF a<=fb):iF (cw a)=some a.num.sign:=by
 unfold iF;rw[lz h,alC];rfl
def X0(a b:Rat):Int:=if a<b then -1 else if b<a then 1 else 0
theorem adP(a b:Rat):mc (a.num*b.den) (b.num*a.den)=X0 a b:=by
 grind[mc,X0,Rat.lt_iff]
def XJ{a b:Rat}(h:LF a+LF b<=fb):kl (cw a) (cw b)=some (X0 a b):=by
 have c:=mQ a;have d:=mQ b;have d1:=oO a;have d2:=oO b;have e:=ly a.num b.den;have f:=ly b.num a.den;unfold kl;rw[lz (by omega),alC];simp only[alG,akN,if_false];rw[lz (by omega),alC,alC];simp only[alG,akN,if_false];show (cW (jd a.num) (jd b.den)).bind _=_;rw[pE (by omega) (by omega),alC];show (cW (jd b.num) (jd a.den)).bind _=_;grind[pE,S5,adP]
instance:DecidableEq aN:=fun a b=>decidable_of_iff (a.aq=b.aq∧a.aa=b.aa) (by cases a;cases b;simp)
instance:DecidableEq ak:=fun a b=>decidable_of_iff (a.bX=b.bX∧a.b8=b.b8) (by cases a;cases b;simp)
def Y2{b c:aN}(d:Fit b.aa)(g:b.aa.length=c.aa.length):∃r,aT (pz b c) 0=some r∧(match r with | .inl _=>b.aa=c.aa | .inr x=>x=false∧b.aa≠c.aa):=by
 refine dz (I:=fun i s=>s=(i:Int)∧b.aa.take i=c.aa.take i) b.aa.length _ ⟨rfl,by simp⟩ (kH d) ?_;unfold Fit at d;rintro i s h ⟨rfl,f⟩;simp only[pz]
 by_cases a:i<b.aa.length
 ·rw[if_pos (by simpa using a),dL a,alC,dL (by omega),alC]
  by_cases e:b.aa[i]=c.aa[i]
  ·left;rw[if_neg (by simpa using e)];refine⟨a,_,rfl,by rw[mJ (by omega)];omega,?_⟩;rw[List.take_add_one,List.take_add_one,f];grind
  ·right;rw[if_pos (by simpa using e)];grind
 ·right;have:i=b.aa.length:=by omega
  subst this;grind
def WZ{b c:aN}(d:Fit b.aa):lS b c=some (decide (b=c)):=by
 have a:b=c↔b.aq=c.aq∧b.aa=c.aa:=by cases b;cases c;simp
 unfold lS
 by_cases e:b.aq=c.aq
 ·rw[if_neg (by simpa using e),alC]
  by_cases f:b.aa.length=c.aa.length
  ·rw[if_neg (by simp;omega)];obtain⟨r,g,h⟩:=Y2 d f;grind
  grind
 simp_all
def aic{f g:ak}(b:Fit f.bX.aa)(c:Fit f.b8.aa):tK f g=some (decide (f=g)):=by
 have a:f=g↔f.bX=g.bX∧f.b8=g.b8:=by cases f;cases g;simp
 unfold tK;rw[WZ b,alC]
 by_cases h:f.bX=g.bX
 ·rw[if_pos (by simpa using h),WZ c,alC];simp[a,h]
 simp_all
theorem afR{x:Int}(h : -9223372036854775808<=x∧x<9223372036854775808):Ln x<=fb:=by
 have:Ln x<=4:=Oz (by rw[pw4];omega);have a:fb=4398046511104:=rfl;omega
def agb(f:ak)(n:Int):wK f n=some (decide ((f.bX.aa.length:Int)<=n∧(f.b8.aa.length:Int)<=n)):=by
 unfold wK;grind
def abH{σ ρ:Type}{a:σ->Option (σ⊕ρ)}{n:Nat}{s b:σ}(h:a s=some (.inl b)):rM a (n+1) s=rM a n b:=by simp only[rM,h]
def Qw{σ ρ:Type}{a:σ->Option (σ⊕ρ)}{n:Nat}{s:σ}{r:ρ}(h:a s=some (.inr r)):rM a (n+1) s=some r:=by simp only[rM,h]
def bc{i:Nat}(h:i<4611686018427387904):IntKind.i64.wrap ((i:Int)+1)=((i+1:Nat):Int):=by grind[wrap64]
theorem aR{α:Type}{l:List α}{i:Nat}{x:α}(h:l[i]? = some x):P.idx l (i:Int)=some x:=Qr (by omega) (by simpa using h)
theorem aS{α:Type}{l:List α}{i:Nat}{x:α}(h:l[i]? = some x):i<l.length:=(akI.1 h).1
def drop_cons{α:Type}{l a:List α}{i:Nat}{x:α}(h:l.drop i=x::a):i<l.length∧l[i]? = some x∧l.drop (i+1)=a:=by
 have b:i<l.length:=by
  rcases akV i l.length with h1|h1
  ·exact h1
  ·rw[alM h1]at h;cases h
 rw[al3 b]at h;grind
def eE{α ρ:Type}(a:Nat->α->Option ρ):Nat->List α->Option ρ
 | _,[]=>none
 | i,x::l=>match a i x with|some r=>some r|none=>eE a (i+1) l
def cN{α ρ:Type}{st:Nat->α->Option ρ}:∀{l:List α}{i:Nat},eE st i l=none↔∀(j:Nat) x,l[j]? = some x->st (i+j) x=none
 | [],i=>by simp[eE]
 | x::l,i=>by
  simp only[eE];constructor
  ·intro h j y a;cases c:st i x with
   | some r=>simp_all
   | none =>
    rw[c]at h;cases j with
    | zero=>simp_all
    | succ j =>
     have:=cN.1 h j y (by simpa using a);grind
  ·intro h;have b:=h 0 x rfl;simp only[Nat.add_zero]at b;rw[b];refine cN.2 fun j y a =>?_;have:=h (j+1) y (by simpa using a);grind
def de{α ρ:Type}{st:Nat->α->Option ρ}{r:ρ}:∀{l:List α}{i:Nat},eE st i l=some r->∃(j:Nat)(x:α),l[j]? = some x∧st (i+j) x=some r∧∀(k:Nat) y,k<j->l[k]? = some y->st (i+k) y=none
 | [],i,h=>by cases h
 | x::l,i,h=>by
  simp only[eE]at h;cases a:st i x with
  | some r' =>
   rw[a]at h;exact⟨0,x,rfl,by simp_all,fun k y b=>by omega⟩
  | none =>
   rw[a]at h;obtain⟨j,y,c,d,e⟩:=de h;refine⟨j+1,y,by simpa using c,by grind,fun k z b f =>?_⟩;cases k with
   | zero=>simp_all
   | succ k =>
    grind
def nA{α ρ:Type}(l:List α){body:Int->Option (Int⊕(Unit⊕ρ))}(b:Nat->α->Option ρ)(e:l.length<4611686018427387904)
  (h:∀(i:Nat) x,l[i]? = some x->body (i:Int)=some (match b i x with|none =>.inl ((i+1:Nat):Int)|some r =>.inr (.inr r))) (j:body (l.length:Int)=some (.inr (.inl ()))) :
  aT body 0=some (match eE b 0 l with|none =>.inl ()|some r =>.inr r):=by
 have key:∀(rest:List α)(i a:Nat),i<=l.length->l.drop i=rest->rest.length<a->rM body a (i:Int)=some (match eE b i rest with|none =>.inl ()|some r =>.inr r):=by
  intro rest
  induction rest with
  | nil =>
   intro i a k g c;obtain⟨f,rfl⟩:∃f,a=f+1:=⟨a-1,by simp at c;omega⟩;have m:l.length<=i:=by
    simp_all
   have:i=l.length:=by omega
   subst this;rw[Qw j];rfl
  | cons x rest n =>
   intro i a k g c;obtain⟨f,rfl⟩:∃f,a=f+1:=⟨a-1,by simp at c;omega⟩;obtain⟨o,p,q⟩:=drop_cons g;have:=h i x p;cases d:b i x with
   | some r =>
    rw[d]at this;rw[Qw this];simp only[eE,d]
   | none =>
    rw[d]at this;rw[abH this,n (i+1) f o q (by simp at c;omega)];simp only[eE,d]
 exact key l 0 FU (akj _) rfl (by have:FU=1000000000000000000000000:=rfl;omega)
def sg{α σ ρ:Type}{body:Int×σ->Option ((Int×σ)⊕ρ)}(l:List α)(d:l.length<=17592186044416)(inv:Nat->σ->Prop)(Q:ρ->Prop){s0:σ}(e:inv 0 s0)
  (a:∀(i:Nat) x s,l[i]? = some x->inv i s->∃b,body ((i:Int),s)=some (.inl (((i+1:Nat):Int),b))∧inv (i+1) b)
  (c:∀s,inv l.length s->∃r,body ((l.length:Int),s)=some (.inr r)∧Q r):∃r,aT body ((0:Int),s0)=some r∧Q r:=by
 refine dz (fun i s=>s.1=(i:Int)∧inv i s.2) l.length Q ⟨rfl,e⟩ (kH d) ?_;rintro i ⟨k,s⟩ g ⟨rfl,f⟩;rcases akV i l.length with h|h
 ·obtain⟨b,j,m⟩:=a i _ s (aku h) f;simp_all
 grind
def dI{α:Type}{N j:Nat}(f:Nat->α)(h:j<N):((List.range N).map f)[j]? = some (f j):=by simp[h]
def zr{α:Type}{N:Nat}(f:Nat->α):((List.range N).map f).length=N:=by simp
def ic{α:Type}{l:List α}{N:Nat}{f:Nat->α}(a:l.length=N)(h:∀j,j<N->l[j]? = some (f j)):l=(List.range N).map f:=by
 apply ame;grind
def gZ{α:Type}{N i:Nat}(f:Nat->α)(v:α):((List.range N).map f).set i v=(List.range N).map fun j=>if j=i then v else f j:=by
 refine ic (by simp) fun j a =>?_;grind
def AU{α β:Type}{mk:β->α}{R:β->Prop}:∀{l:List α},(∀x∈l,∃y,x=mk y∧R y)->∃a:List β,l=a.map mk∧∀y∈a,R y
 | [],_=>⟨[],rfl,fun _ h=>by cases h⟩
 | x::l,h=>by
  obtain⟨y,c,d⟩:=h x (alw ..);obtain⟨a,e,f⟩:=AU (l:=l) fun z b=>h z (alx _ b);refine⟨y::a,by simp_all,fun z b =>?_⟩;grind
def NG{α:Type}{R:α->α->Prop}(g:∀a b c,R a b->R b c->R a c){l:List α}(h:∀(i:Nat) a b,l[i]? = some a->l[i+1]? = some b->R a b):l.Pairwise R:=by
 rw[amh];intro i j k f e;obtain⟨d,rfl⟩:∃d,j=i+1+d:=⟨j-(i+1),by omega⟩;clear e
 induction d with
 | zero=>exact h i _ _ (aku k) (aku f)
 | succ d m=>exact g _ _ _ (m (by omega)) (h (i+1+d) _ _ (aku (by omega)) (aku f))
abbrev Tk:=Nat×Nat×Rat
def vH(t:Tk):cA:=cA.mk (t.1:Int) (t.2.1:Int) (cw t.2.2)
def pK(N:Nat)(tk:List Tk):fW:=fW.mk (N:Int) (tk.map vH)
theorem WD{a b:Tk}(h:vH a=vH b):a=b:=by
 grind[vH,Prod.ext,uu]
def Nq{N M:Nat}{a b:List Tk}(h:pK N a=pK M b):N=M∧a=b:=by
 grind[pK,vH,List.map_inj_right,WD]
def vx:List Tk->Nat->Rat
 | [],_=>0
 | t::l,p=>(if t.1=p then t.2.2 else 0)+vx l p
theorem RQ(a b:List Tk)(p:Nat):vx (a++b) p=vx a p+vx b p:=by
 induction a with
 | nil=>rw[alO,vx,Rat.zero_add]
 | cons t a c=>grind[vx]
def gT(tk:List Tk)(p:Nat):Rat:=1-vx tk p
def Hf{tk:List Tk}{i:Nat}{t:Tk}(h:tk[i]? = some t)(p:Nat):gT (tk.take (i+1)) p=gT (tk.take i) p-(if t.1=p then t.2.2 else 0):=by
 grind[gT,vx,List.getElem?_eq_some_iff,List.take_succ_eq_append_getElem,RQ]
def Mx{tk:List Tk}{K:Nat}(a:∀t∈tk,LF t.2.2<=K)(p:Nat):∀i,i<=tk.length->LF (gT (tk.take i) p)<=1+i*(K+1)
 | 0,_=>by
  have:gT (tk.take 0) p=((1:Int):Rat):=by unfold gT;rw[al4,vx];grind
  rw[this];exact akk (Ap (n:=1) (by decide)) (by omega)
 | i+1,h=>by
  have c:=Mx a p i (by omega);have b:tk[i]? = some tk[i]:=aku (by omega);rw[Hf b];have d:=a _ (akt (show i<tk.length by omega));rw[alP];split
  ·have:=S7 (gT (tk.take i) p) tk[i].2.2;omega
  grind
def Ox{tk:List Tk}{K:Nat}(a:∀t∈tk,LF t.2.2<=K)(p:Nat):LF (gT tk p)<=1+tk.length*(K+1):=by
 have:=Mx a p tk.length (aki _);simp_all
theorem B6{α:Type}{N B:Nat}(z:α)(h:N*B<=140737488355328)(a:N<=2000):Hr B (N:Int) (N:Int) z=some (List.replicate N z):=by
 unfold Hr;have:(2000:Nat)<=maxLen:=by decide
 grind
def ad9:gm 1=some (cw 1):=Vd (n:=1) (by decide)
def QH{N K:Nat}{tk:List Tk}(q:N<=2000)(k:tk.length<=8000)(s:∀t∈tk,t.1<N)(y:K<=1000000)(m:∀t∈tk,LF t.2.2<=K) :
  qq (pK N tk)=some ((List.range N).map fun p=>cw (gT tk p)):=by
 unfold qq pK;simp only;rw[B6 _ (by omega) q,alC];have a:∃r,aT (pg (List.replicate N (ak.mk (aN.mk 0 []) (aN.mk 0 [])))) ((0:Int),List.replicate N (ak.mk (aN.mk 0 []) (aN.mk 0 [])))=some r∧r=(List.range N).map fun p=>cw (gT (tk.take 0) p):=by
  refine sg (List.replicate N (ak.mk (aN.mk 0 []) (aN.mk 0 []))) (by simp;omega) (fun i l=>l.length=N∧∀j,j<i->l[j]? = some (cw 1)) _ ⟨by simp,fun j b=>by omega⟩ ?_ ?_
  ·rintro i x l z ⟨c,d⟩;have u:i<N:=by grind
   have e:l[i]? = some l[i]:=aku (by omega);refine⟨l.set i (cw 1),?_,by simpa using c,fun j b =>?_⟩
   ·simp only[pg];rw[if_pos (by simp;omega),ad9,alC,aR e,alC,bc (by omega),ak8]
   grind
  ·rintro l ⟨c,d⟩;refine⟨l,?_,?_⟩
   ·simp only[pg];simp_all
   ·rw[List.length_replicate]at d;refine ic c fun j b =>?_;rw[d j b,al4];congr 2;unfold gT vx;grind
 obtain⟨r,a,rfl⟩:=a;rw[a,alC];have A:∃r,aT (pj (fW.mk (N:Int) (tk.map vH))) ((0:Int),(List.range N).map fun p=>cw (gT (tk.take 0) p))=some r∧r=(List.range N).map fun p=>cw (gT tk p):=by
  refine sg tk (by omega) (fun i l=>l=(List.range N).map fun p=>cw (gT (tk.take i) p)) _ rfl ?_ ?_
  ·rintro i t _ g rfl;have u:=aS g;have n:=akG g;have h:=s t n;have e:(tk.map vH)[i]? = some (vH t):=by simp_all
   refine⟨_,?_,rfl⟩;simp only[pj];have v:=Mx m t.1 i (by omega);have w:=m t n;have o:i*(K+1)<=8000*1000001:=amC (by omega) (by omega);rw[if_pos (by simp;omega),aR e,alC];simp only[vH];rw[aR (dI _ h),alC,afa (by unfold fb;omega),alC,bc (by omega),ak8,gZ];congr 3;refine congrArg (fun f=>(List.range N).map f) (funext fun p =>?_);rw[Hf g];grind
  ·rintro _ rfl;refine⟨_,?_,rfl⟩;simp only[pj];simp_all
 simp_all
def Wx(a b:Tk):Prop:=a.1<b.1∨(a.1=b.1∧a.2.1<b.2.1)
def YJ(a b c:Tk)(h:Wx a b)(k:Wx b c):Wx a c:=by unfold Wx at *;omega
structure kZ(N:Nat)(tk:List Tk):Prop where
 ports:N<=2000
 takes:tk.length<=8000
 ok:∀t∈tk,t.1<N∧t.2.1<N∧0<t.2.2
 sorted:tk.Pairwise Wx
 leak:∀p,p<N->0<=gT tk p
def mK(a b c:Int):fB a b c=some (decide (b<=a∧a<=c)):=by
 unfold fB;grind
def XX(a b:cA):∃c,qn a b=some c∧(c<0↔(a.db<b.db∨(a.db=b.db∧a.jM<b.jM))):=by
 unfold qn;rw[CA,alC,CA,alC,ae5,alC];refine⟨_,rfl,?_⟩;unfold mc;omega
def so{q:Rat}:q.num.sign<0↔q<0:=by
 rw[Int.sign_neg_iff,<- Rat.not_le,<- Rat.num_nonneg];omega
def acA{q:Rat}:q.num.sign=0↔q=0:=by
 simp_all
def Fo{q:Rat}:0<q.num.sign↔0<q:=by
 constructor
 ·intro h;have b:¬q<0:=fun a=>by have:=so.2 a;omega
  have c:q≠0:=fun a=>by simp_all
  grind
 ·intro h;have b:¬q.num.sign<0:=fun a=>by have:=so.1 a;grind
  have c:q.num.sign≠0:=fun a=>by simp_all
  omega
def rT{q:Rat}{k:Nat}(a:(cw q).bX.aa.length<=k)(b:(cw q).b8.aa.length<=k):LF q<=k:=by
 unfold LF Ln;exact Nat.max_le.2 ⟨a,b⟩
def zh{q:Rat}{k:Nat}(h:LF q<=k):(cw q).bX.aa.length<=k∧(cw q).b8.aa.length<=k:=by
 unfold LF Ln at h;exact Nat.max_le.1 h
def F6{l:List Rat}(g:l.length<=17592186044416)(d:∀q∈l,LF q<=fb):cL (l.map cw)=some (decide (∃q∈l,q<0)):=by
 unfold cL dR;rw[nA l (fun i q=>if q<0 then some (i:Int) else none) (by omega) (fun i q a =>?_) (by simp only[eB];simp_all)]
 ·rw[alC];cases b:eE (fun i (q:Rat)=>if q<0 then some (i:Int) else none) 0 l with
  | none =>
   simp only;rw[alC,decide_eq_false (by decide),decide_eq_false];rintro⟨q,a,hn⟩;obtain⟨j,e⟩:=akB a;have:=cN.1 b j q e;simp_all
  | some r =>
   obtain⟨j,q,f,c,_⟩:=de b
   by_cases hn:q<0
   ·rw[if_pos hn]at c;cases c;simp only;rw[alC,decide_eq_true (by omega),decide_eq_true ⟨q,akG f,hn⟩]
   simp_all
 ·have k:=aS a;simp only[eB,rf];rw[if_pos (by simp;omega),aR (x:=cw q) (by simp_all),alC,Aq (d q (akG a)),alC,alC]
  by_cases hn:q<0
  ·rw[decide_eq_true (so.2 hn),if_pos hn];rfl
  ·rw[decide_eq_false (fun h=>hn (so.1 h)),if_neg hn,bc (by omega)];rfl
def YR(N:Nat)(x:cA):Bool:=decide (0<=x.db∧x.db<=(N:Int)-1)&&decide (0<=x.jM∧x.jM<=(N:Int)-1)&&okF x.fj&&decide (0<x.fj.bX.aq)
def XW(a b:cA):Prop:=a.db<b.db∨(a.db=b.db∧a.jM<b.jM)
instance (a b:cA):Decidable (XW a b):=by unfold XW;infer_instance
def BV(N:Nat)(l:List cA)(i:Nat)(x:cA):Bool:=YR N x&&(decide (i=0)||(match l[i-1]? with|some y=>decide (XW y x)|none=>false))
def Ry{N:Nat}{x:cA}:YR N x=true↔∃t:Tk,x=vH t∧t.1<N∧t.2.1<N∧0<t.2.2:=by
 unfold YR;simp only[akP,decide_eq_true_eq];constructor
 ·rintro⟨⟨⟨c,d⟩,a⟩,b⟩;obtain⟨q,e⟩:=qM.1 a;refine⟨(x.db.toNat,x.jM.toNat,q),?_,by simp only;omega,by simp only;omega,?_⟩
  ·unfold vH;cases x;grind
  ·rw[e]at b;exact Fo.1 b
 ·rintro⟨t,rfl,c,d,a⟩;exact⟨⟨⟨by simp only[vH];omega,by simp only[vH];omega⟩,HE _⟩,Fo.2 a⟩
def Vz{a b:Tk}:XW (vH a) (vH b)↔Wx a b:=by
 grind[XW,Wx,vH]
def aby{n:fW}{N j:Nat}{x:cA}(b:n.aF=(N:Int))(c:n.aZ[j]? = some x)(a:¬BV N n.aZ j x=true):¬ ∃M tk,n=pK M tk∧kZ M tk:=by
 rintro⟨M,tk,rfl,e⟩;apply a;simp only[pK]at c b ⊢;obtain rfl:M=N:=by omega
 rw[akf,akg]at c;obtain⟨t,f,rfl⟩:=c;have g:=akG f;unfold BV;rw[Ry.2 ⟨t,rfl,e.ok t g⟩,al9];cases j with
 | zero=>simp
 | succ j =>
  have d:=aS f;have h:tk[j]? = some tk[j]:=aku (by omega);rw[alQ,akf,h];simp only[Option.map_some];rw[decide_eq_true (Vz.2 ?_),Bool.or_true];have:=amh.1 e.sorted j (j+1) (by omega) d (by omega);simp_all
def abx{n:fW}{N K:Nat}(e:n.aF=(N:Int))(q:n.aZ.length<=8000)(h:∀t∈n.aZ,t.fj.bX.aa.length<=K∧t.fj.b8.aa.length<=K)(c:∀(j:Nat) x,n.aZ[j]? = some x->BV N n.aZ j x=true) :
  ∃tk,n=pK N tk∧(∀t∈tk,t.1<N∧t.2.1<N∧0<t.2.2)∧tk.Pairwise Wx∧(∀t∈tk,LF t.2.2<=K)∧tk.length=n.aZ.length:=by
 obtain⟨tk,d,g⟩:=AU (mk:=vH) (R:=fun t=>t.1<N∧t.2.1<N∧0<t.2.2) (l:=n.aZ) fun x k=>by
  obtain⟨j,m⟩:=akB k;have:=c j x m;unfold BV at this;rw[akP]at this;exact Ry.1 this.1
 have r:n=pK N tk:=by
  unfold pK;rw[<- e,<- d]
 have f:tk.Pairwise Wx:=NG YJ fun i a b o s=>by
  have:=c (i+1) (vH b) (by simp_all);unfold BV at this;rw[akP,alQ,d,akf,o]at this;simpa [Vz] using this.2
 have p:∀t∈tk,LF t.2.2<=K:=fun t u=>by
  have:=h (vH t) (by grind);exact rT this.1 this.2
 grind
def LS{n:fW}{K:Nat}(O:K<=1000000)(P:∀t∈n.aZ,t.fj.bX.aa.length<=K∧t.fj.b8.aa.length<=K) :
  ∃b,qm n=some b∧(b=true↔∃N tk,n=pK N tk∧kZ N tk):=by
 unfold qm;rw[mK,alC]
 by_cases D:0<=n.aF∧n.aF<=2000
 rotate_left
 ·rw[decide_eq_false D];refine⟨false,by simp,?_⟩;simp only[akN,false_iff];rintro⟨N,tk,rfl,h⟩;have:=h.ports;simp only[pK]at D;omega
 rw[decide_eq_true D];simp only[alG,akN,if_false,Option.bind_some]
 by_cases E:(n.aZ.length:Int)>8000
 ·rw[decide_eq_true E];refine⟨false,by simp,?_⟩;simp only[akN,false_iff];rintro⟨N,tk,rfl,h⟩;have:=h.takes;simp only[pK,akJ]at E;omega
 rw[decide_eq_false E];simp only[akN,if_false];obtain⟨N,e⟩:∃N:Nat,n.aF=(N:Int):=⟨n.aF.toNat,by omega⟩;have F:IntKind.i64.wrap (n.aF-1)=(N:Int)-1:=by rw[e,wrap64 (by omega) (by omega)]
 have T:K<=sQ:=akk O (by unfold sQ;omega);have f:=nA n.aZ (body:=pf n) (fun i x=>if BV N n.aZ i x=true then none else some false) (by omega) (fun i x G=>by
  have hi:=aS G;obtain⟨s,u⟩:=P x (akG G);simp only[pf];rw[if_pos (by simp;omega),aR G,alC,mK,alC,F];have g:(if (!decide (0<=x.db∧x.db<=(N:Int)-1))=true then some true
   else (fB x.jM 0 ((N:Int)-1)).bind fun H =>
    if (!H)=true then some true
    else (cV x.fj).bind fun I=>if (!I)=true then some true else (iF x.fj).bind fun J=>some (decide (J<=0)))=some (!YR N x):=by
   unfold YR
   by_cases U:0<=x.db∧x.db<=(N:Int)-1
   rotate_left
   ·grind
   rw[decide_eq_true U,mK,alC]
   by_cases V:0<=x.jM∧x.jM<=(N:Int)-1
   rotate_left
   ·grind
   rw[decide_eq_true V,xB ⟨by omega,by omega⟩,alC];cases k:okF x.fj with
   | false=>simp
   | true =>
    obtain⟨q,k⟩:=qM.1 k;rw[k]at s u ⊢;have l:=rT s u;rw[Aq (by unfold fb;omega),alC];have:(cw q).bX.aq=q.num.sign:=rfl;rw[this]
    by_cases c3:q.num.sign<=0
    ·simp_all
    simp_all
  rw[g,alC];unfold BV;cases W:YR N x with
  | false=>simp
  | true =>
   simp only[alG,akN,if_false,al9];cases i with
   | zero=>rw[if_neg (by simp),bc (by omega)];simp
   | succ i =>
    rw[if_pos (by simp)];have Q:n.aZ[i]? = some n.aZ[i]:=aku (by omega);have X:IntKind.i64.wrap (((i+1:Nat):Int)-1)=(i:Int):=by rw[wrap64 (by omega) (by omega)];omega
    obtain⟨c,L,v⟩:=XX n.aZ[i] x;rw[X,aR Q,alC,L,alC,alQ,Q];simp only[Nat.add_eq_zero_iff,ama,and_false,decide_false,alb]
    by_cases hb:XW n.aZ[i] x
    ·rw[if_neg (by simp;exact v.2 hb),decide_eq_true hb,bc (by omega)];rfl
    ·rw[if_pos (by simp only[decide_eq_true_eq];have:¬c<0:=fun h=>hb (v.1 h);omega),decide_eq_false hb];rfl) (by
  unfold pf;simp_all)
 rw[f,alC];cases w:eE (fun i x=>if BV N n.aZ i x=true then none else some false) 0 n.aZ with
 | some r =>
  obtain⟨j,x,Y,y,_⟩:=de w;simp only[alf]at y;split at y
  ·cases y
  rename_i z;cases y;refine⟨false,rfl,?_⟩;simp only[akN,false_iff];exact aby e Y z
 | none =>
  have A:=cN.1 w;simp only[alf]at A;have m:∀(j:Nat) x,n.aZ[j]? = some x->BV N n.aZ j x=true:=fun j x hj=>by
   simp_all
  obtain⟨tk,Z,d,o,l,aa⟩:=abx e (by omega) P m;have a:tk.length<=8000:=by omega
  have B:N<=2000:=by omega
  simp only;rw[Z,QH B a (fun t ht=>(d t ht).1) O l,alC];have C:((List.range N).map fun p=>cw (gT tk p))=((List.range N).map fun p=>gT tk p).map cw:=by simp_all
  rw[C,F6 (by simp;omega) (fun q k=>by
   obtain⟨p,_,rfl⟩:=akh.1 k;have:=Ox l p;have y:tk.length*(K+1)<=8000*1000001:=amC a (by omega);unfold fb;omega),alC]
  refine⟨_,rfl,?_⟩;simp only[Bool.not_eq_true',decide_eq_false_iff_not];constructor
  ·intro ab;refine⟨N,tk,rfl,⟨B,a,d,o,fun p R =>?_⟩⟩
   by_cases h0:gT tk p<0
   ·simp_all
   ·grind
  ·rintro⟨M,ad,he,hR⟩ ⟨q,k,S⟩;obtain⟨rfl,rfl⟩:=Nq he;obtain⟨p,R,rfl⟩:=akh.1 k;have:=hR.leak p (alH.1 R);grind
def B8:∀(N:Nat)(l:List Nat),l.Nodup->(∀x∈l,x<N)->l.length<=N
 | 0,l,_,h=>by
  cases l with
  | nil=>simp
  | cons x l=>exact absurd (h x (alw ..)) (by omega)
 | N+1,l,a,h=>by
  have b:=B8 N (l.erase N) (a.erase N) fun x c=>by
   grind
  grind
def mn(l:List Nat):List Int:=l.map fun (p:Nat)=>(p:Int)
def ace{l:List Nat}{i p:Nat}(h:l[i]? = some p):(mn l)[i]? = some (p:Int):=by unfold mn;simp_all
def q9(l:List Nat):(mn l).length=l.length:=akJ ..
def nc(tk:List Tk)(p:Nat):List Nat:=(tk.filter fun t=>decide (t.2.1=p)).map fun t=>t.1
def Lg{tk:List Tk}{p q:Nat}:q∈nc tk p↔∃t∈tk,t.1=q∧t.2.1=p:=by
 unfold nc;simp_all
def JT(tk:List Tk)(p:Nat):(nc tk p).length<=tk.length:=by
 unfold nc;grind
def Tl{tk:List Tk}{i:Nat}{t:Tk}(h:tk[i]? = some t)(p:Nat):nc (tk.take (i+1)) p=if t.2.1=p then nc (tk.take i) p++[t.1] else nc (tk.take i) p:=by
 obtain⟨a,b⟩:=akI.1 h;unfold nc;rw[amB a,amD,als,b];grind
structure pX(N:Nat)(tk:List Tk)(r:Nat->Int):Prop where
 ge:∀p,p<N -> -1<=r p
 zero:∀p,p<N->(r p=0↔0<gT tk p)
 down:∀p,p<N->0<r p->∃t∈tk,t.1=p∧r t.2.1=r p-1
 near:∀t∈tk,0<=r t.2.1->0<=r t.1∧r t.1<=r t.2.1+1
 le:∀p,p<N->r p<=2000
structure BF(N:Nat)(tk:List Tk)(r:Nat->Int)(D Q:List Nat)(h m:Int):Prop where
 nodup:(D++Q).Nodup
 lt:∀p∈D++Q,p<N
 rk:∀p,p<N->(0<=r p↔p∈D++Q)
 ge:∀p,p<N -> -1<=r p
 zero:∀p,p<N->(r p=0↔0<gT tk p)
 down:∀p,p<N->0<r p->∃t∈tk,t.1=p∧r t.2.1=r p-1
 near:∀t∈tk,t.2.1∈D->0<=r t.1∧r t.1<=r t.2.1+1
 mono:Q.Pairwise fun a b=>r a<=r b
 top:∀p∈D++Q,r p<=h+1
 low:∀q∈Q,h<=r q
 bnd:∀p,p<N->r p<=m
def ZA(r:Nat->Int)(q:Nat)(v:Int):Nat->Int:=fun x=>if x=q then v else r x
def mI(r:Nat->Int)(q:Nat)(v:Int):ZA r q v q=v:=if_pos rfl
def jR{r:Nat->Int}{q x:Nat}(v:Int)(h:x≠q):ZA r q v x=r x:=if_neg h
def BF.pop{N:Nat}{tk:List Tk}{r:Nat->Int}{D Q:List Nat}{p:Nat}{h m:Int}(a:BF N tk r D (p::Q) h m):BF N tk r D (p::Q) (r p) (m+1)∧0<=r p∧p<N∧r p<=m where
 left:={
  nodup:=a.nodup,lt:=a.lt,rk:=a.rk,ge:=a.ge,zero:=a.zero,down:=a.down,near:=a.near,mono:=a.mono
  top:=fun x b=>by
   have f:=a.top x b;have g:=a.low p (alw ..);omega
  low:=fun q c=>by
   rcases ako.1 c with rfl|c
   ·exact Int.le_refl _
   ·exact (alF.1 a.mono).1 q c
  bnd:=fun x b=>by have:=a.bnd x b;omega }
 right:=by
  have e:p∈D++p::Q:=akw _ (alw ..);have d:=a.lt p e;exact⟨(a.rk p d).2 e,d,a.bnd p d⟩
def BF.push{N:Nat}{tk:List Tk}{r:Nat->Int}{D Q:List Nat}{p q:Nat}{m:Int}(d:BF N tk r D (p::Q) (r p) m)(z:0<=r p)(A:r p+1<=m)(v:q<N)(F:r q = -1)(B:∃t∈tk,t.1=q∧t.2.1=p) :
  BF N tk (ZA r q (r p+1)) D (p::(Q++[q])) (r p) m∧ZA r q (r p+1) p=r p:=by
 have hqn:q∉D++p::Q:=fun h=>by have:=(d.rk q v).2 h;omega
 have i:∀x,x∈D++p::(Q++[q])↔x∈D++p::Q∨x=q:=fun x=>by
  grind
 have f:∀x,x∈D++p::Q->x≠q:=fun x c e=>hqn (e ▸ c);have o:p∈D++p::Q:=akw _ (alw ..);have j:p≠q:=f p o;refine⟨?_,jR _ j⟩;constructor
 ·have:D++p::(Q++[q])=(D++p::Q)++[q]:=by simp
  rw[this,List.nodup_append];refine⟨d.nodup,by simp,fun a k b l =>?_⟩;grind
 ·intro x c;rcases (i x).1 c with h|rfl
  ·exact d.lt x h
  ·exact v
 ·intro x c;rw[i]
  by_cases h:x=q
  ·subst h;rw[mI];omega
  ·rw[jR _ h,d.rk x c];simp_all
 ·intro x c
  by_cases h:x=q
  ·subst h;rw[mI];omega
  ·rw[jR _ h];exact d.ge x c
 ·intro x c
  by_cases h:x=q
  ·subst h;rw[mI];have:=d.zero x c;grind
  ·rw[jR _ h];exact d.zero x c
 ·intro x c w
  by_cases h:x=q
  ·subst h;obtain⟨t,g,n,s⟩:=B;refine⟨t,g,n,?_⟩;rw[s,jR _ j,mI];omega
  ·rw[jR _ h]at w ⊢;obtain⟨t,g,n,s⟩:=d.down x c w;refine⟨t,g,n,?_⟩;rw[jR _ (fun e=>by grind)];exact s
 ·intro t u y;obtain⟨g,n⟩:=d.near t u y;have C:t.2.1≠q:=f _ (akv _ y);have E:t.1≠q:=fun e=>by rw[e]at g;omega
  rw[jR _ C,jR _ E];exact⟨g,n⟩
 ·have g:=d.mono;have:p::(Q++[q])=(p::Q)++[q]:=by simp
  rw[this,List.pairwise_append];refine⟨g.imp_of_mem fun {a b} k l h =>?_,by simp,fun a k b l =>?_⟩
  ·rw[jR _ (f a (akw _ k)),jR _ (f b (akw _ l))];exact h
  ·simp only[ako,List.mem_nil_iff,or_false]at l;subst l;rw[jR _ (f a (akw _ k)),mI];exact d.top a (akw _ k)
 ·intro x c;rcases (i x).1 c with h|rfl
  ·rw[jR _ (f x h)];exact d.top x h
  ·rw[mI];exact Int.le_refl _
 ·intro x c
  by_cases h:x=q
  ·subst h;rw[mI];omega
  ·rw[jR _ h];apply d.low x;simp_all
 ·intro x c
  by_cases h:x=q
  ·subst h;rw[mI];exact A
  ·rw[jR _ h];exact d.bnd x c
def BF.finish{N:Nat}{tk:List Tk}{r:Nat->Int}{D Q:List Nat}{p:Nat}{h m:Int}(hB:BF N tk r D (p::Q) h m)(b:∀q∈nc tk p,0<=r q∧r q<=r p+1):BF N tk r (D++[p]) Q h m:=by
 have e:(D++[p])++Q=D++p::Q:=by simp
 exact {
  nodup:=by rw[e];exact hB.nodup
  lt:=by rw[e];exact hB.lt
  rk:=by rw[e];exact hB.rk
  ge:=hB.ge,zero:=hB.zero,down:=hB.down
  near:=fun t a c=>by
   rcases alv.1 c with h1|h1
   ·exact hB.near t a h1
   ·simp only[ako,List.mem_nil_iff,or_false]at h1;rw[h1];exact b t.1 (Lg.2 ⟨t,a,rfl,h1⟩)
  mono:=(alF.1 hB.mono).2
  top:=by rw[e];exact hB.top
  low:=fun q d=>hB.low q (alx _ d)
  bnd:=hB.bnd }
def BF.acu{N:Nat}{tk:List Tk}{r:Nat->Int}{D:List Nat}{h m:Int}(a:BF N tk r D [] h m)(b:∀t∈tk,t.1<N∧t.2.1<N)(d:m<=2000):pX N tk r where
 ge:=a.ge
 zero:=a.zero
 down:=a.down
 near t h1 h2:=a.near t h1 (by have:=(a.rk t.2.1 (b t h1).2).1 h2;simpa using this)
 le p c:=by have:=a.bnd p c;omega
def acG{α:Type}(a:α)(l:List α):Fs (a::l) 1 ((a::l).length:Int)=some l:=by
 unfold Fs;grind
variable {N:Nat} {tk:List Tk}
def Up{r:Nat->Int}{D Q:List Nat}{p:Nat}{m:Int}(C:BF N tk r D (p::Q) (r p) m)(E:p<N)(F:0<=r p)(P:r p+1<=m)(G:m<=2001)(H:∀t∈tk,t.1<N∧t.2.1<N)(A:tk.length<=8000)(R:N<=2000) :
  ∃a c,aT (mB (p:Int) (mn (nc tk p))) ((0:Int),(List.range N).map r,mn Q)=some ((List.range N).map a,mn c)∧BF N tk a (D++[p]) c (r p) m:=by
 have I:=JT tk p;have key:=fun J K=>sg (body:=mB (p:Int) (mn (nc tk p))) (nc tk p) (by omega) (fun i (s:List Int×List Int)=>∃a c,s=((List.range N).map a,mn c)∧BF N tk a D (p::c) (r p) m∧a p=r p∧∀q∈(nc tk p).take i,0<=a q∧a q<=r p+1)
  (fun x=>∃a c,x=((List.range N).map a,mn c)∧BF N tk a (D++[p]) c (r p) m) (s0:=((List.range N).map r,mn Q)) ⟨r,Q,rfl,C,rfl,fun q j=>by simp at j⟩ J K
 refine (key ?_ ?_).elim fun x ⟨k,a,c,d,n⟩=>⟨a,c,d ▸ k,n⟩
 ·rintro i q _ j ⟨a,c,rfl,b,f,e⟩;have L:=aS j;have o:=akG j;obtain⟨t,u,v,w⟩:=Lg.1 o;have h:q<N:=by grind
  have g:(nc tk p).take (i+1)=(nc tk p).take i++[q]:=by
   rw[amB L,(akI.1 j).2]
  have M:c.length<=N:=by
   have k:=B8 N (D++p::c) b.nodup b.lt;grind
  simp only[mB];rw[if_pos (by rw[q9];simp;omega),aR (ace j),alC,aR (dI a h),alC]
  by_cases y:a q = -1
  ·rw[if_pos (by rw[y];rfl),aR (dI a E),alC,f,I1 (by rw[q9];simp;omega),alC,bc (by omega),ak8,gZ];have O:IntKind.i64.wrap (r p+1)=r p+1:=wrap64 (by omega) (by omega);rw[O];have l:=b;rw[<- f]at l;obtain⟨k,n⟩:=l.push (by omega) (by omega) h y ⟨t,u,v,w⟩;rw[f]at k n;refine⟨_,rfl,ZA a q (r p+1),c++[q],?_,k,n,fun x d =>?_⟩
   ·unfold mn ZA;simp
   ·rw[g]at d;rcases alv.1 d with d|d
    ·have:=e x d
     by_cases z:x=q
     ·grind
     ·rw[jR _ z];exact this
    ·simp only[ako,List.mem_nil_iff,or_false]at d;subst d;rw[mI];omega
  ·rw[if_neg (by simpa using y),bc (by omega)];refine⟨_,rfl,a,c,rfl,b,f,fun x d =>?_⟩;rw[g]at d;rcases alv.1 d with d|d
   ·exact e x d
   ·simp only[ako,List.mem_nil_iff,or_false]at d;subst d;have B:0<=a x:=by have:=b.ge x h;omega
    exact⟨B,b.top x ((b.rk x h).1 B)⟩
 ·rintro _ ⟨a,c,rfl,b,f,e⟩;refine⟨_,?_,a,c,rfl,b.finish fun q j =>?_⟩
  ·simp only[mB];rw[if_neg (by rw[q9];simp)]
  grind
def Uq{r:Nat->Int}{Q:List Nat}(v:BF N tk r [] Q 0 0)(e:∀t∈tk,t.1<N∧t.2.1<N)(f:tk.length<=8000)(w:N<=2000) :
  ∃b,aT (mA ((List.range N).map fun p=>mn (nc tk p))) ((List.range N).map r,mn Q)=some ((List.range N).map b)∧pX N tk b:=by
 have key:=fun y=>dz (body:=mA ((List.range N).map fun p=>mn (nc tk p))) (fun i (s:List Int×List Int)=>∃b D d h,s=((List.range N).map b,mn d)∧D.length=i∧BF N tk b D d h (i:Int)) N
  (fun x=>∃b,x=(List.range N).map b∧pX N tk b) (s:=((List.range N).map r,mn Q)) ⟨r,[],Q,0,rfl,rfl,v⟩ (kH (by omega)) y
 refine (key ?_).elim fun x ⟨g,b,z,j⟩=>⟨b,z ▸ g,j⟩
 ·rintro i _ E ⟨b,D,d,h,rfl,A,c⟩;cases d with
  | nil =>
   refine .inr ⟨_,?_,b,rfl,c.acu e (by omega)⟩;simp only[mA,mn,akZ];grind
  | cons p d =>
   obtain⟨k,m,o,B⟩:=c.pop;have n:i<N:=by
    have g:=B8 N (D++p::d) c.nodup c.lt;grind
   obtain⟨q,u,g,j⟩:=Up k o m (by omega) (by omega) e f w;refine .inl ⟨n,((List.range N).map q,mn u),?_,q,D++[p],u,b p,rfl,by simp[A],by simpa using j⟩;simp only[mA];have C:mn (p::d)=(p:Int)::mn d:=rfl;rw[C,if_pos (by simp),idx_zero' ,alC,acG,alC,aR (dI (fun p=>mn (nc tk p)) o),alC,g,alC]
where
 idx_zero':∀{α:Type}{a:α}{l:List α},P.idx (a::l) 0=some a:=fun {_ a l}=>aR (l:=a::l) (i:=0) rfl
def XV{L:Nat}(a:∀t∈tk,t.1<N∧t.2.1<N)(e:tk.length<=8000) :
  aT (my (pK N tk)) ((0:Int),List.replicate N ([]:List Int))=some ((List.range N).map fun p=>mn (nc tk p)):=by
 unfold pK;have key:=fun g k=>sg (body:=my (fW.mk (N:Int) (tk.map vH))) tk (by omega) (fun i l=>l=(List.range N).map fun p=>mn (nc (tk.take i) p)) (fun l=>l=(List.range N).map fun p=>mn (nc tk p)) (s0:=List.replicate N ([]:List Int))
  (ic (by simp) fun j m=>by rw[List.getElem?_replicate,if_pos m,List.take_zero];rfl) g k
 refine (key ?_ ?_).elim fun x ⟨n,hx⟩=>hx ▸ n
 ·rintro i t _ b rfl;have q:=aS b;have c:=(a t (akG b)).2;have o:(tk.map vH)[i]? = some (vH t):=by simp_all
  have d:=JT (tk.take i) t.2.1;rw[aky]at d;refine⟨_,?_,rfl⟩;simp only[my];rw[if_pos (by simp;omega),aR o,alC];simp only[vH];rw[aR (dI _ c),alC,I1 (by rw[q9];simp;omega),alC,bc (by omega),ak8,gZ];congr 3;refine congrArg (fun f=>(List.range N).map f) (funext fun p =>?_);rw[Tl b]
  by_cases h:p=t.2.1
  ·subst h;rw[if_pos rfl,if_pos rfl];unfold mn;simp
  grind
 ·rintro _ rfl;refine⟨_,?_,rfl⟩;simp only[my];simp_all
def EB(tk:List Tk)(p:Nat):Int:=if 0<gT tk p then 0 else -1
def py(tk:List Tk)(n:Nat):List Nat:=(List.range n).filter fun p=>decide (0<gT tk p)
def R1(tk:List Tk)(n:Nat):py tk (n+1)=if 0<gT tk n then py tk n++[n] else py tk n:=by
 unfold py;rw[amE,amD];grind
def Yu{K:Nat}(l:N<=2000)(a:tk.length<=8000)(m:K<=1000000)(b:∀t∈tk,LF t.2.2<=K) :
  aT (mz ((List.range N).map fun p=>cw (gT tk p))) ((0:Int),List.replicate N (0:Int),([]:List Int))=some ((List.range N).map (EB tk),mn (py tk N)):=by
 have key:=fun b d=>sg (body:=mz ((List.range N).map fun p=>cw (gT tk p))) (List.range N) (by simp;omega) (fun i (s:List Int×List Int)=>s=((List.range N).map (fun p=>if p<i then EB tk p else 0),mn (py tk i))) (fun s=>s=((List.range N).map (EB tk),mn (py tk N))) (s0:=(List.replicate N (0:Int),([]:List Int)))
  (by rw[show py tk 0=[] from rfl];refine Prod.ext ?_ rfl;exact ic (by simp) fun j o=>by simp_all) b d
 refine (key ?_ ?_).elim fun x ⟨e,hx⟩=>hx ▸ e
 ·rintro i x _ hx rfl;have c:i<N:=by grind
  have g:=Ox b i;have q:tk.length*(K+1)<=8000*1000001:=amC a (by omega);have k:(py tk i).length<=i:=by unfold py;grind
  refine⟨_,?_,rfl⟩;simp only[mz];rw[if_pos (by simp;omega),aR (dI (fun p=>cw (gT tk p)) c),alC,aR (dI _ c),alC,Aq (by unfold fb;omega),alC,ak8,gZ,gZ,bc (by omega),R1]
  by_cases hl:0<gT tk i
  ·rw[if_pos (by simpa using Fo.2 hl),aR (dI _ c),alC,I1 (by rw[q9];simp;omega),alC,if_pos hl];refine congrArg some (congrArg Sum.inl (congrArg (Prod.mk _) (Prod.ext ?_ ?_)))
   ·refine congrArg (fun f=>(List.range N).map f) (funext fun p =>?_)
    by_cases h:p=i
    ·subst h;rw[if_pos rfl,if_pos (by omega)];unfold EB;rw[if_pos hl]
    omega
   ·unfold mn;simp
  ·rw[if_neg (by simpa using fun h=>hl (Fo.1 h)),if_neg hl];refine congrArg some (congrArg Sum.inl (congrArg (Prod.mk _) (Prod.ext ?_ rfl)));refine congrArg (fun f=>(List.range N).map f) (funext fun p =>?_)
   by_cases h:p=i
   ·subst h;rw[if_pos rfl,if_pos (by omega)];unfold EB;rw[if_neg hl]
   omega
 ·rintro _ rfl;refine⟨_,?_,rfl⟩;simp only[mz];simp_all
def ad5(N:Nat)(tk:List Tk):BF N tk (EB tk) [] (py tk N) 0 0:=by
 have c:∀p,p∈py tk N↔p<N∧0<gT tk p:=fun p=>by unfold py;simp_all
 have d:∀p,0<gT tk p->EB tk p=0:=fun p h=>if_pos h;have e:∀p,¬0<gT tk p->EB tk p = -1:=fun p h=>if_neg h;constructor
 ·rw[alO];unfold py;exact List.nodup_range.filter _
 ·simp_all
 ·grind
 ·grind
 ·grind
 ·grind
 ·simp_all
 ·refine List.Pairwise.imp_of_mem (R:=fun _ _=>True) (fun {a b} f g _ =>?_) (List.pairwise_of_forall (fun _ _=>trivial));simp_all
 ·simp_all
 ·simp_all
 grind
def acv{K:Nat}(e:kZ N tk)(g:K<=1000000)(h:∀t∈tk,LF t.2.2<=K):∃r,jZ (pK N tk)=some ((List.range N).map r)∧pX N tk r:=by
 have f:=e.ports;have a:=e.takes;have c:∀t∈tk,t.1<N∧t.2.1<N:=fun t d=>⟨(e.ok t d).1,(e.ok t d).2.1⟩;obtain⟨b,i,j⟩:=LS (n:=pK N tk) g (fun t d=>by
  simp only[pK,akh]at d;obtain⟨l,k,rfl⟩:=d;exact zh (h l k))
 obtain rfl:b=true:=j.2 ⟨N,tk,rfl,e⟩;obtain⟨m,k,o⟩:=Uq (ad5 N tk) c a f;refine⟨m,?_,o⟩;unfold jZ;rw[i,alC];simp only[alG,akN,if_false];have p:(pK N tk).aF=(N:Int):=rfl;rw[p,B6 _ (by omega) f,alC,XV (L:=0) c a,alC,B6 _ (by omega) f,alC,QH f a (fun t d=>(c t d).1) g h,alC,Yu f a g h,alC];simp_all
def oD(N:Nat)(r:Nat->Int):List Nat:=(List.range N).filter fun p=>decide (r p = -1)
def UR(n:Nat)(r:Nat->Int):oD (n+1) r=if r n = -1 then oD n r++[n] else oD n r:=by
 unfold oD;rw[amE,amD];grind
def US{r:Nat->Int}(g:N<=2000)(h:jZ (pK N tk)=some ((List.range N).map r)):lN (pK N tk)=some (mn (oD N r)):=by
 unfold lN;rw[h,alC];have key:=fun b c=>sg (body:=j0 ((List.range N).map r)) (List.range N) (by simp;omega) (fun i l=>l=mn (oD i r)) (fun l=>l=mn (oD N r)) (s0:=([]:List Int)) rfl b c;have j:aT (j0 ((List.range N).map r)) ((0:Int),[])=some (mn (oD N r)):=by
  refine (key ?_ ?_).elim fun x ⟨d,hx⟩=>hx ▸ d
  ·rintro i x _ hx rfl;have e:i<N:=by grind
   have f:(oD i r).length<=i:=by unfold oD;grind
   refine⟨_,?_,rfl⟩;simp only[j0];rw[if_pos (by simp;omega),aR (dI r e),alC,bc (by omega),UR]
   by_cases a:r i = -1
   ·rw[if_pos (by rw[a];rfl),I1 (by rw[q9];simp;omega),alC,if_pos a];unfold mn;simp
   simp_all
  ·rintro _ rfl;refine⟨_,?_,rfl⟩;simp only[j0];simp_all
 simp_all
end Go.Proofs.YtobnihfgnbnncaaGreat.P
namespace Go.Proofs.YtobnihfgnbnncaaGreat.P
open Go.RowKit
def sm:Nat->(Nat->Rat)->Rat
 | 0,_=>0
 | n+1,f=>sm n f+f n
def Is{n:Nat}{f g:Nat->Rat}(h:∀i,i<n->f i=g i):sm n f=sm n g:=by
 induction n with
 | zero=>rfl
 | succ n a=>grind[sm]
def acH(n:Nat)(f g:Nat->Rat):sm n (fun i=>f i+g i)=sm n f+sm n g:=by
 induction n with
 | zero=>simp only[sm];grind
 | succ n a=>simp only[sm];rw[a];grind
def acI(n:Nat)(f g:Nat->Rat):sm n (fun i=>f i-g i)=sm n f-sm n g:=by
 induction n with
 | zero=>simp only[sm];grind
 | succ n a=>simp only[sm];rw[a];grind
def Dz{n:Nat}{f:Nat->Rat}(h:∀i,i<n->0<=f i):0<=sm n f:=by
 induction n with
 | zero=>simp only[sm];grind
 | succ n a =>
  grind[sm]
def W5{n:Nat}{f:Nat->Rat}(h:∀i,i<n->0<=f i)(a:sm n f<=0):∀i,i<n->f i=0:=by
 induction n with
 | zero=>intro i b;omega
 | succ n c =>
  have d:=Dz (n:=n) fun i b=>h i (by omega);have e:=h n (by omega);simp only[sm]at a;grind
def aeP(n:Nat):sm n (fun _=>0)=0:=by
 induction n with
 | zero=>rfl
 | succ n a=>simp only[sm];rw[a];grind
def L3{n t:Nat}(v:Rat)(h:t<n):sm n (fun p=>if t=p then v else 0)=v:=by
 induction n with
 | zero=>omega
 | succ n b =>
  simp only[sm]
  by_cases a:t=n
  ·subst a;rw[Is (g:=fun _=>0) fun i c=>if_neg (by omega),aeP,if_pos rfl];grind
  grind
def vG:List Tk->(Nat->Rat)->Nat->Rat
 | [],_,_=>0
 | t::l,x,p=>(if t.2.1=p then t.2.2*x t.1 else 0)+vG l x p
def K3{x y:Nat->Rat}{p:Nat}:∀{l:List Tk},(∀t∈l,t.2.1=p->x t.1=y t.1)->vG l x p=vG l y p
 | [],_=>rfl
 | t::l,h=>by
  simp only[vG];rw[K3 (l:=l) fun t a=>h t (alx _ a)];simp_all
def ad4(l:List Tk)(x y:Nat->Rat)(p:Nat):vG l (fun j=>x j-y j) p=vG l x p-vG l y p:=by
 induction l with
 | nil=>simp only[vG];grind
 | cons t l a=>simp only[vG];grind
def Ng(l:List Tk)(c:Rat)(x:Nat->Rat)(p:Nat):vG l (fun j=>c*x j) p=c*vG l x p:=by
 induction l with
 | nil=>simp only[vG];grind
 | cons t l a=>simp only[vG];grind
theorem yv{x y:Nat->Rat}{p:Nat}:∀{l:List Tk},(∀t∈l,0<=t.2.2)->(∀t∈l,t.2.1=p->x t.1<=y t.1)->vG l x p<=vG l y p
 | [],_,_=>by simp only[vG];grind
 | t::l,h0,h=>by
  simp only[vG];have c:=yv (l:=l) (fun t a=>h0 t (alx _ a)) fun t a=>h t (alx _ a);have a:=h0 t (alw ..)
  by_cases b:t.2.1=p
  ·rw[if_pos b,if_pos b];have:=Rat.mul_le_mul_of_nonneg_left (h t (alw ..) b) a;grind
  grind
def AT{x:Nat->Rat}{p:Nat}{l:List Tk}(a:∀t∈l,0<=t.2.2)(h:∀t∈l,t.2.1=p->0<=x t.1):0<=vG l x p:=by
 have:=yv (x:=fun _=>0) (y:=x) (p:=p) a h;have b:vG l (fun _=>0) p=0:=by
  have:=Ng l 0 (fun _=>0) p;simp_all
 grind
def abD{x:Nat->Rat}{p:Nat}:∀{l:List Tk},(∀t∈l,0<=t.2.2)->(∀t∈l,t.2.1=p->0<=x t.1)->∀t∈l,t.2.1=p->t.2.2*x t.1<=vG l x p
 | [],_,_,t,a,_=>by cases a
 | t::l,h0,h,u,hu,c=>by
  simp only[vG];have d:=AT (x:=x) (p:=p) (l:=l) (fun t a=>h0 t (alx _ a)) fun t a=>h t (alx _ a);rcases ako.1 hu with rfl|hu
  ·grind
  ·have e:=abD (x:=x) (p:=p) (l:=l) (fun t a=>h0 t (alx _ a)) (fun t a=>h t (alx _ a)) u hu c
   by_cases b:t.2.1=p
   ·rw[if_pos b];have:=amF (h0 t (alw ..)) (h t (alw ..) b);grind
   grind
def Wi{N:Nat}(x:Nat->Rat):∀{l:List Tk},(∀t∈l,t.1<N∧t.2.1<N)->sm N (fun p=>vG l x p)=sm N (fun q=>vx l q*x q)
 | [],_=>by simp only[vG,vx];simp_all
 | t::l,h=>by
  simp only[vG,vx];obtain⟨a,b⟩:=h t (alw ..);rw[acH,L3 _ b,Wi x fun t c=>h t (alx _ c)];have:sm N (fun q=>((if t.1=q then t.2.2 else 0)+vx l q)*x q)=sm N (fun q=>(if t.1=q then t.2.2*x t.1 else 0)+vx l q*x q):=Is fun q _=>by
   grind
  rw[this,acH,L3 _ a]
def Ar(x:Rat):Rat:=if 0<=x then x else -x
def DN(x:Rat):0<=Ar x:=by unfold Ar;split<;>grind
theorem Vt(x:Rat):x<=Ar x ∧ -x<=Ar x:=by unfold Ar;split<;>grind
def Te{x y:Rat}(a:x<=y)(b : -x<=y):Ar x<=y:=by unfold Ar;split<;>grind
def XR{x:Rat}(h:Ar x=0):x=0:=by unfold Ar at h;grind
def ad3{l:List Tk}(a:∀t∈l,0<=t.2.2)(x:Nat->Rat)(p:Nat):Ar (vG l x p)<=vG l (fun j=>Ar (x j)) p:=by
 refine Te (yv a fun t _ _=>(Vt _).1) ?_;have b:=Ng l (-1) x p;have c : -vG l x p=vG l (fun j => -1*x j) p:=by rw[b];grind
 grind[yv,Vt]
variable {N:Nat} {tk:List Tk} {r:Nat->Int}
def kZ.pos(a:kZ N tk):∀t∈tk,0<=t.2.2:=fun t b=>by have:=(a.ok t b).2.2;grind
def kZ.rng(a:kZ N tk):∀t∈tk,t.1<N∧t.2.1<N:=fun t b=>⟨(a.ok t b).1,(a.ok t b).2.1⟩
def Bj(b:kZ N tk)(j:pX N tk r)(n:∀p,p<N->0<=r p){y:Nat->Rat}(hy:∀p,p<N->0<=y p)(o:∀p,p<N->y p<=vG tk y p):∀p,p<N->y p=0:=by
 have s:=Wi y b.rng;have c:∀p,p<N->0<=gT tk p*y p:=fun p a=>amF (b.leak p a) (hy p a);have d:∀p,p<N->0<=vG tk y p-y p:=fun p a=>by grind
 have C:sm N (fun p=>gT tk p*y p)=sm N y-sm N (fun q=>vx tk q*y q):=by
  rw[<- acI];exact Is fun p _=>by unfold gT;grind
 have D:sm N (fun p=>vG tk y p-y p)=sm N (fun q=>vx tk q*y q)-sm N y:=by rw[acI,s]
 have E:=Dz c;have F:=Dz d;have G:=W5 c (by grind);have v:=W5 d (by grind);have key:∀(k:Nat) p,p<N->r p=(k:Int)->y p=0:=by
  intro k
  induction k with
  | zero =>
   intro p a l;have H:=(j.zero p a).1 l;grind
  | succ k w =>
   intro p a l;obtain⟨t,g,rfl,z⟩:=j.down p a (by omega);have f:=(b.rng t g).2;have I:=w t.2.1 f (by omega);have e:=v t.2.1 f;have A:=abD (x:=y) (p:=t.2.1) b.pos (fun u B _=>hy _ (b.rng u B).1) t g rfl;have m:=(b.ok t g).2.2;have i:=hy t.1 a;have J:t.2.2*y t.1<=0:=by grind
   have K:=amF (show 0<=t.2.2 by grind) i;rcases Rat.mul_eq_zero.1 (show t.2.2*y t.1=0 by grind) with h|h
   ·grind
   ·exact h
 intro p a;have:=n p a;exact key (r p).toNat p a (by omega)
def XO(N:Nat)(tk:List Tk)(d x:Nat->Rat):Prop:=∀p,p<N->x p=d p+vG tk x p
def UA(a:kZ N tk)(b:pX N tk r)(c:∀p,p<N->0<=r p){d x:Nat->Rat}(e:XO N tk d x)(k:∀p,p<N->0<=d p):∀p,p<N->0<=x p:=by
 intro p f;have:=Bj a b c (y:=fun j=>if 0<=x j then 0 else -x j) (fun j _=>by grind) (fun q g=>by
  have h:0<=vG tk (fun j=>if 0<=x j then 0 else -x j) q:=AT a.pos fun t _ _=>by grind
  try simp only
  split
  ·exact h
  ·have i:=yv (l:=tk) (p:=q) (x:=fun j => -1*x j) (y:=fun j=>if 0<=x j then 0 else -x j) a.pos fun t _ _=>by grind
   rw[Ng]at i;have:=e q g;grind) p f
 grind
def aeQ(b:kZ N tk)(i:pX N tk r)(k:∀p,p<N->0<=r p){d f x a:Nat->Rat}(m:XO N tk d x)(c:XO N tk f a)(S:Nat->Prop)(w:∀t∈tk,S t.1->S t.2.1)(z:∀p,p<N->¬S p->d p=f p) :
  ∀p,p<N->¬S p->x p=a p:=by
 intro p n o
 open Classical in
 have:=Bj b i k (y:=fun j=>if S j then 0 else Ar (x j-a j)) (fun j _=>by
  try simp only
  split
  ·grind
  ·exact DN _) (fun q g=>by
  have s:0<=vG tk (fun j=>if S j then 0 else Ar (x j-a j)) q:=AT b.pos fun t _ _=>by
   try simp only
   split
   ·grind
   ·exact DN _
  try simp only
  split
  ·exact s
  ·rename_i u;have h:=ad3 b.pos (fun j=>x j-a j) q;rw[ad4]at h;have e:x q-a q=vG tk x q-vG tk a q:=by have:=m q g;have:=c q g;grind
   rw[e]
   rwa [K3 (l:=tk) (p:=q) (x:=fun j=>Ar (x j-a j)) (y:=fun j=>if S j then 0 else Ar (x j-a j)) fun t A v=>by
    grind]at h) p n
 try simp only at this
 rw[if_neg o]at this;have:=XR this;grind
end Go.Proofs.YtobnihfgnbnncaaGreat.P
namespace Go.Proofs.YtobnihfgnbnncaaGreat.P
open Go.RowKit
abbrev Tm:=Nat×Rat
def kp(t:Tm):fU:=fU.mk (t.1:Int) (cw t.2)
structure QE where
 D:Rat
 T:List Tm
def mkEq(e:QE):aJ:=aJ.mk (cw e.D) (e.T.map kp)
def eH:List Tm->(Nat->Rat)->Rat
 | [],_=>0
 | t::l,x=>t.2*x t.1+eH l x
theorem uq(a b:List Tm)(x:Nat->Rat):eH (a++b) x=eH a x+eH b x:=by
 induction a with
 | nil=>grind[eH]
 | cons t a c=>grind[eH]
abbrev ke(T:List Tm):Prop:=T.Pairwise fun a b=>a.1<b.1
def pN(T:List Tm)(k:Nat):List Tm:=T.filter fun t=>decide (t.1<k)
def Fk(T:List Tm)(k:Nat):List Tm:=T.filter fun t=>decide (k<t.1)
def gj:List Tm->Nat->Option Rat
 | [],_=>none
 | t::l,k=>if t.1=k then some t.2 else gj l k
theorem Ua{T:List Tm}{k:Nat}{t:Tm}:t∈pN T k↔t∈T∧t.1<k:=by unfold pN;simp_all
theorem Hp{T:List Tm}{k:Nat}{t:Tm}:t∈Fk T k↔t∈T∧k<t.1:=by unfold Fk;simp_all
def T9{T:List Tm}{k:Nat}(h:∀t∈T,k<=t.1):pN T k=[]:=by
 unfold pN;rw[List.filter_eq_nil_iff];grind
def abA{T:List Tm}{k:Nat}(h:∀t∈T,k<t.1):Fk T k=T:=by
 unfold Fk;rw[List.filter_eq_self];grind
def X2{T:List Tm}{k:Nat}(h:∀t∈T,t.1≠k):gj T k=none:=by
 induction T with
 | nil=>rfl
 | cons t T a=>simp_all[gj,if_neg,alw,alx]
def zB{k:Nat}:∀{T:List Tm},ke T->(gj T k=none∧T=pN T k++Fk T k)∨∃c,gj T k=some c∧T=pN T k++(k,c)::Fk T k
 | [],_ =>.inl ⟨rfl,rfl⟩
 | t::T,h=>by
  obtain⟨e,f⟩:=alF.1 h;rcases Nat.lt_trichotomy t.1 k with hk|hk|hk
  ·have a:pN (t::T) k=t::pN T k:=amG (by simpa using hk);have b:Fk (t::T) k=Fk T k:=List.filter_cons_of_neg (by simp;omega);have g:gj (t::T) k=gj T k:=by rw[gj,if_neg (by omega)]
   rw[a,b,g];rcases zB (k:=k) f with⟨i,j⟩|⟨c,i,j⟩
   ·grind
   grind
  ·subst hk;have a:pN (t::T) t.1=[]:=T9 fun u d=>by
    grind
   have b:Fk (t::T) t.1=T:=by
    rw[show Fk (t::T) t.1=Fk T t.1 from List.filter_cons_of_neg (by simp),abA e]
   refine .inr ⟨t.2,by rw[gj,if_pos rfl],?_⟩;rw[a,b];rfl
  ·have a:pN (t::T) k=[]:=T9 fun u d=>by
    grind
   have b:Fk (t::T) k=t::T:=abA fun u d=>by
    grind
   refine .inl ⟨X2 fun u d =>?_,by rw[a,b];rfl⟩;grind
def n5(T:List Tm)(k:Nat):List Tm:=pN T k++Fk T k
def Ni(T:List Tm)(k:Nat)(a:Rat):List Tm:=pN T k++(k,a)::Fk T k
def FH(T:List Tm)(k:Nat)(v:Rat):List Tm:=Ni T k ((gj T k).getD 0+v)
def ko{T:List Tm}{k:Nat}{t:Tm}:t∈n5 T k↔t∈T∧t.1≠k:=by
 unfold n5;rw[alv,Ua,Hp];grind
def No{T:List Tm}{k:Nat}{a:Rat}{t:Tm}:t∈Ni T k a↔t=(k,a)∨t∈n5 T k:=by
 unfold Ni n5;grind
def Iu{T:List Tm}(h:ke T)(k:Nat):ke (n5 T k):=by
 unfold n5;rw[ke,List.pairwise_append];refine⟨h.filter _,h.filter _,fun a c b d =>?_⟩;grind[Ua,Hp]
def acM{T:List Tm}(h:ke T)(k:Nat)(a:Rat):ke (Ni T k a):=by
 unfold Ni;rw[ke,List.pairwise_append,alF];refine⟨h.filter _,⟨fun b c=>(Hp.1 c).2,h.filter _⟩,fun x d b c =>?_⟩;grind[Ua,Hp]
theorem zm{T:List Tm}(h:ke T)(k:Nat)(x:Nat->Rat):eH T x=eH (n5 T k) x+(gj T k).getD 0*x k:=by
 rcases zB (k:=k) h with⟨a,b⟩|⟨c,a,b⟩
 ·rw[a];unfold n5;grind
 ·have e:eH T x=eH (pN T k++(k,c)::Fk T k) x:=by rw[<- b]
  rw[e,a];unfold n5;rw[uq,uq];simp only[eH,Option.getD_some];grind
theorem aed{T:List Tm}(k:Nat)(a:Rat)(x:Nat->Rat):eH (Ni T k a) x=eH (n5 T k) x+a*x k:=by
 grind[Ni,n5,eH,uq]
def aeb{T:List Tm}(h:ke T)(k:Nat)(v:Rat)(x:Nat->Rat):eH (FH T k v) x=eH T x+v*x k:=by
 grind[FH,aed,zm]
def qT{T:List Tm}{k:Nat}{c:Rat}(h:gj T k=some c):(k,c)∈T:=by
 induction T with
 | nil=>cases h
 | cons t T a =>
  rw[gj]at h;grind
def K9{x y:Nat->Rat}:∀{T:List Tm},(∀t∈T,x t.1=y t.1)->eH T x=eH T y
 | [],_=>rfl
 | t::T,h=>by rw[eH,eH,h t (alw ..),K9 fun u a=>h u (alx _ a)]
def wF{x:Nat->Rat}:∀{T:List Tm},(∀t∈T,0<=t.2)->(∀t∈T,0<=x t.1)->0<=eH T x
 | [],_,_=>by simp only[eH];grind
 | t::T,h,hx=>by
  have b:=amF (h t (alw ..)) (hx t (alw ..));have c:=wF (T:=T) (fun u a=>h u (alx _ a)) fun u a=>hx u (alx _ a);simp only[eH];grind
def aec(T:List Tm)(c:Rat)(x:Nat->Rat):eH (T.map fun t=>(t.1,t.2 / c)) x=eH T x / c:=by
 induction T with
 | nil=>grind[eH]
 | cons t T a=>grind[eH]
structure Vp(N K:Nat)(T:List Tm):Prop where
 sorted:ke T
 lt:∀t∈T,t.1<N
 sz:∀t∈T,LF t.2<=K
def Vp.len{N K:Nat}{T:List Tm}(h:Vp N K T):T.length<=N:=by
 have a:=B8 N (T.map (·.1)) (by
  rw[List.Nodup,amg];exact h.sorted.imp fun h=>by omega) (fun x b=>by
  obtain⟨t,c,rfl⟩:=akh.1 b;exact h.lt t c)
 simpa using a
def Vp.rem{N K:Nat}{T:List Tm}(h:Vp N K T)(k:Nat):Vp N K (n5 T k):=⟨Iu h.sorted k,fun t a=>h.lt t (ko.1 a).1,fun t a=>h.sz t (ko.1 a).1⟩
def Vp.mono{N K a:Nat}{T:List Tm}(h:Vp N K T)(b:K<=a):Vp N a T:=⟨h.sorted,h.lt,fun t c=>akk (h.sz t c) b⟩
def ais(x:Int):Ba .u64 x 1=some (x / 2):=by
 unfold Ba;rw[if_neg (by decide)];have e:(2:Int) ^ (min (Int.toNat 1) IntKind.u64.bits)=2:=by decide
 grind
def afD{k:Nat}:∀{T:List Tm},ke T->∀(i:Nat) t,T[i]? = some t->(t.1<k↔i<(pN T k).length)
 | [],_,i,t,h=>by simp at h
 | a::T,hs,i,t,h=>by
  obtain⟨e,c⟩:=alF.1 hs
  by_cases d:a.1<k
  ·have b:pN (a::T) k=a::pN T k:=amG (by simpa using d);rw[b,akY];cases i with
   | zero=>simp_all
   | succ i =>
    have:=afD (k:=k) c i t (by simpa using h);omega
  ·have b:pN (a::T) k=[]:=T9 fun u f=>by
    grind
   grind
def GH(t:Tm)(k:Nat):ej (kp t) (k:Int)=some (mc (t.1:Int) (k:Int)):=by
 unfold ej;rw[CA];rfl
def Pf{a b:Int}:mc a b<0↔a<b:=by unfold mc;omega
def Kd{a b:Int}:mc a b=0↔a=b:=by unfold mc;omega
theorem To{T:List Tm}(n:ke T)(y:T.length<=2000)(k:Nat) :
  bE (T.map kp) (k:Int)=some (((pN T k).length:Int),(gj T k).isSome):=by
 have f:(pN T k).length<=T.length:=amH ..;have key:=fun g=>B0 (body:=cm (T.map kp) (k:Int)) (I:=fun (s:Int×Int)=>∃b a:Nat,s=((b:Int),(a:Int))∧b<=(pN T k).length∧(pN T k).length<=a∧a<=T.length) (μ:=fun (s:Int×Int)=>(s.2-s.1).toNat)
  (fun r=>r=((pN T k).length:Int)) (s:=(0,((T.map kp).length:Int))) ⟨0,T.length,by simp,by omega,f,aki _⟩ (by simp only[akJ];unfold FU;omega) g
 obtain⟨r,i,rfl⟩:=key (by
  rintro _ ⟨b,a,rfl,i,o,p⟩;simp only[cm]
  by_cases q:b<a
  ·have j:(b+a) / 2<T.length:=by omega
   have e:(T.map kp)[(b+a) / 2]? = some (kp T[(b+a) / 2]):=by simp_all
   have d:=afD (k:=k) n ((b+a) / 2) _ (aku j);have t:IntKind.i64.wrap ((b:Int)+a)=(b:Int)+a:=wrap64 (by omega) (by omega);have u:IntKind.u64.wrap ((b:Int)+a)=(b:Int)+a:=wu (by omega);have v:IntKind.i64.wrap (((b:Int)+a) / 2)=(((b+a) / 2:Nat):Int):=by rw[wrap64 (by omega) (by omega)];omega
   rw[if_pos (by simpa using q),t,u,ais,alC,v,aR e,alC,GH,alC];refine .inl ?_
   by_cases w:T[(b+a) / 2].1<k
   ·rw[if_pos (by simp only[decide_eq_true_eq];exact Pf.2 (by omega)),bc (by omega)];refine⟨_,rfl,⟨(b+a) / 2+1,a,rfl,by omega,o,p⟩,?_⟩;simp only;omega
   ·rw[if_neg (by simp only[decide_eq_true_eq];intro h;exact w (by have:=Pf.1 h;omega))];refine⟨_,rfl,⟨b,(b+a) / 2,rfl,i,by omega,by omega⟩,?_⟩;simp only;omega
  grind)
 unfold bE;rw[i,alC];rcases zB (k:=k) n with⟨l,x⟩|⟨c,l,x⟩
 ·rw[l]
  by_cases d:(pN T k).length<T.length
  ·have e:(T.map kp)[(pN T k).length]? = some (kp T[(pN T k).length]):=by grind
   rw[if_pos (by simpa using d),aR e,alC,GH,alC];have hne:T[(pN T k).length].1≠k:=by
    have j:T[(pN T k).length]∈pN T k++Fk T k:=by grind
    rcases alv.1 j with h|h
    ·grind
    ·have:=(Hp.1 h).2;omega
   have:mc (T[(pN T k).length].1:Int) (k:Int)≠0:=fun h=>hne (by have:=Kd.1 h;omega);simp[this]
  grind
 ·rw[l];have m:T[(pN T k).length]? = some (k,c):=by
   grind
  have d:=aS m;have e:(T.map kp)[(pN T k).length]? = some (kp (k,c)):=by grind
  rw[if_pos (by simpa using d),aR e,alC,GH,alC];have:mc ((k,c).1:Int) (k:Int)=0:=Kd.2 rfl;rw[this];rfl
def find_eq{e:QE}(a:ke e.T)(b:e.T.length<=2000)(k:Nat):dx (mkEq e) (k:Int)=some (mkEq e,((pN e.T k).length:Int),(gj e.T k).isSome):=by
 grind[dx,mkEq,To]
def H7{a x y:Rat}(h:LF a+(LF x+LF y)+1<=fb):jK (cw a) (cw x) (cw y)=some (cw (a+x*y)):=by
 grind[jK,vU,Vj,U9]
def agf:gm 0=some (cw 0):=Vd (n:=0) (by decide)
def My:LF 1<=1:=Ap (n:=1) (by decide)
def ZW:LF 0<=1:=Ap (n:=0) (by decide)
def ahq(e:QE)(k:Nat)(v:Rat):QE:=⟨e.D,FH e.T k v⟩
end Go.Proofs.YtobnihfgnbnncaaGreat.P
