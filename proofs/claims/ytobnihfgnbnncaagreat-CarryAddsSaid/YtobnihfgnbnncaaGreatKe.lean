import Derived.Test.YtobnihfgnbnncaaGreatKd
set_option linter.unusedSimpArgs false
set_option linter.unusedVariables false
set_option linter.defProp false
noncomputable section
open Go.Proofs.Tryz
namespace Go.Proofs.YtobnihfgnbnncaaGreat.Am
open Go.RowKit Go.Proofs.YtobnihfgnbnncaaGreat.P
set_option maxRecDepth 100000
set_option maxHeartbeats 4000000
def abu {h:Nat->Option Row} {y v:Nat} {n a:Int} {x:D} : eM tab ⟨.map 116 41,1,8,[.map none],false⟩ h (.mp y v) (.agg [.int .i64 n,.int .i64 a]) x=muE true h y v (n,some a) (zy h x):=afF Uy rfl
def abp {a e d:Nat} (b:a<900000):abr tab (some ⟨.map 116 41,1,8,[.map none],false⟩) a e d=some ⟨.mp d e,[(d,some ⟨e,a,[.mpc [] []],false,true,true⟩)]⟩:=ady Uy b
def VU {m:List ((Int×Int)×ak)} {n a:Int} : tU (.agg [.int .i64 0,.sl false false 0 [],.int .i64 0,.sl false false 0 []]) (fE m) (ig (bU ah) m) (n,some a)=.agg [.int .i64 (((gB (ak.mk (aL.mk 0 ([])) (aL.mk 0 ([]))) m (n,a)).bQ).aq),.sl false false (((gB (ak.mk (aL.mk 0 ([])) (aL.mk 0 ([]))) m (n,a)).bQ).aa).length (al (eI .i64) (((gB (ak.mk (aL.mk 0 ([])) (aL.mk 0 ([]))) m (n,a)).bQ).aa)),.int .i64 (((gB (ak.mk (aL.mk 0 ([])) (aL.mk 0 ([]))) m (n,a)).bX).aq),.sl false false (((gB (ak.mk (aL.mk 0 ([])) (aL.mk 0 ([]))) m (n,a)).bX).aa).length (al (eI .i64) (((gB (ak.mk (aL.mk 0 ([])) (aL.mk 0 ([]))) m (n,a)).bX).aa))]:=KC (A:=(bU ah)) (ak.mk (aL.mk 0 ([])) (aL.mk 0 ([]))) (n,a) m
def W0 {m:List ((Int×Int)×ak)} {n a:Int} {d:Int} {b:(List Int)} {e:Int} {c:(List Int)} : D.mpc (AJ (fE m) (n,some a)) (ED (fE m) (ig (bU ah) m) (n,some a) (.agg [.int .i64 d,.sl false false b.length (al (eI .i64) b),.int .i64 e,.sl false false c.length (al (eI .i64) c)]))=.mpc (fE (tf m (n,a) (ak.mk (aL.mk d b) (aL.mk e c)))) (ig (bU ah) (tf m (n,a) (ak.mk (aL.mk d b) (aL.mk e c)))):=by
 rw[<- Rk (n,a) (ak.mk (aL.mk d b) (aL.mk e c)) m,<- Rm (n,a) (ak.mk (aL.mk d b) (aL.mk e c)) m];rfl
def abk {e d:Nat} (a:d<1000000):mkA ⟨.struct [(3,0),(64,1)],2,32,[.int .i64 0,.slice none 0 0],false⟩ 66 e d 118 6 1=some ⟨.ptr d e 0,[(d,some ⟨e,66,[.nr 118 6 (4*e+2) [.int .i64 0,.nx 0 []]],false,false,true⟩)]⟩:=by
 unfold mkA;rw[if_pos ⟨by decide,rfl,rfl,by rw[du];exact a,rfl⟩];rfl
def vmm:=ai @abg<|ai @abu<|ai @abp<|ai @VU<|ai @W0<|@vi
def w:=ai @v<|ai @vmt<|ai @vme<|ai @vml<|ai @vab<|ai @vn<|ai @abk<|@vmm
def bK:=ai @vme<|ai @ak6<|ai @akV<|ai @ako<|ai @ak7<|@akD
def gq (l:Option (D×Row)) (d:List D):=eu (dS (j0 (eI .i64))) (fun x:(List Int)=>fD x) (fun r:(List Int) =>.clean (.sl false false r.length (al (eI .i64) r))) l d
def sh0 {β:Type} {F:(List Int)->Option β} {R:β->RK} (a:(List Int)):eu (dS (j0 (eI .i64))) F R none [.sl false false a.length (al (eI .i64) a)]=(F (a)).map fun r=>(R r,none):=cD _ _ _ (a)
def qO:cn prog 155 gq:=cn.jx (mode := .clean) tok bV.none mixed func155 (by kernel_rfl) (fun _ _=>rfl) (fun _=>by kernel_rfl) fun i r a=>by
 replace a:fD i=some r:=a;apply aK rfl ntmps155 results155;simp only[jy];unfold fD at a;simp only[w,seval];obtain⟨v,j,a⟩:=ae a;refine aA (fun s t H e=>match s with|f=>t 0=sI i∧t 3=sN f) (fun o x t H e=>match o with|b=>x=.exit 0∧t 0=sI i∧t 3=sN b) j ?_ ?_ ?_
 ·refine⟨?_,?_⟩;all_goals (rfl)
 ·rintro f t H e d c a;simp only[qA]at a;simp only[w,seval,d];apply sp ik a<;>intro _ a
  ·obtain⟨A,k,a⟩:=ae a;have g:=bk (eI .i64) k;simp only[bK]at g;simp only[w,seval,d,g];apply sp ax a<;>intro _ a
   ·cases a;simp only[w,seval,d];apply iU;and_intros<;>first|rfl|(simp only[w,seval,d]<;>rfl)
   ·cases a;simp only[w,seval];apply j8;refine⟨rfl,⟨?_,?_⟩⟩;all_goals ((simp only[w,seval,d]<;>rfl))
  ·cases a;simp only[w,seval];apply j8;refine⟨rfl,⟨?_,?_⟩⟩;all_goals ((simp only[w,seval,d]<;>rfl))
 ·rintro x t H e u;obtain⟨b,rfl⟩:∃z,z=v:=⟨_,rfl⟩;dsimp only at u a;obtain⟨rfl,l⟩:=u;obtain⟨B,m,a⟩:=ae a;obtain⟨n,y,p,q,h⟩:=TZ (eI .i64) m;simp only[bK]at h;cases a;simp only[w,seval,l,n,p,q,h]
def vo:=mkE 3 (eI .i64) (as0) (fun (l:(List Int)) (x:Unit)=>fD l)
def Na (b a:List D) (c:(List Int)):vo (some (.buf 0 0 1 b.length c.length,⟨0,3,b++(al (eI .i64) c++a),false,true,false⟩)) []=(fD c).map fun r=>(.fresh 3 1 r.length (al (eI .i64) r),none):=abl _ _ _ _ b a c ()
def ML (b a:List D) (i:(List Int)) (r:(List Int)) (d:fD i=some r):kD (.fresh 3 1) tab bn FU Tryz.f155 (some (.buf 0 0 1 b.length i.length,⟨0,3,b++(al (eI .i64) i++a),false,true,false⟩)) []=some (.fresh 3 1 r.length (al (eI .i64) r),none):=by
 apply Ij rfl ntmps155 results155;unfold fD at d;simp only[w,seval];obtain⟨F,q,d⟩:=ae d;refine aA (fun s t H e=>match s with|k=>∃f:Nat,t 0=.buf 0 f 1 b.length (i).length∧t 3=sN k∧H 0=rW f 3 (b++(al (eI .i64) i++a))) (fun o x t H e=>match o with|h=>x=.exit 0∧∃g:Nat,t 0=.buf 0 g 1 b.length (i).length∧t 3=sN h∧H 0=rW g 3 (b++(al (eI .i64) i++a))) q ?_ ?_ ?_
 ·refine⟨0,?_,?_,?_⟩;all_goals (rfl)
 ·rintro k t H e ⟨f,j⟩ c d;simp only[qA]at d;simp only[w,seval,j];apply sp ik d<;>intro _ d
  ·obtain⟨I,u,d⟩:=ae d;have l:=PU (pre:=b) (post:=a) (eI .i64) u;simp only[bK]at l;simp only[w,seval,j,l];apply sp ax d<;>intro _ d
   ·cases d;simp only[w,seval,j];apply iU;refine⟨f,?_⟩;and_intros<;>first|rfl|(simp only[w,seval,j]<;>rfl)
   ·cases d;simp only[w,seval];apply j8;refine⟨rfl,⟨f,?_,?_,?_⟩⟩;all_goals ((simp only[w,seval,j]<;>rfl))
  ·cases d;simp only[w,seval];apply j8;refine⟨rfl,⟨f,?_,?_,?_⟩⟩;all_goals ((simp only[w,seval,j]<;>rfl))
 ·rintro x t H e E;obtain⟨h,rfl⟩:∃z,z=F:=⟨_,rfl⟩;dsimp only at E d;obtain⟨rfl,⟨g,v⟩⟩:=E;obtain⟨J,m,d⟩:=ae d;obtain⟨y,G,A,B,C⟩:=TZ (eI .i64) m;simp only[bK]at C;obtain⟨n,p⟩:=adY (pre:=b) (post:=a) (eI .i64) m;simp only[bK]at n p;cases d;simp only[w,seval,v,y,A,n,p,B]
def IP:cn prog 155 vo:=cn.agS tok bV.none mixed func155 (by kernel_rfl) ⟨by kernel_rfl,by kernel_rfl⟩ (fun _=>akW (by kernel_rfl)) (fun b a l x r h=>ML b a l r h)
def cH (l:Option (D×Row)) (d:List D):=eu (gh (aI .i64) (dS (j0 (eI .i64)))) (fun x:Int×(List Int)=>ec x.1 x.2) (fun r:aL =>.clean (.agg [.int .i64 r.aq,.sl false false r.aa.length (al (eI .i64) r.aa)])) l d
def Y0 {β:Type} {F:Int×(List Int)->Option β} {R:β->RK} (b:Int) (a:(List Int)):eu (gh (aI .i64) (dS (j0 (eI .i64)))) F R none [.int .i64 b,.sl false false a.length (al (eI .i64) a)]=(F (b,a)).map fun r=>(R r,none):=cD _ _ _ (b,a)
def vQ:Env:=(Am.ext bn 155 false gq)
def ID:bV prog vQ:=(bV.none.add qO false)
def wD:=ai @w<|ai @sh0<|ai @gq.eq_1<|@vQ.eq_1
def kK:cn prog 113 cH:=cn.jx (mode := .clean) tok ID mixed func113 (by kernel_rfl) (fun _ _=>rfl) (fun _=>by kernel_rfl) fun⟨c,d⟩ r a=>by
 replace a:ec c d=some r:=a;apply aK rfl ntmps113 results113;simp only[jy];unfold ec at a;obtain⟨e,b,a⟩:=ae a;simp only[wD,seval,b];apply sp ax a<;>intro _ a
 ·cases a;simp only[wD,seval]
 ·cases a;simp only[wD,seval]
def so (l:Option (D×Row)) (d:List D):=eu (dS (aI .i64)) (fun x:Int=>vE x) (fun r:aL =>.clean (.agg [.int .i64 r.aq,.sl false false r.aa.length (al (eI .i64) r.aa)])) l d
def Lk {β:Type} {F:Int->Option β} {R:β->RK} (a:Int):eu (dS (aI .i64)) F R none [.int .i64 a]=(F (a)).map fun r=>(R r,none):=cD _ _ _ (a)
def Gi:Env:=(Am.ext bn 113 false cH)
def XK:bV prog Gi:=(bV.none.add kK false)
def kE:=ai @w<|ai @Y0<|ai @cH.eq_1<|@Gi.eq_1
def KX:cn prog 61 so:=cn.jx (mode := .clean) tok XK mixed func61 (by kernel_rfl) (fun _ _=>rfl) (fun _=>by kernel_rfl) fun I r a=>by
 replace a:vE I=some r:=a;apply aK rfl ntmps61 results61;simp only[jy];unfold vE at a;simp only[kE,seval,-Int.reduceToNat];obtain⟨J,A,a⟩:=ae a;refine qV 0 (fun s t H e=>match s with|(b,k)=>∃d:Nat,t 2=.ptr 2 d 0∧t 3=sN b∧t 4=.int .u64 k∧H 2=rV d 39 [sN 0,.sl true true 0 []]) (fun s=>s=J) ?_ ?_
 ·rintro⟨b,k⟩ t H e ⟨d,B⟩ rfl;try dsimp only at a
  simp only[kE,seval,-Int.reduceToNat];obtain⟨K,C,a⟩:=ae a;refine aA (fun s t H e=>match s with|(n,m)=>∃f:Nat,∃j:Nat,t 2=.ptr 2 f 0∧t 3=sN b∧t 4=.int .u64 n∧t 5=.buf 5 j 1 0 (m).length∧H 2=rV f 39 [sN 0,.sl true true 0 []]∧H 5=rW j 3 (al (eI .i64) m)) (fun o x t H e=>match o with|g=>x=.exit 0∧∃h:Nat,∃i:Nat,t 2=.ptr 2 h 0∧t 3=sN b∧t 5=.buf 5 i 1 0 (g).length∧H 2=rV h 39 [sN 0,.sl true true 0 []]∧H 5=rW i 3 (al (eI .i64) g)) C ?_ ?_ ?_
  ·refine⟨d,e,?_⟩;and_intros<;>first|rfl|(simp only[kE,seval,-Int.reduceToNat,B]<;>rfl)
  ·rintro⟨n,m⟩ t H e ⟨f,j,y⟩ c a;simp only[yQ]at a;simp only[kE,seval,-Int.reduceToNat,y];apply sp ax a<;>intro _ a
   ·obtain⟨N,D,a⟩:=ae a;obtain⟨p,l,q,u⟩:=jJ (eI .i64) D;simp only[bK]at l;obtain⟨L,v,a⟩:=ae a;have E:=wx v;cases a;simp only[kE,seval,-Int.reduceToNat,y,p,l,q,u,E];apply iU;refine⟨f,e+1,?_⟩;and_intros<;>first|rfl|(simp only[kE,seval,-Int.reduceToNat,y]<;>rfl)
   ·cases a;simp only[kE,seval,-Int.reduceToNat];apply j8;refine⟨rfl,⟨f,j,?_,?_,?_,?_,?_⟩⟩;all_goals ((simp only[kE,seval,-Int.reduceToNat,y]<;>rfl))
  ·rintro x t H e G;obtain⟨g,rfl⟩:∃z,z=K:=⟨_,rfl⟩;dsimp only at G a;obtain⟨rfl,⟨h,i,F⟩⟩:=G;obtain⟨M,w,a⟩:=ae a;cases a;simp only[kE,seval,-Int.reduceToNat,F,w]
 ·clear a;have a:=A;simp only[kE,seval,-Int.reduceToNat];apply sp ax a<;>intro _ a
  ·cases a;simp only[kE,seval,-Int.reduceToNat];rw[aC];refine⟨_,rfl,?_⟩;refine⟨0,?_,?_,?_,?_⟩;all_goals (rfl)
  ·cases a;simp only[kE,seval,-Int.reduceToNat];rw[aC];refine⟨_,rfl,?_⟩;refine⟨0,?_,?_,?_,?_⟩;all_goals (rfl)
def bR (l:Option (D×Row)) (d:List D):=eu (dS (bU jI)) (fun x:aL=>dD x) (fun r:Bool =>.clean (.bool r)) l d
def Ip {β:Type} {F:aL->Option β} {R:β->RK} (b:Int) (a:(List Int)):eu (dS (bU jI)) F R none [.agg [.int .i64 b,.sl false false a.length (al (eI .i64) a)]]=(F ((aL.mk b a))).map fun r=>(R r,none):=cD _ _ _ ((aL.mk b a))
def ij:cn prog 103 bR:=cn.jx (mode := .clean) tok bV.none mixed func103 (by kernel_rfl) (fun _ _=>rfl) (fun _=>by kernel_rfl) fun g r a=>by
 replace a:dD g=some r:=a;apply aK rfl ntmps103 results103;simp only[jy];unfold dD at a;simp only[w,seval];obtain⟨v,q,a⟩:=ae a;refine aA (fun s t H e=>match s with|h=>∃d:Nat,t 1=.ptr 1 d 0∧t 3=sN (g.aa.length:Int)∧t 10=sI g.aa∧t 11=sN (g.aa.length:Int)∧t 12=sN h∧H 1=rV d 39 [sN g.aq,sI g.aa]) (fun o x t H e=>match o with|(.inl _)=>x=.exit 0∧∃f:Nat,t 1=.ptr 1 f 0∧t 3=sN (g.aa.length:Int)∧H 1=rV f 39 [sN g.aq,sI g.aa]|(.inr r)=>x=.ret∧gu .clean tab none [.tmp 2] ⟨t,EH H,e⟩=some (.clean (.bool r),none)) q ?_ ?_ ?_
 ·refine⟨0,?_,?_,?_,?_,?_,?_⟩;all_goals (rfl)
 ·rintro h t H e ⟨d,k⟩ c a;simp only[rN]at a;simp only[w,seval,k];apply sp ax a<;>intro _ a
  ·obtain⟨B,u,a⟩:=ae a;have l:=bk (eI .i64) u;simp only[bK]at l;simp only[w,seval,k,l];apply sp bF a<;>intro _ a
   ·cases a;simp only[w,seval];refine tD ⟨rfl,?_⟩;simp only[w,seval]
   ·simp only[w,seval];apply sp ax a<;>intro _ a
    ·cases a;simp only[w,seval];refine tD ⟨rfl,?_⟩;simp only[w,seval]
    ·cases a;simp only[w,seval,k];apply iU;refine⟨d,?_⟩;and_intros<;>first|rfl|(simp only[w,seval,k]<;>rfl)
  ·cases a;simp only[w,seval];apply j8;refine⟨rfl,⟨d,?_,?_,?_⟩⟩;all_goals ((simp only[w,seval,k]<;>rfl))
 ·rintro x t H e p;rcases v with _|C
  ·dsimp only at p a;obtain⟨rfl,⟨f,b⟩⟩:=p;simp only[w,seval,b];apply sp ax a<;>intro _ a
   ·cases a;simp only[w,seval,b]
   ·simp only[w,seval,b];apply sp bF a<;>intro _ a
    ·obtain⟨y,m,a⟩:=ae a;have i:=bk (eI .i64) m;simp only[bK]at i;cases a;simp only[w,seval,b,i]
    ·simp only[w,seval,b];apply sp ik a<;>intro _ a
     ·obtain⟨z,n,a⟩:=ae a;have j:=bk (eI .i64) n;simp only[bK]at j;cases a;simp only[w,seval,b,j]
     ·cases a;simp only[w,seval]
  ·dsimp only at p a;obtain⟨rfl,A⟩:=p;cases a;simp only[aY,bc,cA,cI];exact A
def zn (r:(List Int)) (a:cm []=some r):kD (.fresh 3 1) tab bn FU Tryz.f55 none [.sl true true 0 []]=some (.fresh 3 1 r.length (al (eI .i64) r),none):=by
 unfold cm at a;obtain⟨b,c,d⟩:=yM a;subst b;apply aK rfl ntmps55 results55;simp only[w,seval,alq]
def zo (r:(List Int)) (a:cm []=some r):kD (.fresh 3 1) tab bn FU Tryz.f55 none [.sl true false 0 []]=some (.fresh 3 1 r.length (al (eI .i64) r),none):=by
 unfold cm at a;obtain⟨b,c,d⟩:=yM a;subst b;apply aK rfl ntmps55 results55;simp only[w,seval,alq]
def zp (a r:(List Int)) (c:0<a.length) (b:cm a=some r):kD (.fresh 3 1) tab bn FU Tryz.f55 none [.sl false false a.length (al (eI .i64) a)]=some (.fresh 3 1 r.length (al (eI .i64) r),none):=by
 unfold cm at b;have g:¬a.length=0:=by omega
 obtain⟨d,e,f⟩:=yM b;subst d;apply aK rfl ntmps55 results55;simp only[w,seval,c,e,f]
def fV:=eu (dS (j0 (eI .i64))) (fun x:(List Int)=>cm x) (fun r:(List Int) =>.fresh 3 1 r.length (al (eI .i64) r))
def dB (a:(List Int)):fV none [.sl false false a.length (al (eI .i64) a)]=(cm a).map fun r:(List Int)=>(.fresh 3 1 r.length (al (eI .i64) r),none):=cD _ _ _ a
def iL:cn prog 55 fV:=cn.aeP (mode:=(.fresh 3 1)) tok bV.none mixed func55 (by kernel_rfl) ⟨by kernel_rfl,by kernel_rfl⟩ (akW (by kernel_rfl)) zn zo zp
def pA (l:Option (D×Row)) (d:List D):=eu (dS (bU jI)) (fun x:aL=>rM x) (fun r:aL =>.clean (.agg [.int .i64 r.aq,.sl false false r.aa.length (al (eI .i64) r.aa)])) l d
def Cq:Env:=(Am.ext (Am.ext (Am.ext bn 55 false fV) 103 false bR) 113 false cH)
def Tj:bV prog Cq:=(((bV.none.add iL false).add ij false).add kK false)
def Di:=ai @w<|ai @dB<|ai @Ip<|ai @bR.eq_1<|ai @Y0<|ai @cH.eq_1<|@Cq.eq_1
def Hd:cn prog 71 pA:=cn.jx (mode := .clean) tok Tj mixed func71 (by kernel_rfl) (fun _ _=>rfl) (fun _=>by kernel_rfl) fun e r a=>by
 replace a:rM e=some r:=a;apply aK rfl ntmps71 results71;simp only[jy];unfold rM at a;obtain⟨f,b,a⟩:=ae a;simp only[Di,seval,b];apply sp ax a<;>intro _ a
 ·cases a;simp only[Di,seval]
 ·obtain⟨g,c,a⟩:=ae a;obtain⟨h,d,a⟩:=ae a;simp only[Di,seval,c,d];refine bP (by kernel_rfl) ?_;cases a;simp only[seval]
def mO (l:Option (D×Row)) (d:List D):=eu (gh aem (dS (bU jI))) (fun x:Bool×aL=>fC x.1 x.2) (fun r:aL×Int =>.clean (.tup [.agg [.int .i64 r.1.aq,.sl false false r.1.aa.length (al (eI .i64) r.1.aa)],.int .i64 r.2])) l d
def s9:cn prog 114 mO:=cn.jx (mode := .clean) tok bV.none mixed func114 (by kernel_rfl) (fun _ _=>rfl) (fun _=>by kernel_rfl) fun⟨b,c⟩ r a=>by
 replace a:fC b c=some r:=a;apply aK rfl ntmps114 results114;simp only[jy];unfold fC at a;simp only[w,seval];apply sp ax a<;>intro _ a
 ·cases a;simp only[w,seval]
 ·cases a;simp only[w,seval]
def tF (l:Option (D×Row)) (d:List D):=eu (dS (aI .i64)) (fun x:Int=>sf x) (fun r:Bool =>.clean (.bool r)) l d
def MW:cn prog 153 tF:=cn.jx (mode := .clean) tok bV.none mixed func153 (by kernel_rfl) (fun _ _=>rfl) (fun _=>by kernel_rfl) fun b r a=>by
 replace a:sf b=some r:=a;apply aK rfl ntmps153 results153;simp only[jy];unfold sf at a;cases a;simp only[w,seval]
def dX (l:Option (D×Row)) (d:List D):=eu (gh (aI .i64) (dS (aI .i64))) (fun x:Int×Int=>gM x.1 x.2) (fun r:Int =>.clean (.int .i64 r)) l d
def Ll {β:Type} {F:Int×Int->Option β} {R:β->RK} (a:Int) (b:Int):eu (gh (aI .i64) (dS (aI .i64))) F R none [.int .i64 a,.int .i64 b]=(F (a,b)).map fun r=>(R r,none):=cD _ _ _ (a,b)
def uA:Env:=(Am.ext bn 153 false tF)
def Gr:bV prog uA:=(bV.none.add MW false)
def fk:=ai @w<|ai @Lk<|ai @tF.eq_1<|@uA.eq_1
def oX:cn prog 110 dX:=cn.jx (mode := .clean) tok Gr mixed func110 (by kernel_rfl) (fun _ _=>rfl) (fun _=>by kernel_rfl) fun⟨d,e⟩ r a=>by
 replace a:gM d e=some r:=a;apply aK rfl ntmps110 results110;simp only[jy];unfold gM at a;obtain⟨f,b,a⟩:=ae a;obtain⟨g,c,a⟩:=ae a;simp only[fk,seval,b,c];apply sp ax a<;>intro _ a
 ·simp only[fk,seval];apply sp ax a<;>intro _ a
  ·cases a;simp only[fk,seval]
  ·cases a;simp only[fk,seval]
 ·simp only[fk,seval];apply sp ax a<;>intro _ a
  ·cases a;simp only[fk,seval]
  ·simp only[fk,seval];apply sp ax a<;>intro _ a
   ·cases a;simp only[fk,seval]
   ·simp only[fk,seval];apply sp ax a<;>intro _ a
    ·cases a;simp only[fk,seval]
    ·cases a;simp only[fk,seval]
def fR (l:Option (D×Row)) (d:List D):=eu (gh (j0 (eI .i64)) (dS (j0 (eI .i64)))) (fun x:(List Int)×(List Int)=>im x.1 x.2) (fun r:Int =>.clean (.int .i64 r)) l d
def Y1 {β:Type} {F:(List Int)×(List Int)->Option β} {R:β->RK} (a:(List Int)) (b:(List Int)):eu (gh (j0 (eI .i64)) (dS (j0 (eI .i64)))) F R none [.sl false false a.length (al (eI .i64) a),.sl false false b.length (al (eI .i64) b)]=(F (a,b)).map fun r=>(R r,none):=cD _ _ _ (a,b)
def uu:Env:=(Am.ext bn 110 false dX)
def Gm:bV prog uu:=(bV.none.add oX false)
def fj:=ai @w<|ai @Ll<|ai @dX.eq_1<|@uu.eq_1
def td:cn prog 111 fR:=cn.jx (mode := .clean) tok Gm mixed func111 (by kernel_rfl) (fun _ _=>rfl) (fun _=>by kernel_rfl) fun⟨n,p⟩ r a=>by
 replace a:im n p=some r:=a;apply aK rfl ntmps111 results111;simp only[jy];unfold im at a;simp only[fj,seval];apply sp ax a<;>intro _ a
 ·obtain⟨z,l,a⟩:=ae a;cases a;simp only[fj,seval,l]
 ·simp only[fj,seval];obtain⟨q,m,a⟩:=ae a;refine aA (fun s t H e=>match s with|h=>t 0=sI n∧t 1=sI p∧t 5=sN h) (fun o x t H e=>match o with|(.inl _)=>x=.exit 0|(.inr r)=>x=.ret∧gu .clean tab none [.tmp 4] ⟨t,EH H,e⟩=some (.clean (.int .i64 r),none)) m ?_ ?_ ?_
  ·refine⟨?_,?_,?_⟩;all_goals (rfl)
  ·rintro h t H e i c a;simp only[oH]at a;simp only[fj,seval,i];apply sp ax a<;>intro _ a
   ·obtain⟨u,f,a⟩:=ae a;have b:=bk (eI .i64) f;simp only[bK]at b;obtain⟨v,g,a⟩:=ae a;have d:=bk (eI .i64) g;simp only[bK]at d;simp only[fj,seval,i,b,d];refine bP (by kernel_rfl) ?_;apply sp ax a<;>intro _ a
    ·have b:=bk (eI .i64) f;simp only[bK]at b;have d:=bk (eI .i64) g;simp only[bK]at d;obtain⟨w,j,a⟩:=ae a;simp only[fj,seval,i,b,d,j];refine bP (by kernel_rfl) ?_;cases a;refine tD ⟨rfl,?_⟩;simp only[fj,seval]
    ·cases a;simp only[fj,seval,i];apply iU;and_intros<;>first|rfl|(simp only[fj,seval,i]<;>rfl)
   ·cases a;simp only[fj,seval];apply j8;exact rfl
  ·rintro x t H e k;rcases q with _|A
   ·dsimp only at k a;subst k;cases a;simp only[fj,seval]
   ·dsimp only at k a;obtain⟨rfl,y⟩:=k;cases a;simp only[aY,bc,cA,cI];exact y
def tE (l:Option (D×Row)) (d:List D):=eu (gh (j0 (eI .i64)) (dS (aI .i64))) (fun x:(List Int)×Int=>pJ x.1 x.2) (fun r:(List Int)×Int =>.clean (.tup [.sl false false r.1.length (al (eI .i64) r.1),.int .i64 r.2])) l d
def sh7 {β:Type} {F:(List Int)×Int->Option β} {R:β->RK} (a:(List Int)) (b:Int):eu (gh (j0 (eI .i64)) (dS (aI .i64))) F R none [.sl false false a.length (al (eI .i64) a),.int .i64 b]=(F (a,b)).map fun r=>(R r,none):=cD _ _ _ (a,b)
def xQ:Env:=(Am.ext bn 155 false gq)
def Mw:bV prog xQ:=(bV.none.add qO false)
def lP:=ai @w<|ai @sh0<|ai @gq.eq_1<|@xQ.eq_1
def MV:cn prog 183 tE:=cn.jx (mode := .clean) tok Mw mixed func183 (by kernel_rfl) (fun _ _=>rfl) (fun _=>by kernel_rfl) fun⟨O,P⟩ r a=>by
 replace a:pJ O P=some r:=a;apply aK rfl ntmps183 results183;simp only[jy];unfold pJ at a;obtain⟨W,D,a⟩:=ae a;obtain⟨E,F,G,m,I⟩:=mk_one (eI .i64) D;simp only[bK]at m;simp only[lP,seval,-Int.reduceToNat,E,F,G,m,I];obtain⟨J,n,a⟩:=ae a;refine aA (fun s t H e=>match s with|(p,q,l)=>∃b:Nat,t 0=sI O∧t 1=sN P∧t 6=.buf 6 b 1 0 (l).length∧t 7=sN p∧t 8=sN q∧H 6=rW b 3 (al (eI .i64) l)) (fun o x t H e=>match o with|(g,d)=>x=.exit 0∧∃f:Nat,t 6=.buf 6 f 1 0 (d).length∧t 7=sN g∧H 6=rW f 3 (al (eI .i64) d)) n ?_ ?_ ?_
 ·refine⟨1,?_,?_,?_,?_,?_,?_⟩;all_goals (rfl)
 ·rintro⟨p,q,l⟩ t H e ⟨b,C⟩ c a;simp only[rP]at a;simp only[lP,seval,-Int.reduceToNat,C];apply sp ax a<;>intro _ a
  ·obtain⟨R,u,a⟩:=ae a;have K:=EX u;obtain⟨S,v,a⟩:=ae a;have h:=bk (eI .i64) v;simp only[bK]at h;obtain⟨w,y,a⟩:=ae a;have L:=Ve y;obtain⟨T,i,a⟩:=ae a;have j:=bk (eI .i64) i;simp only[bK]at j;have z:=fL (eI .i64) (x':=w) (fo:=0) (cs:=[.int .i64 w]) i rfl (akW rfl);simp only[bK,Nat.add_zero]at z;have k:=z;simp only[putCells,List.length_cons,List.length_nil,akl]at k;obtain⟨U,A,a⟩:=ae a;have M:=V3 A;cases a;simp only[lP,seval,-Int.reduceToNat,C,K,h,L,j,k,M];apply iU;refine⟨b,?_⟩;and_intros<;>first|rfl|(simp only[lP,seval,-Int.reduceToNat,C]<;>rfl)
  ·cases a;simp only[lP,seval,-Int.reduceToNat];apply j8;refine⟨rfl,⟨b,?_,?_,?_⟩⟩;all_goals ((simp only[lP,seval,-Int.reduceToNat,C]<;>rfl))
 ·rintro x t H e Q;rcases J with⟨g,d⟩;dsimp only at Q a;obtain⟨rfl,⟨f,N⟩⟩:=Q;obtain⟨V,B,a⟩:=ae a;cases a;simp only[lP,seval,-Int.reduceToNat,N,B]
def sd (l:Option (D×Row)) (d:List D):=eu (gh (j0 (eI .i64)) (dS (j0 (eI .i64)))) (fun x:(List Int)×(List Int)=>rO x.1 x.2) (fun r:(List Int) =>.fresh 3 1 r.length (al (eI .i64) r)) l d
def Ct:Env:=(Am.ext bn 155 true vo)
def To:bV prog Ct:=(bV.none.add IP true)
def gZ:=ai @w<|@Ct.eq_1
def Hg:cn prog 154 sd:=cn.jx (mode:=(.fresh 3 1)) tok To mixed func154 (by kernel_rfl) (fun _ _=>rfl) (fun _=>by kernel_rfl) fun⟨B,F⟩ r a=>by
 replace a:rO B F=some r:=a;apply aK rfl ntmps154 results154;simp only[jy];unfold rO at a;obtain⟨x1,Y,a⟩:=ae a;obtain⟨Z,aa,ab,G,ad⟩:=mk_one (eI .i64) Y;simp only[bK]at G;simp only[gZ,seval,-Int.reduceToNat,Z,aa,ab,G,ad];obtain⟨ag,I,a⟩:=ae a;refine aA (fun s t H e=>match s with|(b,C)=>∃j:Nat,t 1=sI F∧t 5=.buf 5 j 1 0 (C).length∧t 18=sI B∧t 19=sN (B.length:Int)∧t 20=sN b∧H 5=rW j 3 (al (eI .i64) C)) (fun o x t H e=>match o with|d=>x=.exit 0∧∃k:Nat,t 5=.buf 5 k 1 0 (d).length∧H 5=rW k 3 (al (eI .i64) d)) I ?_ ?_ ?_
 ·refine⟨1,?_,?_,?_,?_,?_,?_⟩;all_goals (rfl)
 ·rintro⟨b,C⟩ t H e ⟨j,W⟩ c a;simp only[vK]at a;simp only[gZ,seval,-Int.reduceToNat,W];apply sp ax a<;>intro _ a
  ·obtain⟨D,J,a⟩:=ae a;have u:=bk (eI .i64) J;simp only[bK]at u;simp only[gZ,seval,-Int.reduceToNat,W,u];obtain⟨ah,K,a⟩:=ae a;refine aA (fun s t H e=>match s with|(q,v,E)=>∃l:Nat,t 1=sI F∧t 5=.buf 5 l 1 0 (E).length∧t 6=sN b∧t 7=sN D∧t 8=sN q∧t 18=sI B∧t 19=sN (B.length:Int)∧t 20=sN b∧t 25=sI F∧t 26=sN (F.length:Int)∧t 27=sN v∧H 5=rW l 3 (al (eI .i64) E)) (fun o x t H e=>match o with|(f,m)=>x=.exit 2∧∃g:Nat,t 1=sI F∧t 5=.buf 5 g 1 0 (m).length∧t 6=sN b∧t 8=sN f∧t 18=sI B∧t 19=sN (B.length:Int)∧t 20=sN b∧H 5=rW g 3 (al (eI .i64) m)) K ?_ ?_ ?_
   ·refine⟨j,?_⟩;and_intros<;>first|rfl|(simp only[gZ,seval,-Int.reduceToNat,W]<;>rfl)
   ·rintro⟨q,v,E⟩ t H e ⟨l,X⟩ c a;simp only[vL]at a;simp only[gZ,seval,-Int.reduceToNat,X];apply sp ax a<;>intro _ a
    ·obtain⟨L,M,a⟩:=ae a;have w:=bk (eI .i64) M;simp only[bK]at w;obtain⟨N,n,a⟩:=ae a;have h:=bk (eI .i64) n;simp only[bK]at h;obtain⟨an,O,a⟩:=ae a;have ai:=wx O;have h:=bk (eI .i64) n;simp only[bK]at h;have P:=fL (eI .i64) (x':=mR .and .i64 (IntKind.i64.wrap ((IntKind.i64.wrap (N+(IntKind.i64.wrap (D*L))))+q)) 1048575) (fo:=0) (cs:=[.int .i64 (mR .and .i64 (IntKind.i64.wrap ((IntKind.i64.wrap (N+(IntKind.i64.wrap (D*L))))+q)) 1048575)]) n rfl (akW rfl);simp only[bK,Nat.add_zero]at P;have y:=P;simp only[putCells,List.length_cons,List.length_nil,akl]at y;cases a;simp only[gZ,seval,-Int.reduceToNat,X,w,ai,h,y];apply iU;refine⟨l,?_⟩;and_intros<;>first|rfl|(simp only[gZ,seval,-Int.reduceToNat,X]<;>rfl)
    ·cases a;simp only[gZ,seval,-Int.reduceToNat];apply j8;refine⟨rfl,⟨l,?_,?_,?_,?_,?_,?_,?_,?_⟩⟩;all_goals ((simp only[gZ,seval,-Int.reduceToNat,X]<;>rfl))
   ·rintro x t H e Q;rcases ah with⟨f,m⟩;dsimp only at Q a;obtain⟨rfl,⟨g,R⟩⟩:=Q;obtain⟨S,p,a⟩:=ae a;have i:=bk (eI .i64) p;simp only[bK]at i;have i:=bk (eI .i64) p;simp only[bK]at i;have T:=fL (eI .i64) (x':=IntKind.i64.wrap (S+f)) (fo:=0) (cs:=[.int .i64 (IntKind.i64.wrap (S+f))]) p rfl (akW rfl);simp only[bK,Nat.add_zero]at T;have A:=T;simp only[putCells,List.length_cons,List.length_nil,akl]at A;cases a;simp only[gZ,seval,-Int.reduceToNat,R,i,A];apply iU;refine⟨g,?_⟩;and_intros<;>first|rfl|(simp only[gZ,seval,-Int.reduceToNat,R]<;>rfl)
  ·cases a;simp only[gZ,seval,-Int.reduceToNat];apply j8;refine⟨rfl,⟨j,?_,?_⟩⟩;all_goals ((simp only[gZ,seval,-Int.reduceToNat,W]<;>rfl))
 ·rintro x t H e Q;obtain⟨d,rfl⟩:∃z,z=ag:=⟨_,rfl⟩;dsimp only at Q a;obtain⟨rfl,⟨k,aj⟩⟩:=Q;have U:=Na [] [] d;simp only[List.nil_append,ak5,List.length_nil]at U;obtain⟨ao,V,a⟩:=ae a;cases a;simp only[gZ,seval,-Int.reduceToNat,aj,U,V]
def sr:=mkW 3 (eI .i64) (gh (j0 (eI .i64)) (dS (aI .i64))) (fun (l:(List Int)) (x:(List Int)×Int)=>ic l x.1 x.2) (fun r:Int =>.clean (.int .i64 r))
def HC (b a:List D) (c:(List Int)) (d:(List Int)) (e:Int):sr (some (.buf 0 0 1 b.length c.length,⟨0,3,b++(al (eI .i64) c++a),false,true,false⟩)) [.sl false false d.length (al (eI .i64) d),.int .i64 e]=(ic c d e).map fun r=>(.clean (.int .i64 r.2),some ⟨0,3,b++(al (eI .i64) r.1++a),false,true,false⟩):=abo _ _ _ _ _ b a c (d,e)
def GO (d a:List D) (L:(List Int)) (y:(List Int)) (A:Int) (r:(List Int)×(Int)) (b:ic L y A=some r):kD .clean tab bn FU Tryz.f184 (some (.buf 0 0 1 d.length L.length,⟨0,3,d++(al (eI .i64) L++a),false,true,false⟩)) [.sl false false y.length (al (eI .i64) y),.int .i64 A]=some (.clean (.int .i64 r.2),some ⟨0,3,d++(al (eI .i64) r.1++a),false,true,false⟩):=by
 apply Ij rfl ntmps184 results184;unfold ic at b;obtain⟨rw,Z,b⟩:=ae b;split at b;rotate_left
 ·cases b
 cases b;rename_i an;replace b:=Z;unfold sG at b;simp only[w,seval,-Int.reduceToNat];obtain⟨o9,aa,b⟩:=ae b;refine aA (fun s t H e=>match s with|(M,j,l)=>t 0=.buf 0 0 1 d.length (l).length∧t 1=sI y∧t 2=sN A∧t 7=sN M∧t 13=sN ((L).length:Int)∧t 14=sN j∧H 0=rW 0 3 (d++(al (eI .i64) l++a))) (fun o x t H e=>match o with|(B,h)=>x=.exit 0∧t 0=.buf 0 0 1 d.length (h).length∧t 1=sI y∧t 2=sN A∧t 7=sN B∧H 0=rW 0 3 (d++(al (eI .i64) h++a))) aa ?_ ?_ ?_
 ·refine⟨?_,?_,?_,?_,?_,?_,?_⟩;all_goals (rfl)
 ·rintro⟨M,j,l⟩ t H e J c b;simp only[nw]at b;simp only[w,seval,-Int.reduceToNat,J];apply sp ax b<;>intro _ b
  ·obtain⟨ao,m,b⟩:=ae b;have f:=PU (pre:=d) (post:=a) (eI .i64) m;simp only[bK]at f;simp only[w,seval,-Int.reduceToNat,J,f];obtain⟨ab,N,b⟩:=ae b;refine qV 0 (fun s t H e=>match s with|n=>t 0=.buf 0 0 1 d.length (l).length∧t 1=sI y∧t 2=sN A∧t 8=sN j∧t 9=sN n∧t 13=sN ((L).length:Int)∧t 14=sN j∧H 0=rW 0 3 (d++(al (eI .i64) l++a))) (fun s=>s=ab) ?_ ?_
   ·rintro n t H e O rfl;try dsimp only at b
    have f:=PU (pre:=d) (post:=a) (eI .i64) m;simp only[bK]at f;have P:=Rn (pre:=d) (post:=a) (eI .i64) (y':=mR .and .i64 n 1048575) m;simp only[bK]at P;have C:=P;simp only[putCells,List.length_cons,List.length_nil,akl]at C;obtain⟨aq,Q,b⟩:=ae b;have ad:=wx Q;cases b;simp only[w,seval,-Int.reduceToNat,O,f,C,ad];apply iU;and_intros<;>first|rfl|(simp only[w,seval,-Int.reduceToNat,O]<;>rfl)
   ·clear b;have b:=N;simp only[w,seval,-Int.reduceToNat];apply sp ax b<;>intro _ b
    ·obtain⟨ar,R,b⟩:=ae b;have E:=bk (eI .i64) R;simp only[bK]at E;cases b;simp only[w,seval,-Int.reduceToNat,J,f,E];rw[aC];refine⟨_,rfl,?_⟩;and_intros<;>first|rfl|(simp only[w,seval,-Int.reduceToNat,J]<;>rfl)
    ·cases b;simp only[w,seval,-Int.reduceToNat];rw[aC];refine⟨_,rfl,?_⟩;and_intros<;>first|rfl|(simp only[w,seval,-Int.reduceToNat,J]<;>rfl)
  ·cases b;simp only[w,seval,-Int.reduceToNat];apply j8;refine⟨rfl,⟨?_,?_,?_,?_,?_⟩⟩;all_goals ((simp only[w,seval,-Int.reduceToNat,J]<;>rfl))
 ·rintro x t H e S;rcases o9 with⟨B,h⟩;dsimp only at S b;obtain⟨rfl,v⟩:=S;simp only[w,seval,-Int.reduceToNat,v];apply sp ax b<;>intro _ b
  ·cases b;simp only[w,seval,-Int.reduceToNat,v]
  ·simp only[w,seval,-Int.reduceToNat,v];obtain⟨ag,T,b⟩:=ae b;refine aA (fun s t H e=>match s with|(F,k,p)=>t 0=.buf 0 0 1 d.length (p).length∧t 1=sI y∧t 2=sN A∧t 10=sN F∧t 48=sN ((h).length:Int)∧t 49=sN k∧H 0=rW 0 3 (d++(al (eI .i64) p++a))) (fun o x t H e=>match o with|q=>x=.exit 2∧t 0=.buf 0 0 1 d.length (q).length∧t 2=sN A∧H 0=rW 0 3 (d++(al (eI .i64) q++a))) T ?_ ?_ ?_
   ·and_intros<;>first|rfl|(simp only[w,seval,-Int.reduceToNat,v]<;>rfl)
   ·rintro⟨F,k,p⟩ t H e K c b;simp only[ny]at b;simp only[w,seval,-Int.reduceToNat,K];apply sp ax b<;>intro _ b
    ·obtain⟨au,u,b⟩:=ae b;have g:=PU (pre:=d) (post:=a) (eI .i64) u;simp only[bK]at g;simp only[w,seval,-Int.reduceToNat,K,g];obtain⟨ah,U,b⟩:=ae b;refine qV 0 (fun s t H e=>match s with|i=>t 0=.buf 0 0 1 d.length (p).length∧t 1=sI y∧t 2=sN A∧t 10=sN i∧t 11=sN k∧t 48=sN ((h).length:Int)∧t 49=sN k∧H 0=rW 0 3 (d++(al (eI .i64) p++a))) (fun s=>s=ah) ?_ ?_
     ·rintro i t H e V rfl;try dsimp only at b
      have g:=PU (pre:=d) (post:=a) (eI .i64) u;simp only[bK]at g;have W:=Rn (pre:=d) (post:=a) (eI .i64) (y':=mR .and .i64 i 1048575) u;simp only[bK]at W;have G:=W;simp only[putCells,List.length_cons,List.length_nil,akl]at G;obtain⟨av,X,b⟩:=ae b;have ai:=wx X;cases b;simp only[w,seval,-Int.reduceToNat,V,g,G,ai];apply iU;and_intros<;>first|rfl|(simp only[w,seval,-Int.reduceToNat,V]<;>rfl)
     ·clear b;have b:=U;simp only[w,seval,-Int.reduceToNat];apply sp ax b<;>intro _ b
      ·obtain⟨aw,Y,b⟩:=ae b;have I:=bk (eI .i64) Y;simp only[bK]at I;cases b;simp only[w,seval,-Int.reduceToNat,K,g,I];rw[aC];refine⟨_,rfl,?_⟩;and_intros<;>first|rfl|(simp only[w,seval,-Int.reduceToNat,K]<;>rfl)
      ·cases b;simp only[w,seval,-Int.reduceToNat];rw[aC];refine⟨_,rfl,?_⟩;and_intros<;>first|rfl|(simp only[w,seval,-Int.reduceToNat,K]<;>rfl)
    ·cases b;simp only[w,seval,-Int.reduceToNat];apply j8;refine⟨rfl,⟨?_,?_,?_⟩⟩;all_goals ((simp only[w,seval,-Int.reduceToNat,K]<;>rfl))
   ·rintro x t H e S;obtain⟨q,rfl⟩:∃z,z=ag:=⟨_,rfl⟩;dsimp only at S b;obtain⟨rfl,aj⟩:=S;cases b;simp only[w,seval,-Int.reduceToNat,aj]
def Ez:cn prog 184 sr:=cn.agT (mode := .clean) tok bV.none mixed func184 (by kernel_rfl) ⟨by kernel_rfl,by kernel_rfl⟩ (fun _=>akW (by kernel_rfl)) (fun b a l x c r h=>GO b a l x.1 x.2 (c,r) h)
def pB (l:Option (D×Row)) (d:List D):=eu (gh (j0 (eI .i64)) (dS (j0 (eI .i64)))) (fun x:(List Int)×(List Int)=>vF x.1 x.2) (fun r:(List Int)×(List Int) =>.clean (.tup [.sl false false r.1.length (al (eI .i64) r.1),.sl false false r.2.length (al (eI .i64) r.2)])) l d
def K6 (a:(List Int)) (b:(List Int)):sd none [.sl false false a.length (al (eI .i64) a),.sl false false b.length (al (eI .i64) b)]=(rO a b).map fun r:(List Int)=>(.fresh 3 1 r.length (al (eI .i64) r),none):=cD _ _ _ (a,b)
def p5 (a:(List Int)):gq none [.sl false false a.length (al (eI .i64) a)]=(fD a).map fun r:(List Int)=>(.clean (.sl false false r.length (al (eI .i64) r)),none):=cD _ _ _ (a)
def Cs:Env:=(Am.ext (Am.ext (Am.ext (Am.ext (Am.ext (Am.ext bn 55 false fV) 111 false fR) 154 false sd) 155 false gq) 183 false tE) 184 true sr)
def Tn:bV prog Cs:=((((((bV.none.add iL false).add td false).add Hg false).add qO false).add MV false).add Ez true)
def bG:=ai @w<|ai @dB<|ai @Y1<|ai @fR.eq_1<|ai @p5<|ai @sh7<|ai @tE.eq_1<|@Cs.eq_1
def Hf:cn prog 147 pB:=cn.jx (mode := .clean) tok Tn mixed func147 (by kernel_rfl) (fun _ _=>rfl) (fun _=>by kernel_rfl) fun⟨p0,p1⟩ r a=>by
 replace a:vF p0 p1=some r:=a;apply aK rfl ntmps147 results147;simp only[jy];unfold vF at a;obtain⟨r1,br,a⟩:=ae a;simp only[bG,seval,-Int.reduceToNat,br];apply sp ax a<;>intro _ a
 ·obtain⟨r3,bt,a⟩:=ae a;cases a;simp only[bG,seval,-Int.reduceToNat,bt]
 ·simp only[bG,seval,-Int.reduceToNat];apply sp ax a<;>intro _ a
  ·obtain⟨x5,bu,a⟩:=ae a;have ao:=bk (eI .i64) bu;simp only[bK]at ao;obtain⟨r6,bw,a⟩:=ae a;have i7:=p5 ([r6.2]);simp only[bY,bK,List.length_cons,akl]at i7;obtain⟨r8,bx,a⟩:=ae a;cases a;simp only[bG,seval,-Int.reduceToNat,ao,bw,i7,bx]
  ·simp only[bG,seval,-Int.reduceToNat];obtain⟨bz,aq,a⟩:=ae a;refine aA (fun s t H e=>match s with|ar=>t 0=sI p0∧t 1=sI p1∧t 8=sN ar) (fun o x t H e=>match o with|d=>x=.exit 0∧t 0=sI p0∧t 1=sI p1∧t 8=sN d) aq ?_ ?_ ?_
   ·refine⟨?_,?_,?_⟩;all_goals (rfl)
   ·rintro ar t H e Za c a;simp only[vG]at a;obtain⟨bM,au,a⟩:=ae a;have U:=bk (eI .i64) au;simp only[bK]at U;simp only[bG,seval,-Int.reduceToNat,Za,U];apply sp ax a<;>intro _ a
    ·cases a;simp only[bG,seval,-Int.reduceToNat,Za];apply iU;and_intros<;>first|rfl|(simp only[bG,seval,-Int.reduceToNat,Za]<;>rfl)
    ·cases a;simp only[bG,seval,-Int.reduceToNat];apply j8;refine⟨rfl,⟨?_,?_,?_⟩⟩;all_goals ((simp only[bG,seval,-Int.reduceToNat,Za]<;>rfl))
   ·rintro x t H e V;obtain⟨d,rfl⟩:∃z,z=bz:=⟨_,rfl⟩;dsimp only at V a;obtain⟨rfl,an⟩:=V;have av:=K6 p0 ([d]);simp only[bY,bK,List.length_cons,akl]at av;obtain⟨bN,aw,a⟩:=ae a;obtain⟨bO,ay,a⟩:=ae a;obtain⟨az,W,aB,aD⟩:=jJ (eI .i64) ay;simp only[bK]at W;have aE:=K6 p1 ([d]);simp only[bY,bK,List.length_cons,akl]at aE;obtain⟨b,aF,a⟩:=ae a;simp only[bG,seval,-Int.reduceToNat,an,av,aw,az,W,aB,aD,aE,aF];obtain⟨bA,aG,a⟩:=ae a;refine qV 0 (fun s t H e=>match s with|K=>∃E:Nat,∃n:Nat,t 8=sN d∧t 9=.buf 9 E 1 0 (K).length∧t 10=.buf 10 n 1 0 (b).length∧H 9=rW E 3 (al (eI .i64) K)∧H 10=rW n 3 (al (eI .i64) b)) (fun s=>s=bA) ?_ ?_
    ·rintro K t H e ⟨E,n,aH⟩ rfl;try dsimp only at a
     obtain⟨bQ,aI,a⟩:=ae a;obtain⟨aJ,aL,aM,X,aN⟩:=mk_one (eI .i64) aI;simp only[bK]at X;simp only[bG,seval,-Int.reduceToNat,aH,aJ,aL,aM,X,aN];obtain⟨bB,aO,a⟩:=ae a;refine aA (fun s t H e=>match s with|(g,h,f)=>∃L:Nat,∃F:Nat,∃v:Nat,∃M:Bool,t 8=sN d∧t 9=.buf 9 L 1 0 (h).length∧t 10=.buf 10 F 1 0 (b).length∧t 11=sN ((b).length:Int)∧t 12=.buf 12 v 1 0 (f).length∧t 13=sN g∧H 9=rW L 3 (al (eI .i64) h)∧H 10=some ⟨F,3,al (eI .i64) b,M,true,false⟩∧H 12=rW v 3 (al (eI .i64) f)) (fun o x t H e=>match o with|(N,B)=>x=.exit 2∧∃O:Nat,∃C:Nat,t 8=sN d∧t 9=.buf 9 O 1 0 (N).length∧t 12=.buf 12 C 1 0 (B).length∧H 9=rW O 3 (al (eI .i64) N)∧H 12=rW C 3 (al (eI .i64) B)) aO ?_ ?_ ?_
     ·refine⟨E,n,e+1,false,?_⟩;and_intros<;>first|rfl|(simp only[bG,seval,-Int.reduceToNat,aH]<;>rfl)
     ·rintro⟨g,h,f⟩ t H e ⟨L,F,v,M,Zc⟩ c a;simp only[vH]at a;simp only[bG,seval,-Int.reduceToNat,Zc];apply sp ax a<;>intro _ a
      ·obtain⟨bR,aP,a⟩:=ae a;have Y:=bk (eI .i64) aP;simp only[bK]at Y;obtain⟨bS,aQ,a⟩:=ae a;have aR:=EX aQ;obtain⟨bT,aS,a⟩:=ae a;have Z:=bk (eI .i64) aS;simp only[bK]at Z;simp only[bG,seval,-Int.reduceToNat,Zc,Y,aR,Z];refine bP (by kernel_rfl) ?_;obtain⟨bU,P,a⟩:=ae a;have i:=bk (eI .i64) P;simp only[bK]at i;obtain⟨bV,aU,a⟩:=ae a;have bC:=Ve aU;have i:=bk (eI .i64) P;simp only[bK]at i;obtain⟨bW,aV,a⟩:=ae a;have bD:=V3 aV;simp only[bG,seval,-Int.reduceToNat,Zc,bC,i,bD];refine bP (by kernel_rfl) ?_;obtain⟨bE,aW,a⟩:=ae a;refine aA (fun s t H e=>match s with|(Q,R)=>∃J:Nat,∃l:Nat,∃m:Nat,∃w:Bool,t 8=sN d∧t 9=.buf 9 J 1 0 (h).length∧t 10=.buf 10 l 1 0 (b).length∧t 11=sN ((b).length:Int)∧t 12=.buf 12 m 1 0 (f).length∧t 13=sN g∧t 15=sN Q∧t 16=sN R∧H 9=rW J 3 (al (eI .i64) h)∧H 10=some ⟨l,3,al (eI .i64) b,w,true,false⟩∧H 12=rW m 3 (al (eI .i64) f)) (fun o x t H e=>match o with|D=>x=.exit 4∧∃G:Nat,∃p:Nat,∃q:Nat,∃S:Bool,t 8=sN d∧t 9=.buf 9 G 1 0 (h).length∧t 10=.buf 10 p 1 0 (b).length∧t 11=sN ((b).length:Int)∧t 12=.buf 12 q 1 0 (f).length∧t 13=sN g∧t 15=sN D∧H 9=rW G 3 (al (eI .i64) h)∧H 10=some ⟨p,3,al (eI .i64) b,S,true,false⟩∧H 12=rW q 3 (al (eI .i64) f)) aW ?_ ?_ ?_
       ·refine⟨L,F,v,M,?_⟩;and_intros<;>first|rfl|(simp only[bG,seval,-Int.reduceToNat,Zc]<;>rfl)
       ·rintro⟨Q,R⟩ t H e ⟨J,l,m,w,Zg⟩ c a;simp only[vJ]at a;simp only[bG,seval,-Int.reduceToNat,Zg];obtain⟨bF,aX,a⟩:=ae a;refine acp 0 (fun s t H e=>match s with|I=>∃y:Nat,∃j:Nat,∃k:Nat,∃u:Bool,t 8=sN d∧t 9=.buf 9 y 1 0 (h).length∧t 10=.buf 10 j 1 0 (b).length∧t 11=sN ((b).length:Int)∧t 12=.buf 12 k 1 0 (f).length∧t 13=sN g∧t 15=sN Q∧t 16=sN R∧t 137=.bool I∧H 9=rW y 3 (al (eI .i64) h)∧H 10=some ⟨j,3,al (eI .i64) b,u,true,false⟩∧H 12=rW k 3 (al (eI .i64) f)) (fun s=>s=bF) ?_ ?_
        ·rintro I t H e ⟨y,j,k,u,T⟩ rfl;try dsimp only at a
         simp only[bG,seval,-Int.reduceToNat,T];apply sp ax a<;>intro _ a
         ·have i:=bk (eI .i64) P;simp only[bK]at i;cases a;simp only[bG,seval,-Int.reduceToNat,T,i];apply iU;refine⟨y,j,k,u,?_⟩;and_intros<;>first|rfl|(simp only[bG,seval,-Int.reduceToNat,T]<;>rfl)
         ·cases a;simp only[bG,seval,-Int.reduceToNat];apply j8;refine⟨rfl,⟨y,j,k,u,?_,?_,?_,?_,?_,?_,?_,?_,?_,?_⟩⟩;all_goals ((simp only[bG,seval,-Int.reduceToNat,T]<;>rfl))
        ·clear a;have a:=aX;simp only[bG,seval,-Int.reduceToNat];apply sp H9 a<;>intro _ a
         ·simp only[bG,seval,-Int.reduceToNat];refine bP (by kernel_rfl) ?_;cases a;rw[aC];refine⟨_,rfl,?_⟩;refine⟨J,l,m,w,?_⟩;and_intros<;>first|rfl|(simp only[bG,seval,-Int.reduceToNat,Zg]<;>rfl)
         ·simp only[bG,seval,-Int.reduceToNat,Zg];apply sp E3 a<;>intro _ a
          ·obtain⟨bX,aY,a⟩:=ae a;have aa:=bk (eI .i64) aY;simp only[bK]at aa;obtain⟨bZ,aZ,a⟩:=ae a;have bH:=EX aZ;obtain⟨b1,a1,a⟩:=ae a;have ab:=bk (eI .i64) a1;simp only[bK]at ab;simp only[bG,seval,-Int.reduceToNat,aR,Zg,aa,bH,ab];refine bP (by kernel_rfl) ?_;cases a;rw[aC];refine⟨_,rfl,?_⟩;refine⟨J,l,m,w,?_⟩;and_intros<;>first|rfl|(simp only[bG,seval,-Int.reduceToNat,Zg]<;>rfl)
          ·simp only[bG,seval,-Int.reduceToNat];refine bP (by kernel_rfl) ?_;cases a;rw[aC];refine⟨_,rfl,?_⟩;refine⟨J,l,m,w,?_⟩;and_intros<;>first|rfl|(simp only[bG,seval,-Int.reduceToNat,Zg]<;>rfl)
       ·rintro x t H e V;obtain⟨D,rfl⟩:∃z,z=bE:=⟨_,rfl⟩;dsimp only at V a;obtain⟨rfl,⟨G,p,q,S,a6⟩⟩:=V;obtain⟨bI,A,a⟩:=ae a;obtain⟨a7,a8,ba,bL,bb⟩:=afT (eI .i64) A;simp only[bK]at bb;have bc:=HC (al (eI .i64) (h.take (g).toNat)) (al (eI .i64) (h.drop (IntKind.i64.wrap ((IntKind.i64.wrap (g+((b).length:Int)))+1)).toNat)) bI b D;simp only[aea,aeb (eI .i64) A,aec (eI .i64) A,ae3 A,bK]at bc;obtain⟨bd,ad,a⟩:=ae a;have bf:=CG ad;have bg:=acA A bf;obtain⟨b2,ag,a⟩:=ae a;have ah:=bk (eI .i64) ag;simp only[bK]at ah;have bh:=fL (eI .i64) (x':=bd.2) (fo:=0) (cs:=[.int .i64 bd.2]) ag rfl (akW rfl);simp only[bK,Nat.add_zero]at bh;have ai:=bh;simp only[putCells,List.length_cons,List.length_nil,akl]at ai;cases a;simp only[bG,seval,-Int.reduceToNat,a6,a7,a8,ba,bc,ad,ah,ai];apply iU;refine⟨G,p,q,true,?_⟩;and_intros<;>first|rfl|(simp only[bG,seval,-Int.reduceToNat,a6,bg]<;>rfl)
      ·cases a;simp only[bG,seval,-Int.reduceToNat];apply j8;refine⟨rfl,⟨L,v,?_,?_,?_,?_,?_⟩⟩;all_goals ((simp only[bG,seval,-Int.reduceToNat,Zc]<;>rfl))
     ·rintro x t H e V;rcases bB with⟨N,B⟩;dsimp only at V a;obtain⟨rfl,⟨O,C,bJ⟩⟩:=V;obtain⟨b3,bj,a⟩:=ae a;obtain⟨b4,bl,a⟩:=ae a;obtain⟨b5,bm,a⟩:=ae a;cases a;simp only[bG,seval,-Int.reduceToNat,bJ,bj,bl,bm]
    ·clear a;have a:=aG;simp only[bG,seval,-Int.reduceToNat];apply sp ax a<;>intro _ a
     ·obtain⟨b6,bn,a⟩:=ae a;obtain⟨bo,aj,bp,bq⟩:=jJ (eI .i64) bn;simp only[bK]at aj;cases a;simp only[bG,seval,-Int.reduceToNat,bo,aj,bp,bq];rw[aC];refine⟨_,rfl,?_⟩;refine⟨e+1+1,e,?_⟩;and_intros<;>first|rfl|(simp only[bG,seval,-Int.reduceToNat,an]<;>rfl)
     ·cases a;simp only[bG,seval,-Int.reduceToNat];rw[aC];refine⟨_,rfl,?_⟩;refine⟨e,e,?_⟩;and_intros<;>first|rfl|(simp only[bG,seval,-Int.reduceToNat,an]<;>rfl)
def pz (l:Option (D×Row)) (d:List D):=eu (gh (bU jI) (dS (bU jI))) (fun x:aL×aL=>tJ x.1 x.2) (fun r:aL×Int =>.clean (.tup [.agg [.int .i64 r.1.aq,.sl false false r.1.aa.length (al (eI .i64) r.1.aa)],.int .i64 r.2])) l d
def NO {β:Type} {F:aL×aL->Option β} {R:β->RK} (c:Int) (a:(List Int)) (d:Int) (b:(List Int)):eu (gh (bU jI) (dS (bU jI))) F R none [.agg [.int .i64 c,.sl false false a.length (al (eI .i64) a)],.agg [.int .i64 d,.sl false false b.length (al (eI .i64) b)]]=(F ((aL.mk c a),(aL.mk d b))).map fun r=>(R r,none):=cD _ _ _ ((aL.mk c a),(aL.mk d b))
def gH (c:Bool) (b:Int) (a:(List Int)):mO none [.bool c,.agg [.int .i64 b,.sl false false a.length (al (eI .i64) a)]]=(fC c (aL.mk b a)).map fun r:aL×Int=>(.clean (.tup [.agg [.int .i64 r.1.aq,.sl false false r.1.aa.length (al (eI .i64) r.1.aa)],.int .i64 r.2]),none):=cD _ _ _ (c,(aL.mk b a))
def Cn:Env:=(Am.keep 6 (Am.ext (Am.ext (Am.ext (Am.ext (Am.ext bn 55 false fV) 103 false bR) 113 false cH) 114 false mO) 147 false pB))
def Tg:bV prog Cn:=(bV.keep (((((bV.none.add iL false).add ij false).add kK false).add s9 false).add Hf false) 6)
def gY:=ai @w<|ai @dB<|ai @Ip<|ai @bR.eq_1<|ai @Y0<|ai @cH.eq_1<|ai @gH<|ai @Y1<|ai @pB.eq_1<|@Cn.eq_1
def Hc:cn prog 104 pz:=cn.jx (mode := .clean) tok Tg mixed func104 (by kernel_rfl) (fun _ _=>rfl) (fun _=>by kernel_rfl) fun⟨y,A⟩ r a=>by
 replace a:tJ y A=some r:=a;apply aK rfl ntmps104 results104;simp only[jy];unfold tJ at a;obtain⟨R,B,a⟩:=ae a;simp only[gY,seval,B];obtain⟨K,C,a⟩:=ae a;refine cR 0 (fun s t H e=>match s with|d=>∃f:Nat,∃g:Nat,∃b:Nat,t 2=.ptr 2 f 0∧t 3=.ptr 3 g 0∧t 4=.ptr 4 b 0∧t 17=.bool d∧H 2=rV f 39 [sN y.aq,sI y.aa]∧H 3=rV g 39 [sN A.aq,sI A.aa]∧H 4=rV b 39 [sN 0,.sl true true 0 []]) (fun s=>s=K) ?_ ?_
 ·rintro d t H e ⟨f,g,b,j⟩ rfl;try dsimp only at a
  simp only[gY,seval,j];apply sp ax a<;>intro _ a
  ·have I:=gH false 0 ([]);simp only[bK]at I;obtain⟨S,D,a⟩:=ae a;cases a;simp only[gY,seval,j,I,D]
  ·obtain⟨T,E,a⟩:=ae a;simp only[gY,seval,j,E];refine bP (by kernel_rfl) ?_;obtain⟨L,F,a⟩:=ae a;refine aA (fun s t H e=>match s with|(l,m)=>∃h:Nat,t 4=.ptr 4 h 0∧t 6=sI l∧t 7=sI m∧H 4=rV h 39 [sN 0,.sl true true 0 []]) (fun o x t H e=>match o with|k=>x=.exit 0∧∃i:Nat,t 4=.ptr 4 i 0∧t 6=sI k∧H 4=rV i 39 [sN 0,.sl true true 0 []]) F ?_ ?_ ?_
   ·refine⟨b,?_⟩;and_intros<;>first|rfl|(simp only[gY,seval,j]<;>rfl)
   ·rintro⟨l,m⟩ t H e ⟨h,w⟩ c a;simp only[sC]at a;simp only[gY,seval,w];apply sp ax a<;>intro _ a
    ·obtain⟨M,n,a⟩:=ae a;cases a;simp only[gY,seval,w,n];apply iU;refine⟨h,?_⟩;and_intros<;>first|rfl|(simp only[gY,seval,w]<;>rfl)
    ·cases a;simp only[gY,seval];apply j8;refine⟨rfl,⟨h,?_,?_,?_⟩⟩;all_goals ((simp only[gY,seval,w]<;>rfl))
   ·rintro x t H e J;obtain⟨k,rfl⟩:∃z,z=L:=⟨_,rfl⟩;dsimp only at J a;obtain⟨rfl,⟨i,G⟩⟩:=J;obtain⟨N,p,a⟩:=ae a;obtain⟨O,q,a⟩:=ae a;obtain⟨P,u,a⟩:=ae a;cases a;simp only[gY,seval,G,p,q,u]
 ·clear a;have a:=C;simp only[gY,seval];apply sp bF a<;>intro _ a
  ·cases a;simp only[gY,seval];rw[aC];refine⟨_,rfl,?_⟩;refine⟨0,0,0,?_,?_,?_,?_,?_,?_,?_⟩;all_goals (rfl)
  ·obtain⟨Q,v,a⟩:=ae a;cases a;simp only[gY,seval,v];rw[aC];refine⟨_,rfl,?_⟩;refine⟨0,0,0,?_,?_,?_,?_,?_,?_,?_⟩;all_goals (rfl)
def sb (l:Option (D×Row)) (d:List D):=eu (gh (j0 (eI .i64)) (dS (j0 (eI .i64)))) (fun x:(List Int)×(List Int)=>tK x.1 x.2) (fun r:(List Int) =>.clean (.sl false false r.length (al (eI .i64) r))) l d
def Cr:Env:=(Am.ext bn 155 false gq)
def Tl:bV prog Cr:=(bV.none.add qO false)
def eY:=ai @w<|ai @p5<|@Cr.eq_1
def He:cn prog 116 sb:=cn.jx (mode := .clean) tok Tl mixed func116 (by kernel_rfl) (fun _ _=>rfl) (fun _=>by kernel_rfl) fun⟨p0,p1⟩ r a=>by
 replace a:tK p0 p1=some r:=a;apply aK rfl ntmps116 results116;simp only[jy];unfold tK at a;simp only[eY,seval,-Int.reduceToNat];obtain⟨o1,P,a⟩:=ae a;refine qV 0 (fun s t H e=>match s with|(b,f)=>t 0=sI b∧t 1=sI f) (fun s=>s=o1) ?_ ?_
 ·rintro⟨b,f⟩ t H e B rfl;try dsimp only at a
  obtain⟨x2,Q,a⟩:=ae a;obtain⟨R,S,T,C,U⟩:=mk_one (eI .i64) Q;simp only[bK]at C;simp only[eY,seval,-Int.reduceToNat,B,R,S,T,C,U];obtain⟨V,D,a⟩:=ae a;refine aA (fun s t H e=>match s with|(E,g,m)=>∃l:Nat,t 0=sI b∧t 1=sI f∧t 5=.buf 5 l 1 0 (m).length∧t 6=sN E∧t 20=sI b∧t 21=sN (b.length:Int)∧t 22=sN g∧H 5=rW l 3 (al (eI .i64) m)) (fun o x t H e=>match o with|(d,h)=>x=.exit 0∧∃n:Nat,t 0=sI b∧t 5=.buf 5 n 1 0 (h).length∧t 6=sN d∧H 5=rW n 3 (al (eI .i64) h)) D ?_ ?_ ?_
  ·refine⟨e,?_⟩;and_intros<;>first|rfl|(simp only[eY,seval,-Int.reduceToNat,B]<;>rfl)
  ·rintro⟨E,g,m⟩ t H e ⟨l,A⟩ c a;simp only[sD]at a;simp only[eY,seval,-Int.reduceToNat,A];apply sp ax a<;>intro _ a
   ·obtain⟨aa,F,a⟩:=ae a;have i:=bk (eI .i64) F;simp only[bK]at i;simp only[eY,seval,-Int.reduceToNat,A,i];obtain⟨W,G,a⟩:=ae a;refine qV 0 (fun s t H e=>match s with|j=>∃k:Nat,t 0=sI b∧t 1=sI f∧t 5=.buf 5 k 1 0 (m).length∧t 6=sN j∧t 7=sN g∧t 20=sI b∧t 21=sN (b.length:Int)∧t 22=sN g∧H 5=rW k 3 (al (eI .i64) m)) (fun s=>s=W) ?_ ?_
    ·rintro j t H e ⟨k,I⟩ rfl;try dsimp only at a
     obtain⟨ab,p,a⟩:=ae a;have q:=bk (eI .i64) p;simp only[bK]at q;have J:=fL (eI .i64) (x':=mR .and .i64 j 1048575) (fo:=0) (cs:=[.int .i64 (mR .and .i64 j 1048575)]) p rfl (akW rfl);simp only[bK,Nat.add_zero]at J;have u:=J;simp only[putCells,List.length_cons,List.length_nil,akl]at u;obtain⟨ad,K,a⟩:=ae a;have X:=wx K;cases a;simp only[eY,seval,-Int.reduceToNat,i,I,q,u,X];apply iU;refine⟨k,?_⟩;and_intros<;>first|rfl|(simp only[eY,seval,-Int.reduceToNat,I]<;>rfl)
    ·clear a;have a:=G;simp only[eY,seval,-Int.reduceToNat];apply sp ax a<;>intro _ a
     ·obtain⟨ag,L,a⟩:=ae a;have v:=bk (eI .i64) L;simp only[bK]at v;cases a;simp only[eY,seval,-Int.reduceToNat,A,i,v];rw[aC];refine⟨_,rfl,?_⟩;refine⟨l,?_⟩;and_intros<;>first|rfl|(simp only[eY,seval,-Int.reduceToNat,A]<;>rfl)
     ·cases a;simp only[eY,seval,-Int.reduceToNat];rw[aC];refine⟨_,rfl,?_⟩;refine⟨l,?_⟩;and_intros<;>first|rfl|(simp only[eY,seval,-Int.reduceToNat,A]<;>rfl)
   ·cases a;simp only[eY,seval,-Int.reduceToNat];apply j8;refine⟨rfl,⟨l,?_,?_,?_,?_⟩⟩;all_goals ((simp only[eY,seval,-Int.reduceToNat,A]<;>rfl))
  ·rintro x t H e Z;rcases V with⟨d,h⟩;dsimp only at Z a;obtain⟨rfl,⟨n,Y⟩⟩:=Z;obtain⟨ah,w,a⟩:=ae a;have y:=bk (eI .i64) w;simp only[bK]at y;have M:=fL (eI .i64) (x':=d) (fo:=0) (cs:=[.int .i64 d]) w rfl (akW rfl);simp only[bK,Nat.add_zero]at M;have z:=M;simp only[putCells,List.length_cons,List.length_nil,akl]at z;have N:=p5 (h.set ((b.length:Int)).toNat d);simp only[alg]at N;obtain⟨ai,O,a⟩:=ae a;cases a;simp only[eY,seval,-Int.reduceToNat,Y,y,z,N,O]
 ·clear a;have a:=P;simp only[eY,seval,-Int.reduceToNat];apply sp ax a<;>intro _ a
  ·cases a;simp only[eY,seval,-Int.reduceToNat];rw[aC];refine⟨_,rfl,?_⟩;refine⟨?_,?_⟩;all_goals (rfl)
  ·cases a;simp only[eY,seval,-Int.reduceToNat];rw[aC];refine⟨_,rfl,?_⟩;refine⟨?_,?_⟩;all_goals (rfl)
def pC (l:Option (D×Row)) (d:List D):=eu (gh (j0 (eI .i64)) (dS (j0 (eI .i64)))) (fun x:(List Int)×(List Int)=>tL x.1 x.2) (fun r:(List Int) =>.clean (.sl false false r.length (al (eI .i64) r))) l d
def Cu:Env:=(Am.ext (Am.ext bn 55 false fV) 155 false gq)
def Tp:bV prog Cu:=((bV.none.add iL false).add qO false)
def iC:=ai @w<|ai @dB<|ai @sh0<|ai @gq.eq_1<|@Cu.eq_1
def Hh:cn prog 117 pC:=cn.jx (mode := .clean) tok Tp mixed func117 (by kernel_rfl) (fun _ _=>rfl) (fun _=>by kernel_rfl) fun⟨M,D⟩ r a=>by
 replace a:tL M D=some r:=a;apply aK rfl ntmps117 results117;simp only[jy];unfold tL at a;obtain⟨K,E,a⟩:=ae a;simp only[iC,seval,-Int.reduceToNat,E];obtain⟨F,q,a⟩:=ae a;refine aA (fun s t H e=>match s with|(u,d,i)=>∃h:Nat,t 1=sI D∧t 5=.buf 5 h 1 0 (i).length∧t 6=sN u∧t 12=sN ((K).length:Int)∧t 13=sN d∧H 5=rW h 3 (al (eI .i64) i)) (fun o x t H e=>match o with|j=>x=.exit 0∧∃k:Nat,t 5=.buf 5 k 1 0 (j).length∧H 5=rW k 3 (al (eI .i64) j)) q ?_ ?_ ?_
 ·refine⟨1,?_,?_,?_,?_,?_,?_⟩;all_goals (rfl)
 ·rintro⟨u,d,i⟩ t H e ⟨h,p⟩ c a;simp only[vM]at a;simp only[iC,seval,-Int.reduceToNat,p];apply sp ax a<;>intro _ a
  ·obtain⟨N,l,a⟩:=ae a;have b:=bk (eI .i64) l;simp only[bK]at b;simp only[iC,seval,-Int.reduceToNat,p,b];obtain⟨G,v,a⟩:=ae a;refine qV 0 (fun s t H e=>match s with|f=>∃g:Nat,t 1=sI D∧t 5=.buf 5 g 1 0 (i).length∧t 7=sN d∧t 8=sN f∧t 12=sN ((K).length:Int)∧t 13=sN d∧H 5=rW g 3 (al (eI .i64) i)) (fun s=>s=G) ?_ ?_
   ·rintro f t H e ⟨g,w⟩ rfl;try dsimp only at a
    obtain⟨O,y,a⟩:=ae a;have I:=wx y;have b:=bk (eI .i64) l;simp only[bK]at b;have A:=fL (eI .i64) (x':=mR .and .i64 f 1048575) (fo:=0) (cs:=[.int .i64 (mR .and .i64 f 1048575)]) l rfl (akW rfl);simp only[bK,Nat.add_zero]at A;have m:=A;simp only[putCells,List.length_cons,List.length_nil,akl]at m;cases a;simp only[iC,seval,-Int.reduceToNat,w,I,b,m];apply iU;refine⟨g,?_⟩;and_intros<;>first|rfl|(simp only[iC,seval,-Int.reduceToNat,w]<;>rfl)
   ·clear a;have a:=v;simp only[iC,seval,-Int.reduceToNat];apply sp ax a<;>intro _ a
    ·obtain⟨P,B,a⟩:=ae a;have n:=bk (eI .i64) B;simp only[bK]at n;cases a;simp only[iC,seval,-Int.reduceToNat,p,b,n];rw[aC];refine⟨_,rfl,?_⟩;refine⟨h,?_⟩;and_intros<;>first|rfl|(simp only[iC,seval,-Int.reduceToNat,p]<;>rfl)
    ·cases a;simp only[iC,seval,-Int.reduceToNat];rw[aC];refine⟨_,rfl,?_⟩;refine⟨h,?_⟩;and_intros<;>first|rfl|(simp only[iC,seval,-Int.reduceToNat,p]<;>rfl)
  ·cases a;simp only[iC,seval,-Int.reduceToNat];apply j8;refine⟨rfl,⟨h,?_,?_⟩⟩;all_goals ((simp only[iC,seval,-Int.reduceToNat,p]<;>rfl))
 ·rintro x t H e L;obtain⟨j,rfl⟩:∃z,z=F:=⟨_,rfl⟩;dsimp only at L a;obtain⟨rfl,⟨k,J⟩⟩:=L;obtain⟨Q,C,a⟩:=ae a;cases a;simp only[iC,seval,-Int.reduceToNat,J,C]
def yE (l:Option (D×Row)) (d:List D):=eu (gh (bU jI) (dS (bU jI))) (fun x:aL×aL=>rL x.1 x.2) (fun r:aL×aL×Int =>.clean (.tup [.agg [.int .i64 r.1.aq,.sl false false r.1.aa.length (al (eI .i64) r.1.aa)],.agg [.int .i64 r.2.1.aq,.sl false false r.2.1.aa.length (al (eI .i64) r.2.1.aa)],.int .i64 r.2.2])) l d
def Yi (a:(List Int)) (b:(List Int)):sb none [.sl false false a.length (al (eI .i64) a),.sl false false b.length (al (eI .i64) b)]=(tK a b).map fun r:(List Int)=>(.clean (.sl false false r.length (al (eI .i64) r)),none):=cD _ _ _ (a,b)
def Cm:Env:=(Am.ext (Am.ext (Am.ext (Am.ext (Am.ext bn 103 false bR) 113 false cH) 116 false sb) 117 false pC) 147 false pB)
def Tf:bV prog Cm:=(((((bV.none.add ij false).add kK false).add He false).add Hh false).add Hf false)
def fG:=ai @w<|ai @Ip<|ai @bR.eq_1<|ai @Y0<|ai @cH.eq_1<|ai @Y1<|ai @pC.eq_1<|ai @pB.eq_1<|@Cm.eq_1
def TG:cn prog 118 yE:=cn.jx (mode := .clean) tok Tf mixed func118 (by kernel_rfl) (fun _ _=>rfl) (fun _=>by kernel_rfl) fun⟨o,p⟩ r a=>by
 replace a:rL o p=some r:=a;apply aK rfl ntmps118 results118;simp only[jy];unfold rL at a;obtain⟨P,z,a⟩:=ae a;simp only[fG,seval,z];obtain⟨G,A,a⟩:=ae a;refine cR 0 (fun s t H e=>match s with|m=>∃b:Nat,∃c:Nat,∃d:Nat,∃f:Nat,t 2=.ptr 2 b 0∧t 3=.ptr 3 c 0∧t 4=.ptr 4 d 0∧t 5=.ptr 5 f 0∧t 9=.bool m∧H 2=rV b 39 [sN o.aq,sI o.aa]∧H 3=rV c 39 [sN p.aq,sI p.aa]∧H 4=rV d 39 [sN 0,.sl true true 0 []]∧H 5=rV f 39 [sN 0,.sl true true 0 []]) (fun s=>s=G) ?_ ?_
 ·rintro m t H e ⟨b,c,d,f,g⟩ rfl;try dsimp only at a
  simp only[fG,seval,g];apply sp ax a<;>intro _ a
  ·cases a;simp only[fG,seval,g]
  ·simp only[fG,seval,g];apply sp ax a<;>intro _ a
   ·cases a;simp only[fG,seval,g]
   ·obtain⟨B,C,a⟩:=ae a;simp only[fG,seval,g,C];obtain⟨I,D,a⟩:=ae a;refine cR 0 (fun s t H e=>match s with|h=>∃i:Nat,∃j:Nat,∃k:Nat,∃l:Nat,t 2=.ptr 2 i 0∧t 3=.ptr 3 j 0∧t 4=.ptr 4 k 0∧t 5=.ptr 5 l 0∧t 7=sI B.1∧t 8=sI B.2∧t 44=.bool h∧H 2=rV i 39 [sN o.aq,sI o.aa]∧H 3=rV j 39 [sN p.aq,sI p.aa]∧H 4=rV k 39 [sN 0,.sl true true 0 []]∧H 5=rV l 39 [sN 0,.sl true true 0 []]) (fun s=>s=I) ?_ ?_
    ·rintro h t H e ⟨i,j,k,l,n⟩ rfl;try dsimp only at a
     simp only[fG,seval,n];apply sp ax a<;>intro _ a
     ·have F:=Yi B.1 ([1]);simp only[bY,bK,List.length_cons,akl]at F;obtain⟨Q,E,a⟩:=ae a;obtain⟨J,q,a⟩:=ae a;obtain⟨K,u,a⟩:=ae a;obtain⟨L,v,a⟩:=ae a;simp only[fG,seval,n,F,E,q,u,v];refine bP (by kernel_rfl) ?_;cases a;simp only[seval]
     ·obtain⟨M,w,a⟩:=ae a;obtain⟨N,x,a⟩:=ae a;simp only[fG,seval,n,w,x];refine bP (by kernel_rfl) ?_;cases a;simp only[seval]
    ·clear a;have a:=D;simp only[fG,seval];apply sp ik a<;>intro _ a
     ·cases a;simp only[fG,seval];rw[aC];refine⟨_,rfl,?_⟩;refine⟨b,c,d,f,?_⟩;and_intros<;>first|rfl|(simp only[fG,seval,g]<;>rfl)
     ·cases a;simp only[fG,seval];rw[aC];refine⟨_,rfl,?_⟩;refine⟨b,c,d,f,?_⟩;and_intros<;>first|rfl|(simp only[fG,seval,g]<;>rfl)
 ·clear a;have a:=A;simp only[fG,seval];apply sp bF a<;>intro _ a
  ·cases a;simp only[fG,seval];rw[aC];refine⟨_,rfl,?_⟩;refine⟨0,0,0,0,?_,?_,?_,?_,?_,?_,?_,?_,?_⟩;all_goals (rfl)
  ·obtain⟨O,y,a⟩:=ae a;cases a;simp only[fG,seval,y];rw[aC];refine⟨_,rfl,?_⟩;refine⟨0,0,0,0,?_,?_,?_,?_,?_,?_,?_,?_,?_⟩;all_goals (rfl)
def gr (l:Option (D×Row)) (d:List D):=eu (gh (bU jI) (dS (bU jI))) (fun x:aL×aL=>oM x.1 x.2) (fun r:ak×Int =>.clean (.tup [.agg [.int .i64 r.1.bQ.aq,.sl false false r.1.bQ.aa.length (al (eI .i64) r.1.bQ.aa),.int .i64 r.1.bX.aq,.sl false false r.1.bX.aa.length (al (eI .i64) r.1.bX.aa)],.int .i64 r.2])) l d
def Ak:Env:=(Am.ext (Am.ext (Am.ext (Am.ext bn 71 false pA) 103 false bR) 104 false pz) 118 false yE)
def PG:bV prog Ak:=((((bV.none.add Hd false).add ij false).add Hc false).add TG false)
def fA:=ai @w<|ai @Ip<|ai @pA.eq_1<|ai @bR.eq_1<|ai @NO<|ai @pz.eq_1<|ai @yE.eq_1<|@Ak.eq_1
def tX:cn prog 63 gr:=cn.jx (mode := .clean) tok PG mixed func63 (by kernel_rfl) (fun _ _=>rfl) (fun _=>by kernel_rfl) fun⟨u,v⟩ r a=>by
 replace a:oM u v=some r:=a;apply aK rfl ntmps63 results63;simp only[jy];unfold oM at a;obtain⟨J,w,a⟩:=ae a;simp only[fA,seval,w];obtain⟨D,x,a⟩:=ae a;refine cR 0 (fun s t H e=>match s with|k=>∃b:Nat,∃c:Nat,∃d:Nat,t 2=.ptr 2 b 0∧t 3=.ptr 3 c 0∧t 4=.ptr 4 d 0∧t 14=.bool k∧H 2=rV b 39 [sN u.aq,sI u.aa]∧H 3=rV c 39 [sN v.aq,sI v.aa]∧H 4=rV d 41 [sN 0,.sl true true 0 [],sN 0,.sl true true 0 []]) (fun s=>s=D) ?_ ?_
 ·rintro k t H e ⟨b,c,d,f⟩ rfl;try dsimp only at a
  simp only[fA,seval,f];apply sp ax a<;>intro _ a
  ·cases a;simp only[fA,seval,f]
  ·simp only[fA,seval,f];apply sp ax a<;>intro _ a
   ·cases a;simp only[fA,seval,f]
   ·simp only[fA,seval,f];obtain⟨E,y,a⟩:=ae a;refine qV 0 (fun s t H e=>match s with|(g,h,i,j)=>∃l:Nat,∃m:Nat,∃n:Nat,t 2=.ptr 2 l 0∧t 3=.ptr 3 m 0∧t 4=.ptr 4 n 0∧H 2=rV l 39 [sN g,sI h]∧H 3=rV m 39 [sN i,sI j]∧H 4=rV n 41 [sN 0,.sl true true 0 [],sN 0,.sl true true 0 []]) (fun s=>s=E) ?_ ?_
    ·rintro⟨g,h,i,j⟩ t H e ⟨l,m,n,z⟩ rfl;try dsimp only at a
     obtain⟨K,A,a⟩:=ae a;obtain⟨L,B,a⟩:=ae a;obtain⟨M,C,a⟩:=ae a;cases a;simp only[fA,seval,z,A,B,C]
    ·clear a;have a:=y;simp only[fA,seval];apply sp ax a<;>intro _ a
     ·obtain⟨F,o,a⟩:=ae a;obtain⟨G,p,a⟩:=ae a;simp only[fA,seval,f,o,p];refine bP (by kernel_rfl) ?_;cases a;rw[aC];refine⟨_,rfl,?_⟩;refine⟨b,c,d,?_⟩;and_intros<;>first|rfl|(simp only[fA,seval,f]<;>rfl)
     ·cases a;simp only[fA,seval];rw[aC];refine⟨_,rfl,?_⟩;refine⟨b,c,d,?_,?_,?_,?_,?_,?_⟩;all_goals ((simp only[fA,seval,f]<;>rfl))
 ·clear a;have a:=x;simp only[fA,seval];apply sp bF a<;>intro _ a
  ·cases a;simp only[fA,seval];rw[aC];refine⟨_,rfl,?_⟩;refine⟨0,0,0,?_,?_,?_,?_,?_,?_,?_⟩;all_goals (rfl)
  ·obtain⟨I,q,a⟩:=ae a;cases a;simp only[fA,seval,q];rw[aC];refine⟨_,rfl,?_⟩;refine⟨0,0,0,?_,?_,?_,?_,?_,?_,?_⟩;all_goals (rfl)
def kG (l:Option (D×Row)) (d:List D):=eu (gh (aI .i64) (dS (aI .i64))) (fun x:Int×Int=>tQ x.1 x.2) (fun r:ak×Int =>.clean (.tup [.agg [.int .i64 r.1.bQ.aq,.sl false false r.1.bQ.aa.length (al (eI .i64) r.1.bQ.aa),.int .i64 r.1.bX.aq,.sl false false r.1.bX.aa.length (al (eI .i64) r.1.bX.aa)],.int .i64 r.2])) l d
def Cv:Env:=(Am.ext (Am.ext bn 61 false so) 63 false gr)
def Tq:bV prog Cv:=((bV.none.add KX false).add tX false)
def YX:=ai @w<|ai @Lk<|ai @so.eq_1<|ai @NO<|ai @gr.eq_1<|@Cv.eq_1
def AF:cn prog 57 kG:=cn.jx (mode := .clean) tok Tq mixed func57 (by kernel_rfl) (fun _ _=>rfl) (fun _=>by kernel_rfl) fun⟨e,f⟩ r a=>by
 replace a:tQ e f=some r:=a;apply aK rfl ntmps57 results57;simp only[jy];unfold tQ at a;obtain⟨g,b,a⟩:=ae a;obtain⟨h,c,a⟩:=ae a;obtain⟨i,d,a⟩:=ae a;cases a;simp only[YX,seval,b,c,d]
def mP (l:Option (D×Row)) (d:List D):=eu (gh (aI .i64) (dS (aI .i64))) (fun x:Int×Int=>oP x.1 x.2) (fun r:ak =>.clean (.agg [.int .i64 r.bQ.aq,.sl false false r.bQ.aa.length (al (eI .i64) r.bQ.aa),.int .i64 r.bX.aq,.sl false false r.bX.aa.length (al (eI .i64) r.bX.aa)])) l d
def Gj:Env:=(Am.ext bn 57 false kG)
def XL:bV prog Gj:=(bV.none.add AF false)
def acG:=ai @w<|ai @Ll<|ai @kG.eq_1<|@Gj.eq_1
def CR:cn prog 18 mP:=cn.jx (mode := .clean) tok XL mixed func18 (by kernel_rfl) (fun _ _=>rfl) (fun _=>by kernel_rfl) fun⟨c,d⟩ r a=>by
 replace a:oP c d=some r:=a;apply aK rfl ntmps18 results18;simp only[jy];unfold oP at a;obtain⟨e,b,a⟩:=ae a;cases a;simp only[acG,seval,b]
def qh (l:Option (D×Row)) (d:List D):=eu (as0) (fun x:Unit=>tS) (fun r:aT×(List (List ak)) =>.clean (.tup [.agg [.sl false false r.1.av.length (al (eI .i64) r.1.av),.sl false false r.1.an.length (al bH r.1.an)],.sl false false r.2.length (al (dU ah) r.2)])) l d
def sh9 {β:Type} {F:Unit->Option β} {R:β->RK} : eu (as0) F R none []=(F (())).map fun r=>(R r,none):=cD _ _ _ (())
def uB:Env:=(Am.ext bn 18 false mP)
def Gs:bV prog uB:=(bV.none.add CR false)
def zW:=ai @w<|ai @Ll<|ai @mP.eq_1<|@uB.eq_1
def Hk:cn prog 37 qh:=cn.jx (mode := .clean) tok Gs mixed func37 (by kernel_rfl) (fun _ _=>rfl) (fun _=>by kernel_rfl) fun _ r a=>by
 replace a:tS=some r:=a;apply aK rfl ntmps37 results37;simp only[jy];unfold tS at a;obtain⟨f,b,a⟩:=ae a;obtain⟨g,c,a⟩:=ae a;obtain⟨h,d,a⟩:=ae a;obtain⟨i,e,a⟩:=ae a;simp only[zW,seval,b,c,d,e];refine bP (by kernel_rfl) ?_;cases a;simp only[zW,seval]
def dp (l:Option (D×Row)) (d:List D):=eu (gh (aI .i64) (gh (aI .i64) (dS (aI .i64)))) (fun x:Int×Int×Int=>fu x.1 x.2.1 x.2.2) (fun r:Bool =>.clean (.bool r)) l d
def IZ {β:Type} {F:Int×Int×Int->Option β} {R:β->RK} (a:Int) (b:Int) (c:Int):eu (gh (aI .i64) (gh (aI .i64) (dS (aI .i64)))) F R none [.int .i64 a,.int .i64 b,.int .i64 c]=(F (a,b,c)).map fun r=>(R r,none):=cD _ _ _ (a,b,c)
def nc:cn prog 81 dp:=cn.jx (mode := .clean) tok bV.none mixed func81 (by kernel_rfl) (fun _ _=>rfl) (fun _=>by kernel_rfl) fun⟨b,c,d⟩ r a=>by
 replace a:fu b c d=some r:=a;apply aK rfl ntmps81 results81;simp only[jy];unfold fu at a;simp only[w,seval];apply sp ik a<;>intro _ a
 ·cases a;simp only[w,seval]
 ·cases a;simp only[w,seval]
def cX (l:Option (D×Row)) (d:List D):=eu (dS (aI .i64)) (fun x:Int=>gO x) (fun r:ak =>.clean (.agg [.int .i64 r.bQ.aq,.sl false false r.bQ.aa.length (al (eI .i64) r.bQ.aa),.int .i64 r.bX.aq,.sl false false r.bX.aa.length (al (eI .i64) r.bX.aa)])) l d
def Ai:Env:=(Am.ext bn 61 false so)
def PE:bV prog Ai:=(bV.none.add KX false)
def Ux:=ai @w<|ai @Lk<|ai @so.eq_1<|@Ai.eq_1
def lE:cn prog 21 cX:=cn.jx (mode := .clean) tok PE mixed func21 (by kernel_rfl) (fun _ _=>rfl) (fun _=>by kernel_rfl) fun d r a=>by
 replace a:gO d=some r:=a;apply aK rfl ntmps21 results21;simp only[jy];unfold gO at a;obtain⟨e,b,a⟩:=ae a;obtain⟨f,c,a⟩:=ae a;cases a;simp only[Ux,seval,b,c]
def yF (l:Option (D×Row)) (d:List D):=eu (dS (bU jI)) (fun x:aL=>yO x) (fun r:Int×Bool =>.clean (.tup [.int .i64 r.1,.bool r.2])) l d
def Co:Env:=(Am.ext bn 103 false bR)
def Th:bV prog Co:=(bV.none.add ij false)
def bW:=ai @w<|ai @Ip<|ai @bR.eq_1<|@Co.eq_1
def TH:cn prog 148 yF:=cn.jx (mode := .clean) tok Th mixed func148 (by kernel_rfl) (fun _ _=>rfl) (fun _=>by kernel_rfl) fun d r a=>by
 replace a:yO d=some r:=a;apply aK rfl ntmps148 results148;simp only[jy];unfold yO at a;obtain⟨R,G,a⟩:=ae a;simp only[bW,seval,-Int.reduceToNat,G];obtain⟨O,I,a⟩:=ae a;refine cR 0 (fun s t H e=>match s with|j=>∃f:Nat,t 1=.ptr 1 f 0∧t 15=.bool j∧H 1=rV f 39 [sN d.aq,sI d.aa]) (fun s=>s=O) ?_ ?_
 ·rintro j t H e ⟨f,v⟩ rfl;try dsimp only at a
  simp only[bW,seval,-Int.reduceToNat,v];apply sp ax a<;>intro _ a
  ·cases a;simp only[bW,seval,-Int.reduceToNat]
  ·simp only[bW,seval,-Int.reduceToNat,v];obtain⟨J,z,a⟩:=ae a;refine aA (fun s t H e=>match s with|(w,g)=>∃i:Nat,t 1=.ptr 1 i 0∧t 4=.int .u64 w∧t 17=sI d.aa∧t 18=sN (d.aa.length:Int)∧t 19=sN g∧H 1=rV i 39 [sN d.aq,sI d.aa]) (fun o x t H e=>match o with|(.inl k)=>x=.exit 0∧∃b:Nat,t 1=.ptr 1 b 0∧t 4=.int .u64 k∧H 1=rV b 39 [sN d.aq,sI d.aa]|(.inr r)=>x=.ret∧gu .clean tab none [.tmp 2,.tmp 3] ⟨t,EH H,e⟩=some (.clean (.tup [.int .i64 r.1,.bool r.2]),none)) z ?_ ?_ ?_
   ·refine⟨f,?_⟩;and_intros<;>first|rfl|(simp only[bW,seval,-Int.reduceToNat,v]<;>rfl)
   ·rintro⟨w,g⟩ t H e ⟨i,A⟩ c a;simp only[vD]at a;simp only[bW,seval,-Int.reduceToNat,A];apply sp ax a<;>intro _ a
    ·obtain⟨K,B,a⟩:=ae a;have u:=bk (eI .i64) B;simp only[bK]at u;simp only[bW,seval,-Int.reduceToNat,A,u];obtain⟨L,C,a⟩:=ae a;refine cR 0 (fun s t H e=>match s with|l=>∃h:Nat,t 1=.ptr 1 h 0∧t 4=.int .u64 w∧t 5=sN g∧t 6=sN K∧t 17=sI d.aa∧t 18=sN (d.aa.length:Int)∧t 19=sN g∧t 29=.bool l∧H 1=rV h 39 [sN d.aq,sI d.aa]) (fun s=>s=L) ?_ ?_
     ·rintro l t H e ⟨h,y⟩ rfl;try dsimp only at a
      simp only[bW,seval,-Int.reduceToNat,y];apply sp ax a<;>intro _ a
      ·cases a;simp only[bW,seval,-Int.reduceToNat];refine tD ⟨rfl,?_⟩;simp only[bW,seval,-Int.reduceToNat]
      ·obtain⟨P,D,a⟩:=ae a;have M:=EX D;cases a;simp only[bW,seval,-Int.reduceToNat,y,M];apply iU;refine⟨h,?_⟩;and_intros<;>first|rfl|(simp only[bW,seval,-Int.reduceToNat,y]<;>rfl)
     ·clear a;have a:=C;simp only[bW,seval,-Int.reduceToNat];apply sp ik a<;>intro _ a
      ·cases a;simp only[bW,seval,-Int.reduceToNat];rw[aC];refine⟨_,rfl,?_⟩;refine⟨i,?_⟩;and_intros<;>first|rfl|(simp only[bW,seval,-Int.reduceToNat,A]<;>rfl)
      ·cases a;simp only[bW,seval,-Int.reduceToNat];rw[aC];refine⟨_,rfl,?_⟩;refine⟨i,?_⟩;and_intros<;>first|rfl|(simp only[bW,seval,-Int.reduceToNat,A]<;>rfl)
    ·cases a;simp only[bW,seval,-Int.reduceToNat];apply j8;refine⟨rfl,⟨i,?_,?_,?_⟩⟩;all_goals ((simp only[bW,seval,-Int.reduceToNat,A]<;>rfl))
   ·rintro x t H e F;rcases J with k|S
    ·dsimp only at F a;obtain⟨rfl,⟨b,q⟩⟩:=F;simp only[bW,seval,-Int.reduceToNat,q];obtain⟨N,E,a⟩:=ae a;refine cR 0 (fun s t H e=>match s with|m=>∃n:Nat,t 1=.ptr 1 n 0∧t 4=.int .u64 k∧t 38=.bool m∧H 1=rV n 39 [sN d.aq,sI d.aa]) (fun s=>s=N) ?_ ?_
     ·rintro m t H e ⟨n,p⟩ rfl;try dsimp only at a
      simp only[bW,seval,-Int.reduceToNat,p];apply sp ax a<;>intro _ a
      ·cases a;simp only[bW,seval,-Int.reduceToNat,p]
      ·simp only[bW,seval,-Int.reduceToNat,p];apply sp ik a<;>intro _ a
       ·simp only[bW,seval,-Int.reduceToNat,p];apply sp ax a<;>intro _ a
        ·cases a;simp only[bW,seval,-Int.reduceToNat,p]
        ·cases a;simp only[bW,seval,-Int.reduceToNat]
       ·cases a;simp only[bW,seval,-Int.reduceToNat]
     ·clear a;have a:=E;simp only[bW,seval,-Int.reduceToNat];apply sp ik a<;>intro _ a
      ·cases a;simp only[bW,seval,-Int.reduceToNat,q];rw[aC];refine⟨_,rfl,?_⟩;refine⟨b,?_⟩;and_intros<;>first|rfl|(simp only[bW,seval,-Int.reduceToNat,q]<;>rfl)
      ·cases a;simp only[bW,seval,-Int.reduceToNat];rw[aC];refine⟨_,rfl,?_⟩;refine⟨b,?_⟩;and_intros<;>first|rfl|(simp only[bW,seval,-Int.reduceToNat,q]<;>rfl)
    ·dsimp only at F a;obtain⟨rfl,Q⟩:=F;cases a;simp only[aY,bc,cA,cI];exact Q
 ·clear a;have a:=I;simp only[bW,seval,-Int.reduceToNat];apply sp bF a<;>intro _ a
  ·cases a;simp only[bW,seval,-Int.reduceToNat];rw[aC];refine⟨_,rfl,?_⟩;refine⟨0,?_,?_,?_⟩;all_goals (rfl)
  ·cases a;simp only[bW,seval,-Int.reduceToNat];rw[aC];refine⟨_,rfl,?_⟩;refine⟨0,?_,?_,?_⟩;all_goals (rfl)
def vr (l:Option (D×Row)) (d:List D):=eu (dS (bU jI)) (fun x:aL=>uX x) (fun r:Bool =>.clean (.bool r)) l d
def An:Env:=(Am.ext bn 148 false yF)
def PI:bV prog An:=(bV.none.add TH false)
def AS:=ai @w<|ai @Ip<|ai @yF.eq_1<|@An.eq_1
def Q4:cn prog 105 vr:=cn.jx (mode := .clean) tok PI mixed func105 (by kernel_rfl) (fun _ _=>rfl) (fun _=>by kernel_rfl) fun c r a=>by
 replace a:uX c=some r:=a;apply aK rfl ntmps105 results105;simp only[jy];unfold uX at a;obtain⟨d,b,a⟩:=ae a;simp only[AS,seval,b];apply sp ik a<;>intro _ a
 ·cases a;simp only[AS,seval]
 ·cases a;simp only[AS,seval]
def ba (l:Option (D×Row)) (d:List D):=eu (dS (bU ah)) (fun x:ak=>cP x) (fun r:Bool =>.clean (.bool r)) l d
def kx {β:Type} {F:ak->Option β} {R:β->RK} (c:Int) (a:(List Int)) (d:Int) (b:(List Int)):eu (dS (bU ah)) F R none [.agg [.int .i64 c,.sl false false a.length (al (eI .i64) a),.int .i64 d,.sl false false b.length (al (eI .i64) b)]]=(F ((ak.mk (aL.mk c a) (aL.mk d b)))).map fun r=>(R r,none):=cD _ _ _ ((ak.mk (aL.mk c a) (aL.mk d b)))
def vT:Env:=(Am.ext (Am.ext (Am.ext bn 103 false bR) 104 false pz) 105 false vr)
def IG:bV prog vT:=(((bV.none.add ij false).add Hc false).add Q4 false)
def gg:=ai @w<|ai @Ip<|ai @bR.eq_1<|ai @NO<|ai @pz.eq_1<|ai @vr.eq_1<|@vT.eq_1
def fh:cn prog 54 ba:=cn.jx (mode := .clean) tok IG mixed func54 (by kernel_rfl) (fun _ _=>rfl) (fun _=>by kernel_rfl) fun d r a=>by
 replace a:cP d=some r:=a;apply aK rfl ntmps54 results54;simp only[jy];unfold cP at a;obtain⟨m,g,a⟩:=ae a;simp only[gg,seval,g];obtain⟨l,h,a⟩:=ae a;refine cR 0 (fun s t H e=>match s with|b=>∃c:Nat,t 1=.ptr 1 c 0∧t 20=.bool b∧H 1=rV c 41 [sN d.bQ.aq,sI d.bQ.aa,sN d.bX.aq,sI d.bX.aa]) (fun s=>s=l) ?_ ?_
 ·rintro b t H e ⟨c,f⟩ rfl;try dsimp only at a
  simp only[gg,seval,f];apply sp ax a<;>intro _ a
  ·cases a;simp only[gg,seval]
  ·obtain⟨n,i,a⟩:=ae a;simp only[gg,seval,f,i];apply sp ik a<;>intro _ a
   ·obtain⟨o,j,a⟩:=ae a;cases a;simp only[gg,seval,j]
   ·cases a;simp only[gg,seval]
 ·clear a;have a:=h;simp only[gg,seval];apply sp bF a<;>intro _ a
  ·cases a;simp only[gg,seval];rw[aC];refine⟨_,rfl,?_⟩;refine⟨0,?_,?_,?_⟩;all_goals (rfl)
  ·obtain⟨p,k,a⟩:=ae a;simp only[gg,seval,k];apply sp bF a<;>intro _ a
   ·cases a;simp only[gg,seval];rw[aC];refine⟨_,rfl,?_⟩;refine⟨0,?_,?_,?_⟩;all_goals (rfl)
   ·cases a;simp only[gg,seval];rw[aC];refine⟨_,rfl,?_⟩;refine⟨0,?_,?_,?_⟩;all_goals (rfl)
def cF (l:Option (D×Row)) (d:List D):=eu (dS (bU ah)) (fun x:ak=>iz x) (fun r:Int =>.clean (.int .i64 r)) l d
def xR:Env:=(Am.ext bn 54 false ba)
def Mx:bV prog xR:=(bV.none.add fh false)
def yA:=ai @w<|ai @kx<|ai @ba.eq_1<|@xR.eq_1
def ki:cn prog 24 cF:=cn.jx (mode := .clean) tok Mx mixed func24 (by kernel_rfl) (fun _ _=>rfl) (fun _=>by kernel_rfl) fun c r a=>by
 replace a:iz c=some r:=a;apply aK rfl ntmps24 results24;simp only[jy];unfold iz at a;obtain⟨d,b,a⟩:=ae a;simp only[yA,seval,b];apply sp ax a<;>intro _ a
 ·cases a;simp only[yA,seval]
 ·cases a;simp only[yA,seval]
def yG (l:Option (D×Row)) (d:List D):=eu (gh (bU jI) (dS (bU jI))) (fun x:aL×aL=>yP x.1 x.2) (fun r:aL×Int =>.clean (.tup [.agg [.int .i64 r.1.aq,.sl false false r.1.aa.length (al (eI .i64) r.1.aa)],.int .i64 r.2])) l d
def Cp:Env:=(Am.ext (Am.ext (Am.ext (Am.ext bn 103 false bR) 113 false cH) 114 false mO) 154 false sd)
def Ti:bV prog Cp:=((((bV.none.add ij false).add kK false).add s9 false).add Hg false)
def p8:=ai @w<|ai @Ip<|ai @bR.eq_1<|ai @Y0<|ai @cH.eq_1<|ai @gH<|ai @Y1<|ai @sd.eq_1<|@Cp.eq_1
def TI:cn prog 112 yG:=cn.jx (mode := .clean) tok Ti mixed func112 (by kernel_rfl) (fun _ _=>rfl) (fun _=>by kernel_rfl) fun⟨i,j⟩ r a=>by
 replace a:yP i j=some r:=a;apply aK rfl ntmps112 results112;simp only[jy];unfold yP at a;obtain⟨w,k,a⟩:=ae a;simp only[p8,seval,k];obtain⟨u,l,a⟩:=ae a;refine cR 0 (fun s t H e=>match s with|b=>∃c:Nat,∃d:Nat,∃f:Nat,t 2=.ptr 2 c 0∧t 3=.ptr 3 d 0∧t 4=.ptr 4 f 0∧t 13=.bool b∧H 2=rV c 39 [sN i.aq,sI i.aa]∧H 3=rV d 39 [sN j.aq,sI j.aa]∧H 4=rV f 39 [sN 0,.sl true true 0 []]) (fun s=>s=u) ?_ ?_
 ·rintro b t H e ⟨c,d,f,g⟩ rfl;try dsimp only at a
  simp only[p8,seval,g];apply sp ax a<;>intro _ a
  ·have q:=gH false 0 ([]);simp only[bK]at q;obtain⟨x,m,a⟩:=ae a;cases a;simp only[p8,seval,g,q,m]
  ·obtain⟨y,n,a⟩:=ae a;obtain⟨z,o,a⟩:=ae a;obtain⟨A,p,a⟩:=ae a;simp only[p8,seval,g,n,o,p];refine bP (by kernel_rfl) ?_;cases a;simp only[seval]
 ·clear a;have a:=l;simp only[p8,seval];apply sp bF a<;>intro _ a
  ·cases a;simp only[p8,seval];rw[aC];refine⟨_,rfl,?_⟩;refine⟨0,0,0,?_,?_,?_,?_,?_,?_,?_⟩;all_goals (rfl)
  ·obtain⟨v,h,a⟩:=ae a;cases a;simp only[p8,seval,h];rw[aC];refine⟨_,rfl,?_⟩;refine⟨0,0,0,?_,?_,?_,?_,?_,?_,?_⟩;all_goals (rfl)
section
variable {P:Program} {T:Nat->Option Ty} {N F:Nat} {M:Nat->Prop} {L:kQ} {w0:World} {blk:Nat->Option (Nat×Nat)} {t:Nat->D} {h:Nat->Option Row} {a:Act} {w:World} {e:Nat} {Γ:Env} {done:List Nat}
def GC (d:vx N M L w0 blk e done t h a w):Holds N M L w0 ⟨t,h,e+1⟩ a w:=by
 refine⟨blk,d.inv.weaken fun x v c =>?_,fun x r f s g i j k l m =>?_⟩
 ·rcases c with⟨b,c|⟨c,_⟩⟩|⟨b,o,p,n⟩
  ·exact .inl ⟨b,.inl (by simp only;omega)⟩
  ·exact .inl ⟨b,.inl (by simp only;omega)⟩
  ·exact .inr ⟨b,by simp only;omega,fun _=>by simp only;omega,n⟩
 ·have:=d.nv x r f s g i j k l m;exact⟨by simp only;omega,fun _=>by simp only;omega⟩
def HG (p:jH P T) (q:bV P Γ) {b l:List Oper} {K:(Nat->D)->(Nat->Option Row)->Prop} {Q:Exit->Act->World->Prop} (r:vx N M L w0 blk e done t h a w) (j:(l.filterMap (·.dst)).Nodup) (s:∀o∈l,∀d,o.dst=some d->d∉done)
  (u:mL T Γ N F b l [] (fun _ t h _=>K t h) t h e) (hQ:∀c f g i,K c f->Holds N M L w0 ⟨c,f,e+1⟩ g i->Q .normal g i):wpList P b.toArray Q l a w:=by
 obtain⟨c,f,y,v,x⟩:=BT (T:=T) (Γ:=Γ) (N:=N) (e:=e) (ops:=b.toArray) l t h u;exact AR p q v j s r fun g i n k m=>hQ c f g i x (GC m)
def aaS (p:jH P T) (q:bV P Γ) {b l:List Oper} {o:Oper} {K:(Nat->D)->(Nat->Option Row)->Prop} {Q:Exit->Act->World->Prop} (r:vx N M L w0 blk e done t h a w) (s:∀d,o.dst=some d->d∉done)
  (u:mL T Γ N F b [o] [] (fun _ t h _=>K t h) t h e) (hQ:∀i j k m c,K i j->vx N M L w0 c e (o.dst.toList++done) i j k m->wpList P b.toArray Q l k m):wpList P b.toArray Q (o::l) a w:=by
 obtain⟨i,j,z,g,v⟩:=BT (T:=T) (Γ:=Γ) (N:=N) (e:=e) (ops:=b.toArray) [o] t h u;simp only[C4]at g;split at g
 ·rename_i t1 x f y;simp only[ajw,Prod.mk.injEq]at g;obtain⟨rfl,rfl,_⟩:=g;unfold wpList;exact Nn p q r y s fun k m c n=>hQ _ _ _ _ c v n
 ·cases g
def A6 (m:jH P T) (n:bV P Γ) (o:P.follows .mixedOrders=true) {c:Code} {K:Kt} {Q:Exit->Act->World->Prop} (p:Holds N M L w0 ⟨t,h,e⟩ a w) (g:codeOk c=true) (q:dL T Γ N F [.code c] K .normal t h e)
  (hQ:∀x j k l b d,K x j k l->Holds N M L w0 ⟨j,k,l⟩ b d->Q (Gc x) b d):c.wp P Q a w:=by
 obtain⟨x,f,r,s⟩:=Dh c t h e K q;exact kb m n o c ⟨t,h,e⟩ x f Q a w r g p fun b d i=>hQ x f.t f.h f.e b d s i
def jj.maps {c:Nat->Option Row} (o:∀x,c x=h x∨∃v j k l m a,c x=some ⟨v,j,[.mpc k l],m,a,true⟩):jj e h c:=by
 intro x p d q f g b r n s;rcases o x with i|⟨v,j,k,l,m,a,i⟩
 ·rw[i]at b;exact⟨p,d,q,f,g,b,r,n,.inl rfl⟩
 ·rw[i]at b;cases b;cases n
def aaH {d:Nat} (b:d<N) (f:N<=PK) (c:d∉done):kn N (VE N e done h) d e where
 no:=by
  rintro (⟨_,a|⟨_,a⟩⟩|⟨a,_⟩)
  ·exact absurd a (alq _)
  ·exact c a
  ·have:=du;omega
 lt:=b
end
def map_eraseIdx {α β:Type} (f:α->β):∀(l:List α) (j:Nat),(l.map f).eraseIdx j=(l.eraseIdx j).map f
 | [],_=>rfl
 | a::l,0=>rfl
 | a::l,j+1=>by simp[map_eraseIdx f l j]
def BH {α:Type} : ∀m:List ((Int×Int)×α),fE m=m.map fun q=>Dl.k q.1
 | []=>rfl
 | (k,v)::m=>by simp[fE,BH m]
def GS {α:Type} (A:Arg α):∀m:List ((Int×Int)×α),ig A m=m.map fun q=>A.d q.2
 | []=>rfl
 | (k,v)::m=>by simp[ig,GS A m]
def Hu {α:Type} : ∀ {l:List α} {j:Nat} {q:α},l[j]? = some q->l.Perm (q::l.eraseIdx j)
 | [],_,_,h=>by simp at h
 | a::l,0,q,h=>by simp only[List.getElem?_cons_zero,ajw]at h;subst h;exact List.Perm.refl _
 | a::l,j+1,q,h=>by
  simp only[List.getElem?_cons_succ]at h;exact ((Hu h).cons a).trans (List.Perm.swap q a _)
def kC (q:(Int×Int)×ak):cu:=cu.mk q.1.1 q.1.2 q.2
def agu (r:gS×Int) (t:Nat->D) (h:Nat->Option Row) (e:Nat):Prop:=∃(m:List ((Int×Int)×ak)) (a:Int) (b c d f:Nat),t 6=.mp 21 b∧h 21=some ⟨b,113,[.mpc (fE m) (ig (bU ah) m)],false,true,true⟩ ∧
 t 9=.ptr 9 c 0∧h 9=some ⟨c,66,[.nr 118 6 f [.int .i64 a,.nx 0 []]],false,false,true⟩∧t 2=.ptr 2 d 0∧h 2=some ⟨d,66,[.int .i64 0,.sl true true 0 []],false,false,false⟩∧f<=4*e∧ET a m=some r
def E7:=mkW 118 cq (dS (NN 67)) (fun (l:List cu) (_:Unit)=>Ea (kZ cu.db cu.kq) l) (fun _:Unit =>.clean (.tup []))
def abK (b a:List D) (c:List cu):E7 (some (.buf 0 0 6 b.length c.length,⟨0,118,b++(al cq c++a),false,true,false⟩)) [.fn 67]=(Ea (kZ cu.db cu.kq) c).map fun r=>(.clean (.tup []),some ⟨0,118,b++(al cq r.1++a),false,true,false⟩):=abo _ _ _ _ _ b a c ()
def Ye:cn prog 66 E7:=M0 xH (fun x=>by rw[rQ];rfl) (fun x=>by rw[rQ];rfl) 118
def Td:Env:=(Am.w9 9 (118,6,1) (Am.ext bn 66 true E7))
def tR:bV prog Td:=bV.w9 (bV.none.add Ye true) 9 (118,6,1)
def yB:=ai @w<|@Td.eq_1
def UC (m:List ((Int×Int)×ak)) (a:Int) (d:List ((Int×Int)×ak)) (t:Nat->D) (h:Nat->Option Row) (e:Nat):Prop:=∃(f:List dY) (g:List D) (b:List cu) (i c j k l:Nat),
 t 44=.ptr 44 i 0∧h 44=some ⟨i,c,[.mpc f g],false,true,true⟩∧900000<=c∧f.drop (c-900000)=fE d∧g.drop (c-900000)=ig (bU ah) d ∧
 t 9=.ptr 9 j 0∧h 9=some ⟨j,66,[.nr 118 6 l [.int .i64 a,.nx b.length (al cq b)]],false,false,true⟩∧t 2=.ptr 2 k 0∧h 2=some ⟨k,66,[.int .i64 0,.sl true true 0 []],false,false,false⟩∧l<=4*e∧(b++d.map kC).Perm (m.map kC)
def adA {m:List ((Int×Int)×ak)} {c:Int} (B:m.length<=8000∧(m.map (·.1)).Nodup) {t:Nat->D} {h:Nat->Option Row} {e:Nat} {w0:World} {M:Nat->Prop} {a:Act} {w:World} (C:UC m c [] t h e) (E:Holds 65 M none w0 ⟨t,h,e⟩ a w) :
  (Da 0 (Da 5 (ZN Tryz.f26))).wp prog (bodyPost prog Tryz.f26 fun e o=>∃v,e=.returned v∧Below w0.heap.size w0 o∧xh w0 o M (fun _=>False) v (.clean (.tup [.agg [.int .i64 c,.sl false false (rA (kZ cu.db cu.kq) (m.map kC)).length (al cq (rA (kZ cu.db cu.kq) (m.map kC)))],.int .i64 0]))) a w:=by
 obtain⟨ks,vs,b,vI,ty,v9,v2,nv,i1,i2,i3,i4,i5,G,H,I,J,L,d⟩:=C;rw[aj5,ak5]at d;have hkey:∀x∈b,∀y∈b,kZ cu.db cu.kq x y=0->x=y:=by
  intro x r y s N;obtain⟨p,O,rfl⟩:=ajn.1 (d.mem_iff.1 r);obtain⟨q,P,rfl⟩:=ajn.1 (d.mem_iff.1 s);obtain⟨Q,R⟩:=Uc.1 N;have S:p.1=q.1:=Prod.ext Q R;have:p=q:=by
   obtain⟨i,T,rfl⟩:=alr O;obtain⟨j,U,rfl⟩:=alr P;have:=(List.getElem_inj (h₀:=by simpa using T) (h₁:=by simpa using U) B.2).1 (by simpa using S);subst this;rfl
  rw[this]
 have f:rA (kZ cu.db cu.kq) b=rA (kZ cu.db cu.kq) (m.map kC):=by
  refine qz (((jC _ b).trans d).trans (jC _ _).symm) (fun x r y s h1 h2=>hkey x ((jC _ b).mem_iff.1 r) y ((jC _ b).mem_iff.1 s) ?_) (oO (vd _ _) _) (oO (vd _ _) _);have:=(vd cu.db cu.kq).neg x y;have:=(vd cu.db cu.kq).neg y x;omega
 have g:b.length=m.length:=by rw[d.length_eq,ajP]
 have z:Ea (kZ cu.db cu.kq) b=some (rA (kZ cu.db cu.kq) (m.map kC),()):=by
  unfold Ea;rw[if_pos ⟨by omega,hkey⟩,f]
 have k:(rA (kZ cu.db cu.kq) (m.map kC)).length=b.length:=by rw[pT,ajP,g]
 generalize rA (kZ cu.db cu.kq) (m.map kC)=l at z k ⊢;have A:=abK [] [] b;simp only[List.nil_append,ak5,List.length_nil,bK]at A;refine (show (Code.seq (Code.region _ _ _) (Code.seq (Code.region _ _ _) Code.ret)).wp _ _ _ _ from ?_);refine A6 (F:=FU) tok tR mixed E (by kernel_rfl) (K:=fun x t h e=>x=.ret∧gu .clean tab none [.cell 2 66,.tmp 3] ⟨t,EH h,e⟩=some (.clean (.tup [.agg [.int .i64 c,.sl false false l.length (al cq l)],.int .i64 0]),none)) ?_ ?_
 ·simp only[yB,seval,G,H,I,J,A,z,k]
 ·rintro x V W X Y o ⟨rfl,Z⟩ u;have n:Holds Tryz.f26.ntmps M none w0 ⟨V,W,X⟩ Y o:=by rw[ntmps26];exact u
  exact J9 tok n (by rw[results26];exact Z)
def abx (r:gS×Int):N0 prog Tryz.f26 (Da 5 (ZN Tryz.f26)) (.clean (.tup [.agg [.int .i64 r.1.aB,.sl false false r.1.bd.length (al cq r.1.bd)],.int .i64 r.2])) (agu r):=by
 intro w0 M s a w hJ E;obtain⟨t0,h0,H⟩:=s;obtain⟨m,c,g,z,A,P,j1,j2,j3,j4,j5,j6,j7,Q⟩:=hJ;dsimp only at j1 j2 j3 j4 j5 j6 j7;unfold ET at Q
 by_cases hc:m.length<=8000∧(m.map (·.1)).Nodup
 rotate_left
 ·rw[if_neg hc]at Q;cases Q
 rw[if_pos hc]at Q;cases Q;rw[ntmps26]at E;apply wp_seq;apply wp_seq;obtain⟨blk,B⟩:=E;apply wp_region_lit;refine aaS (F:=FU) tok tR B (fun d _=>by simp) (K:=fun t h=>t=b8 t0 43 (.mp 21 g)∧h=h0) (by simp only[yB,seval,j1,j2]) ?_;rintro t1 h1 a1 w1 ao ⟨rfl,rfl⟩ G;refine Cd rfl G (by decide) (K:=fun t h=>t=b8 (b8 t0 43 (.mp 21 g)) 44 (.ptr 44 H 0)∧h=b8 (b8 h1 21 (some ⟨g,113,[.mpc (fE m) (ig (bU ah) m)],true,true,true⟩)) 44 (some ⟨H,900000,[.mpc (fE m) (ig (bU ah) m)],false,true,true⟩)) ?_ ?_
 ·refine e9.mono (SX tok G.inv (e:=H) (ty:=113) (d:=44) (k:=116) (el:=41) (x:=21) (v:=g) (v':=g) (m := .tmp 43) rfl rfl (aaH (by decide) (by rw[du];decide) (by simp)) underlying113 (by simp[ev,ay]) j2 (by decide) (by rw[du];decide) (by decide)) fun v w' hA=>⟨_,⟨rfl,rfl⟩,yL G (fun d I =>?_) (jj.maps fun x =>?_) hA⟩
  ·cases I;exact⟨by simp,by decide⟩
  ·show b8 (b8 h1 21 _) 44 _ x=_∨_
   by_cases l:x=44
   ·subst l;rw[ay];exact .inr ⟨_,_,_,_,_,_,rfl⟩
   ·rw[az _ _ l]
    by_cases R:x=21
    ·subst R;rw[ay];exact .inr ⟨_,_,_,_,_,_,rfl⟩
    ·rw[az _ _ R];exact .inl rfl
 ·rintro t2 h2 S T aq ⟨rfl,rfl⟩ U;have V:=GC U;have W:UC m c m (b8 (b8 t0 43 (.mp 21 g)) 44 (.ptr 44 H 0)) (b8 (b8 h1 21 (some ⟨g,113,[.mpc (fE m) (ig (bU ah) m)],true,true,true⟩)) 44 (some ⟨H,900000,[.mpc (fE m) (ig (bU ah) m)],false,true,true⟩)) (H+1) :=
   ⟨_,_,[],H,900000,z,A,P,ay _ _ _,ay _ _ _,ajo _,by rw[akq,akD],by rw[akq,akD],by rw[az _ _ (by decide),az _ _ (by decide)];exact j3,by rw[az _ _ (by decide),az _ _ (by decide)];exact j4,by rw[az _ _ (by decide),az _ _ (by decide)];exact j5,by rw[az _ _ (by decide),az _ _ (by decide)];exact j6,by omega,List.Perm.refl _⟩
  apply wp_block;refine wp_loop_ghost (fun n a w=>∃(o:List ((Int×Int)×ak)) (t:Nat->D) (h:Nat->Option Row) (e:Nat),o.length=n∧UC m c o t h e∧Holds 65 M none w0 ⟨t,h,e⟩ a w) m.length ⟨m,_,_,_,rfl,W,V⟩ ?_;clear W V U G B j1 j2 j3 j4 j5 j6 j7;rintro n a w ⟨o,t,h,e,hn,⟨ks,vs,f,C,ty,z,A,P,i1,i2,i3,X,i5,i6,i7,i8,i9,av,J⟩,blk,B⟩;replace B:vx 65 M none w0 blk e [] t h a w:=B;apply wp_seq;apply wp_region_lit;refine Cd rfl B (by decide) (K:=fun t' h'=>(o=[]∧t'=b8 t 45 (.tup [.bool false])∧h'=h)∨∃(k:Int×Int) (x:ak) (b:List ((Int×Int)×ak)),(o.map kC).Perm (kC (k,x)::b.map kC)∧o.length=b.length+1 ∧
   t'=b8 t 45 (.tup [.bool true,.agg [.int .i64 k.1,.int .i64 k.2],.agg [.int .i64 x.bQ.aq,.sl false false x.bQ.aa.length (al (eI .i64) x.bQ.aa),.int .i64 x.bX.aq,.sl false false x.bX.aa.length (al (eI .i64) x.bX.aa)]]) ∧
   h'=b8 h 44 (some ⟨C,900001,[.mpc (fE ((k,x)::b)) (ig (bU ah) ((k,x)::b))],false,true,true⟩)) ?_ ?_
  ·refine e9.mono (Xx B.inv (e:=e) (y:=44) (p := .tmp 44) rfl (by simp[ev,i1]) i2 i3 (by rw[du];decide)) ?_;rintro v w' (⟨L,N⟩|⟨j,k,x,L,N,Y⟩)
   ·rw[X,BH]at L;have ad:o=[]:=List.map_eq_nil_iff.1 L;exact⟨_,.inl ⟨ad,rfl,rfl⟩,yL B (fun d I=>by cases I;exact⟨by simp,by decide⟩) (jj.maps fun x =>.inl rfl) N⟩
   ·rw[X,i5]at Y;rw[X]at L;rw[i5]at N;rw[BH]at L Y;rw[GS]at N Y;rw[ajl]at L N;obtain⟨q,hq,rfl⟩:=ajm.1 L;rw[hq]at N;cases N;rw[map_eraseIdx,map_eraseIdx,<- BH,<- GS]at Y;have hp:=Hu hq;refine⟨_,.inr ⟨q.1,q.2,o.eraseIdx j,hp.map kC,hp.length_eq,rfl,rfl⟩,yL B (fun d I=>by cases I;exact⟨by simp,by decide⟩) (jj.maps fun x =>?_) Y⟩;show b8 h 44 _ x=_∨_
    by_cases l:x=44
    ·subst l;rw[ay];exact .inr ⟨_,_,_,_,_,_,rfl⟩
    ·rw[az _ _ l];exact .inl rfl
  ·rintro t' h' a' w' ar (⟨rfl,rfl,rfl⟩|⟨k,x,b,p1,p2,rfl,rfl⟩) O
   ·refine HG (F:=FU) tok tR O (by decide) (by simp) (K:=fun t' i=>t'=b8 (b8 t 45 (.tup [.bool false])) 46 (.bool false)∧i=h') (by simp only[yB,seval]) ?_;rintro t2 h2 S T ⟨rfl,rfl⟩ E;refine (show Code.wp _ (Code.seq (Code.cond _ Code.skip (Code.exit 2)) _) _ S T from ?_);refine A6 (F:=FU) tok tR mixed E (by kernel_rfl) (K:=fun x t' i Z=>x=.exit 2∧t'=b8 (b8 t 45 (.tup [.bool false])) 46 (.bool false)∧i=h2∧Z=e+1) (by simp only[yB,seval]) ?_;rintro x t3 h3 e3 a3 w3 ⟨rfl,rfl,rfl,rfl⟩ ae;refine adA hc ⟨ks,vs,f,C,ty,z,A,P,?_,i2,i3,X,i5,?_,i7,?_,i9,by omega,J⟩ ae
    ·rw[az _ _ (by decide),az _ _ (by decide)];exact i1
    ·rw[az _ _ (by decide),az _ _ (by decide)];exact i6
    ·rw[az _ _ (by decide),az _ _ (by decide)];exact i8
   ·refine HG (F:=FU) tok tR O (by decide) (by simp) (K:=fun t' i=>t'=b8 (b8 t 45 (.tup [.bool true,.agg [.int .i64 k.1,.int .i64 k.2],.agg [.int .i64 x.bQ.aq,.sl false false x.bQ.aa.length (al (eI .i64) x.bQ.aa),.int .i64 x.bX.aq,.sl false false x.bX.aa.length (al (eI .i64) x.bX.aa)]])) 46 (.bool true)∧i=b8 h 44 (some ⟨C,900001,[.mpc (fE ((k,x)::b)) (ig (bU ah) ((k,x)::b))],false,true,true⟩)) (by simp only[yB,seval]) ?_;rintro t2 h2 S T ⟨rfl,rfl⟩ E;refine (show Code.wp _ (Code.seq (Code.cond _ Code.skip (Code.exit 2)) (Code.block 3 (Code.seq (Code.region _ (List.toArray _) false) _))) _ S T from ?_);apply wp_seq;have hF:∃t h,(t 44=.ptr 44 C 0∧t 9=.ptr 9 z 0∧t 2=.ptr 2 A 0∧h 44=some ⟨C,900001,[.mpc (fE ((k,x)::b)) (ig (bU ah) ((k,x)::b))],false,true,true⟩∧h 9=some ⟨z,66,[.nr 118 6 P [.int .i64 c,.nx f.length (al cq f)]],false,false,true⟩∧h 2=some ⟨A,66,[.int .i64 0,.sl true true 0 []],false,false,false⟩∧t 46=.bool true)∧Holds 65 M none w0 ⟨t,h,e+1⟩ S T:=by
     refine⟨_,_,⟨?_,?_,?_,ay _ _ _,?_,?_,ay _ _ _⟩,E⟩
     ·rw[az _ _ (by decide),az _ _ (by decide)];exact i1
     ·rw[az _ _ (by decide),az _ _ (by decide)];exact i6
     ·rw[az _ _ (by decide),az _ _ (by decide)];exact i8
     ·rw[az _ _ (by decide)];exact i7
     ·rw[az _ _ (by decide)];exact i9
    clear E O B i1 i2 i3 X i5 i6 i7 i8 i9;clear h t;obtain⟨t,h,⟨f1,f2,f3,f4,f5,f6,f7⟩,E⟩:=hF;refine A6 (F:=FU) tok tR mixed E (by kernel_rfl) (K:=fun x t' i Z=>x=.normal∧t'=t∧i=h∧Z=e+1) (by simp only[yB,seval,f7]) ?_;rintro x' t3 h3 e3 a3 w3 ⟨rfl,rfl,rfl,rfl⟩ ⟨aa,u⟩;replace u:vx 65 M none w0 aa (e+1) [] t3 h3 a3 w3:=u;refine (show Code.wp _ (Code.block 3 (Code.seq (Code.region _ (List.toArray _) false) _)) _ a3 w3 from ?_);apply wp_block;apply wp_seq;apply wp_region_lit;refine Cd rfl u (by decide) (K:=fun t' h'=>t'=b8 t3 47 (.tup [.agg [.int .i64 k.1,.int .i64 k.2],.agg [.int .i64 x.bQ.aq,.sl false false x.bQ.aa.length (al (eI .i64) x.bQ.aa),.int .i64 x.bX.aq,.sl false false x.bX.aa.length (al (eI .i64) x.bX.aa)]])∧h'=h3) ?_ ?_
    ·refine e9.mono (SS u.inv (e:=e+1) (y:=44) (p := .tmp 44) (k:=Dl.k k) (x:=(bU ah).d x) (ks:=fE b) (vs:=ig (bU ah) b) rfl (by simp[ev,f1]) f4 (by rw[du];decide)) fun v w' hA=>⟨_,⟨rfl,rfl⟩,yL u (fun d I=>by cases I;exact⟨by simp,by decide⟩) (jj.refl _ _) hA⟩
    ·rintro t4 h4 a4 w4 au ⟨rfl,rfl⟩ ag;refine HG (F:=FU) tok tR ag (by decide) (by simp) (K:=fun t' h'=>t' 44=.ptr 44 C 0∧t' 9=.ptr 9 z 0∧t' 2=.ptr 2 A 0∧t' 10=.ptr 10 (e+1) 0∧t' 11=.ptr 11 (e+1) 0 ∧
      h' 44=some ⟨C,900001,[.mpc (fE ((k,x)::b)) (ig (bU ah) ((k,x)::b))],false,true,true⟩∧h' 9=some ⟨z,66,[.nr 118 6 P [.int .i64 c,.nx f.length (al cq f)]],false,false,true⟩∧h' 2=some ⟨A,66,[.int .i64 0,.sl true true 0 []],false,false,false⟩ ∧
      h' 10=some ⟨e+1,116,[.int .i64 k.1,.int .i64 k.2],false,false,false⟩∧h' 11=some ⟨e+1,41,[.int .i64 x.bQ.aq,.sl false false x.bQ.aa.length (al (eI .i64) x.bQ.aa),.int .i64 x.bX.aq,.sl false false x.bX.aa.length (al (eI .i64) x.bX.aa)],false,false,false⟩) (by simp only[yB,seval,f1,f2,f3,f4,f5,f6]) ?_
     rintro t5 h5 a5 w5 ⟨g1,g2,g3,g4,g5,g6,g7,g8,g9,ai⟩ aj;have aw:f.length+1+b.length=m.length:=by
      have:=J.length_eq;simp only[akn,ajP]at this;omega
     have ab:ou 80 f [kC (k,x)]=some (f++[kC (k,x)]):=by
      unfold ou;have:(17592186044416:Nat)<=maxLen:=by decide
      rw[if_pos ⟨by simp;omega,by simp;omega⟩]
     obtain⟨qa,qb,qc,qd⟩:=jJ cq ab;simp only[bK,kC]at qb;have bp:bump P (e+1+1)=some (4*(e+1+1)+1):=kV (by omega);refine (show Code.wp _ (Code.region _ (List.toArray _) false) _ a5 w5 from ?_);refine A6 (F:=FU) tok tR mixed aj (by kernel_rfl) (K:=fun x' t' h' Z=>x'=.normal∧Z=e+1+1+1∧t' 44=.ptr 44 C 0∧t' 9=.ptr 9 z 0∧t' 2=.ptr 2 A 0 ∧
      h' 44=some ⟨C,900001,[.mpc (fE ((k,x)::b)) (ig (bU ah) ((k,x)::b))],false,true,true⟩∧h' 9=some ⟨z,66,[.nr 118 6 (4*(e+1+1)+1) [.int .i64 c,.nx (f++[kC (k,x)]).length (al cq (f++[kC (k,x)]))]],false,false,true⟩∧h' 2=some ⟨A,66,[.int .i64 0,.sl true true 0 []],false,false,false⟩)
      (by simp only[yB,seval,g1,g2,g3,g4,g5,g6,g7,g8,g9,ai,qa,qb,qc,qd,bp,kC];exact⟨qc,qd⟩) ?_
     rintro x' t6 h6 e6 a6 w6 ⟨rfl,rfl,l1,l2,l3,l4,l5,l6⟩ an;refine (show ∃n',n'<n∧∃(o:List ((Int×Int)×ak)) (t:Nat->D) (h:Nat->Option Row) (e:Nat),o.length=n'∧UC m c o t h e∧Holds 65 M none w0 ⟨t,h,e⟩ a6 w6 from ?_);refine⟨b.length,by omega,b,t6,h6,_,rfl,⟨_,_,_,C,900001,z,A,_,l1,l4,by decide,?_,?_,l2,l5,l3,l6,by omega,?_⟩,an⟩
     ·rw[show 900001-900000=1 from akA (n:=900000) (m:=1)];rfl
     ·rw[show 900001-900000=1 from akA (n:=900000) (m:=1)];rfl
     ·rw[aky];exact (List.Perm.append_left f p1.symm).trans J
def eJ (l:Option (D×Row)) (d:List D):=eu (gh (bU jI) (dS (bU jI))) (fun x:aL×aL=>cQ x.1 x.2) (fun r:aL =>.clean (.agg [.int .i64 r.aq,.sl false false r.aa.length (al (eI .i64) r.aa)])) l d
def vU:Env:=(Am.ext bn 112 false yG)
def IH:bV prog vU:=(bV.none.add TI false)
def NI:=ai @w<|ai @NO<|ai @yG.eq_1<|@vU.eq_1
def qw:cn prog 60 eJ:=cn.jx (mode := .clean) tok IH mixed func60 (by kernel_rfl) (fun _ _=>rfl) (fun _=>by kernel_rfl) fun⟨c,d⟩ r a=>by
 replace a:cQ c d=some r:=a;apply aK rfl ntmps60 results60;simp only[jy];unfold cQ at a;obtain⟨e,b,a⟩:=ae a;cases a;simp only[NI,seval,b]
def AW (l:Option (D×Row)) (d:List D):=eu (dS (j0 (eI .i64))) (fun x:(List Int)=>xx x) (fun r:Int =>.clean (.int .i64 r)) l d
def KY:cn prog 115 AW:=cn.jx (mode := .clean) tok bV.none mixed func115 (by kernel_rfl) (fun _ _=>rfl) (fun _=>by kernel_rfl) fun h r a=>by
 replace a:xx h=some r:=a;apply aK rfl ntmps115 results115;simp only[jy];unfold xx at a;simp only[w,seval];obtain⟨l,i,a⟩:=ae a;refine aA (fun s t H e=>match s with|b=>t 3=sN 0∧t 6=sI h∧t 7=sN (h.length:Int)∧t 8=sN b) (fun o x t H e=>match o with|(.inl _)=>x=.exit 0∧t 3=sN 0|(.inr r)=>x=.ret∧gu .clean tab none [.tmp 2] ⟨t,EH H,e⟩=some (.clean (.int .i64 r),none)) i ?_ ?_ ?_
 ·refine⟨?_,?_,?_,?_⟩;all_goals (rfl)
 ·rintro b t H e d c a;simp only[yT]at a;simp only[w,seval,d];apply sp ax a<;>intro _ a
  ·obtain⟨n,j,a⟩:=ae a;have f:=bk (eI .i64) j;simp only[bK]at f;simp only[w,seval,d,f];apply sp ax a<;>intro _ a
   ·cases a;simp only[w,seval];refine tD ⟨rfl,?_⟩;simp only[w,seval]
   ·cases a;simp only[w,seval,d];apply iU;and_intros<;>first|rfl|(simp only[w,seval,d]<;>rfl)
  ·cases a;simp only[w,seval];apply j8;refine⟨rfl,?_⟩;all_goals ((simp only[w,seval,d]<;>rfl))
 ·rintro x t H e g;rcases l with _|p
  ·dsimp only at g a;obtain⟨rfl,k⟩:=g;cases a;simp only[w,seval,k]
  ·dsimp only at g a;obtain⟨rfl,m⟩:=g;cases a;simp only[aY,bc,cA,cI];exact m
def yD (l:Option (D×Row)) (d:List D):=eu (gh (bU jI) (dS (bU jI))) (fun x:aL×aL=>yN x.1 x.2) (fun r:aL×Int =>.clean (.tup [.agg [.int .i64 r.1.aq,.sl false false r.1.aa.length (al (eI .i64) r.1.aa)],.int .i64 r.2])) l d
def Ro (a:(List Int)):AW none [.sl false false a.length (al (eI .i64) a)]=(xx a).map fun r:Int=>(.clean (.int .i64 r),none):=cD _ _ _ (a)
def Cl:Env:=(Am.ext (Am.ext (Am.ext (Am.ext (Am.ext (Am.ext (Am.ext bn 103 false bR) 111 false fR) 113 false cH) 114 false mO) 115 false AW) 116 false sb) 117 false pC)
def Te:bV prog Cl:=(((((((bV.none.add ij false).add td false).add kK false).add s9 false).add KY false).add He false).add Hh false)
def jZ:=ai @w<|ai @Ip<|ai @bR.eq_1<|ai @Y1<|ai @fR.eq_1<|ai @Y0<|ai @cH.eq_1<|ai @gH<|ai @sb.eq_1<|ai @pC.eq_1<|@Cl.eq_1
def TF:cn prog 62 yD:=cn.jx (mode := .clean) tok Te mixed func62 (by kernel_rfl) (fun _ _=>rfl) (fun _=>by kernel_rfl) fun⟨u,v⟩ r a=>by
 replace a:yN u v=some r:=a;apply aK rfl ntmps62 results62;simp only[jy];unfold yN at a;obtain⟨P,w,a⟩:=ae a;simp only[jZ,seval,w];obtain⟨D,x,a⟩:=ae a;refine cR 0 (fun s t H e=>match s with|c=>∃d:Nat,∃f:Nat,∃g:Nat,t 2=.ptr 2 d 0∧t 3=.ptr 3 f 0∧t 4=.ptr 4 g 0∧t 13=.bool c∧H 2=rV d 39 [sN u.aq,sI u.aa]∧H 3=rV f 39 [sN v.aq,sI v.aa]∧H 4=rV g 39 [sN 0,.sl true true 0 []]) (fun s=>s=D) ?_ ?_
 ·rintro c t H e ⟨d,f,g,b⟩ rfl;try dsimp only at a
  simp only[jZ,seval,b];apply sp ax a<;>intro _ a
  ·have B:=gH false 0 ([]);simp only[bK]at B;obtain⟨Q,y,a⟩:=ae a;cases a;simp only[jZ,seval,b,B,y]
  ·simp only[jZ,seval,b];apply sp ax a<;>intro _ a
   ·have C:=Ro ([u.aq,v.aq]);simp only[bY,bK,List.length_cons,akl,Nat.reduceAdd]at C;obtain⟨R,z,a⟩:=ae a;obtain⟨S,A,a⟩:=ae a;obtain⟨E,h,a⟩:=ae a;obtain⟨F,i,a⟩:=ae a;simp only[jZ,seval,b,C,z,A,h,i];refine bP (by kernel_rfl) ?_;cases a;simp only[seval]
   ·obtain⟨G,j,a⟩:=ae a;simp only[jZ,seval,b,j];apply sp ax a<;>intro _ a
    ·obtain⟨I,k,a⟩:=ae a;obtain⟨J,l,a⟩:=ae a;obtain⟨K,m,a⟩:=ae a;simp only[jZ,seval,b,k,l,m];refine bP (by kernel_rfl) ?_;cases a;simp only[seval]
    ·obtain⟨L,n,a⟩:=ae a;obtain⟨M,o,a⟩:=ae a;obtain⟨N,p,a⟩:=ae a;simp only[jZ,seval,b,n,o,p];refine bP (by kernel_rfl) ?_;cases a;simp only[seval]
 ·clear a;have a:=x;simp only[jZ,seval];apply sp bF a<;>intro _ a
  ·cases a;simp only[jZ,seval];rw[aC];refine⟨_,rfl,?_⟩;refine⟨0,0,0,?_,?_,?_,?_,?_,?_,?_⟩;all_goals (rfl)
  ·obtain⟨O,q,a⟩:=ae a;cases a;simp only[jZ,seval,q];rw[aC];refine⟨_,rfl,?_⟩;refine⟨0,0,0,?_,?_,?_,?_,?_,?_,?_⟩;all_goals (rfl)
def eQ (l:Option (D×Row)) (d:List D):=eu (gh (bU ah) (dS (bU ah))) (fun x:ak×ak=>lv x.1 x.2) (fun r:ak×Int =>.clean (.tup [.agg [.int .i64 r.1.bQ.aq,.sl false false r.1.bQ.aa.length (al (eI .i64) r.1.bQ.aa),.int .i64 r.1.bX.aq,.sl false false r.1.bX.aa.length (al (eI .i64) r.1.bX.aa)],.int .i64 r.2])) l d
def sa {β:Type} {F:ak×ak->Option β} {R:β->RK} (e:Int) (a:(List Int)) (f:Int) (b:(List Int)) (g:Int) (c:(List Int)) (h:Int) (d:(List Int)):eu (gh (bU ah) (dS (bU ah))) F R none [.agg [.int .i64 e,.sl false false a.length (al (eI .i64) a),.int .i64 f,.sl false false b.length (al (eI .i64) b)],.agg [.int .i64 g,.sl false false c.length (al (eI .i64) c),.int .i64 h,.sl false false d.length (al (eI .i64) d)]]=(F ((ak.mk (aL.mk e a) (aL.mk f b)),(ak.mk (aL.mk g c) (aL.mk h d)))).map fun r=>(R r,none):=cD _ _ _ ((ak.mk (aL.mk e a) (aL.mk f b)),(ak.mk (aL.mk g c) (aL.mk h d)))
def Ag:Env:=(Am.ext (Am.ext (Am.ext (Am.ext bn 54 false ba) 60 false eJ) 62 false yD) 63 false gr)
def PC:bV prog Ag:=((((bV.none.add fh false).add qw false).add TF false).add tX false)
def lQ:=ai @w<|ai @kx<|ai @ba.eq_1<|ai @NO<|ai @eJ.eq_1<|ai @yD.eq_1<|ai @gr.eq_1<|@Ag.eq_1
def qP:cn prog 23 eQ:=cn.jx (mode := .clean) tok PC mixed func23 (by kernel_rfl) (fun _ _=>rfl) (fun _=>by kernel_rfl) fun⟨h,i⟩ r a=>by
 replace a:lv h i=some r:=a;apply aK rfl ntmps23 results23;simp only[jy];unfold lv at a;obtain⟨w,k,a⟩:=ae a;simp only[lQ,seval,k];obtain⟨u,l,a⟩:=ae a;refine cR 0 (fun s t H e=>match s with|b=>∃c:Nat,∃d:Nat,∃f:Nat,t 2=.ptr 2 c 0∧t 3=.ptr 3 d 0∧t 4=.ptr 4 f 0∧t 15=.bool b∧H 2=rV c 41 [sN h.bQ.aq,sI h.bQ.aa,sN h.bX.aq,sI h.bX.aa]∧H 3=rV d 41 [sN i.bQ.aq,sI i.bQ.aa,sN i.bX.aq,sI i.bX.aa]∧H 4=rV f 41 [sN 0,.sl true true 0 [],sN 0,.sl true true 0 []]) (fun s=>s=u) ?_ ?_
 ·rintro b t H e ⟨c,d,f,g⟩ rfl;try dsimp only at a
  simp only[lQ,seval,g];apply sp ax a<;>intro _ a
  ·cases a;simp only[lQ,seval,g]
  ·obtain⟨x,m,a⟩:=ae a;obtain⟨y,n,a⟩:=ae a;obtain⟨z,o,a⟩:=ae a;simp only[lQ,seval,g,m,n,o];refine bP (by kernel_rfl) ?_;obtain⟨A,p,a⟩:=ae a;obtain⟨B,q,a⟩:=ae a;simp only[lQ,seval,g,p,q];refine bP (by kernel_rfl) ?_;cases a;simp only[seval]
 ·clear a;have a:=l;simp only[lQ,seval];apply sp bF a<;>intro _ a
  ·cases a;simp only[lQ,seval];rw[aC];refine⟨_,rfl,?_⟩;refine⟨0,0,0,?_,?_,?_,?_,?_,?_,?_⟩;all_goals (rfl)
  ·obtain⟨v,j,a⟩:=ae a;cases a;simp only[lQ,seval,j];rw[aC];refine⟨_,rfl,?_⟩;refine⟨0,0,0,?_,?_,?_,?_,?_,?_,?_⟩;all_goals (rfl)
def pD (l:Option (D×Row)) (d:List D):=eu (gh (bU ah) (dS (bU ah))) (fun x:ak×ak=>rX x.1 x.2) (fun r:ak =>.clean (.agg [.int .i64 r.bQ.aq,.sl false false r.bQ.aa.length (al (eI .i64) r.bQ.aa),.int .i64 r.bX.aq,.sl false false r.bX.aa.length (al (eI .i64) r.bX.aa)])) l d
def Cw:Env:=(Am.ext bn 23 false eQ)
def Tr:bV prog Cw:=(bV.none.add qP false)
def YY:=ai @w<|ai @sa<|ai @eQ.eq_1<|@Cw.eq_1
def Hn:cn prog 120 pD:=cn.jx (mode := .clean) tok Tr mixed func120 (by kernel_rfl) (fun _ _=>rfl) (fun _=>by kernel_rfl) fun⟨c,d⟩ r a=>by
 replace a:rX c d=some r:=a;apply aK rfl ntmps120 results120;simp only[jy];unfold rX at a;obtain⟨e,b,a⟩:=ae a;cases a;simp only[YY,seval,b]
def qe (l:Option (D×Row)) (d:List D):=eu (gh (bU jI) (dS (bU jI))) (fun x:aL×aL=>nW x.1 x.2) (fun r:Int =>.clean (.int .i64 r)) l d
def ur:Env:=(Am.ext (Am.ext (Am.ext bn 103 false bR) 110 false dX) 111 false fR)
def Gl:bV prog ur:=(((bV.none.add ij false).add oX false).add td false)
def gJ:=ai @w<|ai @Ip<|ai @bR.eq_1<|ai @Ll<|ai @dX.eq_1<|ai @Y1<|ai @fR.eq_1<|@ur.eq_1
def Hb:cn prog 59 qe:=cn.jx (mode := .clean) tok Gl mixed func59 (by kernel_rfl) (fun _ _=>rfl) (fun _=>by kernel_rfl) fun⟨g,h⟩ r a=>by
 replace a:nW g h=some r:=a;apply aK rfl ntmps59 results59;simp only[jy];unfold nW at a;obtain⟨o,i,a⟩:=ae a;simp only[gJ,seval,i];obtain⟨n,j,a⟩:=ae a;refine cR 0 (fun s t H e=>match s with|b=>∃c:Nat,∃d:Nat,t 2=.ptr 2 c 0∧t 3=.ptr 3 d 0∧t 12=.bool b∧H 2=rV c 39 [sN g.aq,sI g.aa]∧H 3=rV d 39 [sN h.aq,sI h.aa]) (fun s=>s=n) ?_ ?_
 ·rintro b t H e ⟨c,d,f⟩ rfl;try dsimp only at a
  simp only[gJ,seval,f];apply sp ax a<;>intro _ a
  ·cases a;simp only[gJ,seval]
  ·simp only[gJ,seval,f];apply sp ax a<;>intro _ a
   ·obtain⟨p,k,a⟩:=ae a;cases a;simp only[gJ,seval,f,k]
   ·obtain⟨q,l,a⟩:=ae a;simp only[gJ,seval,f,l];refine bP (by kernel_rfl) ?_;cases a;simp only[seval]
 ·clear a;have a:=j;simp only[gJ,seval];apply sp bF a<;>intro _ a
  ·cases a;simp only[gJ,seval];rw[aC];refine⟨_,rfl,?_⟩;refine⟨0,0,?_,?_,?_,?_,?_⟩;all_goals (rfl)
  ·obtain⟨u,m,a⟩:=ae a;cases a;simp only[gJ,seval,m];rw[aC];refine⟨_,rfl,?_⟩;refine⟨0,0,?_,?_,?_,?_,?_⟩;all_goals (rfl)
def iE (l:Option (D×Row)) (d:List D):=eu (gh (bU ah) (dS (bU ah))) (fun x:ak×ak=>jo x.1 x.2) (fun r:Int =>.clean (.int .i64 r)) l d
def sZ:Env:=(Am.ext (Am.ext (Am.ext bn 54 false ba) 59 false qe) 60 false eJ)
def Ev:bV prog sZ:=(((bV.none.add fh false).add Hb false).add qw false)
def iP:=ai @w<|ai @kx<|ai @ba.eq_1<|ai @NO<|ai @qe.eq_1<|ai @eJ.eq_1<|@sZ.eq_1
def wN:cn prog 20 iE:=cn.jx (mode := .clean) tok Ev mixed func20 (by kernel_rfl) (fun _ _=>rfl) (fun _=>by kernel_rfl) fun⟨f,g⟩ r a=>by
 replace a:jo f g=some r:=a;apply aK rfl ntmps20 results20;simp only[jy];unfold jo at a;obtain⟨p,i,a⟩:=ae a;simp only[iP,seval,i];obtain⟨o,j,a⟩:=ae a;refine cR 0 (fun s t H e=>match s with|b=>∃c:Nat,∃d:Nat,t 2=.ptr 2 c 0∧t 3=.ptr 3 d 0∧t 12=.bool b∧H 2=rV c 41 [sN f.bQ.aq,sI f.bQ.aa,sN f.bX.aq,sI f.bX.aa]∧H 3=rV d 41 [sN g.bQ.aq,sI g.bQ.aa,sN g.bX.aq,sI g.bX.aa]) (fun s=>s=o) ?_ ?_
 ·rintro b t H e ⟨c,d,h⟩ rfl;try dsimp only at a
  simp only[iP,seval,h];apply sp ax a<;>intro _ a
  ·cases a;simp only[iP,seval]
  ·obtain⟨q,k,a⟩:=ae a;obtain⟨u,l,a⟩:=ae a;obtain⟨v,m,a⟩:=ae a;simp only[iP,seval,h,k,l,m];refine bP (by kernel_rfl) ?_;cases a;simp only[seval]
 ·clear a;have a:=j;simp only[iP,seval];apply sp bF a<;>intro _ a
  ·cases a;simp only[iP,seval];rw[aC];refine⟨_,rfl,?_⟩;refine⟨0,0,?_,?_,?_,?_,?_⟩;all_goals (rfl)
  ·obtain⟨w,n,a⟩:=ae a;cases a;simp only[iP,seval,n];rw[aC];refine⟨_,rfl,?_⟩;refine⟨0,0,?_,?_,?_,?_,?_⟩;all_goals (rfl)
def tH (l:Option (D×Row)) (d:List D):=eu (dS (j0 ah)) (fun x:(List ak)=>si x) (fun r:Bool =>.clean (.bool r)) l d
def ahm {β:Type} {F:(List ak)->Option β} {R:β->RK} (a:(List ak)):eu (dS (j0 ah)) F R none [.sl false false a.length (al ah a)]=(F (a)).map fun r=>(R r,none):=cD _ _ _ (a)
def xX:Env:=(Am.ext (Am.ext (Am.ext (Am.ext (Am.ext bn 20 false iE) 21 false cX) 24 false cF) 54 false ba) 120 false pD)
def MD:bV prog xX:=(((((bV.none.add wN false).add lE false).add ki false).add fh false).add Hn false)
def fH:=ai @w<|ai @sa<|ai @iE.eq_1<|ai @Lk<|ai @cX.eq_1<|ai @kx<|ai @cF.eq_1<|ai @ba.eq_1<|ai @pD.eq_1<|@xX.eq_1
def MZ:cn prog 172 tH:=cn.jx (mode := .clean) tok MD mixed func172 (by kernel_rfl) (fun _ _=>rfl) (fun _=>by kernel_rfl) fun C r a=>by
 replace a:si C=some r:=a;apply aK rfl ntmps172 results172;simp only[jy];unfold si at a;obtain⟨P,D,a⟩:=ae a;simp only[fH,seval,D];obtain⟨G,E,a⟩:=ae a;refine aA (fun s t H e=>match s with|(p,h,i,j,k)=>∃l:Nat,t 3=.ptr 3 l 0∧t 7=sF ah C∧t 8=sN (C.length:Int)∧t 9=sN p∧H 3=rV l 41 [sN h,sI i,sN j,sI k]) (fun o x t H e=>match o with|(.inl (b,d,f,g))=>x=.exit 0∧∃m:Nat,t 3=.ptr 3 m 0∧H 3=rV m 41 [sN b,sI d,sN f,sI g]|(.inr r)=>x=.ret∧gu .clean tab none [.tmp 2] ⟨t,EH H,e⟩=some (.clean (.bool r),none)) E ?_ ?_ ?_
 ·refine⟨1,?_,?_,?_,?_,?_⟩;all_goals (rfl)
 ·rintro⟨p,h,i,j,k⟩ t H e ⟨l,q⟩ c a;simp only[rY]at a;simp only[fH,seval,q];apply sp ax a<;>intro _ a
  ·obtain⟨I,u,a⟩:=ae a;have n:=bk ah u;simp only[bK]at n;obtain⟨J,v,a⟩:=ae a;simp only[fH,seval,q,n,v];apply sp bF a<;>intro _ a
   ·cases a;simp only[fH,seval];refine tD ⟨rfl,?_⟩;simp only[fH,seval]
   ·obtain⟨K,w,a⟩:=ae a;simp only[fH,seval,w];apply sp ax a<;>intro _ a
    ·cases a;simp only[fH,seval];refine tD ⟨rfl,?_⟩;simp only[fH,seval]
    ·obtain⟨L,y,a⟩:=ae a;cases a;simp only[fH,seval,q,y];apply iU;refine⟨l,?_⟩;and_intros<;>first|rfl|(simp only[fH,seval,q]<;>rfl)
  ·cases a;simp only[fH,seval];apply j8;refine⟨rfl,⟨l,?_,?_⟩⟩;all_goals ((simp only[fH,seval,q]<;>rfl))
 ·rintro x t H e B;rcases G with⟨b,d,f,g⟩|Q
  ·dsimp only at B a;obtain⟨rfl,⟨m,F⟩⟩:=B;obtain⟨M,z,a⟩:=ae a;obtain⟨N,A,a⟩:=ae a;simp only[fH,seval,F,z,A];refine bP (by kernel_rfl) ?_;cases a;simp only[seval]
  ·dsimp only at B a;obtain⟨rfl,O⟩:=B;cases a;simp only[aY,bc,cA,cI];exact O
def ns (l:Option (D×Row)) (d:List D):=eu (dS (bU xF)) (fun x:fb=>kJ x) (fun r:Bool =>.clean (.bool r)) l d
def adO {β:Type} {F:fb->Option β} {R:β->RK} (a:(List gV)) (b:(List tz)) (c:(List (List ak))):eu (dS (bU xF)) F R none [.agg [.sl false false a.length (al bt a),.sl false false b.length (al eF b),.sl false false c.length (al (dU ah) c)]]=(F ((fb.mk a b c))).map fun r=>(R r,none):=cD _ _ _ ((fb.mk a b c))
def rl:Env:=(Am.ext (Am.ext bn 81 false dp) 172 false tH)
def CD:bV prog rl:=((bV.none.add nc false).add MZ false)
def aF:=ai @w<|ai @IZ<|ai @dp.eq_1<|ai @ahm<|ai @tH.eq_1<|@rl.eq_1
def CT:cn prog 130 ns:=cn.jx (mode := .clean) tok CD mixed func130 (by kernel_rfl) (fun _ _=>rfl) (fun _=>by kernel_rfl) fun b r a=>by
 replace a:kJ b=some r:=a;apply aK rfl ntmps130 results130;simp only[jy];unfold kJ at a;simp only[aF,seval];obtain⟨o1,aq,a⟩:=ae a;refine cR 0 (fun s t H e=>match s with|l=>∃g:Nat,t 1=.ptr 1 g 0∧t 27=.bool l∧H 1=rV g 54 [sF bt b.au,sF eF b.aP,sF (dU ah) b.aM]) (fun s=>s=o1) ?_ ?_
 ·rintro l t H e ⟨g,N⟩ rfl;try dsimp only at a
  simp only[aF,seval,N];apply sp ax a<;>intro _ a
  ·cases a;simp only[aF,seval]
  ·simp only[aF,seval,N];obtain⟨ar,Q,a⟩:=ae a;refine aA (fun s t H e=>match s with|D=>∃m:Nat,t 1=.ptr 1 m 0∧t 29=sF eF b.aP∧t 30=sN (b.aP.length:Int)∧t 31=sN D∧H 1=rV m 54 [sF bt b.au,sF eF b.aP,sF (dU ah) b.aM]) (fun o x t H e=>match o with|(.inl _)=>x=.exit 0∧∃h:Nat,t 1=.ptr 1 h 0∧H 1=rV h 54 [sF bt b.au,sF eF b.aP,sF (dU ah) b.aM]|(.inr r)=>x=.ret∧gu .clean tab none [.tmp 2] ⟨t,EH H,e⟩=some (.clean (.bool r),none)) Q ?_ ?_ ?_
   ·refine⟨g,?_⟩;and_intros<;>first|rfl|(simp only[aF,seval,N]<;>rfl)
   ·rintro D t H e ⟨m,P⟩ c a;simp only[mn]at a;simp only[aF,seval,P];apply sp ax a<;>intro _ a
    ·obtain⟨aw,R,a⟩:=ae a;have n:=bk eF R;simp only[bK]at n;obtain⟨ay,S,a⟩:=ae a;simp only[aF,seval,P,n,S];apply sp H9 a<;>intro _ a
     ·simp only[aF,seval];refine bP (by kernel_rfl) ?_;cases a;refine tD ⟨rfl,?_⟩;simp only[aF,seval]
     ·simp only[aF,seval];apply sp H9 a<;>intro _ a
      ·simp only[aF,seval];refine bP (by kernel_rfl) ?_;cases a;refine tD ⟨rfl,?_⟩;simp only[aF,seval]
      ·obtain⟨az,T,a⟩:=ae a;have E:=bk (dU ah) T;simp only[bK]at E;simp only[aF,seval,P,n,E];refine bP (by kernel_rfl) ?_;apply sp ax a<;>intro _ a
       ·cases a;simp only[aF,seval];refine tD ⟨rfl,?_⟩;simp only[aF,seval]
       ·cases a;simp only[aF,seval,P];apply iU;refine⟨m,?_⟩;and_intros<;>first|rfl|(simp only[aF,seval,P]<;>rfl)
    ·cases a;simp only[aF,seval];apply j8;refine⟨rfl,⟨m,?_,?_⟩⟩;all_goals ((simp only[aF,seval,P]<;>rfl))
   ·rintro x t H e k;rcases ar with _|rb
    ·dsimp only at k a;obtain⟨rfl,⟨h,U⟩⟩:=k;simp only[aF,seval,U];obtain⟨au,V,a⟩:=ae a;refine aA (fun s t H e=>match s with|d=>∃C:Nat,t 1=.ptr 1 C 0∧t 59=sF bt b.au∧t 60=sN (b.au.length:Int)∧t 61=sN d∧H 1=rV C 54 [sF bt b.au,sF eF b.aP,sF (dU ah) b.aM]) (fun o x t H e=>match o with|(.inl _)=>x=.exit 2|(.inr r)=>x=.ret∧gu .clean tab none [.tmp 2] ⟨t,EH H,e⟩=some (.clean (.bool r),none)) V ?_ ?_ ?_
     ·refine⟨h,?_⟩;and_intros<;>first|rfl|(simp only[aF,seval,U]<;>rfl)
     ·rintro d t H e ⟨C,Zc⟩ c a;simp only[mo]at a;simp only[aF,seval,Zc];apply sp ax a<;>intro _ a
      ·obtain⟨j,W,a⟩:=ae a;have p:=bk bt W;simp only[bK]at p;obtain⟨aB,X,a⟩:=ae a;obtain⟨Y,Z,aa,F,ab⟩:=mk_one ah X;simp only[bK]at F;simp only[aF,seval,Zc,p,Y,Z,aa,F,ab];obtain⟨av,ad,a⟩:=ae a;refine aA (fun s t H e=>match s with|(G,O)=>∃q:Nat,∃u:Nat,∃v:Nat,t 1=.ptr 1 q 0∧t 5=sN d∧t 6=.ptr 6 u 0∧t 7=.buf 7 v 4 0 (O).length∧t 59=sF bt b.au∧t 60=sN (b.au.length:Int)∧t 61=sN d∧t 72=sN (b.aP.length:Int)∧t 73=sN G∧H 1=rV q 54 [sF bt b.au,sF eF b.aP,sF (dU ah) b.aM]∧H 6=rV u 83 [sN j.bh,sN j.aV,sN j.aR]∧H 7=rW v 41 (al ah O)) (fun o x t H e=>match o with|w=>x=.exit 4∧∃i:Nat,∃y:Nat,∃A:Nat,t 1=.ptr 1 i 0∧t 6=.ptr 6 y 0∧t 7=.buf 7 A 4 0 (w).length∧t 59=sF bt b.au∧t 60=sN (b.au.length:Int)∧t 61=sN d∧H 1=rV i 54 [sF bt b.au,sF eF b.aP,sF (dU ah) b.aM]∧H 6=rV y 83 [sN j.bh,sN j.aV,sN j.aR]∧H 7=rW A 41 (al ah w)) ad ?_ ?_ ?_
       ·refine⟨C,e+1,e+1+1,?_⟩;and_intros<;>first|rfl|(simp only[aF,seval,Zc]<;>rfl)
       ·rintro⟨G,O⟩ t H e ⟨q,u,v,Ze⟩ c a;simp only[iB]at a;simp only[aF,seval,Ze];apply sp ax a<;>intro _ a
        ·obtain⟨aD,ag,a⟩:=ae a;have I:=bk (dU ah) ag;simp only[bK]at I;obtain⟨f,ai,a⟩:=ae a;have J:=bk ah ai;simp only[bK]at J;obtain⟨aE,K,a⟩:=ae a;have L:=bk ah K;simp only[bK]at L;have aj:=fL ah (x':=f) (fo:=0) (cs:=[.int .i64 f.bQ.aq,.sl false false f.bQ.aa.length (al (eI .i64) f.bQ.aa),.int .i64 f.bX.aq,.sl false false f.bX.aa.length (al (eI .i64) f.bX.aa)]) K rfl (akW rfl);simp only[bK,Nat.add_zero]at aj;have M:=aj;simp only[putCells,List.length_cons,List.length_nil,akl,Nat.reduceAdd]at M;cases a;simp only[aF,seval,p,Ze,I,J,L,M];apply iU;refine⟨q,u,v,?_⟩;and_intros<;>first|rfl|(simp only[aF,seval,Ze]<;>rfl)
        ·cases a;simp only[aF,seval];apply j8;refine⟨rfl,⟨q,u,v,?_,?_,?_,?_,?_,?_,?_,?_,?_⟩⟩;all_goals ((simp only[aF,seval,Ze]<;>rfl))
       ·rintro x t H e k;obtain⟨w,rfl⟩:∃z,z=av:=⟨_,rfl⟩;dsimp only at k a;obtain⟨rfl,⟨i,y,A,B⟩⟩:=k;obtain⟨aG,an,a⟩:=ae a;simp only[aF,seval,B,an];apply sp bF a<;>intro _ a
        ·cases a;simp only[aF,seval];refine tD ⟨rfl,?_⟩;simp only[aF,seval]
        ·simp only[aF,seval,B];apply sp bF a<;>intro _ a
         ·cases a;simp only[aF,seval];refine tD ⟨rfl,?_⟩;simp only[aF,seval]
         ·obtain⟨aH,ao,a⟩:=ae a;simp only[aF,seval,B,ao];apply sp ax a<;>intro _ a
          ·cases a;simp only[aF,seval];refine tD ⟨rfl,?_⟩;simp only[aF,seval]
          ·cases a;simp only[aF,seval,B];apply iU;refine⟨i,?_⟩;and_intros<;>first|rfl|(simp only[aF,seval,B]<;>rfl)
      ·cases a;simp only[aF,seval];apply j8;exact rfl
     ·rintro x t H e k;rcases au with _|rc
      ·dsimp only at k a;subst k;cases a;simp only[aF,seval]
      ·dsimp only at k a;obtain⟨rfl,hE⟩:=k;cases a;simp only[aY,bc,cA,cI];exact hE
    ·dsimp only at k a;obtain⟨rfl,hE⟩:=k;cases a;simp only[aY,bc,cA,cI];exact hE
 ·clear a;have a:=aq;simp only[aF,seval];apply sp bF a<;>intro _ a
  ·cases a;simp only[aF,seval];rw[aC];refine⟨_,rfl,?_⟩;refine⟨0,?_,?_,?_⟩;all_goals (rfl)
  ·simp only[aF,seval];apply sp bF a<;>intro _ a
   ·cases a;simp only[aF,seval];rw[aC];refine⟨_,rfl,?_⟩;refine⟨0,?_,?_,?_⟩;all_goals (rfl)
   ·cases a;simp only[aF,seval];rw[aC];refine⟨_,rfl,?_⟩;refine⟨0,?_,?_,?_⟩;all_goals (rfl)
def rI (l:Option (D×Row)) (d:List D):=eu (gh (bU gn) (dS (Xc (eI .i64)))) (fun x:ia×Int=>pX x.1 x.2) (fun r:Bool =>.clean (.bool r)) l d
def ahn {β:Type} {F:ia×Int->Option β} {R:β->RK} (a:Int) (b:Int) (c:Int):eu (gh (bU gn) (dS (Xc (eI .i64)))) F R none [.agg [.int .i64 a,.int .i64 b],.ip [.int .i64 c]]=(F ((ia.mk a b),c)).map fun r=>(R r,none):=cD _ _ _ ((ia.mk a b),c)
def vW:Env:=(Am.ext bn 81 false dp)
def IJ:bV prog vW:=(bV.none.add nc false)
def wE:=ai @w<|ai @IZ<|ai @dp.eq_1<|@vW.eq_1
def IT:cn prog 131 rI:=cn.jx (mode := .clean) tok IJ mixed func131 (by kernel_rfl) (fun _ _=>rfl) (fun _=>by kernel_rfl) fun⟨d,e⟩ r a=>by
 replace a:pX d e=some r:=a;apply aK rfl ntmps131 results131;simp only[jy];unfold pX at a;obtain⟨f,b,a⟩:=ae a;simp only[wE,seval,b];apply sp bF a<;>intro _ a
 ·cases a;simp only[wE,seval]
 ·obtain⟨g,c,a⟩:=ae a;cases a;simp only[wE,seval,c]
def rJ (l:Option (D×Row)) (d:List D):=eu (gh (aI .i64) (dS (Xc (eI .i64)))) (fun x:Int×Int=>pY x.1 x.2) (fun r:Bool =>.clean (.bool r)) l d
def aho {β:Type} {F:Int×Int->Option β} {R:β->RK} (a:Int) (b:Int):eu (gh (aI .i64) (dS (Xc (eI .i64)))) F R none [.int .i64 a,.ip [.int .i64 b]]=(F (a,b)).map fun r=>(R r,none):=cD _ _ _ (a,b)
def vX:Env:=(Am.ext bn 81 false dp)
def IK:bV prog vX:=(bV.none.add nc false)
def NL:=ai @w<|ai @IZ<|ai @dp.eq_1<|@vX.eq_1
def IU:cn prog 132 rJ:=cn.jx (mode := .clean) tok IK mixed func132 (by kernel_rfl) (fun _ _=>rfl) (fun _=>by kernel_rfl) fun⟨c,d⟩ r a=>by
 replace a:pY c d=some r:=a;apply aK rfl ntmps132 results132;simp only[jy];unfold pY at a;obtain⟨e,b,a⟩:=ae a;cases a;simp only[NL,seval,b]
def qY:=eu (dS (j0 (eI .i64))) (fun x:(List Int)=>qy x) (fun r:(List Int) =>.clean (.clo 195 0 [.ip [.sl false false r.length (al (eI .i64) r)]]))
def wP (a:(List Int)):qY none [.sl false false a.length (al (eI .i64) a)]=(qy a).map fun r:(List Int)=>(.clean (.clo 195 0 [.ip [.sl false false r.length (al (eI .i64) r)]]),none):=cD _ _ _ a
def CU:cn prog 174 qY:=YS
def ej:=eu (dS (L6 195 0 (dS (Xc (dU (eI .i64)))))) (fun x:(List Int)=>di x) (fun r:(List Int) =>.fresh 3 1 r.length (al (eI .i64) r))
def gC (a:(List Int)):ej none [.clo 195 0 [.ip [.sl false false a.length (al (eI .i64) a)]]]=(di a).map fun r:(List Int)=>(.fresh 3 1 r.length (al (eI .i64) r),none):=cD _ _ _ a
def kS:cn prog 173 ej:=Yw
def qm (l:Option (D×Row)) (d:List D):=eu (gh (j0 (eI .i64)) (dS (aI .i64))) (fun x:(List Int)×Int=>lD x.1 x.2) (fun r:Bool =>.clean (.bool r)) l d
def uE:Env:=(Am.ext (Am.ext bn 173 false ej) 174 false qY)
def Gv:bV prog uE:=((bV.none.add kS false).add CU false)
def fT:=ai @w<|ai @gC<|ai @wP<|@uE.eq_1
def Ho:cn prog 133 qm:=cn.jx (mode := .clean) tok Gv mixed func133 (by kernel_rfl) (fun _ _=>rfl) (fun _=>by kernel_rfl) fun⟨u,k⟩ r a=>by
 replace a:lD u k=some r:=a;apply aK rfl ntmps133 results133;simp only[jy];unfold lD at a;obtain⟨y,l,a⟩:=ae a;obtain⟨g,m,a⟩:=ae a;simp only[fT,seval,l,m];obtain⟨v,n,a⟩:=ae a;refine aA (fun s t H e=>match s with|f=>∃b:Nat,t 1=sN k∧t 5=.buf 5 b 1 0 (g).length∧t 11=.buf 5 b 1 0 (g).length∧t 12=sN ((g).length:Int)∧t 13=sN f∧H 5=rW b 3 (al (eI .i64) g)) (fun o x t H e=>match o with|(.inl _)=>x=.exit 0∧∃d:Nat,t 1=sN k∧t 5=.buf 5 d 1 0 (g).length∧H 5=rW d 3 (al (eI .i64) g)|(.inr r)=>x=.ret∧gu .clean tab none [.tmp 4] ⟨t,EH H,e⟩=some (.clean (.bool r),none)) n ?_ ?_ ?_
 ·refine⟨1,?_,?_,?_,?_,?_,?_⟩;all_goals (rfl)
 ·rintro f t H e ⟨b,h⟩ c a;simp only[oU]at a;simp only[fT,seval,h];apply sp ax a<;>intro _ a
  ·obtain⟨z,p,a⟩:=ae a;have i:=bk (eI .i64) p;simp only[bK]at i;simp only[fT,seval,h,i];apply sp ax a<;>intro _ a
   ·cases a;simp only[fT,seval];refine tD ⟨rfl,?_⟩;simp only[fT,seval]
   ·cases a;simp only[fT,seval,h];apply iU;refine⟨b,?_⟩;and_intros<;>first|rfl|(simp only[fT,seval,h]<;>rfl)
  ·cases a;simp only[fT,seval];apply j8;refine⟨rfl,⟨b,?_,?_,?_⟩⟩;all_goals ((simp only[fT,seval,h]<;>rfl))
 ·rintro x t H e j;rcases v with _|A
  ·dsimp only at j a;obtain⟨rfl,⟨d,q⟩⟩:=j;cases a;simp only[fT,seval,q]
  ·dsimp only at j a;obtain⟨rfl,w⟩:=j;cases a;simp only[aY,bc,cA,cI];exact w
def dO (l:Option (D×Row)) (d:List D):=eu (gh (j0 gn) (dS (L6 131 0 (dS (Xc (eI .i64)))))) (fun x:(List ia)×(Int)=>dj x.1 x.2) (fun r:Int =>.clean (.int .i64 r)) l d
def adP {β:Type} {F:(List ia)×(Int)->Option β} {R:β->RK} (b:(List ia)) (a:Int):eu (gh (j0 gn) (dS (L6 131 0 (dS (Xc (eI .i64)))))) F R none [.sl false false b.length (al gn b),.clo 131 0 [.ip [.int .i64 a]]]=(F (b,(a))).map fun r=>(R r,none):=cD _ _ _ (b,(a))
def fN:Env:=(Am.ext bn 131 false rI)
def nK:bV prog fN:=(bV.none.add IT false)
def bz:=ai @w<|ai @ahn<|ai @rI.eq_1<|@fN.eq_1
def nO:cn prog 175 dO:=cn.jx (mode := .clean) tok nK mixed func175 (by kernel_rfl) (fun _ _=>rfl) (fun _=>by kernel_rfl) fun⟨i,b⟩ r a=>by
 replace a:dj i b=some r:=a;apply aK rfl ntmps175 results175;simp only[jy];unfold dj at a;simp only[bz,seval];obtain⟨m,j,a⟩:=ae a;refine aA (fun s t H e=>match s with|d=>t 0=sF gn i∧t 1=.clo 131 0 [.ip [sN b]]∧t 7=sN (i.length:Int)∧t 8=sN d) (fun o x t H e=>match o with|(.inl _)=>x=.exit 0|(.inr r)=>x=.ret∧gu .clean tab none [.tmp 4] ⟨t,EH H,e⟩=some (.clean (.int .i64 r),none)) j ?_ ?_ ?_
 ·refine⟨?_,?_,?_,?_⟩;all_goals (rfl)
 ·rintro d t H e g c a;simp only[dJ]at a;simp only[bz,seval,g];apply sp ax a<;>intro _ a
  ·obtain⟨p,k,a⟩:=ae a;have f:=bk gn k;simp only[bK]at f;obtain⟨q,l,a⟩:=ae a;simp only[bz,seval,g,f,l];apply sp ax a<;>intro _ a
   ·cases a;simp only[bz,seval];refine tD ⟨rfl,?_⟩;simp only[bz,seval]
   ·cases a;simp only[bz,seval,g];apply iU;and_intros<;>first|rfl|(simp only[bz,seval,g]<;>rfl)
  ·cases a;simp only[bz,seval];apply j8;exact rfl
 ·rintro x t H e h;rcases m with _|u
  ·dsimp only at h a;subst h;cases a;simp only[bz,seval]
  ·dsimp only at h a;obtain⟨rfl,n⟩:=h;cases a;simp only[aY,bc,cA,cI];exact n
def dq (l:Option (D×Row)) (d:List D):=eu (gh (j0 gn) (dS (L6 131 0 (dS (Xc (eI .i64)))))) (fun x:(List ia)×(Int)=>cj x.1 x.2) (fun r:Bool =>.clean (.bool r)) l d
def eS:Env:=(Am.ext bn 175 false dO)
def lY:bV prog eS:=(bV.none.add nO false)
def mM:=ai @w<|ai @adP<|ai @dO.eq_1<|@eS.eq_1
def mq:cn prog 134 dq:=cn.jx (mode := .clean) tok lY mixed func134 (by kernel_rfl) (fun _ _=>rfl) (fun _=>by kernel_rfl) fun⟨d,b⟩ r a=>by
 replace a:cj d b=some r:=a;apply aK rfl ntmps134 results134;simp only[jy];unfold cj at a;obtain⟨e,c,a⟩:=ae a;cases a;simp only[mM,seval,c]
def dR (l:Option (D×Row)) (d:List D):=eu (gh (j0 (eI .i64)) (dS (L6 132 0 (dS (Xc (eI .i64)))))) (fun x:(List Int)×(Int)=>dm x.1 x.2) (fun r:Int =>.clean (.int .i64 r)) l d
def adQ {β:Type} {F:(List Int)×(Int)->Option β} {R:β->RK} (b:(List Int)) (a:Int):eu (gh (j0 (eI .i64)) (dS (L6 132 0 (dS (Xc (eI .i64)))))) F R none [.sl false false b.length (al (eI .i64) b),.clo 132 0 [.ip [.int .i64 a]]]=(F (b,(a))).map fun r=>(R r,none):=cD _ _ _ (b,(a))
def fO:Env:=(Am.ext bn 132 false rJ)
def nL:bV prog fO:=(bV.none.add IU false)
def bA:=ai @w<|ai @aho<|ai @rJ.eq_1<|@fO.eq_1
def nP:cn prog 176 dR:=cn.jx (mode := .clean) tok nL mixed func176 (by kernel_rfl) (fun _ _=>rfl) (fun _=>by kernel_rfl) fun⟨i,b⟩ r a=>by
 replace a:dm i b=some r:=a;apply aK rfl ntmps176 results176;simp only[jy];unfold dm at a;simp only[bA,seval];obtain⟨m,j,a⟩:=ae a;refine aA (fun s t H e=>match s with|d=>t 0=sI i∧t 1=.clo 132 0 [.ip [sN b]]∧t 7=sN (i.length:Int)∧t 8=sN d) (fun o x t H e=>match o with|(.inl _)=>x=.exit 0|(.inr r)=>x=.ret∧gu .clean tab none [.tmp 4] ⟨t,EH H,e⟩=some (.clean (.int .i64 r),none)) j ?_ ?_ ?_
 ·refine⟨?_,?_,?_,?_⟩;all_goals (rfl)
 ·rintro d t H e g c a;simp only[dK]at a;simp only[bA,seval,g];apply sp ax a<;>intro _ a
  ·obtain⟨p,k,a⟩:=ae a;have f:=bk (eI .i64) k;simp only[bK]at f;obtain⟨q,l,a⟩:=ae a;simp only[bA,seval,g,f,l];apply sp ax a<;>intro _ a
   ·cases a;simp only[bA,seval];refine tD ⟨rfl,?_⟩;simp only[bA,seval]
   ·cases a;simp only[bA,seval,g];apply iU;and_intros<;>first|rfl|(simp only[bA,seval,g]<;>rfl)
  ·cases a;simp only[bA,seval];apply j8;exact rfl
 ·rintro x t H e h;rcases m with _|u
  ·dsimp only at h a;subst h;cases a;simp only[bA,seval]
  ·dsimp only at h a;obtain⟨rfl,n⟩:=h;cases a;simp only[aY,bc,cA,cI];exact n
def dr (l:Option (D×Row)) (d:List D):=eu (gh (j0 (eI .i64)) (dS (L6 132 0 (dS (Xc (eI .i64)))))) (fun x:(List Int)×(Int)=>ck x.1 x.2) (fun r:Bool =>.clean (.bool r)) l d
def eT:Env:=(Am.ext bn 176 false dR)
def lZ:bV prog eT:=(bV.none.add nP false)
def mN:=ai @w<|ai @adQ<|ai @dR.eq_1<|@eT.eq_1
def mu:cn prog 135 dr:=cn.jx (mode := .clean) tok lZ mixed func135 (by kernel_rfl) (fun _ _=>rfl) (fun _=>by kernel_rfl) fun⟨d,b⟩ r a=>by
 replace a:ck d b=some r:=a;apply aK rfl ntmps135 results135;simp only[jy];unfold ck at a;obtain⟨e,c,a⟩:=ae a;cases a;simp only[mN,seval,c]
def vu (l:Option (D×Row)) (d:List D):=eu (gh (bU bH) (dS (aI .i64))) (fun x:bs×Int=>u5 x.1 x.2) (fun r:Bool =>.clean (.bool r)) l d
def ahp {β:Type} {F:bs×Int->Option β} {R:β->RK} (a:(List gV)) (b:(List tz)) (c:(List (List ak))) (d:(List ia)) (e:(List Int)) (f:Int):eu (gh (bU bH) (dS (aI .i64))) F R none [.agg [.sl false false a.length (al bt a),.sl false false b.length (al eF b),.sl false false c.length (al (dU ah) c),.sl false false d.length (al gn d),.sl false false e.length (al (eI .i64) e)],.int .i64 f]=(F ((bs.mk (fb.mk a b c) d e),f)).map fun r=>(R r,none):=cD _ _ _ ((bs.mk (fb.mk a b c) d e),f)
def Ap:Env:=(Am.ext (Am.ext (Am.ext (Am.ext bn 130 false ns) 133 false qm) 134 false dq) 135 false dr)
def PL:bV prog Ap:=((((bV.none.add CT false).add Ho false).add mq false).add mu false)
def cc:=ai @w<|ai @adO<|ai @ns.eq_1<|ai @sh7<|ai @qm.eq_1<|ai @adP<|ai @dq.eq_1<|ai @adQ<|ai @dr.eq_1<|@Ap.eq_1
def Q6:cn prog 82 vu:=cn.jx (mode := .clean) tok PL mixed func82 (by kernel_rfl) (fun _ _=>rfl) (fun _=>by kernel_rfl) fun⟨b,O⟩ r a=>by
 replace a:u5 b O=some r:=a;apply aK rfl ntmps82 results82;simp only[jy];unfold u5 at a;obtain⟨r1,an,a⟩:=ae a;simp only[cc,seval,an];apply sp ax a<;>intro _ a
 ·cases a;simp only[cc,seval]
 ·simp only[cc,seval];obtain⟨o8,ao,a⟩:=ae a;refine aA (fun s t H e=>match s with|(D,K)=>∃j:Nat,∃k:Nat,∃q:Nat,∃l:Nat,t 2=.ptr 2 j 0∧t 3=.ptr 3 k 0∧t 5=.buf 5 q 1 0 (K).length∧t 6=.buf 6 l 1 0 0∧t 19=sF bt b.aw.au∧t 20=sN (b.aw.au.length:Int)∧t 21=sN D∧H 2=rV j 57 [sF bt b.aw.au,sF eF b.aw.aP,sF (dU ah) b.aw.aM,sF gn b.bq,sI b.aB]∧H 3=rV k 3 [sN O]∧H 5=rW q 3 (al (eI .i64) K)∧H 6=rW l 3 []) (fun o x t H e=>match o with|d=>x=.exit 0∧∃f:Nat,∃g:Nat,∃h:Nat,∃i:Nat,t 2=.ptr 2 f 0∧t 3=.ptr 3 g 0∧t 5=.buf 5 h 1 0 (d).length∧t 6=.buf 6 i 1 0 0∧H 2=rV f 57 [sF bt b.aw.au,sF eF b.aw.aP,sF (dU ah) b.aw.aM,sF gn b.bq,sI b.aB]∧H 3=rV g 3 [sN O]∧H 5=rW h 3 (al (eI .i64) d)∧H 6=rW i 3 []) ao ?_ ?_ ?_
  ·refine⟨0,0,2,2,?_,?_,?_,?_,?_,?_,?_,?_,?_,?_,?_⟩;all_goals (rfl)
  ·rintro⟨D,K⟩ t H e ⟨j,k,q,l,L⟩ c a;simp only[n5]at a;simp only[cc,seval,L];apply sp ax a<;>intro _ a
   ·obtain⟨ar,P,a⟩:=ae a;have E:=bk bt P;simp only[bK]at E;simp only[cc,seval,L,E];apply sp ax a<;>intro _ a
    ·obtain⟨au,Q,a⟩:=ae a;obtain⟨R,F,S,T⟩:=jJ (eI .i64) Q;simp only[bK]at F;cases a;simp only[cc,seval,L,R,F,S,T];apply iU;refine⟨j,k,e+1+1+1,l,?_⟩;and_intros<;>first|rfl|(simp only[cc,seval,L]<;>rfl)
    ·cases a;simp only[cc,seval,L];apply iU;refine⟨j,k,q,l,?_⟩;and_intros<;>first|rfl|(simp only[cc,seval,L]<;>rfl)
   ·cases a;simp only[cc,seval];apply j8;refine⟨rfl,⟨j,k,q,l,?_,?_,?_,?_,?_,?_,?_,?_⟩⟩;all_goals ((simp only[cc,seval,L]<;>rfl))
  ·rintro x t H e U;obtain⟨d,rfl⟩:∃z,z=o8:=⟨_,rfl⟩;dsimp only at U a;obtain⟨rfl,⟨f,g,h,i,V⟩⟩:=U;simp only[cc,seval,V];obtain⟨aq,W,a⟩:=ae a;refine aA (fun s t H e=>match s with|(G,M)=>∃m:Nat,∃n:Nat,∃p:Nat,∃u:Nat,t 2=.ptr 2 m 0∧t 3=.ptr 3 n 0∧t 5=.buf 5 p 1 0 (d).length∧t 6=.buf 6 u 1 0 (M).length∧t 36=sF eF b.aw.aP∧t 37=sN (b.aw.aP.length:Int)∧t 38=sN G∧H 2=rV m 57 [sF bt b.aw.au,sF eF b.aw.aP,sF (dU ah) b.aw.aM,sF gn b.bq,sI b.aB]∧H 3=rV n 3 [sN O]∧H 5=rW p 3 (al (eI .i64) d)∧H 6=rW u 3 (al (eI .i64) M)) (fun o x t H e=>match o with|v=>x=.exit 2∧∃w:Nat,∃y:Nat,∃A:Nat,∃B:Nat,t 2=.ptr 2 w 0∧t 3=.ptr 3 y 0∧t 5=.buf 5 A 1 0 (d).length∧t 6=.buf 6 B 1 0 (v).length∧H 2=rV w 57 [sF bt b.aw.au,sF eF b.aw.aP,sF (dU ah) b.aw.aM,sF gn b.bq,sI b.aB]∧H 3=rV y 3 [sN O]∧H 5=rW A 3 (al (eI .i64) d)∧H 6=rW B 3 (al (eI .i64) v)) W ?_ ?_ ?_
   ·refine⟨f,g,h,i,?_⟩;and_intros<;>first|rfl|(simp only[cc,seval,V]<;>rfl)
   ·rintro⟨G,M⟩ t H e ⟨m,n,p,u,N⟩ c a;simp only[n9]at a;simp only[cc,seval,N];apply sp ax a<;>intro _ a
    ·obtain⟨av,X,a⟩:=ae a;have I:=bk eF X;simp only[bK]at I;simp only[cc,seval,N,I];apply sp ax a<;>intro _ a
     ·obtain⟨aw,Y,a⟩:=ae a;obtain⟨Z,J,aa,ab⟩:=jJ (eI .i64) Y;simp only[bK]at J;cases a;simp only[cc,seval,N,Z,J,aa,ab];apply iU;refine⟨m,n,p,e+1+1+1,?_⟩;and_intros<;>first|rfl|(simp only[cc,seval,N]<;>rfl)
     ·cases a;simp only[cc,seval,N];apply iU;refine⟨m,n,p,u,?_⟩;and_intros<;>first|rfl|(simp only[cc,seval,N]<;>rfl)
    ·cases a;simp only[cc,seval];apply j8;refine⟨rfl,⟨m,n,p,u,?_,?_,?_,?_,?_,?_,?_,?_⟩⟩;all_goals ((simp only[cc,seval,N]<;>rfl))
   ·rintro x t H e U;obtain⟨v,rfl⟩:∃z,z=aq:=⟨_,rfl⟩;dsimp only at U a;obtain⟨rfl,⟨w,y,A,B,C⟩⟩:=U;obtain⟨ay,ad,a⟩:=ae a;simp only[cc,seval,C,ad];apply sp ik a<;>intro _ a
    ·obtain⟨az,ag,a⟩:=ae a;simp only[cc,seval,C,ag];apply sp ik a<;>intro _ a
     ·obtain⟨aB,ai,a⟩:=ae a;simp only[cc,seval,C,ai];apply sp ik a<;>intro _ a
      ·obtain⟨aC,aj,a⟩:=ae a;cases a;simp only[cc,seval,C,aj]
      ·cases a;simp only[cc,seval]
     ·cases a;simp only[cc,seval]
    ·cases a;simp only[cc,seval]
def il (l:Option (D×Row)) (d:List D):=eu (dS (bU jK)) (fun x:aT=>nZ x) (fun r:Int×Int =>.clean (.tup [.int .i64 r.1,.int .i64 r.2])) l d
def RM {β:Type} {F:aT->Option β} {R:β->RK} (a:(List Int)) (b:(List bs)):eu (dS (bU jK)) F R none [.agg [.sl false false a.length (al (eI .i64) a),.sl false false b.length (al bH b)]]=(F ((aT.mk a b))).map fun r=>(R r,none):=cD _ _ _ ((aT.mk a b))
def xT:Env:=(Am.ext (Am.ext bn 81 false dp) 82 false vu)
def Mz:bV prog xT:=((bV.none.add nc false).add Q6 false)
def aJ:=ai @w<|ai @IZ<|ai @dp.eq_1<|ai @ahp<|ai @vu.eq_1<|@xT.eq_1
def wb:cn prog 39 il:=cn.jx (mode := .clean) tok Mz mixed func39 (by kernel_rfl) (fun _ _=>rfl) (fun _=>by kernel_rfl) fun b r a=>by
 replace a:nZ b=some r:=a;apply aK rfl ntmps39 results39;simp only[jy];unfold nZ at a;simp only[aJ,seval];obtain⟨o1,bp,a⟩:=ae a;refine cR 0 (fun s t H e=>match s with|G=>∃l:Nat,t 1=.ptr 1 l 0∧t 27=.bool G∧H 1=rV l 25 [sI b.av,sF bH b.an]) (fun s=>s=o1) ?_ ?_
 ·rintro G t H e ⟨l,aG⟩ rfl;try dsimp only at a
  simp only[aJ,seval,aG];apply sp ax a<;>intro _ a
  ·cases a;simp only[aJ,seval]
  ·simp only[aJ,seval,aG];obtain⟨o7,bq,a⟩:=ae a;refine aA (fun s t H e=>match s with|an=>∃I:Nat,t 1=.ptr 1 I 0∧t 29=sI b.av∧t 30=sN (b.av.length:Int)∧t 31=sN an∧H 1=rV I 25 [sI b.av,sF bH b.an]) (fun o x t H e=>match o with|(.inl _)=>x=.exit 0∧∃m:Nat,t 1=.ptr 1 m 0∧H 1=rV m 25 [sI b.av,sF bH b.an]|(.inr r)=>x=.ret∧gu .clean tab none [.tmp 2,.tmp 3] ⟨t,EH H,e⟩=some (.clean (.tup [.int .i64 r.1,.int .i64 r.2]),none)) bq ?_ ?_ ?_
   ·refine⟨l,?_⟩;and_intros<;>first|rfl|(simp only[aJ,seval,aG]<;>rfl)
   ·rintro an t H e ⟨I,Zb⟩ c a;simp only[mc]at a;simp only[aJ,seval,Zb];apply sp ax a<;>intro _ a
    ·obtain⟨x9,br,a⟩:=ae a;have aM:=bk (eI .i64) br;simp only[bK]at aM;obtain⟨bG,aN,a⟩:=ae a;simp only[aJ,seval,Zb,aM,aN];apply sp ax a<;>intro _ a
     ·cases a;simp only[aJ,seval];refine tD ⟨rfl,?_⟩;simp only[aJ,seval]
     ·cases a;simp only[aJ,seval,Zb];apply iU;refine⟨I,?_⟩;and_intros<;>first|rfl|(simp only[aJ,seval,Zb]<;>rfl)
    ·cases a;simp only[aJ,seval];apply j8;refine⟨rfl,⟨I,?_,?_⟩⟩;all_goals ((simp only[aJ,seval,Zb]<;>rfl))
   ·rintro x t H e g;rcases o7 with _|rb
    ·dsimp only at g a;obtain⟨rfl,⟨m,aO⟩⟩:=g;obtain⟨bI,ao,a⟩:=ae a;obtain⟨aP,aQ,aR,aq,aS⟩:=mk_one (eI .i64) ao;simp only[bK]at aq;obtain⟨bB,bC,bD,aU,bE⟩:=mk_one (eI .i64) ao;simp only[bK]at aU;simp only[aJ,seval,aO,aP,aQ,aR,aq,aS];refine bP (by kernel_rfl) ?_;obtain⟨bu,aV,a⟩:=ae a;refine aA (fun s t H e=>match s with|(i,aH,k)=>∃J:Nat,∃K:Nat,∃L:Nat,t 1=.ptr 1 J 0∧t 6=.buf 6 K 1 0 (aH).length∧t 7=.buf 7 L 1 0 (k).length∧t 50=sF bH b.an∧t 51=sN (b.an.length:Int)∧t 52=sN i∧H 1=rV J 25 [sI b.av,sF bH b.an]∧H 6=rW K 3 (al (eI .i64) aH)∧H 7=rW L 3 (al (eI .i64) k)) (fun o x t H e=>match o with|(.inl (j,d))=>x=.exit 2∧∃n:Nat,∃p:Nat,∃q:Nat,t 1=.ptr 1 n 0∧t 6=.buf 6 p 1 0 (j).length∧t 7=.buf 7 q 1 0 (d).length∧H 1=rV n 25 [sI b.av,sF bH b.an]∧H 6=rW p 3 (al (eI .i64) j)∧H 7=rW q 3 (al (eI .i64) d)|(.inr r)=>x=.ret∧gu .clean tab none [.tmp 2,.tmp 3] ⟨t,EH H,e⟩=some (.clean (.tup [.int .i64 r.1,.int .i64 r.2]),none)) aV ?_ ?_ ?_
     ·refine⟨m,e,e,?_⟩;and_intros<;>first|rfl|(simp only[aJ,seval,aO]<;>rfl)
     ·rintro⟨i,aH,k⟩ t H e ⟨J,K,L,Zc⟩ c a;simp only[kh]at a;simp only[aJ,seval,Zc];apply sp ax a<;>intro _ a
      ·obtain⟨f,aW,a⟩:=ae a;have ar:=bk bH aW;simp only[bK]at ar;obtain⟨bJ,aX,a⟩:=ae a;simp only[aJ,seval,Zc,ar,aX];apply sp ax a<;>intro _ a
       ·cases a;simp only[aJ,seval];refine tD ⟨rfl,?_⟩;simp only[aJ,seval]
       ·simp only[aJ,seval];obtain⟨bw,aZ,a⟩:=ae a;refine aA (fun s t H e=>match s with|(au,aI)=>∃M:Nat,∃N:Nat,∃O:Nat,∃P:Nat,t 1=.ptr 1 M 0∧t 6=.buf 6 N 1 0 (aI).length∧t 7=.buf 7 O 1 0 (k).length∧t 9=.ptr 9 P 0∧t 50=sF bH b.an∧t 51=sN (b.an.length:Int)∧t 52=sN i∧t 65=sI f.aB∧t 66=sN (f.aB.length:Int)∧t 67=sN au∧H 1=rV M 25 [sI b.av,sF bH b.an]∧H 6=rW N 3 (al (eI .i64) aI)∧H 7=rW O 3 (al (eI .i64) k)∧H 9=rV P 57 [sF bt f.aw.au,sF eF f.aw.aP,sF (dU ah) f.aw.aM,sF gn f.bq,sI f.aB]) (fun o x t H e=>match o with|h=>x=.exit 4∧∃u:Nat,∃v:Nat,∃w:Nat,∃Q:Nat,t 1=.ptr 1 u 0∧t 6=.buf 6 v 1 0 (h).length∧t 7=.buf 7 w 1 0 (k).length∧t 9=.ptr 9 Q 0∧t 50=sF bH b.an∧t 51=sN (b.an.length:Int)∧t 52=sN i∧H 1=rV u 25 [sI b.av,sF bH b.an]∧H 6=rW v 3 (al (eI .i64) h)∧H 7=rW w 3 (al (eI .i64) k)∧H 9=rV Q 57 [sF bt f.aw.au,sF eF f.aw.aP,sF (dU ah) f.aw.aM,sF gn f.bq,sI f.aB]) aZ ?_ ?_ ?_
        ·refine⟨J,K,L,e+1,?_⟩;and_intros<;>first|rfl|(simp only[aJ,seval,Zc]<;>rfl)
        ·rintro⟨au,aI⟩ t H e ⟨M,N,O,P,Zf⟩ c a;simp only[me]at a;simp only[aJ,seval,Zf];apply sp ax a<;>intro _ a
         ·obtain⟨bL,a1,a⟩:=ae a;have av:=bk (eI .i64) a1;simp only[bK]at av;obtain⟨a6,R,a⟩:=ae a;have y:=bk (eI .i64) R;simp only[bK]at y;have y:=bk (eI .i64) R;simp only[bK]at y;have a7:=fL (eI .i64) (x':=IntKind.i64.wrap (a6+1)) (fo:=0) (cs:=[.int .i64 (IntKind.i64.wrap (a6+1))]) R rfl (akW rfl);simp only[bK,Nat.add_zero]at a7;have aw:=a7;simp only[putCells,List.length_cons,List.length_nil,akl]at aw;cases a;simp only[aJ,seval,Zf,av,y,aw];apply iU;refine⟨M,N,O,P,?_⟩;and_intros<;>first|rfl|(simp only[aJ,seval,Zf]<;>rfl)
         ·cases a;simp only[aJ,seval];apply j8;refine⟨rfl,⟨M,N,O,P,?_,?_,?_,?_,?_,?_,?_,?_,?_,?_,?_⟩⟩;all_goals ((simp only[aJ,seval,Zf]<;>rfl))
        ·rintro x t H e g;obtain⟨h,rfl⟩:∃z,z=bw:=⟨_,rfl⟩;dsimp only at g a;obtain⟨rfl,⟨u,v,w,Q,a8⟩⟩:=g;simp only[aJ,seval,a8];obtain⟨bx,ba,a⟩:=ae a;refine aA (fun s t H e=>match s with|(ay,aL)=>∃S:Nat,∃T:Nat,∃U:Nat,t 1=.ptr 1 S 0∧t 6=.buf 6 T 1 0 (h).length∧t 7=.buf 7 U 1 0 (aL).length∧t 50=sF bH b.an∧t 51=sN (b.an.length:Int)∧t 52=sN i∧t 79=sF gn f.bq∧t 80=sN (f.bq.length:Int)∧t 81=sN ay∧H 1=rV S 25 [sI b.av,sF bH b.an]∧H 6=rW T 3 (al (eI .i64) h)∧H 7=rW U 3 (al (eI .i64) aL)) (fun o x t H e=>match o with|V=>x=.exit 6∧∃A:Nat,∃B:Nat,∃C:Nat,t 1=.ptr 1 A 0∧t 6=.buf 6 B 1 0 (h).length∧t 7=.buf 7 C 1 0 (V).length∧t 50=sF bH b.an∧t 51=sN (b.an.length:Int)∧t 52=sN i∧H 1=rV A 25 [sI b.av,sF bH b.an]∧H 6=rW B 3 (al (eI .i64) h)∧H 7=rW C 3 (al (eI .i64) V)) ba ?_ ?_ ?_
         ·refine⟨u,v,w,?_⟩;and_intros<;>first|rfl|(simp only[aJ,seval,a8]<;>rfl)
         ·rintro⟨ay,aL⟩ t H e ⟨S,T,U,Zg⟩ c a;simp only[mf]at a;simp only[aJ,seval,Zg];apply sp ax a<;>intro _ a
          ·obtain⟨ab,bb,a⟩:=ae a;have az:=bk gn bb;simp only[bK]at az;obtain⟨ad,W,a⟩:=ae a;have D:=bk (eI .i64) W;simp only[bK]at D;have D:=bk (eI .i64) W;simp only[bK]at D;have bd:=fL (eI .i64) (x':=(if 1099511627777<(IntKind.i64.wrap (ad+ab.aR)) then 1099511627777 else IntKind.i64.wrap (ad+ab.aR))) (fo:=0) (cs:=[.int .i64 (if 1099511627777<(IntKind.i64.wrap (ad+ab.aR)) then 1099511627777 else IntKind.i64.wrap (ad+ab.aR))]) W rfl (akW rfl);simp only[bK,Nat.add_zero]at bd;have aB:=bd;simp only[putCells,List.length_cons,List.length_nil,akl]at aB;simp only[aJ,seval,Zg,az,D,aB];refine bP (by kernel_rfl) ?_;cases a;apply iU;refine⟨S,T,U,?_⟩;and_intros<;>first|rfl|(simp only[aJ,seval,Zg]<;>rfl)
          ·cases a;simp only[aJ,seval];apply j8;refine⟨rfl,⟨S,T,U,?_,?_,?_,?_,?_,?_,?_,?_,?_⟩⟩;all_goals ((simp only[aJ,seval,Zg]<;>rfl))
         ·rintro x t H e g;obtain⟨V,rfl⟩:∃z,z=bx:=⟨_,rfl⟩;dsimp only at g a;obtain⟨rfl,⟨A,B,C,bf⟩⟩:=g;cases a;simp only[aJ,seval,bf];apply iU;refine⟨A,B,C,?_⟩;and_intros<;>first|rfl|(simp only[aJ,seval,bf]<;>rfl)
      ·cases a;simp only[aJ,seval];apply j8;refine⟨rfl,⟨J,K,L,?_,?_,?_,?_,?_,?_⟩⟩;all_goals ((simp only[aJ,seval,Zc]<;>rfl))
     ·rintro x t H e g;rcases bu with⟨j,d⟩|rc
      ·dsimp only at g a;obtain⟨rfl,⟨n,p,q,bg⟩⟩:=g;simp only[aJ,seval,bg];obtain⟨bz,bh,a⟩:=ae a;refine aA (fun s t H e=>match s with|X=>∃Y:Nat,∃ag:Nat,∃Z:Nat,t 1=.ptr 1 Y 0∧t 7=.buf 7 Z 1 0 (d).length∧t 100=.buf 6 ag 1 0 (j).length∧t 101=sN ((j).length:Int)∧t 102=sN X∧H 1=rV Y 25 [sI b.av,sF bH b.an]∧H 6=rW ag 3 (al (eI .i64) j)∧H 7=rW Z 3 (al (eI .i64) d)) (fun o x t H e=>match o with|(.inl _)=>x=.exit 8∧∃E:Nat,∃F:Nat,t 1=.ptr 1 E 0∧t 7=.buf 7 F 1 0 (d).length∧H 1=rV E 25 [sI b.av,sF bH b.an]∧H 7=rW F 3 (al (eI .i64) d)|(.inr r)=>x=.ret∧gu .clean tab none [.tmp 2,.tmp 3] ⟨t,EH H,e⟩=some (.clean (.tup [.int .i64 r.1,.int .i64 r.2]),none)) bh ?_ ?_ ?_
       ·refine⟨n,p,q,?_⟩;and_intros<;>first|rfl|(simp only[aJ,seval,bg]<;>rfl)
       ·rintro X t H e ⟨Y,ag,Z,Zh⟩ c a;simp only[mg]at a;simp only[aJ,seval,Zh];apply sp ax a<;>intro _ a
        ·obtain⟨bM,bj,a⟩:=ae a;have aD:=bk (eI .i64) bj;simp only[bK]at aD;simp only[aJ,seval,Zh,aD];apply sp ax a<;>intro _ a
         ·cases a;simp only[aJ,seval];refine tD ⟨rfl,?_⟩;simp only[aJ,seval]
         ·simp only[aJ,seval];apply sp ax a<;>intro _ a
          ·cases a;simp only[aJ,seval];refine tD ⟨rfl,?_⟩;simp only[aJ,seval]
          ·cases a;simp only[aJ,seval,Zh];apply iU;refine⟨Y,ag,Z,?_⟩;and_intros<;>first|rfl|(simp only[aJ,seval,Zh]<;>rfl)
        ·cases a;simp only[aJ,seval];apply j8;refine⟨rfl,⟨Y,Z,?_,?_,?_,?_⟩⟩;all_goals ((simp only[aJ,seval,Zh]<;>rfl))
       ·rintro x t H e g;rcases bz with _|rh
        ·dsimp only at g a;obtain⟨rfl,⟨E,F,bl⟩⟩:=g;simp only[aJ,seval,bl];obtain⟨bA,bm,a⟩:=ae a;refine aA (fun s t H e=>match s with|aa=>∃ai:Nat,∃aj:Nat,t 1=.ptr 1 ai 0∧t 116=.buf 7 aj 1 0 (d).length∧t 117=sN ((d).length:Int)∧t 118=sN aa∧H 1=rV ai 25 [sI b.av,sF bH b.an]∧H 7=rW aj 3 (al (eI .i64) d)) (fun o x t H e=>match o with|(.inl _)=>x=.exit 11|(.inr r)=>x=.ret∧gu .clean tab none [.tmp 2,.tmp 3] ⟨t,EH H,e⟩=some (.clean (.tup [.int .i64 r.1,.int .i64 r.2]),none)) bm ?_ ?_ ?_
         ·refine⟨E,F,?_⟩;and_intros<;>first|rfl|(simp only[aJ,seval,bl]<;>rfl)
         ·rintro aa t H e ⟨ai,aj,Zi⟩ c a;simp only[mh]at a;simp only[aJ,seval,Zi];apply sp ax a<;>intro _ a
          ·obtain⟨bN,bn,a⟩:=ae a;have aE:=bk (eI .i64) bn;simp only[bK]at aE;obtain⟨bO,bo,a⟩:=ae a;have aF:=bk (eI .i64) bo;simp only[bK]at aF;simp only[aJ,seval,Zi,aE,aF];apply sp ax a<;>intro _ a
           ·cases a;simp only[aJ,seval];refine tD ⟨rfl,?_⟩;simp only[aJ,seval]
           ·cases a;simp only[aJ,seval,Zi];apply iU;refine⟨ai,aj,?_⟩;and_intros<;>first|rfl|(simp only[aJ,seval,Zi]<;>rfl)
          ·cases a;simp only[aJ,seval];apply j8;exact rfl
         ·rintro x t H e g;rcases bA with _|ri
          ·dsimp only at g a;subst g;cases a;simp only[aJ,seval]
          ·dsimp only at g a;obtain⟨rfl,hE⟩:=g;cases a;simp only[aY,bc,cA,cI];exact hE
        ·dsimp only at g a;obtain⟨rfl,hE⟩:=g;cases a;simp only[aY,bc,cA,cI];exact hE
      ·dsimp only at g a;obtain⟨rfl,hE⟩:=g;cases a;simp only[aY,bc,cA,cI];exact hE
    ·dsimp only at g a;obtain⟨rfl,hE⟩:=g;cases a;simp only[aY,bc,cA,cI];exact hE
 ·clear a;have a:=bp;simp only[aJ,seval];apply sp bF a<;>intro _ a
  ·cases a;simp only[aJ,seval];rw[aC];refine⟨_,rfl,?_⟩;refine⟨0,?_,?_,?_⟩;all_goals (rfl)
  ·cases a;simp only[aJ,seval];rw[aC];refine⟨_,rfl,?_⟩;refine⟨0,?_,?_,?_⟩;all_goals (rfl)
def rG (l:Option (D×Row)) (d:List D):=eu (gh (bU xF) (dS (j0 ah))) (fun x:fb×(List ak)=>pK x.1 x.2) (fun r:Bool =>.clean (.bool r)) l d
def ahq {β:Type} {F:fb×(List ak)->Option β} {R:β->RK} (a:(List gV)) (b:(List tz)) (c:(List (List ak))) (d:(List ak)):eu (gh (bU xF) (dS (j0 ah))) F R none [.agg [.sl false false a.length (al bt a),.sl false false b.length (al eF b),.sl false false c.length (al (dU ah) c)],.sl false false d.length (al ah d)]=(F ((fb.mk a b c),d)).map fun r=>(R r,none):=cD _ _ _ ((fb.mk a b c),d)
def vR:Env:=(Am.ext (Am.ext bn 24 false cF) 54 false ba)
def IE:bV prog vR:=((bV.none.add ki false).add fh false)
def da:=ai @w<|ai @kx<|ai @cF.eq_1<|ai @ba.eq_1<|@vR.eq_1
def IQ:cn prog 83 rG:=cn.jx (mode := .clean) tok IE mixed func83 (by kernel_rfl) (fun _ _=>rfl) (fun _=>by kernel_rfl) fun⟨n,q⟩ r a=>by
 replace a:pK n q=some r:=a;apply aK rfl ntmps83 results83;simp only[jy];unfold pK at a;simp only[da,seval];apply sp ax a<;>intro _ a
 ·cases a;simp only[da,seval]
 ·simp only[da,seval];obtain⟨u,i,a⟩:=ae a;refine aA (fun s t H e=>match s with|f=>∃b:Nat,t 2=.ptr 2 b 0∧t 13=sF ah q∧t 14=sN (q.length:Int)∧t 15=sN f∧H 2=rV b 54 [sF bt n.au,sF eF n.aP,sF (dU ah) n.aM]) (fun o x t H e=>match o with|(.inl _)=>x=.exit 0|(.inr r)=>x=.ret∧gu .clean tab none [.tmp 4] ⟨t,EH H,e⟩=some (.clean (.bool r),none)) i ?_ ?_ ?_
  ·refine⟨0,?_,?_,?_,?_,?_⟩;all_goals (rfl)
  ·rintro f t H e ⟨b,h⟩ c a;simp only[mT]at a;simp only[da,seval,h];apply sp ax a<;>intro _ a
   ·obtain⟨v,j,a⟩:=ae a;have d:=bk ah j;simp only[bK]at d;obtain⟨w,k,a⟩:=ae a;simp only[da,seval,h,d,k];apply sp bF a<;>intro _ a
    ·cases a;simp only[da,seval];refine tD ⟨rfl,?_⟩;simp only[da,seval]
    ·obtain⟨y,l,a⟩:=ae a;have g:=bk bt l;simp only[bK]at g;simp only[da,seval,h,d,g];apply sp ik a<;>intro _ a
     ·obtain⟨z,m,a⟩:=ae a;simp only[da,seval,m];apply sp ax a<;>intro _ a
      ·cases a;simp only[da,seval];refine tD ⟨rfl,?_⟩;simp only[da,seval]
      ·cases a;simp only[da,seval,h];apply iU;refine⟨b,?_⟩;and_intros<;>first|rfl|(simp only[da,seval,h]<;>rfl)
     ·cases a;simp only[da,seval,h];apply iU;refine⟨b,?_⟩;and_intros<;>first|rfl|(simp only[da,seval,h]<;>rfl)
   ·cases a;simp only[da,seval];apply j8;exact rfl
  ·rintro x t H e p;rcases u with _|B
   ·dsimp only at p a;subst p;cases a;simp only[da,seval]
   ·dsimp only at p a;obtain⟨rfl,A⟩:=p;cases a;simp only[aY,bc,cA,cI];exact A
def np (l:Option (D×Row)) (d:List D):=eu (dS (bU ah)) (fun x:ak=>mS x) (fun r:Bool =>.clean (.bool r)) l d
def rf:Env:=(Am.ext bn 24 false cF)
def CA:bV prog rf:=(bV.none.add ki false)
def EJ:=ai @w<|ai @kx<|ai @cF.eq_1<|@rf.eq_1
def CP:cn prog 84 np:=cn.jx (mode := .clean) tok CA mixed func84 (by kernel_rfl) (fun _ _=>rfl) (fun _=>by kernel_rfl) fun c r a=>by
 replace a:mS c=some r:=a;apply aK rfl ntmps84 results84;simp only[jy];unfold mS at a;obtain⟨d,b,a⟩:=ae a;cases a;simp only[EJ,seval,b]
def eh (l:Option (D×Row)) (d:List D):=eu (gh (j0 ah) (dS (NN 84))) (fun x:(List ak)×Unit=>dy x.1) (fun r:Int =>.clean (.int .i64 r)) l d
def adR {β:Type} {F:(List ak)×Unit->Option β} {R:β->RK} (a:(List ak)):eu (gh (j0 ah) (dS (NN 84))) F R none [.sl false false a.length (al ah a),.fn 84]=(F (a,())).map fun r=>(R r,none):=cD _ _ _ (a,())
def fY:Env:=(Am.ext bn 84 false np)
def ow:bV prog fY:=(bV.none.add CP false)
def bD:=ai @w<|ai @kx<|ai @np.eq_1<|@fY.eq_1
def oA:cn prog 102 eh:=cn.jx (mode := .clean) tok ow mixed func102 (by kernel_rfl) (fun _ _=>rfl) (fun _=>by kernel_rfl) fun⟨h,_⟩ r a=>by
 replace a:dy h=some r:=a;apply aK rfl ntmps102 results102;simp only[jy];unfold dy at a;simp only[bD,seval];obtain⟨l,i,a⟩:=ae a;refine aA (fun s t H e=>match s with|b=>t 0=sF ah h∧t 1=.fn 84∧t 7=sN (h.length:Int)∧t 8=sN b) (fun o x t H e=>match o with|(.inl _)=>x=.exit 0|(.inr r)=>x=.ret∧gu .clean tab none [.tmp 4] ⟨t,EH H,e⟩=some (.clean (.int .i64 r),none)) i ?_ ?_ ?_
 ·refine⟨?_,?_,?_,?_⟩;all_goals (rfl)
 ·rintro b t H e f c a;simp only[dW]at a;simp only[bD,seval,f];apply sp ax a<;>intro _ a
  ·obtain⟨n,j,a⟩:=ae a;have d:=bk ah j;simp only[bK]at d;obtain⟨p,k,a⟩:=ae a;simp only[bD,seval,f,d,k];apply sp ax a<;>intro _ a
   ·cases a;simp only[bD,seval];refine tD ⟨rfl,?_⟩;simp only[bD,seval]
   ·cases a;simp only[bD,seval,f];apply iU;and_intros<;>first|rfl|(simp only[bD,seval,f]<;>rfl)
  ·cases a;simp only[bD,seval];apply j8;exact rfl
 ·rintro x t H e g;rcases l with _|q
  ·dsimp only at g a;subst g;cases a;simp only[bD,seval]
  ·dsimp only at g a;obtain⟨rfl,m⟩:=g;cases a;simp only[aY,bc,cA,cI];exact m
def dA (l:Option (D×Row)) (d:List D):=eu (gh (j0 ah) (dS (NN 84))) (fun x:(List ak)×Unit=>ct x.1) (fun r:Bool =>.clean (.bool r)) l d
def ff:Env:=(Am.ext bn 102 false eh)
def mH:bV prog ff:=(bV.none.add oA false)
def nh:=ai @w<|ai @adR<|ai @eh.eq_1<|@ff.eq_1
def mK:cn prog 52 dA:=cn.jx (mode := .clean) tok mH mixed func52 (by kernel_rfl) (fun _ _=>rfl) (fun _=>by kernel_rfl) fun⟨c,_⟩ r a=>by
 replace a:ct c=some r:=a;apply aK rfl ntmps52 results52;simp only[jy];unfold ct at a;obtain⟨d,b,a⟩:=ae a;cases a;simp only[nh,seval,b]
def qg (l:Option (D×Row)) (d:List D):=eu (gh (bU jK) (dS (j0 (dU ah)))) (fun x:aT×(List (List ak))=>ln x.1 x.2) (fun r:Int =>.clean (.int .i64 r)) l d
def Yp {β:Type} {F:aT×(List (List ak))->Option β} {R:β->RK} (a:(List Int)) (b:(List bs)) (c:(List (List ak))):eu (gh (bU jK) (dS (j0 (dU ah)))) F R none [.agg [.sl false false a.length (al (eI .i64) a),.sl false false b.length (al bH b)],.sl false false c.length (al (dU ah) c)]=(F ((aT.mk a b),c)).map fun r=>(R r,none):=cD _ _ _ ((aT.mk a b),c)
def uz:Env:=(Am.ext (Am.ext bn 52 false dA) 83 false rG)
def Gq:bV prog uz:=((bV.none.add mK false).add IQ false)
def cd:=ai @w<|ai @adR<|ai @dA.eq_1<|ai @ahq<|ai @rG.eq_1<|@uz.eq_1
def Hj:cn prog 40 qg:=cn.jx (mode := .clean) tok Gq mixed func40 (by kernel_rfl) (fun _ _=>rfl) (fun _=>by kernel_rfl) fun⟨v,i⟩ r a=>by
 replace a:ln v i=some r:=a;apply aK rfl ntmps40 results40;simp only[jy];unfold ln at a;simp only[cd,seval];apply sp ax a<;>intro _ a
 ·cases a;simp only[cd,seval]
 ·simp only[cd,seval];obtain⟨C,w,a⟩:=ae a;refine aA (fun s t H e=>match s with|d=>t 1=sF (dU ah) i∧t 16=sF bH v.an∧t 17=sN (v.an.length:Int)∧t 18=sN d) (fun o x t H e=>match o with|(.inl _)=>x=.exit 0∧t 1=sF (dU ah) i|(.inr r)=>x=.ret∧gu .clean tab none [.tmp 4] ⟨t,EH H,e⟩=some (.clean (.int .i64 r),none)) w ?_ ?_ ?_
  ·refine⟨?_,?_,?_,?_⟩;all_goals (rfl)
  ·rintro d t H e j c a;simp only[lp]at a;simp only[cd,seval,j];apply sp ax a<;>intro _ a
   ·obtain⟨I,y,a⟩:=ae a;have k:=bk bH y;simp only[bK]at k;obtain⟨D,l,a⟩:=ae a;have f:=bk (dU ah) l;simp only[bK]at f;obtain⟨E,m,a⟩:=ae a;simp only[cd,seval,j,k,f,m];refine bP (by kernel_rfl) ?_;apply sp ax a<;>intro _ a
    ·cases a;simp only[cd,seval];refine tD ⟨rfl,?_⟩;simp only[cd,seval]
    ·cases a;simp only[cd,seval,j];apply iU;and_intros<;>first|rfl|(simp only[cd,seval,j]<;>rfl)
   ·cases a;simp only[cd,seval];apply j8;refine⟨rfl,?_⟩;all_goals ((simp only[cd,seval,j]<;>rfl))
  ·rintro x t H e b;rcases C with _|J
   ·dsimp only at b a;obtain⟨rfl,z⟩:=b;simp only[cd,seval,z];obtain⟨A,n,a⟩:=ae a;refine aA (fun s t H e=>match s with|g=>t 32=sF (dU ah) i∧t 33=sN (i.length:Int)∧t 34=sN g) (fun o x t H e=>match o with|(.inl _)=>x=.exit 2|(.inr r)=>x=.ret∧gu .clean tab none [.tmp 4] ⟨t,EH H,e⟩=some (.clean (.int .i64 r),none)) n ?_ ?_ ?_
    ·refine⟨?_,?_,?_⟩;all_goals (rfl)
    ·rintro g t H e u c a;simp only[lq]at a;simp only[cd,seval,u];apply sp ax a<;>intro _ a
     ·obtain⟨F,p,a⟩:=ae a;have h:=bk (dU ah) p;simp only[bK]at h;obtain⟨G,q,a⟩:=ae a;simp only[cd,seval,u,h,q];apply sp ax a<;>intro _ a
      ·cases a;simp only[cd,seval];refine tD ⟨rfl,?_⟩;simp only[cd,seval]
      ·cases a;simp only[cd,seval,u];apply iU;and_intros<;>first|rfl|(simp only[cd,seval,u]<;>rfl)
     ·cases a;simp only[cd,seval];apply j8;exact rfl
    ·rintro x t H e b;rcases A with _|K
     ·dsimp only at b a;subst b;cases a;simp only[cd,seval]
     ·dsimp only at b a;obtain⟨rfl,B⟩:=b;cases a;simp only[aY,bc,cA,cI];exact B
   ·dsimp only at b a;obtain⟨rfl,B⟩:=b;cases a;simp only[aY,bc,cA,cI];exact B
def eR (l:Option (D×Row)) (d:List D):=eu (gh (bU ah) (dS (bU ah))) (fun x:ak×ak=>mV x.1 x.2) (fun r:ak×Int =>.clean (.tup [.agg [.int .i64 r.1.bQ.aq,.sl false false r.1.bQ.aa.length (al (eI .i64) r.1.bQ.aa),.int .i64 r.1.bX.aq,.sl false false r.1.bX.aa.length (al (eI .i64) r.1.bX.aa)],.int .i64 r.2])) l d
def Aj:Env:=(Am.ext (Am.ext (Am.ext bn 54 false ba) 60 false eJ) 63 false gr)
def PF:bV prog Aj:=(((bV.none.add fh false).add qw false).add tX false)
def nT:=ai @w<|ai @kx<|ai @ba.eq_1<|ai @NO<|ai @eJ.eq_1<|ai @gr.eq_1<|@Aj.eq_1
def qQ:cn prog 58 eR:=cn.jx (mode := .clean) tok PF mixed func58 (by kernel_rfl) (fun _ _=>rfl) (fun _=>by kernel_rfl) fun⟨h,i⟩ r a=>by
 replace a:mV h i=some r:=a;apply aK rfl ntmps58 results58;simp only[jy];unfold mV at a;obtain⟨q,j,a⟩:=ae a;simp only[nT,seval,j];obtain⟨p,k,a⟩:=ae a;refine cR 0 (fun s t H e=>match s with|b=>∃c:Nat,∃d:Nat,∃f:Nat,t 2=.ptr 2 c 0∧t 3=.ptr 3 d 0∧t 4=.ptr 4 f 0∧t 13=.bool b∧H 2=rV c 41 [sN h.bQ.aq,sI h.bQ.aa,sN h.bX.aq,sI h.bX.aa]∧H 3=rV d 41 [sN i.bQ.aq,sI i.bQ.aa,sN i.bX.aq,sI i.bX.aa]∧H 4=rV f 41 [sN 0,.sl true true 0 [],sN 0,.sl true true 0 []]) (fun s=>s=p) ?_ ?_
 ·rintro b t H e ⟨c,d,f,g⟩ rfl;try dsimp only at a
  simp only[nT,seval,g];apply sp ax a<;>intro _ a
  ·cases a;simp only[nT,seval,g]
  ·obtain⟨u,l,a⟩:=ae a;obtain⟨v,m,a⟩:=ae a;obtain⟨w,n,a⟩:=ae a;simp only[nT,seval,g,l,m,n];refine bP (by kernel_rfl) ?_;cases a;simp only[seval]
 ·clear a;have a:=k;simp only[nT,seval];apply sp bF a<;>intro _ a
  ·cases a;simp only[nT,seval];rw[aC];refine⟨_,rfl,?_⟩;refine⟨0,0,0,?_,?_,?_,?_,?_,?_,?_⟩;all_goals (rfl)
  ·obtain⟨x,o,a⟩:=ae a;cases a;simp only[nT,seval,o];rw[aC];refine⟨_,rfl,?_⟩;refine⟨0,0,0,?_,?_,?_,?_,?_,?_,?_⟩;all_goals (rfl)
def qX:=kg 113 (bU ah) (gh (j0 (eI .i64)) (dS (bU bH))) (fun (l:(List ((Int×Int)×ak))) (x:(List Int)×bs)=>jF l x.1 x.2) (fun r:Unit =>.clean (.tup []))
def EE (f:(List ((Int×Int)×ak))) (g:(List Int)) (a:(List gV)) (b:(List tz)) (c:(List (List ak))) (d:(List ia)) (e:(List Int)):qX (some (.mp 0 0,⟨0,113,[.mpc (fE f) (ig (bU ah) f)],false,true,true⟩)) [.sl false false g.length (al (eI .i64) g),.agg [.sl false false a.length (al bt a),.sl false false b.length (al eF b),.sl false false c.length (al (dU ah) c),.sl false false d.length (al gn d),.sl false false e.length (al (eI .i64) e)]]=(jF f g (bs.mk (fb.mk a b c) d e)).map fun r=>(.clean (.tup []),some ⟨0,113,[.mpc (fE r.1) (ig (bU ah) r.1)],false,true,true⟩):=afD _ _ _ _ _ f (g,(bs.mk (fb.mk a b c) d e))
def nB:Env:=(Am.ext (Am.ext (Am.ext (Am.ext bn 24 false cF) 57 false kG) 58 false eR) 120 false pD)
def CC:bV prog nB:=((((bV.none.add ki false).add AF false).add qQ false).add Hn false)
def aW:=ai @w<|ai @kx<|ai @cF.eq_1<|ai @Ll<|ai @kG.eq_1<|ai @sa<|ai @eR.eq_1<|ai @pD.eq_1<|@nB.eq_1
def Ey (p0:(List ((Int×Int)×ak))) (N:(List Int)) (b:bs) (r:(List ((Int×Int)×ak))×(Unit)) (a:jF p0 N b=some r):kD .clean tab nB FU Tryz.f65 (some (.mp 0 0,⟨0,113,[.mpc (fE p0) (ig (bU ah) p0)],false,true,true⟩)) [.sl false false N.length (al (eI .i64) N),.agg [.sl false false b.aw.au.length (al bt b.aw.au),.sl false false b.aw.aP.length (al eF b.aw.aP),.sl false false b.aw.aM.length (al (dU ah) b.aw.aM),.sl false false b.bq.length (al gn b.bq),.sl false false b.aB.length (al (eI .i64) b.aB)]]=some (.clean (.tup []),some ⟨0,113,[.mpc (fE r.1) (ig (bU ah) r.1)],false,true,true⟩):=by
 apply Sk rfl ntmps65 results65;unfold jF at a;simp only[aW,seval];obtain⟨aq,R,a⟩:=ae a;refine aA (fun s t H e=>match s with|(d,O)=>∃u:Nat,t 0=.mp 0 0∧t 1=sI N∧t 5=.ptr 5 u 0∧t 20=sF bt b.aw.au∧t 21=sN (b.aw.au.length:Int)∧t 22=sN d∧H 0=some ⟨0,113,[.mpc (fE O) (ig (bU ah) O)],false,true,true⟩∧H 5=rV u 57 [sF bt b.aw.au,sF eF b.aw.aP,sF (dU ah) b.aw.aM,sF gn b.bq,sI b.aB]) (fun o x t H e=>match o with|v=>x=.exit 0∧t 0=.mp 0 0∧H 0=some ⟨0,113,[.mpc (fE v) (ig (bU ah) v)],false,true,true⟩) R ?_ ?_ ?_
 ·refine⟨1,?_,?_,?_,?_,?_,?_,?_,?_⟩;all_goals (rfl)
 ·rintro⟨d,O⟩ t H e ⟨u,P⟩ c a;simp only[jX]at a;simp only[aW,seval,P];apply sp ax a<;>intro _ a
  ·obtain⟨aw,S,a⟩:=ae a;have l:=bk bt S;simp only[bK]at l;simp only[aW,seval,P,l];apply sp ax a<;>intro _ a
   ·cases a;simp only[aW,seval,P];apply iU;refine⟨u,?_⟩;and_intros<;>first|rfl|(simp only[aW,seval,P]<;>rfl)
   ·obtain⟨D,T,a⟩:=ae a;have F:=bk gn T;simp only[bK]at F;obtain⟨ay,U,a⟩:=ae a;have G:=bk (eI .i64) U;simp only[bK]at G;obtain⟨j,V,a⟩:=ae a;simp only[aW,seval,P,F,G,V];refine bP (by kernel_rfl) ?_;obtain⟨ar,W,a⟩:=ae a;refine aA (fun s t H e=>match s with|(m,w)=>∃q:Nat,∃y:Nat,∃A:Nat,t 0=.mp 0 0∧t 1=sI N∧t 5=.ptr 5 q 0∧t 6=sN d∧t 8=.ptr 8 y 0∧t 9=.ptr 9 A 0∧t 20=sF bt b.aw.au∧t 21=sN (b.aw.au.length:Int)∧t 22=sN d∧t 49=sF eF b.aw.aP∧t 50=sN (b.aw.aP.length:Int)∧t 51=sN m∧H 0=some ⟨0,113,[.mpc (fE w) (ig (bU ah) w)],false,true,true⟩∧H 5=rV q 57 [sF bt b.aw.au,sF eF b.aw.aP,sF (dU ah) b.aw.aM,sF gn b.bq,sI b.aB]∧H 8=rV y 72 [sN D.ca,sN D.aR]∧H 9=rV A 41 [sN j.1.bQ.aq,sI j.1.bQ.aa,sN j.1.bX.aq,sI j.1.bX.aa]) (fun o x t H e=>match o with|B=>x=.exit 2∧∃n:Nat,t 0=.mp 0 0∧t 1=sI N∧t 5=.ptr 5 n 0∧t 20=sF bt b.aw.au∧t 21=sN (b.aw.au.length:Int)∧t 22=sN d∧H 0=some ⟨0,113,[.mpc (fE B) (ig (bU ah) B)],false,true,true⟩∧H 5=rV n 57 [sF bt b.aw.au,sF eF b.aw.aP,sF (dU ah) b.aw.aM,sF gn b.bq,sI b.aB]) W ?_ ?_ ?_
    ·refine⟨u,e+1+1+1,e+1+1+1+1,?_⟩;and_intros<;>first|rfl|(simp only[aW,seval,P]<;>rfl)
    ·rintro⟨m,w⟩ t H e ⟨q,y,A,Q⟩ c a;simp only[iA]at a;simp only[aW,seval,Q];apply sp ax a<;>intro _ a
     ·obtain⟨E,X,a⟩:=ae a;have p:=bk eF X;simp only[bK]at p;simp only[aW,seval,Q,p];obtain⟨au,Y,a⟩:=ae a;refine cR 0 (fun s t H e=>match s with|C=>∃f:Nat,∃g:Nat,∃h:Nat,∃k:Nat,t 0=.mp 0 0∧t 1=sI N∧t 5=.ptr 5 f 0∧t 6=sN d∧t 8=.ptr 8 g 0∧t 9=.ptr 9 h 0∧t 11=sN m∧t 12=.ptr 12 k 0∧t 20=sF bt b.aw.au∧t 21=sN (b.aw.au.length:Int)∧t 22=sN d∧t 49=sF eF b.aw.aP∧t 50=sN (b.aw.aP.length:Int)∧t 51=sN m∧t 71=.bool C∧H 0=some ⟨0,113,[.mpc (fE w) (ig (bU ah) w)],false,true,true⟩∧H 5=rV f 57 [sF bt b.aw.au,sF eF b.aw.aP,sF (dU ah) b.aw.aM,sF gn b.bq,sI b.aB]∧H 8=rV g 72 [sN D.ca,sN D.aR]∧H 9=rV h 41 [sN j.1.bQ.aq,sI j.1.bQ.aa,sN j.1.bX.aq,sI j.1.bX.aa]∧H 12=rV k 60 [sN E.bh,sN E.aV,sN E.aR,.str E.Mr]) (fun s=>s=au) ?_ ?_
      ·rintro C t H e ⟨f,g,h,k,i⟩ rfl;try dsimp only at a
       simp only[aW,seval,i];apply sp ax a<;>intro _ a
       ·cases a;simp only[aW,seval,i];apply iU;refine⟨f,g,h,?_⟩;and_intros<;>first|rfl|(simp only[aW,seval,i]<;>rfl)
       ·obtain⟨az,Z,a⟩:=ae a;have I:=bk (eI .i64) Z;simp only[bK]at I;simp only[aW,seval,p,i,I];refine bP (by kernel_rfl) ?_;obtain⟨aB,aa,a⟩:=ae a;have J:=bk (dU ah) aa;simp only[bK]at J;obtain⟨aD,ab,a⟩:=ae a;have K:=bk ah ab;simp only[bK]at K;obtain⟨aE,ad,a⟩:=ae a;simp only[aW,seval,l,i,J,K,ad];refine bP (by kernel_rfl) ?_;apply sp ax a<;>intro _ a
        ·obtain⟨aF,ag,a⟩:=ae a;cases a;simp only[aW,seval,i,ag];apply iU;refine⟨f,g,h,?_⟩;and_intros<;>first|rfl|(simp only[aW,seval,i]<;>rfl)
        ·cases a;simp only[aW,seval,i];apply iU;refine⟨f,g,h,?_⟩;and_intros<;>first|rfl|(simp only[aW,seval,i]<;>rfl)
      ·clear a;have a:=Y;simp only[aW,seval];apply sp bF a<;>intro _ a
       ·cases a;simp only[aW,seval];rw[aC];refine⟨_,rfl,?_⟩;refine⟨q,y,A,e+1,?_⟩;and_intros<;>first|rfl|(simp only[aW,seval,Q]<;>rfl)
       ·obtain⟨aG,ai,a⟩:=ae a;have L:=bk (dU ah) ai;simp only[bK]at L;obtain⟨aH,aj,a⟩:=ae a;have M:=bk ah aj;simp only[bK]at M;obtain⟨aI,an,a⟩:=ae a;cases a;simp only[aW,seval,l,Q,p,L,M,an];rw[aC];refine⟨_,rfl,?_⟩;refine⟨q,y,A,e+1,?_⟩;and_intros<;>first|rfl|(simp only[aW,seval,Q]<;>rfl)
     ·cases a;simp only[aW,seval];apply j8;refine⟨rfl,⟨q,?_,?_,?_,?_,?_,?_,?_,?_⟩⟩;all_goals ((simp only[aW,seval,Q]<;>rfl))
    ·rintro x t H e hx;obtain⟨B,rfl⟩:∃z,z=ar:=⟨_,rfl⟩;dsimp only at hx a;obtain⟨rfl,⟨n,ao⟩⟩:=hx;cases a;simp only[aW,seval,ao];apply iU;refine⟨n,?_⟩;and_intros<;>first|rfl|(simp only[aW,seval,ao]<;>rfl)
  ·cases a;simp only[aW,seval];apply j8;refine⟨rfl,⟨?_,?_⟩⟩;all_goals ((simp only[aW,seval,P]<;>rfl))
 ·rintro x t H e hx;obtain⟨v,rfl⟩:∃z,z=aq:=⟨_,rfl⟩;dsimp only at hx a;obtain⟨rfl,av⟩:=hx;cases a;simp only[aW,seval,av]
def CS:cn prog 65 qX:=cn.abd tok CC mixed func65 (by kernel_rfl) ⟨by kernel_rfl,by kernel_rfl⟩ (fun _=>akW (by kernel_rfl)) (fun l x a r h=>Ey l x.1 x.2 (a,r) h)
def rH (l:Option (D×Row)) (d:List D):=eu (gh (bU cq) (dS (bU cq))) (fun x:cu×cu=>pW x.1 x.2) (fun r:Int =>.clean (.int .i64 r)) l d
def ahr {β:Type} {F:cu×cu->Option β} {R:β->RK} (e:Int) (f:Int) (g:Int) (a:(List Int)) (h:Int) (b:(List Int)) (i:Int) (j:Int) (k:Int) (c:(List Int)) (l:Int) (d:(List Int)):eu (gh (bU cq) (dS (bU cq))) F R none [.agg [.int .i64 e,.int .i64 f,.int .i64 g,.sl false false a.length (al (eI .i64) a),.int .i64 h,.sl false false b.length (al (eI .i64) b)],.agg [.int .i64 i,.int .i64 j,.int .i64 k,.sl false false c.length (al (eI .i64) c),.int .i64 l,.sl false false d.length (al (eI .i64) d)]]=(F ((cu.mk e f (ak.mk (aL.mk g a) (aL.mk h b))),(cu.mk i j (ak.mk (aL.mk k c) (aL.mk l d))))).map fun r=>(R r,none):=cD _ _ _ ((cu.mk e f (ak.mk (aL.mk g a) (aL.mk h b))),(cu.mk i j (ak.mk (aL.mk k c) (aL.mk l d))))
def vV:Env:=(Am.ext (Am.ext bn 110 false dX) 115 false AW)
def II:bV prog vV:=((bV.none.add oX false).add KY false)
def NJ:=ai @w<|ai @Ll<|ai @dX.eq_1<|@vV.eq_1
def IS:cn prog 67 rH:=cn.jx (mode := .clean) tok II mixed func67 (by kernel_rfl) (fun _ _=>rfl) (fun _=>by kernel_rfl) fun⟨f,g⟩ r a=>by
 replace a:pW f g=some r:=a;apply aK rfl ntmps67 results67;simp only[jy];unfold pW at a;obtain⟨h,b,a⟩:=ae a;obtain⟨i,c,a⟩:=ae a;have e:=Ro ([h,i]);simp only[bY,bK,List.length_cons,akl,Nat.reduceAdd]at e;obtain⟨j,d,a⟩:=ae a;simp only[NJ,seval,b,c,e,d];refine bP (by kernel_rfl) ?_;cases a;simp only[seval]
def AX (l:Option (D×Row)) (d:List D):=eu (dS (bU jK)) (fun x:aT=>CN x) (fun r:gS×Int =>.clean (.tup [.agg [.int .i64 r.1.aB,.sl false false r.1.bd.length (al cq r.1.bd)],.int .i64 r.2])) l d
def Bx:Env:=(Am.w9 9 (118,6,1) (Am.ext (Am.ext bn 39 false il) 65 true qX))
def XM:bV prog Bx:=(bV.w9 ((bV.none.add wb false).add CS true) 9 (118,6,1))
def kF:=ai @w<|ai @Gg<|ai @RM<|ai @il.eq_1<|@Bx.eq_1
def abi (i:aT) (r:gS×Int) (a:CN i=some r):Ut tab Bx FU 5 Tryz.f26 [.agg [.sl false false i.av.length (al (eI .i64) i.av),.sl false false i.an.length (al bH i.an)]] (Af tab Tryz.f26.results.toList (.clean (.tup [.agg [.int .i64 r.1.aB,.sl false false r.1.bd.length (al cq r.1.bd)],.int .i64 r.2]),none) (agu r)):=by
 apply YT rfl ntmps26 results26;simp only[Mt,Mu];unfold CN at a;obtain⟨G,y,a⟩:=ae a;simp only[kF,seval,y];apply sp ax a<;>intro _ a
 ·cases a;simp only[kF,seval]
 ·simp only[kF,seval];obtain⟨E,A,a⟩:=ae a;refine aA (fun s t H e=>match s with|(n,g)=>∃j:Nat,∃k:Nat,∃f:Nat,t 1=.ptr 1 j 0∧t 2=.ptr 2 k 0∧t 6=.mp 21 f∧t 23=sF bH i.an∧t 24=sN (i.an.length:Int)∧t 25=sN n∧H 1=rV j 25 [sI i.av,sF bH i.an]∧H 2=rV k 66 [sN 0,.sl true true 0 []]∧H 21=some ⟨f,113,[.mpc (fE g) (ig (bU ah) g)],false,true,true⟩) (fun o x t H e=>match o with|b=>x=.exit 0∧∃l:Nat,∃h:Nat,∃d:Nat,t 1=.ptr 1 l 0∧t 2=.ptr 2 h 0∧t 6=.mp 21 d∧H 1=rV l 25 [sI i.av,sF bH i.an]∧H 2=rV h 66 [sN 0,.sl true true 0 []]∧H 21=some ⟨d,113,[.mpc (fE b) (ig (bU ah) b)],false,true,true⟩) A ?_ ?_ ?_
  ·refine⟨0,0,3,?_,?_,?_,?_,?_,?_,?_,?_,?_⟩;all_goals (rfl)
  ·rintro⟨n,g⟩ t H e ⟨j,k,f,w⟩ c a;simp only[sh]at a;simp only[kF,seval,w];apply sp ax a<;>intro _ a
   ·obtain⟨p,B,a⟩:=ae a;have q:=bk bH B;simp only[bK]at q;have C:=EE g i.av p.aw.au p.aw.aP p.aw.aM p.bq p.aB;obtain⟨F,u,a⟩:=ae a;cases a;simp only[kF,seval,w,q,C,u];apply iU;refine⟨j,k,f,?_⟩;and_intros<;>first|rfl|(simp only[kF,seval,w]<;>rfl)
   ·cases a;simp only[kF,seval];apply j8;refine⟨rfl,⟨j,k,f,?_,?_,?_,?_,?_,?_⟩⟩;all_goals ((simp only[kF,seval,w]<;>rfl))
  ·rintro x t H e D;obtain⟨b,rfl⟩:∃z,z=E:=⟨_,rfl⟩;dsimp only at D a;obtain⟨rfl,⟨l,h,d,m⟩⟩:=D;simp only[kF,seval,m];apply sp ax a<;>intro _ a
   ·cases a;simp only[kF,seval,m]
   ·have v:bump (4*(e+1)+2) (e+1)=some (4*(e+1)+3):=ZP rfl;simp only[kF,seval,m,v];rw[IC];refine⟨b,(i.av.length:Int),d,e+1,h,(4*(e+1)+3),?_,?_,?_,?_,?_,?_,by omega,a⟩;all_goals first|rfl|(simp only[kF,seval,m]<;>rfl)
def Yd:cn prog 26 AX:=cn.front tok XM mixed func26 rfl (by kernel_rfl) ⟨by kernel_rfl,by kernel_rfl⟩ (fun _=>akW (by kernel_rfl)) (akW (by kernel_rfl)) (fun x r h=>abi x r h) (fun r=>abx r)
def iD (l:Option (D×Row)) (d:List D):=eu (gh (j0 ah) (dS (j0 ah))) (fun x:(List ak)×(List ak)=>jk x.1 x.2) (fun r:ak =>.clean (.agg [.int .i64 r.bQ.aq,.sl false false r.bQ.aa.length (al (eI .i64) r.bQ.aa),.int .i64 r.bX.aq,.sl false false r.bX.aa.length (al (eI .i64) r.bX.aa)])) l d
def Yq {β:Type} {F:(List ak)×(List ak)->Option β} {R:β->RK} (a:(List ak)) (b:(List ak)):eu (gh (j0 ah) (dS (j0 ah))) F R none [.sl false false a.length (al ah a),.sl false false b.length (al ah b)]=(F (a,b)).map fun r=>(R r,none):=cD _ _ _ (a,b)
def sY:Env:=(Am.ext (Am.ext (Am.ext bn 21 false cX) 23 false eQ) 58 false eR)
def Eu:bV prog sY:=(((bV.none.add lE false).add qP false).add qQ false)
def gR:=ai @w<|ai @Lk<|ai @cX.eq_1<|ai @sa<|ai @eQ.eq_1<|ai @eR.eq_1<|@sY.eq_1
def wM:cn prog 45 iD:=cn.jx (mode := .clean) tok Eu mixed func45 (by kernel_rfl) (fun _ _=>rfl) (fun _=>by kernel_rfl) fun⟨G,B⟩ r a=>by
 replace a:jk G B=some r:=a;apply aK rfl ntmps45 results45;simp only[jy];unfold jk at a;obtain⟨N,C,a⟩:=ae a;simp only[gR,seval,C];obtain⟨J,D,a⟩:=ae a;refine aA (fun s t H e=>match s with|(q,h,i,j,k)=>∃l:Nat,∃m:Nat,t 0=sF ah G∧t 4=.ptr 4 l 0∧t 5=.ptr 5 m 0∧t 11=sF ah B∧t 12=sN (B.length:Int)∧t 13=sN q∧H 4=rV l 41 [sN 0,.sl true true 0 [],sN 0,.sl true true 0 []]∧H 5=rV m 41 [sN h,sI i,sN j,sI k]) (fun o x t H e=>match o with|(b,d,f,g)=>x=.exit 0∧∃n:Nat,∃p:Nat,t 4=.ptr 4 n 0∧t 5=.ptr 5 p 0∧H 4=rV n 41 [sN 0,.sl true true 0 [],sN 0,.sl true true 0 []]∧H 5=rV p 41 [sN b,sI d,sN f,sI g]) D ?_ ?_ ?_
 ·refine⟨0,1,?_,?_,?_,?_,?_,?_,?_,?_⟩;all_goals (rfl)
 ·rintro⟨q,h,i,j,k⟩ t H e ⟨l,m,v⟩ c a;simp only[ko]at a;simp only[gR,seval,v];apply sp ax a<;>intro _ a
  ·obtain⟨O,E,a⟩:=ae a;have w:=bk ah E;simp only[bK]at w;obtain⟨K,y,a⟩:=ae a;have u:=bk ah y;simp only[bK]at u;obtain⟨L,z,a⟩:=ae a;simp only[gR,seval,v,w,u,z];refine bP (by kernel_rfl) ?_;obtain⟨M,A,a⟩:=ae a;cases a;simp only[gR,seval,v,A];apply iU;refine⟨l,m,?_⟩;and_intros<;>first|rfl|(simp only[gR,seval,v]<;>rfl)
  ·cases a;simp only[gR,seval];apply j8;refine⟨rfl,⟨l,m,?_,?_,?_,?_⟩⟩;all_goals ((simp only[gR,seval,v]<;>rfl))
 ·rintro x t H e I;rcases J with⟨b,d,f,g⟩;dsimp only at I a;obtain⟨rfl,⟨n,p,F⟩⟩:=I;cases a;simp only[gR,seval,F]
def oE (l:Option (D×Row)) (d:List D):=eu (gh (bU jK) (dS (j0 (dU ah)))) (fun x:aT×(List (List ak))=>lS x.1 x.2) (fun r:(List ak) =>.clean (.sl false false r.length (al ah r))) l d
def sX:Env:=(Am.ext bn 45 false iD)
def Et:bV prog sX:=(bV.none.add wM false)
def cw:=ai @w<|ai @Yq<|ai @iD.eq_1<|@sX.eq_1
def EA:cn prog 42 oE:=cn.jx (mode := .clean) tok Et mixed func42 (by kernel_rfl) (fun _ _=>rfl) (fun _=>by kernel_rfl) fun⟨C,T⟩ r a=>by
 replace a:lS C T=some r:=a;apply aK rfl ntmps42 results42;simp only[jy];unfold lS at a;obtain⟨x1,V,a⟩:=ae a;obtain⟨W,X,Y,G,Z⟩:=mk_one ah V;simp only[bK]at G;simp only[cw,seval,W,X,Y,G,Z];obtain⟨aa,I,a⟩:=ae a;refine aA (fun s t H e=>match s with|(b,D)=>∃i:Nat,t 1=sF (dU ah) T∧t 5=.buf 5 i 4 0 (D).length∧t 15=sF bH C.an∧t 16=sN (C.an.length:Int)∧t 17=sN b∧H 5=rW i 41 (al ah D)) (fun o x t H e=>match o with|j=>x=.exit 0∧∃k:Nat,t 5=.buf 5 k 4 0 (j).length∧H 5=rW k 41 (al ah j)) I ?_ ?_ ?_
 ·refine⟨1,?_,?_,?_,?_,?_,?_⟩;all_goals (rfl)
 ·rintro⟨b,D⟩ t H e ⟨i,U⟩ c a;simp only[jc]at a;simp only[cw,seval,U];apply sp ax a<;>intro _ a
  ·obtain⟨d,J,a⟩:=ae a;have l:=bk bH J;simp only[bK]at l;simp only[cw,seval,U,l];obtain⟨ab,K,a⟩:=ae a;refine aA (fun s t H e=>match s with|(q,E)=>∃h:Nat,∃m:Nat,t 1=sF (dU ah) T∧t 5=.buf 5 h 4 0 (E).length∧t 6=sN b∧t 7=.ptr 7 m 0∧t 15=sF bH C.an∧t 16=sN (C.an.length:Int)∧t 17=sN b∧t 24=sF eF d.aw.aP∧t 25=sN (d.aw.aP.length:Int)∧t 26=sN q∧H 5=rW h 41 (al ah E)∧H 7=rV m 57 [sF bt d.aw.au,sF eF d.aw.aP,sF (dU ah) d.aw.aM,sF gn d.bq,sI d.aB]) (fun o x t H e=>match o with|n=>x=.exit 2∧∃g:Nat,t 1=sF (dU ah) T∧t 5=.buf 5 g 4 0 (n).length∧t 15=sF bH C.an∧t 16=sN (C.an.length:Int)∧t 17=sN b∧H 5=rW g 41 (al ah n)) K ?_ ?_ ?_
   ·refine⟨i,e+1,?_⟩;and_intros<;>first|rfl|(simp only[cw,seval,U]<;>rfl)
   ·rintro⟨q,E⟩ t H e ⟨h,m,F⟩ c a;simp only[jd]at a;simp only[cw,seval,F];apply sp ax a<;>intro _ a
    ·obtain⟨ag,L,a⟩:=ae a;have p:=bk eF L;simp only[bK]at p;simp only[cw,seval,F,p];apply sp ax a<;>intro _ a
     ·obtain⟨ai,M,a⟩:=ae a;have u:=bk (eI .i64) M;simp only[bK]at u;obtain⟨aj,N,a⟩:=ae a;have v:=bk (dU ah) N;simp only[bK]at v;obtain⟨an,O,a⟩:=ae a;have w:=bk (dU ah) O;simp only[bK]at w;obtain⟨f,P,a⟩:=ae a;obtain⟨ao,y,a⟩:=ae a;have A:=bk ah y;simp only[bK]at A;have Q:=fL ah (x':=f) (fo:=0) (cs:=[.int .i64 f.bQ.aq,.sl false false f.bQ.aa.length (al (eI .i64) f.bQ.aa),.int .i64 f.bX.aq,.sl false false f.bX.aa.length (al (eI .i64) f.bX.aa)]) y rfl (akW rfl);simp only[bK,Nat.add_zero]at Q;have B:=Q;simp only[putCells,List.length_cons,List.length_nil,akl,Nat.reduceAdd]at B;simp only[cw,seval,l,F,p,u,v,w,P,A,B];refine bP (by kernel_rfl) ?_;cases a;apply iU;refine⟨h,m,?_⟩;and_intros<;>first|rfl|(simp only[cw,seval,F]<;>rfl)
     ·cases a;simp only[cw,seval,F];apply iU;refine⟨h,m,?_⟩;and_intros<;>first|rfl|(simp only[cw,seval,F]<;>rfl)
    ·cases a;simp only[cw,seval];apply j8;refine⟨rfl,⟨h,?_,?_,?_,?_,?_,?_⟩⟩;all_goals ((simp only[cw,seval,F]<;>rfl))
   ·rintro x t H e R;obtain⟨n,rfl⟩:∃z,z=ab:=⟨_,rfl⟩;dsimp only at R a;obtain⟨rfl,⟨g,S⟩⟩:=R;cases a;simp only[cw,seval,S];apply iU;refine⟨g,?_⟩;and_intros<;>first|rfl|(simp only[cw,seval,S]<;>rfl)
  ·cases a;simp only[cw,seval];apply j8;refine⟨rfl,⟨i,?_,?_⟩⟩;all_goals ((simp only[cw,seval,U]<;>rfl))
 ·rintro x t H e R;obtain⟨j,rfl⟩:∃z,z=aa:=⟨_,rfl⟩;dsimp only at R a;obtain⟨rfl,⟨k,ad⟩⟩:=R;cases a;simp only[cw,seval,ad]
def nG (l:Option (D×Row)) (d:List D):=eu (gh (bU ah) (dS (bU ah))) (fun x:ak×ak=>sW x.1 x.2) (fun r:ak×Int =>.clean (.tup [.agg [.int .i64 r.1.bQ.aq,.sl false false r.1.bQ.aa.length (al (eI .i64) r.1.bQ.aa),.int .i64 r.1.bX.aq,.sl false false r.1.bX.aa.length (al (eI .i64) r.1.bX.aa)],.int .i64 r.2])) l d
def Al:Env:=(Am.ext (Am.ext (Am.ext bn 23 false eQ) 54 false ba) 71 false pA)
def PH:bV prog Al:=(((bV.none.add qP false).add fh false).add Hd false)
def nU:=ai @w<|ai @sa<|ai @eQ.eq_1<|ai @kx<|ai @ba.eq_1<|ai @Ip<|ai @pA.eq_1<|@Al.eq_1
def D4:cn prog 29 nG:=cn.jx (mode := .clean) tok PH mixed func29 (by kernel_rfl) (fun _ _=>rfl) (fun _=>by kernel_rfl) fun⟨h,i⟩ r a=>by
 replace a:sW h i=some r:=a;apply aK rfl ntmps29 results29;simp only[jy];unfold sW at a;obtain⟨p,j,a⟩:=ae a;simp only[nU,seval,j];obtain⟨o,k,a⟩:=ae a;refine cR 0 (fun s t H e=>match s with|b=>∃c:Nat,∃d:Nat,∃f:Nat,t 2=.ptr 2 c 0∧t 3=.ptr 3 d 0∧t 4=.ptr 4 f 0∧t 13=.bool b∧H 2=rV c 41 [sN h.bQ.aq,sI h.bQ.aa,sN h.bX.aq,sI h.bX.aa]∧H 3=rV d 41 [sN i.bQ.aq,sI i.bQ.aa,sN i.bX.aq,sI i.bX.aa]∧H 4=rV f 41 [sN 0,.sl true true 0 [],sN 0,.sl true true 0 []]) (fun s=>s=o) ?_ ?_
 ·rintro b t H e ⟨c,d,f,g⟩ rfl;try dsimp only at a
  simp only[nU,seval,g];apply sp ax a<;>intro _ a
  ·cases a;simp only[nU,seval,g]
  ·obtain⟨q,l,a⟩:=ae a;obtain⟨u,m,a⟩:=ae a;simp only[nU,seval,g,l,m];refine bP (by kernel_rfl) ?_;cases a;simp only[seval]
 ·clear a;have a:=k;simp only[nU,seval];apply sp bF a<;>intro _ a
  ·cases a;simp only[nU,seval];rw[aC];refine⟨_,rfl,?_⟩;refine⟨0,0,0,?_,?_,?_,?_,?_,?_,?_⟩;all_goals (rfl)
  ·obtain⟨v,n,a⟩:=ae a;cases a;simp only[nU,seval,n];rw[aC];refine⟨_,rfl,?_⟩;refine⟨0,0,0,?_,?_,?_,?_,?_,?_,?_⟩;all_goals (rfl)
def lj (l:Option (D×Row)) (d:List D):=eu (dS (bU Bp)) (fun x:gS=>pZ x) (fun r:(List ak) =>.clean (.sl false false r.length (al ah r))) l d
def RN {β:Type} {F:gS->Option β} {R:β->RK} (b:Int) (a:(List cu)):eu (dS (bU Bp)) F R none [.agg [.int .i64 b,.sl false false a.length (al cq a)]]=(F ((gS.mk b a))).map fun r=>(R r,none):=cD _ _ _ ((gS.mk b a))
def xW:Env:=(Am.ext (Am.ext bn 21 false cX) 29 false nG)
def MC:bV prog xW:=((bV.none.add lE false).add D4 false)
def eW:=ai @w<|ai @Lk<|ai @cX.eq_1<|ai @sa<|ai @nG.eq_1<|@xW.eq_1
def BP:cn prog 126 lj:=cn.jx (mode := .clean) tok MC mixed func126 (by kernel_rfl) (fun _ _=>rfl) (fun _=>by kernel_rfl) fun B r a=>by
 replace a:pZ B=some r:=a;apply aK rfl ntmps126 results126;simp only[jy];unfold pZ at a;obtain⟨Z,Q,a⟩:=ae a;obtain⟨R,S,T,F,U⟩:=mk_one ah Q;simp only[bK]at F;simp only[eW,seval,R,S,T,F,U];obtain⟨o7,V,a⟩:=ae a;refine aA (fun s t H e=>match s with|(p,C)=>∃g:Nat,∃h:Nat,t 1=.ptr 1 g 0∧t 3=.buf 3 h 4 0 (C).length∧t 11=sN ((Z).length:Int)∧t 12=sN p∧H 1=rV g 66 [sN B.aB,sF cq B.bd]∧H 3=rW h 41 (al ah C)) (fun o x t H e=>match o with|i=>x=.exit 0∧∃j:Nat,∃d:Nat,t 1=.ptr 1 j 0∧t 3=.buf 3 d 4 0 (i).length∧H 1=rV j 66 [sN B.aB,sF cq B.bd]∧H 3=rW d 41 (al ah i)) V ?_ ?_ ?_
 ·refine⟨0,1,?_,?_,?_,?_,?_,?_⟩;all_goals (rfl)
 ·rintro⟨p,C⟩ t H e ⟨g,h,O⟩ c a;simp only[oS]at a;simp only[eW,seval,O];apply sp ax a<;>intro _ a
  ·obtain⟨D,W,a⟩:=ae a;obtain⟨aa,q,a⟩:=ae a;have u:=bk ah q;simp only[bK]at u;have G:=fL ah (x':=D) (fo:=0) (cs:=[.int .i64 D.bQ.aq,.sl false false D.bQ.aa.length (al (eI .i64) D.bQ.aa),.int .i64 D.bX.aq,.sl false false D.bX.aa.length (al (eI .i64) D.bX.aa)]) q rfl (akW rfl);simp only[bK,Nat.add_zero]at G;have v:=G;simp only[putCells,List.length_cons,List.length_nil,akl,Nat.reduceAdd]at v;cases a;simp only[eW,seval,O,W,u,v];apply iU;refine⟨g,h,?_⟩;and_intros<;>first|rfl|(simp only[eW,seval,O]<;>rfl)
  ·cases a;simp only[eW,seval];apply j8;refine⟨rfl,⟨g,h,?_,?_,?_,?_⟩⟩;all_goals ((simp only[eW,seval,O]<;>rfl))
 ·rintro x t H e I;obtain⟨i,rfl⟩:∃z,z=o7:=⟨_,rfl⟩;dsimp only at I a;obtain⟨rfl,⟨j,d,J⟩⟩:=I;simp only[eW,seval,J];obtain⟨X,K,a⟩:=ae a;refine aA (fun s t H e=>match s with|(w,E)=>∃k:Nat,t 3=.buf 3 k 4 0 (E).length∧t 21=sF cq B.bd∧t 22=sN (B.bd.length:Int)∧t 23=sN w∧H 3=rW k 41 (al ah E)) (fun o x t H e=>match o with|l=>x=.exit 2∧∃m:Nat,t 3=.buf 3 m 4 0 (l).length∧H 3=rW m 41 (al ah l)) K ?_ ?_ ?_
  ·refine⟨d,?_⟩;and_intros<;>first|rfl|(simp only[eW,seval,J]<;>rfl)
  ·rintro⟨w,E⟩ t H e ⟨k,P⟩ c a;simp only[oT]at a;simp only[eW,seval,P];apply sp ax a<;>intro _ a
   ·obtain⟨ab,L,a⟩:=ae a;have y:=bk cq L;simp only[bK]at y;obtain⟨ad,n,a⟩:=ae a;have f:=bk ah n;simp only[bK]at f;obtain⟨b,M,a⟩:=ae a;have f:=bk ah n;simp only[bK]at f;have N:=fL ah (x':=b.1) (fo:=0) (cs:=[.int .i64 b.1.bQ.aq,.sl false false b.1.bQ.aa.length (al (eI .i64) b.1.bQ.aa),.int .i64 b.1.bX.aq,.sl false false b.1.bX.aa.length (al (eI .i64) b.1.bX.aa)]) n rfl (akW rfl);simp only[bK,Nat.add_zero]at N;have A:=N;simp only[putCells,List.length_cons,List.length_nil,akl,Nat.reduceAdd]at A;simp only[eW,seval,P,y,M,f,A];refine bP (by kernel_rfl) ?_;cases a;apply iU;refine⟨k,?_⟩;and_intros<;>first|rfl|(simp only[eW,seval,P]<;>rfl)
   ·cases a;simp only[eW,seval];apply j8;refine⟨rfl,⟨k,?_,?_⟩⟩;all_goals ((simp only[eW,seval,P]<;>rfl))
  ·rintro x t H e I;obtain⟨l,rfl⟩:∃z,z=X:=⟨_,rfl⟩;dsimp only at I a;obtain⟨rfl,⟨m,Y⟩⟩:=I;cases a;simp only[eW,seval,Y]
def qk (l:Option (D×Row)) (d:List D):=eu (dS (bU ah)) (fun x:ak=>qN x) (fun r:Bool =>.clean (.bool r)) l d
def uC:Env:=(Am.ext bn 24 false cF)
def Gt:bV prog uC:=(bV.none.add ki false)
def I7:=ai @w<|ai @kx<|ai @cF.eq_1<|@uC.eq_1
def Hl:cn prog 127 qk:=cn.jx (mode := .clean) tok Gt mixed func127 (by kernel_rfl) (fun _ _=>rfl) (fun _=>by kernel_rfl) fun c r a=>by
 replace a:qN c=some r:=a;apply aK rfl ntmps127 results127;simp only[jy];unfold qN at a;obtain⟨d,b,a⟩:=ae a;cases a;simp only[I7,seval,b]
def eK (l:Option (D×Row)) (d:List D):=eu (gh (j0 ah) (dS (NN 127))) (fun x:(List ak)×Unit=>dM x.1) (fun r:Int =>.clean (.int .i64 r)) l d
def adS {β:Type} {F:(List ak)×Unit->Option β} {R:β->RK} (a:(List ak)):eu (gh (j0 ah) (dS (NN 127))) F R none [.sl false false a.length (al ah a),.fn 127]=(F (a,())).map fun r=>(R r,none):=cD _ _ _ (a,())
def gw:Env:=(Am.ext bn 127 false qk)
def pn:bV prog gw:=(bV.none.add Hl false)
def bJ:=ai @w<|ai @kx<|ai @qk.eq_1<|@gw.eq_1
def pq:cn prog 102 eK:=cn.jx (mode := .clean) tok pn mixed func102 (by kernel_rfl) (fun _ _=>rfl) (fun _=>by kernel_rfl) fun⟨h,_⟩ r a=>by
 replace a:dM h=some r:=a;apply aK rfl ntmps102 results102;simp only[jy];unfold dM at a;simp only[bJ,seval];obtain⟨l,i,a⟩:=ae a;refine aA (fun s t H e=>match s with|b=>t 0=sF ah h∧t 1=.fn 127∧t 7=sN (h.length:Int)∧t 8=sN b) (fun o x t H e=>match o with|(.inl _)=>x=.exit 0|(.inr r)=>x=.ret∧gu .clean tab none [.tmp 4] ⟨t,EH H,e⟩=some (.clean (.int .i64 r),none)) i ?_ ?_ ?_
 ·refine⟨?_,?_,?_,?_⟩;all_goals (rfl)
 ·rintro b t H e f c a;simp only[ew]at a;simp only[bJ,seval,f];apply sp ax a<;>intro _ a
  ·obtain⟨n,j,a⟩:=ae a;have d:=bk ah j;simp only[bK]at d;obtain⟨p,k,a⟩:=ae a;simp only[bJ,seval,f,d,k];apply sp ax a<;>intro _ a
   ·cases a;simp only[bJ,seval];refine tD ⟨rfl,?_⟩;simp only[bJ,seval]
   ·cases a;simp only[bJ,seval,f];apply iU;and_intros<;>first|rfl|(simp only[bJ,seval,f]<;>rfl)
  ·cases a;simp only[bJ,seval];apply j8;exact rfl
 ·rintro x t H e g;rcases l with _|q
  ·dsimp only at g a;subst g;cases a;simp only[bJ,seval]
  ·dsimp only at g a;obtain⟨rfl,m⟩:=g;cases a;simp only[aY,bc,cA,cI];exact m
def dN (l:Option (D×Row)) (d:List D):=eu (gh (j0 ah) (dS (NN 127))) (fun x:(List ak)×Unit=>cG x.1) (fun r:Bool =>.clean (.bool r)) l d
def fM:Env:=(Am.ext bn 102 false eK)
def nJ:bV prog fM:=(bV.none.add pq false)
def oD:=ai @w<|ai @adS<|ai @eK.eq_1<|@fM.eq_1
def nN:cn prog 52 dN:=cn.jx (mode := .clean) tok nJ mixed func52 (by kernel_rfl) (fun _ _=>rfl) (fun _=>by kernel_rfl) fun⟨c,_⟩ r a=>by
 replace a:cG c=some r:=a;apply aK rfl ntmps52 results52;simp only[jy];unfold cG at a;obtain⟨d,b,a⟩:=ae a;cases a;simp only[oD,seval,b]
def lh (l:Option (D×Row)) (d:List D):=eu (dS (bU Bp)) (fun x:gS=>pV x) (fun r:Bool =>.clean (.bool r)) l d
def xV:Env:=(Am.ext (Am.ext (Am.ext (Am.ext (Am.ext (Am.ext bn 24 false cF) 52 false dN) 54 false ba) 67 false rH) 81 false dp) 126 false lj)
def MB:bV prog xV:=((((((bV.none.add ki false).add nN false).add fh false).add IS false).add nc false).add BP false)
def bm:=ai @w<|ai @kx<|ai @cF.eq_1<|ai @adS<|ai @dN.eq_1<|ai @ba.eq_1<|ai @ahr<|ai @rH.eq_1<|ai @IZ<|ai @dp.eq_1<|ai @RN<|ai @lj.eq_1<|@xV.eq_1
def BO:cn prog 73 lh:=cn.jx (mode := .clean) tok MB mixed func73 (by kernel_rfl) (fun _ _=>rfl) (fun _=>by kernel_rfl) fun i r a=>by
 replace a:pV i=some r:=a;apply aK rfl ntmps73 results73;simp only[jy];unfold pV at a;obtain⟨Z,K,a⟩:=ae a;simp only[bm,seval,K];obtain⟨P,L,a⟩:=ae a;refine cR 0 (fun s t H e=>match s with|k=>∃g:Nat,t 1=.ptr 1 g 0∧t 14=.bool k∧H 1=rV g 66 [sN i.aB,sF cq i.bd]) (fun s=>s=P) ?_ ?_
 ·rintro k t H e ⟨g,v⟩ rfl;try dsimp only at a
  simp only[bm,seval,v];apply sp ax a<;>intro _ a
  ·cases a;simp only[bm,seval]
  ·simp only[bm,seval,v];obtain⟨M,w,a⟩:=ae a;refine aA (fun s t H e=>match s with|h=>∃b:Nat,t 1=.ptr 1 b 0∧t 16=sF cq i.bd∧t 17=sN (i.bd.length:Int)∧t 18=sN h∧H 1=rV b 66 [sN i.aB,sF cq i.bd]) (fun o x t H e=>match o with|(.inl _)=>x=.exit 0∧∃l:Nat,t 1=.ptr 1 l 0∧H 1=rV l 66 [sN i.aB,sF cq i.bd]|(.inr r)=>x=.ret∧gu .clean tab none [.tmp 2] ⟨t,EH H,e⟩=some (.clean (.bool r),none)) w ?_ ?_ ?_
   ·refine⟨g,?_⟩;and_intros<;>first|rfl|(simp only[bm,seval,v]<;>rfl)
   ·rintro h t H e ⟨b,p⟩ c a;simp only[oR]at a;simp only[bm,seval,p];apply sp ax a<;>intro _ a
    ·obtain⟨j,y,a⟩:=ae a;have q:=bk cq y;simp only[bK]at q;obtain⟨Q,z,a⟩:=ae a;simp only[bm,seval,p,q,z];obtain⟨N,A,a⟩:=ae a;refine cR 0 (fun s t H e=>match s with|m=>∃d:Nat,∃n:Nat,t 1=.ptr 1 d 0∧t 3=sN h∧t 4=.ptr 4 n 0∧t 16=sF cq i.bd∧t 17=sN (i.bd.length:Int)∧t 18=sN h∧t 50=.bool m∧H 1=rV d 66 [sN i.aB,sF cq i.bd]∧H 4=rV n 118 [sN j.db,sN j.kq,sN j.gj.bQ.aq,sI j.gj.bQ.aa,sN j.gj.bX.aq,sI j.gj.bX.aa]) (fun s=>s=N) ?_ ?_
     ·rintro m t H e ⟨d,n,f⟩ rfl;try dsimp only at a
      simp only[bm,seval,f];apply sp ax a<;>intro _ a
      ·cases a;simp only[bm,seval];refine tD ⟨rfl,?_⟩;simp only[bm,seval]
      ·simp only[bm,seval,f];apply sp E3 a<;>intro _ a
       ·obtain⟨R,B,a⟩:=ae a;have u:=bk cq B;simp only[bK]at u;obtain⟨S,C,a⟩:=ae a;simp only[bm,seval,f,u,C];refine bP (by kernel_rfl) ?_;apply sp ax a<;>intro _ a
        ·cases a;simp only[bm,seval];refine tD ⟨rfl,?_⟩;simp only[bm,seval]
        ·cases a;simp only[bm,seval,f];apply iU;refine⟨d,?_⟩;and_intros<;>first|rfl|(simp only[bm,seval,f]<;>rfl)
       ·simp only[bm,seval,f];refine bP (by kernel_rfl) ?_;cases a;apply iU;refine⟨d,?_⟩;and_intros<;>first|rfl|(simp only[bm,seval,f]<;>rfl)
     ·clear a;have a:=A;simp only[bm,seval];apply sp bF a<;>intro _ a
      ·cases a;simp only[bm,seval];rw[aC];refine⟨_,rfl,?_⟩;refine⟨b,e+1,?_⟩;and_intros<;>first|rfl|(simp only[bm,seval,p]<;>rfl)
      ·obtain⟨T,D,a⟩:=ae a;simp only[bm,seval,p,D];apply sp bF a<;>intro _ a
       ·cases a;simp only[bm,seval];rw[aC];refine⟨_,rfl,?_⟩;refine⟨b,e+1,?_⟩;and_intros<;>first|rfl|(simp only[bm,seval,p]<;>rfl)
       ·obtain⟨U,E,a⟩:=ae a;simp only[bm,seval,E];apply sp bF a<;>intro _ a
        ·cases a;simp only[bm,seval];rw[aC];refine⟨_,rfl,?_⟩;refine⟨b,e+1,?_⟩;and_intros<;>first|rfl|(simp only[bm,seval,p]<;>rfl)
        ·obtain⟨V,F,a⟩:=ae a;cases a;simp only[bm,seval,F];rw[aC];refine⟨_,rfl,?_⟩;refine⟨b,e+1,?_⟩;and_intros<;>first|rfl|(simp only[bm,seval,p]<;>rfl)
    ·cases a;simp only[bm,seval];apply j8;refine⟨rfl,⟨b,?_,?_⟩⟩;all_goals ((simp only[bm,seval,p]<;>rfl))
   ·rintro x t H e J;rcases M with _|rb
    ·dsimp only at J a;obtain⟨rfl,⟨l,O⟩⟩:=J;obtain⟨W,G,a⟩:=ae a;obtain⟨X,I,a⟩:=ae a;cases a;simp only[bm,seval,O,G,I]
    ·dsimp only at J a;obtain⟨rfl,Y⟩:=J;cases a;simp only[aY,bc,cA,cI];exact Y
 ·clear a;have a:=L;simp only[bm,seval];apply sp bF a<;>intro _ a
  ·cases a;simp only[bm,seval];rw[aC];refine⟨_,rfl,?_⟩;refine⟨0,?_,?_,?_⟩;all_goals (rfl)
  ·cases a;simp only[bm,seval];rw[aC];refine⟨_,rfl,?_⟩;refine⟨0,?_,?_,?_⟩;all_goals (rfl)
def kU (l:Option (D×Row)) (d:List D):=eu (dS (bU ah)) (fun x:ak=>kz x) (fun r:Bool =>.clean (.bool r)) l d
def oN:Env:=(Am.ext bn 54 false ba)
def Au:bV prog oN:=(bV.none.add fh false)
def B8:=ai @w<|ai @kx<|ai @ba.eq_1<|@oN.eq_1
def AG:cn prog 128 kU:=cn.jx (mode := .clean) tok Au mixed func128 (by kernel_rfl) (fun _ _=>rfl) (fun _=>by kernel_rfl) fun c r a=>by
 replace a:kz c=some r:=a;apply aK rfl ntmps128 results128;simp only[jy];unfold kz at a;obtain⟨d,b,a⟩:=ae a;cases a;simp only[B8,seval,b]
def dH (l:Option (D×Row)) (d:List D):=eu (gh (j0 ah) (dS (NN 128))) (fun x:(List ak)×Unit=>cZ x.1) (fun r:Int =>.clean (.int .i64 r)) l d
def adT {β:Type} {F:(List ak)×Unit->Option β} {R:β->RK} (a:(List ak)):eu (gh (j0 ah) (dS (NN 128))) F R none [.sl false false a.length (al ah a),.fn 128]=(F (a,())).map fun r=>(R r,none):=cD _ _ _ (a,())
def fp:Env:=(Am.ext bn 128 false kU)
def mW:bV prog fp:=(bV.none.add AG false)
def bo:=ai @w<|ai @kx<|ai @kU.eq_1<|@fp.eq_1
def nd:cn prog 102 dH:=cn.jx (mode := .clean) tok mW mixed func102 (by kernel_rfl) (fun _ _=>rfl) (fun _=>by kernel_rfl) fun⟨h,_⟩ r a=>by
 replace a:cZ h=some r:=a;apply aK rfl ntmps102 results102;simp only[jy];unfold cZ at a;simp only[bo,seval];obtain⟨l,i,a⟩:=ae a;refine aA (fun s t H e=>match s with|b=>t 0=sF ah h∧t 1=.fn 128∧t 7=sN (h.length:Int)∧t 8=sN b) (fun o x t H e=>match o with|(.inl _)=>x=.exit 0|(.inr r)=>x=.ret∧gu .clean tab none [.tmp 4] ⟨t,EH H,e⟩=some (.clean (.int .i64 r),none)) i ?_ ?_ ?_
 ·refine⟨?_,?_,?_,?_⟩;all_goals (rfl)
 ·rintro b t H e f c a;simp only[dC]at a;simp only[bo,seval,f];apply sp ax a<;>intro _ a
  ·obtain⟨n,j,a⟩:=ae a;have d:=bk ah j;simp only[bK]at d;obtain⟨p,k,a⟩:=ae a;simp only[bo,seval,f,d,k];apply sp ax a<;>intro _ a
   ·cases a;simp only[bo,seval];refine tD ⟨rfl,?_⟩;simp only[bo,seval]
   ·cases a;simp only[bo,seval,f];apply iU;and_intros<;>first|rfl|(simp only[bo,seval,f]<;>rfl)
  ·cases a;simp only[bo,seval];apply j8;exact rfl
 ·rintro x t H e g;rcases l with _|q
  ·dsimp only at g a;subst g;cases a;simp only[bo,seval]
  ·dsimp only at g a;obtain⟨rfl,m⟩:=g;cases a;simp only[aY,bc,cA,cI];exact m
def dh (l:Option (D×Row)) (d:List D):=eu (gh (j0 ah) (dS (NN 128))) (fun x:(List ak)×Unit=>cJ x.1) (fun r:Bool =>.clean (.bool r)) l d
def eO:Env:=(Am.ext bn 102 false dH)
def lx:bV prog eO:=(bV.none.add nd false)
def mA:=ai @w<|ai @adT<|ai @dH.eq_1<|@eO.eq_1
def lF:cn prog 52 dh:=cn.jx (mode := .clean) tok lx mixed func52 (by kernel_rfl) (fun _ _=>rfl) (fun _=>by kernel_rfl) fun⟨c,_⟩ r a=>by
 replace a:cJ c=some r:=a;apply aK rfl ntmps52 results52;simp only[jy];unfold cJ at a;obtain⟨d,b,a⟩:=ae a;cases a;simp only[mA,seval,b]
def nt (l:Option (D×Row)) (d:List D):=eu (gh (j0 ah) (dS (aI .i64))) (fun x:(List ak)×Int=>kM x.1 x.2) (fun r:Bool =>.clean (.bool r)) l d
def ahs {β:Type} {F:(List ak)×Int->Option β} {R:β->RK} (a:(List ak)) (b:Int):eu (gh (j0 ah) (dS (aI .i64))) F R none [.sl false false a.length (al ah a),.int .i64 b]=(F (a,b)).map fun r=>(R r,none):=cD _ _ _ (a,b)
def rm:Env:=(Am.ext bn 52 false dh)
def CE:bV prog rm:=(bV.none.add lF false)
def rv:=ai @w<|ai @adT<|ai @dh.eq_1<|@rm.eq_1
def CV:cn prog 74 nt:=cn.jx (mode := .clean) tok CE mixed func74 (by kernel_rfl) (fun _ _=>rfl) (fun _=>by kernel_rfl) fun⟨c,d⟩ r a=>by
 replace a:kM c d=some r:=a;apply aK rfl ntmps74 results74;simp only[jy];unfold kM at a;simp only[rv,seval];apply sp ik a<;>intro _ a
 ·obtain⟨e,b,a⟩:=ae a;cases a;simp only[rv,seval,b]
 ·cases a;simp only[rv,seval]
def tG (l:Option (D×Row)) (d:List D):=eu (dS (bU Bp)) (fun x:gS=>jV x) (fun r:(List Int) =>.clean (.sl false false r.length (al (eI .i64) r))) l d
def xU:Env:=(Am.w9 18 (3,1,0) (Am.ext (Am.ext (Am.ext bn 24 false cF) 73 false lh) 126 false lj))
def MA:bV prog xU:=(bV.w9 (((bV.none.add ki false).add BO false).add BP false) 18 (3,1,0))
def bf:=ai @w<|ai @kx<|ai @cF.eq_1<|ai @RN<|ai @lh.eq_1<|ai @lj.eq_1<|@xU.eq_1
def MY:cn prog 136 tG:=cn.jx (mode := .clean) tok MA mixed func136 (by kernel_rfl) (fun _ _=>rfl) (fun _=>by kernel_rfl) fun p0 r a=>by
 replace a:jV p0=some r:=a;apply aK rfl ntmps136 results136;simp only[jy];unfold jV at a;obtain⟨r1,bG,a⟩:=ae a;simp only[bf,seval,-Int.reduceToNat,bG];apply sp ax a<;>intro _ a
 ·cases a;simp only[bf,seval,-Int.reduceToNat]
 ·obtain⟨x3,b2,a⟩:=ae a;have bH:=V1 (E:=(Pb (eI .i64))) (ty':=3) (s:=1) (f:=0) (k := .i64) Np (by rfl) rfl rfl rfl rfl rfl b2;obtain⟨aR,dn,dp,dq,dr⟩:=mk_one (Pb (eI .i64)) b2;simp only[bf,seval,-Int.reduceToNat,bH,aR];obtain⟨c8,b3,a⟩:=ae a;refine aA (fun s t H e=>match s with|(a7,V)=>∃W:Nat,∃w:Nat,∃l:Nat,t 1=.ptr 1 W 0∧t 3=.buf 18 w 1 0 (V).length∧t 20=sF cq p0.bd∧t 21=sN (p0.bd.length:Int)∧t 22=sN a7∧H 1=rV W 66 [sN p0.aB,sF cq p0.bd]∧H 18=some ⟨w,22,[.nr 3 1 l (al (Pb (eI .i64)) V)],false,true,true⟩∧l<=4*e) (fun o x t H e=>match o with|b=>x=.exit 0∧∃X:Nat,∃p:Nat,∃h:Nat,t 1=.ptr 1 X 0∧t 3=.buf 18 p 1 0 (b).length∧H 1=rV X 66 [sN p0.aB,sF cq p0.bd]∧H 18=some ⟨p,22,[.nr 3 1 h (al (Pb (eI .i64)) b)],false,true,true⟩∧h<=4*e) b3 ?_ ?_ ?_
  ·refine⟨0,2,4*(2)+2,?_,?_,?_,?_,?_,?_,?_,?_⟩;all_goals (first|rfl|omega|(simp only[bf,seval,-Int.reduceToNat,bG,bH,aR]<;>rfl))
  ·rintro⟨a7,V⟩ t H e ⟨W,w,l,Za⟩ c a;simp only[mi]at a;simp only[bf,seval,-Int.reduceToNat,Za];apply sp ax a<;>intro _ a
   ·obtain⟨ds,b4,a⟩:=ae a;have a8:=bk cq b4;simp only[bK]at a8;obtain⟨dt,A,a⟩:=ae a;have B:=bk (Pb (eI .i64)) A;simp only[bK]at B;obtain⟨bI,b5,a⟩:=ae a;obtain⟨b6,ba,b7,b8⟩:=jJ (eI .i64) b5;simp only[bK]at ba;have B:=bk (Pb (eI .i64)) A;simp only[bK]at B;have b9:=Rj (Pb (eI .i64)) (x':=bI) 0 .und (.nx bI.length (al (eI .i64) bI)) A rfl (akW rfl);have bb:=Wi (Pb (eI .i64)) 0 .und A (akW rfl);simp only[bK,Nat.add_zero]at b9 bb;have bc:=b9;simp only[putCells,List.length_cons,List.length_nil,akl]at bc;have Y:=bb;simp only[putCells,List.length_cons,List.length_nil,akl]at Y;have ca:bump l (e+1+1)=some (4*(e+1+1)+1):=kV (by omega);simp only[bf,seval,-Int.reduceToNat,Za,a8,b6,ba,b7,b8,B,bc,Y,ca];refine bP (by kernel_rfl) ?_;cases a;apply iU;refine⟨W,w,4*(e+1+1)+1,?_,?_,?_,?_,?_,?_,?_,?_⟩;all_goals (first|rfl|omega|(simp only[bf,seval,-Int.reduceToNat,Za]<;>rfl))
   ·cases a;simp only[bf,seval,-Int.reduceToNat];apply j8;refine⟨rfl,⟨W,w,l,?_,?_,?_,?_,?_⟩⟩;all_goals (first|rfl|omega|(simp only[bf,seval,-Int.reduceToNat,Za]<;>rfl))
  ·rintro x t H e Z;obtain⟨b,rfl⟩:∃z,z=c8:=⟨_,rfl⟩;dsimp only at Z a;obtain⟨rfl,⟨X,p,h,cb⟩⟩:=Z;obtain⟨du,cc,a⟩:=ae a;obtain⟨cd,bd,bg,aa,bh⟩:=mk_one (eI .i64) cc;simp only[bK]at aa;obtain⟨cf,bj,a⟩:=ae a;simp only[bf,seval,-Int.reduceToNat,aR,cb,bd,bg,aa,bh,bj];obtain⟨c9,cg,a⟩:=ae a;refine aA (fun s t H e=>match s with|(bl,bJ,bL)=>∃T:Nat,∃ab:Nat,∃m:Nat,∃g:Nat,∃ad:Nat,∃ag:List D,t 3=.buf 18 m 1 0 (b).length∧t 6=.buf 6 T 1 0 (bJ).length∧t 7=.buf 7 ab 1 ad (bL).length∧t 44=sF ah cf∧t 45=sN (cf.length:Int)∧t 46=sN bl∧H 6=rW T 3 (al (eI .i64) bJ)∧H 7=rW ab 3 (ag)∧H 18=some ⟨m,22,[.nr 3 1 g (al (Pb (eI .i64)) b)],false,true,true⟩∧g<=4*e∧wW (eI .i64) ag ad bL) (fun o x t H e=>match o with|(ai,aj)=>x=.exit 2∧∃C:Nat,∃F:Nat,∃q:Nat,∃i:Nat,∃G:Nat,∃I:List D,t 3=.buf 18 q 1 0 (b).length∧t 6=.buf 6 C 1 0 (ai).length∧t 7=.buf 7 F 1 G (aj).length∧H 6=rW C 3 (al (eI .i64) ai)∧H 7=rW F 3 (I)∧H 18=some ⟨q,22,[.nr 3 1 i (al (Pb (eI .i64)) b)],false,true,true⟩∧i<=4*e∧wW (eI .i64) I G aj) cg ?_ ?_ ?_
   ·refine⟨e,e+1,p,h,0,(al (eI .i64) ([])),?_,?_,?_,?_,?_,?_,?_,?_,?_,?_,(wW.self (eI .i64) ([]))⟩;all_goals (first|rfl|omega|(simp only[bf,seval,-Int.reduceToNat,cb]<;>rfl))
   ·rintro⟨bl,bJ,bL⟩ t H e ⟨T,ab,m,g,ad,ag,bM,an,bN,ao,aq,J,ch,bO,bm,da,aS⟩ c a;simp only[mj]at a;have ar:=aS.fit;have au:=aS.eq;simp only[bK]at ar au;simp only[bf,seval,-Int.reduceToNat,aq,J];apply sp ax a<;>intro _ a
    ·obtain⟨dv,cj,a⟩:=ae a;have av:=bk ah cj;simp only[bK]at av;obtain⟨dw,bn,a⟩:=ae a;have aw:=bk (eI .i64) bn;simp only[bK]at aw;have ck:=fL (eI .i64) (x':=(-1)) (fo:=0) (cs:=[.int .i64 (-1)]) bn rfl (akW rfl);simp only[bK,Nat.add_zero]at ck;have bo:=ck;simp only[putCells,List.length_cons,List.length_nil,akl]at bo;obtain⟨dx,cm,a⟩:=ae a;simp only[bf,seval,-Int.reduceToNat,an,ao,J,ch,av,aw,bo,cm];apply sp ax a<;>intro _ a
     ·obtain⟨dy,bp,a⟩:=ae a;have cp:=bk (eI .i64) bp;simp only[bK,alg]at cp;have cr:=fL (eI .i64) (x':=0) (fo:=0) (cs:=[.int .i64 0]) bp rfl (akW rfl);simp only[bK,Nat.add_zero]at cr;have bq:=cr;simp only[putCells,List.length_cons,List.length_nil,akl]at bq;obtain⟨ct,cu,a⟩:=ae a;obtain⟨cv,br,cw,cx⟩:=jJ (eI .i64) cu;simp only[bK]at br;cases a;simp only[bf,seval,-Int.reduceToNat,an,bN,J,bO,ar,au,av,aw,bq,cv,br,cw,cx];apply iU;refine⟨T,e+1+1+1+1+1,m,g,0,(al (eI .i64) ct),?_,?_,?_,?_,?_,?_,?_,?_,?_,?_,(wW.self (eI .i64) ct)⟩;all_goals (first|rfl|omega|(simp only[bf,seval,-Int.reduceToNat,bM,an,ao,aq,bm]<;>rfl))
     ·cases a;simp only[bf,seval,-Int.reduceToNat,J];apply iU;refine⟨T,ab,m,g,ad,ag,?_,?_,?_,?_,?_,?_,?_,?_,?_,?_,aS⟩;all_goals (first|rfl|omega|(simp only[bf,seval,-Int.reduceToNat,bM,an,bN,ao,aq,bO,bm]<;>rfl))
    ·cases a;simp only[bf,seval,-Int.reduceToNat];apply j8;refine⟨rfl,⟨T,ab,m,g,ad,ag,?_,?_,?_,?_,?_,?_,?_,aS⟩⟩;all_goals (first|rfl|omega|(simp only[bf,seval,-Int.reduceToNat,bM,an,bN,ch,bO]<;>rfl))
   ·rintro x t H e Z;rcases c9 with⟨ai,aj⟩;dsimp only at Z a;obtain⟨rfl,⟨C,F,q,i,G,I,cy,cz,cA,cB,cC,bQ,aU,ay⟩⟩:=Z;have K:=ay.fit;have L:=ay.eq;simp only[bK]at K L;simp only[bf,seval,-Int.reduceToNat];obtain⟨db,cD,a⟩:=ae a;refine aA (fun s t H e=>match s with|(bR,bS)=>∃az:Nat,∃bT:Nat,∃M:Nat,∃u:Nat,∃aV:Nat,∃aW:List D,t 3=.buf 18 M 1 0 (b).length∧t 6=.buf 6 az 1 0 (bR).length∧t 7=.buf 7 bT 1 aV (bS).length∧H 6=rW az 3 (al (eI .i64) bR)∧H 7=rW bT 3 (aW)∧H 18=some ⟨M,22,[.nr 3 1 u (al (Pb (eI .i64)) b)],false,true,true⟩∧u<=4*e∧wW (eI .i64) aW aV bS) (fun o x t H e=>match o with|aB=>x=.exit 4∧∃aC:Nat,t 6=.buf 6 aC 1 0 (aB).length∧H 6=rW aC 3 (al (eI .i64) aB)) cD ?_ ?_ ?_
    ·refine⟨C,F,q,i,G,I,?_,?_,?_,?_,?_,?_,?_,ay⟩;all_goals (first|rfl|omega|(simp only[bf,seval,-Int.reduceToNat,bG,bH,aR,cd,bd,bg,aa,bh,bj,cy,cz,cA,cB,cC,bQ,aU,K,L]<;>rfl))
    ·rintro⟨bR,bS⟩ t H e ⟨az,bT,M,u,aV,aW,cE,cF,cG,cH,cI,bt,dc,aX⟩ c a;simp only[ml]at a;have bU:=aX.fit;have bV:=aX.eq;simp only[bK]at bU bV;simp only[bf,seval,-Int.reduceToNat,cG,cI];apply sp ax a<;>intro _ a
     ·obtain⟨cJ,bu,a⟩:=ae a;have cK:=s5 bu;obtain⟨bw,cL,bx⟩:=aX.idx bu;simp only[bK]at bx bw;obtain⟨dz,bz,a⟩:=ae a;obtain⟨cM,di,cN,cO,cP⟩:=abW (eI .i64) bz;simp only[bK]at cP;have cQ:=wW.tail aX bz;obtain⟨cR,cS,a⟩:=ae a;have N:=bk (Pb (eI .i64)) cS;simp only[bK]at N;simp only[bf,seval,-Int.reduceToNat,cE,cG,cI,bt,cK,bx,bw,cM,cN,N];obtain⟨dd,cT,a⟩:=ae a;refine aA (fun s t H e=>match s with|(bA,bW,bX)=>∃U:Nat,∃aD:Nat,∃n:Nat,∃d:Nat,∃aE:Nat,∃aF:List D,t 3=.buf 18 n 1 0 (b).length∧t 6=.buf 6 U 1 0 (bW).length∧t 7=.buf 7 aD 1 aE (bX).length∧t 10=sN cJ∧t 76=.buf (NK 18 ((cJ:Int).toNat*1)) d 1 0 (cR).length∧t 77=sN ((cR).length:Int)∧t 78=sN bA∧H 6=rW U 3 (al (eI .i64) bW)∧H 7=rW aD 3 (aF)∧H 18=some ⟨n,22,[.nr 3 1 d (al (Pb (eI .i64)) b)],false,true,true⟩∧d<=4*e∧wW (eI .i64) aF aE bX) (fun o x t H e=>match o with|(aG,aH)=>x=.exit 6∧∃O:Nat,∃P:Nat,∃v:Nat,∃j:Nat,∃Q:Nat,∃R:List D,t 3=.buf 18 v 1 0 (b).length∧t 6=.buf 6 O 1 0 (aG).length∧t 7=.buf 7 P 1 Q (aH).length∧H 6=rW O 3 (al (eI .i64) aG)∧H 7=rW P 3 (R)∧H 18=some ⟨v,22,[.nr 3 1 j (al (Pb (eI .i64)) b)],false,true,true⟩∧j<=4*e∧wW (eI .i64) R Q aH) cT ?_ ?_ ?_
      ·refine⟨az,e+1+1,M,u,(aV+(1:Int).toNat*1),(aW),?_,?_,?_,?_,?_,?_,?_,?_,?_,?_,?_,cQ⟩;all_goals (first|rfl|omega|(simp only[bf,seval,-Int.reduceToNat,cE,cF,cH,bt,cO]<;>rfl))
      ·rintro⟨bA,bW,bX⟩ t H e ⟨U,aD,n,d,aE,aF,bY,aI,bZ,aJ,aL,aM,S,aY,b1,bB,de,aZ⟩ c a;simp only[mm]at a;have aN:=aZ.fit;have aO:=aZ.eq;simp only[bK]at aN aO;simp only[bf,seval,-Int.reduceToNat,aM,S];apply sp ax a<;>intro _ a
       ·obtain⟨dA,cU,a⟩:=ae a;have bC:=bk (eI .i64) cU;simp only[bK]at bC;obtain⟨dB,aP,a⟩:=ae a;have y:=bk (eI .i64) aP;simp only[bK]at y;simp only[bf,seval,-Int.reduceToNat,N,aI,aL,S,aY,bB,bC,y];apply sp ax a<;>intro _ a
        ·obtain⟨cV,cW,a⟩:=ae a;have bD:=bk (eI .i64) cW;simp only[bK]at bD;have y:=bk (eI .i64) aP;simp only[bK]at y;have cX:=fL (eI .i64) (x':=IntKind.i64.wrap (cV+1)) (fo:=0) (cs:=[.int .i64 (IntKind.i64.wrap (cV+1))]) aP rfl (akW rfl);simp only[bK,Nat.add_zero]at cX;have bE:=cX;simp only[putCells,List.length_cons,List.length_nil,akl]at bE;obtain⟨cY,cZ,a⟩:=ae a;obtain⟨c0,bF,c3,c4⟩:=jJ (eI .i64) cZ;simp only[bK]at bF;cases a;simp only[bf,seval,-Int.reduceToNat,N,aI,bZ,aJ,S,aY,b1,aN,aO,bD,y,bE,c0,bF,c3,c4];apply iU;refine⟨U,e+1+1+1+1,n,d,0,(al (eI .i64) cY),?_,?_,?_,?_,?_,?_,?_,?_,?_,?_,?_,(wW.self (eI .i64) cY)⟩;all_goals (first|rfl|omega|(simp only[bf,seval,-Int.reduceToNat,bY,aI,aJ,aL,aM,bB]<;>rfl))
        ·cases a;simp only[bf,seval,-Int.reduceToNat,S];apply iU;refine⟨U,aD,n,d,aE,aF,?_,?_,?_,?_,?_,?_,?_,?_,?_,?_,?_,aZ⟩;all_goals (first|rfl|omega|(simp only[bf,seval,-Int.reduceToNat,bY,aI,bZ,aJ,aL,aM,aY,b1]<;>rfl))
       ·cases a;simp only[bf,seval,-Int.reduceToNat];apply j8;refine⟨rfl,⟨U,aD,n,d,aE,aF,?_,?_,?_,?_,?_,?_,?_,aZ⟩⟩;all_goals (first|rfl|omega|(simp only[bf,seval,-Int.reduceToNat,bY,aI,bZ,aY,b1]<;>rfl))
      ·rintro x t H e Z;rcases dd with⟨aG,aH⟩;dsimp only at Z a;obtain⟨rfl,⟨O,P,v,j,Q,R,dj,dk,dm,c5,c6,df,c7,aQ⟩⟩:=Z;have a1:=aQ.fit;have a6:=aQ.eq;simp only[bK]at a1 a6;cases a;simp only[bf,seval,-Int.reduceToNat];apply iU;refine⟨O,P,v,j,Q,R,?_,?_,?_,?_,?_,?_,?_,aQ⟩;all_goals (first|rfl|omega|(simp only[bf,seval,-Int.reduceToNat,c5,c6]<;>rfl))
     ·cases a;simp only[bf,seval,-Int.reduceToNat];apply j8;refine⟨rfl,⟨az,?_,?_⟩⟩;all_goals ((simp only[bf,seval,-Int.reduceToNat,cF,cH]<;>rfl))
    ·rintro x t H e Z;obtain⟨aB,rfl⟩:∃z,z=db:=⟨_,rfl⟩;dsimp only at Z a;obtain⟨rfl,⟨aC,dh⟩⟩:=Z;cases a;simp only[bf,seval,-Int.reduceToNat,dh]
def ql (l:Option (D×Row)) (d:List D):=eu (dS (bU Bp)) (fun x:gS=>lC x) (fun r:(List Int) =>.clean (.sl false false r.length (al (eI .i64) r))) l d
def uD:Env:=(Am.ext bn 136 false tG)
def Gu:bV prog uD:=(bV.none.add MY false)
def fS:=ai @w<|ai @RN<|ai @tG.eq_1<|@uD.eq_1
def Hm:cn prog 85 ql:=cn.jx (mode := .clean) tok Gu mixed func85 (by kernel_rfl) (fun _ _=>rfl) (fun _=>by kernel_rfl) fun B r a=>by
 replace a:lC B=some r:=a;apply aK rfl ntmps85 results85;simp only[jy];unfold lC at a;obtain⟨y,q,a⟩:=ae a;simp only[fS,seval,q];obtain⟨C,u,a⟩:=ae a;refine aA (fun s t H e=>match s with|(j,h)=>∃b:Nat,t 3=.buf 3 b 1 0 (h).length∧t 7=sI y∧t 8=sN (y.length:Int)∧t 9=sN j∧H 3=rW b 3 (al (eI .i64) h)) (fun o x t H e=>match o with|d=>x=.exit 0∧∃f:Nat,t 3=.buf 3 f 1 0 (d).length∧H 3=rW f 3 (al (eI .i64) d)) u ?_ ?_ ?_
 ·refine⟨1,?_,?_,?_,?_,?_⟩;all_goals (rfl)
 ·rintro⟨j,h⟩ t H e ⟨b,i⟩ c a;simp only[jW]at a;simp only[fS,seval,i];apply sp ax a<;>intro _ a
  ·obtain⟨E,v,a⟩:=ae a;have k:=bk (eI .i64) v;simp only[bK]at k;simp only[fS,seval,i,k];apply sp ax a<;>intro _ a
   ·obtain⟨D,l,a⟩:=ae a;obtain⟨m,g,n,p⟩:=jJ (eI .i64) l;simp only[bK]at g;cases a;simp only[fS,seval,i,m,g,n,p];apply iU;refine⟨e+1+1+1,?_⟩;and_intros<;>first|rfl|(simp only[fS,seval,i]<;>rfl)
   ·cases a;simp only[fS,seval,i];apply iU;refine⟨b,?_⟩;and_intros<;>first|rfl|(simp only[fS,seval,i]<;>rfl)
  ·cases a;simp only[fS,seval];apply j8;refine⟨rfl,⟨b,?_,?_⟩⟩;all_goals ((simp only[fS,seval,i]<;>rfl))
 ·rintro x t H e A;obtain⟨d,rfl⟩:∃z,z=C:=⟨_,rfl⟩;dsimp only at A a;obtain⟨rfl,⟨f,w⟩⟩:=A;cases a;simp only[fS,seval,w]
def aht {β:Type} {F:gS×(List ak)->Option β} {R:β->RK} (b:Int) (a:(List cu)) (c:(List ak)):eu (gh (bU Bp) (dS (j0 ah))) F R none [.agg [.int .i64 b,.sl false false a.length (al cq a)],.sl false false c.length (al ah c)]=(F ((gS.mk b a),c)).map fun r=>(R r,none):=cD _ _ _ ((gS.mk b a),c)
def kX:Env:=(Am.w9 11 (130,5,4) bn)
def Av:bV prog kX:=(bV.w9 bV.none 11 (130,5,4))
def b6:=ai @w<|@kX.eq_1
def BG (F:gS) (p1:(List ak)) (r:(List aG)) (a:gi F p1=some r):AQ tab kX FU Tryz.f75 [.agg [.int .i64 F.aB,.sl false false F.bd.length (al cq F.bd)],.sl false false p1.length (al ah p1)]=some (128,130,5,5,r.length,al aX r):=by
 apply YU rfl ntmps75 results75;unfold gi at a;obtain⟨x1,T,a⟩:=ae a;have U:=V1 (E:=aX) (ty':=130) (s:=5) (f:=4) (k := .i64) No (by rfl) rfl rfl rfl rfl rfl T;obtain⟨V,aC,aD,aE,aF⟩:=mk_one aX T;simp only[b6,seval,U,V];obtain⟨o8,av,a⟩:=ae a;refine aA (fun s t H e=>match s with|(G,w)=>∃y:Nat,∃l:Nat,∃g:Nat,t 1=sF ah p1∧t 2=.ptr 2 y 0∧t 5=.buf 11 l 5 0 (w).length∧t 13=sN ((x1).length:Int)∧t 14=sN G∧H 2=rV y 66 [sN F.aB,sF cq F.bd]∧H 11=some ⟨l,128,[.nr 130 5 g (al aX w)],false,true,true⟩∧g<=4*e) (fun o x t H e=>match o with|n=>x=.exit 0∧∃A:Nat,∃i:Nat,∃d:Nat,t 2=.ptr 2 A 0∧t 5=.buf 11 i 5 0 (n).length∧H 2=rV A 66 [sN F.aB,sF cq F.bd]∧H 11=some ⟨i,128,[.nr 130 5 d (al aX n)],false,true,true⟩∧d<=4*e) av ?_ ?_ ?_
 ·refine⟨0,1,4*(1)+2,?_,?_,?_,?_,?_,?_,?_,?_⟩;all_goals (first|rfl|omega|(simp only[b6,seval,U,V]<;>rfl))
 ·rintro⟨G,w⟩ t H e ⟨y,l,g,Za⟩ c a;simp only[iM]at a;simp only[b6,seval,Za];apply sp ax a<;>intro _ a
  ·obtain⟨p,W,a⟩:=ae a;have I:=bk ah W;simp only[bK]at I;obtain⟨aw,B,a⟩:=ae a;have J:=bk aX B;simp only[bK]at J;have K:=ku aX 0 4 (akW rfl) B;simp only[bK,Nat.add_zero]at K;have X:=fL aX (x':=(aG.mk p aw.cz)) (fo:=0) (cs:=[.int .i64 p.bQ.aq,.sl false false p.bQ.aa.length (al (eI .i64) p.bQ.aa),.int .i64 p.bX.aq,.sl false false p.bX.aa.length (al (eI .i64) p.bX.aa)]) B rfl (akW rfl);simp only[bK,Nat.add_zero]at X;have L:=X;simp only[putCells,List.length_cons,List.length_nil,akl,Nat.reduceAdd]at L;cases a;simp only[b6,seval,Za,I,J,K,L];apply iU;refine⟨y,l,g,?_,?_,?_,?_,?_,?_,?_,?_⟩;all_goals (first|rfl|omega|(simp only[b6,seval,Za]<;>rfl))
  ·cases a;simp only[b6,seval];apply j8;refine⟨rfl,⟨y,l,g,?_,?_,?_,?_,?_⟩⟩;all_goals (first|rfl|omega|(simp only[b6,seval,Za]<;>rfl))
 ·rintro x t H e Y;obtain⟨n,rfl⟩:∃z,z=o8:=⟨_,rfl⟩;dsimp only at Y a;obtain⟨rfl,⟨A,i,d,Z⟩⟩:=Y;simp only[b6,seval,Z];obtain⟨ay,aa,a⟩:=ae a;refine aA (fun s t H e=>match s with|(M,C)=>∃m:Nat,∃h:Nat,t 5=.buf 11 m 5 0 (C).length∧t 27=sF cq F.bd∧t 28=sN (F.bd.length:Int)∧t 29=sN M∧H 11=some ⟨m,128,[.nr 130 5 h (al aX C)],false,true,true⟩∧h<=4*e) (fun o x t H e=>match o with|q=>x=.exit 2∧∃u:Nat,∃j:Nat,t 5=.buf 11 u 5 0 (q).length∧H 11=some ⟨u,128,[.nr 130 5 j (al aX q)],false,true,true⟩∧j<=4*e) aa ?_ ?_ ?_
  ·refine⟨i,d,?_,?_,?_,?_,?_,?_⟩;all_goals (first|rfl|omega|(simp only[b6,seval,Z]<;>rfl))
  ·rintro⟨M,C⟩ t H e ⟨m,h,Zb⟩ c a;simp only[iN]at a;simp only[b6,seval,Zb];apply sp ax a<;>intro _ a
   ·obtain⟨aH,ab,a⟩:=ae a;have N:=bk cq ab;simp only[bK]at N;obtain⟨az,b,a⟩:=ae a;have v:=bk aX b;simp only[bK]at v;have O:=ly aX 4 b;have ad:=ku aX 4 1 (akW rfl) b;simp only[bK]at O ad;obtain⟨S,ag,a⟩:=ae a;obtain⟨ai,P,aj,an⟩:=jJ b9 ag;simp only[bK]at P;have v:=bk aX b;simp only[bK]at v;have ao:=ly aX 4 b;have aq:=ku aX 4 1 (akW rfl) b;simp only[bK]at ao aq;have ar:=Rj aX (x':=(aG.mk az.bI S)) 4 .und (.nx S.length (al b9 S)) b rfl (akW rfl);have Q:=Wi aX 4 .und b (akW rfl);simp only[bK]at ar Q;have R:=ar;simp only[putCells,List.length_cons,List.length_nil,akl]at R;have D:=Q;simp only[putCells,List.length_cons,List.length_nil,akl]at D;have au:bump h (e+1+1)=some (4*(e+1+1)+1):=kV (by omega);simp only[b6,seval,Zb,N,O,ai,P,aj,an,v,R,D,au];refine bP (by kernel_rfl) ?_;cases a;apply iU;refine⟨m,4*(e+1+1)+1,?_,?_,?_,?_,?_,?_⟩;all_goals (first|rfl|omega|(simp only[b6,seval,Zb]<;>rfl))
   ·cases a;simp only[b6,seval];apply j8;refine⟨rfl,⟨m,h,?_,?_,?_⟩⟩;all_goals (first|rfl|omega|(simp only[b6,seval,Zb]<;>rfl))
  ·rintro x t H e Y;obtain⟨q,rfl⟩:∃z,z=ay:=⟨_,rfl⟩;dsimp only at Y a;obtain⟨rfl,⟨u,j,aB⟩⟩:=Y;cases a;simp only[b6,seval,aB]
def nF:=cy (gh (bU Bp) (dS (j0 ah))) (fun x:gS×(List ak)=>gi x.1 x.2) (fun r:(List aG)=>(128,130,5,5,r.length,al aX r))
def tj (b:Int) (a:(List cu)) (c:(List ak)):nF [.agg [.int .i64 b,.sl false false a.length (al cq a)],.sl false false c.length (al ah c)]=(gi (gS.mk b a) c).map fun r:(List aG)=>(128,130,5,5,r.length,al aX r):=afC _ _ _ ((gS.mk b a),c)
def rC:FOk prog 75 nF:=FOk.of tok Av mixed func75 (by kernel_rfl) ⟨by kernel_rfl,by kernel_rfl⟩ (fun _=>akW (by kernel_rfl)) (fun x r h=>BG x.1 x.2 r h)
def gU (l:Option (D×Row)) (d:List D):=eu (gh (bU b9) (dS (aI .i64))) (fun x:fQ×Int=>ee x.1 x.2) (fun r:Int =>.clean (.int .i64 r)) l d
def ahu {β:Type} {F:fQ×Int->Option β} {R:β->RK} (c:Int) (d:Int) (a:(List Int)) (e:Int) (b:(List Int)) (f:Int):eu (gh (bU b9) (dS (aI .i64))) F R none [.agg [.int .i64 c,.int .i64 d,.sl false false a.length (al (eI .i64) a),.int .i64 e,.sl false false b.length (al (eI .i64) b)],.int .i64 f]=(F ((fQ.mk c (ak.mk (aL.mk d a) (aL.mk e b))),f)).map fun r=>(R r,none):=cD _ _ _ ((fQ.mk c (ak.mk (aL.mk d a) (aL.mk e b))),f)
def jT:Env:=(Am.ext bn 110 false dX)
def uH:bV prog jT:=(bV.none.add oX false)
def vf:=ai @w<|ai @Ll<|ai @dX.eq_1<|@jT.eq_1
def uK:cn prog 178 gU:=cn.jx (mode := .clean) tok uH mixed func178 (by kernel_rfl) (fun _ _=>rfl) (fun _=>by kernel_rfl) fun⟨c,d⟩ r a=>by
 replace a:ee c d=some r:=a;apply aK rfl ntmps178 results178;simp only[jy];unfold ee at a;obtain⟨e,b,a⟩:=ae a;cases a;simp only[vf,seval,b]
def ch (l:Option (D×Row)) (d:List D):=eu (gh (j0 b9) (gh (aI .i64) (dS (NN 178)))) (fun x:(List fQ)×Int×Unit=>bB x.1 x.2.1) (fun r:Int×Bool =>.clean (.tup [.int .i64 r.1,.bool r.2])) l d
def ahv {β:Type} {F:(List fQ)×Int×Unit->Option β} {R:β->RK} (a:(List fQ)) (b:Int):eu (gh (j0 b9) (gh (aI .i64) (dS (NN 178)))) F R none [.sl false false a.length (al b9 a),.int .i64 b,.fn 178]=(F (a,b,())).map fun r=>(R r,none):=cD _ _ _ (a,b,())
def cY:Env:=(Am.ext bn 178 false gU)
def iZ:bV prog cY:=(bV.none.add uK false)
def aH:=ai @w<|ai @ahu<|ai @gU.eq_1<|@cY.eq_1
def jb:cn prog 177 ch:=cn.jx (mode := .clean) tok iZ mixed func177 (by kernel_rfl) (fun _ _=>rfl) (fun _=>by kernel_rfl) fun⟨h,q,_⟩ r a=>by
 replace a:bB h q=some r:=a;apply aK rfl ntmps177 results177;simp only[jy];unfold bB at a;simp only[aH,seval,-Int.reduceToNat];obtain⟨A,u,a⟩:=ae a;refine aA (fun s t H e=>match s with|(i,b)=>t 0=sF b9 h∧t 1=sN q∧t 2=.fn 178∧t 8=sN (h.length:Int)∧t 9=sN i∧t 10=sN b) (fun o x t H e=>match o with|d=>x=.exit 0∧t 0=sF b9 h∧t 1=sN q∧t 2=.fn 178∧t 8=sN (h.length:Int)∧t 9=sN d) u ?_ ?_ ?_
 ·refine⟨?_,?_,?_,?_,?_,?_⟩;all_goals (rfl)
 ·rintro⟨i,b⟩ t H e j c a;simp only[cg]at a;simp only[aH,seval,-Int.reduceToNat,j];apply sp ax a<;>intro _ a
  ·obtain⟨F,v,a⟩:=ae a;have w:=wx v;obtain⟨B,k,a⟩:=ae a;have f:=bk b9 k;simp only[bK]at f;obtain⟨C,l,a⟩:=ae a;simp only[aH,seval,-Int.reduceToNat,j,w,f,l];apply sp ax a<;>intro _ a
   ·cases a;simp only[aH,seval,-Int.reduceToNat];apply iU;and_intros<;>first|rfl|(simp only[aH,seval,-Int.reduceToNat,j]<;>rfl)
   ·cases a;simp only[aH,seval,-Int.reduceToNat];apply iU;and_intros<;>first|rfl|(simp only[aH,seval,-Int.reduceToNat,j]<;>rfl)
  ·cases a;simp only[aH,seval,-Int.reduceToNat];apply j8;refine⟨rfl,⟨?_,?_,?_,?_,?_⟩⟩;all_goals ((simp only[aH,seval,-Int.reduceToNat,j]<;>rfl))
 ·rintro x t H e y;obtain⟨d,rfl⟩:∃z,z=A:=⟨_,rfl⟩;dsimp only at y a;obtain⟨rfl,m⟩:=y;simp only[aH,seval,-Int.reduceToNat,m];apply sp ik a<;>intro _ a
  ·obtain⟨D,n,a⟩:=ae a;have g:=bk b9 n;simp only[bK]at g;obtain⟨E,p,a⟩:=ae a;cases a;simp only[aH,seval,-Int.reduceToNat,m,g,p]
  ·cases a;simp only[aH,seval,-Int.reduceToNat]
def fU:=IM 128 130 5 aX (dS (aI .i64)) (fun (q:aG) (x:Int)=>dt q x) (fun r:Int×Bool =>.tup [.int .i64 r.1,.bool r.2])
def kj (b a:List D) (c:aG) (d:Int):fU 128 130 5 b.length (b++(aX.cells c++a)) [.int .i64 d]=(dt c d).map fun r=>(.tup [.int .i64 r.2.1,.bool r.2.2],b++(aX.cells r.1++a)):=MN _ _ _ _ _ _ _ b a c (d)
end Go.Proofs.YtobnihfgnbnncaaGreat.Am
