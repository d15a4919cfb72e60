import Derived.Test.YtobnihfgnbnncaaGreatJd
set_option linter.unusedSimpArgs false
set_option linter.unusedVariables false
set_option linter.defProp false
noncomputable section
open Go.Proofs.Tryz
namespace Go.Proofs.YtobnihfgnbnncaaGreat.Am
open Go.RowKit Go.Proofs.YtobnihfgnbnncaaGreat.P
set_option maxRecDepth 100000
set_option maxHeartbeats 4000000
def abl {l:List _} : (av ch l).length=l.length*5:=bT _ l
def W4 {l:List _} : (av ch l).take (l.length*5)=av ch l:=by
 have:=kR ch l l.length;rw[alx]at this;exact this
def vme:=ai @By<|ai @Cu<|ai @Vr<|ai @Pg<|ai @BI<|ai @zf<|ai @Bz<|ai @eT<|ai @vf<|ai @zY<|ai @pX<|ai @DV<|ai @BB<|ai @DW<|ai @DZ<|ai @F5<|ai @D0<|ai @F6<|ai @xX<|ai @zW<|ai @BA<|ai @BC<|ai @DX<|ai @zX<|ai @se<|ai @xY<|ai @DY<|ai @BE<|ai @xZ<|ai @pY<|@w7
def vml:=ai @ck<|ai @Ps<|ai @Kk<|ai @Pu<|ai @Kj<|ai @Kl<|ai @Gm<|ai @Km<|ai @Pt<|ai @Kn<|ai @zZ<|ai @aeN<|ai @Ul<|ai @acw<|ai @aeO<|ai @acs<|ai @aeP<|ai @acu<|ai @aeQ<|ai @aeR<|ai @aeS<|ai @aeT<|ai @acv<|ai @aeU<|ai @abi<|ai @abj<|ai @abk<|ai @abl<|@W4
def UF:Xe tab ⟨.map 116 41,1,8,[.map none],false⟩ true (.agg [.int .i64 0,.sl false false 0 [],.int .i64 0,.sl false false 0 []]):=⟨_,_,rfl,rfl,rfl,rfl⟩
def abq {h:Nat->Option Row} {m:D} {n a:Int} {b:Bool} : jj tab ⟨.map 116 41,1,8,[.map none],false⟩ h m (.agg [.int .i64 n,.int .i64 a]) b=lkE true b (.agg [.int .i64 0,.sl false false 0 [],.int .i64 0,.sl false false 0 []]) (n,some a) (mapOf h m):=afM UF rfl
def abF {h:Nat->Option Row} {y v:Nat} {n a:Int} {x:D} : eO tab ⟨.map 116 41,1,8,[.map none],false⟩ h (.mp y v) (.agg [.int .i64 n,.int .i64 a]) x=muE true h y v (n,some a) (zN h x):=afR UF rfl
def abB {a e d:Nat} (b:a<900000):abD tab (some ⟨.map 116 41,1,8,[.map none],false⟩) a e d=some ⟨.mp d e,[(d,some ⟨e,a,[.mpc [] []],false,true,true⟩)]⟩:=adI UF b
def V2 {m:List ((Int×Int)×an)} {n a:Int} : ui (.agg [.int .i64 0,.sl false false 0 [],.int .i64 0,.sl false false 0 []]) (fE m) (iu (bV ak) m) (n,some a)=.agg [.int .i64 (((gI (an.mk (aK.mk 0 ([])) (aK.mk 0 ([]))) m (n,a)).bL).ax),.sl false false (((gI (an.mk (aK.mk 0 ([])) (aK.mk 0 ([]))) m (n,a)).bL).aa).length (av (eI .i64) (((gI (an.mk (aK.mk 0 ([])) (aK.mk 0 ([]))) m (n,a)).bL).aa)),.int .i64 (((gI (an.mk (aK.mk 0 ([])) (aK.mk 0 ([]))) m (n,a)).bQ).ax),.sl false false (((gI (an.mk (aK.mk 0 ([])) (aK.mk 0 ([]))) m (n,a)).bQ).aa).length (av (eI .i64) (((gI (an.mk (aK.mk 0 ([])) (aK.mk 0 ([]))) m (n,a)).bQ).aa))]:=KL (A:=(bV ak)) (an.mk (aK.mk 0 ([])) (aK.mk 0 ([]))) (n,a) m
def W9 {m:List ((Int×Int)×an)} {n a:Int} {d:Int} {b:(List Int)} {e:Int} {c:(List Int)} : D.mpc (AU (fE m) (n,some a)) (ER (fE m) (iu (bV ak) m) (n,some a) (.agg [.int .i64 d,.sl false false b.length (av (eI .i64) b),.int .i64 e,.sl false false c.length (av (eI .i64) c)]))=.mpc (fE (tD m (n,a) (an.mk (aK.mk d b) (aK.mk e c)))) (iu (bV ak) (tD m (n,a) (an.mk (aK.mk d b) (aK.mk e c)))):=by
 rw[<- Rq (n,a) (an.mk (aK.mk d b) (aK.mk e c)) m,<- Rs (n,a) (an.mk (aK.mk d b) (aK.mk e c)) m];rfl
def abw {e d:Nat} (a:d<1000000):mkA ⟨.struct [(3,0),(64,1)],2,32,[.int .i64 0,.slice none 0 0],false⟩ 66 e d 118 6 1=some ⟨.ptr d e 0,[(d,some ⟨e,66,[.nr 118 6 (4*e+2) [.int .i64 0,.nx 0 []]],false,false,true⟩)]⟩:=by
 unfold mkA;rw[if_pos ⟨by decide,rfl,rfl,by rw[dx];exact a,rfl⟩];rfl
def vmm:=ai @abq<|ai @abF<|ai @abB<|ai @V2<|ai @W9<|@vi
def w:=ai @v<|ai @vmt<|ai @vme<|ai @vml<|ai @vab<|ai @vn<|ai @abw<|@vmm
def bP:=ai @vme<|ai @alh<|ai @ak6<|ai @akz<|ai @alj<|@akO
def gz (l:Option (D×Row)) (d:List D):=er (dN (ko (eI .i64))) (fun x:(List Int)=>fD x) (fun r:(List Int) =>.clean (.sl false false r.length (av (eI .i64) r))) l d
def sh0 {β:Type} {F:(List Int)->Option β} {R:β->RK} (a:(List Int)):er (dN (ko (eI .i64))) F R none [.sl false false a.length (av (eI .i64) a)]=(F (a)).map fun r=>(R r,none):=cK _ _ _ (a)
def q8:cr prog 155 gz:=cr.jl (mode := .clean) tok bY.none mixed func155 (by kernel_rfl) (fun _ _=>rfl) (fun _=>by kernel_rfl) fun i r a=>by
 replace a:fD i=some r:=a;apply aL rfl ntmps155 results155;simp only[jo];unfold fD at a;simp only[w,seval];obtain⟨v,j,a⟩:=ae a;refine aB (fun s t H e=>match s with|f=>t 0=sI i∧t 3=sN f) (fun o x t H e=>match o with|b=>x=.exit 0∧t 0=sI i∧t 3=sN b) j ?_ ?_ ?_
 ·refine⟨?_,?_⟩;all_goals (rfl)
 ·rintro f t H e d c a;simp only[qM]at a;simp only[w,seval,d];apply sp fM a<;>intro _ a
  ·obtain⟨A,k,a⟩:=ae a;have g:=bn (eI .i64) k;simp only[bP]at g;simp only[w,seval,d,g];apply sp ay a<;>intro _ a
   ·cases a;simp only[w,seval,d];apply iQ;and_intros<;>first|rfl|(simp only[w,seval,d]<;>rfl)
   ·cases a;simp only[w,seval];apply j9;refine⟨rfl,⟨?_,?_⟩⟩;all_goals ((simp only[w,seval,d]<;>rfl))
  ·cases a;simp only[w,seval];apply j9;refine⟨rfl,⟨?_,?_⟩⟩;all_goals ((simp only[w,seval,d]<;>rfl))
 ·rintro x t H e u;obtain⟨b,rfl⟩:∃z,z=v:=⟨_,rfl⟩;dsimp only at u a;obtain⟨rfl,l⟩:=u;obtain⟨B,m,a⟩:=ae a;obtain⟨n,y,p,q,h⟩:=T8 (eI .i64) m;simp only[bP]at h;cases a;simp only[w,seval,l,n,p,q,h]
def vK:=mkE 3 (eI .i64) (as0) (fun (l:(List Int)) (x:Unit)=>fD l)
def Nj (b a:List D) (c:(List Int)):vK (some (.buf 0 0 1 b.length c.length,⟨0,3,b++(av (eI .i64) c++a),false,true,false⟩)) []=(fD c).map fun r=>(.fresh 3 1 r.length (av (eI .i64) r),none):=abx _ _ _ _ b a c ()
def MT (b a:List D) (i:(List Int)) (r:(List Int)) (d:fD i=some r):kM (.fresh 3 1) tab bs FU Tryz.f155 (some (.buf 0 0 1 b.length i.length,⟨0,3,b++(av (eI .i64) i++a),false,true,false⟩)) []=some (.fresh 3 1 r.length (av (eI .i64) r),none):=by
 apply Iq rfl ntmps155 results155;unfold fD at d;simp only[w,seval];obtain⟨F,q,d⟩:=ae d;refine aB (fun s t H e=>match s with|k=>∃f:Nat,t 0=.buf 0 f 1 b.length (i).length∧t 3=sN k∧H 0=rW f 3 (b++(av (eI .i64) i++a))) (fun o x t H e=>match o with|h=>x=.exit 0∧∃g:Nat,t 0=.buf 0 g 1 b.length (i).length∧t 3=sN h∧H 0=rW g 3 (b++(av (eI .i64) i++a))) q ?_ ?_ ?_
 ·refine⟨0,?_,?_,?_⟩;all_goals (rfl)
 ·rintro k t H e ⟨f,j⟩ c d;simp only[qM]at d;simp only[w,seval,j];apply sp fM d<;>intro _ d
  ·obtain⟨I,u,d⟩:=ae d;have l:=P0 (pre:=b) (post:=a) (eI .i64) u;simp only[bP]at l;simp only[w,seval,j,l];apply sp ay d<;>intro _ d
   ·cases d;simp only[w,seval,j];apply iQ;refine⟨f,?_⟩;and_intros<;>first|rfl|(simp only[w,seval,j]<;>rfl)
   ·cases d;simp only[w,seval];apply j9;refine⟨rfl,⟨f,?_,?_,?_⟩⟩;all_goals ((simp only[w,seval,j]<;>rfl))
  ·cases d;simp only[w,seval];apply j9;refine⟨rfl,⟨f,?_,?_,?_⟩⟩;all_goals ((simp only[w,seval,j]<;>rfl))
 ·rintro x t H e E;obtain⟨h,rfl⟩:∃z,z=F:=⟨_,rfl⟩;dsimp only at E d;obtain⟨rfl,⟨g,v⟩⟩:=E;obtain⟨J,m,d⟩:=ae d;obtain⟨y,G,A,B,C⟩:=T8 (eI .i64) m;simp only[bP]at C;obtain⟨n,p⟩:=ad8 (pre:=b) (post:=a) (eI .i64) m;simp only[bP]at n p;cases d;simp only[w,seval,v,y,A,n,p,B]
def IX:cr prog 155 vK:=cr.ag5 tok bY.none mixed func155 (by kernel_rfl) ⟨by kernel_rfl,by kernel_rfl⟩ (fun _=>ak7 (by kernel_rfl)) (fun b a l x r h=>MT b a l r h)
def cJ (l:Option (D×Row)) (d:List D):=er (gG (aI .i64) (dN (ko (eI .i64)))) (fun x:Int×(List Int)=>ec x.1 x.2) (fun r:aK =>.clean (.agg [.int .i64 r.ax,.sl false false r.aa.length (av (eI .i64) r.aa)])) l d
def Y8 {β:Type} {F:Int×(List Int)->Option β} {R:β->RK} (b:Int) (a:(List Int)):er (gG (aI .i64) (dN (ko (eI .i64)))) F R none [.int .i64 b,.sl false false a.length (av (eI .i64) a)]=(F (b,a)).map fun r=>(R r,none):=cK _ _ _ (b,a)
def wk:Env:=(Am.ext bs 155 false gz)
def IK:bY prog wk:=(bY.none.add q8 false)
def wT:=ai @w<|ai @sh0<|ai @gz.eq_1<|@wk.eq_1
def kT:cr prog 113 cJ:=cr.jl (mode := .clean) tok IK mixed func113 (by kernel_rfl) (fun _ _=>rfl) (fun _=>by kernel_rfl) fun⟨c,d⟩ r a=>by
 replace a:ec c d=some r:=a;apply aL rfl ntmps113 results113;simp only[jo];unfold ec at a;obtain⟨e,b,a⟩:=ae a;simp only[wT,seval,b];apply sp ay a<;>intro _ a
 ·cases a;simp only[wT,seval]
 ·cases a;simp only[wT,seval]
def sH (l:Option (D×Row)) (d:List D):=er (dN (aI .i64)) (fun x:Int=>vX x) (fun r:aK =>.clean (.agg [.int .i64 r.ax,.sl false false r.aa.length (av (eI .i64) r.aa)])) l d
def E7 {β:Type} {F:Int->Option β} {R:β->RK} (a:Int):er (dN (aI .i64)) F R none [.int .i64 a]=(F (a)).map fun r=>(R r,none):=cK _ _ _ (a)
def Gu:Env:=(Am.ext bs 113 false cJ)
def XT:bY prog Gu:=(bY.none.add kT false)
def kN:=ai @w<|ai @Y8<|ai @cJ.eq_1<|@Gu.eq_1
def K9:cr prog 61 sH:=cr.jl (mode := .clean) tok XT mixed func61 (by kernel_rfl) (fun _ _=>rfl) (fun _=>by kernel_rfl) fun I r a=>by
 replace a:vX I=some r:=a;apply aL rfl ntmps61 results61;simp only[jo];unfold vX at a;simp only[kN,seval,-Int.reduceToNat];obtain⟨J,A,a⟩:=ae a;refine rp 0 (fun s t H e=>match s with|(b,k)=>∃d:Nat,t 2=.ptr 2 d 0∧t 3=sN b∧t 4=.int .u64 k∧H 2=rV d 39 [sN 0,.sl true true 0 []]) (fun s=>s=J) ?_ ?_
 ·rintro⟨b,k⟩ t H e ⟨d,B⟩ rfl;try dsimp only at a
  simp only[kN,seval,-Int.reduceToNat];obtain⟨K,C,a⟩:=ae a;refine aB (fun s t H e=>match s with|(n,m)=>∃f:Nat,∃j:Nat,t 2=.ptr 2 f 0∧t 3=sN b∧t 4=.int .u64 n∧t 5=.buf 5 j 1 0 (m).length∧H 2=rV f 39 [sN 0,.sl true true 0 []]∧H 5=rW j 3 (av (eI .i64) m)) (fun o x t H e=>match o with|g=>x=.exit 0∧∃h:Nat,∃i:Nat,t 2=.ptr 2 h 0∧t 3=sN b∧t 5=.buf 5 i 1 0 (g).length∧H 2=rV h 39 [sN 0,.sl true true 0 []]∧H 5=rW i 3 (av (eI .i64) g)) C ?_ ?_ ?_
  ·refine⟨d,e,?_⟩;and_intros<;>first|rfl|(simp only[kN,seval,-Int.reduceToNat,B]<;>rfl)
  ·rintro⟨n,m⟩ t H e ⟨f,j,y⟩ c a;simp only[y9]at a;simp only[kN,seval,-Int.reduceToNat,y];apply sp ay a<;>intro _ a
   ·obtain⟨N,D,a⟩:=ae a;obtain⟨p,l,q,u⟩:=lj (eI .i64) D;simp only[bP]at l;obtain⟨L,v,a⟩:=ae a;have E:=wP v;cases a;simp only[kN,seval,-Int.reduceToNat,y,p,l,q,u,E];apply iQ;refine⟨f,e+1,?_⟩;and_intros<;>first|rfl|(simp only[kN,seval,-Int.reduceToNat,y]<;>rfl)
   ·cases a;simp only[kN,seval,-Int.reduceToNat];apply j9;refine⟨rfl,⟨f,j,?_,?_,?_,?_,?_⟩⟩;all_goals ((simp only[kN,seval,-Int.reduceToNat,y]<;>rfl))
  ·rintro x t H e G;obtain⟨g,rfl⟩:∃z,z=K:=⟨_,rfl⟩;dsimp only at G a;obtain⟨rfl,⟨h,i,F⟩⟩:=G;obtain⟨M,w,a⟩:=ae a;cases a;simp only[kN,seval,-Int.reduceToNat,F,w]
 ·clear a;have a:=A;simp only[kN,seval,-Int.reduceToNat];apply sp ay a<;>intro _ a
  ·cases a;simp only[kN,seval,-Int.reduceToNat];rw[aD];refine⟨_,rfl,?_⟩;refine⟨0,?_,?_,?_,?_⟩;all_goals (rfl)
  ·cases a;simp only[kN,seval,-Int.reduceToNat];rw[aD];refine⟨_,rfl,?_⟩;refine⟨0,?_,?_,?_,?_⟩;all_goals (rfl)
def bW (l:Option (D×Row)) (d:List D):=er (dN (bV jc)) (fun x:aK=>dF x) (fun r:Bool =>.clean (.bool r)) l d
def Iw {β:Type} {F:aK->Option β} {R:β->RK} (b:Int) (a:(List Int)):er (dN (bV jc)) F R none [.agg [.int .i64 b,.sl false false a.length (av (eI .i64) a)]]=(F ((aK.mk b a))).map fun r=>(R r,none):=cK _ _ _ ((aK.mk b a))
def iw:cr prog 103 bW:=cr.jl (mode := .clean) tok bY.none mixed func103 (by kernel_rfl) (fun _ _=>rfl) (fun _=>by kernel_rfl) fun g r a=>by
 replace a:dF g=some r:=a;apply aL rfl ntmps103 results103;simp only[jo];unfold dF at a;simp only[w,seval];obtain⟨v,q,a⟩:=ae a;refine aB (fun s t H e=>match s with|h=>∃d:Nat,t 1=.ptr 1 d 0∧t 3=sN (g.aa.length:Int)∧t 10=sI g.aa∧t 11=sN (g.aa.length:Int)∧t 12=sN h∧H 1=rV d 39 [sN g.ax,sI g.aa]) (fun o x t H e=>match o with|(.inl _)=>x=.exit 0∧∃f:Nat,t 1=.ptr 1 f 0∧t 3=sN (g.aa.length:Int)∧H 1=rV f 39 [sN g.ax,sI g.aa]|(.inr r)=>x=.ret∧gu .clean tab none [.tmp 2] ⟨t,EH H,e⟩=some (.clean (.bool r),none)) q ?_ ?_ ?_
 ·refine⟨0,?_,?_,?_,?_,?_,?_⟩;all_goals (rfl)
 ·rintro h t H e ⟨d,k⟩ c a;simp only[rZ]at a;simp only[w,seval,k];apply sp ay a<;>intro _ a
  ·obtain⟨B,u,a⟩:=ae a;have l:=bn (eI .i64) u;simp only[bP]at l;simp only[w,seval,k,l];apply sp bU a<;>intro _ a
   ·cases a;simp only[w,seval];refine si ⟨rfl,?_⟩;simp only[w,seval]
   ·simp only[w,seval];apply sp ay a<;>intro _ a
    ·cases a;simp only[w,seval];refine si ⟨rfl,?_⟩;simp only[w,seval]
    ·cases a;simp only[w,seval,k];apply iQ;refine⟨d,?_⟩;and_intros<;>first|rfl|(simp only[w,seval,k]<;>rfl)
  ·cases a;simp only[w,seval];apply j9;refine⟨rfl,⟨d,?_,?_,?_⟩⟩;all_goals ((simp only[w,seval,k]<;>rfl))
 ·rintro x t H e p;rcases v with _|C
  ·dsimp only at p a;obtain⟨rfl,⟨f,b⟩⟩:=p;simp only[w,seval,b];apply sp ay a<;>intro _ a
   ·cases a;simp only[w,seval,b]
   ·simp only[w,seval,b];apply sp bU a<;>intro _ a
    ·obtain⟨y,m,a⟩:=ae a;have i:=bn (eI .i64) m;simp only[bP]at i;cases a;simp only[w,seval,b,i]
    ·simp only[w,seval,b];apply sp fM a<;>intro _ a
     ·obtain⟨z,n,a⟩:=ae a;have j:=bn (eI .i64) n;simp only[bP]at j;cases a;simp only[w,seval,b,j]
     ·cases a;simp only[w,seval]
  ·dsimp only at p a;obtain⟨rfl,A⟩:=p;cases a;simp only[a8,bf,cB,cL];exact A
def zH (r:(List Int)) (a:cc []=some r):kM (.fresh 3 1) tab bs FU Tryz.f55 none [.sl true true 0 []]=some (.fresh 3 1 r.length (av (eI .i64) r),none):=by
 unfold cc at a;obtain⟨b,c,d⟩:=y5 a;subst b;apply aL rfl ntmps55 results55;simp only[w,seval,alC]
def zI (r:(List Int)) (a:cc []=some r):kM (.fresh 3 1) tab bs FU Tryz.f55 none [.sl true false 0 []]=some (.fresh 3 1 r.length (av (eI .i64) r),none):=by
 unfold cc at a;obtain⟨b,c,d⟩:=y5 a;subst b;apply aL rfl ntmps55 results55;simp only[w,seval,alC]
def zJ (a r:(List Int)) (c:0<a.length) (b:cc a=some r):kM (.fresh 3 1) tab bs FU Tryz.f55 none [.sl false false a.length (av (eI .i64) a)]=some (.fresh 3 1 r.length (av (eI .i64) r),none):=by
 unfold cc at b;have g:¬a.length=0:=by omega
 obtain⟨d,e,f⟩:=y5 b;subst d;apply aL rfl ntmps55 results55;simp only[w,seval,c,e,f]
def fW:=er (dN (ko (eI .i64))) (fun x:(List Int)=>cc x) (fun r:(List Int) =>.fresh 3 1 r.length (av (eI .i64) r))
def dD (a:(List Int)):fW none [.sl false false a.length (av (eI .i64) a)]=(cc a).map fun r:(List Int)=>(.fresh 3 1 r.length (av (eI .i64) r),none):=cK _ _ _ a
def iR:cr prog 55 fW:=cr.aeY (mode:=(.fresh 3 1)) tok bY.none mixed func55 (by kernel_rfl) ⟨by kernel_rfl,by kernel_rfl⟩ (ak7 (by kernel_rfl)) zH zI zJ
def pO (l:Option (D×Row)) (d:List D):=er (dN (bV jc)) (fun x:aK=>rY x) (fun r:aK =>.clean (.agg [.int .i64 r.ax,.sl false false r.aa.length (av (eI .i64) r.aa)])) l d
def CF:Env:=(Am.ext (Am.ext (Am.ext bs 55 false fW) 103 false bW) 113 false cJ)
def Tt:bY prog CF:=(((bY.none.add iR false).add iw false).add kT false)
def Dz:=ai @w<|ai @dD<|ai @Iw<|ai @bW.eq_1<|ai @Y8<|ai @cJ.eq_1<|@CF.eq_1
def Ho:cr prog 71 pO:=cr.jl (mode := .clean) tok Tt mixed func71 (by kernel_rfl) (fun _ _=>rfl) (fun _=>by kernel_rfl) fun e r a=>by
 replace a:rY e=some r:=a;apply aL rfl ntmps71 results71;simp only[jo];unfold rY at a;obtain⟨f,b,a⟩:=ae a;simp only[Dz,seval,b];apply sp ay a<;>intro _ a
 ·cases a;simp only[Dz,seval]
 ·obtain⟨g,c,a⟩:=ae a;obtain⟨h,d,a⟩:=ae a;simp only[Dz,seval,c,d];refine bN (by kernel_rfl) ?_;cases a;simp only[seval]
def mV (l:Option (D×Row)) (d:List D):=er (gG aew (dN (bV jc))) (fun x:Bool×aK=>fC x.1 x.2) (fun r:aK×Int =>.clean (.tup [.agg [.int .i64 r.1.ax,.sl false false r.1.aa.length (av (eI .i64) r.1.aa)],.int .i64 r.2])) l d
def tx:cr prog 114 mV:=cr.jl (mode := .clean) tok bY.none mixed func114 (by kernel_rfl) (fun _ _=>rfl) (fun _=>by kernel_rfl) fun⟨b,c⟩ r a=>by
 replace a:fC b c=some r:=a;apply aL rfl ntmps114 results114;simp only[jo];unfold fC at a;simp only[w,seval];apply sp ay a<;>intro _ a
 ·cases a;simp only[w,seval]
 ·cases a;simp only[w,seval]
def tT (l:Option (D×Row)) (d:List D):=er (dN (aI .i64)) (fun x:Int=>sw x) (fun r:Bool =>.clean (.bool r)) l d
def M5:cr prog 153 tT:=cr.jl (mode := .clean) tok bY.none mixed func153 (by kernel_rfl) (fun _ _=>rfl) (fun _=>by kernel_rfl) fun b r a=>by
 replace a:sw b=some r:=a;apply aL rfl ntmps153 results153;simp only[jo];unfold sw at a;cases a;simp only[w,seval]
def dX (l:Option (D×Row)) (d:List D):=er (gG (aI .i64) (dN (aI .i64))) (fun x:Int×Int=>gT x.1 x.2) (fun r:Int =>.clean (.int .i64 r)) l d
def NY {β:Type} {F:Int×Int->Option β} {R:β->RK} (a:Int) (b:Int):er (gG (aI .i64) (dN (aI .i64))) F R none [.int .i64 a,.int .i64 b]=(F (a,b)).map fun r=>(R r,none):=cK _ _ _ (a,b)
def uN:Env:=(Am.ext bs 153 false tT)
def GC:bY prog uN:=(bY.none.add M5 false)
def fj:=ai @w<|ai @E7<|ai @tT.eq_1<|@uN.eq_1
def pk:cr prog 110 dX:=cr.jl (mode := .clean) tok GC mixed func110 (by kernel_rfl) (fun _ _=>rfl) (fun _=>by kernel_rfl) fun⟨d,e⟩ r a=>by
 replace a:gT d e=some r:=a;apply aL rfl ntmps110 results110;simp only[jo];unfold gT at a;obtain⟨f,b,a⟩:=ae a;obtain⟨g,c,a⟩:=ae a;simp only[fj,seval,b,c];apply sp ay a<;>intro _ a
 ·simp only[fj,seval];apply sp ay a<;>intro _ a
  ·cases a;simp only[fj,seval]
  ·cases a;simp only[fj,seval]
 ·simp only[fj,seval];apply sp ay a<;>intro _ a
  ·cases a;simp only[fj,seval]
  ·simp only[fj,seval];apply sp ay a<;>intro _ a
   ·cases a;simp only[fj,seval]
   ·simp only[fj,seval];apply sp ay a<;>intro _ a
    ·cases a;simp only[fj,seval]
    ·cases a;simp only[fj,seval]
def fS (l:Option (D×Row)) (d:List D):=er (gG (ko (eI .i64)) (dN (ko (eI .i64)))) (fun x:(List Int)×(List Int)=>iz x.1 x.2) (fun r:Int =>.clean (.int .i64 r)) l d
def Wz {β:Type} {F:(List Int)×(List Int)->Option β} {R:β->RK} (a:(List Int)) (b:(List Int)):er (gG (ko (eI .i64)) (dN (ko (eI .i64)))) F R none [.sl false false a.length (av (eI .i64) a),.sl false false b.length (av (eI .i64) b)]=(F (a,b)).map fun r=>(R r,none):=cK _ _ _ (a,b)
def uJ:Env:=(Am.ext bs 110 false dX)
def Gy:bY prog uJ:=(bY.none.add pk false)
def fi:=ai @w<|ai @NY<|ai @dX.eq_1<|@uJ.eq_1
def tz:cr prog 111 fS:=cr.jl (mode := .clean) tok Gy mixed func111 (by kernel_rfl) (fun _ _=>rfl) (fun _=>by kernel_rfl) fun⟨n,p⟩ r a=>by
 replace a:iz n p=some r:=a;apply aL rfl ntmps111 results111;simp only[jo];unfold iz at a;simp only[fi,seval];apply sp ay a<;>intro _ a
 ·obtain⟨z,l,a⟩:=ae a;cases a;simp only[fi,seval,l]
 ·simp only[fi,seval];obtain⟨q,m,a⟩:=ae a;refine aB (fun s t H e=>match s with|h=>t 0=sI n∧t 1=sI p∧t 5=sN h) (fun o x t H e=>match o with|(.inl _)=>x=.exit 0|(.inr r)=>x=.ret∧gu .clean tab none [.tmp 4] ⟨t,EH H,e⟩=some (.clean (.int .i64 r),none)) m ?_ ?_ ?_
  ·refine⟨?_,?_,?_⟩;all_goals (rfl)
  ·rintro h t H e i c a;simp only[oR]at a;simp only[fi,seval,i];apply sp ay a<;>intro _ a
   ·obtain⟨u,f,a⟩:=ae a;have b:=bn (eI .i64) f;simp only[bP]at b;obtain⟨v,g,a⟩:=ae a;have d:=bn (eI .i64) g;simp only[bP]at d;simp only[fi,seval,i,b,d];refine bN (by kernel_rfl) ?_;apply sp ay a<;>intro _ a
    ·have b:=bn (eI .i64) f;simp only[bP]at b;have d:=bn (eI .i64) g;simp only[bP]at d;obtain⟨w,j,a⟩:=ae a;simp only[fi,seval,i,b,d,j];refine bN (by kernel_rfl) ?_;cases a;refine si ⟨rfl,?_⟩;simp only[fi,seval]
    ·cases a;simp only[fi,seval,i];apply iQ;and_intros<;>first|rfl|(simp only[fi,seval,i]<;>rfl)
   ·cases a;simp only[fi,seval];apply j9;exact rfl
  ·rintro x t H e k;rcases q with _|A
   ·dsimp only at k a;subst k;cases a;simp only[fi,seval]
   ·dsimp only at k a;obtain⟨rfl,y⟩:=k;cases a;simp only[a8,bf,cB,cL];exact y
def tS (l:Option (D×Row)) (d:List D):=er (gG (ko (eI .i64)) (dN (aI .i64))) (fun x:(List Int)×Int=>pV x.1 x.2) (fun r:(List Int)×Int =>.clean (.tup [.sl false false r.1.length (av (eI .i64) r.1),.int .i64 r.2])) l d
def sh7 {β:Type} {F:(List Int)×Int->Option β} {R:β->RK} (a:(List Int)) (b:Int):er (gG (ko (eI .i64)) (dN (aI .i64))) F R none [.sl false false a.length (av (eI .i64) a),.int .i64 b]=(F (a,b)).map fun r=>(R r,none):=cK _ _ _ (a,b)
def yh:Env:=(Am.ext bs 155 false gz)
def ME:bY prog yh:=(bY.none.add q8 false)
def lV:=ai @w<|ai @sh0<|ai @gz.eq_1<|@yh.eq_1
def M4:cr prog 183 tS:=cr.jl (mode := .clean) tok ME mixed func183 (by kernel_rfl) (fun _ _=>rfl) (fun _=>by kernel_rfl) fun⟨O,P⟩ r a=>by
 replace a:pV O P=some r:=a;apply aL rfl ntmps183 results183;simp only[jo];unfold pV at a;obtain⟨W,D,a⟩:=ae a;obtain⟨E,F,G,m,I⟩:=mk_one (eI .i64) D;simp only[bP]at m;simp only[lV,seval,-Int.reduceToNat,E,F,G,m,I];obtain⟨J,n,a⟩:=ae a;refine aB (fun s t H e=>match s with|(p,q,l)=>∃b:Nat,t 0=sI O∧t 1=sN P∧t 6=.buf 6 b 1 0 (l).length∧t 7=sN p∧t 8=sN q∧H 6=rW b 3 (av (eI .i64) l)) (fun o x t H e=>match o with|(g,d)=>x=.exit 0∧∃f:Nat,t 6=.buf 6 f 1 0 (d).length∧t 7=sN g∧H 6=rW f 3 (av (eI .i64) d)) n ?_ ?_ ?_
 ·refine⟨1,?_,?_,?_,?_,?_,?_⟩;all_goals (rfl)
 ·rintro⟨p,q,l⟩ t H e ⟨b,C⟩ c a;simp only[sb]at a;simp only[lV,seval,-Int.reduceToNat,C];apply sp ay a<;>intro _ a
  ·obtain⟨R,u,a⟩:=ae a;have K:=E8 u;obtain⟨S,v,a⟩:=ae a;have h:=bn (eI .i64) v;simp only[bP]at h;obtain⟨w,y,a⟩:=ae a;have L:=Vl y;obtain⟨T,i,a⟩:=ae a;have j:=bn (eI .i64) i;simp only[bP]at j;have z:=fL (eI .i64) (x':=w) (fo:=0) (cs:=[.int .i64 w]) i rfl (ak7 rfl);simp only[bP,Nat.add_zero]at z;have k:=z;simp only[putCells,List.length_cons,List.length_nil,akw]at k;obtain⟨U,A,a⟩:=ae a;have M:=Wc A;cases a;simp only[lV,seval,-Int.reduceToNat,C,K,h,L,j,k,M];apply iQ;refine⟨b,?_⟩;and_intros<;>first|rfl|(simp only[lV,seval,-Int.reduceToNat,C]<;>rfl)
  ·cases a;simp only[lV,seval,-Int.reduceToNat];apply j9;refine⟨rfl,⟨b,?_,?_,?_⟩⟩;all_goals ((simp only[lV,seval,-Int.reduceToNat,C]<;>rfl))
 ·rintro x t H e Q;rcases J with⟨g,d⟩;dsimp only at Q a;obtain⟨rfl,⟨f,N⟩⟩:=Q;obtain⟨V,B,a⟩:=ae a;cases a;simp only[lV,seval,-Int.reduceToNat,N,B]
def su (l:Option (D×Row)) (d:List D):=er (gG (ko (eI .i64)) (dN (ko (eI .i64)))) (fun x:(List Int)×(List Int)=>sa x.1 x.2) (fun r:(List Int) =>.fresh 3 1 r.length (av (eI .i64) r)) l d
def CI:Env:=(Am.ext bs 155 true vK)
def Tw:bY prog CI:=(bY.none.add IX true)
def ig:=ai @w<|@CI.eq_1
def Hr:cr prog 154 su:=cr.jl (mode:=(.fresh 3 1)) tok Tw mixed func154 (by kernel_rfl) (fun _ _=>rfl) (fun _=>by kernel_rfl) fun⟨B,F⟩ r a=>by
 replace a:sa B F=some r:=a;apply aL rfl ntmps154 results154;simp only[jo];unfold sa at a;obtain⟨x1,Y,a⟩:=ae a;obtain⟨Z,aa,ab,G,ad⟩:=mk_one (eI .i64) Y;simp only[bP]at G;simp only[ig,seval,-Int.reduceToNat,Z,aa,ab,G,ad];obtain⟨ag,I,a⟩:=ae a;refine aB (fun s t H e=>match s with|(b,C)=>∃j:Nat,t 1=sI F∧t 5=.buf 5 j 1 0 (C).length∧t 18=sI B∧t 19=sN (B.length:Int)∧t 20=sN b∧H 5=rW j 3 (av (eI .i64) C)) (fun o x t H e=>match o with|d=>x=.exit 0∧∃k:Nat,t 5=.buf 5 k 1 0 (d).length∧H 5=rW k 3 (av (eI .i64) d)) I ?_ ?_ ?_
 ·refine⟨1,?_,?_,?_,?_,?_,?_⟩;all_goals (rfl)
 ·rintro⟨b,C⟩ t H e ⟨j,W⟩ c a;simp only[wa]at a;simp only[ig,seval,-Int.reduceToNat,W];apply sp ay a<;>intro _ a
  ·obtain⟨D,J,a⟩:=ae a;have u:=bn (eI .i64) J;simp only[bP]at u;simp only[ig,seval,-Int.reduceToNat,W,u];obtain⟨ah,K,a⟩:=ae a;refine aB (fun s t H e=>match s with|(q,v,E)=>∃l:Nat,t 1=sI F∧t 5=.buf 5 l 1 0 (E).length∧t 6=sN b∧t 7=sN D∧t 8=sN q∧t 18=sI B∧t 19=sN (B.length:Int)∧t 20=sN b∧t 25=sI F∧t 26=sN (F.length:Int)∧t 27=sN v∧H 5=rW l 3 (av (eI .i64) E)) (fun o x t H e=>match o with|(f,m)=>x=.exit 2∧∃g:Nat,t 1=sI F∧t 5=.buf 5 g 1 0 (m).length∧t 6=sN b∧t 8=sN f∧t 18=sI B∧t 19=sN (B.length:Int)∧t 20=sN b∧H 5=rW g 3 (av (eI .i64) m)) K ?_ ?_ ?_
   ·refine⟨j,?_⟩;and_intros<;>first|rfl|(simp only[ig,seval,-Int.reduceToNat,W]<;>rfl)
   ·rintro⟨q,v,E⟩ t H e ⟨l,X⟩ c a;simp only[wb]at a;simp only[ig,seval,-Int.reduceToNat,X];apply sp ay a<;>intro _ a
    ·obtain⟨L,M,a⟩:=ae a;have w:=bn (eI .i64) M;simp only[bP]at w;obtain⟨N,n,a⟩:=ae a;have h:=bn (eI .i64) n;simp only[bP]at h;obtain⟨ak,O,a⟩:=ae a;have ai:=wP O;have h:=bn (eI .i64) n;simp only[bP]at h;have P:=fL (eI .i64) (x':=mX .and .i64 (IntKind.i64.wrap ((IntKind.i64.wrap (N+(IntKind.i64.wrap (D*L))))+q)) 1048575) (fo:=0) (cs:=[.int .i64 (mX .and .i64 (IntKind.i64.wrap ((IntKind.i64.wrap (N+(IntKind.i64.wrap (D*L))))+q)) 1048575)]) n rfl (ak7 rfl);simp only[bP,Nat.add_zero]at P;have y:=P;simp only[putCells,List.length_cons,List.length_nil,akw]at y;cases a;simp only[ig,seval,-Int.reduceToNat,X,w,ai,h,y];apply iQ;refine⟨l,?_⟩;and_intros<;>first|rfl|(simp only[ig,seval,-Int.reduceToNat,X]<;>rfl)
    ·cases a;simp only[ig,seval,-Int.reduceToNat];apply j9;refine⟨rfl,⟨l,?_,?_,?_,?_,?_,?_,?_,?_⟩⟩;all_goals ((simp only[ig,seval,-Int.reduceToNat,X]<;>rfl))
   ·rintro x t H e Q;rcases ah with⟨f,m⟩;dsimp only at Q a;obtain⟨rfl,⟨g,R⟩⟩:=Q;obtain⟨S,p,a⟩:=ae a;have i:=bn (eI .i64) p;simp only[bP]at i;have i:=bn (eI .i64) p;simp only[bP]at i;have T:=fL (eI .i64) (x':=IntKind.i64.wrap (S+f)) (fo:=0) (cs:=[.int .i64 (IntKind.i64.wrap (S+f))]) p rfl (ak7 rfl);simp only[bP,Nat.add_zero]at T;have A:=T;simp only[putCells,List.length_cons,List.length_nil,akw]at A;cases a;simp only[ig,seval,-Int.reduceToNat,R,i,A];apply iQ;refine⟨g,?_⟩;and_intros<;>first|rfl|(simp only[ig,seval,-Int.reduceToNat,R]<;>rfl)
  ·cases a;simp only[ig,seval,-Int.reduceToNat];apply j9;refine⟨rfl,⟨j,?_,?_⟩⟩;all_goals ((simp only[ig,seval,-Int.reduceToNat,W]<;>rfl))
 ·rintro x t H e Q;obtain⟨d,rfl⟩:∃z,z=ag:=⟨_,rfl⟩;dsimp only at Q a;obtain⟨rfl,⟨k,aj⟩⟩:=Q;have U:=Nj [] [] d;simp only[List.nil_append,alg,List.length_nil]at U;obtain⟨al,V,a⟩:=ae a;cases a;simp only[ig,seval,-Int.reduceToNat,aj,U,V]
def sJ:=mkW 3 (eI .i64) (gG (ko (eI .i64)) (dN (aI .i64))) (fun (l:(List Int)) (x:(List Int)×Int)=>im l x.1 x.2) (fun r:Int =>.clean (.int .i64 r))
def HL (b a:List D) (c:(List Int)) (d:(List Int)) (e:Int):sJ (some (.buf 0 0 1 b.length c.length,⟨0,3,b++(av (eI .i64) c++a),false,true,false⟩)) [.sl false false d.length (av (eI .i64) d),.int .i64 e]=(im c d e).map fun r=>(.clean (.int .i64 r.2),some ⟨0,3,b++(av (eI .i64) r.1++a),false,true,false⟩):=abA _ _ _ _ _ b a c (d,e)
def GZ (d a:List D) (L:(List Int)) (y:(List Int)) (A:Int) (r:(List Int)×(Int)) (b:im L y A=some r):kM .clean tab bs FU Tryz.f184 (some (.buf 0 0 1 d.length L.length,⟨0,3,d++(av (eI .i64) L++a),false,true,false⟩)) [.sl false false y.length (av (eI .i64) y),.int .i64 A]=some (.clean (.int .i64 r.2),some ⟨0,3,d++(av (eI .i64) r.1++a),false,true,false⟩):=by
 apply Iq rfl ntmps184 results184;unfold im at b;obtain⟨rw,Z,b⟩:=ae b;split at b;rotate_left
 ·cases b
 cases b;rename_i ak;replace b:=Z;unfold sS at b;simp only[w,seval,-Int.reduceToNat];obtain⟨o9,aa,b⟩:=ae b;refine aB (fun s t H e=>match s with|(M,j,l)=>t 0=.buf 0 0 1 d.length (l).length∧t 1=sI y∧t 2=sN A∧t 7=sN M∧t 13=sN ((L).length:Int)∧t 14=sN j∧H 0=rW 0 3 (d++(av (eI .i64) l++a))) (fun o x t H e=>match o with|(B,h)=>x=.exit 0∧t 0=.buf 0 0 1 d.length (h).length∧t 1=sI y∧t 2=sN A∧t 7=sN B∧H 0=rW 0 3 (d++(av (eI .i64) h++a))) aa ?_ ?_ ?_
 ·refine⟨?_,?_,?_,?_,?_,?_,?_⟩;all_goals (rfl)
 ·rintro⟨M,j,l⟩ t H e J c b;simp only[nC]at b;simp only[w,seval,-Int.reduceToNat,J];apply sp ay b<;>intro _ b
  ·obtain⟨al,m,b⟩:=ae b;have f:=P0 (pre:=d) (post:=a) (eI .i64) m;simp only[bP]at f;simp only[w,seval,-Int.reduceToNat,J,f];obtain⟨ab,N,b⟩:=ae b;refine rp 0 (fun s t H e=>match s with|n=>t 0=.buf 0 0 1 d.length (l).length∧t 1=sI y∧t 2=sN A∧t 8=sN j∧t 9=sN n∧t 13=sN ((L).length:Int)∧t 14=sN j∧H 0=rW 0 3 (d++(av (eI .i64) l++a))) (fun s=>s=ab) ?_ ?_
   ·rintro n t H e O rfl;try dsimp only at b
    have f:=P0 (pre:=d) (post:=a) (eI .i64) m;simp only[bP]at f;have P:=Rt (pre:=d) (post:=a) (eI .i64) (y':=mX .and .i64 n 1048575) m;simp only[bP]at P;have C:=P;simp only[putCells,List.length_cons,List.length_nil,akw]at C;obtain⟨ao,Q,b⟩:=ae b;have ad:=wP Q;cases b;simp only[w,seval,-Int.reduceToNat,O,f,C,ad];apply iQ;and_intros<;>first|rfl|(simp only[w,seval,-Int.reduceToNat,O]<;>rfl)
   ·clear b;have b:=N;simp only[w,seval,-Int.reduceToNat];apply sp ay b<;>intro _ b
    ·obtain⟨aq,R,b⟩:=ae b;have E:=bn (eI .i64) R;simp only[bP]at E;cases b;simp only[w,seval,-Int.reduceToNat,J,f,E];rw[aD];refine⟨_,rfl,?_⟩;and_intros<;>first|rfl|(simp only[w,seval,-Int.reduceToNat,J]<;>rfl)
    ·cases b;simp only[w,seval,-Int.reduceToNat];rw[aD];refine⟨_,rfl,?_⟩;and_intros<;>first|rfl|(simp only[w,seval,-Int.reduceToNat,J]<;>rfl)
  ·cases b;simp only[w,seval,-Int.reduceToNat];apply j9;refine⟨rfl,⟨?_,?_,?_,?_,?_⟩⟩;all_goals ((simp only[w,seval,-Int.reduceToNat,J]<;>rfl))
 ·rintro x t H e S;rcases o9 with⟨B,h⟩;dsimp only at S b;obtain⟨rfl,v⟩:=S;simp only[w,seval,-Int.reduceToNat,v];apply sp ay b<;>intro _ b
  ·cases b;simp only[w,seval,-Int.reduceToNat,v]
  ·simp only[w,seval,-Int.reduceToNat,v];obtain⟨ag,T,b⟩:=ae b;refine aB (fun s t H e=>match s with|(F,k,p)=>t 0=.buf 0 0 1 d.length (p).length∧t 1=sI y∧t 2=sN A∧t 10=sN F∧t 48=sN ((h).length:Int)∧t 49=sN k∧H 0=rW 0 3 (d++(av (eI .i64) p++a))) (fun o x t H e=>match o with|q=>x=.exit 2∧t 0=.buf 0 0 1 d.length (q).length∧t 2=sN A∧H 0=rW 0 3 (d++(av (eI .i64) q++a))) T ?_ ?_ ?_
   ·and_intros<;>first|rfl|(simp only[w,seval,-Int.reduceToNat,v]<;>rfl)
   ·rintro⟨F,k,p⟩ t H e K c b;simp only[nD]at b;simp only[w,seval,-Int.reduceToNat,K];apply sp ay b<;>intro _ b
    ·obtain⟨ar,u,b⟩:=ae b;have g:=P0 (pre:=d) (post:=a) (eI .i64) u;simp only[bP]at g;simp only[w,seval,-Int.reduceToNat,K,g];obtain⟨ah,U,b⟩:=ae b;refine rp 0 (fun s t H e=>match s with|i=>t 0=.buf 0 0 1 d.length (p).length∧t 1=sI y∧t 2=sN A∧t 10=sN i∧t 11=sN k∧t 48=sN ((h).length:Int)∧t 49=sN k∧H 0=rW 0 3 (d++(av (eI .i64) p++a))) (fun s=>s=ah) ?_ ?_
     ·rintro i t H e V rfl;try dsimp only at b
      have g:=P0 (pre:=d) (post:=a) (eI .i64) u;simp only[bP]at g;have W:=Rt (pre:=d) (post:=a) (eI .i64) (y':=mX .and .i64 i 1048575) u;simp only[bP]at W;have G:=W;simp only[putCells,List.length_cons,List.length_nil,akw]at G;obtain⟨au,X,b⟩:=ae b;have ai:=wP X;cases b;simp only[w,seval,-Int.reduceToNat,V,g,G,ai];apply iQ;and_intros<;>first|rfl|(simp only[w,seval,-Int.reduceToNat,V]<;>rfl)
     ·clear b;have b:=U;simp only[w,seval,-Int.reduceToNat];apply sp ay b<;>intro _ b
      ·obtain⟨aw,Y,b⟩:=ae b;have I:=bn (eI .i64) Y;simp only[bP]at I;cases b;simp only[w,seval,-Int.reduceToNat,K,g,I];rw[aD];refine⟨_,rfl,?_⟩;and_intros<;>first|rfl|(simp only[w,seval,-Int.reduceToNat,K]<;>rfl)
      ·cases b;simp only[w,seval,-Int.reduceToNat];rw[aD];refine⟨_,rfl,?_⟩;and_intros<;>first|rfl|(simp only[w,seval,-Int.reduceToNat,K]<;>rfl)
    ·cases b;simp only[w,seval,-Int.reduceToNat];apply j9;refine⟨rfl,⟨?_,?_,?_⟩⟩;all_goals ((simp only[w,seval,-Int.reduceToNat,K]<;>rfl))
   ·rintro x t H e S;obtain⟨q,rfl⟩:∃z,z=ag:=⟨_,rfl⟩;dsimp only at S b;obtain⟨rfl,aj⟩:=S;cases b;simp only[w,seval,-Int.reduceToNat,aj]
def EK:cr prog 184 sJ:=cr.ag6 (mode := .clean) tok bY.none mixed func184 (by kernel_rfl) ⟨by kernel_rfl,by kernel_rfl⟩ (fun _=>ak7 (by kernel_rfl)) (fun b a l x c r h=>GZ b a l x.1 x.2 (c,r) h)
def pP (l:Option (D×Row)) (d:List D):=er (gG (ko (eI .i64)) (dN (ko (eI .i64)))) (fun x:(List Int)×(List Int)=>vY x.1 x.2) (fun r:(List Int)×(List Int) =>.clean (.tup [.sl false false r.1.length (av (eI .i64) r.1),.sl false false r.2.length (av (eI .i64) r.2)])) l d
def Lg (a:(List Int)) (b:(List Int)):su none [.sl false false a.length (av (eI .i64) a),.sl false false b.length (av (eI .i64) b)]=(sa a b).map fun r:(List Int)=>(.fresh 3 1 r.length (av (eI .i64) r),none):=cK _ _ _ (a,b)
def qo (a:(List Int)):gz none [.sl false false a.length (av (eI .i64) a)]=(fD a).map fun r:(List Int)=>(.clean (.sl false false r.length (av (eI .i64) r)),none):=cK _ _ _ (a)
def CH:Env:=(Am.ext (Am.ext (Am.ext (Am.ext (Am.ext (Am.ext bs 55 false fW) 111 false fS) 154 false su) 155 false gz) 183 false tS) 184 true sJ)
def Tv:bY prog CH:=((((((bY.none.add iR false).add tz false).add Hr false).add q8 false).add M4 false).add EK true)
def bI:=ai @w<|ai @dD<|ai @Wz<|ai @fS.eq_1<|ai @qo<|ai @sh7<|ai @tS.eq_1<|@CH.eq_1
def Hq:cr prog 147 pP:=cr.jl (mode := .clean) tok Tv mixed func147 (by kernel_rfl) (fun _ _=>rfl) (fun _=>by kernel_rfl) fun⟨p0,p1⟩ r a=>by
 replace a:vY p0 p1=some r:=a;apply aL rfl ntmps147 results147;simp only[jo];unfold vY at a;obtain⟨r1,bs,a⟩:=ae a;simp only[bI,seval,-Int.reduceToNat,bs];apply sp ay a<;>intro _ a
 ·obtain⟨r3,bt,a⟩:=ae a;cases a;simp only[bI,seval,-Int.reduceToNat,bt]
 ·simp only[bI,seval,-Int.reduceToNat];apply sp ay a<;>intro _ a
  ·obtain⟨x5,bu,a⟩:=ae a;have al:=bn (eI .i64) bu;simp only[bP]at al;obtain⟨r6,bw,a⟩:=ae a;have i7:=qo ([r6.2]);simp only[ck,bP,List.length_cons,akw]at i7;obtain⟨r8,bx,a⟩:=ae a;cases a;simp only[bI,seval,-Int.reduceToNat,al,bw,i7,bx]
  ·simp only[bI,seval,-Int.reduceToNat];obtain⟨bz,ao,a⟩:=ae a;refine aB (fun s t H e=>match s with|aq=>t 0=sI p0∧t 1=sI p1∧t 8=sN aq) (fun o x t H e=>match o with|d=>x=.exit 0∧t 0=sI p0∧t 1=sI p1∧t 8=sN d) ao ?_ ?_ ?_
   ·refine⟨?_,?_,?_⟩;all_goals (rfl)
   ·rintro aq t H e Za c a;simp only[vZ]at a;obtain⟨bL,ar,a⟩:=ae a;have U:=bn (eI .i64) ar;simp only[bP]at U;simp only[bI,seval,-Int.reduceToNat,Za,U];apply sp ay a<;>intro _ a
    ·cases a;simp only[bI,seval,-Int.reduceToNat,Za];apply iQ;and_intros<;>first|rfl|(simp only[bI,seval,-Int.reduceToNat,Za]<;>rfl)
    ·cases a;simp only[bI,seval,-Int.reduceToNat];apply j9;refine⟨rfl,⟨?_,?_,?_⟩⟩;all_goals ((simp only[bI,seval,-Int.reduceToNat,Za]<;>rfl))
   ·rintro x t H e V;obtain⟨d,rfl⟩:∃z,z=bz:=⟨_,rfl⟩;dsimp only at V a;obtain⟨rfl,ak⟩:=V;have au:=Lg p0 ([d]);simp only[ck,bP,List.length_cons,akw]at au;obtain⟨bM,aw,a⟩:=ae a;obtain⟨bO,ax,a⟩:=ae a;obtain⟨az,W,aA,aC⟩:=lj (eI .i64) ax;simp only[bP]at W;have aE:=Lg p1 ([d]);simp only[ck,bP,List.length_cons,akw]at aE;obtain⟨b,aF,a⟩:=ae a;simp only[bI,seval,-Int.reduceToNat,ak,au,aw,az,W,aA,aC,aE,aF];obtain⟨bA,aG,a⟩:=ae a;refine rp 0 (fun s t H e=>match s with|K=>∃E:Nat,∃n:Nat,t 8=sN d∧t 9=.buf 9 E 1 0 (K).length∧t 10=.buf 10 n 1 0 (b).length∧H 9=rW E 3 (av (eI .i64) K)∧H 10=rW n 3 (av (eI .i64) b)) (fun s=>s=bA) ?_ ?_
    ·rintro K t H e ⟨E,n,aH⟩ rfl;try dsimp only at a
     obtain⟨bQ,aI,a⟩:=ae a;obtain⟨aJ,aK,aM,X,aN⟩:=mk_one (eI .i64) aI;simp only[bP]at X;simp only[bI,seval,-Int.reduceToNat,aH,aJ,aK,aM,X,aN];obtain⟨bB,aO,a⟩:=ae a;refine aB (fun s t H e=>match s with|(g,h,f)=>∃L:Nat,∃F:Nat,∃v:Nat,∃M:Bool,t 8=sN d∧t 9=.buf 9 L 1 0 (h).length∧t 10=.buf 10 F 1 0 (b).length∧t 11=sN ((b).length:Int)∧t 12=.buf 12 v 1 0 (f).length∧t 13=sN g∧H 9=rW L 3 (av (eI .i64) h)∧H 10=some ⟨F,3,av (eI .i64) b,M,true,false⟩∧H 12=rW v 3 (av (eI .i64) f)) (fun o x t H e=>match o with|(N,B)=>x=.exit 2∧∃O:Nat,∃C:Nat,t 8=sN d∧t 9=.buf 9 O 1 0 (N).length∧t 12=.buf 12 C 1 0 (B).length∧H 9=rW O 3 (av (eI .i64) N)∧H 12=rW C 3 (av (eI .i64) B)) aO ?_ ?_ ?_
     ·refine⟨E,n,e+1,false,?_⟩;and_intros<;>first|rfl|(simp only[bI,seval,-Int.reduceToNat,aH]<;>rfl)
     ·rintro⟨g,h,f⟩ t H e ⟨L,F,v,M,Zc⟩ c a;simp only[v7]at a;simp only[bI,seval,-Int.reduceToNat,Zc];apply sp ay a<;>intro _ a
      ·obtain⟨bR,aP,a⟩:=ae a;have Y:=bn (eI .i64) aP;simp only[bP]at Y;obtain⟨bS,aQ,a⟩:=ae a;have aR:=E8 aQ;obtain⟨bT,aS,a⟩:=ae a;have Z:=bn (eI .i64) aS;simp only[bP]at Z;simp only[bI,seval,-Int.reduceToNat,Zc,Y,aR,Z];refine bN (by kernel_rfl) ?_;obtain⟨bU,P,a⟩:=ae a;have i:=bn (eI .i64) P;simp only[bP]at i;obtain⟨bV,aT,a⟩:=ae a;have bC:=Vl aT;have i:=bn (eI .i64) P;simp only[bP]at i;obtain⟨bW,aU,a⟩:=ae a;have bD:=Wc aU;simp only[bI,seval,-Int.reduceToNat,Zc,bC,i,bD];refine bN (by kernel_rfl) ?_;obtain⟨bE,aV,a⟩:=ae a;refine aB (fun s t H e=>match s with|(Q,R)=>∃J:Nat,∃l:Nat,∃m:Nat,∃w:Bool,t 8=sN d∧t 9=.buf 9 J 1 0 (h).length∧t 10=.buf 10 l 1 0 (b).length∧t 11=sN ((b).length:Int)∧t 12=.buf 12 m 1 0 (f).length∧t 13=sN g∧t 15=sN Q∧t 16=sN R∧H 9=rW J 3 (av (eI .i64) h)∧H 10=some ⟨l,3,av (eI .i64) b,w,true,false⟩∧H 12=rW m 3 (av (eI .i64) f)) (fun o x t H e=>match o with|D=>x=.exit 4∧∃G:Nat,∃p:Nat,∃q:Nat,∃S:Bool,t 8=sN d∧t 9=.buf 9 G 1 0 (h).length∧t 10=.buf 10 p 1 0 (b).length∧t 11=sN ((b).length:Int)∧t 12=.buf 12 q 1 0 (f).length∧t 13=sN g∧t 15=sN D∧H 9=rW G 3 (av (eI .i64) h)∧H 10=some ⟨p,3,av (eI .i64) b,S,true,false⟩∧H 12=rW q 3 (av (eI .i64) f)) aV ?_ ?_ ?_
       ·refine⟨L,F,v,M,?_⟩;and_intros<;>first|rfl|(simp only[bI,seval,-Int.reduceToNat,Zc]<;>rfl)
       ·rintro⟨Q,R⟩ t H e ⟨J,l,m,w,Zg⟩ c a;simp only[v8]at a;simp only[bI,seval,-Int.reduceToNat,Zg];obtain⟨bF,aW,a⟩:=ae a;refine acB 0 (fun s t H e=>match s with|I=>∃y:Nat,∃j:Nat,∃k:Nat,∃u:Bool,t 8=sN d∧t 9=.buf 9 y 1 0 (h).length∧t 10=.buf 10 j 1 0 (b).length∧t 11=sN ((b).length:Int)∧t 12=.buf 12 k 1 0 (f).length∧t 13=sN g∧t 15=sN Q∧t 16=sN R∧t 137=.bool I∧H 9=rW y 3 (av (eI .i64) h)∧H 10=some ⟨j,3,av (eI .i64) b,u,true,false⟩∧H 12=rW k 3 (av (eI .i64) f)) (fun s=>s=bF) ?_ ?_
        ·rintro I t H e ⟨y,j,k,u,T⟩ rfl;try dsimp only at a
         simp only[bI,seval,-Int.reduceToNat,T];apply sp ay a<;>intro _ a
         ·have i:=bn (eI .i64) P;simp only[bP]at i;cases a;simp only[bI,seval,-Int.reduceToNat,T,i];apply iQ;refine⟨y,j,k,u,?_⟩;and_intros<;>first|rfl|(simp only[bI,seval,-Int.reduceToNat,T]<;>rfl)
         ·cases a;simp only[bI,seval,-Int.reduceToNat];apply j9;refine⟨rfl,⟨y,j,k,u,?_,?_,?_,?_,?_,?_,?_,?_,?_,?_⟩⟩;all_goals ((simp only[bI,seval,-Int.reduceToNat,T]<;>rfl))
        ·clear a;have a:=aW;simp only[bI,seval,-Int.reduceToNat];apply sp yM a<;>intro _ a
         ·simp only[bI,seval,-Int.reduceToNat];refine bN (by kernel_rfl) ?_;cases a;rw[aD];refine⟨_,rfl,?_⟩;refine⟨J,l,m,w,?_⟩;and_intros<;>first|rfl|(simp only[bI,seval,-Int.reduceToNat,Zg]<;>rfl)
         ·simp only[bI,seval,-Int.reduceToNat,Zg];apply sp Fe a<;>intro _ a
          ·obtain⟨bX,aY,a⟩:=ae a;have aa:=bn (eI .i64) aY;simp only[bP]at aa;obtain⟨bY,aZ,a⟩:=ae a;have bG:=E8 aZ;obtain⟨bZ,a1,a⟩:=ae a;have ab:=bn (eI .i64) a1;simp only[bP]at ab;simp only[bI,seval,-Int.reduceToNat,aR,Zg,aa,bG,ab];refine bN (by kernel_rfl) ?_;cases a;rw[aD];refine⟨_,rfl,?_⟩;refine⟨J,l,m,w,?_⟩;and_intros<;>first|rfl|(simp only[bI,seval,-Int.reduceToNat,Zg]<;>rfl)
          ·simp only[bI,seval,-Int.reduceToNat];refine bN (by kernel_rfl) ?_;cases a;rw[aD];refine⟨_,rfl,?_⟩;refine⟨J,l,m,w,?_⟩;and_intros<;>first|rfl|(simp only[bI,seval,-Int.reduceToNat,Zg]<;>rfl)
       ·rintro x t H e V;obtain⟨D,rfl⟩:∃z,z=bE:=⟨_,rfl⟩;dsimp only at V a;obtain⟨rfl,⟨G,p,q,S,a6⟩⟩:=V;obtain⟨bH,A,a⟩:=ae a;obtain⟨a7,a8,ba,bK,bb⟩:=af6 (eI .i64) A;simp only[bP]at bb;have bc:=HL (av (eI .i64) (h.take (g).toNat)) (av (eI .i64) (h.drop (IntKind.i64.wrap ((IntKind.i64.wrap (g+((b).length:Int)))+1)).toNat)) bH b D;simp only[aek,ael (eI .i64) A,aem (eI .i64) A,afh A,bP]at bc;obtain⟨bd,ad,a⟩:=ae a;have bf:=CX ad;have bg:=acL A bf;obtain⟨b1,ag,a⟩:=ae a;have ah:=bn (eI .i64) ag;simp only[bP]at ah;have bh:=fL (eI .i64) (x':=bd.2) (fo:=0) (cs:=[.int .i64 bd.2]) ag rfl (ak7 rfl);simp only[bP,Nat.add_zero]at bh;have ai:=bh;simp only[putCells,List.length_cons,List.length_nil,akw]at ai;cases a;simp only[bI,seval,-Int.reduceToNat,a6,a7,a8,ba,bc,ad,ah,ai];apply iQ;refine⟨G,p,q,true,?_⟩;and_intros<;>first|rfl|(simp only[bI,seval,-Int.reduceToNat,a6,bg]<;>rfl)
      ·cases a;simp only[bI,seval,-Int.reduceToNat];apply j9;refine⟨rfl,⟨L,v,?_,?_,?_,?_,?_⟩⟩;all_goals ((simp only[bI,seval,-Int.reduceToNat,Zc]<;>rfl))
     ·rintro x t H e V;rcases bB with⟨N,B⟩;dsimp only at V a;obtain⟨rfl,⟨O,C,bJ⟩⟩:=V;obtain⟨b2,bk,a⟩:=ae a;obtain⟨b3,bl,a⟩:=ae a;obtain⟨b4,bm,a⟩:=ae a;cases a;simp only[bI,seval,-Int.reduceToNat,bJ,bk,bl,bm]
    ·clear a;have a:=aG;simp only[bI,seval,-Int.reduceToNat];apply sp ay a<;>intro _ a
     ·obtain⟨b5,bo,a⟩:=ae a;obtain⟨bp,aj,bq,br⟩:=lj (eI .i64) bo;simp only[bP]at aj;cases a;simp only[bI,seval,-Int.reduceToNat,bp,aj,bq,br];rw[aD];refine⟨_,rfl,?_⟩;refine⟨e+1+1,e,?_⟩;and_intros<;>first|rfl|(simp only[bI,seval,-Int.reduceToNat,ak]<;>rfl)
     ·cases a;simp only[bI,seval,-Int.reduceToNat];rw[aD];refine⟨_,rfl,?_⟩;refine⟨e,e,?_⟩;and_intros<;>first|rfl|(simp only[bI,seval,-Int.reduceToNat,ak]<;>rfl)
def pN (l:Option (D×Row)) (d:List D):=er (gG (bV jc) (dN (bV jc))) (fun x:aK×aK=>tY x.1 x.2) (fun r:aK×Int =>.clean (.tup [.agg [.int .i64 r.1.ax,.sl false false r.1.aa.length (av (eI .i64) r.1.aa)],.int .i64 r.2])) l d
def Lv {β:Type} {F:aK×aK->Option β} {R:β->RK} (c:Int) (a:(List Int)) (d:Int) (b:(List Int)):er (gG (bV jc) (dN (bV jc))) F R none [.agg [.int .i64 c,.sl false false a.length (av (eI .i64) a)],.agg [.int .i64 d,.sl false false b.length (av (eI .i64) b)]]=(F ((aK.mk c a),(aK.mk d b))).map fun r=>(R r,none):=cK _ _ _ ((aK.mk c a),(aK.mk d b))
def gO (c:Bool) (b:Int) (a:(List Int)):mV none [.bool c,.agg [.int .i64 b,.sl false false a.length (av (eI .i64) a)]]=(fC c (aK.mk b a)).map fun r:aK×Int=>(.clean (.tup [.agg [.int .i64 r.1.ax,.sl false false r.1.aa.length (av (eI .i64) r.1.aa)],.int .i64 r.2]),none):=cK _ _ _ (c,(aK.mk b a))
def CC:Env:=(Am.keep 6 (Am.ext (Am.ext (Am.ext (Am.ext (Am.ext bs 55 false fW) 103 false bW) 113 false cJ) 114 false mV) 147 false pP))
def Tq:bY prog CC:=(bY.keep (((((bY.none.add iR false).add iw false).add kT false).add tx false).add Hq false) 6)
def ie:=ai @w<|ai @dD<|ai @Iw<|ai @bW.eq_1<|ai @Y8<|ai @cJ.eq_1<|ai @gO<|ai @Wz<|ai @pP.eq_1<|@CC.eq_1
def Hn:cr prog 104 pN:=cr.jl (mode := .clean) tok Tq mixed func104 (by kernel_rfl) (fun _ _=>rfl) (fun _=>by kernel_rfl) fun⟨y,A⟩ r a=>by
 replace a:tY y A=some r:=a;apply aL rfl ntmps104 results104;simp only[jo];unfold tY at a;obtain⟨R,B,a⟩:=ae a;simp only[ie,seval,B];obtain⟨K,C,a⟩:=ae a;refine cV 0 (fun s t H e=>match s with|d=>∃f:Nat,∃g:Nat,∃b:Nat,t 2=.ptr 2 f 0∧t 3=.ptr 3 g 0∧t 4=.ptr 4 b 0∧t 17=.bool d∧H 2=rV f 39 [sN y.ax,sI y.aa]∧H 3=rV g 39 [sN A.ax,sI A.aa]∧H 4=rV b 39 [sN 0,.sl true true 0 []]) (fun s=>s=K) ?_ ?_
 ·rintro d t H e ⟨f,g,b,j⟩ rfl;try dsimp only at a
  simp only[ie,seval,j];apply sp ay a<;>intro _ a
  ·have I:=gO false 0 ([]);simp only[bP]at I;obtain⟨S,D,a⟩:=ae a;cases a;simp only[ie,seval,j,I,D]
  ·obtain⟨T,E,a⟩:=ae a;simp only[ie,seval,j,E];refine bN (by kernel_rfl) ?_;obtain⟨L,F,a⟩:=ae a;refine aB (fun s t H e=>match s with|(l,m)=>∃h:Nat,t 4=.ptr 4 h 0∧t 6=sI l∧t 7=sI m∧H 4=rV h 39 [sN 0,.sl true true 0 []]) (fun o x t H e=>match o with|k=>x=.exit 0∧∃i:Nat,t 4=.ptr 4 i 0∧t 6=sI k∧H 4=rV i 39 [sN 0,.sl true true 0 []]) F ?_ ?_ ?_
   ·refine⟨b,?_⟩;and_intros<;>first|rfl|(simp only[ie,seval,j]<;>rfl)
   ·rintro⟨l,m⟩ t H e ⟨h,w⟩ c a;simp only[sP]at a;simp only[ie,seval,w];apply sp ay a<;>intro _ a
    ·obtain⟨M,n,a⟩:=ae a;cases a;simp only[ie,seval,w,n];apply iQ;refine⟨h,?_⟩;and_intros<;>first|rfl|(simp only[ie,seval,w]<;>rfl)
    ·cases a;simp only[ie,seval];apply j9;refine⟨rfl,⟨h,?_,?_,?_⟩⟩;all_goals ((simp only[ie,seval,w]<;>rfl))
   ·rintro x t H e J;obtain⟨k,rfl⟩:∃z,z=L:=⟨_,rfl⟩;dsimp only at J a;obtain⟨rfl,⟨i,G⟩⟩:=J;obtain⟨N,p,a⟩:=ae a;obtain⟨O,q,a⟩:=ae a;obtain⟨P,u,a⟩:=ae a;cases a;simp only[ie,seval,G,p,q,u]
 ·clear a;have a:=C;simp only[ie,seval];apply sp bU a<;>intro _ a
  ·cases a;simp only[ie,seval];rw[aD];refine⟨_,rfl,?_⟩;refine⟨0,0,0,?_,?_,?_,?_,?_,?_,?_⟩;all_goals (rfl)
  ·obtain⟨Q,v,a⟩:=ae a;cases a;simp only[ie,seval,v];rw[aD];refine⟨_,rfl,?_⟩;refine⟨0,0,0,?_,?_,?_,?_,?_,?_,?_⟩;all_goals (rfl)
def ss (l:Option (D×Row)) (d:List D):=er (gG (ko (eI .i64)) (dN (ko (eI .i64)))) (fun x:(List Int)×(List Int)=>tZ x.1 x.2) (fun r:(List Int) =>.clean (.sl false false r.length (av (eI .i64) r))) l d
def CG:Env:=(Am.ext bs 155 false gz)
def Tu:bY prog CG:=(bY.none.add q8 false)
def eX:=ai @w<|ai @qo<|@CG.eq_1
def Hp:cr prog 116 ss:=cr.jl (mode := .clean) tok Tu mixed func116 (by kernel_rfl) (fun _ _=>rfl) (fun _=>by kernel_rfl) fun⟨p0,p1⟩ r a=>by
 replace a:tZ p0 p1=some r:=a;apply aL rfl ntmps116 results116;simp only[jo];unfold tZ at a;simp only[eX,seval,-Int.reduceToNat];obtain⟨o1,P,a⟩:=ae a;refine rp 0 (fun s t H e=>match s with|(b,f)=>t 0=sI b∧t 1=sI f) (fun s=>s=o1) ?_ ?_
 ·rintro⟨b,f⟩ t H e B rfl;try dsimp only at a
  obtain⟨x2,Q,a⟩:=ae a;obtain⟨R,S,T,C,U⟩:=mk_one (eI .i64) Q;simp only[bP]at C;simp only[eX,seval,-Int.reduceToNat,B,R,S,T,C,U];obtain⟨V,D,a⟩:=ae a;refine aB (fun s t H e=>match s with|(E,g,m)=>∃l:Nat,t 0=sI b∧t 1=sI f∧t 5=.buf 5 l 1 0 (m).length∧t 6=sN E∧t 20=sI b∧t 21=sN (b.length:Int)∧t 22=sN g∧H 5=rW l 3 (av (eI .i64) m)) (fun o x t H e=>match o with|(d,h)=>x=.exit 0∧∃n:Nat,t 0=sI b∧t 5=.buf 5 n 1 0 (h).length∧t 6=sN d∧H 5=rW n 3 (av (eI .i64) h)) D ?_ ?_ ?_
  ·refine⟨e,?_⟩;and_intros<;>first|rfl|(simp only[eX,seval,-Int.reduceToNat,B]<;>rfl)
  ·rintro⟨E,g,m⟩ t H e ⟨l,A⟩ c a;simp only[sR]at a;simp only[eX,seval,-Int.reduceToNat,A];apply sp ay a<;>intro _ a
   ·obtain⟨aa,F,a⟩:=ae a;have i:=bn (eI .i64) F;simp only[bP]at i;simp only[eX,seval,-Int.reduceToNat,A,i];obtain⟨W,G,a⟩:=ae a;refine rp 0 (fun s t H e=>match s with|j=>∃k:Nat,t 0=sI b∧t 1=sI f∧t 5=.buf 5 k 1 0 (m).length∧t 6=sN j∧t 7=sN g∧t 20=sI b∧t 21=sN (b.length:Int)∧t 22=sN g∧H 5=rW k 3 (av (eI .i64) m)) (fun s=>s=W) ?_ ?_
    ·rintro j t H e ⟨k,I⟩ rfl;try dsimp only at a
     obtain⟨ab,p,a⟩:=ae a;have q:=bn (eI .i64) p;simp only[bP]at q;have J:=fL (eI .i64) (x':=mX .and .i64 j 1048575) (fo:=0) (cs:=[.int .i64 (mX .and .i64 j 1048575)]) p rfl (ak7 rfl);simp only[bP,Nat.add_zero]at J;have u:=J;simp only[putCells,List.length_cons,List.length_nil,akw]at u;obtain⟨ad,K,a⟩:=ae a;have X:=wP K;cases a;simp only[eX,seval,-Int.reduceToNat,i,I,q,u,X];apply iQ;refine⟨k,?_⟩;and_intros<;>first|rfl|(simp only[eX,seval,-Int.reduceToNat,I]<;>rfl)
    ·clear a;have a:=G;simp only[eX,seval,-Int.reduceToNat];apply sp ay a<;>intro _ a
     ·obtain⟨ag,L,a⟩:=ae a;have v:=bn (eI .i64) L;simp only[bP]at v;cases a;simp only[eX,seval,-Int.reduceToNat,A,i,v];rw[aD];refine⟨_,rfl,?_⟩;refine⟨l,?_⟩;and_intros<;>first|rfl|(simp only[eX,seval,-Int.reduceToNat,A]<;>rfl)
     ·cases a;simp only[eX,seval,-Int.reduceToNat];rw[aD];refine⟨_,rfl,?_⟩;refine⟨l,?_⟩;and_intros<;>first|rfl|(simp only[eX,seval,-Int.reduceToNat,A]<;>rfl)
   ·cases a;simp only[eX,seval,-Int.reduceToNat];apply j9;refine⟨rfl,⟨l,?_,?_,?_,?_⟩⟩;all_goals ((simp only[eX,seval,-Int.reduceToNat,A]<;>rfl))
  ·rintro x t H e Z;rcases V with⟨d,h⟩;dsimp only at Z a;obtain⟨rfl,⟨n,Y⟩⟩:=Z;obtain⟨ah,w,a⟩:=ae a;have y:=bn (eI .i64) w;simp only[bP]at y;have M:=fL (eI .i64) (x':=d) (fo:=0) (cs:=[.int .i64 d]) w rfl (ak7 rfl);simp only[bP,Nat.add_zero]at M;have z:=M;simp only[putCells,List.length_cons,List.length_nil,akw]at z;have N:=qo (h.set ((b.length:Int)).toNat d);simp only[alv]at N;obtain⟨ai,O,a⟩:=ae a;cases a;simp only[eX,seval,-Int.reduceToNat,Y,y,z,N,O]
 ·clear a;have a:=P;simp only[eX,seval,-Int.reduceToNat];apply sp ay a<;>intro _ a
  ·cases a;simp only[eX,seval,-Int.reduceToNat];rw[aD];refine⟨_,rfl,?_⟩;refine⟨?_,?_⟩;all_goals (rfl)
  ·cases a;simp only[eX,seval,-Int.reduceToNat];rw[aD];refine⟨_,rfl,?_⟩;refine⟨?_,?_⟩;all_goals (rfl)
def pQ (l:Option (D×Row)) (d:List D):=er (gG (ko (eI .i64)) (dN (ko (eI .i64)))) (fun x:(List Int)×(List Int)=>ua x.1 x.2) (fun r:(List Int) =>.clean (.sl false false r.length (av (eI .i64) r))) l d
def CJ:Env:=(Am.ext (Am.ext bs 55 false fW) 155 false gz)
def Tx:bY prog CJ:=((bY.none.add iR false).add q8 false)
def iH:=ai @w<|ai @dD<|ai @sh0<|ai @gz.eq_1<|@CJ.eq_1
def Hs:cr prog 117 pQ:=cr.jl (mode := .clean) tok Tx mixed func117 (by kernel_rfl) (fun _ _=>rfl) (fun _=>by kernel_rfl) fun⟨M,D⟩ r a=>by
 replace a:ua M D=some r:=a;apply aL rfl ntmps117 results117;simp only[jo];unfold ua at a;obtain⟨K,E,a⟩:=ae a;simp only[iH,seval,-Int.reduceToNat,E];obtain⟨F,q,a⟩:=ae a;refine aB (fun s t H e=>match s with|(u,d,i)=>∃h:Nat,t 1=sI D∧t 5=.buf 5 h 1 0 (i).length∧t 6=sN u∧t 12=sN ((K).length:Int)∧t 13=sN d∧H 5=rW h 3 (av (eI .i64) i)) (fun o x t H e=>match o with|j=>x=.exit 0∧∃k:Nat,t 5=.buf 5 k 1 0 (j).length∧H 5=rW k 3 (av (eI .i64) j)) q ?_ ?_ ?_
 ·refine⟨1,?_,?_,?_,?_,?_,?_⟩;all_goals (rfl)
 ·rintro⟨u,d,i⟩ t H e ⟨h,p⟩ c a;simp only[wc]at a;simp only[iH,seval,-Int.reduceToNat,p];apply sp ay a<;>intro _ a
  ·obtain⟨N,l,a⟩:=ae a;have b:=bn (eI .i64) l;simp only[bP]at b;simp only[iH,seval,-Int.reduceToNat,p,b];obtain⟨G,v,a⟩:=ae a;refine rp 0 (fun s t H e=>match s with|f=>∃g:Nat,t 1=sI D∧t 5=.buf 5 g 1 0 (i).length∧t 7=sN d∧t 8=sN f∧t 12=sN ((K).length:Int)∧t 13=sN d∧H 5=rW g 3 (av (eI .i64) i)) (fun s=>s=G) ?_ ?_
   ·rintro f t H e ⟨g,w⟩ rfl;try dsimp only at a
    obtain⟨O,y,a⟩:=ae a;have I:=wP y;have b:=bn (eI .i64) l;simp only[bP]at b;have A:=fL (eI .i64) (x':=mX .and .i64 f 1048575) (fo:=0) (cs:=[.int .i64 (mX .and .i64 f 1048575)]) l rfl (ak7 rfl);simp only[bP,Nat.add_zero]at A;have m:=A;simp only[putCells,List.length_cons,List.length_nil,akw]at m;cases a;simp only[iH,seval,-Int.reduceToNat,w,I,b,m];apply iQ;refine⟨g,?_⟩;and_intros<;>first|rfl|(simp only[iH,seval,-Int.reduceToNat,w]<;>rfl)
   ·clear a;have a:=v;simp only[iH,seval,-Int.reduceToNat];apply sp ay a<;>intro _ a
    ·obtain⟨P,B,a⟩:=ae a;have n:=bn (eI .i64) B;simp only[bP]at n;cases a;simp only[iH,seval,-Int.reduceToNat,p,b,n];rw[aD];refine⟨_,rfl,?_⟩;refine⟨h,?_⟩;and_intros<;>first|rfl|(simp only[iH,seval,-Int.reduceToNat,p]<;>rfl)
    ·cases a;simp only[iH,seval,-Int.reduceToNat];rw[aD];refine⟨_,rfl,?_⟩;refine⟨h,?_⟩;and_intros<;>first|rfl|(simp only[iH,seval,-Int.reduceToNat,p]<;>rfl)
  ·cases a;simp only[iH,seval,-Int.reduceToNat];apply j9;refine⟨rfl,⟨h,?_,?_⟩⟩;all_goals ((simp only[iH,seval,-Int.reduceToNat,p]<;>rfl))
 ·rintro x t H e L;obtain⟨j,rfl⟩:∃z,z=F:=⟨_,rfl⟩;dsimp only at L a;obtain⟨rfl,⟨k,J⟩⟩:=L;obtain⟨Q,C,a⟩:=ae a;cases a;simp only[iH,seval,-Int.reduceToNat,J,C]
def yS (l:Option (D×Row)) (d:List D):=er (gG (bV jc) (dN (bV jc))) (fun x:aK×aK=>rX x.1 x.2) (fun r:aK×aK×Int =>.clean (.tup [.agg [.int .i64 r.1.ax,.sl false false r.1.aa.length (av (eI .i64) r.1.aa)],.agg [.int .i64 r.2.1.ax,.sl false false r.2.1.aa.length (av (eI .i64) r.2.1.aa)],.int .i64 r.2.2])) l d
def Yx (a:(List Int)) (b:(List Int)):ss none [.sl false false a.length (av (eI .i64) a),.sl false false b.length (av (eI .i64) b)]=(tZ a b).map fun r:(List Int)=>(.clean (.sl false false r.length (av (eI .i64) r)),none):=cK _ _ _ (a,b)
def CB:Env:=(Am.ext (Am.ext (Am.ext (Am.ext (Am.ext bs 103 false bW) 113 false cJ) 116 false ss) 117 false pQ) 147 false pP)
def Tp:bY prog CB:=(((((bY.none.add iw false).add kT false).add Hp false).add Hs false).add Hq false)
def fG:=ai @w<|ai @Iw<|ai @bW.eq_1<|ai @Y8<|ai @cJ.eq_1<|ai @Wz<|ai @pQ.eq_1<|ai @pP.eq_1<|@CB.eq_1
def TP:cr prog 118 yS:=cr.jl (mode := .clean) tok Tp mixed func118 (by kernel_rfl) (fun _ _=>rfl) (fun _=>by kernel_rfl) fun⟨o,p⟩ r a=>by
 replace a:rX o p=some r:=a;apply aL rfl ntmps118 results118;simp only[jo];unfold rX at a;obtain⟨P,z,a⟩:=ae a;simp only[fG,seval,z];obtain⟨G,A,a⟩:=ae a;refine cV 0 (fun s t H e=>match s with|m=>∃b:Nat,∃c:Nat,∃d:Nat,∃f:Nat,t 2=.ptr 2 b 0∧t 3=.ptr 3 c 0∧t 4=.ptr 4 d 0∧t 5=.ptr 5 f 0∧t 9=.bool m∧H 2=rV b 39 [sN o.ax,sI o.aa]∧H 3=rV c 39 [sN p.ax,sI p.aa]∧H 4=rV d 39 [sN 0,.sl true true 0 []]∧H 5=rV f 39 [sN 0,.sl true true 0 []]) (fun s=>s=G) ?_ ?_
 ·rintro m t H e ⟨b,c,d,f,g⟩ rfl;try dsimp only at a
  simp only[fG,seval,g];apply sp ay a<;>intro _ a
  ·cases a;simp only[fG,seval,g]
  ·simp only[fG,seval,g];apply sp ay a<;>intro _ a
   ·cases a;simp only[fG,seval,g]
   ·obtain⟨B,C,a⟩:=ae a;simp only[fG,seval,g,C];obtain⟨I,D,a⟩:=ae a;refine cV 0 (fun s t H e=>match s with|h=>∃i:Nat,∃j:Nat,∃k:Nat,∃l:Nat,t 2=.ptr 2 i 0∧t 3=.ptr 3 j 0∧t 4=.ptr 4 k 0∧t 5=.ptr 5 l 0∧t 7=sI B.1∧t 8=sI B.2∧t 44=.bool h∧H 2=rV i 39 [sN o.ax,sI o.aa]∧H 3=rV j 39 [sN p.ax,sI p.aa]∧H 4=rV k 39 [sN 0,.sl true true 0 []]∧H 5=rV l 39 [sN 0,.sl true true 0 []]) (fun s=>s=I) ?_ ?_
    ·rintro h t H e ⟨i,j,k,l,n⟩ rfl;try dsimp only at a
     simp only[fG,seval,n];apply sp ay a<;>intro _ a
     ·have F:=Yx B.1 ([1]);simp only[ck,bP,List.length_cons,akw]at F;obtain⟨Q,E,a⟩:=ae a;obtain⟨J,q,a⟩:=ae a;obtain⟨K,u,a⟩:=ae a;obtain⟨L,v,a⟩:=ae a;simp only[fG,seval,n,F,E,q,u,v];refine bN (by kernel_rfl) ?_;cases a;simp only[seval]
     ·obtain⟨M,w,a⟩:=ae a;obtain⟨N,x,a⟩:=ae a;simp only[fG,seval,n,w,x];refine bN (by kernel_rfl) ?_;cases a;simp only[seval]
    ·clear a;have a:=D;simp only[fG,seval];apply sp fM a<;>intro _ a
     ·cases a;simp only[fG,seval];rw[aD];refine⟨_,rfl,?_⟩;refine⟨b,c,d,f,?_⟩;and_intros<;>first|rfl|(simp only[fG,seval,g]<;>rfl)
     ·cases a;simp only[fG,seval];rw[aD];refine⟨_,rfl,?_⟩;refine⟨b,c,d,f,?_⟩;and_intros<;>first|rfl|(simp only[fG,seval,g]<;>rfl)
 ·clear a;have a:=A;simp only[fG,seval];apply sp bU a<;>intro _ a
  ·cases a;simp only[fG,seval];rw[aD];refine⟨_,rfl,?_⟩;refine⟨0,0,0,0,?_,?_,?_,?_,?_,?_,?_,?_,?_⟩;all_goals (rfl)
  ·obtain⟨O,y,a⟩:=ae a;cases a;simp only[fG,seval,y];rw[aD];refine⟨_,rfl,?_⟩;refine⟨0,0,0,0,?_,?_,?_,?_,?_,?_,?_,?_,?_⟩;all_goals (rfl)
def gB (l:Option (D×Row)) (d:List D):=er (gG (bV jc) (dN (bV jc))) (fun x:aK×aK=>oX x.1 x.2) (fun r:an×Int =>.clean (.tup [.agg [.int .i64 r.1.bL.ax,.sl false false r.1.bL.aa.length (av (eI .i64) r.1.bL.aa),.int .i64 r.1.bQ.ax,.sl false false r.1.bQ.aa.length (av (eI .i64) r.1.bQ.aa)],.int .i64 r.2])) l d
def Az:Env:=(Am.ext (Am.ext (Am.ext (Am.ext bs 71 false pO) 103 false bW) 104 false pN) 118 false yS)
def PO:bY prog Az:=((((bY.none.add Ho false).add iw false).add Hn false).add TP false)
def fA:=ai @w<|ai @Iw<|ai @pO.eq_1<|ai @bW.eq_1<|ai @Lv<|ai @pN.eq_1<|ai @yS.eq_1<|@Az.eq_1
def uo:cr prog 63 gB:=cr.jl (mode := .clean) tok PO mixed func63 (by kernel_rfl) (fun _ _=>rfl) (fun _=>by kernel_rfl) fun⟨u,v⟩ r a=>by
 replace a:oX u v=some r:=a;apply aL rfl ntmps63 results63;simp only[jo];unfold oX at a;obtain⟨J,w,a⟩:=ae a;simp only[fA,seval,w];obtain⟨D,x,a⟩:=ae a;refine cV 0 (fun s t H e=>match s with|k=>∃b:Nat,∃c:Nat,∃d:Nat,t 2=.ptr 2 b 0∧t 3=.ptr 3 c 0∧t 4=.ptr 4 d 0∧t 14=.bool k∧H 2=rV b 39 [sN u.ax,sI u.aa]∧H 3=rV c 39 [sN v.ax,sI v.aa]∧H 4=rV d 41 [sN 0,.sl true true 0 [],sN 0,.sl true true 0 []]) (fun s=>s=D) ?_ ?_
 ·rintro k t H e ⟨b,c,d,f⟩ rfl;try dsimp only at a
  simp only[fA,seval,f];apply sp ay a<;>intro _ a
  ·cases a;simp only[fA,seval,f]
  ·simp only[fA,seval,f];apply sp ay a<;>intro _ a
   ·cases a;simp only[fA,seval,f]
   ·simp only[fA,seval,f];obtain⟨E,y,a⟩:=ae a;refine rp 0 (fun s t H e=>match s with|(g,h,i,j)=>∃l:Nat,∃m:Nat,∃n:Nat,t 2=.ptr 2 l 0∧t 3=.ptr 3 m 0∧t 4=.ptr 4 n 0∧H 2=rV l 39 [sN g,sI h]∧H 3=rV m 39 [sN i,sI j]∧H 4=rV n 41 [sN 0,.sl true true 0 [],sN 0,.sl true true 0 []]) (fun s=>s=E) ?_ ?_
    ·rintro⟨g,h,i,j⟩ t H e ⟨l,m,n,z⟩ rfl;try dsimp only at a
     obtain⟨K,A,a⟩:=ae a;obtain⟨L,B,a⟩:=ae a;obtain⟨M,C,a⟩:=ae a;cases a;simp only[fA,seval,z,A,B,C]
    ·clear a;have a:=y;simp only[fA,seval];apply sp ay a<;>intro _ a
     ·obtain⟨F,o,a⟩:=ae a;obtain⟨G,p,a⟩:=ae a;simp only[fA,seval,f,o,p];refine bN (by kernel_rfl) ?_;cases a;rw[aD];refine⟨_,rfl,?_⟩;refine⟨b,c,d,?_⟩;and_intros<;>first|rfl|(simp only[fA,seval,f]<;>rfl)
     ·cases a;simp only[fA,seval];rw[aD];refine⟨_,rfl,?_⟩;refine⟨b,c,d,?_,?_,?_,?_,?_,?_⟩;all_goals ((simp only[fA,seval,f]<;>rfl))
 ·clear a;have a:=x;simp only[fA,seval];apply sp bU a<;>intro _ a
  ·cases a;simp only[fA,seval];rw[aD];refine⟨_,rfl,?_⟩;refine⟨0,0,0,?_,?_,?_,?_,?_,?_,?_⟩;all_goals (rfl)
  ·obtain⟨I,q,a⟩:=ae a;cases a;simp only[fA,seval,q];rw[aD];refine⟨_,rfl,?_⟩;refine⟨0,0,0,?_,?_,?_,?_,?_,?_,?_⟩;all_goals (rfl)
def kP (l:Option (D×Row)) (d:List D):=er (gG (aI .i64) (dN (aI .i64))) (fun x:Int×Int=>ue x.1 x.2) (fun r:an×Int =>.clean (.tup [.agg [.int .i64 r.1.bL.ax,.sl false false r.1.bL.aa.length (av (eI .i64) r.1.bL.aa),.int .i64 r.1.bQ.ax,.sl false false r.1.bQ.aa.length (av (eI .i64) r.1.bQ.aa)],.int .i64 r.2])) l d
def CL:Env:=(Am.ext (Am.ext bs 61 false sH) 63 false gB)
def Tz:bY prog CL:=((bY.none.add K9 false).add uo false)
def Y4:=ai @w<|ai @E7<|ai @sH.eq_1<|ai @Lv<|ai @gB.eq_1<|@CL.eq_1
def AQ:cr prog 57 kP:=cr.jl (mode := .clean) tok Tz mixed func57 (by kernel_rfl) (fun _ _=>rfl) (fun _=>by kernel_rfl) fun⟨e,f⟩ r a=>by
 replace a:ue e f=some r:=a;apply aL rfl ntmps57 results57;simp only[jo];unfold ue at a;obtain⟨g,b,a⟩:=ae a;obtain⟨h,c,a⟩:=ae a;obtain⟨i,d,a⟩:=ae a;cases a;simp only[Y4,seval,b,c,d]
def sK (l:Option (D×Row)) (d:List D):=er (gG (aI .i64) (dN (aI .i64))) (fun x:Int×Int=>tq x.1 x.2) (fun r:an =>.clean (.agg [.int .i64 r.bL.ax,.sl false false r.bL.aa.length (av (eI .i64) r.bL.aa),.int .i64 r.bQ.ax,.sl false false r.bQ.aa.length (av (eI .i64) r.bQ.aa)])) l d
def Gv:Env:=(Am.ext bs 57 false kP)
def XU:bY prog Gv:=(bY.none.add AQ false)
def acR:=ai @w<|ai @NY<|ai @kP.eq_1<|@Gv.eq_1
def Lb:cr prog 18 sK:=cr.jl (mode := .clean) tok XU mixed func18 (by kernel_rfl) (fun _ _=>rfl) (fun _=>by kernel_rfl) fun⟨c,d⟩ r a=>by
 replace a:tq c d=some r:=a;apply aL rfl ntmps18 results18;simp only[jo];unfold tq at a;obtain⟨e,b,a⟩:=ae a;cases a;simp only[acR,seval,b]
def qA (l:Option (D×Row)) (d:List D):=er (as0) (fun x:Unit=>ug) (fun r:aX×(List (List an)) =>.clean (.tup [.agg [.sl false false r.1.al.length (av (eI .i64) r.1.al),.sl false false r.1.ah.length (av bx r.1.ah)],.sl false false r.2.length (av (fk ak) r.2)])) l d
def sh9 {β:Type} {F:Unit->Option β} {R:β->RK} : er (as0) F R none []=(F (())).map fun r=>(R r,none):=cK _ _ _ (())
def uO:Env:=(Am.ext bs 18 false sK)
def GD:bY prog uO:=(bY.none.add Lb false)
def Ae:=ai @w<|ai @NY<|ai @sK.eq_1<|@uO.eq_1
def Hu:cr prog 37 qA:=cr.jl (mode := .clean) tok GD mixed func37 (by kernel_rfl) (fun _ _=>rfl) (fun _=>by kernel_rfl) fun _ r a=>by
 replace a:ug=some r:=a;apply aL rfl ntmps37 results37;simp only[jo];unfold ug at a;obtain⟨f,b,a⟩:=ae a;obtain⟨g,c,a⟩:=ae a;obtain⟨h,d,a⟩:=ae a;obtain⟨i,e,a⟩:=ae a;simp only[Ae,seval,b,c,d,e];refine bN (by kernel_rfl) ?_;cases a;simp only[Ae,seval]
def dr (l:Option (D×Row)) (d:List D):=er (gG (aI .i64) (gG (aI .i64) (dN (aI .i64)))) (fun x:Int×Int×Int=>fu x.1 x.2.1 x.2.2) (fun r:Bool =>.clean (.bool r)) l d
def I6 {β:Type} {F:Int×Int×Int->Option β} {R:β->RK} (a:Int) (b:Int) (c:Int):er (gG (aI .i64) (gG (aI .i64) (dN (aI .i64)))) F R none [.int .i64 a,.int .i64 b,.int .i64 c]=(F (a,b,c)).map fun r=>(R r,none):=cK _ _ _ (a,b,c)
def nk:cr prog 81 dr:=cr.jl (mode := .clean) tok bY.none mixed func81 (by kernel_rfl) (fun _ _=>rfl) (fun _=>by kernel_rfl) fun⟨b,c,d⟩ r a=>by
 replace a:fu b c d=some r:=a;apply aL rfl ntmps81 results81;simp only[jo];unfold fu at a;simp only[w,seval];apply sp fM a<;>intro _ a
 ·cases a;simp only[w,seval]
 ·cases a;simp only[w,seval]
def cg (l:Option (D×Row)) (d:List D):=er (dN (aI .i64)) (fun x:Int=>fY x) (fun r:an =>.clean (.agg [.int .i64 r.bL.ax,.sl false false r.bL.aa.length (av (eI .i64) r.bL.aa),.int .i64 r.bQ.ax,.sl false false r.bQ.aa.length (av (eI .i64) r.bQ.aa)])) l d
def Ax:Env:=(Am.ext bs 61 false sH)
def PM:bY prog Ax:=(bY.none.add K9 false)
def UE:=ai @w<|ai @E7<|ai @sH.eq_1<|@Ax.eq_1
def jA:cr prog 21 cg:=cr.jl (mode := .clean) tok PM mixed func21 (by kernel_rfl) (fun _ _=>rfl) (fun _=>by kernel_rfl) fun d r a=>by
 replace a:fY d=some r:=a;apply aL rfl ntmps21 results21;simp only[jo];unfold fY at a;obtain⟨e,b,a⟩:=ae a;obtain⟨f,c,a⟩:=ae a;cases a;simp only[UE,seval,b,c]
def yT (l:Option (D×Row)) (d:List D):=er (dN (bV jc)) (fun x:aK=>y7 x) (fun r:Int×Bool =>.clean (.tup [.int .i64 r.1,.bool r.2])) l d
def CD:Env:=(Am.ext bs 103 false bW)
def Tr:bY prog CD:=(bY.none.add iw false)
def b6:=ai @w<|ai @Iw<|ai @bW.eq_1<|@CD.eq_1
def TQ:cr prog 148 yT:=cr.jl (mode := .clean) tok Tr mixed func148 (by kernel_rfl) (fun _ _=>rfl) (fun _=>by kernel_rfl) fun d r a=>by
 replace a:y7 d=some r:=a;apply aL rfl ntmps148 results148;simp only[jo];unfold y7 at a;obtain⟨R,G,a⟩:=ae a;simp only[b6,seval,-Int.reduceToNat,G];obtain⟨O,I,a⟩:=ae a;refine cV 0 (fun s t H e=>match s with|j=>∃f:Nat,t 1=.ptr 1 f 0∧t 15=.bool j∧H 1=rV f 39 [sN d.ax,sI d.aa]) (fun s=>s=O) ?_ ?_
 ·rintro j t H e ⟨f,v⟩ rfl;try dsimp only at a
  simp only[b6,seval,-Int.reduceToNat,v];apply sp ay a<;>intro _ a
  ·cases a;simp only[b6,seval,-Int.reduceToNat]
  ·simp only[b6,seval,-Int.reduceToNat,v];obtain⟨J,z,a⟩:=ae a;refine aB (fun s t H e=>match s with|(w,g)=>∃i:Nat,t 1=.ptr 1 i 0∧t 4=.int .u64 w∧t 17=sI d.aa∧t 18=sN (d.aa.length:Int)∧t 19=sN g∧H 1=rV i 39 [sN d.ax,sI d.aa]) (fun o x t H e=>match o with|(.inl k)=>x=.exit 0∧∃b:Nat,t 1=.ptr 1 b 0∧t 4=.int .u64 k∧H 1=rV b 39 [sN d.ax,sI d.aa]|(.inr r)=>x=.ret∧gu .clean tab none [.tmp 2,.tmp 3] ⟨t,EH H,e⟩=some (.clean (.tup [.int .i64 r.1,.bool r.2]),none)) z ?_ ?_ ?_
   ·refine⟨f,?_⟩;and_intros<;>first|rfl|(simp only[b6,seval,-Int.reduceToNat,v]<;>rfl)
   ·rintro⟨w,g⟩ t H e ⟨i,A⟩ c a;simp only[vW]at a;simp only[b6,seval,-Int.reduceToNat,A];apply sp ay a<;>intro _ a
    ·obtain⟨K,B,a⟩:=ae a;have u:=bn (eI .i64) B;simp only[bP]at u;simp only[b6,seval,-Int.reduceToNat,A,u];obtain⟨L,C,a⟩:=ae a;refine cV 0 (fun s t H e=>match s with|l=>∃h:Nat,t 1=.ptr 1 h 0∧t 4=.int .u64 w∧t 5=sN g∧t 6=sN K∧t 17=sI d.aa∧t 18=sN (d.aa.length:Int)∧t 19=sN g∧t 29=.bool l∧H 1=rV h 39 [sN d.ax,sI d.aa]) (fun s=>s=L) ?_ ?_
     ·rintro l t H e ⟨h,y⟩ rfl;try dsimp only at a
      simp only[b6,seval,-Int.reduceToNat,y];apply sp ay a<;>intro _ a
      ·cases a;simp only[b6,seval,-Int.reduceToNat];refine si ⟨rfl,?_⟩;simp only[b6,seval,-Int.reduceToNat]
      ·obtain⟨P,D,a⟩:=ae a;have M:=E8 D;cases a;simp only[b6,seval,-Int.reduceToNat,y,M];apply iQ;refine⟨h,?_⟩;and_intros<;>first|rfl|(simp only[b6,seval,-Int.reduceToNat,y]<;>rfl)
     ·clear a;have a:=C;simp only[b6,seval,-Int.reduceToNat];apply sp fM a<;>intro _ a
      ·cases a;simp only[b6,seval,-Int.reduceToNat];rw[aD];refine⟨_,rfl,?_⟩;refine⟨i,?_⟩;and_intros<;>first|rfl|(simp only[b6,seval,-Int.reduceToNat,A]<;>rfl)
      ·cases a;simp only[b6,seval,-Int.reduceToNat];rw[aD];refine⟨_,rfl,?_⟩;refine⟨i,?_⟩;and_intros<;>first|rfl|(simp only[b6,seval,-Int.reduceToNat,A]<;>rfl)
    ·cases a;simp only[b6,seval,-Int.reduceToNat];apply j9;refine⟨rfl,⟨i,?_,?_,?_⟩⟩;all_goals ((simp only[b6,seval,-Int.reduceToNat,A]<;>rfl))
   ·rintro x t H e F;rcases J with k|S
    ·dsimp only at F a;obtain⟨rfl,⟨b,q⟩⟩:=F;simp only[b6,seval,-Int.reduceToNat,q];obtain⟨N,E,a⟩:=ae a;refine cV 0 (fun s t H e=>match s with|m=>∃n:Nat,t 1=.ptr 1 n 0∧t 4=.int .u64 k∧t 38=.bool m∧H 1=rV n 39 [sN d.ax,sI d.aa]) (fun s=>s=N) ?_ ?_
     ·rintro m t H e ⟨n,p⟩ rfl;try dsimp only at a
      simp only[b6,seval,-Int.reduceToNat,p];apply sp ay a<;>intro _ a
      ·cases a;simp only[b6,seval,-Int.reduceToNat,p]
      ·simp only[b6,seval,-Int.reduceToNat,p];apply sp fM a<;>intro _ a
       ·simp only[b6,seval,-Int.reduceToNat,p];apply sp ay a<;>intro _ a
        ·cases a;simp only[b6,seval,-Int.reduceToNat,p]
        ·cases a;simp only[b6,seval,-Int.reduceToNat]
       ·cases a;simp only[b6,seval,-Int.reduceToNat]
     ·clear a;have a:=E;simp only[b6,seval,-Int.reduceToNat];apply sp fM a<;>intro _ a
      ·cases a;simp only[b6,seval,-Int.reduceToNat,q];rw[aD];refine⟨_,rfl,?_⟩;refine⟨b,?_⟩;and_intros<;>first|rfl|(simp only[b6,seval,-Int.reduceToNat,q]<;>rfl)
      ·cases a;simp only[b6,seval,-Int.reduceToNat];rw[aD];refine⟨_,rfl,?_⟩;refine⟨b,?_⟩;and_intros<;>first|rfl|(simp only[b6,seval,-Int.reduceToNat,q]<;>rfl)
    ·dsimp only at F a;obtain⟨rfl,Q⟩:=F;cases a;simp only[a8,bf,cB,cL];exact Q
 ·clear a;have a:=I;simp only[b6,seval,-Int.reduceToNat];apply sp bU a<;>intro _ a
  ·cases a;simp only[b6,seval,-Int.reduceToNat];rw[aD];refine⟨_,rfl,?_⟩;refine⟨0,?_,?_,?_⟩;all_goals (rfl)
  ·cases a;simp only[b6,seval,-Int.reduceToNat];rw[aD];refine⟨_,rfl,?_⟩;refine⟨0,?_,?_,?_⟩;all_goals (rfl)
def vM (l:Option (D×Row)) (d:List D):=er (dN (bV jc)) (fun x:aK=>vk x) (fun r:Bool =>.clean (.bool r)) l d
def AB:Env:=(Am.ext bs 148 false yT)
def PR:bY prog AB:=(bY.none.add TQ false)
def A7:=ai @w<|ai @Iw<|ai @yT.eq_1<|@AB.eq_1
def Ra:cr prog 105 vM:=cr.jl (mode := .clean) tok PR mixed func105 (by kernel_rfl) (fun _ _=>rfl) (fun _=>by kernel_rfl) fun c r a=>by
 replace a:vk c=some r:=a;apply aL rfl ntmps105 results105;simp only[jo];unfold vk at a;obtain⟨d,b,a⟩:=ae a;simp only[A7,seval,b];apply sp fM a<;>intro _ a
 ·cases a;simp only[A7,seval]
 ·cases a;simp only[A7,seval]
def bh (l:Option (D×Row)) (d:List D):=er (dN (bV ak)) (fun x:an=>cT x) (fun r:Bool =>.clean (.bool r)) l d
def kh {β:Type} {F:an->Option β} {R:β->RK} (c:Int) (a:(List Int)) (d:Int) (b:(List Int)):er (dN (bV ak)) F R none [.agg [.int .i64 c,.sl false false a.length (av (eI .i64) a),.int .i64 d,.sl false false b.length (av (eI .i64) b)]]=(F ((an.mk (aK.mk c a) (aK.mk d b)))).map fun r=>(R r,none):=cK _ _ _ ((an.mk (aK.mk c a) (aK.mk d b)))
def wq:Env:=(Am.ext (Am.ext (Am.ext bs 103 false bW) 104 false pN) 105 false vM)
def IN:bY prog wq:=(((bY.none.add iw false).add Hn false).add Ra false)
def gi:=ai @w<|ai @Iw<|ai @bW.eq_1<|ai @Lv<|ai @pN.eq_1<|ai @vM.eq_1<|@wq.eq_1
def ff:cr prog 54 bh:=cr.jl (mode := .clean) tok IN mixed func54 (by kernel_rfl) (fun _ _=>rfl) (fun _=>by kernel_rfl) fun d r a=>by
 replace a:cT d=some r:=a;apply aL rfl ntmps54 results54;simp only[jo];unfold cT at a;obtain⟨m,g,a⟩:=ae a;simp only[gi,seval,g];obtain⟨l,h,a⟩:=ae a;refine cV 0 (fun s t H e=>match s with|b=>∃c:Nat,t 1=.ptr 1 c 0∧t 20=.bool b∧H 1=rV c 41 [sN d.bL.ax,sI d.bL.aa,sN d.bQ.ax,sI d.bQ.aa]) (fun s=>s=l) ?_ ?_
 ·rintro b t H e ⟨c,f⟩ rfl;try dsimp only at a
  simp only[gi,seval,f];apply sp ay a<;>intro _ a
  ·cases a;simp only[gi,seval]
  ·obtain⟨n,i,a⟩:=ae a;simp only[gi,seval,f,i];apply sp fM a<;>intro _ a
   ·obtain⟨o,j,a⟩:=ae a;cases a;simp only[gi,seval,j]
   ·cases a;simp only[gi,seval]
 ·clear a;have a:=h;simp only[gi,seval];apply sp bU a<;>intro _ a
  ·cases a;simp only[gi,seval];rw[aD];refine⟨_,rfl,?_⟩;refine⟨0,?_,?_,?_⟩;all_goals (rfl)
  ·obtain⟨p,k,a⟩:=ae a;simp only[gi,seval,k];apply sp bU a<;>intro _ a
   ·cases a;simp only[gi,seval];rw[aD];refine⟨_,rfl,?_⟩;refine⟨0,?_,?_,?_⟩;all_goals (rfl)
   ·cases a;simp only[gi,seval];rw[aD];refine⟨_,rfl,?_⟩;refine⟨0,?_,?_,?_⟩;all_goals (rfl)
def ca (l:Option (D×Row)) (d:List D):=er (dN (bV ak)) (fun x:an=>gj x) (fun r:Int =>.clean (.int .i64 r)) l d
def yj:Env:=(Am.ext bs 54 false bh)
def MG:bY prog yj:=(bY.none.add ff false)
def yO:=ai @w<|ai @kh<|ai @bh.eq_1<|@yj.eq_1
def jB:cr prog 24 ca:=cr.jl (mode := .clean) tok MG mixed func24 (by kernel_rfl) (fun _ _=>rfl) (fun _=>by kernel_rfl) fun c r a=>by
 replace a:gj c=some r:=a;apply aL rfl ntmps24 results24;simp only[jo];unfold gj at a;obtain⟨d,b,a⟩:=ae a;simp only[yO,seval,b];apply sp ay a<;>intro _ a
 ·cases a;simp only[yO,seval]
 ·cases a;simp only[yO,seval]
def yU (l:Option (D×Row)) (d:List D):=er (gG (bV jc) (dN (bV jc))) (fun x:aK×aK=>y8 x.1 x.2) (fun r:aK×Int =>.clean (.tup [.agg [.int .i64 r.1.ax,.sl false false r.1.aa.length (av (eI .i64) r.1.aa)],.int .i64 r.2])) l d
def CE:Env:=(Am.ext (Am.ext (Am.ext (Am.ext bs 103 false bW) 113 false cJ) 114 false mV) 154 false su)
def Ts:bY prog CE:=((((bY.none.add iw false).add kT false).add tx false).add Hr false)
def qu:=ai @w<|ai @Iw<|ai @bW.eq_1<|ai @Y8<|ai @cJ.eq_1<|ai @gO<|ai @Wz<|ai @su.eq_1<|@CE.eq_1
def TR:cr prog 112 yU:=cr.jl (mode := .clean) tok Ts mixed func112 (by kernel_rfl) (fun _ _=>rfl) (fun _=>by kernel_rfl) fun⟨i,j⟩ r a=>by
 replace a:y8 i j=some r:=a;apply aL rfl ntmps112 results112;simp only[jo];unfold y8 at a;obtain⟨w,k,a⟩:=ae a;simp only[qu,seval,k];obtain⟨u,l,a⟩:=ae a;refine cV 0 (fun s t H e=>match s with|b=>∃c:Nat,∃d:Nat,∃f:Nat,t 2=.ptr 2 c 0∧t 3=.ptr 3 d 0∧t 4=.ptr 4 f 0∧t 13=.bool b∧H 2=rV c 39 [sN i.ax,sI i.aa]∧H 3=rV d 39 [sN j.ax,sI j.aa]∧H 4=rV f 39 [sN 0,.sl true true 0 []]) (fun s=>s=u) ?_ ?_
 ·rintro b t H e ⟨c,d,f,g⟩ rfl;try dsimp only at a
  simp only[qu,seval,g];apply sp ay a<;>intro _ a
  ·have q:=gO false 0 ([]);simp only[bP]at q;obtain⟨x,m,a⟩:=ae a;cases a;simp only[qu,seval,g,q,m]
  ·obtain⟨y,n,a⟩:=ae a;obtain⟨z,o,a⟩:=ae a;obtain⟨A,p,a⟩:=ae a;simp only[qu,seval,g,n,o,p];refine bN (by kernel_rfl) ?_;cases a;simp only[seval]
 ·clear a;have a:=l;simp only[qu,seval];apply sp bU a<;>intro _ a
  ·cases a;simp only[qu,seval];rw[aD];refine⟨_,rfl,?_⟩;refine⟨0,0,0,?_,?_,?_,?_,?_,?_,?_⟩;all_goals (rfl)
  ·obtain⟨v,h,a⟩:=ae a;cases a;simp only[qu,seval,h];rw[aD];refine⟨_,rfl,?_⟩;refine⟨0,0,0,?_,?_,?_,?_,?_,?_,?_⟩;all_goals (rfl)
section
variable {P:Program} {T:Nat->Option Ty} {N F:Nat} {M:Nat->Prop} {L:kZ} {w0:World} {blk:Nat->Option (Nat×Nat)} {t:Nat->D} {h:Nat->Option Row} {a:Act} {w:World} {e:Nat} {Γ:Env} {done:List Nat}
def GM (d:vR N M L w0 blk e done t h a w):Holds N M L w0 ⟨t,h,e+1⟩ a w:=by
 refine⟨blk,d.inv.weaken fun x v c =>?_,fun x r f s g i j k l m =>?_⟩
 ·rcases c with⟨b,c|⟨c,_⟩⟩|⟨b,o,p,n⟩
  ·exact .inl ⟨b,.inl (by simp only;omega)⟩
  ·exact .inl ⟨b,.inl (by simp only;omega)⟩
  ·exact .inr ⟨b,by simp only;omega,fun _=>by simp only;omega,n⟩
 ·have:=d.nv x r f s g i j k l m;exact⟨by simp only;omega,fun _=>by simp only;omega⟩
def HP (p:jN P T) (q:bY P Γ) {b l:List Oper} {K:(Nat->D)->(Nat->Option Row)->Prop} {Q:Exit->Act->World->Prop} (r:vR N M L w0 blk e done t h a w) (j:(l.filterMap (·.dst)).Nodup) (s:∀o∈l,∀d,o.dst=some d->d∉done)
  (u:mS T Γ N F b l [] (fun _ t h _=>K t h) t h e) (hQ:∀c f g i,K c f->Holds N M L w0 ⟨c,f,e+1⟩ g i->Q .normal g i):wpList P b.toArray Q l a w:=by
 obtain⟨c,f,y,v,x⟩:=B9 (T:=T) (Γ:=Γ) (N:=N) (e:=e) (ops:=b.toArray) l t h u;exact A5 p q v j s r fun g i n k m=>hQ c f g i x (GM m)
def aaZ (p:jN P T) (q:bY P Γ) {b l:List Oper} {o:Oper} {K:(Nat->D)->(Nat->Option Row)->Prop} {Q:Exit->Act->World->Prop} (r:vR N M L w0 blk e done t h a w) (s:∀d,o.dst=some d->d∉done)
  (u:mS T Γ N F b [o] [] (fun _ t h _=>K t h) t h e) (hQ:∀i j k m c,K i j->vR N M L w0 c e (o.dst.toList++done) i j k m->wpList P b.toArray Q l k m):wpList P b.toArray Q (o::l) a w:=by
 obtain⟨i,j,z,g,v⟩:=B9 (T:=T) (Γ:=Γ) (N:=N) (e:=e) (ops:=b.toArray) [o] t h u;simp only[Dj]at g;split at g
 ·rename_i t1 x f y;simp only[ajH,Prod.mk.injEq]at g;obtain⟨rfl,rfl,_⟩:=g;unfold wpList;exact Nv p q r y s fun k m c n=>hQ _ _ _ _ c v n
 ·cases g
def Bl (m:jN P T) (n:bY P Γ) (o:P.follows .mixedOrders=true) {c:Code} {K:Kt} {Q:Exit->Act->World->Prop} (p:Holds N M L w0 ⟨t,h,e⟩ a w) (g:codeOk c=true) (q:dM T Γ N F [.code c] K .normal t h e)
  (hQ:∀x j k l b d,K x j k l->Holds N M L w0 ⟨j,k,l⟩ b d->Q (Gn x) b d):c.wp P Q a w:=by
 obtain⟨x,f,r,s⟩:=Dy c t h e K q;exact kl m n o c ⟨t,h,e⟩ x f Q a w r g p fun b d i=>hQ x f.t f.h f.e b d s i
def jq.maps {c:Nat->Option Row} (o:∀x,c x=h x∨∃v j k l m a,c x=some ⟨v,j,[.mpc k l],m,a,true⟩):jq e h c:=by
 intro x p d q f g b r n s;rcases o x with i|⟨v,j,k,l,m,a,i⟩
 ·rw[i]at b;exact⟨p,d,q,f,g,b,r,n,.inl rfl⟩
 ·rw[i]at b;cases b;cases n
def aaP {d:Nat} (b:d<N) (f:N<=PK) (c:d∉done):kz N (VE N e done h) d e where
 no:=by
  rintro (⟨_,a|⟨_,a⟩⟩|⟨a,_⟩)
  ·exact absurd a (alC _)
  ·exact c a
  ·have:=dx;omega
 lt:=b
end
def map_eraseIdx {α β:Type} (f:α->β):∀(l:List α) (j:Nat),(l.map f).eraseIdx j=(l.eraseIdx j).map f
 | [],_=>rfl
 | a::l,0=>rfl
 | a::l,j+1=>by simp[map_eraseIdx f l j]
def BW {α:Type} : ∀m:List ((Int×Int)×α),fE m=m.map fun q=>DB.k q.1
 | []=>rfl
 | (k,v)::m=>by simp[fE,BW m]
def G3 {α:Type} (A:Arg α):∀m:List ((Int×Int)×α),iu A m=m.map fun q=>A.d q.2
 | []=>rfl
 | (k,v)::m=>by simp[iu,G3 A m]
def HE {α:Type} : ∀ {l:List α} {j:Nat} {q:α},l[j]? = some q->l.Perm (q::l.eraseIdx j)
 | [],_,_,h=>by simp at h
 | a::l,0,q,h=>by simp only[List.getElem?_cons_zero,ajH]at h;subst h;exact List.Perm.refl _
 | a::l,j+1,q,h=>by
  simp only[List.getElem?_cons_succ]at h;exact ((HE h).cons a).trans (List.Perm.swap q a _)
def kf (q:(Int×Int)×an):cA:=cA.mk q.1.1 q.1.2 q.2
def agH (r:gY×Int) (t:Nat->D) (h:Nat->Option Row) (e:Nat):Prop:=∃(m:List ((Int×Int)×an)) (a:Int) (b c d f:Nat),t 6=.mp 21 b∧h 21=some ⟨b,113,[.mpc (fE m) (iu (bV ak) m)],false,true,true⟩ ∧
 t 9=.ptr 9 c 0∧h 9=some ⟨c,66,[.nr 118 6 f [.int .i64 a,.nx 0 []]],false,false,true⟩∧t 2=.ptr 2 d 0∧h 2=some ⟨d,66,[.int .i64 0,.sl true true 0 []],false,false,false⟩∧f<=4*e∧E4 a m=some r
def Fj:=mkW 118 cv (dN (NX 67)) (fun (l:List cA) (_:Unit)=>En (lq cA.dh cA.kF) l) (fun _:Unit =>.clean (.tup []))
def abU (b a:List D) (c:List cA):Fj (some (.buf 0 0 6 b.length c.length,⟨0,118,b++(av cv c++a),false,true,false⟩)) [.fn 67]=(En (lq cA.dh cA.kF) c).map fun r=>(.clean (.tup []),some ⟨0,118,b++(av cv r.1++a),false,true,false⟩):=abA _ _ _ _ _ b a c ()
def Yr:cr prog 66 Fj:=M9 xY (fun x=>by rw[se];rfl) (fun x=>by rw[se];rfl) 118
def Tn:Env:=(Am.xt 9 (118,6,1) (Am.ext bs 66 true Fj))
def uf:bY prog Tn:=bY.xt (bY.none.add Yr true) 9 (118,6,1)
def yP:=ai @w<|@Tn.eq_1
def UJ (m:List ((Int×Int)×an)) (a:Int) (d:List ((Int×Int)×an)) (t:Nat->D) (h:Nat->Option Row) (e:Nat):Prop:=∃(f:List dY) (g:List D) (b:List cA) (i c j k l:Nat),
 t 44=.ptr 44 i 0∧h 44=some ⟨i,c,[.mpc f g],false,true,true⟩∧900000<=c∧f.drop (c-900000)=fE d∧g.drop (c-900000)=iu (bV ak) d ∧
 t 9=.ptr 9 j 0∧h 9=some ⟨j,66,[.nr 118 6 l [.int .i64 a,.nx b.length (av cv b)]],false,false,true⟩∧t 2=.ptr 2 k 0∧h 2=some ⟨k,66,[.int .i64 0,.sl true true 0 []],false,false,false⟩∧l<=4*e∧(b++d.map kf).Perm (m.map kf)
def adK {m:List ((Int×Int)×an)} {c:Int} (B:m.length<=8000∧(m.map (·.1)).Nodup) {t:Nat->D} {h:Nat->Option Row} {e:Nat} {w0:World} {M:Nat->Prop} {a:Act} {w:World} (C:UJ m c [] t h e) (E:Holds 65 M none w0 ⟨t,h,e⟩ a w) :
  (Dr 0 (Dr 5 (ZS Tryz.f26))).wp prog (bodyPost prog Tryz.f26 fun e o=>∃v,e=.returned v∧Below w0.heap.size w0 o∧xC w0 o M (fun _=>False) v (.clean (.tup [.agg [.int .i64 c,.sl false false (rK (lq cA.dh cA.kF) (m.map kf)).length (av cv (rK (lq cA.dh cA.kF) (m.map kf)))],.int .i64 0]))) a w:=by
 obtain⟨ks,vs,b,vI,ty,v9,v2,nv,i1,i2,i3,i4,i5,G,H,I,J,L,d⟩:=C;rw[akg,alg]at d;have hkey:∀x∈b,∀y∈b,lq cA.dh cA.kF x y=0->x=y:=by
  intro x r y s N;obtain⟨p,O,rfl⟩:=ajy.1 (d.mem_iff.1 r);obtain⟨q,P,rfl⟩:=ajy.1 (d.mem_iff.1 s);obtain⟨Q,R⟩:=Uk.1 N;have S:p.1=q.1:=Prod.ext Q R;have:p=q:=by
   obtain⟨i,T,rfl⟩:=alE O;obtain⟨j,U,rfl⟩:=alE P;have:=(List.getElem_inj (h₀:=by simpa using T) (h₁:=by simpa using U) B.2).1 (by simpa using S);subst this;rfl
  rw[this]
 have f:rK (lq cA.dh cA.kF) b=rK (lq cA.dh cA.kF) (m.map kf):=by
  refine qL (((jJ _ b).trans d).trans (jJ _ _).symm) (fun x r y s h1 h2=>hkey x ((jJ _ b).mem_iff.1 r) y ((jJ _ b).mem_iff.1 s) ?_) (oZ (vC _ _) _) (oZ (vC _ _) _);have:=(vC cA.dh cA.kF).neg x y;have:=(vC cA.dh cA.kF).neg y x;omega
 have g:b.length=m.length:=by rw[d.length_eq,aj0]
 have z:En (lq cA.dh cA.kF) b=some (rK (lq cA.dh cA.kF) (m.map kf),()):=by
  unfold En;rw[if_pos ⟨by omega,hkey⟩,f]
 have k:(rK (lq cA.dh cA.kF) (m.map kf)).length=b.length:=by rw[qf,aj0,g]
 generalize rK (lq cA.dh cA.kF) (m.map kf)=l at z k ⊢;have A:=abU [] [] b;simp only[List.nil_append,alg,List.length_nil,bP]at A;refine (show (Code.seq (Code.region _ _ _) (Code.seq (Code.region _ _ _) Code.ret)).wp _ _ _ _ from ?_);refine Bl (F:=FU) tok uf mixed E (by kernel_rfl) (K:=fun x t h e=>x=.ret∧gu .clean tab none [.cell 2 66,.tmp 3] ⟨t,EH h,e⟩=some (.clean (.tup [.agg [.int .i64 c,.sl false false l.length (av cv l)],.int .i64 0]),none)) ?_ ?_
 ·simp only[yP,seval,G,H,I,J,A,z,k]
 ·rintro x V W X Y o ⟨rfl,Z⟩ u;have n:Holds Tryz.f26.ntmps M none w0 ⟨V,W,X⟩ Y o:=by rw[ntmps26];exact u
  exact Kh tok n (by rw[results26];exact Z)
def abH (r:gY×Int):N6 prog Tryz.f26 (Dr 5 (ZS Tryz.f26)) (.clean (.tup [.agg [.int .i64 r.1.aA,.sl false false r.1.bk.length (av cv r.1.bk)],.int .i64 r.2])) (agH r):=by
 intro w0 M s a w hJ E;obtain⟨t0,h0,H⟩:=s;obtain⟨m,c,g,z,A,P,j1,j2,j3,j4,j5,j6,j7,Q⟩:=hJ;dsimp only at j1 j2 j3 j4 j5 j6 j7;unfold E4 at Q
 by_cases hc:m.length<=8000∧(m.map (·.1)).Nodup
 rotate_left
 ·rw[if_neg hc]at Q;cases Q
 rw[if_pos hc]at Q;cases Q;rw[ntmps26]at E;apply wp_seq;apply wp_seq;obtain⟨blk,B⟩:=E;apply wp_region_lit;refine aaZ (F:=FU) tok uf B (fun d _=>by simp) (K:=fun t h=>t=cd t0 43 (.mp 21 g)∧h=h0) (by simp only[yP,seval,j1,j2]) ?_;rintro t1 h1 a1 w1 al ⟨rfl,rfl⟩ G;refine Cs rfl G (by decide) (K:=fun t h=>t=cd (cd t0 43 (.mp 21 g)) 44 (.ptr 44 H 0)∧h=cd (cd h1 21 (some ⟨g,113,[.mpc (fE m) (iu (bV ak) m)],true,true,true⟩)) 44 (some ⟨H,900000,[.mpc (fE m) (iu (bV ak) m)],false,true,true⟩)) ?_ ?_
 ·refine eZ.mono (S4 tok G.inv (e:=H) (ty:=113) (d:=44) (k:=116) (el:=41) (x:=21) (v:=g) (v':=g) (m := .tmp 43) rfl rfl (aaP (by decide) (by rw[dx];decide) (by simp)) underlying113 (by simp[ev,az]) j2 (by decide) (by rw[dx];decide) (by decide)) fun v w' hA=>⟨_,⟨rfl,rfl⟩,y4 G (fun d I =>?_) (jq.maps fun x =>?_) hA⟩
  ·cases I;exact⟨by simp,by decide⟩
  ·show cd (cd h1 21 _) 44 _ x=_∨_
   by_cases l:x=44
   ·subst l;rw[az];exact .inr ⟨_,_,_,_,_,_,rfl⟩
   ·rw[aC _ _ l]
    by_cases R:x=21
    ·subst R;rw[az];exact .inr ⟨_,_,_,_,_,_,rfl⟩
    ·rw[aC _ _ R];exact .inl rfl
 ·rintro t2 h2 S T ao ⟨rfl,rfl⟩ U;have V:=GM U;have W:UJ m c m (cd (cd t0 43 (.mp 21 g)) 44 (.ptr 44 H 0)) (cd (cd h1 21 (some ⟨g,113,[.mpc (fE m) (iu (bV ak) m)],true,true,true⟩)) 44 (some ⟨H,900000,[.mpc (fE m) (iu (bV ak) m)],false,true,true⟩)) (H+1) :=
   ⟨_,_,[],H,900000,z,A,P,az _ _ _,az _ _ _,ajz _,by rw[akB,akO],by rw[akB,akO],by rw[aC _ _ (by decide),aC _ _ (by decide)];exact j3,by rw[aC _ _ (by decide),aC _ _ (by decide)];exact j4,by rw[aC _ _ (by decide),aC _ _ (by decide)];exact j5,by rw[aC _ _ (by decide),aC _ _ (by decide)];exact j6,by omega,List.Perm.refl _⟩
  apply wp_block;refine wp_loop_ghost (fun n a w=>∃(o:List ((Int×Int)×an)) (t:Nat->D) (h:Nat->Option Row) (e:Nat),o.length=n∧UJ m c o t h e∧Holds 65 M none w0 ⟨t,h,e⟩ a w) m.length ⟨m,_,_,_,rfl,W,V⟩ ?_;clear W V U G B j1 j2 j3 j4 j5 j6 j7;rintro n a w ⟨o,t,h,e,hn,⟨ks,vs,f,C,ty,z,A,P,i1,i2,i3,X,i5,i6,i7,i8,i9,au,J⟩,blk,B⟩;replace B:vR 65 M none w0 blk e [] t h a w:=B;apply wp_seq;apply wp_region_lit;refine Cs rfl B (by decide) (K:=fun t' h'=>(o=[]∧t'=cd t 45 (.tup [.bool false])∧h'=h)∨∃(k:Int×Int) (x:an) (b:List ((Int×Int)×an)),(o.map kf).Perm (kf (k,x)::b.map kf)∧o.length=b.length+1 ∧
   t'=cd t 45 (.tup [.bool true,.agg [.int .i64 k.1,.int .i64 k.2],.agg [.int .i64 x.bL.ax,.sl false false x.bL.aa.length (av (eI .i64) x.bL.aa),.int .i64 x.bQ.ax,.sl false false x.bQ.aa.length (av (eI .i64) x.bQ.aa)]]) ∧
   h'=cd h 44 (some ⟨C,900001,[.mpc (fE ((k,x)::b)) (iu (bV ak) ((k,x)::b))],false,true,true⟩)) ?_ ?_
  ·refine eZ.mono (XF B.inv (e:=e) (y:=44) (p := .tmp 44) rfl (by simp[ev,i1]) i2 i3 (by rw[dx];decide)) ?_;rintro v w' (⟨L,N⟩|⟨j,k,x,L,N,Y⟩)
   ·rw[X,BW]at L;have ad:o=[]:=List.map_eq_nil_iff.1 L;exact⟨_,.inl ⟨ad,rfl,rfl⟩,y4 B (fun d I=>by cases I;exact⟨by simp,by decide⟩) (jq.maps fun x =>.inl rfl) N⟩
   ·rw[X,i5]at Y;rw[X]at L;rw[i5]at N;rw[BW]at L Y;rw[G3]at N Y;rw[ajw]at L N;obtain⟨q,hq,rfl⟩:=ajx.1 L;rw[hq]at N;cases N;rw[map_eraseIdx,map_eraseIdx,<- BW,<- G3]at Y;have hp:=HE hq;refine⟨_,.inr ⟨q.1,q.2,o.eraseIdx j,hp.map kf,hp.length_eq,rfl,rfl⟩,y4 B (fun d I=>by cases I;exact⟨by simp,by decide⟩) (jq.maps fun x =>?_) Y⟩;show cd h 44 _ x=_∨_
    by_cases l:x=44
    ·subst l;rw[az];exact .inr ⟨_,_,_,_,_,_,rfl⟩
    ·rw[aC _ _ l];exact .inl rfl
  ·rintro t' h' a' w' aq (⟨rfl,rfl,rfl⟩|⟨k,x,b,p1,p2,rfl,rfl⟩) O
   ·refine HP (F:=FU) tok uf O (by decide) (by simp) (K:=fun t' i=>t'=cd (cd t 45 (.tup [.bool false])) 46 (.bool false)∧i=h') (by simp only[yP,seval]) ?_;rintro t2 h2 S T ⟨rfl,rfl⟩ E;refine (show Code.wp _ (Code.seq (Code.cond _ Code.skip (Code.exit 2)) _) _ S T from ?_);refine Bl (F:=FU) tok uf mixed E (by kernel_rfl) (K:=fun x t' i Z=>x=.exit 2∧t'=cd (cd t 45 (.tup [.bool false])) 46 (.bool false)∧i=h2∧Z=e+1) (by simp only[yP,seval]) ?_;rintro x t3 h3 e3 a3 w3 ⟨rfl,rfl,rfl,rfl⟩ ae;refine adK hc ⟨ks,vs,f,C,ty,z,A,P,?_,i2,i3,X,i5,?_,i7,?_,i9,by omega,J⟩ ae
    ·rw[aC _ _ (by decide),aC _ _ (by decide)];exact i1
    ·rw[aC _ _ (by decide),aC _ _ (by decide)];exact i6
    ·rw[aC _ _ (by decide),aC _ _ (by decide)];exact i8
   ·refine HP (F:=FU) tok uf O (by decide) (by simp) (K:=fun t' i=>t'=cd (cd t 45 (.tup [.bool true,.agg [.int .i64 k.1,.int .i64 k.2],.agg [.int .i64 x.bL.ax,.sl false false x.bL.aa.length (av (eI .i64) x.bL.aa),.int .i64 x.bQ.ax,.sl false false x.bQ.aa.length (av (eI .i64) x.bQ.aa)]])) 46 (.bool true)∧i=cd h 44 (some ⟨C,900001,[.mpc (fE ((k,x)::b)) (iu (bV ak) ((k,x)::b))],false,true,true⟩)) (by simp only[yP,seval]) ?_;rintro t2 h2 S T ⟨rfl,rfl⟩ E;refine (show Code.wp _ (Code.seq (Code.cond _ Code.skip (Code.exit 2)) (Code.block 3 (Code.seq (Code.region _ (List.toArray _) false) _))) _ S T from ?_);apply wp_seq;have hF:∃t h,(t 44=.ptr 44 C 0∧t 9=.ptr 9 z 0∧t 2=.ptr 2 A 0∧h 44=some ⟨C,900001,[.mpc (fE ((k,x)::b)) (iu (bV ak) ((k,x)::b))],false,true,true⟩∧h 9=some ⟨z,66,[.nr 118 6 P [.int .i64 c,.nx f.length (av cv f)]],false,false,true⟩∧h 2=some ⟨A,66,[.int .i64 0,.sl true true 0 []],false,false,false⟩∧t 46=.bool true)∧Holds 65 M none w0 ⟨t,h,e+1⟩ S T:=by
     refine⟨_,_,⟨?_,?_,?_,az _ _ _,?_,?_,az _ _ _⟩,E⟩
     ·rw[aC _ _ (by decide),aC _ _ (by decide)];exact i1
     ·rw[aC _ _ (by decide),aC _ _ (by decide)];exact i6
     ·rw[aC _ _ (by decide),aC _ _ (by decide)];exact i8
     ·rw[aC _ _ (by decide)];exact i7
     ·rw[aC _ _ (by decide)];exact i9
    clear E O B i1 i2 i3 X i5 i6 i7 i8 i9;clear h t;obtain⟨t,h,⟨f1,f2,f3,f4,f5,f6,f7⟩,E⟩:=hF;refine Bl (F:=FU) tok uf mixed E (by kernel_rfl) (K:=fun x t' i Z=>x=.normal∧t'=t∧i=h∧Z=e+1) (by simp only[yP,seval,f7]) ?_;rintro x' t3 h3 e3 a3 w3 ⟨rfl,rfl,rfl,rfl⟩ ⟨aa,u⟩;replace u:vR 65 M none w0 aa (e+1) [] t3 h3 a3 w3:=u;refine (show Code.wp _ (Code.block 3 (Code.seq (Code.region _ (List.toArray _) false) _)) _ a3 w3 from ?_);apply wp_block;apply wp_seq;apply wp_region_lit;refine Cs rfl u (by decide) (K:=fun t' h'=>t'=cd t3 47 (.tup [.agg [.int .i64 k.1,.int .i64 k.2],.agg [.int .i64 x.bL.ax,.sl false false x.bL.aa.length (av (eI .i64) x.bL.aa),.int .i64 x.bQ.ax,.sl false false x.bQ.aa.length (av (eI .i64) x.bQ.aa)]])∧h'=h3) ?_ ?_
    ·refine eZ.mono (S1 u.inv (e:=e+1) (y:=44) (p := .tmp 44) (k:=DB.k k) (x:=(bV ak).d x) (ks:=fE b) (vs:=iu (bV ak) b) rfl (by simp[ev,f1]) f4 (by rw[dx];decide)) fun v w' hA=>⟨_,⟨rfl,rfl⟩,y4 u (fun d I=>by cases I;exact⟨by simp,by decide⟩) (jq.refl _ _) hA⟩
    ·rintro t4 h4 a4 w4 ar ⟨rfl,rfl⟩ ag;refine HP (F:=FU) tok uf ag (by decide) (by simp) (K:=fun t' h'=>t' 44=.ptr 44 C 0∧t' 9=.ptr 9 z 0∧t' 2=.ptr 2 A 0∧t' 10=.ptr 10 (e+1) 0∧t' 11=.ptr 11 (e+1) 0 ∧
      h' 44=some ⟨C,900001,[.mpc (fE ((k,x)::b)) (iu (bV ak) ((k,x)::b))],false,true,true⟩∧h' 9=some ⟨z,66,[.nr 118 6 P [.int .i64 c,.nx f.length (av cv f)]],false,false,true⟩∧h' 2=some ⟨A,66,[.int .i64 0,.sl true true 0 []],false,false,false⟩ ∧
      h' 10=some ⟨e+1,116,[.int .i64 k.1,.int .i64 k.2],false,false,false⟩∧h' 11=some ⟨e+1,41,[.int .i64 x.bL.ax,.sl false false x.bL.aa.length (av (eI .i64) x.bL.aa),.int .i64 x.bQ.ax,.sl false false x.bQ.aa.length (av (eI .i64) x.bQ.aa)],false,false,false⟩) (by simp only[yP,seval,f1,f2,f3,f4,f5,f6]) ?_
     rintro t5 h5 a5 w5 ⟨g1,g2,g3,g4,g5,g6,g7,g8,g9,ah⟩ ai;have aw:f.length+1+b.length=m.length:=by
      have:=J.length_eq;simp only[aky,aj0]at this;omega
     have ab:pE 80 f [kf (k,x)]=some (f++[kf (k,x)]):=by
      unfold pE;have:(17592186044416:Nat)<=maxLen:=by decide
      rw[if_pos ⟨by simp;omega,by simp;omega⟩]
     obtain⟨qa,qb,qc,qd⟩:=lj cv ab;simp only[bP,kf]at qb;have bp:bump P (e+1+1)=some (4*(e+1+1)+1):=lk (by omega);refine (show Code.wp _ (Code.region _ (List.toArray _) false) _ a5 w5 from ?_);refine Bl (F:=FU) tok uf mixed ai (by kernel_rfl) (K:=fun x' t' h' Z=>x'=.normal∧Z=e+1+1+1∧t' 44=.ptr 44 C 0∧t' 9=.ptr 9 z 0∧t' 2=.ptr 2 A 0 ∧
      h' 44=some ⟨C,900001,[.mpc (fE ((k,x)::b)) (iu (bV ak) ((k,x)::b))],false,true,true⟩∧h' 9=some ⟨z,66,[.nr 118 6 (4*(e+1+1)+1) [.int .i64 c,.nx (f++[kf (k,x)]).length (av cv (f++[kf (k,x)]))]],false,false,true⟩∧h' 2=some ⟨A,66,[.int .i64 0,.sl true true 0 []],false,false,false⟩)
      (by simp only[yP,seval,g1,g2,g3,g4,g5,g6,g7,g8,g9,ah,qa,qb,qc,qd,bp,kf];exact⟨qc,qd⟩) ?_
     rintro x' t6 h6 e6 a6 w6 ⟨rfl,rfl,l1,l2,l3,l4,l5,l6⟩ aj;refine (show ∃n',n'<n∧∃(o:List ((Int×Int)×an)) (t:Nat->D) (h:Nat->Option Row) (e:Nat),o.length=n'∧UJ m c o t h e∧Holds 65 M none w0 ⟨t,h,e⟩ a6 w6 from ?_);refine⟨b.length,by omega,b,t6,h6,_,rfl,⟨_,_,_,C,900001,z,A,_,l1,l4,by decide,?_,?_,l2,l5,l3,l6,by omega,?_⟩,aj⟩
     ·rw[show 900001-900000=1 from akL (n:=900000) (m:=1)];rfl
     ·rw[show 900001-900000=1 from akL (n:=900000) (m:=1)];rfl
     ·rw[akJ];exact (List.Perm.append_left f p1.symm).trans J
def eL (l:Option (D×Row)) (d:List D):=er (gG (bV jc) (dN (bV jc))) (fun x:aK×aK=>cU x.1 x.2) (fun r:aK =>.clean (.agg [.int .i64 r.ax,.sl false false r.aa.length (av (eI .i64) r.aa)])) l d
def wv:Env:=(Am.ext bs 112 false yU)
def IP:bY prog wv:=(bY.none.add TR false)
def NT:=ai @w<|ai @Lv<|ai @yU.eq_1<|@wv.eq_1
def qJ:cr prog 60 eL:=cr.jl (mode := .clean) tok IP mixed func60 (by kernel_rfl) (fun _ _=>rfl) (fun _=>by kernel_rfl) fun⟨c,d⟩ r a=>by
 replace a:cU c d=some r:=a;apply aL rfl ntmps60 results60;simp only[jo];unfold cU at a;obtain⟨e,b,a⟩:=ae a;cases a;simp only[NT,seval,b]
def Bb (l:Option (D×Row)) (d:List D):=er (dN (ko (eI .i64))) (fun x:(List Int)=>xO x) (fun r:Int =>.clean (.int .i64 r)) l d
def La:cr prog 115 Bb:=cr.jl (mode := .clean) tok bY.none mixed func115 (by kernel_rfl) (fun _ _=>rfl) (fun _=>by kernel_rfl) fun h r a=>by
 replace a:xO h=some r:=a;apply aL rfl ntmps115 results115;simp only[jo];unfold xO at a;simp only[w,seval];obtain⟨l,i,a⟩:=ae a;refine aB (fun s t H e=>match s with|b=>t 3=sN 0∧t 6=sI h∧t 7=sN (h.length:Int)∧t 8=sN b) (fun o x t H e=>match o with|(.inl _)=>x=.exit 0∧t 3=sN 0|(.inr r)=>x=.ret∧gu .clean tab none [.tmp 2] ⟨t,EH H,e⟩=some (.clean (.int .i64 r),none)) i ?_ ?_ ?_
 ·refine⟨?_,?_,?_,?_⟩;all_goals (rfl)
 ·rintro b t H e d c a;simp only[zc]at a;simp only[w,seval,d];apply sp ay a<;>intro _ a
  ·obtain⟨n,j,a⟩:=ae a;have f:=bn (eI .i64) j;simp only[bP]at f;simp only[w,seval,d,f];apply sp ay a<;>intro _ a
   ·cases a;simp only[w,seval];refine si ⟨rfl,?_⟩;simp only[w,seval]
   ·cases a;simp only[w,seval,d];apply iQ;and_intros<;>first|rfl|(simp only[w,seval,d]<;>rfl)
  ·cases a;simp only[w,seval];apply j9;refine⟨rfl,?_⟩;all_goals ((simp only[w,seval,d]<;>rfl))
 ·rintro x t H e g;rcases l with _|p
  ·dsimp only at g a;obtain⟨rfl,k⟩:=g;cases a;simp only[w,seval,k]
  ·dsimp only at g a;obtain⟨rfl,m⟩:=g;cases a;simp only[a8,bf,cB,cL];exact m
def yR (l:Option (D×Row)) (d:List D):=er (gG (bV jc) (dN (bV jc))) (fun x:aK×aK=>y6 x.1 x.2) (fun r:aK×Int =>.clean (.tup [.agg [.int .i64 r.1.ax,.sl false false r.1.aa.length (av (eI .i64) r.1.aa)],.int .i64 r.2])) l d
def Ru (a:(List Int)):Bb none [.sl false false a.length (av (eI .i64) a)]=(xO a).map fun r:Int=>(.clean (.int .i64 r),none):=cK _ _ _ (a)
def CA:Env:=(Am.ext (Am.ext (Am.ext (Am.ext (Am.ext (Am.ext (Am.ext bs 103 false bW) 111 false fS) 113 false cJ) 114 false mV) 115 false Bb) 116 false ss) 117 false pQ)
def To:bY prog CA:=(((((((bY.none.add iw false).add tz false).add kT false).add tx false).add La false).add Hp false).add Hs false)
def kg:=ai @w<|ai @Iw<|ai @bW.eq_1<|ai @Wz<|ai @fS.eq_1<|ai @Y8<|ai @cJ.eq_1<|ai @gO<|ai @ss.eq_1<|ai @pQ.eq_1<|@CA.eq_1
def TO:cr prog 62 yR:=cr.jl (mode := .clean) tok To mixed func62 (by kernel_rfl) (fun _ _=>rfl) (fun _=>by kernel_rfl) fun⟨u,v⟩ r a=>by
 replace a:y6 u v=some r:=a;apply aL rfl ntmps62 results62;simp only[jo];unfold y6 at a;obtain⟨P,w,a⟩:=ae a;simp only[kg,seval,w];obtain⟨D,x,a⟩:=ae a;refine cV 0 (fun s t H e=>match s with|c=>∃d:Nat,∃f:Nat,∃g:Nat,t 2=.ptr 2 d 0∧t 3=.ptr 3 f 0∧t 4=.ptr 4 g 0∧t 13=.bool c∧H 2=rV d 39 [sN u.ax,sI u.aa]∧H 3=rV f 39 [sN v.ax,sI v.aa]∧H 4=rV g 39 [sN 0,.sl true true 0 []]) (fun s=>s=D) ?_ ?_
 ·rintro c t H e ⟨d,f,g,b⟩ rfl;try dsimp only at a
  simp only[kg,seval,b];apply sp ay a<;>intro _ a
  ·have B:=gO false 0 ([]);simp only[bP]at B;obtain⟨Q,y,a⟩:=ae a;cases a;simp only[kg,seval,b,B,y]
  ·simp only[kg,seval,b];apply sp ay a<;>intro _ a
   ·have C:=Ru ([u.ax,v.ax]);simp only[ck,bP,List.length_cons,akw,Nat.reduceAdd]at C;obtain⟨R,z,a⟩:=ae a;obtain⟨S,A,a⟩:=ae a;obtain⟨E,h,a⟩:=ae a;obtain⟨F,i,a⟩:=ae a;simp only[kg,seval,b,C,z,A,h,i];refine bN (by kernel_rfl) ?_;cases a;simp only[seval]
   ·obtain⟨G,j,a⟩:=ae a;simp only[kg,seval,b,j];apply sp ay a<;>intro _ a
    ·obtain⟨I,k,a⟩:=ae a;obtain⟨J,l,a⟩:=ae a;obtain⟨K,m,a⟩:=ae a;simp only[kg,seval,b,k,l,m];refine bN (by kernel_rfl) ?_;cases a;simp only[seval]
    ·obtain⟨L,n,a⟩:=ae a;obtain⟨M,o,a⟩:=ae a;obtain⟨N,p,a⟩:=ae a;simp only[kg,seval,b,n,o,p];refine bN (by kernel_rfl) ?_;cases a;simp only[seval]
 ·clear a;have a:=x;simp only[kg,seval];apply sp bU a<;>intro _ a
  ·cases a;simp only[kg,seval];rw[aD];refine⟨_,rfl,?_⟩;refine⟨0,0,0,?_,?_,?_,?_,?_,?_,?_⟩;all_goals (rfl)
  ·obtain⟨O,q,a⟩:=ae a;cases a;simp only[kg,seval,q];rw[aD];refine⟨_,rfl,?_⟩;refine⟨0,0,0,?_,?_,?_,?_,?_,?_,?_⟩;all_goals (rfl)
def dI (l:Option (D×Row)) (d:List D):=er (gG (bV ak) (dN (bV ak))) (fun x:an×an=>ik x.1 x.2) (fun r:an×Int =>.clean (.tup [.agg [.int .i64 r.1.bL.ax,.sl false false r.1.bL.aa.length (av (eI .i64) r.1.bL.aa),.int .i64 r.1.bQ.ax,.sl false false r.1.bQ.aa.length (av (eI .i64) r.1.bQ.aa)],.int .i64 r.2])) l d
def sr {β:Type} {F:an×an->Option β} {R:β->RK} (e:Int) (a:(List Int)) (f:Int) (b:(List Int)) (g:Int) (c:(List Int)) (h:Int) (d:(List Int)):er (gG (bV ak) (dN (bV ak))) F R none [.agg [.int .i64 e,.sl false false a.length (av (eI .i64) a),.int .i64 f,.sl false false b.length (av (eI .i64) b)],.agg [.int .i64 g,.sl false false c.length (av (eI .i64) c),.int .i64 h,.sl false false d.length (av (eI .i64) d)]]=(F ((an.mk (aK.mk e a) (aK.mk f b)),(an.mk (aK.mk g c) (aK.mk h d)))).map fun r=>(R r,none):=cK _ _ _ ((an.mk (aK.mk e a) (aK.mk f b)),(an.mk (aK.mk g c) (aK.mk h d)))
def Av:Env:=(Am.ext (Am.ext (Am.ext (Am.ext bs 54 false bh) 60 false eL) 62 false yR) 63 false gB)
def PJ:bY prog Av:=((((bY.none.add ff false).add qJ false).add TO false).add uo false)
def lW:=ai @w<|ai @kh<|ai @bh.eq_1<|ai @Lv<|ai @eL.eq_1<|ai @yR.eq_1<|ai @gB.eq_1<|@Av.eq_1
def ov:cr prog 23 dI:=cr.jl (mode := .clean) tok PJ mixed func23 (by kernel_rfl) (fun _ _=>rfl) (fun _=>by kernel_rfl) fun⟨h,i⟩ r a=>by
 replace a:ik h i=some r:=a;apply aL rfl ntmps23 results23;simp only[jo];unfold ik at a;obtain⟨w,k,a⟩:=ae a;simp only[lW,seval,k];obtain⟨u,l,a⟩:=ae a;refine cV 0 (fun s t H e=>match s with|b=>∃c:Nat,∃d:Nat,∃f:Nat,t 2=.ptr 2 c 0∧t 3=.ptr 3 d 0∧t 4=.ptr 4 f 0∧t 15=.bool b∧H 2=rV c 41 [sN h.bL.ax,sI h.bL.aa,sN h.bQ.ax,sI h.bQ.aa]∧H 3=rV d 41 [sN i.bL.ax,sI i.bL.aa,sN i.bQ.ax,sI i.bQ.aa]∧H 4=rV f 41 [sN 0,.sl true true 0 [],sN 0,.sl true true 0 []]) (fun s=>s=u) ?_ ?_
 ·rintro b t H e ⟨c,d,f,g⟩ rfl;try dsimp only at a
  simp only[lW,seval,g];apply sp ay a<;>intro _ a
  ·cases a;simp only[lW,seval,g]
  ·obtain⟨x,m,a⟩:=ae a;obtain⟨y,n,a⟩:=ae a;obtain⟨z,o,a⟩:=ae a;simp only[lW,seval,g,m,n,o];refine bN (by kernel_rfl) ?_;obtain⟨A,p,a⟩:=ae a;obtain⟨B,q,a⟩:=ae a;simp only[lW,seval,g,p,q];refine bN (by kernel_rfl) ?_;cases a;simp only[seval]
 ·clear a;have a:=l;simp only[lW,seval];apply sp bU a<;>intro _ a
  ·cases a;simp only[lW,seval];rw[aD];refine⟨_,rfl,?_⟩;refine⟨0,0,0,?_,?_,?_,?_,?_,?_,?_⟩;all_goals (rfl)
  ·obtain⟨v,j,a⟩:=ae a;cases a;simp only[lW,seval,j];rw[aD];refine⟨_,rfl,?_⟩;refine⟨0,0,0,?_,?_,?_,?_,?_,?_,?_⟩;all_goals (rfl)
def pR (l:Option (D×Row)) (d:List D):=er (gG (bV ak) (dN (bV ak))) (fun x:an×an=>sk x.1 x.2) (fun r:an =>.clean (.agg [.int .i64 r.bL.ax,.sl false false r.bL.aa.length (av (eI .i64) r.bL.aa),.int .i64 r.bQ.ax,.sl false false r.bQ.aa.length (av (eI .i64) r.bQ.aa)])) l d
def CN:Env:=(Am.ext bs 23 false dI)
def TB:bY prog CN:=(bY.none.add ov false)
def Y5:=ai @w<|ai @sr<|ai @dI.eq_1<|@CN.eq_1
def Hy:cr prog 120 pR:=cr.jl (mode := .clean) tok TB mixed func120 (by kernel_rfl) (fun _ _=>rfl) (fun _=>by kernel_rfl) fun⟨c,d⟩ r a=>by
 replace a:sk c d=some r:=a;apply aL rfl ntmps120 results120;simp only[jo];unfold sk at a;obtain⟨e,b,a⟩:=ae a;cases a;simp only[Y5,seval,b]
def qy (l:Option (D×Row)) (d:List D):=er (gG (bV jc) (dN (bV jc))) (fun x:aK×aK=>oc x.1 x.2) (fun r:Int =>.clean (.int .i64 r)) l d
def uI:Env:=(Am.ext (Am.ext (Am.ext bs 103 false bW) 110 false dX) 111 false fS)
def Gx:bY prog uI:=(((bY.none.add iw false).add pk false).add tz false)
def gQ:=ai @w<|ai @Iw<|ai @bW.eq_1<|ai @NY<|ai @dX.eq_1<|ai @Wz<|ai @fS.eq_1<|@uI.eq_1
def Hm:cr prog 59 qy:=cr.jl (mode := .clean) tok Gx mixed func59 (by kernel_rfl) (fun _ _=>rfl) (fun _=>by kernel_rfl) fun⟨g,h⟩ r a=>by
 replace a:oc g h=some r:=a;apply aL rfl ntmps59 results59;simp only[jo];unfold oc at a;obtain⟨o,i,a⟩:=ae a;simp only[gQ,seval,i];obtain⟨n,j,a⟩:=ae a;refine cV 0 (fun s t H e=>match s with|b=>∃c:Nat,∃d:Nat,t 2=.ptr 2 c 0∧t 3=.ptr 3 d 0∧t 12=.bool b∧H 2=rV c 39 [sN g.ax,sI g.aa]∧H 3=rV d 39 [sN h.ax,sI h.aa]) (fun s=>s=n) ?_ ?_
 ·rintro b t H e ⟨c,d,f⟩ rfl;try dsimp only at a
  simp only[gQ,seval,f];apply sp ay a<;>intro _ a
  ·cases a;simp only[gQ,seval]
  ·simp only[gQ,seval,f];apply sp ay a<;>intro _ a
   ·obtain⟨p,k,a⟩:=ae a;cases a;simp only[gQ,seval,f,k]
   ·obtain⟨q,l,a⟩:=ae a;simp only[gQ,seval,f,l];refine bN (by kernel_rfl) ?_;cases a;simp only[seval]
 ·clear a;have a:=j;simp only[gQ,seval];apply sp bU a<;>intro _ a
  ·cases a;simp only[gQ,seval];rw[aD];refine⟨_,rfl,?_⟩;refine⟨0,0,?_,?_,?_,?_,?_⟩;all_goals (rfl)
  ·obtain⟨u,m,a⟩:=ae a;cases a;simp only[gQ,seval,m];rw[aD];refine⟨_,rfl,?_⟩;refine⟨0,0,?_,?_,?_,?_,?_⟩;all_goals (rfl)
def iJ (l:Option (D×Row)) (d:List D):=er (gG (bV ak) (dN (bV ak))) (fun x:an×an=>jv x.1 x.2) (fun r:Int =>.clean (.int .i64 r)) l d
def tj:Env:=(Am.ext (Am.ext (Am.ext bs 54 false bh) 59 false qy) 60 false eL)
def EG:bY prog tj:=(((bY.none.add ff false).add Hm false).add qJ false)
def iV:=ai @w<|ai @kh<|ai @bh.eq_1<|ai @Lv<|ai @qy.eq_1<|ai @eL.eq_1<|@tj.eq_1
def xb:cr prog 20 iJ:=cr.jl (mode := .clean) tok EG mixed func20 (by kernel_rfl) (fun _ _=>rfl) (fun _=>by kernel_rfl) fun⟨f,g⟩ r a=>by
 replace a:jv f g=some r:=a;apply aL rfl ntmps20 results20;simp only[jo];unfold jv at a;obtain⟨p,i,a⟩:=ae a;simp only[iV,seval,i];obtain⟨o,j,a⟩:=ae a;refine cV 0 (fun s t H e=>match s with|b=>∃c:Nat,∃d:Nat,t 2=.ptr 2 c 0∧t 3=.ptr 3 d 0∧t 12=.bool b∧H 2=rV c 41 [sN f.bL.ax,sI f.bL.aa,sN f.bQ.ax,sI f.bQ.aa]∧H 3=rV d 41 [sN g.bL.ax,sI g.bL.aa,sN g.bQ.ax,sI g.bQ.aa]) (fun s=>s=o) ?_ ?_
 ·rintro b t H e ⟨c,d,h⟩ rfl;try dsimp only at a
  simp only[iV,seval,h];apply sp ay a<;>intro _ a
  ·cases a;simp only[iV,seval]
  ·obtain⟨q,k,a⟩:=ae a;obtain⟨u,l,a⟩:=ae a;obtain⟨v,m,a⟩:=ae a;simp only[iV,seval,h,k,l,m];refine bN (by kernel_rfl) ?_;cases a;simp only[seval]
 ·clear a;have a:=j;simp only[iV,seval];apply sp bU a<;>intro _ a
  ·cases a;simp only[iV,seval];rw[aD];refine⟨_,rfl,?_⟩;refine⟨0,0,?_,?_,?_,?_,?_⟩;all_goals (rfl)
  ·obtain⟨w,n,a⟩:=ae a;cases a;simp only[iV,seval,n];rw[aD];refine⟨_,rfl,?_⟩;refine⟨0,0,?_,?_,?_,?_,?_⟩;all_goals (rfl)
def tW (l:Option (D×Row)) (d:List D):=er (dN (ko ak)) (fun x:(List an)=>sC x) (fun r:Bool =>.clean (.bool r)) l d
def adV {β:Type} {F:(List an)->Option β} {R:β->RK} (a:(List an)):er (dN (ko ak)) F R none [.sl false false a.length (av ak a)]=(F (a)).map fun r=>(R r,none):=cK _ _ _ (a)
def yo:Env:=(Am.ext (Am.ext (Am.ext (Am.ext (Am.ext bs 20 false iJ) 21 false cg) 24 false ca) 54 false bh) 120 false pR)
def ML:bY prog yo:=(((((bY.none.add xb false).add jA false).add jB false).add ff false).add Hy false)
def fH:=ai @w<|ai @sr<|ai @iJ.eq_1<|ai @E7<|ai @cg.eq_1<|ai @kh<|ai @ca.eq_1<|ai @bh.eq_1<|ai @pR.eq_1<|@yo.eq_1
def M8:cr prog 172 tW:=cr.jl (mode := .clean) tok ML mixed func172 (by kernel_rfl) (fun _ _=>rfl) (fun _=>by kernel_rfl) fun C r a=>by
 replace a:sC C=some r:=a;apply aL rfl ntmps172 results172;simp only[jo];unfold sC at a;obtain⟨P,D,a⟩:=ae a;simp only[fH,seval,D];obtain⟨G,E,a⟩:=ae a;refine aB (fun s t H e=>match s with|(p,h,i,j,k)=>∃l:Nat,t 3=.ptr 3 l 0∧t 7=sF ak C∧t 8=sN (C.length:Int)∧t 9=sN p∧H 3=rV l 41 [sN h,sI i,sN j,sI k]) (fun o x t H e=>match o with|(.inl (b,d,f,g))=>x=.exit 0∧∃m:Nat,t 3=.ptr 3 m 0∧H 3=rV m 41 [sN b,sI d,sN f,sI g]|(.inr r)=>x=.ret∧gu .clean tab none [.tmp 2] ⟨t,EH H,e⟩=some (.clean (.bool r),none)) E ?_ ?_ ?_
 ·refine⟨1,?_,?_,?_,?_,?_⟩;all_goals (rfl)
 ·rintro⟨p,h,i,j,k⟩ t H e ⟨l,q⟩ c a;simp only[sn]at a;simp only[fH,seval,q];apply sp ay a<;>intro _ a
  ·obtain⟨I,u,a⟩:=ae a;have n:=bn ak u;simp only[bP]at n;obtain⟨J,v,a⟩:=ae a;simp only[fH,seval,q,n,v];apply sp bU a<;>intro _ a
   ·cases a;simp only[fH,seval];refine si ⟨rfl,?_⟩;simp only[fH,seval]
   ·obtain⟨K,w,a⟩:=ae a;simp only[fH,seval,w];apply sp ay a<;>intro _ a
    ·cases a;simp only[fH,seval];refine si ⟨rfl,?_⟩;simp only[fH,seval]
    ·obtain⟨L,y,a⟩:=ae a;cases a;simp only[fH,seval,q,y];apply iQ;refine⟨l,?_⟩;and_intros<;>first|rfl|(simp only[fH,seval,q]<;>rfl)
  ·cases a;simp only[fH,seval];apply j9;refine⟨rfl,⟨l,?_,?_⟩⟩;all_goals ((simp only[fH,seval,q]<;>rfl))
 ·rintro x t H e B;rcases G with⟨b,d,f,g⟩|Q
  ·dsimp only at B a;obtain⟨rfl,⟨m,F⟩⟩:=B;obtain⟨M,z,a⟩:=ae a;obtain⟨N,A,a⟩:=ae a;simp only[fH,seval,F,z,A];refine bN (by kernel_rfl) ?_;cases a;simp only[seval]
  ·dsimp only at B a;obtain⟨rfl,O⟩:=B;cases a;simp only[a8,bf,cB,cL];exact O
def nA (l:Option (D×Row)) (d:List D):=er (dN (bV xW)) (fun x:fa=>kS x) (fun r:Bool =>.clean (.bool r)) l d
def adW {β:Type} {F:fa->Option β} {R:β->RK} (a:(List ib)) (b:(List rU)) (c:(List (List an))):er (dN (bV xW)) F R none [.agg [.sl false false a.length (av bz a),.sl false false b.length (av eA b),.sl false false c.length (av (fk ak) c)]]=(F ((fa.mk a b c))).map fun r=>(R r,none):=cK _ _ _ ((fa.mk a b c))
def rC:Env:=(Am.ext (Am.ext bs 81 false dr) 172 false tW)
def CT:bY prog rC:=((bY.none.add nk false).add M8 false)
def aG:=ai @w<|ai @I6<|ai @dr.eq_1<|ai @adV<|ai @tW.eq_1<|@rC.eq_1
def C7:cr prog 130 nA:=cr.jl (mode := .clean) tok CT mixed func130 (by kernel_rfl) (fun _ _=>rfl) (fun _=>by kernel_rfl) fun b r a=>by
 replace a:kS b=some r:=a;apply aL rfl ntmps130 results130;simp only[jo];unfold kS at a;simp only[aG,seval];obtain⟨o1,ao,a⟩:=ae a;refine cV 0 (fun s t H e=>match s with|l=>∃g:Nat,t 1=.ptr 1 g 0∧t 27=.bool l∧H 1=rV g 54 [sF bz b.aw,sF eA b.aF,sF (fk ak) b.aN]) (fun s=>s=o1) ?_ ?_
 ·rintro l t H e ⟨g,N⟩ rfl;try dsimp only at a
  simp only[aG,seval,N];apply sp ay a<;>intro _ a
  ·cases a;simp only[aG,seval]
  ·simp only[aG,seval,N];obtain⟨aq,Q,a⟩:=ae a;refine aB (fun s t H e=>match s with|D=>∃m:Nat,t 1=.ptr 1 m 0∧t 29=sF eA b.aF∧t 30=sN (b.aF.length:Int)∧t 31=sN D∧H 1=rV m 54 [sF bz b.aw,sF eA b.aF,sF (fk ak) b.aN]) (fun o x t H e=>match o with|(.inl _)=>x=.exit 0∧∃h:Nat,t 1=.ptr 1 h 0∧H 1=rV h 54 [sF bz b.aw,sF eA b.aF,sF (fk ak) b.aN]|(.inr r)=>x=.ret∧gu .clean tab none [.tmp 2] ⟨t,EH H,e⟩=some (.clean (.bool r),none)) Q ?_ ?_ ?_
   ·refine⟨g,?_⟩;and_intros<;>first|rfl|(simp only[aG,seval,N]<;>rfl)
   ·rintro D t H e ⟨m,P⟩ c a;simp only[mv]at a;simp only[aG,seval,P];apply sp ay a<;>intro _ a
    ·obtain⟨aw,R,a⟩:=ae a;have n:=bn eA R;simp only[bP]at n;obtain⟨ax,S,a⟩:=ae a;simp only[aG,seval,P,n,S];apply sp yM a<;>intro _ a
     ·simp only[aG,seval];refine bN (by kernel_rfl) ?_;cases a;refine si ⟨rfl,?_⟩;simp only[aG,seval]
     ·simp only[aG,seval];apply sp yM a<;>intro _ a
      ·simp only[aG,seval];refine bN (by kernel_rfl) ?_;cases a;refine si ⟨rfl,?_⟩;simp only[aG,seval]
      ·obtain⟨az,T,a⟩:=ae a;have E:=bn (fk ak) T;simp only[bP]at E;simp only[aG,seval,P,n,E];refine bN (by kernel_rfl) ?_;apply sp ay a<;>intro _ a
       ·cases a;simp only[aG,seval];refine si ⟨rfl,?_⟩;simp only[aG,seval]
       ·cases a;simp only[aG,seval,P];apply iQ;refine⟨m,?_⟩;and_intros<;>first|rfl|(simp only[aG,seval,P]<;>rfl)
    ·cases a;simp only[aG,seval];apply j9;refine⟨rfl,⟨m,?_,?_⟩⟩;all_goals ((simp only[aG,seval,P]<;>rfl))
   ·rintro x t H e k;rcases aq with _|rb
    ·dsimp only at k a;obtain⟨rfl,⟨h,U⟩⟩:=k;simp only[aG,seval,U];obtain⟨ar,V,a⟩:=ae a;refine aB (fun s t H e=>match s with|d=>∃C:Nat,t 1=.ptr 1 C 0∧t 59=sF bz b.aw∧t 60=sN (b.aw.length:Int)∧t 61=sN d∧H 1=rV C 54 [sF bz b.aw,sF eA b.aF,sF (fk ak) b.aN]) (fun o x t H e=>match o with|(.inl _)=>x=.exit 2|(.inr r)=>x=.ret∧gu .clean tab none [.tmp 2] ⟨t,EH H,e⟩=some (.clean (.bool r),none)) V ?_ ?_ ?_
     ·refine⟨h,?_⟩;and_intros<;>first|rfl|(simp only[aG,seval,U]<;>rfl)
     ·rintro d t H e ⟨C,Zc⟩ c a;simp only[mw]at a;simp only[aG,seval,Zc];apply sp ay a<;>intro _ a
      ·obtain⟨j,W,a⟩:=ae a;have p:=bn bz W;simp only[bP]at p;obtain⟨aA,X,a⟩:=ae a;obtain⟨Y,Z,aa,F,ab⟩:=mk_one ak X;simp only[bP]at F;simp only[aG,seval,Zc,p,Y,Z,aa,F,ab];obtain⟨au,ad,a⟩:=ae a;refine aB (fun s t H e=>match s with|(G,O)=>∃q:Nat,∃u:Nat,∃v:Nat,t 1=.ptr 1 q 0∧t 5=sN d∧t 6=.ptr 6 u 0∧t 7=.buf 7 v 4 0 (O).length∧t 59=sF bz b.aw∧t 60=sN (b.aw.length:Int)∧t 61=sN d∧t 72=sN (b.aF.length:Int)∧t 73=sN G∧H 1=rV q 54 [sF bz b.aw,sF eA b.aF,sF (fk ak) b.aN]∧H 6=rV u 83 [sN j.aY,sN j.aR,sN j.aQ]∧H 7=rW v 41 (av ak O)) (fun o x t H e=>match o with|w=>x=.exit 4∧∃i:Nat,∃y:Nat,∃A:Nat,t 1=.ptr 1 i 0∧t 6=.ptr 6 y 0∧t 7=.buf 7 A 4 0 (w).length∧t 59=sF bz b.aw∧t 60=sN (b.aw.length:Int)∧t 61=sN d∧H 1=rV i 54 [sF bz b.aw,sF eA b.aF,sF (fk ak) b.aN]∧H 6=rV y 83 [sN j.aY,sN j.aR,sN j.aQ]∧H 7=rW A 41 (av ak w)) ad ?_ ?_ ?_
       ·refine⟨C,e+1,e+1+1,?_⟩;and_intros<;>first|rfl|(simp only[aG,seval,Zc]<;>rfl)
       ·rintro⟨G,O⟩ t H e ⟨q,u,v,Ze⟩ c a;simp only[iG]at a;simp only[aG,seval,Ze];apply sp ay a<;>intro _ a
        ·obtain⟨aC,ag,a⟩:=ae a;have I:=bn (fk ak) ag;simp only[bP]at I;obtain⟨f,ah,a⟩:=ae a;have J:=bn ak ah;simp only[bP]at J;obtain⟨aE,K,a⟩:=ae a;have L:=bn ak K;simp only[bP]at L;have ai:=fL ak (x':=f) (fo:=0) (cs:=[.int .i64 f.bL.ax,.sl false false f.bL.aa.length (av (eI .i64) f.bL.aa),.int .i64 f.bQ.ax,.sl false false f.bQ.aa.length (av (eI .i64) f.bQ.aa)]) K rfl (ak7 rfl);simp only[bP,Nat.add_zero]at ai;have M:=ai;simp only[putCells,List.length_cons,List.length_nil,akw,Nat.reduceAdd]at M;cases a;simp only[aG,seval,p,Ze,I,J,L,M];apply iQ;refine⟨q,u,v,?_⟩;and_intros<;>first|rfl|(simp only[aG,seval,Ze]<;>rfl)
        ·cases a;simp only[aG,seval];apply j9;refine⟨rfl,⟨q,u,v,?_,?_,?_,?_,?_,?_,?_,?_,?_⟩⟩;all_goals ((simp only[aG,seval,Ze]<;>rfl))
       ·rintro x t H e k;obtain⟨w,rfl⟩:∃z,z=au:=⟨_,rfl⟩;dsimp only at k a;obtain⟨rfl,⟨i,y,A,B⟩⟩:=k;obtain⟨aF,aj,a⟩:=ae a;simp only[aG,seval,B,aj];apply sp bU a<;>intro _ a
        ·cases a;simp only[aG,seval];refine si ⟨rfl,?_⟩;simp only[aG,seval]
        ·simp only[aG,seval,B];apply sp bU a<;>intro _ a
         ·cases a;simp only[aG,seval];refine si ⟨rfl,?_⟩;simp only[aG,seval]
         ·obtain⟨aH,al,a⟩:=ae a;simp only[aG,seval,B,al];apply sp ay a<;>intro _ a
          ·cases a;simp only[aG,seval];refine si ⟨rfl,?_⟩;simp only[aG,seval]
          ·cases a;simp only[aG,seval,B];apply iQ;refine⟨i,?_⟩;and_intros<;>first|rfl|(simp only[aG,seval,B]<;>rfl)
      ·cases a;simp only[aG,seval];apply j9;exact rfl
     ·rintro x t H e k;rcases ar with _|rc
      ·dsimp only at k a;subst k;cases a;simp only[aG,seval]
      ·dsimp only at k a;obtain⟨rfl,hE⟩:=k;cases a;simp only[a8,bf,cB,cL];exact hE
    ·dsimp only at k a;obtain⟨rfl,hE⟩:=k;cases a;simp only[a8,bf,cB,cL];exact hE
 ·clear a;have a:=ao;simp only[aG,seval];apply sp bU a<;>intro _ a
  ·cases a;simp only[aG,seval];rw[aD];refine⟨_,rfl,?_⟩;refine⟨0,?_,?_,?_⟩;all_goals (rfl)
  ·simp only[aG,seval];apply sp bU a<;>intro _ a
   ·cases a;simp only[aG,seval];rw[aD];refine⟨_,rfl,?_⟩;refine⟨0,?_,?_,?_⟩;all_goals (rfl)
   ·cases a;simp only[aG,seval];rw[aD];refine⟨_,rfl,?_⟩;refine⟨0,?_,?_,?_⟩;all_goals (rfl)
def rQ (l:Option (D×Row)) (d:List D):=er (gG (bV gr) (dN (Xk (eI .i64)))) (fun x:gC×Int=>ql x.1 x.2) (fun r:Bool =>.clean (.bool r)) l d
def ahx {β:Type} {F:gC×Int->Option β} {R:β->RK} (a:Int) (b:Int) (c:Int):er (gG (bV gr) (dN (Xk (eI .i64)))) F R none [.agg [.int .i64 a,.int .i64 b],.ip [.int .i64 c]]=(F ((gC.mk a b),c)).map fun r=>(R r,none):=cK _ _ _ ((gC.mk a b),c)
def wy:Env:=(Am.ext bs 81 false dr)
def IS:bY prog wy:=(bY.none.add nk false)
def wU:=ai @w<|ai @I6<|ai @dr.eq_1<|@wy.eq_1
def I0:cr prog 131 rQ:=cr.jl (mode := .clean) tok IS mixed func131 (by kernel_rfl) (fun _ _=>rfl) (fun _=>by kernel_rfl) fun⟨d,e⟩ r a=>by
 replace a:ql d e=some r:=a;apply aL rfl ntmps131 results131;simp only[jo];unfold ql at a;obtain⟨f,b,a⟩:=ae a;simp only[wU,seval,b];apply sp bU a<;>intro _ a
 ·cases a;simp only[wU,seval]
 ·obtain⟨g,c,a⟩:=ae a;cases a;simp only[wU,seval,c]
def rR (l:Option (D×Row)) (d:List D):=er (gG (aI .i64) (dN (Xk (eI .i64)))) (fun x:Int×Int=>qm x.1 x.2) (fun r:Bool =>.clean (.bool r)) l d
def ahy {β:Type} {F:Int×Int->Option β} {R:β->RK} (a:Int) (b:Int):er (gG (aI .i64) (dN (Xk (eI .i64)))) F R none [.int .i64 a,.ip [.int .i64 b]]=(F (a,b)).map fun r=>(R r,none):=cK _ _ _ (a,b)
def wz:Env:=(Am.ext bs 81 false dr)
def IT:bY prog wz:=(bY.none.add nk false)
def NV:=ai @w<|ai @I6<|ai @dr.eq_1<|@wz.eq_1
def I1:cr prog 132 rR:=cr.jl (mode := .clean) tok IT mixed func132 (by kernel_rfl) (fun _ _=>rfl) (fun _=>by kernel_rfl) fun⟨c,d⟩ r a=>by
 replace a:qm c d=some r:=a;apply aL rfl ntmps132 results132;simp only[jo];unfold qm at a;obtain⟨e,b,a⟩:=ae a;cases a;simp only[NV,seval,b]
def ru:=er (dN (ko (eI .i64))) (fun x:(List Int)=>qK x) (fun r:(List Int) =>.clean (.clo 195 0 [.ip [.sl false false r.length (av (eI .i64) r)]]))
def xc (a:(List Int)):ru none [.sl false false a.length (av (eI .i64) a)]=(qK a).map fun r:(List Int)=>(.clean (.clo 195 0 [.ip [.sl false false r.length (av (eI .i64) r)]]),none):=cK _ _ _ a
def C8:cr prog 174 ru:=YZ
def ep:=er (dN (Md 195 0 (dN (Xk (fk (eI .i64)))))) (fun x:(List Int)=>dn x) (fun r:(List Int) =>.fresh 3 1 r.length (av (eI .i64) r))
def gJ (a:(List Int)):ep none [.clo 195 0 [.ip [.sl false false a.length (av (eI .i64) a)]]]=(dn a).map fun r:(List Int)=>(.fresh 3 1 r.length (av (eI .i64) r),none):=cK _ _ _ a
def k9:cr prog 173 ep:=YG
def qD (l:Option (D×Row)) (d:List D):=er (gG (ko (eI .i64)) (dN (aI .i64))) (fun x:(List Int)×Int=>lL x.1 x.2) (fun r:Bool =>.clean (.bool r)) l d
def uR:Env:=(Am.ext (Am.ext bs 173 false ep) 174 false ru)
def GH:bY prog uR:=((bY.none.add k9 false).add C8 false)
def fU:=ai @w<|ai @gJ<|ai @xc<|@uR.eq_1
def Hz:cr prog 133 qD:=cr.jl (mode := .clean) tok GH mixed func133 (by kernel_rfl) (fun _ _=>rfl) (fun _=>by kernel_rfl) fun⟨u,k⟩ r a=>by
 replace a:lL u k=some r:=a;apply aL rfl ntmps133 results133;simp only[jo];unfold lL at a;obtain⟨y,l,a⟩:=ae a;obtain⟨g,m,a⟩:=ae a;simp only[fU,seval,l,m];obtain⟨v,n,a⟩:=ae a;refine aB (fun s t H e=>match s with|f=>∃b:Nat,t 1=sN k∧t 5=.buf 5 b 1 0 (g).length∧t 11=.buf 5 b 1 0 (g).length∧t 12=sN ((g).length:Int)∧t 13=sN f∧H 5=rW b 3 (av (eI .i64) g)) (fun o x t H e=>match o with|(.inl _)=>x=.exit 0∧∃d:Nat,t 1=sN k∧t 5=.buf 5 d 1 0 (g).length∧H 5=rW d 3 (av (eI .i64) g)|(.inr r)=>x=.ret∧gu .clean tab none [.tmp 4] ⟨t,EH H,e⟩=some (.clean (.bool r),none)) n ?_ ?_ ?_
 ·refine⟨1,?_,?_,?_,?_,?_,?_⟩;all_goals (rfl)
 ·rintro f t H e ⟨b,h⟩ c a;simp only[pf]at a;simp only[fU,seval,h];apply sp ay a<;>intro _ a
  ·obtain⟨z,p,a⟩:=ae a;have i:=bn (eI .i64) p;simp only[bP]at i;simp only[fU,seval,h,i];apply sp ay a<;>intro _ a
   ·cases a;simp only[fU,seval];refine si ⟨rfl,?_⟩;simp only[fU,seval]
   ·cases a;simp only[fU,seval,h];apply iQ;refine⟨b,?_⟩;and_intros<;>first|rfl|(simp only[fU,seval,h]<;>rfl)
  ·cases a;simp only[fU,seval];apply j9;refine⟨rfl,⟨b,?_,?_,?_⟩⟩;all_goals ((simp only[fU,seval,h]<;>rfl))
 ·rintro x t H e j;rcases v with _|A
  ·dsimp only at j a;obtain⟨rfl,⟨d,q⟩⟩:=j;cases a;simp only[fU,seval,q]
  ·dsimp only at j a;obtain⟨rfl,w⟩:=j;cases a;simp only[a8,bf,cB,cL];exact w
def dS (l:Option (D×Row)) (d:List D):=er (gG (ko gr) (dN (Md 131 0 (dN (Xk (eI .i64)))))) (fun x:(List gC)×(Int)=>dp x.1 x.2) (fun r:Int =>.clean (.int .i64 r)) l d
def adX {β:Type} {F:(List gC)×(Int)->Option β} {R:β->RK} (b:(List gC)) (a:Int):er (gG (ko gr) (dN (Md 131 0 (dN (Xk (eI .i64)))))) F R none [.sl false false b.length (av gr b),.clo 131 0 [.ip [.int .i64 a]]]=(F (b,(a))).map fun r=>(R r,none):=cK _ _ _ (b,(a))
def fO:Env:=(Am.ext bs 131 false rQ)
def nQ:bY prog fO:=(bY.none.add I0 false)
def bC:=ai @w<|ai @ahx<|ai @rQ.eq_1<|@fO.eq_1
def nU:cr prog 175 dS:=cr.jl (mode := .clean) tok nQ mixed func175 (by kernel_rfl) (fun _ _=>rfl) (fun _=>by kernel_rfl) fun⟨i,b⟩ r a=>by
 replace a:dp i b=some r:=a;apply aL rfl ntmps175 results175;simp only[jo];unfold dp at a;simp only[bC,seval];obtain⟨m,j,a⟩:=ae a;refine aB (fun s t H e=>match s with|d=>t 0=sF gr i∧t 1=.clo 131 0 [.ip [sN b]]∧t 7=sN (i.length:Int)∧t 8=sN d) (fun o x t H e=>match o with|(.inl _)=>x=.exit 0|(.inr r)=>x=.ret∧gu .clean tab none [.tmp 4] ⟨t,EH H,e⟩=some (.clean (.int .i64 r),none)) j ?_ ?_ ?_
 ·refine⟨?_,?_,?_,?_⟩;all_goals (rfl)
 ·rintro d t H e g c a;simp only[dK]at a;simp only[bC,seval,g];apply sp ay a<;>intro _ a
  ·obtain⟨p,k,a⟩:=ae a;have f:=bn gr k;simp only[bP]at f;obtain⟨q,l,a⟩:=ae a;simp only[bC,seval,g,f,l];apply sp ay a<;>intro _ a
   ·cases a;simp only[bC,seval];refine si ⟨rfl,?_⟩;simp only[bC,seval]
   ·cases a;simp only[bC,seval,g];apply iQ;and_intros<;>first|rfl|(simp only[bC,seval,g]<;>rfl)
  ·cases a;simp only[bC,seval];apply j9;exact rfl
 ·rintro x t H e h;rcases m with _|u
  ·dsimp only at h a;subst h;cases a;simp only[bC,seval]
  ·dsimp only at h a;obtain⟨rfl,n⟩:=h;cases a;simp only[a8,bf,cB,cL];exact n
def dt (l:Option (D×Row)) (d:List D):=er (gG (ko gr) (dN (Md 131 0 (dN (Xk (eI .i64)))))) (fun x:(List gC)×(Int)=>ct x.1 x.2) (fun r:Bool =>.clean (.bool r)) l d
def eQ:Env:=(Am.ext bs 175 false dS)
def me:bY prog eQ:=(bY.none.add nU false)
def mT:=ai @w<|ai @adX<|ai @dS.eq_1<|@eQ.eq_1
def my:cr prog 134 dt:=cr.jl (mode := .clean) tok me mixed func134 (by kernel_rfl) (fun _ _=>rfl) (fun _=>by kernel_rfl) fun⟨d,b⟩ r a=>by
 replace a:ct d b=some r:=a;apply aL rfl ntmps134 results134;simp only[jo];unfold ct at a;obtain⟨e,c,a⟩:=ae a;cases a;simp only[mT,seval,c]
def dU (l:Option (D×Row)) (d:List D):=er (gG (ko (eI .i64)) (dN (Md 132 0 (dN (Xk (eI .i64)))))) (fun x:(List Int)×(Int)=>dq x.1 x.2) (fun r:Int =>.clean (.int .i64 r)) l d
def adY {β:Type} {F:(List Int)×(Int)->Option β} {R:β->RK} (b:(List Int)) (a:Int):er (gG (ko (eI .i64)) (dN (Md 132 0 (dN (Xk (eI .i64)))))) F R none [.sl false false b.length (av (eI .i64) b),.clo 132 0 [.ip [.int .i64 a]]]=(F (b,(a))).map fun r=>(R r,none):=cK _ _ _ (b,(a))
def fP:Env:=(Am.ext bs 132 false rR)
def nR:bY prog fP:=(bY.none.add I1 false)
def bD:=ai @w<|ai @ahy<|ai @rR.eq_1<|@fP.eq_1
def nV:cr prog 176 dU:=cr.jl (mode := .clean) tok nR mixed func176 (by kernel_rfl) (fun _ _=>rfl) (fun _=>by kernel_rfl) fun⟨i,b⟩ r a=>by
 replace a:dq i b=some r:=a;apply aL rfl ntmps176 results176;simp only[jo];unfold dq at a;simp only[bD,seval];obtain⟨m,j,a⟩:=ae a;refine aB (fun s t H e=>match s with|d=>t 0=sI i∧t 1=.clo 132 0 [.ip [sN b]]∧t 7=sN (i.length:Int)∧t 8=sN d) (fun o x t H e=>match o with|(.inl _)=>x=.exit 0|(.inr r)=>x=.ret∧gu .clean tab none [.tmp 4] ⟨t,EH H,e⟩=some (.clean (.int .i64 r),none)) j ?_ ?_ ?_
 ·refine⟨?_,?_,?_,?_⟩;all_goals (rfl)
 ·rintro d t H e g c a;simp only[dL]at a;simp only[bD,seval,g];apply sp ay a<;>intro _ a
  ·obtain⟨p,k,a⟩:=ae a;have f:=bn (eI .i64) k;simp only[bP]at f;obtain⟨q,l,a⟩:=ae a;simp only[bD,seval,g,f,l];apply sp ay a<;>intro _ a
   ·cases a;simp only[bD,seval];refine si ⟨rfl,?_⟩;simp only[bD,seval]
   ·cases a;simp only[bD,seval,g];apply iQ;and_intros<;>first|rfl|(simp only[bD,seval,g]<;>rfl)
  ·cases a;simp only[bD,seval];apply j9;exact rfl
 ·rintro x t H e h;rcases m with _|u
  ·dsimp only at h a;subst h;cases a;simp only[bD,seval]
  ·dsimp only at h a;obtain⟨rfl,n⟩:=h;cases a;simp only[a8,bf,cB,cL];exact n
def du (l:Option (D×Row)) (d:List D):=er (gG (ko (eI .i64)) (dN (Md 132 0 (dN (Xk (eI .i64)))))) (fun x:(List Int)×(Int)=>cu x.1 x.2) (fun r:Bool =>.clean (.bool r)) l d
def eR:Env:=(Am.ext bs 176 false dU)
def mf:bY prog eR:=(bY.none.add nV false)
def mU:=ai @w<|ai @adY<|ai @dU.eq_1<|@eR.eq_1
def mz:cr prog 135 du:=cr.jl (mode := .clean) tok mf mixed func135 (by kernel_rfl) (fun _ _=>rfl) (fun _=>by kernel_rfl) fun⟨d,b⟩ r a=>by
 replace a:cu d b=some r:=a;apply aL rfl ntmps135 results135;simp only[jo];unfold cu at a;obtain⟨e,c,a⟩:=ae a;cases a;simp only[mU,seval,c]
def vO (l:Option (D×Row)) (d:List D):=er (gG (bV bx) (dN (aI .i64))) (fun x:bj×Int=>vt x.1 x.2) (fun r:Bool =>.clean (.bool r)) l d
def ahz {β:Type} {F:bj×Int->Option β} {R:β->RK} (a:(List ib)) (b:(List rU)) (c:(List (List an))) (d:(List gC)) (e:(List Int)) (f:Int):er (gG (bV bx) (dN (aI .i64))) F R none [.agg [.sl false false a.length (av bz a),.sl false false b.length (av eA b),.sl false false c.length (av (fk ak) c),.sl false false d.length (av gr d),.sl false false e.length (av (eI .i64) e)],.int .i64 f]=(F ((bj.mk (fa.mk a b c) d e),f)).map fun r=>(R r,none):=cK _ _ _ ((bj.mk (fa.mk a b c) d e),f)
def AE:Env:=(Am.ext (Am.ext (Am.ext (Am.ext bs 130 false nA) 133 false qD) 134 false dt) 135 false du)
def PT:bY prog AE:=((((bY.none.add C7 false).add Hz false).add my false).add mz false)
def cj:=ai @w<|ai @adW<|ai @nA.eq_1<|ai @sh7<|ai @qD.eq_1<|ai @adX<|ai @dt.eq_1<|ai @adY<|ai @du.eq_1<|@AE.eq_1
def Rc:cr prog 82 vO:=cr.jl (mode := .clean) tok PT mixed func82 (by kernel_rfl) (fun _ _=>rfl) (fun _=>by kernel_rfl) fun⟨b,O⟩ r a=>by
 replace a:vt b O=some r:=a;apply aL rfl ntmps82 results82;simp only[jo];unfold vt at a;obtain⟨r1,aj,a⟩:=ae a;simp only[cj,seval,aj];apply sp ay a<;>intro _ a
 ·cases a;simp only[cj,seval]
 ·simp only[cj,seval];obtain⟨o8,al,a⟩:=ae a;refine aB (fun s t H e=>match s with|(D,K)=>∃j:Nat,∃k:Nat,∃q:Nat,∃l:Nat,t 2=.ptr 2 j 0∧t 3=.ptr 3 k 0∧t 5=.buf 5 q 1 0 (K).length∧t 6=.buf 6 l 1 0 0∧t 19=sF bz b.au.aw∧t 20=sN (b.au.aw.length:Int)∧t 21=sN D∧H 2=rV j 57 [sF bz b.au.aw,sF eA b.au.aF,sF (fk ak) b.au.aN,sF gr b.bc,sI b.aA]∧H 3=rV k 3 [sN O]∧H 5=rW q 3 (av (eI .i64) K)∧H 6=rW l 3 []) (fun o x t H e=>match o with|d=>x=.exit 0∧∃f:Nat,∃g:Nat,∃h:Nat,∃i:Nat,t 2=.ptr 2 f 0∧t 3=.ptr 3 g 0∧t 5=.buf 5 h 1 0 (d).length∧t 6=.buf 6 i 1 0 0∧H 2=rV f 57 [sF bz b.au.aw,sF eA b.au.aF,sF (fk ak) b.au.aN,sF gr b.bc,sI b.aA]∧H 3=rV g 3 [sN O]∧H 5=rW h 3 (av (eI .i64) d)∧H 6=rW i 3 []) al ?_ ?_ ?_
  ·refine⟨0,0,2,2,?_,?_,?_,?_,?_,?_,?_,?_,?_,?_,?_⟩;all_goals (rfl)
  ·rintro⟨D,K⟩ t H e ⟨j,k,q,l,L⟩ c a;simp only[ot]at a;simp only[cj,seval,L];apply sp ay a<;>intro _ a
   ·obtain⟨aq,P,a⟩:=ae a;have E:=bn bz P;simp only[bP]at E;simp only[cj,seval,L,E];apply sp ay a<;>intro _ a
    ·obtain⟨ar,Q,a⟩:=ae a;obtain⟨R,F,S,T⟩:=lj (eI .i64) Q;simp only[bP]at F;cases a;simp only[cj,seval,L,R,F,S,T];apply iQ;refine⟨j,k,e+1+1+1,l,?_⟩;and_intros<;>first|rfl|(simp only[cj,seval,L]<;>rfl)
    ·cases a;simp only[cj,seval,L];apply iQ;refine⟨j,k,q,l,?_⟩;and_intros<;>first|rfl|(simp only[cj,seval,L]<;>rfl)
   ·cases a;simp only[cj,seval];apply j9;refine⟨rfl,⟨j,k,q,l,?_,?_,?_,?_,?_,?_,?_,?_⟩⟩;all_goals ((simp only[cj,seval,L]<;>rfl))
  ·rintro x t H e U;obtain⟨d,rfl⟩:∃z,z=o8:=⟨_,rfl⟩;dsimp only at U a;obtain⟨rfl,⟨f,g,h,i,V⟩⟩:=U;simp only[cj,seval,V];obtain⟨ao,W,a⟩:=ae a;refine aB (fun s t H e=>match s with|(G,M)=>∃m:Nat,∃n:Nat,∃p:Nat,∃u:Nat,t 2=.ptr 2 m 0∧t 3=.ptr 3 n 0∧t 5=.buf 5 p 1 0 (d).length∧t 6=.buf 6 u 1 0 (M).length∧t 36=sF eA b.au.aF∧t 37=sN (b.au.aF.length:Int)∧t 38=sN G∧H 2=rV m 57 [sF bz b.au.aw,sF eA b.au.aF,sF (fk ak) b.au.aN,sF gr b.bc,sI b.aA]∧H 3=rV n 3 [sN O]∧H 5=rW p 3 (av (eI .i64) d)∧H 6=rW u 3 (av (eI .i64) M)) (fun o x t H e=>match o with|v=>x=.exit 2∧∃w:Nat,∃y:Nat,∃A:Nat,∃B:Nat,t 2=.ptr 2 w 0∧t 3=.ptr 3 y 0∧t 5=.buf 5 A 1 0 (d).length∧t 6=.buf 6 B 1 0 (v).length∧H 2=rV w 57 [sF bz b.au.aw,sF eA b.au.aF,sF (fk ak) b.au.aN,sF gr b.bc,sI b.aA]∧H 3=rV y 3 [sN O]∧H 5=rW A 3 (av (eI .i64) d)∧H 6=rW B 3 (av (eI .i64) v)) W ?_ ?_ ?_
   ·refine⟨f,g,h,i,?_⟩;and_intros<;>first|rfl|(simp only[cj,seval,V]<;>rfl)
   ·rintro⟨G,M⟩ t H e ⟨m,n,p,u,N⟩ c a;simp only[ou]at a;simp only[cj,seval,N];apply sp ay a<;>intro _ a
    ·obtain⟨au,X,a⟩:=ae a;have I:=bn eA X;simp only[bP]at I;simp only[cj,seval,N,I];apply sp ay a<;>intro _ a
     ·obtain⟨aw,Y,a⟩:=ae a;obtain⟨Z,J,aa,ab⟩:=lj (eI .i64) Y;simp only[bP]at J;cases a;simp only[cj,seval,N,Z,J,aa,ab];apply iQ;refine⟨m,n,p,e+1+1+1,?_⟩;and_intros<;>first|rfl|(simp only[cj,seval,N]<;>rfl)
     ·cases a;simp only[cj,seval,N];apply iQ;refine⟨m,n,p,u,?_⟩;and_intros<;>first|rfl|(simp only[cj,seval,N]<;>rfl)
    ·cases a;simp only[cj,seval];apply j9;refine⟨rfl,⟨m,n,p,u,?_,?_,?_,?_,?_,?_,?_,?_⟩⟩;all_goals ((simp only[cj,seval,N]<;>rfl))
   ·rintro x t H e U;obtain⟨v,rfl⟩:∃z,z=ao:=⟨_,rfl⟩;dsimp only at U a;obtain⟨rfl,⟨w,y,A,B,C⟩⟩:=U;obtain⟨ax,ad,a⟩:=ae a;simp only[cj,seval,C,ad];apply sp fM a<;>intro _ a
    ·obtain⟨az,ag,a⟩:=ae a;simp only[cj,seval,C,ag];apply sp fM a<;>intro _ a
     ·obtain⟨aA,ah,a⟩:=ae a;simp only[cj,seval,C,ah];apply sp fM a<;>intro _ a
      ·obtain⟨aC,ai,a⟩:=ae a;cases a;simp only[cj,seval,C,ai]
      ·cases a;simp only[cj,seval]
     ·cases a;simp only[cj,seval]
    ·cases a;simp only[cj,seval]
def iy (l:Option (D×Row)) (d:List D):=er (dN (bV jP)) (fun x:aX=>oo x) (fun r:Int×Int =>.clean (.tup [.int .i64 r.1,.int .i64 r.2])) l d
def RU {β:Type} {F:aX->Option β} {R:β->RK} (a:(List Int)) (b:(List bj)):er (dN (bV jP)) F R none [.agg [.sl false false a.length (av (eI .i64) a),.sl false false b.length (av bx b)]]=(F ((aX.mk a b))).map fun r=>(R r,none):=cK _ _ _ ((aX.mk a b))
def yk:Env:=(Am.ext (Am.ext bs 81 false dr) 82 false vO)
def MH:bY prog yk:=((bY.none.add nk false).add Rc false)
def aM:=ai @w<|ai @I6<|ai @dr.eq_1<|ai @ahz<|ai @vO.eq_1<|@yk.eq_1
def wG:cr prog 39 iy:=cr.jl (mode := .clean) tok MH mixed func39 (by kernel_rfl) (fun _ _=>rfl) (fun _=>by kernel_rfl) fun b r a=>by
 replace a:oo b=some r:=a;apply aL rfl ntmps39 results39;simp only[jo];unfold oo at a;simp only[aM,seval];obtain⟨o1,bq,a⟩:=ae a;refine cV 0 (fun s t H e=>match s with|G=>∃l:Nat,t 1=.ptr 1 l 0∧t 27=.bool G∧H 1=rV l 25 [sI b.al,sF bx b.ah]) (fun s=>s=o1) ?_ ?_
 ·rintro G t H e ⟨l,aG⟩ rfl;try dsimp only at a
  simp only[aM,seval,aG];apply sp ay a<;>intro _ a
  ·cases a;simp only[aM,seval]
  ·simp only[aM,seval,aG];obtain⟨o7,br,a⟩:=ae a;refine aB (fun s t H e=>match s with|aj=>∃I:Nat,t 1=.ptr 1 I 0∧t 29=sI b.al∧t 30=sN (b.al.length:Int)∧t 31=sN aj∧H 1=rV I 25 [sI b.al,sF bx b.ah]) (fun o x t H e=>match o with|(.inl _)=>x=.exit 0∧∃m:Nat,t 1=.ptr 1 m 0∧H 1=rV m 25 [sI b.al,sF bx b.ah]|(.inr r)=>x=.ret∧gu .clean tab none [.tmp 2,.tmp 3] ⟨t,EH H,e⟩=some (.clean (.tup [.int .i64 r.1,.int .i64 r.2]),none)) br ?_ ?_ ?_
   ·refine⟨l,?_⟩;and_intros<;>first|rfl|(simp only[aM,seval,aG]<;>rfl)
   ·rintro aj t H e ⟨I,Zb⟩ c a;simp only[mh]at a;simp only[aM,seval,Zb];apply sp ay a<;>intro _ a
    ·obtain⟨x9,bs,a⟩:=ae a;have aK:=bn (eI .i64) bs;simp only[bP]at aK;obtain⟨bG,aN,a⟩:=ae a;simp only[aM,seval,Zb,aK,aN];apply sp ay a<;>intro _ a
     ·cases a;simp only[aM,seval];refine si ⟨rfl,?_⟩;simp only[aM,seval]
     ·cases a;simp only[aM,seval,Zb];apply iQ;refine⟨I,?_⟩;and_intros<;>first|rfl|(simp only[aM,seval,Zb]<;>rfl)
    ·cases a;simp only[aM,seval];apply j9;refine⟨rfl,⟨I,?_,?_⟩⟩;all_goals ((simp only[aM,seval,Zb]<;>rfl))
   ·rintro x t H e g;rcases o7 with _|rb
    ·dsimp only at g a;obtain⟨rfl,⟨m,aO⟩⟩:=g;obtain⟨bH,al,a⟩:=ae a;obtain⟨aP,aQ,aR,ao,aS⟩:=mk_one (eI .i64) al;simp only[bP]at ao;obtain⟨bC,bD,bE,aT,bF⟩:=mk_one (eI .i64) al;simp only[bP]at aT;simp only[aM,seval,aO,aP,aQ,aR,ao,aS];refine bN (by kernel_rfl) ?_;obtain⟨bt,aU,a⟩:=ae a;refine aB (fun s t H e=>match s with|(i,aH,k)=>∃J:Nat,∃K:Nat,∃L:Nat,t 1=.ptr 1 J 0∧t 6=.buf 6 K 1 0 (aH).length∧t 7=.buf 7 L 1 0 (k).length∧t 50=sF bx b.ah∧t 51=sN (b.ah.length:Int)∧t 52=sN i∧H 1=rV J 25 [sI b.al,sF bx b.ah]∧H 6=rW K 3 (av (eI .i64) aH)∧H 7=rW L 3 (av (eI .i64) k)) (fun o x t H e=>match o with|(.inl (j,d))=>x=.exit 2∧∃n:Nat,∃p:Nat,∃q:Nat,t 1=.ptr 1 n 0∧t 6=.buf 6 p 1 0 (j).length∧t 7=.buf 7 q 1 0 (d).length∧H 1=rV n 25 [sI b.al,sF bx b.ah]∧H 6=rW p 3 (av (eI .i64) j)∧H 7=rW q 3 (av (eI .i64) d)|(.inr r)=>x=.ret∧gu .clean tab none [.tmp 2,.tmp 3] ⟨t,EH H,e⟩=some (.clean (.tup [.int .i64 r.1,.int .i64 r.2]),none)) aU ?_ ?_ ?_
     ·refine⟨m,e,e,?_⟩;and_intros<;>first|rfl|(simp only[aM,seval,aO]<;>rfl)
     ·rintro⟨i,aH,k⟩ t H e ⟨J,K,L,Zc⟩ c a;simp only[ku]at a;simp only[aM,seval,Zc];apply sp ay a<;>intro _ a
      ·obtain⟨f,aV,a⟩:=ae a;have aq:=bn bx aV;simp only[bP]at aq;obtain⟨bI,aW,a⟩:=ae a;simp only[aM,seval,Zc,aq,aW];apply sp ay a<;>intro _ a
       ·cases a;simp only[aM,seval];refine si ⟨rfl,?_⟩;simp only[aM,seval]
       ·simp only[aM,seval];obtain⟨bu,aY,a⟩:=ae a;refine aB (fun s t H e=>match s with|(ar,aI)=>∃M:Nat,∃N:Nat,∃O:Nat,∃P:Nat,t 1=.ptr 1 M 0∧t 6=.buf 6 N 1 0 (aI).length∧t 7=.buf 7 O 1 0 (k).length∧t 9=.ptr 9 P 0∧t 50=sF bx b.ah∧t 51=sN (b.ah.length:Int)∧t 52=sN i∧t 65=sI f.aA∧t 66=sN (f.aA.length:Int)∧t 67=sN ar∧H 1=rV M 25 [sI b.al,sF bx b.ah]∧H 6=rW N 3 (av (eI .i64) aI)∧H 7=rW O 3 (av (eI .i64) k)∧H 9=rV P 57 [sF bz f.au.aw,sF eA f.au.aF,sF (fk ak) f.au.aN,sF gr f.bc,sI f.aA]) (fun o x t H e=>match o with|h=>x=.exit 4∧∃u:Nat,∃v:Nat,∃w:Nat,∃Q:Nat,t 1=.ptr 1 u 0∧t 6=.buf 6 v 1 0 (h).length∧t 7=.buf 7 w 1 0 (k).length∧t 9=.ptr 9 Q 0∧t 50=sF bx b.ah∧t 51=sN (b.ah.length:Int)∧t 52=sN i∧H 1=rV u 25 [sI b.al,sF bx b.ah]∧H 6=rW v 3 (av (eI .i64) h)∧H 7=rW w 3 (av (eI .i64) k)∧H 9=rV Q 57 [sF bz f.au.aw,sF eA f.au.aF,sF (fk ak) f.au.aN,sF gr f.bc,sI f.aA]) aY ?_ ?_ ?_
        ·refine⟨J,K,L,e+1,?_⟩;and_intros<;>first|rfl|(simp only[aM,seval,Zc]<;>rfl)
        ·rintro⟨ar,aI⟩ t H e ⟨M,N,O,P,Zf⟩ c a;simp only[mi]at a;simp only[aM,seval,Zf];apply sp ay a<;>intro _ a
         ·obtain⟨bJ,aZ,a⟩:=ae a;have au:=bn (eI .i64) aZ;simp only[bP]at au;obtain⟨a1,R,a⟩:=ae a;have y:=bn (eI .i64) R;simp only[bP]at y;have y:=bn (eI .i64) R;simp only[bP]at y;have a6:=fL (eI .i64) (x':=IntKind.i64.wrap (a1+1)) (fo:=0) (cs:=[.int .i64 (IntKind.i64.wrap (a1+1))]) R rfl (ak7 rfl);simp only[bP,Nat.add_zero]at a6;have aw:=a6;simp only[putCells,List.length_cons,List.length_nil,akw]at aw;cases a;simp only[aM,seval,Zf,au,y,aw];apply iQ;refine⟨M,N,O,P,?_⟩;and_intros<;>first|rfl|(simp only[aM,seval,Zf]<;>rfl)
         ·cases a;simp only[aM,seval];apply j9;refine⟨rfl,⟨M,N,O,P,?_,?_,?_,?_,?_,?_,?_,?_,?_,?_,?_⟩⟩;all_goals ((simp only[aM,seval,Zf]<;>rfl))
        ·rintro x t H e g;obtain⟨h,rfl⟩:∃z,z=bu:=⟨_,rfl⟩;dsimp only at g a;obtain⟨rfl,⟨u,v,w,Q,a7⟩⟩:=g;simp only[aM,seval,a7];obtain⟨bw,ba,a⟩:=ae a;refine aB (fun s t H e=>match s with|(ax,aJ)=>∃S:Nat,∃T:Nat,∃U:Nat,t 1=.ptr 1 S 0∧t 6=.buf 6 T 1 0 (h).length∧t 7=.buf 7 U 1 0 (aJ).length∧t 50=sF bx b.ah∧t 51=sN (b.ah.length:Int)∧t 52=sN i∧t 79=sF gr f.bc∧t 80=sN (f.bc.length:Int)∧t 81=sN ax∧H 1=rV S 25 [sI b.al,sF bx b.ah]∧H 6=rW T 3 (av (eI .i64) h)∧H 7=rW U 3 (av (eI .i64) aJ)) (fun o x t H e=>match o with|V=>x=.exit 6∧∃A:Nat,∃B:Nat,∃C:Nat,t 1=.ptr 1 A 0∧t 6=.buf 6 B 1 0 (h).length∧t 7=.buf 7 C 1 0 (V).length∧t 50=sF bx b.ah∧t 51=sN (b.ah.length:Int)∧t 52=sN i∧H 1=rV A 25 [sI b.al,sF bx b.ah]∧H 6=rW B 3 (av (eI .i64) h)∧H 7=rW C 3 (av (eI .i64) V)) ba ?_ ?_ ?_
         ·refine⟨u,v,w,?_⟩;and_intros<;>first|rfl|(simp only[aM,seval,a7]<;>rfl)
         ·rintro⟨ax,aJ⟩ t H e ⟨S,T,U,Zg⟩ c a;simp only[mj]at a;simp only[aM,seval,Zg];apply sp ay a<;>intro _ a
          ·obtain⟨ab,bb,a⟩:=ae a;have az:=bn gr bb;simp only[bP]at az;obtain⟨ad,W,a⟩:=ae a;have D:=bn (eI .i64) W;simp only[bP]at D;have D:=bn (eI .i64) W;simp only[bP]at D;have bc:=fL (eI .i64) (x':=(if 1099511627777<(IntKind.i64.wrap (ad+ab.aQ)) then 1099511627777 else IntKind.i64.wrap (ad+ab.aQ))) (fo:=0) (cs:=[.int .i64 (if 1099511627777<(IntKind.i64.wrap (ad+ab.aQ)) then 1099511627777 else IntKind.i64.wrap (ad+ab.aQ))]) W rfl (ak7 rfl);simp only[bP,Nat.add_zero]at bc;have aA:=bc;simp only[putCells,List.length_cons,List.length_nil,akw]at aA;simp only[aM,seval,Zg,az,D,aA];refine bN (by kernel_rfl) ?_;cases a;apply iQ;refine⟨S,T,U,?_⟩;and_intros<;>first|rfl|(simp only[aM,seval,Zg]<;>rfl)
          ·cases a;simp only[aM,seval];apply j9;refine⟨rfl,⟨S,T,U,?_,?_,?_,?_,?_,?_,?_,?_,?_⟩⟩;all_goals ((simp only[aM,seval,Zg]<;>rfl))
         ·rintro x t H e g;obtain⟨V,rfl⟩:∃z,z=bw:=⟨_,rfl⟩;dsimp only at g a;obtain⟨rfl,⟨A,B,C,bd⟩⟩:=g;cases a;simp only[aM,seval,bd];apply iQ;refine⟨A,B,C,?_⟩;and_intros<;>first|rfl|(simp only[aM,seval,bd]<;>rfl)
      ·cases a;simp only[aM,seval];apply j9;refine⟨rfl,⟨J,K,L,?_,?_,?_,?_,?_,?_⟩⟩;all_goals ((simp only[aM,seval,Zc]<;>rfl))
     ·rintro x t H e g;rcases bt with⟨j,d⟩|rc
      ·dsimp only at g a;obtain⟨rfl,⟨n,p,q,bg⟩⟩:=g;simp only[aM,seval,bg];obtain⟨bA,bh,a⟩:=ae a;refine aB (fun s t H e=>match s with|X=>∃Y:Nat,∃ag:Nat,∃Z:Nat,t 1=.ptr 1 Y 0∧t 7=.buf 7 Z 1 0 (d).length∧t 100=.buf 6 ag 1 0 (j).length∧t 101=sN ((j).length:Int)∧t 102=sN X∧H 1=rV Y 25 [sI b.al,sF bx b.ah]∧H 6=rW ag 3 (av (eI .i64) j)∧H 7=rW Z 3 (av (eI .i64) d)) (fun o x t H e=>match o with|(.inl _)=>x=.exit 8∧∃E:Nat,∃F:Nat,t 1=.ptr 1 E 0∧t 7=.buf 7 F 1 0 (d).length∧H 1=rV E 25 [sI b.al,sF bx b.ah]∧H 7=rW F 3 (av (eI .i64) d)|(.inr r)=>x=.ret∧gu .clean tab none [.tmp 2,.tmp 3] ⟨t,EH H,e⟩=some (.clean (.tup [.int .i64 r.1,.int .i64 r.2]),none)) bh ?_ ?_ ?_
       ·refine⟨n,p,q,?_⟩;and_intros<;>first|rfl|(simp only[aM,seval,bg]<;>rfl)
       ·rintro X t H e ⟨Y,ag,Z,Zh⟩ c a;simp only[ml]at a;simp only[aM,seval,Zh];apply sp ay a<;>intro _ a
        ·obtain⟨bK,bk,a⟩:=ae a;have aC:=bn (eI .i64) bk;simp only[bP]at aC;simp only[aM,seval,Zh,aC];apply sp ay a<;>intro _ a
         ·cases a;simp only[aM,seval];refine si ⟨rfl,?_⟩;simp only[aM,seval]
         ·simp only[aM,seval];apply sp ay a<;>intro _ a
          ·cases a;simp only[aM,seval];refine si ⟨rfl,?_⟩;simp only[aM,seval]
          ·cases a;simp only[aM,seval,Zh];apply iQ;refine⟨Y,ag,Z,?_⟩;and_intros<;>first|rfl|(simp only[aM,seval,Zh]<;>rfl)
        ·cases a;simp only[aM,seval];apply j9;refine⟨rfl,⟨Y,Z,?_,?_,?_,?_⟩⟩;all_goals ((simp only[aM,seval,Zh]<;>rfl))
       ·rintro x t H e g;rcases bA with _|rh
        ·dsimp only at g a;obtain⟨rfl,⟨E,F,bl⟩⟩:=g;simp only[aM,seval,bl];obtain⟨bB,bm,a⟩:=ae a;refine aB (fun s t H e=>match s with|aa=>∃ah:Nat,∃ai:Nat,t 1=.ptr 1 ah 0∧t 116=.buf 7 ai 1 0 (d).length∧t 117=sN ((d).length:Int)∧t 118=sN aa∧H 1=rV ah 25 [sI b.al,sF bx b.ah]∧H 7=rW ai 3 (av (eI .i64) d)) (fun o x t H e=>match o with|(.inl _)=>x=.exit 11|(.inr r)=>x=.ret∧gu .clean tab none [.tmp 2,.tmp 3] ⟨t,EH H,e⟩=some (.clean (.tup [.int .i64 r.1,.int .i64 r.2]),none)) bm ?_ ?_ ?_
         ·refine⟨E,F,?_⟩;and_intros<;>first|rfl|(simp only[aM,seval,bl]<;>rfl)
         ·rintro aa t H e ⟨ah,ai,Zi⟩ c a;simp only[mm]at a;simp only[aM,seval,Zi];apply sp ay a<;>intro _ a
          ·obtain⟨bL,bo,a⟩:=ae a;have aE:=bn (eI .i64) bo;simp only[bP]at aE;obtain⟨bM,bp,a⟩:=ae a;have aF:=bn (eI .i64) bp;simp only[bP]at aF;simp only[aM,seval,Zi,aE,aF];apply sp ay a<;>intro _ a
           ·cases a;simp only[aM,seval];refine si ⟨rfl,?_⟩;simp only[aM,seval]
           ·cases a;simp only[aM,seval,Zi];apply iQ;refine⟨ah,ai,?_⟩;and_intros<;>first|rfl|(simp only[aM,seval,Zi]<;>rfl)
          ·cases a;simp only[aM,seval];apply j9;exact rfl
         ·rintro x t H e g;rcases bB with _|ri
          ·dsimp only at g a;subst g;cases a;simp only[aM,seval]
          ·dsimp only at g a;obtain⟨rfl,hE⟩:=g;cases a;simp only[a8,bf,cB,cL];exact hE
        ·dsimp only at g a;obtain⟨rfl,hE⟩:=g;cases a;simp only[a8,bf,cB,cL];exact hE
      ·dsimp only at g a;obtain⟨rfl,hE⟩:=g;cases a;simp only[a8,bf,cB,cL];exact hE
    ·dsimp only at g a;obtain⟨rfl,hE⟩:=g;cases a;simp only[a8,bf,cB,cL];exact hE
 ·clear a;have a:=bq;simp only[aM,seval];apply sp bU a<;>intro _ a
  ·cases a;simp only[aM,seval];rw[aD];refine⟨_,rfl,?_⟩;refine⟨0,?_,?_,?_⟩;all_goals (rfl)
  ·cases a;simp only[aM,seval];rw[aD];refine⟨_,rfl,?_⟩;refine⟨0,?_,?_,?_⟩;all_goals (rfl)
def rO (l:Option (D×Row)) (d:List D):=er (gG (bV xW) (dN (ko ak))) (fun x:fa×(List an)=>pW x.1 x.2) (fun r:Bool =>.clean (.bool r)) l d
def ahA {β:Type} {F:fa×(List an)->Option β} {R:β->RK} (a:(List ib)) (b:(List rU)) (c:(List (List an))) (d:(List an)):er (gG (bV xW) (dN (ko ak))) F R none [.agg [.sl false false a.length (av bz a),.sl false false b.length (av eA b),.sl false false c.length (av (fk ak) c)],.sl false false d.length (av ak d)]=(F ((fa.mk a b c),d)).map fun r=>(R r,none):=cK _ _ _ ((fa.mk a b c),d)
def wm:Env:=(Am.ext (Am.ext bs 24 false ca) 54 false bh)
def IL:bY prog wm:=((bY.none.add jB false).add ff false)
def df:=ai @w<|ai @kh<|ai @ca.eq_1<|ai @bh.eq_1<|@wm.eq_1
def IY:cr prog 83 rO:=cr.jl (mode := .clean) tok IL mixed func83 (by kernel_rfl) (fun _ _=>rfl) (fun _=>by kernel_rfl) fun⟨n,q⟩ r a=>by
 replace a:pW n q=some r:=a;apply aL rfl ntmps83 results83;simp only[jo];unfold pW at a;simp only[df,seval];apply sp ay a<;>intro _ a
 ·cases a;simp only[df,seval]
 ·simp only[df,seval];obtain⟨u,i,a⟩:=ae a;refine aB (fun s t H e=>match s with|f=>∃b:Nat,t 2=.ptr 2 b 0∧t 13=sF ak q∧t 14=sN (q.length:Int)∧t 15=sN f∧H 2=rV b 54 [sF bz n.aw,sF eA n.aF,sF (fk ak) n.aN]) (fun o x t H e=>match o with|(.inl _)=>x=.exit 0|(.inr r)=>x=.ret∧gu .clean tab none [.tmp 4] ⟨t,EH H,e⟩=some (.clean (.bool r),none)) i ?_ ?_ ?_
  ·refine⟨0,?_,?_,?_,?_,?_⟩;all_goals (rfl)
  ·rintro f t H e ⟨b,h⟩ c a;simp only[nc]at a;simp only[df,seval,h];apply sp ay a<;>intro _ a
   ·obtain⟨v,j,a⟩:=ae a;have d:=bn ak j;simp only[bP]at d;obtain⟨w,k,a⟩:=ae a;simp only[df,seval,h,d,k];apply sp bU a<;>intro _ a
    ·cases a;simp only[df,seval];refine si ⟨rfl,?_⟩;simp only[df,seval]
    ·obtain⟨y,l,a⟩:=ae a;have g:=bn bz l;simp only[bP]at g;simp only[df,seval,h,d,g];apply sp fM a<;>intro _ a
     ·obtain⟨z,m,a⟩:=ae a;simp only[df,seval,m];apply sp ay a<;>intro _ a
      ·cases a;simp only[df,seval];refine si ⟨rfl,?_⟩;simp only[df,seval]
      ·cases a;simp only[df,seval,h];apply iQ;refine⟨b,?_⟩;and_intros<;>first|rfl|(simp only[df,seval,h]<;>rfl)
     ·cases a;simp only[df,seval,h];apply iQ;refine⟨b,?_⟩;and_intros<;>first|rfl|(simp only[df,seval,h]<;>rfl)
   ·cases a;simp only[df,seval];apply j9;exact rfl
  ·rintro x t H e p;rcases u with _|B
   ·dsimp only at p a;subst p;cases a;simp only[df,seval]
   ·dsimp only at p a;obtain⟨rfl,A⟩:=p;cases a;simp only[a8,bf,cB,cL];exact A
def nz (l:Option (D×Row)) (d:List D):=er (dN (bV ak)) (fun x:an=>mZ x) (fun r:Bool =>.clean (.bool r)) l d
def rB:Env:=(Am.ext bs 24 false ca)
def CR:bY prog rB:=(bY.none.add jB false)
def EW:=ai @w<|ai @kh<|ai @ca.eq_1<|@rB.eq_1
def C5:cr prog 84 nz:=cr.jl (mode := .clean) tok CR mixed func84 (by kernel_rfl) (fun _ _=>rfl) (fun _=>by kernel_rfl) fun c r a=>by
 replace a:mZ c=some r:=a;apply aL rfl ntmps84 results84;simp only[jo];unfold mZ at a;obtain⟨d,b,a⟩:=ae a;cases a;simp only[EW,seval,b]
def eh (l:Option (D×Row)) (d:List D):=er (gG (ko ak) (dN (NX 84))) (fun x:(List an)×Unit=>dA x.1) (fun r:Int =>.clean (.int .i64 r)) l d
def adZ {β:Type} {F:(List an)×Unit->Option β} {R:β->RK} (a:(List an)):er (gG (ko ak) (dN (NX 84))) F R none [.sl false false a.length (av ak a),.fn 84]=(F (a,())).map fun r=>(R r,none):=cK _ _ _ (a,())
def gg:Env:=(Am.ext bs 84 false nz)
def oF:bY prog gg:=(bY.none.add C5 false)
def bG:=ai @w<|ai @kh<|ai @nz.eq_1<|@gg.eq_1
def oH:cr prog 102 eh:=cr.jl (mode := .clean) tok oF mixed func102 (by kernel_rfl) (fun _ _=>rfl) (fun _=>by kernel_rfl) fun⟨h,_⟩ r a=>by
 replace a:dA h=some r:=a;apply aL rfl ntmps102 results102;simp only[jo];unfold dA at a;simp only[bG,seval];obtain⟨l,i,a⟩:=ae a;refine aB (fun s t H e=>match s with|b=>t 0=sF ak h∧t 1=.fn 84∧t 7=sN (h.length:Int)∧t 8=sN b) (fun o x t H e=>match o with|(.inl _)=>x=.exit 0|(.inr r)=>x=.ret∧gu .clean tab none [.tmp 4] ⟨t,EH H,e⟩=some (.clean (.int .i64 r),none)) i ?_ ?_ ?_
 ·refine⟨?_,?_,?_,?_⟩;all_goals (rfl)
 ·rintro b t H e f c a;simp only[dW]at a;simp only[bG,seval,f];apply sp ay a<;>intro _ a
  ·obtain⟨n,j,a⟩:=ae a;have d:=bn ak j;simp only[bP]at d;obtain⟨p,k,a⟩:=ae a;simp only[bG,seval,f,d,k];apply sp ay a<;>intro _ a
   ·cases a;simp only[bG,seval];refine si ⟨rfl,?_⟩;simp only[bG,seval]
   ·cases a;simp only[bG,seval,f];apply iQ;and_intros<;>first|rfl|(simp only[bG,seval,f]<;>rfl)
  ·cases a;simp only[bG,seval];apply j9;exact rfl
 ·rintro x t H e g;rcases l with _|q
  ·dsimp only at g a;subst g;cases a;simp only[bG,seval]
  ·dsimp only at g a;obtain⟨rfl,m⟩:=g;cases a;simp only[a8,bf,cB,cL];exact m
def dC (l:Option (D×Row)) (d:List D):=er (gG (ko ak) (dN (NX 84))) (fun x:(List an)×Unit=>cz x.1) (fun r:Bool =>.clean (.bool r)) l d
def fe:Env:=(Am.ext bs 102 false eh)
def mO:bY prog fe:=(bY.none.add oH false)
def nw:=ai @w<|ai @adZ<|ai @eh.eq_1<|@fe.eq_1
def mR:cr prog 52 dC:=cr.jl (mode := .clean) tok mO mixed func52 (by kernel_rfl) (fun _ _=>rfl) (fun _=>by kernel_rfl) fun⟨c,_⟩ r a=>by
 replace a:cz c=some r:=a;apply aL rfl ntmps52 results52;simp only[jo];unfold cz at a;obtain⟨d,b,a⟩:=ae a;cases a;simp only[nw,seval,b]
def qz (l:Option (D×Row)) (d:List D):=er (gG (bV jP) (dN (ko (fk ak)))) (fun x:aX×(List (List an))=>lA x.1 x.2) (fun r:Int =>.clean (.int .i64 r)) l d
def YB {β:Type} {F:aX×(List (List an))->Option β} {R:β->RK} (a:(List Int)) (b:(List bj)) (c:(List (List an))):er (gG (bV jP) (dN (ko (fk ak)))) F R none [.agg [.sl false false a.length (av (eI .i64) a),.sl false false b.length (av bx b)],.sl false false c.length (av (fk ak) c)]=(F ((aX.mk a b),c)).map fun r=>(R r,none):=cK _ _ _ ((aX.mk a b),c)
def uM:Env:=(Am.ext (Am.ext bs 52 false dC) 83 false rO)
def GB:bY prog uM:=((bY.none.add mR false).add IY false)
def cm:=ai @w<|ai @adZ<|ai @dC.eq_1<|ai @ahA<|ai @rO.eq_1<|@uM.eq_1
def Ht:cr prog 40 qz:=cr.jl (mode := .clean) tok GB mixed func40 (by kernel_rfl) (fun _ _=>rfl) (fun _=>by kernel_rfl) fun⟨v,i⟩ r a=>by
 replace a:lA v i=some r:=a;apply aL rfl ntmps40 results40;simp only[jo];unfold lA at a;simp only[cm,seval];apply sp ay a<;>intro _ a
 ·cases a;simp only[cm,seval]
 ·simp only[cm,seval];obtain⟨C,w,a⟩:=ae a;refine aB (fun s t H e=>match s with|d=>t 1=sF (fk ak) i∧t 16=sF bx v.ah∧t 17=sN (v.ah.length:Int)∧t 18=sN d) (fun o x t H e=>match o with|(.inl _)=>x=.exit 0∧t 1=sF (fk ak) i|(.inr r)=>x=.ret∧gu .clean tab none [.tmp 4] ⟨t,EH H,e⟩=some (.clean (.int .i64 r),none)) w ?_ ?_ ?_
  ·refine⟨?_,?_,?_,?_⟩;all_goals (rfl)
  ·rintro d t H e j c a;simp only[lB]at a;simp only[cm,seval,j];apply sp ay a<;>intro _ a
   ·obtain⟨I,y,a⟩:=ae a;have k:=bn bx y;simp only[bP]at k;obtain⟨D,l,a⟩:=ae a;have f:=bn (fk ak) l;simp only[bP]at f;obtain⟨E,m,a⟩:=ae a;simp only[cm,seval,j,k,f,m];refine bN (by kernel_rfl) ?_;apply sp ay a<;>intro _ a
    ·cases a;simp only[cm,seval];refine si ⟨rfl,?_⟩;simp only[cm,seval]
    ·cases a;simp only[cm,seval,j];apply iQ;and_intros<;>first|rfl|(simp only[cm,seval,j]<;>rfl)
   ·cases a;simp only[cm,seval];apply j9;refine⟨rfl,?_⟩;all_goals ((simp only[cm,seval,j]<;>rfl))
  ·rintro x t H e b;rcases C with _|J
   ·dsimp only at b a;obtain⟨rfl,z⟩:=b;simp only[cm,seval,z];obtain⟨A,n,a⟩:=ae a;refine aB (fun s t H e=>match s with|g=>t 32=sF (fk ak) i∧t 33=sN (i.length:Int)∧t 34=sN g) (fun o x t H e=>match o with|(.inl _)=>x=.exit 2|(.inr r)=>x=.ret∧gu .clean tab none [.tmp 4] ⟨t,EH H,e⟩=some (.clean (.int .i64 r),none)) n ?_ ?_ ?_
    ·refine⟨?_,?_,?_⟩;all_goals (rfl)
    ·rintro g t H e u c a;simp only[lC]at a;simp only[cm,seval,u];apply sp ay a<;>intro _ a
     ·obtain⟨F,p,a⟩:=ae a;have h:=bn (fk ak) p;simp only[bP]at h;obtain⟨G,q,a⟩:=ae a;simp only[cm,seval,u,h,q];apply sp ay a<;>intro _ a
      ·cases a;simp only[cm,seval];refine si ⟨rfl,?_⟩;simp only[cm,seval]
      ·cases a;simp only[cm,seval,u];apply iQ;and_intros<;>first|rfl|(simp only[cm,seval,u]<;>rfl)
     ·cases a;simp only[cm,seval];apply j9;exact rfl
    ·rintro x t H e b;rcases A with _|K
     ·dsimp only at b a;subst b;cases a;simp only[cm,seval]
     ·dsimp only at b a;obtain⟨rfl,B⟩:=b;cases a;simp only[a8,bf,cB,cL];exact B
   ·dsimp only at b a;obtain⟨rfl,B⟩:=b;cases a;simp only[a8,bf,cB,cL];exact B
def gA (l:Option (D×Row)) (d:List D):=er (gG (bV ak) (dN (bV ak))) (fun x:an×an=>oW x.1 x.2) (fun r:an×Int =>.clean (.tup [.agg [.int .i64 r.1.bL.ax,.sl false false r.1.bL.aa.length (av (eI .i64) r.1.bL.aa),.int .i64 r.1.bQ.ax,.sl false false r.1.bQ.aa.length (av (eI .i64) r.1.bQ.aa)],.int .i64 r.2])) l d
def Ay:Env:=(Am.ext (Am.ext (Am.ext bs 54 false bh) 60 false eL) 63 false gB)
def PN:bY prog Ay:=(((bY.none.add ff false).add qJ false).add uo false)
def n5:=ai @w<|ai @kh<|ai @bh.eq_1<|ai @Lv<|ai @eL.eq_1<|ai @gB.eq_1<|@Ay.eq_1
def um:cr prog 58 gA:=cr.jl (mode := .clean) tok PN mixed func58 (by kernel_rfl) (fun _ _=>rfl) (fun _=>by kernel_rfl) fun⟨h,i⟩ r a=>by
 replace a:oW h i=some r:=a;apply aL rfl ntmps58 results58;simp only[jo];unfold oW at a;obtain⟨q,j,a⟩:=ae a;simp only[n5,seval,j];obtain⟨p,k,a⟩:=ae a;refine cV 0 (fun s t H e=>match s with|b=>∃c:Nat,∃d:Nat,∃f:Nat,t 2=.ptr 2 c 0∧t 3=.ptr 3 d 0∧t 4=.ptr 4 f 0∧t 13=.bool b∧H 2=rV c 41 [sN h.bL.ax,sI h.bL.aa,sN h.bQ.ax,sI h.bQ.aa]∧H 3=rV d 41 [sN i.bL.ax,sI i.bL.aa,sN i.bQ.ax,sI i.bQ.aa]∧H 4=rV f 41 [sN 0,.sl true true 0 [],sN 0,.sl true true 0 []]) (fun s=>s=p) ?_ ?_
 ·rintro b t H e ⟨c,d,f,g⟩ rfl;try dsimp only at a
  simp only[n5,seval,g];apply sp ay a<;>intro _ a
  ·cases a;simp only[n5,seval,g]
  ·obtain⟨u,l,a⟩:=ae a;obtain⟨v,m,a⟩:=ae a;obtain⟨w,n,a⟩:=ae a;simp only[n5,seval,g,l,m,n];refine bN (by kernel_rfl) ?_;cases a;simp only[seval]
 ·clear a;have a:=k;simp only[n5,seval];apply sp bU a<;>intro _ a
  ·cases a;simp only[n5,seval];rw[aD];refine⟨_,rfl,?_⟩;refine⟨0,0,0,?_,?_,?_,?_,?_,?_,?_⟩;all_goals (rfl)
  ·obtain⟨x,o,a⟩:=ae a;cases a;simp only[n5,seval,o];rw[aD];refine⟨_,rfl,?_⟩;refine⟨0,0,0,?_,?_,?_,?_,?_,?_,?_⟩;all_goals (rfl)
def rq:=kr 113 (bV ak) (gG (ko (eI .i64)) (dN (bV bx))) (fun (l:(List ((Int×Int)×an))) (x:(List Int)×bj)=>jL l x.1 x.2) (fun r:Unit =>.clean (.tup []))
def ES (f:(List ((Int×Int)×an))) (g:(List Int)) (a:(List ib)) (b:(List rU)) (c:(List (List an))) (d:(List gC)) (e:(List Int)):rq (some (.mp 0 0,⟨0,113,[.mpc (fE f) (iu (bV ak) f)],false,true,true⟩)) [.sl false false g.length (av (eI .i64) g),.agg [.sl false false a.length (av bz a),.sl false false b.length (av eA b),.sl false false c.length (av (fk ak) c),.sl false false d.length (av gr d),.sl false false e.length (av (eI .i64) e)]]=(jL f g (bj.mk (fa.mk a b c) d e)).map fun r=>(.clean (.tup []),some ⟨0,113,[.mpc (fE r.1) (iu (bV ak) r.1)],false,true,true⟩):=afP _ _ _ _ _ f (g,(bj.mk (fa.mk a b c) d e))
def nG:Env:=(Am.ext (Am.ext (Am.ext (Am.ext bs 24 false ca) 57 false kP) 58 false gA) 120 false pR)
def CS:bY prog nG:=((((bY.none.add jB false).add AQ false).add um false).add Hy false)
def aZ:=ai @w<|ai @kh<|ai @ca.eq_1<|ai @NY<|ai @kP.eq_1<|ai @sr<|ai @gA.eq_1<|ai @pR.eq_1<|@nG.eq_1
def EJ (p0:(List ((Int×Int)×an))) (N:(List Int)) (b:bj) (r:(List ((Int×Int)×an))×(Unit)) (a:jL p0 N b=some r):kM .clean tab nG FU Tryz.f65 (some (.mp 0 0,⟨0,113,[.mpc (fE p0) (iu (bV ak) p0)],false,true,true⟩)) [.sl false false N.length (av (eI .i64) N),.agg [.sl false false b.au.aw.length (av bz b.au.aw),.sl false false b.au.aF.length (av eA b.au.aF),.sl false false b.au.aN.length (av (fk ak) b.au.aN),.sl false false b.bc.length (av gr b.bc),.sl false false b.aA.length (av (eI .i64) b.aA)]]=some (.clean (.tup []),some ⟨0,113,[.mpc (fE r.1) (iu (bV ak) r.1)],false,true,true⟩):=by
 apply Sv rfl ntmps65 results65;unfold jL at a;simp only[aZ,seval];obtain⟨ao,R,a⟩:=ae a;refine aB (fun s t H e=>match s with|(d,O)=>∃u:Nat,t 0=.mp 0 0∧t 1=sI N∧t 5=.ptr 5 u 0∧t 20=sF bz b.au.aw∧t 21=sN (b.au.aw.length:Int)∧t 22=sN d∧H 0=some ⟨0,113,[.mpc (fE O) (iu (bV ak) O)],false,true,true⟩∧H 5=rV u 57 [sF bz b.au.aw,sF eA b.au.aF,sF (fk ak) b.au.aN,sF gr b.bc,sI b.aA]) (fun o x t H e=>match o with|v=>x=.exit 0∧t 0=.mp 0 0∧H 0=some ⟨0,113,[.mpc (fE v) (iu (bV ak) v)],false,true,true⟩) R ?_ ?_ ?_
 ·refine⟨1,?_,?_,?_,?_,?_,?_,?_,?_⟩;all_goals (rfl)
 ·rintro⟨d,O⟩ t H e ⟨u,P⟩ c a;simp only[kd]at a;simp only[aZ,seval,P];apply sp ay a<;>intro _ a
  ·obtain⟨aw,S,a⟩:=ae a;have l:=bn bz S;simp only[bP]at l;simp only[aZ,seval,P,l];apply sp ay a<;>intro _ a
   ·cases a;simp only[aZ,seval,P];apply iQ;refine⟨u,?_⟩;and_intros<;>first|rfl|(simp only[aZ,seval,P]<;>rfl)
   ·obtain⟨D,T,a⟩:=ae a;have F:=bn gr T;simp only[bP]at F;obtain⟨ax,U,a⟩:=ae a;have G:=bn (eI .i64) U;simp only[bP]at G;obtain⟨j,V,a⟩:=ae a;simp only[aZ,seval,P,F,G,V];refine bN (by kernel_rfl) ?_;obtain⟨aq,W,a⟩:=ae a;refine aB (fun s t H e=>match s with|(m,w)=>∃q:Nat,∃y:Nat,∃A:Nat,t 0=.mp 0 0∧t 1=sI N∧t 5=.ptr 5 q 0∧t 6=sN d∧t 8=.ptr 8 y 0∧t 9=.ptr 9 A 0∧t 20=sF bz b.au.aw∧t 21=sN (b.au.aw.length:Int)∧t 22=sN d∧t 49=sF eA b.au.aF∧t 50=sN (b.au.aF.length:Int)∧t 51=sN m∧H 0=some ⟨0,113,[.mpc (fE w) (iu (bV ak) w)],false,true,true⟩∧H 5=rV q 57 [sF bz b.au.aw,sF eA b.au.aF,sF (fk ak) b.au.aN,sF gr b.bc,sI b.aA]∧H 8=rV y 72 [sN D.bJ,sN D.aQ]∧H 9=rV A 41 [sN j.1.bL.ax,sI j.1.bL.aa,sN j.1.bQ.ax,sI j.1.bQ.aa]) (fun o x t H e=>match o with|B=>x=.exit 2∧∃n:Nat,t 0=.mp 0 0∧t 1=sI N∧t 5=.ptr 5 n 0∧t 20=sF bz b.au.aw∧t 21=sN (b.au.aw.length:Int)∧t 22=sN d∧H 0=some ⟨0,113,[.mpc (fE B) (iu (bV ak) B)],false,true,true⟩∧H 5=rV n 57 [sF bz b.au.aw,sF eA b.au.aF,sF (fk ak) b.au.aN,sF gr b.bc,sI b.aA]) W ?_ ?_ ?_
    ·refine⟨u,e+1+1+1,e+1+1+1+1,?_⟩;and_intros<;>first|rfl|(simp only[aZ,seval,P]<;>rfl)
    ·rintro⟨m,w⟩ t H e ⟨q,y,A,Q⟩ c a;simp only[iF]at a;simp only[aZ,seval,Q];apply sp ay a<;>intro _ a
     ·obtain⟨E,X,a⟩:=ae a;have p:=bn eA X;simp only[bP]at p;simp only[aZ,seval,Q,p];obtain⟨ar,Y,a⟩:=ae a;refine cV 0 (fun s t H e=>match s with|C=>∃f:Nat,∃g:Nat,∃h:Nat,∃k:Nat,t 0=.mp 0 0∧t 1=sI N∧t 5=.ptr 5 f 0∧t 6=sN d∧t 8=.ptr 8 g 0∧t 9=.ptr 9 h 0∧t 11=sN m∧t 12=.ptr 12 k 0∧t 20=sF bz b.au.aw∧t 21=sN (b.au.aw.length:Int)∧t 22=sN d∧t 49=sF eA b.au.aF∧t 50=sN (b.au.aF.length:Int)∧t 51=sN m∧t 71=.bool C∧H 0=some ⟨0,113,[.mpc (fE w) (iu (bV ak) w)],false,true,true⟩∧H 5=rV f 57 [sF bz b.au.aw,sF eA b.au.aF,sF (fk ak) b.au.aN,sF gr b.bc,sI b.aA]∧H 8=rV g 72 [sN D.bJ,sN D.aQ]∧H 9=rV h 41 [sN j.1.bL.ax,sI j.1.bL.aa,sN j.1.bQ.ax,sI j.1.bQ.aa]∧H 12=rV k 60 [sN E.aY,sN E.aR,sN E.aQ,.str E.Mz]) (fun s=>s=ar) ?_ ?_
      ·rintro C t H e ⟨f,g,h,k,i⟩ rfl;try dsimp only at a
       simp only[aZ,seval,i];apply sp ay a<;>intro _ a
       ·cases a;simp only[aZ,seval,i];apply iQ;refine⟨f,g,h,?_⟩;and_intros<;>first|rfl|(simp only[aZ,seval,i]<;>rfl)
       ·obtain⟨az,Z,a⟩:=ae a;have I:=bn (eI .i64) Z;simp only[bP]at I;simp only[aZ,seval,p,i,I];refine bN (by kernel_rfl) ?_;obtain⟨aA,aa,a⟩:=ae a;have J:=bn (fk ak) aa;simp only[bP]at J;obtain⟨aC,ab,a⟩:=ae a;have K:=bn ak ab;simp only[bP]at K;obtain⟨aE,ad,a⟩:=ae a;simp only[aZ,seval,l,i,J,K,ad];refine bN (by kernel_rfl) ?_;apply sp ay a<;>intro _ a
        ·obtain⟨aF,ag,a⟩:=ae a;cases a;simp only[aZ,seval,i,ag];apply iQ;refine⟨f,g,h,?_⟩;and_intros<;>first|rfl|(simp only[aZ,seval,i]<;>rfl)
        ·cases a;simp only[aZ,seval,i];apply iQ;refine⟨f,g,h,?_⟩;and_intros<;>first|rfl|(simp only[aZ,seval,i]<;>rfl)
      ·clear a;have a:=Y;simp only[aZ,seval];apply sp bU a<;>intro _ a
       ·cases a;simp only[aZ,seval];rw[aD];refine⟨_,rfl,?_⟩;refine⟨q,y,A,e+1,?_⟩;and_intros<;>first|rfl|(simp only[aZ,seval,Q]<;>rfl)
       ·obtain⟨aG,ah,a⟩:=ae a;have L:=bn (fk ak) ah;simp only[bP]at L;obtain⟨aH,ai,a⟩:=ae a;have M:=bn ak ai;simp only[bP]at M;obtain⟨aI,aj,a⟩:=ae a;cases a;simp only[aZ,seval,l,Q,p,L,M,aj];rw[aD];refine⟨_,rfl,?_⟩;refine⟨q,y,A,e+1,?_⟩;and_intros<;>first|rfl|(simp only[aZ,seval,Q]<;>rfl)
     ·cases a;simp only[aZ,seval];apply j9;refine⟨rfl,⟨q,?_,?_,?_,?_,?_,?_,?_,?_⟩⟩;all_goals ((simp only[aZ,seval,Q]<;>rfl))
    ·rintro x t H e hx;obtain⟨B,rfl⟩:∃z,z=aq:=⟨_,rfl⟩;dsimp only at hx a;obtain⟨rfl,⟨n,al⟩⟩:=hx;cases a;simp only[aZ,seval,al];apply iQ;refine⟨n,?_⟩;and_intros<;>first|rfl|(simp only[aZ,seval,al]<;>rfl)
  ·cases a;simp only[aZ,seval];apply j9;refine⟨rfl,⟨?_,?_⟩⟩;all_goals ((simp only[aZ,seval,P]<;>rfl))
 ·rintro x t H e hx;obtain⟨v,rfl⟩:∃z,z=ao:=⟨_,rfl⟩;dsimp only at hx a;obtain⟨rfl,au⟩:=hx;cases a;simp only[aZ,seval,au]
def C6:cr prog 65 rq:=cr.abn tok CS mixed func65 (by kernel_rfl) ⟨by kernel_rfl,by kernel_rfl⟩ (fun _=>ak7 (by kernel_rfl)) (fun l x a r h=>EJ l x.1 x.2 (a,r) h)
def rP (l:Option (D×Row)) (d:List D):=er (gG (bV cv) (dN (bV cv))) (fun x:cA×cA=>qk x.1 x.2) (fun r:Int =>.clean (.int .i64 r)) l d
def ahB {β:Type} {F:cA×cA->Option β} {R:β->RK} (e:Int) (f:Int) (g:Int) (a:(List Int)) (h:Int) (b:(List Int)) (i:Int) (j:Int) (k:Int) (c:(List Int)) (l:Int) (d:(List Int)):er (gG (bV cv) (dN (bV cv))) F R none [.agg [.int .i64 e,.int .i64 f,.int .i64 g,.sl false false a.length (av (eI .i64) a),.int .i64 h,.sl false false b.length (av (eI .i64) b)],.agg [.int .i64 i,.int .i64 j,.int .i64 k,.sl false false c.length (av (eI .i64) c),.int .i64 l,.sl false false d.length (av (eI .i64) d)]]=(F ((cA.mk e f (an.mk (aK.mk g a) (aK.mk h b))),(cA.mk i j (an.mk (aK.mk k c) (aK.mk l d))))).map fun r=>(R r,none):=cK _ _ _ ((cA.mk e f (an.mk (aK.mk g a) (aK.mk h b))),(cA.mk i j (an.mk (aK.mk k c) (aK.mk l d))))
def wx:Env:=(Am.ext (Am.ext bs 110 false dX) 115 false Bb)
def IQ:bY prog wx:=((bY.none.add pk false).add La false)
def NU:=ai @w<|ai @NY<|ai @dX.eq_1<|@wx.eq_1
def IZ:cr prog 67 rP:=cr.jl (mode := .clean) tok IQ mixed func67 (by kernel_rfl) (fun _ _=>rfl) (fun _=>by kernel_rfl) fun⟨f,g⟩ r a=>by
 replace a:qk f g=some r:=a;apply aL rfl ntmps67 results67;simp only[jo];unfold qk at a;obtain⟨h,b,a⟩:=ae a;obtain⟨i,c,a⟩:=ae a;have e:=Ru ([h,i]);simp only[ck,bP,List.length_cons,akw,Nat.reduceAdd]at e;obtain⟨j,d,a⟩:=ae a;simp only[NU,seval,b,c,e,d];refine bN (by kernel_rfl) ?_;cases a;simp only[seval]
def Bc (l:Option (D×Row)) (d:List D):=er (dN (bV jP)) (fun x:aX=>C3 x) (fun r:gY×Int =>.clean (.tup [.agg [.int .i64 r.1.aA,.sl false false r.1.bk.length (av cv r.1.bk)],.int .i64 r.2])) l d
def BK:Env:=(Am.xt 9 (118,6,1) (Am.ext (Am.ext bs 39 false iy) 65 true rq))
def XV:bY prog BK:=(bY.xt ((bY.none.add wG false).add C6 true) 9 (118,6,1))
def kO:=ai @w<|ai @Gs<|ai @RU<|ai @iy.eq_1<|@BK.eq_1
def abt (i:aX) (r:gY×Int) (a:C3 i=some r):UA tab BK FU 5 Tryz.f26 [.agg [.sl false false i.al.length (av (eI .i64) i.al),.sl false false i.ah.length (av bx i.ah)]] (As tab Tryz.f26.results.toList (.clean (.tup [.agg [.int .i64 r.1.aA,.sl false false r.1.bk.length (av cv r.1.bk)],.int .i64 r.2]),none) (agH r)):=by
 apply Y0 rfl ntmps26 results26;simp only[MB,MC];unfold C3 at a;obtain⟨G,y,a⟩:=ae a;simp only[kO,seval,y];apply sp ay a<;>intro _ a
 ·cases a;simp only[kO,seval]
 ·simp only[kO,seval];obtain⟨E,A,a⟩:=ae a;refine aB (fun s t H e=>match s with|(n,g)=>∃j:Nat,∃k:Nat,∃f:Nat,t 1=.ptr 1 j 0∧t 2=.ptr 2 k 0∧t 6=.mp 21 f∧t 23=sF bx i.ah∧t 24=sN (i.ah.length:Int)∧t 25=sN n∧H 1=rV j 25 [sI i.al,sF bx i.ah]∧H 2=rV k 66 [sN 0,.sl true true 0 []]∧H 21=some ⟨f,113,[.mpc (fE g) (iu (bV ak) g)],false,true,true⟩) (fun o x t H e=>match o with|b=>x=.exit 0∧∃l:Nat,∃h:Nat,∃d:Nat,t 1=.ptr 1 l 0∧t 2=.ptr 2 h 0∧t 6=.mp 21 d∧H 1=rV l 25 [sI i.al,sF bx i.ah]∧H 2=rV h 66 [sN 0,.sl true true 0 []]∧H 21=some ⟨d,113,[.mpc (fE b) (iu (bV ak) b)],false,true,true⟩) A ?_ ?_ ?_
  ·refine⟨0,0,3,?_,?_,?_,?_,?_,?_,?_,?_,?_⟩;all_goals (rfl)
  ·rintro⟨n,g⟩ t H e ⟨j,k,f,w⟩ c a;simp only[sB]at a;simp only[kO,seval,w];apply sp ay a<;>intro _ a
   ·obtain⟨p,B,a⟩:=ae a;have q:=bn bx B;simp only[bP]at q;have C:=ES g i.al p.au.aw p.au.aF p.au.aN p.bc p.aA;obtain⟨F,u,a⟩:=ae a;cases a;simp only[kO,seval,w,q,C,u];apply iQ;refine⟨j,k,f,?_⟩;and_intros<;>first|rfl|(simp only[kO,seval,w]<;>rfl)
   ·cases a;simp only[kO,seval];apply j9;refine⟨rfl,⟨j,k,f,?_,?_,?_,?_,?_,?_⟩⟩;all_goals ((simp only[kO,seval,w]<;>rfl))
  ·rintro x t H e D;obtain⟨b,rfl⟩:∃z,z=E:=⟨_,rfl⟩;dsimp only at D a;obtain⟨rfl,⟨l,h,d,m⟩⟩:=D;simp only[kO,seval,m];apply sp ay a<;>intro _ a
   ·cases a;simp only[kO,seval,m]
   ·have v:bump (4*(e+1)+2) (e+1)=some (4*(e+1)+3):=ZU rfl;simp only[kO,seval,m,v];rw[IJ];refine⟨b,(i.al.length:Int),d,e+1,h,(4*(e+1)+3),?_,?_,?_,?_,?_,?_,by omega,a⟩;all_goals first|rfl|(simp only[kO,seval,m]<;>rfl)
def Yq:cr prog 26 Bc:=cr.front tok XV mixed func26 rfl (by kernel_rfl) ⟨by kernel_rfl,by kernel_rfl⟩ (fun _=>ak7 (by kernel_rfl)) (ak7 (by kernel_rfl)) (fun x r h=>abt x r h) (fun r=>abH r)
def iI (l:Option (D×Row)) (d:List D):=er (gG (ko ak) (dN (ko ak))) (fun x:(List an)×(List an)=>jr x.1 x.2) (fun r:an =>.clean (.agg [.int .i64 r.bL.ax,.sl false false r.bL.aa.length (av (eI .i64) r.bL.aa),.int .i64 r.bQ.ax,.sl false false r.bQ.aa.length (av (eI .i64) r.bQ.aa)])) l d
def ad0 {β:Type} {F:(List an)×(List an)->Option β} {R:β->RK} (a:(List an)) (b:(List an)):er (gG (ko ak) (dN (ko ak))) F R none [.sl false false a.length (av ak a),.sl false false b.length (av ak b)]=(F (a,b)).map fun r=>(R r,none):=cK _ _ _ (a,b)
def th:Env:=(Am.ext (Am.ext (Am.ext bs 21 false cg) 23 false dI) 58 false gA)
def EE:bY prog th:=(((bY.none.add jA false).add ov false).add um false)
def gX:=ai @w<|ai @E7<|ai @cg.eq_1<|ai @sr<|ai @dI.eq_1<|ai @gA.eq_1<|@th.eq_1
def xa:cr prog 45 iI:=cr.jl (mode := .clean) tok EE mixed func45 (by kernel_rfl) (fun _ _=>rfl) (fun _=>by kernel_rfl) fun⟨G,B⟩ r a=>by
 replace a:jr G B=some r:=a;apply aL rfl ntmps45 results45;simp only[jo];unfold jr at a;obtain⟨N,C,a⟩:=ae a;simp only[gX,seval,C];obtain⟨J,D,a⟩:=ae a;refine aB (fun s t H e=>match s with|(q,h,i,j,k)=>∃l:Nat,∃m:Nat,t 0=sF ak G∧t 4=.ptr 4 l 0∧t 5=.ptr 5 m 0∧t 11=sF ak B∧t 12=sN (B.length:Int)∧t 13=sN q∧H 4=rV l 41 [sN 0,.sl true true 0 [],sN 0,.sl true true 0 []]∧H 5=rV m 41 [sN h,sI i,sN j,sI k]) (fun o x t H e=>match o with|(b,d,f,g)=>x=.exit 0∧∃n:Nat,∃p:Nat,t 4=.ptr 4 n 0∧t 5=.ptr 5 p 0∧H 4=rV n 41 [sN 0,.sl true true 0 [],sN 0,.sl true true 0 []]∧H 5=rV p 41 [sN b,sI d,sN f,sI g]) D ?_ ?_ ?_
 ·refine⟨0,1,?_,?_,?_,?_,?_,?_,?_,?_⟩;all_goals (rfl)
 ·rintro⟨q,h,i,j,k⟩ t H e ⟨l,m,v⟩ c a;simp only[kD]at a;simp only[gX,seval,v];apply sp ay a<;>intro _ a
  ·obtain⟨O,E,a⟩:=ae a;have w:=bn ak E;simp only[bP]at w;obtain⟨K,y,a⟩:=ae a;have u:=bn ak y;simp only[bP]at u;obtain⟨L,z,a⟩:=ae a;simp only[gX,seval,v,w,u,z];refine bN (by kernel_rfl) ?_;obtain⟨M,A,a⟩:=ae a;cases a;simp only[gX,seval,v,A];apply iQ;refine⟨l,m,?_⟩;and_intros<;>first|rfl|(simp only[gX,seval,v]<;>rfl)
  ·cases a;simp only[gX,seval];apply j9;refine⟨rfl,⟨l,m,?_,?_,?_,?_⟩⟩;all_goals ((simp only[gX,seval,v]<;>rfl))
 ·rintro x t H e I;rcases J with⟨b,d,f,g⟩;dsimp only at I a;obtain⟨rfl,⟨n,p,F⟩⟩:=I;cases a;simp only[gX,seval,F]
def oL (l:Option (D×Row)) (d:List D):=er (gG (bV jP) (dN (ko (fk ak)))) (fun x:aX×(List (List an))=>lZ x.1 x.2) (fun r:(List an) =>.clean (.sl false false r.length (av ak r))) l d
def tf:Env:=(Am.ext bs 45 false iI)
def ED:bY prog tf:=(bY.none.add xa false)
def cD:=ai @w<|ai @ad0<|ai @iI.eq_1<|@tf.eq_1
def EL:cr prog 42 oL:=cr.jl (mode := .clean) tok ED mixed func42 (by kernel_rfl) (fun _ _=>rfl) (fun _=>by kernel_rfl) fun⟨C,T⟩ r a=>by
 replace a:lZ C T=some r:=a;apply aL rfl ntmps42 results42;simp only[jo];unfold lZ at a;obtain⟨x1,V,a⟩:=ae a;obtain⟨W,X,Y,G,Z⟩:=mk_one ak V;simp only[bP]at G;simp only[cD,seval,W,X,Y,G,Z];obtain⟨aa,I,a⟩:=ae a;refine aB (fun s t H e=>match s with|(b,D)=>∃i:Nat,t 1=sF (fk ak) T∧t 5=.buf 5 i 4 0 (D).length∧t 15=sF bx C.ah∧t 16=sN (C.ah.length:Int)∧t 17=sN b∧H 5=rW i 41 (av ak D)) (fun o x t H e=>match o with|j=>x=.exit 0∧∃k:Nat,t 5=.buf 5 k 4 0 (j).length∧H 5=rW k 41 (av ak j)) I ?_ ?_ ?_
 ·refine⟨1,?_,?_,?_,?_,?_,?_⟩;all_goals (rfl)
 ·rintro⟨b,D⟩ t H e ⟨i,U⟩ c a;simp only[jh]at a;simp only[cD,seval,U];apply sp ay a<;>intro _ a
  ·obtain⟨d,J,a⟩:=ae a;have l:=bn bx J;simp only[bP]at l;simp only[cD,seval,U,l];obtain⟨ab,K,a⟩:=ae a;refine aB (fun s t H e=>match s with|(q,E)=>∃h:Nat,∃m:Nat,t 1=sF (fk ak) T∧t 5=.buf 5 h 4 0 (E).length∧t 6=sN b∧t 7=.ptr 7 m 0∧t 15=sF bx C.ah∧t 16=sN (C.ah.length:Int)∧t 17=sN b∧t 24=sF eA d.au.aF∧t 25=sN (d.au.aF.length:Int)∧t 26=sN q∧H 5=rW h 41 (av ak E)∧H 7=rV m 57 [sF bz d.au.aw,sF eA d.au.aF,sF (fk ak) d.au.aN,sF gr d.bc,sI d.aA]) (fun o x t H e=>match o with|n=>x=.exit 2∧∃g:Nat,t 1=sF (fk ak) T∧t 5=.buf 5 g 4 0 (n).length∧t 15=sF bx C.ah∧t 16=sN (C.ah.length:Int)∧t 17=sN b∧H 5=rW g 41 (av ak n)) K ?_ ?_ ?_
   ·refine⟨i,e+1,?_⟩;and_intros<;>first|rfl|(simp only[cD,seval,U]<;>rfl)
   ·rintro⟨q,E⟩ t H e ⟨h,m,F⟩ c a;simp only[ji]at a;simp only[cD,seval,F];apply sp ay a<;>intro _ a
    ·obtain⟨ag,L,a⟩:=ae a;have p:=bn eA L;simp only[bP]at p;simp only[cD,seval,F,p];apply sp ay a<;>intro _ a
     ·obtain⟨ah,M,a⟩:=ae a;have u:=bn (eI .i64) M;simp only[bP]at u;obtain⟨ai,N,a⟩:=ae a;have v:=bn (fk ak) N;simp only[bP]at v;obtain⟨aj,O,a⟩:=ae a;have w:=bn (fk ak) O;simp only[bP]at w;obtain⟨f,P,a⟩:=ae a;obtain⟨al,y,a⟩:=ae a;have A:=bn ak y;simp only[bP]at A;have Q:=fL ak (x':=f) (fo:=0) (cs:=[.int .i64 f.bL.ax,.sl false false f.bL.aa.length (av (eI .i64) f.bL.aa),.int .i64 f.bQ.ax,.sl false false f.bQ.aa.length (av (eI .i64) f.bQ.aa)]) y rfl (ak7 rfl);simp only[bP,Nat.add_zero]at Q;have B:=Q;simp only[putCells,List.length_cons,List.length_nil,akw,Nat.reduceAdd]at B;simp only[cD,seval,l,F,p,u,v,w,P,A,B];refine bN (by kernel_rfl) ?_;cases a;apply iQ;refine⟨h,m,?_⟩;and_intros<;>first|rfl|(simp only[cD,seval,F]<;>rfl)
     ·cases a;simp only[cD,seval,F];apply iQ;refine⟨h,m,?_⟩;and_intros<;>first|rfl|(simp only[cD,seval,F]<;>rfl)
    ·cases a;simp only[cD,seval];apply j9;refine⟨rfl,⟨h,?_,?_,?_,?_,?_,?_⟩⟩;all_goals ((simp only[cD,seval,F]<;>rfl))
   ·rintro x t H e R;obtain⟨n,rfl⟩:∃z,z=ab:=⟨_,rfl⟩;dsimp only at R a;obtain⟨rfl,⟨g,S⟩⟩:=R;cases a;simp only[cD,seval,S];apply iQ;refine⟨g,?_⟩;and_intros<;>first|rfl|(simp only[cD,seval,S]<;>rfl)
  ·cases a;simp only[cD,seval];apply j9;refine⟨rfl,⟨i,?_,?_⟩⟩;all_goals ((simp only[cD,seval,U]<;>rfl))
 ·rintro x t H e R;obtain⟨j,rfl⟩:∃z,z=aa:=⟨_,rfl⟩;dsimp only at R a;obtain⟨rfl,⟨k,ad⟩⟩:=R;cases a;simp only[cD,seval,ad]
def nM (l:Option (D×Row)) (d:List D):=er (gG (bV ak) (dN (bV ak))) (fun x:an×an=>te x.1 x.2) (fun r:an×Int =>.clean (.tup [.agg [.int .i64 r.1.bL.ax,.sl false false r.1.bL.aa.length (av (eI .i64) r.1.bL.aa),.int .i64 r.1.bQ.ax,.sl false false r.1.bQ.aa.length (av (eI .i64) r.1.bQ.aa)],.int .i64 r.2])) l d
def AA:Env:=(Am.ext (Am.ext (Am.ext bs 23 false dI) 54 false bh) 71 false pO)
def PQ:bY prog AA:=(((bY.none.add ov false).add ff false).add Ho false)
def n9:=ai @w<|ai @sr<|ai @dI.eq_1<|ai @kh<|ai @bh.eq_1<|ai @Iw<|ai @pO.eq_1<|@AA.eq_1
def Eh:cr prog 29 nM:=cr.jl (mode := .clean) tok PQ mixed func29 (by kernel_rfl) (fun _ _=>rfl) (fun _=>by kernel_rfl) fun⟨h,i⟩ r a=>by
 replace a:te h i=some r:=a;apply aL rfl ntmps29 results29;simp only[jo];unfold te at a;obtain⟨p,j,a⟩:=ae a;simp only[n9,seval,j];obtain⟨o,k,a⟩:=ae a;refine cV 0 (fun s t H e=>match s with|b=>∃c:Nat,∃d:Nat,∃f:Nat,t 2=.ptr 2 c 0∧t 3=.ptr 3 d 0∧t 4=.ptr 4 f 0∧t 13=.bool b∧H 2=rV c 41 [sN h.bL.ax,sI h.bL.aa,sN h.bQ.ax,sI h.bQ.aa]∧H 3=rV d 41 [sN i.bL.ax,sI i.bL.aa,sN i.bQ.ax,sI i.bQ.aa]∧H 4=rV f 41 [sN 0,.sl true true 0 [],sN 0,.sl true true 0 []]) (fun s=>s=o) ?_ ?_
 ·rintro b t H e ⟨c,d,f,g⟩ rfl;try dsimp only at a
  simp only[n9,seval,g];apply sp ay a<;>intro _ a
  ·cases a;simp only[n9,seval,g]
  ·obtain⟨q,l,a⟩:=ae a;obtain⟨u,m,a⟩:=ae a;simp only[n9,seval,g,l,m];refine bN (by kernel_rfl) ?_;cases a;simp only[seval]
 ·clear a;have a:=k;simp only[n9,seval];apply sp bU a<;>intro _ a
  ·cases a;simp only[n9,seval];rw[aD];refine⟨_,rfl,?_⟩;refine⟨0,0,0,?_,?_,?_,?_,?_,?_,?_⟩;all_goals (rfl)
  ·obtain⟨v,n,a⟩:=ae a;cases a;simp only[n9,seval,n];rw[aD];refine⟨_,rfl,?_⟩;refine⟨0,0,0,?_,?_,?_,?_,?_,?_,?_⟩;all_goals (rfl)
def lx (l:Option (D×Row)) (d:List D):=er (dN (bV BD)) (fun x:gY=>qn x) (fun r:(List an) =>.clean (.sl false false r.length (av ak r))) l d
def RV {β:Type} {F:gY->Option β} {R:β->RK} (b:Int) (a:(List cA)):er (dN (bV BD)) F R none [.agg [.int .i64 b,.sl false false a.length (av cv a)]]=(F ((gY.mk b a))).map fun r=>(R r,none):=cK _ _ _ ((gY.mk b a))
def yn:Env:=(Am.ext (Am.ext bs 21 false cg) 29 false nM)
def MK:bY prog yn:=((bY.none.add jA false).add Eh false)
def eU:=ai @w<|ai @E7<|ai @cg.eq_1<|ai @sr<|ai @nM.eq_1<|@yn.eq_1
def B3:cr prog 126 lx:=cr.jl (mode := .clean) tok MK mixed func126 (by kernel_rfl) (fun _ _=>rfl) (fun _=>by kernel_rfl) fun B r a=>by
 replace a:qn B=some r:=a;apply aL rfl ntmps126 results126;simp only[jo];unfold qn at a;obtain⟨Z,Q,a⟩:=ae a;obtain⟨R,S,T,F,U⟩:=mk_one ak Q;simp only[bP]at F;simp only[eU,seval,R,S,T,F,U];obtain⟨o7,V,a⟩:=ae a;refine aB (fun s t H e=>match s with|(p,C)=>∃g:Nat,∃h:Nat,t 1=.ptr 1 g 0∧t 3=.buf 3 h 4 0 (C).length∧t 11=sN ((Z).length:Int)∧t 12=sN p∧H 1=rV g 66 [sN B.aA,sF cv B.bk]∧H 3=rW h 41 (av ak C)) (fun o x t H e=>match o with|i=>x=.exit 0∧∃j:Nat,∃d:Nat,t 1=.ptr 1 j 0∧t 3=.buf 3 d 4 0 (i).length∧H 1=rV j 66 [sN B.aA,sF cv B.bk]∧H 3=rW d 41 (av ak i)) V ?_ ?_ ?_
 ·refine⟨0,1,?_,?_,?_,?_,?_,?_⟩;all_goals (rfl)
 ·rintro⟨p,C⟩ t H e ⟨g,h,O⟩ c a;simp only[pc]at a;simp only[eU,seval,O];apply sp ay a<;>intro _ a
  ·obtain⟨D,W,a⟩:=ae a;obtain⟨aa,q,a⟩:=ae a;have u:=bn ak q;simp only[bP]at u;have G:=fL ak (x':=D) (fo:=0) (cs:=[.int .i64 D.bL.ax,.sl false false D.bL.aa.length (av (eI .i64) D.bL.aa),.int .i64 D.bQ.ax,.sl false false D.bQ.aa.length (av (eI .i64) D.bQ.aa)]) q rfl (ak7 rfl);simp only[bP,Nat.add_zero]at G;have v:=G;simp only[putCells,List.length_cons,List.length_nil,akw,Nat.reduceAdd]at v;cases a;simp only[eU,seval,O,W,u,v];apply iQ;refine⟨g,h,?_⟩;and_intros<;>first|rfl|(simp only[eU,seval,O]<;>rfl)
  ·cases a;simp only[eU,seval];apply j9;refine⟨rfl,⟨g,h,?_,?_,?_,?_⟩⟩;all_goals ((simp only[eU,seval,O]<;>rfl))
 ·rintro x t H e I;obtain⟨i,rfl⟩:∃z,z=o7:=⟨_,rfl⟩;dsimp only at I a;obtain⟨rfl,⟨j,d,J⟩⟩:=I;simp only[eU,seval,J];obtain⟨X,K,a⟩:=ae a;refine aB (fun s t H e=>match s with|(w,E)=>∃k:Nat,t 3=.buf 3 k 4 0 (E).length∧t 21=sF cv B.bk∧t 22=sN (B.bk.length:Int)∧t 23=sN w∧H 3=rW k 41 (av ak E)) (fun o x t H e=>match o with|l=>x=.exit 2∧∃m:Nat,t 3=.buf 3 m 4 0 (l).length∧H 3=rW m 41 (av ak l)) K ?_ ?_ ?_
  ·refine⟨d,?_⟩;and_intros<;>first|rfl|(simp only[eU,seval,J]<;>rfl)
  ·rintro⟨w,E⟩ t H e ⟨k,P⟩ c a;simp only[pe]at a;simp only[eU,seval,P];apply sp ay a<;>intro _ a
   ·obtain⟨ab,L,a⟩:=ae a;have y:=bn cv L;simp only[bP]at y;obtain⟨ad,n,a⟩:=ae a;have f:=bn ak n;simp only[bP]at f;obtain⟨b,M,a⟩:=ae a;have f:=bn ak n;simp only[bP]at f;have N:=fL ak (x':=b.1) (fo:=0) (cs:=[.int .i64 b.1.bL.ax,.sl false false b.1.bL.aa.length (av (eI .i64) b.1.bL.aa),.int .i64 b.1.bQ.ax,.sl false false b.1.bQ.aa.length (av (eI .i64) b.1.bQ.aa)]) n rfl (ak7 rfl);simp only[bP,Nat.add_zero]at N;have A:=N;simp only[putCells,List.length_cons,List.length_nil,akw,Nat.reduceAdd]at A;simp only[eU,seval,P,y,M,f,A];refine bN (by kernel_rfl) ?_;cases a;apply iQ;refine⟨k,?_⟩;and_intros<;>first|rfl|(simp only[eU,seval,P]<;>rfl)
   ·cases a;simp only[eU,seval];apply j9;refine⟨rfl,⟨k,?_,?_⟩⟩;all_goals ((simp only[eU,seval,P]<;>rfl))
  ·rintro x t H e I;obtain⟨l,rfl⟩:∃z,z=X:=⟨_,rfl⟩;dsimp only at I a;obtain⟨rfl,⟨m,Y⟩⟩:=I;cases a;simp only[eU,seval,Y]
def qB (l:Option (D×Row)) (d:List D):=er (dN (bV ak)) (fun x:an=>qZ x) (fun r:Bool =>.clean (.bool r)) l d
def uP:Env:=(Am.ext bs 24 false ca)
def GF:bY prog uP:=(bY.none.add jB false)
def Je:=ai @w<|ai @kh<|ai @ca.eq_1<|@uP.eq_1
def Hv:cr prog 127 qB:=cr.jl (mode := .clean) tok GF mixed func127 (by kernel_rfl) (fun _ _=>rfl) (fun _=>by kernel_rfl) fun c r a=>by
 replace a:qZ c=some r:=a;apply aL rfl ntmps127 results127;simp only[jo];unfold qZ at a;obtain⟨d,b,a⟩:=ae a;cases a;simp only[Je,seval,b]
def eM (l:Option (D×Row)) (d:List D):=er (gG (ko ak) (dN (NX 127))) (fun x:(List an)×Unit=>dO x.1) (fun r:Int =>.clean (.int .i64 r)) l d
def ad1 {β:Type} {F:(List an)×Unit->Option β} {R:β->RK} (a:(List an)):er (gG (ko ak) (dN (NX 127))) F R none [.sl false false a.length (av ak a),.fn 127]=(F (a,())).map fun r=>(R r,none):=cK _ _ _ (a,())
def gD:Env:=(Am.ext bs 127 false qB)
def pF:bY prog gD:=(bY.none.add Hv false)
def bM:=ai @w<|ai @kh<|ai @qB.eq_1<|@gD.eq_1
def pH:cr prog 102 eM:=cr.jl (mode := .clean) tok pF mixed func102 (by kernel_rfl) (fun _ _=>rfl) (fun _=>by kernel_rfl) fun⟨h,_⟩ r a=>by
 replace a:dO h=some r:=a;apply aL rfl ntmps102 results102;simp only[jo];unfold dO at a;simp only[bM,seval];obtain⟨l,i,a⟩:=ae a;refine aB (fun s t H e=>match s with|b=>t 0=sF ak h∧t 1=.fn 127∧t 7=sN (h.length:Int)∧t 8=sN b) (fun o x t H e=>match o with|(.inl _)=>x=.exit 0|(.inr r)=>x=.ret∧gu .clean tab none [.tmp 4] ⟨t,EH H,e⟩=some (.clean (.int .i64 r),none)) i ?_ ?_ ?_
 ·refine⟨?_,?_,?_,?_⟩;all_goals (rfl)
 ·rintro b t H e f c a;simp only[ez]at a;simp only[bM,seval,f];apply sp ay a<;>intro _ a
  ·obtain⟨n,j,a⟩:=ae a;have d:=bn ak j;simp only[bP]at d;obtain⟨p,k,a⟩:=ae a;simp only[bM,seval,f,d,k];apply sp ay a<;>intro _ a
   ·cases a;simp only[bM,seval];refine si ⟨rfl,?_⟩;simp only[bM,seval]
   ·cases a;simp only[bM,seval,f];apply iQ;and_intros<;>first|rfl|(simp only[bM,seval,f]<;>rfl)
  ·cases a;simp only[bM,seval];apply j9;exact rfl
 ·rintro x t H e g;rcases l with _|q
  ·dsimp only at g a;subst g;cases a;simp only[bM,seval]
  ·dsimp only at g a;obtain⟨rfl,m⟩:=g;cases a;simp only[a8,bf,cB,cL];exact m
def dR (l:Option (D×Row)) (d:List D):=er (gG (ko ak) (dN (NX 127))) (fun x:(List an)×Unit=>cI x.1) (fun r:Bool =>.clean (.bool r)) l d
def fN:Env:=(Am.ext bs 102 false eM)
def nP:bY prog fN:=(bY.none.add pH false)
def oK:=ai @w<|ai @ad1<|ai @eM.eq_1<|@fN.eq_1
def nT:cr prog 52 dR:=cr.jl (mode := .clean) tok nP mixed func52 (by kernel_rfl) (fun _ _=>rfl) (fun _=>by kernel_rfl) fun⟨c,_⟩ r a=>by
 replace a:cI c=some r:=a;apply aL rfl ntmps52 results52;simp only[jo];unfold cI at a;obtain⟨d,b,a⟩:=ae a;cases a;simp only[oK,seval,b]
def lv (l:Option (D×Row)) (d:List D):=er (dN (bV BD)) (fun x:gY=>qh x) (fun r:Bool =>.clean (.bool r)) l d
def ym:Env:=(Am.ext (Am.ext (Am.ext (Am.ext (Am.ext (Am.ext bs 24 false ca) 52 false dR) 54 false bh) 67 false rP) 81 false dr) 126 false lx)
def MJ:bY prog ym:=((((((bY.none.add jB false).add nT false).add ff false).add IZ false).add nk false).add B3 false)
def bt:=ai @w<|ai @kh<|ai @ca.eq_1<|ai @ad1<|ai @dR.eq_1<|ai @bh.eq_1<|ai @ahB<|ai @rP.eq_1<|ai @I6<|ai @dr.eq_1<|ai @RV<|ai @lx.eq_1<|@ym.eq_1
def B2:cr prog 73 lv:=cr.jl (mode := .clean) tok MJ mixed func73 (by kernel_rfl) (fun _ _=>rfl) (fun _=>by kernel_rfl) fun i r a=>by
 replace a:qh i=some r:=a;apply aL rfl ntmps73 results73;simp only[jo];unfold qh at a;obtain⟨Z,K,a⟩:=ae a;simp only[bt,seval,K];obtain⟨P,L,a⟩:=ae a;refine cV 0 (fun s t H e=>match s with|k=>∃g:Nat,t 1=.ptr 1 g 0∧t 14=.bool k∧H 1=rV g 66 [sN i.aA,sF cv i.bk]) (fun s=>s=P) ?_ ?_
 ·rintro k t H e ⟨g,v⟩ rfl;try dsimp only at a
  simp only[bt,seval,v];apply sp ay a<;>intro _ a
  ·cases a;simp only[bt,seval]
  ·simp only[bt,seval,v];obtain⟨M,w,a⟩:=ae a;refine aB (fun s t H e=>match s with|h=>∃b:Nat,t 1=.ptr 1 b 0∧t 16=sF cv i.bk∧t 17=sN (i.bk.length:Int)∧t 18=sN h∧H 1=rV b 66 [sN i.aA,sF cv i.bk]) (fun o x t H e=>match o with|(.inl _)=>x=.exit 0∧∃l:Nat,t 1=.ptr 1 l 0∧H 1=rV l 66 [sN i.aA,sF cv i.bk]|(.inr r)=>x=.ret∧gu .clean tab none [.tmp 2] ⟨t,EH H,e⟩=some (.clean (.bool r),none)) w ?_ ?_ ?_
   ·refine⟨g,?_⟩;and_intros<;>first|rfl|(simp only[bt,seval,v]<;>rfl)
   ·rintro h t H e ⟨b,p⟩ c a;simp only[pb]at a;simp only[bt,seval,p];apply sp ay a<;>intro _ a
    ·obtain⟨j,y,a⟩:=ae a;have q:=bn cv y;simp only[bP]at q;obtain⟨Q,z,a⟩:=ae a;simp only[bt,seval,p,q,z];obtain⟨N,A,a⟩:=ae a;refine cV 0 (fun s t H e=>match s with|m=>∃d:Nat,∃n:Nat,t 1=.ptr 1 d 0∧t 3=sN h∧t 4=.ptr 4 n 0∧t 16=sF cv i.bk∧t 17=sN (i.bk.length:Int)∧t 18=sN h∧t 50=.bool m∧H 1=rV d 66 [sN i.aA,sF cv i.bk]∧H 4=rV n 118 [sN j.dh,sN j.kF,sN j.gp.bL.ax,sI j.gp.bL.aa,sN j.gp.bQ.ax,sI j.gp.bQ.aa]) (fun s=>s=N) ?_ ?_
     ·rintro m t H e ⟨d,n,f⟩ rfl;try dsimp only at a
      simp only[bt,seval,f];apply sp ay a<;>intro _ a
      ·cases a;simp only[bt,seval];refine si ⟨rfl,?_⟩;simp only[bt,seval]
      ·simp only[bt,seval,f];apply sp Fe a<;>intro _ a
       ·obtain⟨R,B,a⟩:=ae a;have u:=bn cv B;simp only[bP]at u;obtain⟨S,C,a⟩:=ae a;simp only[bt,seval,f,u,C];refine bN (by kernel_rfl) ?_;apply sp ay a<;>intro _ a
        ·cases a;simp only[bt,seval];refine si ⟨rfl,?_⟩;simp only[bt,seval]
        ·cases a;simp only[bt,seval,f];apply iQ;refine⟨d,?_⟩;and_intros<;>first|rfl|(simp only[bt,seval,f]<;>rfl)
       ·simp only[bt,seval,f];refine bN (by kernel_rfl) ?_;cases a;apply iQ;refine⟨d,?_⟩;and_intros<;>first|rfl|(simp only[bt,seval,f]<;>rfl)
     ·clear a;have a:=A;simp only[bt,seval];apply sp bU a<;>intro _ a
      ·cases a;simp only[bt,seval];rw[aD];refine⟨_,rfl,?_⟩;refine⟨b,e+1,?_⟩;and_intros<;>first|rfl|(simp only[bt,seval,p]<;>rfl)
      ·obtain⟨T,D,a⟩:=ae a;simp only[bt,seval,p,D];apply sp bU a<;>intro _ a
       ·cases a;simp only[bt,seval];rw[aD];refine⟨_,rfl,?_⟩;refine⟨b,e+1,?_⟩;and_intros<;>first|rfl|(simp only[bt,seval,p]<;>rfl)
       ·obtain⟨U,E,a⟩:=ae a;simp only[bt,seval,E];apply sp bU a<;>intro _ a
        ·cases a;simp only[bt,seval];rw[aD];refine⟨_,rfl,?_⟩;refine⟨b,e+1,?_⟩;and_intros<;>first|rfl|(simp only[bt,seval,p]<;>rfl)
        ·obtain⟨V,F,a⟩:=ae a;cases a;simp only[bt,seval,F];rw[aD];refine⟨_,rfl,?_⟩;refine⟨b,e+1,?_⟩;and_intros<;>first|rfl|(simp only[bt,seval,p]<;>rfl)
    ·cases a;simp only[bt,seval];apply j9;refine⟨rfl,⟨b,?_,?_⟩⟩;all_goals ((simp only[bt,seval,p]<;>rfl))
   ·rintro x t H e J;rcases M with _|rb
    ·dsimp only at J a;obtain⟨rfl,⟨l,O⟩⟩:=J;obtain⟨W,G,a⟩:=ae a;obtain⟨X,I,a⟩:=ae a;cases a;simp only[bt,seval,O,G,I]
    ·dsimp only at J a;obtain⟨rfl,Y⟩:=J;cases a;simp only[a8,bf,cB,cL];exact Y
 ·clear a;have a:=L;simp only[bt,seval];apply sp bU a<;>intro _ a
  ·cases a;simp only[bt,seval];rw[aD];refine⟨_,rfl,?_⟩;refine⟨0,?_,?_,?_⟩;all_goals (rfl)
  ·cases a;simp only[bt,seval];rw[aD];refine⟨_,rfl,?_⟩;refine⟨0,?_,?_,?_⟩;all_goals (rfl)
def lh (l:Option (D×Row)) (d:List D):=er (dN (bV ak)) (fun x:an=>kL x) (fun r:Bool =>.clean (.bool r)) l d
def oY:Env:=(Am.ext bs 54 false bh)
def AI:bY prog oY:=(bY.none.add ff false)
def Cm:=ai @w<|ai @kh<|ai @bh.eq_1<|@oY.eq_1
def AR:cr prog 128 lh:=cr.jl (mode := .clean) tok AI mixed func128 (by kernel_rfl) (fun _ _=>rfl) (fun _=>by kernel_rfl) fun c r a=>by
 replace a:kL c=some r:=a;apply aL rfl ntmps128 results128;simp only[jo];unfold kL at a;obtain⟨d,b,a⟩:=ae a;cases a;simp only[Cm,seval,b]
def dJ (l:Option (D×Row)) (d:List D):=er (gG (ko ak) (dN (NX 128))) (fun x:(List an)×Unit=>de x.1) (fun r:Int =>.clean (.int .i64 r)) l d
def ad2 {β:Type} {F:(List an)×Unit->Option β} {R:β->RK} (a:(List an)):er (gG (ko ak) (dN (NX 128))) F R none [.sl false false a.length (av ak a),.fn 128]=(F (a,())).map fun r=>(R r,none):=cK _ _ _ (a,())
def fm:Env:=(Am.ext bs 128 false lh)
def nf:bY prog fm:=(bY.none.add AR false)
def bu:=ai @w<|ai @kh<|ai @lh.eq_1<|@fm.eq_1
def np:cr prog 102 dJ:=cr.jl (mode := .clean) tok nf mixed func102 (by kernel_rfl) (fun _ _=>rfl) (fun _=>by kernel_rfl) fun⟨h,_⟩ r a=>by
 replace a:de h=some r:=a;apply aL rfl ntmps102 results102;simp only[jo];unfold de at a;simp only[bu,seval];obtain⟨l,i,a⟩:=ae a;refine aB (fun s t H e=>match s with|b=>t 0=sF ak h∧t 1=.fn 128∧t 7=sN (h.length:Int)∧t 8=sN b) (fun o x t H e=>match o with|(.inl _)=>x=.exit 0|(.inr r)=>x=.ret∧gu .clean tab none [.tmp 4] ⟨t,EH H,e⟩=some (.clean (.int .i64 r),none)) i ?_ ?_ ?_
 ·refine⟨?_,?_,?_,?_⟩;all_goals (rfl)
 ·rintro b t H e f c a;simp only[dE]at a;simp only[bu,seval,f];apply sp ay a<;>intro _ a
  ·obtain⟨n,j,a⟩:=ae a;have d:=bn ak j;simp only[bP]at d;obtain⟨p,k,a⟩:=ae a;simp only[bu,seval,f,d,k];apply sp ay a<;>intro _ a
   ·cases a;simp only[bu,seval];refine si ⟨rfl,?_⟩;simp only[bu,seval]
   ·cases a;simp only[bu,seval,f];apply iQ;and_intros<;>first|rfl|(simp only[bu,seval,f]<;>rfl)
  ·cases a;simp only[bu,seval];apply j9;exact rfl
 ·rintro x t H e g;rcases l with _|q
  ·dsimp only at g a;subst g;cases a;simp only[bu,seval]
  ·dsimp only at g a;obtain⟨rfl,m⟩:=g;cases a;simp only[a8,bf,cB,cL];exact m
def dj (l:Option (D×Row)) (d:List D):=er (gG (ko ak) (dN (NX 128))) (fun x:(List an)×Unit=>cN x.1) (fun r:Bool =>.clean (.bool r)) l d
def eP:Env:=(Am.ext bs 102 false dJ)
def lF:bY prog eP:=(bY.none.add np false)
def mI:=ai @w<|ai @ad2<|ai @dJ.eq_1<|@eP.eq_1
def lM:cr prog 52 dj:=cr.jl (mode := .clean) tok lF mixed func52 (by kernel_rfl) (fun _ _=>rfl) (fun _=>by kernel_rfl) fun⟨c,_⟩ r a=>by
 replace a:cN c=some r:=a;apply aL rfl ntmps52 results52;simp only[jo];unfold cN at a;obtain⟨d,b,a⟩:=ae a;cases a;simp only[mI,seval,b]
def nB (l:Option (D×Row)) (d:List D):=er (gG (ko ak) (dN (aI .i64))) (fun x:(List an)×Int=>kV x.1 x.2) (fun r:Bool =>.clean (.bool r)) l d
def ahC {β:Type} {F:(List an)×Int->Option β} {R:β->RK} (a:(List an)) (b:Int):er (gG (ko ak) (dN (aI .i64))) F R none [.sl false false a.length (av ak a),.int .i64 b]=(F (a,b)).map fun r=>(R r,none):=cK _ _ _ (a,b)
def rD:Env:=(Am.ext bs 52 false dj)
def CU:bY prog rD:=(bY.none.add lM false)
def rI:=ai @w<|ai @ad2<|ai @dj.eq_1<|@rD.eq_1
def C9:cr prog 74 nB:=cr.jl (mode := .clean) tok CU mixed func74 (by kernel_rfl) (fun _ _=>rfl) (fun _=>by kernel_rfl) fun⟨c,d⟩ r a=>by
 replace a:kV c d=some r:=a;apply aL rfl ntmps74 results74;simp only[jo];unfold kV at a;simp only[rI,seval];apply sp fM a<;>intro _ a
 ·obtain⟨e,b,a⟩:=ae a;cases a;simp only[rI,seval,b]
 ·cases a;simp only[rI,seval]
def tV (l:Option (D×Row)) (d:List D):=er (dN (bV BD)) (fun x:gY=>kb x) (fun r:(List Int) =>.clean (.sl false false r.length (av (eI .i64) r))) l d
def yl:Env:=(Am.xt 18 (3,1,0) (Am.ext (Am.ext (Am.ext bs 24 false ca) 73 false lv) 126 false lx))
def MI:bY prog yl:=(bY.xt (((bY.none.add jB false).add B2 false).add B3 false) 18 (3,1,0))
def bl:=ai @w<|ai @kh<|ai @ca.eq_1<|ai @RV<|ai @lv.eq_1<|ai @lx.eq_1<|@yl.eq_1
def M7:cr prog 136 tV:=cr.jl (mode := .clean) tok MI mixed func136 (by kernel_rfl) (fun _ _=>rfl) (fun _=>by kernel_rfl) fun p0 r a=>by
 replace a:kb p0=some r:=a;apply aL rfl ntmps136 results136;simp only[jo];unfold kb at a;obtain⟨r1,bG,a⟩:=ae a;simp only[bl,seval,-Int.reduceToNat,bG];apply sp ay a<;>intro _ a
 ·cases a;simp only[bl,seval,-Int.reduceToNat]
 ·obtain⟨x3,b2,a⟩:=ae a;have bH:=Wa (E:=(Pf (eI .i64))) (ty':=3) (s:=1) (f:=0) (k := .i64) Nz (by rfl) rfl rfl rfl rfl rfl b2;obtain⟨aR,dn,dp,dq,dr⟩:=mk_one (Pf (eI .i64)) b2;simp only[bl,seval,-Int.reduceToNat,bH,aR];obtain⟨c8,b3,a⟩:=ae a;refine aB (fun s t H e=>match s with|(a7,V)=>∃W:Nat,∃w:Nat,∃l:Nat,t 1=.ptr 1 W 0∧t 3=.buf 18 w 1 0 (V).length∧t 20=sF cv p0.bk∧t 21=sN (p0.bk.length:Int)∧t 22=sN a7∧H 1=rV W 66 [sN p0.aA,sF cv p0.bk]∧H 18=some ⟨w,22,[.nr 3 1 l (av (Pf (eI .i64)) V)],false,true,true⟩∧l<=4*e) (fun o x t H e=>match o with|b=>x=.exit 0∧∃X:Nat,∃p:Nat,∃h:Nat,t 1=.ptr 1 X 0∧t 3=.buf 18 p 1 0 (b).length∧H 1=rV X 66 [sN p0.aA,sF cv p0.bk]∧H 18=some ⟨p,22,[.nr 3 1 h (av (Pf (eI .i64)) b)],false,true,true⟩∧h<=4*e) b3 ?_ ?_ ?_
  ·refine⟨0,2,4*(2)+2,?_,?_,?_,?_,?_,?_,?_,?_⟩;all_goals (first|rfl|omega|(simp only[bl,seval,-Int.reduceToNat,bG,bH,aR]<;>rfl))
  ·rintro⟨a7,V⟩ t H e ⟨W,w,l,Za⟩ c a;simp only[mn]at a;simp only[bl,seval,-Int.reduceToNat,Za];apply sp ay a<;>intro _ a
   ·obtain⟨ds,b4,a⟩:=ae a;have a8:=bn cv b4;simp only[bP]at a8;obtain⟨dt,A,a⟩:=ae a;have B:=bn (Pf (eI .i64)) A;simp only[bP]at B;obtain⟨bI,b5,a⟩:=ae a;obtain⟨b6,ba,b7,b8⟩:=lj (eI .i64) b5;simp only[bP]at ba;have B:=bn (Pf (eI .i64)) A;simp only[bP]at B;have b9:=Rp (Pf (eI .i64)) (x':=bI) 0 .und (.nx bI.length (av (eI .i64) bI)) A rfl (ak7 rfl);have bb:=Wr (Pf (eI .i64)) 0 .und A (ak7 rfl);simp only[bP,Nat.add_zero]at b9 bb;have bc:=b9;simp only[putCells,List.length_cons,List.length_nil,akw]at bc;have Y:=bb;simp only[putCells,List.length_cons,List.length_nil,akw]at Y;have ca:bump l (e+1+1)=some (4*(e+1+1)+1):=lk (by omega);simp only[bl,seval,-Int.reduceToNat,Za,a8,b6,ba,b7,b8,B,bc,Y,ca];refine bN (by kernel_rfl) ?_;cases a;apply iQ;refine⟨W,w,4*(e+1+1)+1,?_,?_,?_,?_,?_,?_,?_,?_⟩;all_goals (first|rfl|omega|(simp only[bl,seval,-Int.reduceToNat,Za]<;>rfl))
   ·cases a;simp only[bl,seval,-Int.reduceToNat];apply j9;refine⟨rfl,⟨W,w,l,?_,?_,?_,?_,?_⟩⟩;all_goals (first|rfl|omega|(simp only[bl,seval,-Int.reduceToNat,Za]<;>rfl))
  ·rintro x t H e Z;obtain⟨b,rfl⟩:∃z,z=c8:=⟨_,rfl⟩;dsimp only at Z a;obtain⟨rfl,⟨X,p,h,cb⟩⟩:=Z;obtain⟨du,cc,a⟩:=ae a;obtain⟨cd,bd,bf,aa,bg⟩:=mk_one (eI .i64) cc;simp only[bP]at aa;obtain⟨cf,bh,a⟩:=ae a;simp only[bl,seval,-Int.reduceToNat,aR,cb,bd,bf,aa,bg,bh];obtain⟨c9,cg,a⟩:=ae a;refine aB (fun s t H e=>match s with|(bk,bJ,bK)=>∃T:Nat,∃ab:Nat,∃m:Nat,∃g:Nat,∃ad:Nat,∃ag:List D,t 3=.buf 18 m 1 0 (b).length∧t 6=.buf 6 T 1 0 (bJ).length∧t 7=.buf 7 ab 1 ad (bK).length∧t 44=sF ak cf∧t 45=sN (cf.length:Int)∧t 46=sN bk∧H 6=rW T 3 (av (eI .i64) bJ)∧H 7=rW ab 3 (ag)∧H 18=some ⟨m,22,[.nr 3 1 g (av (Pf (eI .i64)) b)],false,true,true⟩∧g<=4*e∧xk (eI .i64) ag ad bK) (fun o x t H e=>match o with|(ah,ai)=>x=.exit 2∧∃C:Nat,∃F:Nat,∃q:Nat,∃i:Nat,∃G:Nat,∃I:List D,t 3=.buf 18 q 1 0 (b).length∧t 6=.buf 6 C 1 0 (ah).length∧t 7=.buf 7 F 1 G (ai).length∧H 6=rW C 3 (av (eI .i64) ah)∧H 7=rW F 3 (I)∧H 18=some ⟨q,22,[.nr 3 1 i (av (Pf (eI .i64)) b)],false,true,true⟩∧i<=4*e∧xk (eI .i64) I G ai) cg ?_ ?_ ?_
   ·refine⟨e,e+1,p,h,0,(av (eI .i64) ([])),?_,?_,?_,?_,?_,?_,?_,?_,?_,?_,(xk.self (eI .i64) ([]))⟩;all_goals (first|rfl|omega|(simp only[bl,seval,-Int.reduceToNat,cb]<;>rfl))
   ·rintro⟨bk,bJ,bK⟩ t H e ⟨T,ab,m,g,ad,ag,bL,aj,bM,al,ao,J,ch,bO,bm,da,aS⟩ c a;simp only[mo]at a;have aq:=aS.fit;have ar:=aS.eq;simp only[bP]at aq ar;simp only[bl,seval,-Int.reduceToNat,ao,J];apply sp ay a<;>intro _ a
    ·obtain⟨dv,cj,a⟩:=ae a;have au:=bn ak cj;simp only[bP]at au;obtain⟨dw,bo,a⟩:=ae a;have aw:=bn (eI .i64) bo;simp only[bP]at aw;have ck:=fL (eI .i64) (x':=(-1)) (fo:=0) (cs:=[.int .i64 (-1)]) bo rfl (ak7 rfl);simp only[bP,Nat.add_zero]at ck;have bp:=ck;simp only[putCells,List.length_cons,List.length_nil,akw]at bp;obtain⟨dx,cm,a⟩:=ae a;simp only[bl,seval,-Int.reduceToNat,aj,al,J,ch,au,aw,bp,cm];apply sp ay a<;>intro _ a
     ·obtain⟨dy,bq,a⟩:=ae a;have cn:=bn (eI .i64) bq;simp only[bP,alv]at cn;have cp:=fL (eI .i64) (x':=0) (fo:=0) (cs:=[.int .i64 0]) bq rfl (ak7 rfl);simp only[bP,Nat.add_zero]at cp;have br:=cp;simp only[putCells,List.length_cons,List.length_nil,akw]at br;obtain⟨cq,ct,a⟩:=ae a;obtain⟨cu,bs,cw,cx⟩:=lj (eI .i64) ct;simp only[bP]at bs;cases a;simp only[bl,seval,-Int.reduceToNat,aj,bM,J,bO,aq,ar,au,aw,br,cu,bs,cw,cx];apply iQ;refine⟨T,e+1+1+1+1+1,m,g,0,(av (eI .i64) cq),?_,?_,?_,?_,?_,?_,?_,?_,?_,?_,(xk.self (eI .i64) cq)⟩;all_goals (first|rfl|omega|(simp only[bl,seval,-Int.reduceToNat,bL,aj,al,ao,bm]<;>rfl))
     ·cases a;simp only[bl,seval,-Int.reduceToNat,J];apply iQ;refine⟨T,ab,m,g,ad,ag,?_,?_,?_,?_,?_,?_,?_,?_,?_,?_,aS⟩;all_goals (first|rfl|omega|(simp only[bl,seval,-Int.reduceToNat,bL,aj,bM,al,ao,bO,bm]<;>rfl))
    ·cases a;simp only[bl,seval,-Int.reduceToNat];apply j9;refine⟨rfl,⟨T,ab,m,g,ad,ag,?_,?_,?_,?_,?_,?_,?_,aS⟩⟩;all_goals (first|rfl|omega|(simp only[bl,seval,-Int.reduceToNat,bL,aj,bM,ch,bO]<;>rfl))
   ·rintro x t H e Z;rcases c9 with⟨ah,ai⟩;dsimp only at Z a;obtain⟨rfl,⟨C,F,q,i,G,I,cy,cz,cA,cB,cC,bQ,aT,ax⟩⟩:=Z;have K:=ax.fit;have L:=ax.eq;simp only[bP]at K L;simp only[bl,seval,-Int.reduceToNat];obtain⟨db,cD,a⟩:=ae a;refine aB (fun s t H e=>match s with|(bR,bS)=>∃az:Nat,∃bT:Nat,∃M:Nat,∃u:Nat,∃aU:Nat,∃aV:List D,t 3=.buf 18 M 1 0 (b).length∧t 6=.buf 6 az 1 0 (bR).length∧t 7=.buf 7 bT 1 aU (bS).length∧H 6=rW az 3 (av (eI .i64) bR)∧H 7=rW bT 3 (aV)∧H 18=some ⟨M,22,[.nr 3 1 u (av (Pf (eI .i64)) b)],false,true,true⟩∧u<=4*e∧xk (eI .i64) aV aU bS) (fun o x t H e=>match o with|aA=>x=.exit 4∧∃aC:Nat,t 6=.buf 6 aC 1 0 (aA).length∧H 6=rW aC 3 (av (eI .i64) aA)) cD ?_ ?_ ?_
    ·refine⟨C,F,q,i,G,I,?_,?_,?_,?_,?_,?_,?_,ax⟩;all_goals (first|rfl|omega|(simp only[bl,seval,-Int.reduceToNat,bG,bH,aR,cd,bd,bf,aa,bg,bh,cy,cz,cA,cB,cC,bQ,aT,K,L]<;>rfl))
    ·rintro⟨bR,bS⟩ t H e ⟨az,bT,M,u,aU,aV,cE,cF,cG,cH,cI,bt,dc,aW⟩ c a;simp only[mq]at a;have bU:=aW.fit;have bV:=aW.eq;simp only[bP]at bU bV;simp only[bl,seval,-Int.reduceToNat,cG,cI];apply sp ay a<;>intro _ a
     ·obtain⟨cJ,bu,a⟩:=ae a;have cK:=tp bu;obtain⟨bw,cL,bx⟩:=aW.idx bu;simp only[bP]at bx bw;obtain⟨dz,bz,a⟩:=ae a;obtain⟨cM,di,cN,cO,cP⟩:=ab5 (eI .i64) bz;simp only[bP]at cP;have cQ:=xk.tail aW bz;obtain⟨cR,cS,a⟩:=ae a;have N:=bn (Pf (eI .i64)) cS;simp only[bP]at N;simp only[bl,seval,-Int.reduceToNat,cE,cG,cI,bt,cK,bx,bw,cM,cN,N];obtain⟨dd,cT,a⟩:=ae a;refine aB (fun s t H e=>match s with|(bA,bW,bX)=>∃U:Nat,∃aD:Nat,∃n:Nat,∃d:Nat,∃aE:Nat,∃aF:List D,t 3=.buf 18 n 1 0 (b).length∧t 6=.buf 6 U 1 0 (bW).length∧t 7=.buf 7 aD 1 aE (bX).length∧t 10=sN cJ∧t 76=.buf (NK 18 ((cJ:Int).toNat*1)) d 1 0 (cR).length∧t 77=sN ((cR).length:Int)∧t 78=sN bA∧H 6=rW U 3 (av (eI .i64) bW)∧H 7=rW aD 3 (aF)∧H 18=some ⟨n,22,[.nr 3 1 d (av (Pf (eI .i64)) b)],false,true,true⟩∧d<=4*e∧xk (eI .i64) aF aE bX) (fun o x t H e=>match o with|(aG,aH)=>x=.exit 6∧∃O:Nat,∃P:Nat,∃v:Nat,∃j:Nat,∃Q:Nat,∃R:List D,t 3=.buf 18 v 1 0 (b).length∧t 6=.buf 6 O 1 0 (aG).length∧t 7=.buf 7 P 1 Q (aH).length∧H 6=rW O 3 (av (eI .i64) aG)∧H 7=rW P 3 (R)∧H 18=some ⟨v,22,[.nr 3 1 j (av (Pf (eI .i64)) b)],false,true,true⟩∧j<=4*e∧xk (eI .i64) R Q aH) cT ?_ ?_ ?_
      ·refine⟨az,e+1+1,M,u,(aU+(1:Int).toNat*1),(aV),?_,?_,?_,?_,?_,?_,?_,?_,?_,?_,?_,cQ⟩;all_goals (first|rfl|omega|(simp only[bl,seval,-Int.reduceToNat,cE,cF,cH,bt,cO]<;>rfl))
      ·rintro⟨bA,bW,bX⟩ t H e ⟨U,aD,n,d,aE,aF,bY,aI,bZ,aJ,aK,aM,S,aY,b1,bB,de,aZ⟩ c a;simp only[mu]at a;have aN:=aZ.fit;have aO:=aZ.eq;simp only[bP]at aN aO;simp only[bl,seval,-Int.reduceToNat,aM,S];apply sp ay a<;>intro _ a
       ·obtain⟨dA,cU,a⟩:=ae a;have bC:=bn (eI .i64) cU;simp only[bP]at bC;obtain⟨dB,aP,a⟩:=ae a;have y:=bn (eI .i64) aP;simp only[bP]at y;simp only[bl,seval,-Int.reduceToNat,N,aI,aK,S,aY,bB,bC,y];apply sp ay a<;>intro _ a
        ·obtain⟨cV,cW,a⟩:=ae a;have bD:=bn (eI .i64) cW;simp only[bP]at bD;have y:=bn (eI .i64) aP;simp only[bP]at y;have cX:=fL (eI .i64) (x':=IntKind.i64.wrap (cV+1)) (fo:=0) (cs:=[.int .i64 (IntKind.i64.wrap (cV+1))]) aP rfl (ak7 rfl);simp only[bP,Nat.add_zero]at cX;have bE:=cX;simp only[putCells,List.length_cons,List.length_nil,akw]at bE;obtain⟨cY,cZ,a⟩:=ae a;obtain⟨c0,bF,c3,c4⟩:=lj (eI .i64) cZ;simp only[bP]at bF;cases a;simp only[bl,seval,-Int.reduceToNat,N,aI,bZ,aJ,S,aY,b1,aN,aO,bD,y,bE,c0,bF,c3,c4];apply iQ;refine⟨U,e+1+1+1+1,n,d,0,(av (eI .i64) cY),?_,?_,?_,?_,?_,?_,?_,?_,?_,?_,?_,(xk.self (eI .i64) cY)⟩;all_goals (first|rfl|omega|(simp only[bl,seval,-Int.reduceToNat,bY,aI,aJ,aK,aM,bB]<;>rfl))
        ·cases a;simp only[bl,seval,-Int.reduceToNat,S];apply iQ;refine⟨U,aD,n,d,aE,aF,?_,?_,?_,?_,?_,?_,?_,?_,?_,?_,?_,aZ⟩;all_goals (first|rfl|omega|(simp only[bl,seval,-Int.reduceToNat,bY,aI,bZ,aJ,aK,aM,aY,b1]<;>rfl))
       ·cases a;simp only[bl,seval,-Int.reduceToNat];apply j9;refine⟨rfl,⟨U,aD,n,d,aE,aF,?_,?_,?_,?_,?_,?_,?_,aZ⟩⟩;all_goals (first|rfl|omega|(simp only[bl,seval,-Int.reduceToNat,bY,aI,bZ,aY,b1]<;>rfl))
      ·rintro x t H e Z;rcases dd with⟨aG,aH⟩;dsimp only at Z a;obtain⟨rfl,⟨O,P,v,j,Q,R,dj,dk,dm,c5,c6,df,c7,aQ⟩⟩:=Z;have a1:=aQ.fit;have a6:=aQ.eq;simp only[bP]at a1 a6;cases a;simp only[bl,seval,-Int.reduceToNat];apply iQ;refine⟨O,P,v,j,Q,R,?_,?_,?_,?_,?_,?_,?_,aQ⟩;all_goals (first|rfl|omega|(simp only[bl,seval,-Int.reduceToNat,c5,c6]<;>rfl))
     ·cases a;simp only[bl,seval,-Int.reduceToNat];apply j9;refine⟨rfl,⟨az,?_,?_⟩⟩;all_goals ((simp only[bl,seval,-Int.reduceToNat,cF,cH]<;>rfl))
    ·rintro x t H e Z;obtain⟨aA,rfl⟩:∃z,z=db:=⟨_,rfl⟩;dsimp only at Z a;obtain⟨rfl,⟨aC,dh⟩⟩:=Z;cases a;simp only[bl,seval,-Int.reduceToNat,dh]
def qC (l:Option (D×Row)) (d:List D):=er (dN (bV BD)) (fun x:gY=>lK x) (fun r:(List Int) =>.clean (.sl false false r.length (av (eI .i64) r))) l d
def uQ:Env:=(Am.ext bs 136 false tV)
def GG:bY prog uQ:=(bY.none.add M7 false)
def fT:=ai @w<|ai @RV<|ai @tV.eq_1<|@uQ.eq_1
def Hw:cr prog 85 qC:=cr.jl (mode := .clean) tok GG mixed func85 (by kernel_rfl) (fun _ _=>rfl) (fun _=>by kernel_rfl) fun B r a=>by
 replace a:lK B=some r:=a;apply aL rfl ntmps85 results85;simp only[jo];unfold lK at a;obtain⟨y,q,a⟩:=ae a;simp only[fT,seval,q];obtain⟨C,u,a⟩:=ae a;refine aB (fun s t H e=>match s with|(j,h)=>∃b:Nat,t 3=.buf 3 b 1 0 (h).length∧t 7=sI y∧t 8=sN (y.length:Int)∧t 9=sN j∧H 3=rW b 3 (av (eI .i64) h)) (fun o x t H e=>match o with|d=>x=.exit 0∧∃f:Nat,t 3=.buf 3 f 1 0 (d).length∧H 3=rW f 3 (av (eI .i64) d)) u ?_ ?_ ?_
 ·refine⟨1,?_,?_,?_,?_,?_⟩;all_goals (rfl)
 ·rintro⟨j,h⟩ t H e ⟨b,i⟩ c a;simp only[kc]at a;simp only[fT,seval,i];apply sp ay a<;>intro _ a
  ·obtain⟨E,v,a⟩:=ae a;have k:=bn (eI .i64) v;simp only[bP]at k;simp only[fT,seval,i,k];apply sp ay a<;>intro _ a
   ·obtain⟨D,l,a⟩:=ae a;obtain⟨m,g,n,p⟩:=lj (eI .i64) l;simp only[bP]at g;cases a;simp only[fT,seval,i,m,g,n,p];apply iQ;refine⟨e+1+1+1,?_⟩;and_intros<;>first|rfl|(simp only[fT,seval,i]<;>rfl)
   ·cases a;simp only[fT,seval,i];apply iQ;refine⟨b,?_⟩;and_intros<;>first|rfl|(simp only[fT,seval,i]<;>rfl)
  ·cases a;simp only[fT,seval];apply j9;refine⟨rfl,⟨b,?_,?_⟩⟩;all_goals ((simp only[fT,seval,i]<;>rfl))
 ·rintro x t H e A;obtain⟨d,rfl⟩:∃z,z=C:=⟨_,rfl⟩;dsimp only at A a;obtain⟨rfl,⟨f,w⟩⟩:=A;cases a;simp only[fT,seval,w]
def ahD {β:Type} {F:gY×(List an)->Option β} {R:β->RK} (b:Int) (a:(List cA)) (c:(List an)):er (gG (bV BD) (dN (ko ak))) F R none [.agg [.int .i64 b,.sl false false a.length (av cv a)],.sl false false c.length (av ak c)]=(F ((gY.mk b a),c)).map fun r=>(R r,none):=cK _ _ _ ((gY.mk b a),c)
def ln:Env:=(Am.xt 11 (130,5,4) bs)
def AJ:bY prog ln:=(bY.xt bY.none 11 (130,5,4))
def b9:=ai @w<|@ln.eq_1
def BV (F:gY) (p1:(List an)) (r:(List aH)) (a:gn F p1=some r):A4 tab ln FU Tryz.f75 [.agg [.int .i64 F.aA,.sl false false F.bk.length (av cv F.bk)],.sl false false p1.length (av ak p1)]=some (128,130,5,5,r.length,av a7 r):=by
 apply Y1 rfl ntmps75 results75;unfold gn at a;obtain⟨x1,T,a⟩:=ae a;have U:=Wa (E:=a7) (ty':=130) (s:=5) (f:=4) (k := .i64) Ny (by rfl) rfl rfl rfl rfl rfl T;obtain⟨V,aC,aD,aE,aF⟩:=mk_one a7 T;simp only[b9,seval,U,V];obtain⟨o8,au,a⟩:=ae a;refine aB (fun s t H e=>match s with|(G,w)=>∃y:Nat,∃l:Nat,∃g:Nat,t 1=sF ak p1∧t 2=.ptr 2 y 0∧t 5=.buf 11 l 5 0 (w).length∧t 13=sN ((x1).length:Int)∧t 14=sN G∧H 2=rV y 66 [sN F.aA,sF cv F.bk]∧H 11=some ⟨l,128,[.nr 130 5 g (av a7 w)],false,true,true⟩∧g<=4*e) (fun o x t H e=>match o with|n=>x=.exit 0∧∃A:Nat,∃i:Nat,∃d:Nat,t 2=.ptr 2 A 0∧t 5=.buf 11 i 5 0 (n).length∧H 2=rV A 66 [sN F.aA,sF cv F.bk]∧H 11=some ⟨i,128,[.nr 130 5 d (av a7 n)],false,true,true⟩∧d<=4*e) au ?_ ?_ ?_
 ·refine⟨0,1,4*(1)+2,?_,?_,?_,?_,?_,?_,?_,?_⟩;all_goals (first|rfl|omega|(simp only[b9,seval,U,V]<;>rfl))
 ·rintro⟨G,w⟩ t H e ⟨y,l,g,Za⟩ c a;simp only[iS]at a;simp only[b9,seval,Za];apply sp ay a<;>intro _ a
  ·obtain⟨p,W,a⟩:=ae a;have I:=bn ak W;simp only[bP]at I;obtain⟨aw,B,a⟩:=ae a;have J:=bn a7 B;simp only[bP]at J;have K:=kH a7 0 4 (ak7 rfl) B;simp only[bP,Nat.add_zero]at K;have X:=fL a7 (x':=(aH.mk p aw.cF)) (fo:=0) (cs:=[.int .i64 p.bL.ax,.sl false false p.bL.aa.length (av (eI .i64) p.bL.aa),.int .i64 p.bQ.ax,.sl false false p.bQ.aa.length (av (eI .i64) p.bQ.aa)]) B rfl (ak7 rfl);simp only[bP,Nat.add_zero]at X;have L:=X;simp only[putCells,List.length_cons,List.length_nil,akw,Nat.reduceAdd]at L;cases a;simp only[b9,seval,Za,I,J,K,L];apply iQ;refine⟨y,l,g,?_,?_,?_,?_,?_,?_,?_,?_⟩;all_goals (first|rfl|omega|(simp only[b9,seval,Za]<;>rfl))
  ·cases a;simp only[b9,seval];apply j9;refine⟨rfl,⟨y,l,g,?_,?_,?_,?_,?_⟩⟩;all_goals (first|rfl|omega|(simp only[b9,seval,Za]<;>rfl))
 ·rintro x t H e Y;obtain⟨n,rfl⟩:∃z,z=o8:=⟨_,rfl⟩;dsimp only at Y a;obtain⟨rfl,⟨A,i,d,Z⟩⟩:=Y;simp only[b9,seval,Z];obtain⟨ax,aa,a⟩:=ae a;refine aB (fun s t H e=>match s with|(M,C)=>∃m:Nat,∃h:Nat,t 5=.buf 11 m 5 0 (C).length∧t 27=sF cv F.bk∧t 28=sN (F.bk.length:Int)∧t 29=sN M∧H 11=some ⟨m,128,[.nr 130 5 h (av a7 C)],false,true,true⟩∧h<=4*e) (fun o x t H e=>match o with|q=>x=.exit 2∧∃u:Nat,∃j:Nat,t 5=.buf 11 u 5 0 (q).length∧H 11=some ⟨u,128,[.nr 130 5 j (av a7 q)],false,true,true⟩∧j<=4*e) aa ?_ ?_ ?_
  ·refine⟨i,d,?_,?_,?_,?_,?_,?_⟩;all_goals (first|rfl|omega|(simp only[b9,seval,Z]<;>rfl))
  ·rintro⟨M,C⟩ t H e ⟨m,h,Zb⟩ c a;simp only[iT]at a;simp only[b9,seval,Zb];apply sp ay a<;>intro _ a
   ·obtain⟨aG,ab,a⟩:=ae a;have N:=bn cv ab;simp only[bP]at N;obtain⟨az,b,a⟩:=ae a;have v:=bn a7 b;simp only[bP]at v;have O:=lG a7 4 b;have ad:=kH a7 4 1 (ak7 rfl) b;simp only[bP]at O ad;obtain⟨S,ag,a⟩:=ae a;obtain⟨ah,P,ai,aj⟩:=lj ch ag;simp only[bP]at P;have v:=bn a7 b;simp only[bP]at v;have al:=lG a7 4 b;have ao:=kH a7 4 1 (ak7 rfl) b;simp only[bP]at al ao;have aq:=Rp a7 (x':=(aH.mk az.bK S)) 4 .und (.nx S.length (av ch S)) b rfl (ak7 rfl);have Q:=Wr a7 4 .und b (ak7 rfl);simp only[bP]at aq Q;have R:=aq;simp only[putCells,List.length_cons,List.length_nil,akw]at R;have D:=Q;simp only[putCells,List.length_cons,List.length_nil,akw]at D;have ar:bump h (e+1+1)=some (4*(e+1+1)+1):=lk (by omega);simp only[b9,seval,Zb,N,O,ah,P,ai,aj,v,R,D,ar];refine bN (by kernel_rfl) ?_;cases a;apply iQ;refine⟨m,4*(e+1+1)+1,?_,?_,?_,?_,?_,?_⟩;all_goals (first|rfl|omega|(simp only[b9,seval,Zb]<;>rfl))
   ·cases a;simp only[b9,seval];apply j9;refine⟨rfl,⟨m,h,?_,?_,?_⟩⟩;all_goals (first|rfl|omega|(simp only[b9,seval,Zb]<;>rfl))
  ·rintro x t H e Y;obtain⟨q,rfl⟩:∃z,z=ax:=⟨_,rfl⟩;dsimp only at Y a;obtain⟨rfl,⟨u,j,aA⟩⟩:=Y;cases a;simp only[b9,seval,aA]
def nL:=b7 (gG (bV BD) (dN (ko ak))) (fun x:gY×(List an)=>gn x.1 x.2) (fun r:(List aH)=>(128,130,5,5,r.length,av a7 r))
def tF (b:Int) (a:(List cA)) (c:(List an)):nL [.agg [.int .i64 b,.sl false false a.length (av cv a)],.sl false false c.length (av ak c)]=(gn (gY.mk b a) c).map fun r:(List aH)=>(128,130,5,5,r.length,av a7 r):=afO _ _ _ ((gY.mk b a),c)
def rM:FOk prog 75 nL:=FOk.of tok AJ mixed func75 (by kernel_rfl) ⟨by kernel_rfl,by kernel_rfl⟩ (fun _=>ak7 (by kernel_rfl)) (fun x r h=>BV x.1 x.2 r h)
def hZ (l:Option (D×Row)) (d:List D):=er (gG (bV ch) (dN (aI .i64))) (fun x:fR×Int=>ee x.1 x.2) (fun r:Int =>.clean (.int .i64 r)) l d
def ahE {β:Type} {F:fR×Int->Option β} {R:β->RK} (c:Int) (d:Int) (a:(List Int)) (e:Int) (b:(List Int)) (f:Int):er (gG (bV ch) (dN (aI .i64))) F R none [.agg [.int .i64 c,.int .i64 d,.sl false false a.length (av (eI .i64) a),.int .i64 e,.sl false false b.length (av (eI .i64) b)],.int .i64 f]=(F ((fR.mk c (an.mk (aK.mk d a) (aK.mk e b))),f)).map fun r=>(R r,none):=cK _ _ _ ((fR.mk c (an.mk (aK.mk d a) (aK.mk e b))),f)
def j8:Env:=(Am.ext bs 110 false dX)
def uT:bY prog j8:=(bY.none.add pk false)
def vF:=ai @w<|ai @NY<|ai @dX.eq_1<|@j8.eq_1
def uX:cr prog 178 hZ:=cr.jl (mode := .clean) tok uT mixed func178 (by kernel_rfl) (fun _ _=>rfl) (fun _=>by kernel_rfl) fun⟨c,d⟩ r a=>by
 replace a:ee c d=some r:=a;apply aL rfl ntmps178 results178;simp only[jo];unfold ee at a;obtain⟨e,b,a⟩:=ae a;cases a;simp only[vF,seval,b]
def cq (l:Option (D×Row)) (d:List D):=er (gG (ko ch) (gG (aI .i64) (dN (NX 178)))) (fun x:(List fR)×Int×Unit=>bE x.1 x.2.1) (fun r:Int×Bool =>.clean (.tup [.int .i64 r.1,.bool r.2])) l d
def ahF {β:Type} {F:(List fR)×Int×Unit->Option β} {R:β->RK} (a:(List fR)) (b:Int):er (gG (ko ch) (gG (aI .i64) (dN (NX 178)))) F R none [.sl false false a.length (av ch a),.int .i64 b,.fn 178]=(F (a,b,())).map fun r=>(R r,none):=cK _ _ _ (a,b,())
def db:Env:=(Am.ext bs 178 false hZ)
def jf:bY prog db:=(bY.none.add uX false)
def aJ:=ai @w<|ai @ahE<|ai @hZ.eq_1<|@db.eq_1
end Go.Proofs.YtobnihfgnbnncaaGreat.Am
