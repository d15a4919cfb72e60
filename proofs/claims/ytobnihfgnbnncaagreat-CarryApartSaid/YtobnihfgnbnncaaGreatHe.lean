import Derived.Test.YtobnihfgnbnncaaGreatHd
set_option linter.unusedSimpArgs false
set_option linter.unusedVariables false
set_option linter.defProp false
noncomputable section
open Go.Proofs.Tryz
namespace Go.Proofs.YtobnihfgnbnncaaGreat.Am
open Go.RowKit Go.Proofs.YtobnihfgnbnncaaGreat.P
set_option maxRecDepth 100000
set_option maxHeartbeats 4000000
def dE(a:(List Int)):gi none [.sl false false a.length (al (eI .i64) a)]=(cu a).map fun r:(List Int)=>(.fresh 3 1 r.length (al (eI .i64) r),none):=cJ _ _ _ a
def iU:cn prog 55 gi:=cn.afB (mode:=(.fresh 3 1)) tok bU.none mixed func55 (by kernel_rfl) ⟨by kernel_rfl,by kernel_rfl⟩ (alK (by kernel_rfl)) zL zM zN
def pQ(l:Option (D×Row))(d:List D):=ew (dO (bT je)) (fun x:aN=>rY x) (fun r:aN =>.clean (.agg [.int .i64 r.aq,.sl false false r.aa.length (al (eI .i64) r.aa)])) l d
def CS:Env:=(Am.ext (Am.ext (Am.ext bq 55 false gi) 103 false bV) 113 false cM)
def TV:bU prog CS:=(((bU.none.add iU false).add iw false).add kT false)
def DI:=ai @w<|ai @dE<|ai @IW<|ai @bV.eq_1<|ai @ZM<|ai @cM.eq_1<|@CS.eq_1
def HJ:cn prog 71 pQ:=cn.jB (mode:=.clean) tok TV mixed func71 (by kernel_rfl) (fun _ _=>rfl) (fun _=>by kernel_rfl) fun e r a=>by
 replace a:rY e=some r:=a;apply aL rfl ntmps71 results71;simp only[jD];unfold rY at a;obtain⟨f,b,a⟩:=ae a;simp only[DI,seval,b];apply sp aw a<;>intro _ a
 ·cases a;simp only[DI,seval]
 ·obtain⟨g,c,a⟩:=ae a;obtain⟨h,d,a⟩:=ae a;simp only[DI,seval,c,d];refine bP (by kernel_rfl) ?_;cases a;simp only[seval]
def mZ(l:Option (D×Row))(d:List D):=ew (fV afb (dO (bT je))) (fun x:Bool×aN=>fG x.1 x.2) (fun r:aN×Int =>.clean (.tup [.agg [.int .i64 r.1.aq,.sl false false r.1.aa.length (al (eI .i64) r.1.aa)],.int .i64 r.2])) l d
def tC:cn prog 114 mZ:=cn.jB (mode:=.clean) tok bU.none mixed func114 (by kernel_rfl) (fun _ _=>rfl) (fun _=>by kernel_rfl) fun⟨b,c⟩ r a=>by
 replace a:fG b c=some r:=a;apply aL rfl ntmps114 results114;simp only[jD];unfold fG at a;simp only[w,seval];apply sp aw a<;>intro _ a
 ·cases a;simp only[w,seval]
 ·cases a;simp only[w,seval]
def tX(l:Option (D×Row))(d:List D):=ew (dO (aI .i64)) (fun x:Int=>su x) (fun r:Bool =>.clean (.bool r)) l d
def Nz:cn prog 153 tX:=cn.jB (mode:=.clean) tok bU.none mixed func153 (by kernel_rfl) (fun _ _=>rfl) (fun _=>by kernel_rfl) fun b r a=>by
 replace a:su b=some r:=a;apply aL rfl ntmps153 results153;simp only[jD];unfold su at a;cases a;simp only[w,seval]
def dZ(l:Option (D×Row))(d:List D):=ew (fV (aI .i64) (dO (aI .i64))) (fun x:Int×Int=>gQ x.1 x.2) (fun r:Int =>.clean (.int .i64 r)) l d
def Ot{β:Type}{F:Int×Int->Option β}{R:β->RK}(a:Int)(b:Int):ew (fV (aI .i64) (dO (aI .i64))) F R none [.int .i64 a,.int .i64 b]=(F (a,b)).map fun r=>(R r,none):=cJ _ _ _ (a,b)
def uT:Env:=(Am.ext bq 153 false tX)
def GU:bU prog uT:=(bU.none.add Nz false)
def fv:=ai @w<|ai @IV<|ai @tX.eq_1<|@uT.eq_1
def pq:cn prog 110 dZ:=cn.jB (mode:=.clean) tok GU mixed func110 (by kernel_rfl) (fun _ _=>rfl) (fun _=>by kernel_rfl) fun⟨d,e⟩ r a=>by
 replace a:gQ d e=some r:=a;apply aL rfl ntmps110 results110;simp only[jD];unfold gQ at a;obtain⟨f,b,a⟩:=ae a;obtain⟨g,c,a⟩:=ae a;simp only[fv,seval,b,c];apply sp aw a<;>intro _ a
 ·simp only[fv,seval];apply sp aw a<;>intro _ a
  ·cases a;simp only[fv,seval]
  ·cases a;simp only[fv,seval]
 ·simp only[fv,seval];apply sp aw a<;>intro _ a
  ·cases a;simp only[fv,seval]
  ·simp only[fv,seval];apply sp aw a<;>intro _ a
   ·cases a;simp only[fv,seval]
   ·simp only[fv,seval];apply sp aw a<;>intro _ a
    ·cases a;simp only[fv,seval]
    ·cases a;simp only[fv,seval]
def fX(l:Option (D×Row))(d:List D):=ew (fV (kb (eI .i64)) (dO (kb (eI .i64)))) (fun x:(List Int)×(List Int)=>iA x.1 x.2) (fun r:Int =>.clean (.int .i64 r)) l d
def W2{β:Type}{F:(List Int)×(List Int)->Option β}{R:β->RK}(a:(List Int))(b:(List Int)):ew (fV (kb (eI .i64)) (dO (kb (eI .i64)))) F R none [.sl false false a.length (al (eI .i64) a),.sl false false b.length (al (eI .i64) b)]=(F (a,b)).map fun r=>(R r,none):=cJ _ _ _ (a,b)
def uP:Env:=(Am.ext bq 110 false dZ)
def GP:bU prog uP:=(bU.none.add pq false)
def fu:=ai @w<|ai @Ot<|ai @dZ.eq_1<|@uP.eq_1
def tD:cn prog 111 fX:=cn.jB (mode:=.clean) tok GP mixed func111 (by kernel_rfl) (fun _ _=>rfl) (fun _=>by kernel_rfl) fun⟨n,p⟩ r a=>by
 replace a:iA n p=some r:=a;apply aL rfl ntmps111 results111;simp only[jD];unfold iA at a;simp only[fu,seval];apply sp aw a<;>intro _ a
 ·obtain⟨z,l,a⟩:=ae a;cases a;simp only[fu,seval,l]
 ·simp only[fu,seval];obtain⟨q,m,a⟩:=ae a;refine aD (fun s t H e=>match s with|h=>t 0=sI n∧t 1=sI p∧t 5=sN h) (fun o x t H e=>match o with|(.inl _)=>x=.exit 0|(.inr r)=>x=.ret∧gE .clean tab none [.tmp 4] ⟨t,EH H,e⟩=some (.clean (.int .i64 r),none)) m ?_ ?_ ?_
  ·refine⟨?_,?_,?_⟩;all_goals (rfl)
  ·rintro h t H e i c a;simp only[oR]at a;simp only[fu,seval,i];apply sp aw a<;>intro _ a
   ·obtain⟨u,f,a⟩:=ae a;have b:=bg (eI .i64) f;simp only[bM]at b;obtain⟨v,g,a⟩:=ae a;have d:=bg (eI .i64) g;simp only[bM]at d;simp only[fu,seval,i,b,d];refine bP (by kernel_rfl) ?_;apply sp aw a<;>intro _ a
    ·have b:=bg (eI .i64) f;simp only[bM]at b;have d:=bg (eI .i64) g;simp only[bM]at d;obtain⟨w,j,a⟩:=ae a;simp only[fu,seval,i,b,d,j];refine bP (by kernel_rfl) ?_;cases a;refine tU ⟨rfl,?_⟩;simp only[fu,seval]
    ·cases a;simp only[fu,seval,i];apply ij;and_intros<;>first|rfl|(simp only[fu,seval,i]<;>rfl)
   ·cases a;simp only[fu,seval];apply jN;exact rfl
  ·rintro x t H e k;rcases q with _|A
   ·dsimp only at k a;subst k;cases a;simp only[fu,seval]
   ·dsimp only at k a;obtain⟨rfl,y⟩:=k;cases a;simp only[a8,bj,cD,cZ];exact y
def tW(l:Option (D×Row))(d:List D):=ew (fV (kb (eI .i64)) (dO (aI .i64))) (fun x:(List Int)×Int=>pZ x.1 x.2) (fun r:(List Int)×Int =>.clean (.tup [.sl false false r.1.length (al (eI .i64) r.1),.int .i64 r.2])) l d
def sh7{β:Type}{F:(List Int)×Int->Option β}{R:β->RK}(a:(List Int))(b:Int):ew (fV (kb (eI .i64)) (dO (aI .i64))) F R none [.sl false false a.length (al (eI .i64) a),.int .i64 b]=(F (a,b)).map fun r=>(R r,none):=cJ _ _ _ (a,b)
def yi:Env:=(Am.ext bq 155 false gz)
def M6:bU prog yi:=(bU.none.add rj false)
def lZ:=ai @w<|ai @sh0<|ai @gz.eq_1<|@yi.eq_1
def Ny:cn prog 183 tW:=cn.jB (mode:=.clean) tok M6 mixed func183 (by kernel_rfl) (fun _ _=>rfl) (fun _=>by kernel_rfl) fun⟨O,P⟩ r a=>by
 replace a:pZ O P=some r:=a;apply aL rfl ntmps183 results183;simp only[jD];unfold pZ at a;obtain⟨W,D,a⟩:=ae a;obtain⟨E,F,G,m,I⟩:=mk_one (eI .i64) D;simp only[bM]at m;simp only[lZ,seval,-Int.reduceToNat,E,F,G,m,I];obtain⟨J,n,a⟩:=ae a;refine aD (fun s t H e=>match s with|(p,q,l)=>∃b:Nat,t 0=sI O∧t 1=sN P∧t 6=.buf 6 b 1 0 (l).length∧t 7=sN p∧t 8=sN q∧H 6=rW b 3 (al (eI .i64) l)) (fun o x t H e=>match o with|(g,d)=>x=.exit 0∧∃f:Nat,t 6=.buf 6 f 1 0 (d).length∧t 7=sN g∧H 6=rW f 3 (al (eI .i64) d)) n ?_ ?_ ?_
 ·refine⟨1,?_,?_,?_,?_,?_,?_⟩;all_goals (rfl)
 ·rintro⟨p,q,l⟩ t H e ⟨b,C⟩ c a;simp only[sb]at a;simp only[lZ,seval,-Int.reduceToNat,C];apply sp aw a<;>intro _ a
  ·obtain⟨R,u,a⟩:=ae a;have K:=Fq u;obtain⟨S,v,a⟩:=ae a;have h:=bg (eI .i64) v;simp only[bM]at h;obtain⟨w,y,a⟩:=ae a;have L:=VR y;obtain⟨T,i,a⟩:=ae a;have j:=bg (eI .i64) i;simp only[bM]at j;have z:=eT (eI .i64) (x':=w) (fo:=0) (cs:=[.int .i64 w]) i rfl (alK rfl);simp only[bM,Nat.add_zero]at z;have k:=z;simp only[putCells,List.length_cons,List.length_nil,alf]at k;obtain⟨U,A,a⟩:=ae a;have M:=Nr A;cases a;simp only[lZ,seval,-Int.reduceToNat,C,K,h,L,j,k,M];apply ij;refine⟨b,?_⟩;and_intros<;>first|rfl|(simp only[lZ,seval,-Int.reduceToNat,C]<;>rfl)
  ·cases a;simp only[lZ,seval,-Int.reduceToNat];apply jN;refine⟨rfl,⟨b,?_,?_,?_⟩⟩;all_goals ((simp only[lZ,seval,-Int.reduceToNat,C]<;>rfl))
 ·rintro x t H e Q;rcases J with⟨g,d⟩;dsimp only at Q a;obtain⟨rfl,⟨f,N⟩⟩:=Q;obtain⟨V,B,a⟩:=ae a;cases a;simp only[lZ,seval,-Int.reduceToNat,N,B]
def ss(l:Option (D×Row))(d:List D):=ew (fV (kb (eI .i64)) (dO (kb (eI .i64)))) (fun x:(List Int)×(List Int)=>sa x.1 x.2) (fun r:(List Int) =>.fresh 3 1 r.length (al (eI .i64) r)) l d
def CV:Env:=(Am.ext bq 155 true vM)
def TY:bU prog CV:=(bU.none.add Jm true)
def ia:=ai @w<|@CV.eq_1
def HM:cn prog 154 ss:=cn.jB (mode:=(.fresh 3 1)) tok TY mixed func154 (by kernel_rfl) (fun _ _=>rfl) (fun _=>by kernel_rfl) fun⟨B,F⟩ r a=>by
 replace a:sa B F=some r:=a;apply aL rfl ntmps154 results154;simp only[jD];unfold sa at a;obtain⟨x1,Y,a⟩:=ae a;obtain⟨Z,aa,ab,G,ad⟩:=mk_one (eI .i64) Y;simp only[bM]at G;simp only[ia,seval,-Int.reduceToNat,Z,aa,ab,G,ad];obtain⟨ag,I,a⟩:=ae a;refine aD (fun s t H e=>match s with|(b,C)=>∃j:Nat,t 1=sI F∧t 5=.buf 5 j 1 0 (C).length∧t 18=sI B∧t 19=sN (B.length:Int)∧t 20=sN b∧H 5=rW j 3 (al (eI .i64) C)) (fun o x t H e=>match o with|d=>x=.exit 0∧∃k:Nat,t 5=.buf 5 k 1 0 (d).length∧H 5=rW k 3 (al (eI .i64) d)) I ?_ ?_ ?_
 ·refine⟨1,?_,?_,?_,?_,?_,?_⟩;all_goals (rfl)
 ·rintro⟨b,C⟩ t H e ⟨j,W⟩ c a;simp only[wc]at a;simp only[ia,seval,-Int.reduceToNat,W];apply sp aw a<;>intro _ a
  ·obtain⟨D,J,a⟩:=ae a;have u:=bg (eI .i64) J;simp only[bM]at u;simp only[ia,seval,-Int.reduceToNat,W,u];obtain⟨ah,K,a⟩:=ae a;refine aD (fun s t H e=>match s with|(q,v,E)=>∃l:Nat,t 1=sI F∧t 5=.buf 5 l 1 0 (E).length∧t 6=sN b∧t 7=sN D∧t 8=sN q∧t 18=sI B∧t 19=sN (B.length:Int)∧t 20=sN b∧t 25=sI F∧t 26=sN (F.length:Int)∧t 27=sN v∧H 5=rW l 3 (al (eI .i64) E)) (fun o x t H e=>match o with|(f,m)=>x=.exit 2∧∃g:Nat,t 1=sI F∧t 5=.buf 5 g 1 0 (m).length∧t 6=sN b∧t 8=sN f∧t 18=sI B∧t 19=sN (B.length:Int)∧t 20=sN b∧H 5=rW g 3 (al (eI .i64) m)) K ?_ ?_ ?_
   ·refine⟨j,?_⟩;and_intros<;>first|rfl|(simp only[ia,seval,-Int.reduceToNat,W]<;>rfl)
   ·rintro⟨q,v,E⟩ t H e ⟨l,X⟩ c a;simp only[we]at a;simp only[ia,seval,-Int.reduceToNat,X];apply sp aw a<;>intro _ a
    ·obtain⟨L,M,a⟩:=ae a;have w:=bg (eI .i64) M;simp only[bM]at w;obtain⟨N,n,a⟩:=ae a;have h:=bg (eI .i64) n;simp only[bM]at h;obtain⟨an,O,a⟩:=ae a;have ai:=wR O;have h:=bg (eI .i64) n;simp only[bM]at h;have P:=eT (eI .i64) (x':=nd .and .i64 (IntKind.i64.wrap ((IntKind.i64.wrap (N+(IntKind.i64.wrap (D*L))))+q)) 1048575) (fo:=0) (cs:=[.int .i64 (nd .and .i64 (IntKind.i64.wrap ((IntKind.i64.wrap (N+(IntKind.i64.wrap (D*L))))+q)) 1048575)]) n rfl (alK rfl);simp only[bM,Nat.add_zero]at P;have y:=P;simp only[putCells,List.length_cons,List.length_nil,alf]at y;cases a;simp only[ia,seval,-Int.reduceToNat,X,w,ai,h,y];apply ij;refine⟨l,?_⟩;and_intros<;>first|rfl|(simp only[ia,seval,-Int.reduceToNat,X]<;>rfl)
    ·cases a;simp only[ia,seval,-Int.reduceToNat];apply jN;refine⟨rfl,⟨l,?_,?_,?_,?_,?_,?_,?_,?_⟩⟩;all_goals ((simp only[ia,seval,-Int.reduceToNat,X]<;>rfl))
   ·rintro x t H e Q;rcases ah with⟨f,m⟩;dsimp only at Q a;obtain⟨rfl,⟨g,R⟩⟩:=Q;obtain⟨S,p,a⟩:=ae a;have i:=bg (eI .i64) p;simp only[bM]at i;have i:=bg (eI .i64) p;simp only[bM]at i;have T:=eT (eI .i64) (x':=IntKind.i64.wrap (S+f)) (fo:=0) (cs:=[.int .i64 (IntKind.i64.wrap (S+f))]) p rfl (alK rfl);simp only[bM,Nat.add_zero]at T;have A:=T;simp only[putCells,List.length_cons,List.length_nil,alf]at A;cases a;simp only[ia,seval,-Int.reduceToNat,R,i,A];apply ij;refine⟨g,?_⟩;and_intros<;>first|rfl|(simp only[ia,seval,-Int.reduceToNat,R]<;>rfl)
  ·cases a;simp only[ia,seval,-Int.reduceToNat];apply jN;refine⟨rfl,⟨j,?_,?_⟩⟩;all_goals ((simp only[ia,seval,-Int.reduceToNat,W]<;>rfl))
 ·rintro x t H e Q;obtain⟨d,rfl⟩:∃z,z=ag:=⟨_,rfl⟩;dsimp only at Q a;obtain⟨rfl,⟨k,aj⟩⟩:=Q;have U:=NN [] [] d;simp only[List.nil_append,alX,List.length_nil]at U;obtain⟨ao,V,a⟩:=ae a;cases a;simp only[ia,seval,-Int.reduceToNat,aj,U,V]
def sL:=mkW 3 (eI .i64) (fV (kb (eI .i64)) (dO (aI .i64))) (fun (l:(List Int)) (x:(List Int)×Int)=>il l x.1 x.2) (fun r:Int =>.clean (.int .i64 r))
def Ia(pre post:List D)(a:(List Int))(b:(List Int))(c:Int):sL (some (.buf 0 0 1 pre.length a.length,⟨0,3,pre++(al (eI .i64) a++post),false,true,false⟩)) [.sl false false b.length (al (eI .i64) b),.int .i64 c]=(il a b c).map fun r=>(.clean (.int .i64 r.2),some ⟨0,3,pre++(al (eI .i64) r.1++post),false,true,false⟩):=ab6 _ _ _ _ _ pre post a (b,c)
def Hk(pre post:List D)(J:(List Int))(u:(List Int))(v:Int)(r:(List Int)×(Int))(a:il J u v=some r):kN .clean tab bq FU Tryz.f184 (some (.buf 0 0 1 pre.length J.length,⟨0,3,pre++(al (eI .i64) J++post),false,true,false⟩)) [.sl false false u.length (al (eI .i64) u),.int .i64 v]=some (.clean (.int .i64 r.2),some ⟨0,3,pre++(al (eI .i64) r.1++post),false,true,false⟩):=by
 apply IQ rfl ntmps184 results184;unfold il at a;obtain⟨rw,X,a⟩:=ae a;split at a;rotate_left
 ·cases a
 cases a;rename_i ai;replace a:=X;unfold sW at a;simp only[w,seval,-Int.reduceToNat];obtain⟨o9,Y,a⟩:=ae a;refine aD (fun s t H e=>match s with|(K,h,j)=>t 0=.buf 0 0 1 pre.length (j).length∧t 1=sI u∧t 2=sN v∧t 7=sN K∧t 13=sN ((J).length:Int)∧t 14=sN h∧H 0=rW 0 3 (pre++(al (eI .i64) j++post))) (fun o x t H e=>match o with|(y,f)=>x=.exit 0∧t 0=.buf 0 0 1 pre.length (f).length∧t 1=sI u∧t 2=sN v∧t 7=sN y∧H 0=rW 0 3 (pre++(al (eI .i64) f++post))) Y ?_ ?_ ?_
 ·refine⟨?_,?_,?_,?_,?_,?_,?_⟩;all_goals (rfl)
 ·rintro⟨K,h,j⟩ t H e G c a;simp only[nH]at a;simp only[w,seval,-Int.reduceToNat,G];apply sp aw a<;>intro _ a
  ·obtain⟨aj,k,a⟩:=ae a;have b:=Qq (pre:=pre) (post:=post) (eI .i64) k;simp only[bM]at b;simp only[w,seval,-Int.reduceToNat,G,b];obtain⟨Z,L,a⟩:=ae a;refine rp 0 (fun s t H e=>match s with|l=>t 0=.buf 0 0 1 pre.length (j).length∧t 1=sI u∧t 2=sN v∧t 8=sN h∧t 9=sN l∧t 13=sN ((J).length:Int)∧t 14=sN h∧H 0=rW 0 3 (pre++(al (eI .i64) j++post))) (fun s=>s=Z) ?_ ?_
   ·rintro l t H e M rfl;try dsimp only at a
    have b:=Qq (pre:=pre) (post:=post) (eI .i64) k;simp only[bM]at b;have N:=RY (pre:=pre) (post:=post) (eI .i64) (y':=nd .and .i64 l 1048575) k;simp only[bM]at N;have A:=N;simp only[putCells,List.length_cons,List.length_nil,alf]at A;obtain⟨an,O,a⟩:=ae a;have aa:=wR O;cases a;simp only[w,seval,-Int.reduceToNat,M,b,A,aa];apply ij;and_intros<;>first|rfl|(simp only[w,seval,-Int.reduceToNat,M]<;>rfl)
   ·clear a;have a:=L;simp only[w,seval,-Int.reduceToNat];apply sp aw a<;>intro _ a
    ·obtain⟨ao,P,a⟩:=ae a;have B:=bg (eI .i64) P;simp only[bM]at B;cases a;simp only[w,seval,-Int.reduceToNat,G,b,B];rw[aG];refine⟨_,rfl,?_⟩;and_intros<;>first|rfl|(simp only[w,seval,-Int.reduceToNat,G]<;>rfl)
    ·cases a;simp only[w,seval,-Int.reduceToNat];rw[aG];refine⟨_,rfl,?_⟩;and_intros<;>first|rfl|(simp only[w,seval,-Int.reduceToNat,G]<;>rfl)
  ·cases a;simp only[w,seval,-Int.reduceToNat];apply jN;refine⟨rfl,⟨?_,?_,?_,?_,?_⟩⟩;all_goals ((simp only[w,seval,-Int.reduceToNat,G]<;>rfl))
 ·rintro x t H e Q;rcases o9 with⟨y,f⟩;dsimp only at Q a;obtain⟨rfl,q⟩:=Q;simp only[w,seval,-Int.reduceToNat,q];apply sp aw a<;>intro _ a
  ·cases a;simp only[w,seval,-Int.reduceToNat,q]
  ·simp only[w,seval,-Int.reduceToNat,q];obtain⟨ab,R,a⟩:=ae a;refine aD (fun s t H e=>match s with|(C,i,m)=>t 0=.buf 0 0 1 pre.length (m).length∧t 1=sI u∧t 2=sN v∧t 10=sN C∧t 48=sN ((f).length:Int)∧t 49=sN i∧H 0=rW 0 3 (pre++(al (eI .i64) m++post))) (fun o x t H e=>match o with|n=>x=.exit 2∧t 0=.buf 0 0 1 pre.length (n).length∧t 2=sN v∧H 0=rW 0 3 (pre++(al (eI .i64) n++post))) R ?_ ?_ ?_
   ·and_intros<;>first|rfl|(simp only[w,seval,-Int.reduceToNat,q]<;>rfl)
   ·rintro⟨C,i,m⟩ t H e I c a;simp only[nI]at a;simp only[w,seval,-Int.reduceToNat,I];apply sp aw a<;>intro _ a
    ·obtain⟨aq,p,a⟩:=ae a;have d:=Qq (pre:=pre) (post:=post) (eI .i64) p;simp only[bM]at d;simp only[w,seval,-Int.reduceToNat,I,d];obtain⟨ad,S,a⟩:=ae a;refine rp 0 (fun s t H e=>match s with|g=>t 0=.buf 0 0 1 pre.length (m).length∧t 1=sI u∧t 2=sN v∧t 10=sN g∧t 11=sN i∧t 48=sN ((f).length:Int)∧t 49=sN i∧H 0=rW 0 3 (pre++(al (eI .i64) m++post))) (fun s=>s=ad) ?_ ?_
     ·rintro g t H e T rfl;try dsimp only at a
      have d:=Qq (pre:=pre) (post:=post) (eI .i64) p;simp only[bM]at d;have U:=RY (pre:=pre) (post:=post) (eI .i64) (y':=nd .and .i64 g 1048575) p;simp only[bM]at U;have E:=U;simp only[putCells,List.length_cons,List.length_nil,alf]at E;obtain⟨ar,V,a⟩:=ae a;have ag:=wR V;cases a;simp only[w,seval,-Int.reduceToNat,T,d,E,ag];apply ij;and_intros<;>first|rfl|(simp only[w,seval,-Int.reduceToNat,T]<;>rfl)
     ·clear a;have a:=S;simp only[w,seval,-Int.reduceToNat];apply sp aw a<;>intro _ a
      ·obtain⟨au,W,a⟩:=ae a;have F:=bg (eI .i64) W;simp only[bM]at F;cases a;simp only[w,seval,-Int.reduceToNat,I,d,F];rw[aG];refine⟨_,rfl,?_⟩;and_intros<;>first|rfl|(simp only[w,seval,-Int.reduceToNat,I]<;>rfl)
      ·cases a;simp only[w,seval,-Int.reduceToNat];rw[aG];refine⟨_,rfl,?_⟩;and_intros<;>first|rfl|(simp only[w,seval,-Int.reduceToNat,I]<;>rfl)
    ·cases a;simp only[w,seval,-Int.reduceToNat];apply jN;refine⟨rfl,⟨?_,?_,?_⟩⟩;all_goals ((simp only[w,seval,-Int.reduceToNat,I]<;>rfl))
   ·rintro x t H e Q;obtain⟨n,rfl⟩:∃z,z=ab:=⟨_,rfl⟩;dsimp only at Q a;obtain⟨rfl,ah⟩:=Q;cases a;simp only[w,seval,-Int.reduceToNat,ah]
def E3:cn prog 184 sL:=cn.ahL (mode:=.clean) tok bU.none mixed func184 (by kernel_rfl) ⟨by kernel_rfl,by kernel_rfl⟩ (fun _=>alK (by kernel_rfl)) (fun pre post l x a r h=>Hk pre post l x.1 x.2 (a,r) h)
def pR(l:Option (D×Row))(d:List D):=ew (fV (kb (eI .i64)) (dO (kb (eI .i64)))) (fun x:(List Int)×(List Int)=>v7 x.1 x.2) (fun r:(List Int)×(List Int) =>.clean (.tup [.sl false false r.1.length (al (eI .i64) r.1),.sl false false r.2.length (al (eI .i64) r.2)])) l d
def LM(a:(List Int))(b:(List Int)):ss none [.sl false false a.length (al (eI .i64) a),.sl false false b.length (al (eI .i64) b)]=(sa a b).map fun r:(List Int)=>(.fresh 3 1 r.length (al (eI .i64) r),none):=cJ _ _ _ (a,b)
def qt(a:(List Int)):gz none [.sl false false a.length (al (eI .i64) a)]=(fH a).map fun r:(List Int)=>(.clean (.sl false false r.length (al (eI .i64) r)),none):=cJ _ _ _ (a)
def CU:Env:=(Am.ext (Am.ext (Am.ext (Am.ext (Am.ext (Am.ext bq 55 false gi) 111 false fX) 154 false ss) 155 false gz) 183 false tW) 184 true sL)
def TX:bU prog CU:=((((((bU.none.add iU false).add tD false).add HM false).add rj false).add Ny false).add E3 true)
def bJ:=ai @w<|ai @dE<|ai @W2<|ai @fX.eq_1<|ai @qt<|ai @sh7<|ai @tW.eq_1<|@CU.eq_1
def HL:cn prog 147 pR:=cn.jB (mode:=.clean) tok TX mixed func147 (by kernel_rfl) (fun _ _=>rfl) (fun _=>by kernel_rfl) fun⟨p0,p1⟩ r a=>by
 replace a:v7 p0 p1=some r:=a;apply aL rfl ntmps147 results147;simp only[jD];unfold v7 at a;obtain⟨r1,br,a⟩:=ae a;simp only[bJ,seval,-Int.reduceToNat,br];apply sp aw a<;>intro _ a
 ·obtain⟨r3,bs,a⟩:=ae a;cases a;simp only[bJ,seval,-Int.reduceToNat,bs]
 ·simp only[bJ,seval,-Int.reduceToNat];apply sp aw a<;>intro _ a
  ·obtain⟨x5,bt,a⟩:=ae a;have ao:=bg (eI .i64) bt;simp only[bM]at ao;obtain⟨r6,bu,a⟩:=ae a;have i7:=qt ([r6.2]);simp only[b9,bM,List.length_cons,alf]at i7;obtain⟨r8,bw,a⟩:=ae a;cases a;simp only[bJ,seval,-Int.reduceToNat,ao,bu,i7,bw]
  ·simp only[bJ,seval,-Int.reduceToNat];obtain⟨bx,aq,a⟩:=ae a;refine aD (fun s t H e=>match s with|ar=>t 0=sI p0∧t 1=sI p1∧t 8=sN ar) (fun o x t H e=>match o with|d=>x=.exit 0∧t 0=sI p0∧t 1=sI p1∧t 8=sN d) aq ?_ ?_ ?_
   ·refine⟨?_,?_,?_⟩;all_goals (rfl)
   ·rintro ar t H e Za c a;simp only[v8]at a;obtain⟨bL,au,a⟩:=ae a;have U:=bg (eI .i64) au;simp only[bM]at U;simp only[bJ,seval,-Int.reduceToNat,Za,U];apply sp aw a<;>intro _ a
    ·cases a;simp only[bJ,seval,-Int.reduceToNat,Za];apply ij;and_intros<;>first|rfl|(simp only[bJ,seval,-Int.reduceToNat,Za]<;>rfl)
    ·cases a;simp only[bJ,seval,-Int.reduceToNat];apply jN;refine⟨rfl,⟨?_,?_,?_⟩⟩;all_goals ((simp only[bJ,seval,-Int.reduceToNat,Za]<;>rfl))
   ·rintro x t H e V;obtain⟨d,rfl⟩:∃z,z=bx:=⟨_,rfl⟩;dsimp only at V a;obtain⟨rfl,an⟩:=V;have av:=LM p0 ([d]);simp only[b9,bM,List.length_cons,alf]at av;obtain⟨bN,ax,a⟩:=ae a;obtain⟨bO,ay,a⟩:=ae a;obtain⟨az,W,aA,aB⟩:=lj (eI .i64) ay;simp only[bM]at W;have aC:=LM p1 ([d]);simp only[b9,bM,List.length_cons,alf]at aC;obtain⟨b,aE,a⟩:=ae a;simp only[bJ,seval,-Int.reduceToNat,an,av,ax,az,W,aA,aB,aC,aE];obtain⟨bA,aF,a⟩:=ae a;refine rp 0 (fun s t H e=>match s with|K=>∃E:Nat,∃n:Nat,t 8=sN d∧t 9=.buf 9 E 1 0 (K).length∧t 10=.buf 10 n 1 0 (b).length∧H 9=rW E 3 (al (eI .i64) K)∧H 10=rW n 3 (al (eI .i64) b)) (fun s=>s=bA) ?_ ?_
    ·rintro K t H e ⟨E,n,aH⟩ rfl;try dsimp only at a
     obtain⟨bQ,aI,a⟩:=ae a;obtain⟨aJ,aK,aM,X,aN⟩:=mk_one (eI .i64) aI;simp only[bM]at X;simp only[bJ,seval,-Int.reduceToNat,aH,aJ,aK,aM,X,aN];obtain⟨bB,aO,a⟩:=ae a;refine aD (fun s t H e=>match s with|(g,h,f)=>∃L:Nat,∃F:Nat,∃v:Nat,∃M:Bool,t 8=sN d∧t 9=.buf 9 L 1 0 (h).length∧t 10=.buf 10 F 1 0 (b).length∧t 11=sN ((b).length:Int)∧t 12=.buf 12 v 1 0 (f).length∧t 13=sN g∧H 9=rW L 3 (al (eI .i64) h)∧H 10=some ⟨F,3,al (eI .i64) b,M,true,false⟩∧H 12=rW v 3 (al (eI .i64) f)) (fun o x t H e=>match o with|(N,B)=>x=.exit 2∧∃O:Nat,∃C:Nat,t 8=sN d∧t 9=.buf 9 O 1 0 (N).length∧t 12=.buf 12 C 1 0 (B).length∧H 9=rW O 3 (al (eI .i64) N)∧H 12=rW C 3 (al (eI .i64) B)) aO ?_ ?_ ?_
     ·refine⟨E,n,e+1,false,?_⟩;and_intros<;>first|rfl|(simp only[bJ,seval,-Int.reduceToNat,aH]<;>rfl)
     ·rintro⟨g,h,f⟩ t H e ⟨L,F,v,M,Zc⟩ c a;simp only[wa]at a;simp only[bJ,seval,-Int.reduceToNat,Zc];apply sp aw a<;>intro _ a
      ·obtain⟨bR,aP,a⟩:=ae a;have Y:=bg (eI .i64) aP;simp only[bM]at Y;obtain⟨bS,aQ,a⟩:=ae a;have aR:=Fq aQ;obtain⟨bT,aS,a⟩:=ae a;have Z:=bg (eI .i64) aS;simp only[bM]at Z;simp only[bJ,seval,-Int.reduceToNat,Zc,Y,aR,Z];refine bP (by kernel_rfl) ?_;obtain⟨bU,P,a⟩:=ae a;have i:=bg (eI .i64) P;simp only[bM]at i;obtain⟨bV,aT,a⟩:=ae a;have bC:=VR aT;have i:=bg (eI .i64) P;simp only[bM]at i;obtain⟨bW,aV,a⟩:=ae a;have bD:=Nr aV;simp only[bJ,seval,-Int.reduceToNat,Zc,bC,i,bD];refine bP (by kernel_rfl) ?_;obtain⟨bE,aW,a⟩:=ae a;refine aD (fun s t H e=>match s with|(Q,R)=>∃J:Nat,∃l:Nat,∃m:Nat,∃w:Bool,t 8=sN d∧t 9=.buf 9 J 1 0 (h).length∧t 10=.buf 10 l 1 0 (b).length∧t 11=sN ((b).length:Int)∧t 12=.buf 12 m 1 0 (f).length∧t 13=sN g∧t 15=sN Q∧t 16=sN R∧H 9=rW J 3 (al (eI .i64) h)∧H 10=some ⟨l,3,al (eI .i64) b,w,true,false⟩∧H 12=rW m 3 (al (eI .i64) f)) (fun o x t H e=>match o with|D=>x=.exit 4∧∃G:Nat,∃p:Nat,∃q:Nat,∃S:Bool,t 8=sN d∧t 9=.buf 9 G 1 0 (h).length∧t 10=.buf 10 p 1 0 (b).length∧t 11=sN ((b).length:Int)∧t 12=.buf 12 q 1 0 (f).length∧t 13=sN g∧t 15=sN D∧H 9=rW G 3 (al (eI .i64) h)∧H 10=some ⟨p,3,al (eI .i64) b,S,true,false⟩∧H 12=rW q 3 (al (eI .i64) f)) aW ?_ ?_ ?_
       ·refine⟨L,F,v,M,?_⟩;and_intros<;>first|rfl|(simp only[bJ,seval,-Int.reduceToNat,Zc]<;>rfl)
       ·rintro⟨Q,R⟩ t H e ⟨J,l,m,w,Zg⟩ c a;simp only[wb]at a;simp only[bJ,seval,-Int.reduceToNat,Zg];obtain⟨bF,aX,a⟩:=ae a;refine ac8 0 (fun s t H e=>match s with|I=>∃y:Nat,∃j:Nat,∃k:Nat,∃u:Bool,t 8=sN d∧t 9=.buf 9 y 1 0 (h).length∧t 10=.buf 10 j 1 0 (b).length∧t 11=sN ((b).length:Int)∧t 12=.buf 12 k 1 0 (f).length∧t 13=sN g∧t 15=sN Q∧t 16=sN R∧t 137=.bool I∧H 9=rW y 3 (al (eI .i64) h)∧H 10=some ⟨j,3,al (eI .i64) b,u,true,false⟩∧H 12=rW k 3 (al (eI .i64) f)) (fun s=>s=bF) ?_ ?_
        ·rintro I t H e ⟨y,j,k,u,T⟩ rfl;try dsimp only at a
         simp only[bJ,seval,-Int.reduceToNat,T];apply sp aw a<;>intro _ a
         ·have i:=bg (eI .i64) P;simp only[bM]at i;cases a;simp only[bJ,seval,-Int.reduceToNat,T,i];apply ij;refine⟨y,j,k,u,?_⟩;and_intros<;>first|rfl|(simp only[bJ,seval,-Int.reduceToNat,T]<;>rfl)
         ·cases a;simp only[bJ,seval,-Int.reduceToNat];apply jN;refine⟨rfl,⟨y,j,k,u,?_,?_,?_,?_,?_,?_,?_,?_,?_,?_⟩⟩;all_goals ((simp only[bJ,seval,-Int.reduceToNat,T]<;>rfl))
        ·clear a;have a:=aX;simp only[bJ,seval,-Int.reduceToNat];apply sp IH a<;>intro _ a
         ·simp only[bJ,seval,-Int.reduceToNat];refine bP (by kernel_rfl) ?_;cases a;rw[aG];refine⟨_,rfl,?_⟩;refine⟨J,l,m,w,?_⟩;and_intros<;>first|rfl|(simp only[bJ,seval,-Int.reduceToNat,Zg]<;>rfl)
         ·simp only[bJ,seval,-Int.reduceToNat,Zg];apply sp zC a<;>intro _ a
          ·obtain⟨bX,aY,a⟩:=ae a;have aa:=bg (eI .i64) aY;simp only[bM]at aa;obtain⟨bZ,aZ,a⟩:=ae a;have bG:=Fq aZ;obtain⟨b1,a1,a⟩:=ae a;have ab:=bg (eI .i64) a1;simp only[bM]at ab;simp only[bJ,seval,-Int.reduceToNat,aR,Zg,aa,bG,ab];refine bP (by kernel_rfl) ?_;cases a;rw[aG];refine⟨_,rfl,?_⟩;refine⟨J,l,m,w,?_⟩;and_intros<;>first|rfl|(simp only[bJ,seval,-Int.reduceToNat,Zg]<;>rfl)
          ·simp only[bJ,seval,-Int.reduceToNat];refine bP (by kernel_rfl) ?_;cases a;rw[aG];refine⟨_,rfl,?_⟩;refine⟨J,l,m,w,?_⟩;and_intros<;>first|rfl|(simp only[bJ,seval,-Int.reduceToNat,Zg]<;>rfl)
       ·rintro x t H e V;obtain⟨D,rfl⟩:∃z,z=bE:=⟨_,rfl⟩;dsimp only at V a;obtain⟨rfl,⟨G,p,q,S,a6⟩⟩:=V;obtain⟨bH,A,a⟩:=ae a;obtain⟨a7,a8,ba,bK,bb⟩:=agG (eI .i64) A;simp only[bM]at bb;have bc:=Ia (al (eI .i64) (h.take (g).toNat)) (al (eI .i64) (h.drop (IntKind.i64.wrap ((IntKind.i64.wrap (g+((b).length:Int)))+1)).toNat)) bH b D;simp only[aeZ,ae0 (eI .i64) A,ae1 (eI .i64) A,afP A,bM]at bc;obtain⟨bd,ad,a⟩:=ae a;have bf:=C8 ad;have bh:=adk A bf;obtain⟨b2,ag,a⟩:=ae a;have ah:=bg (eI .i64) ag;simp only[bM]at ah;have bj:=eT (eI .i64) (x':=bd.2) (fo:=0) (cs:=[.int .i64 bd.2]) ag rfl (alK rfl);simp only[bM,Nat.add_zero]at bj;have ai:=bj;simp only[putCells,List.length_cons,List.length_nil,alf]at ai;cases a;simp only[bJ,seval,-Int.reduceToNat,a6,a7,a8,ba,bc,ad,ah,ai];apply ij;refine⟨G,p,q,true,?_⟩;and_intros<;>first|rfl|(simp only[bJ,seval,-Int.reduceToNat,a6,bh]<;>rfl)
      ·cases a;simp only[bJ,seval,-Int.reduceToNat];apply jN;refine⟨rfl,⟨L,v,?_,?_,?_,?_,?_⟩⟩;all_goals ((simp only[bJ,seval,-Int.reduceToNat,Zc]<;>rfl))
     ·rintro x t H e V;rcases bB with⟨N,B⟩;dsimp only at V a;obtain⟨rfl,⟨O,C,bI⟩⟩:=V;obtain⟨b3,bk,a⟩:=ae a;obtain⟨b4,bl,a⟩:=ae a;obtain⟨b5,bm,a⟩:=ae a;cases a;simp only[bJ,seval,-Int.reduceToNat,bI,bk,bl,bm]
    ·clear a;have a:=aF;simp only[bJ,seval,-Int.reduceToNat];apply sp aw a<;>intro _ a
     ·obtain⟨b6,bn,a⟩:=ae a;obtain⟨bo,aj,bp,bq⟩:=lj (eI .i64) bn;simp only[bM]at aj;cases a;simp only[bJ,seval,-Int.reduceToNat,bo,aj,bp,bq];rw[aG];refine⟨_,rfl,?_⟩;refine⟨e+1+1,e,?_⟩;and_intros<;>first|rfl|(simp only[bJ,seval,-Int.reduceToNat,an]<;>rfl)
     ·cases a;simp only[bJ,seval,-Int.reduceToNat];rw[aG];refine⟨_,rfl,?_⟩;refine⟨e,e,?_⟩;and_intros<;>first|rfl|(simp only[bJ,seval,-Int.reduceToNat,an]<;>rfl)
def pP(l:Option (D×Row))(d:List D):=ew (fV (bT je) (dO (bT je))) (fun x:aN×aN=>uc x.1 x.2) (fun r:aN×Int =>.clean (.tup [.agg [.int .i64 r.1.aq,.sl false false r.1.aa.length (al (eI .i64) r.1.aa)],.int .i64 r.2])) l d
def L1{β:Type}{F:aN×aN->Option β}{R:β->RK}(c:Int)(a:(List Int))(d:Int)(b:(List Int)):ew (fV (bT je) (dO (bT je))) F R none [.agg [.int .i64 c,.sl false false a.length (al (eI .i64) a)],.agg [.int .i64 d,.sl false false b.length (al (eI .i64) b)]]=(F ((aN.mk c a),(aN.mk d b))).map fun r=>(R r,none):=cJ _ _ _ ((aN.mk c a),(aN.mk d b))
def gN(c:Bool)(b:Int)(a:(List Int)):mZ none [.bool c,.agg [.int .i64 b,.sl false false a.length (al (eI .i64) a)]]=(fG c (aN.mk b a)).map fun r:aN×Int=>(.clean (.tup [.agg [.int .i64 r.1.aq,.sl false false r.1.aa.length (al (eI .i64) r.1.aa)],.int .i64 r.2]),none):=cJ _ _ _ (c,(aN.mk b a))
def CP:Env:=(Am.keep 6 (Am.ext (Am.ext (Am.ext (Am.ext (Am.ext bq 55 false gi) 103 false bV) 113 false cM) 114 false mZ) 147 false pR))
def TS:bU prog CP:=(bU.keep (((((bU.none.add iU false).add iw false).add kT false).add tC false).add HL false) 6)
def hZ:=ai @w<|ai @dE<|ai @IW<|ai @bV.eq_1<|ai @ZM<|ai @cM.eq_1<|ai @gN<|ai @W2<|ai @pR.eq_1<|@CP.eq_1
def HI:cn prog 104 pP:=cn.jB (mode:=.clean) tok TS mixed func104 (by kernel_rfl) (fun _ _=>rfl) (fun _=>by kernel_rfl) fun⟨y,A⟩ r a=>by
 replace a:uc y A=some r:=a;apply aL rfl ntmps104 results104;simp only[jD];unfold uc at a;obtain⟨R,B,a⟩:=ae a;simp only[hZ,seval,B];obtain⟨K,C,a⟩:=ae a;refine cK 0 (fun s t H e=>match s with|d=>∃f:Nat,∃g:Nat,∃b:Nat,t 2=.ptr 2 f 0∧t 3=.ptr 3 g 0∧t 4=.ptr 4 b 0∧t 17=.bool d∧H 2=rV f 39 [sN y.aq,sI y.aa]∧H 3=rV g 39 [sN A.aq,sI A.aa]∧H 4=rV b 39 [sN 0,.sl true true 0 []]) (fun s=>s=K) ?_ ?_
 ·rintro d t H e ⟨f,g,b,j⟩ rfl;try dsimp only at a
  simp only[hZ,seval,j];apply sp aw a<;>intro _ a
  ·have I:=gN false 0 ([]);simp only[bM]at I;obtain⟨S,D,a⟩:=ae a;cases a;simp only[hZ,seval,j,I,D]
  ·obtain⟨T,E,a⟩:=ae a;simp only[hZ,seval,j,E];refine bP (by kernel_rfl) ?_;obtain⟨L,F,a⟩:=ae a;refine aD (fun s t H e=>match s with|(l,m)=>∃h:Nat,t 4=.ptr 4 h 0∧t 6=sI l∧t 7=sI m∧H 4=rV h 39 [sN 0,.sl true true 0 []]) (fun o x t H e=>match o with|k=>x=.exit 0∧∃i:Nat,t 4=.ptr 4 i 0∧t 6=sI k∧H 4=rV i 39 [sN 0,.sl true true 0 []]) F ?_ ?_ ?_
   ·refine⟨b,?_⟩;and_intros<;>first|rfl|(simp only[hZ,seval,j]<;>rfl)
   ·rintro⟨l,m⟩ t H e ⟨h,w⟩ c a;simp only[sS]at a;simp only[hZ,seval,w];apply sp aw a<;>intro _ a
    ·obtain⟨M,n,a⟩:=ae a;cases a;simp only[hZ,seval,w,n];apply ij;refine⟨h,?_⟩;and_intros<;>first|rfl|(simp only[hZ,seval,w]<;>rfl)
    ·cases a;simp only[hZ,seval];apply jN;refine⟨rfl,⟨h,?_,?_,?_⟩⟩;all_goals ((simp only[hZ,seval,w]<;>rfl))
   ·rintro x t H e J;obtain⟨k,rfl⟩:∃z,z=L:=⟨_,rfl⟩;dsimp only at J a;obtain⟨rfl,⟨i,G⟩⟩:=J;obtain⟨N,p,a⟩:=ae a;obtain⟨O,q,a⟩:=ae a;obtain⟨P,u,a⟩:=ae a;cases a;simp only[hZ,seval,G,p,q,u]
 ·clear a;have a:=C;simp only[hZ,seval];apply sp bL a<;>intro _ a
  ·cases a;simp only[hZ,seval];rw[aG];refine⟨_,rfl,?_⟩;refine⟨0,0,0,?_,?_,?_,?_,?_,?_,?_⟩;all_goals (rfl)
  ·obtain⟨Q,v,a⟩:=ae a;cases a;simp only[hZ,seval,v];rw[aG];refine⟨_,rfl,?_⟩;refine⟨0,0,0,?_,?_,?_,?_,?_,?_,?_⟩;all_goals (rfl)
def sr(l:Option (D×Row))(d:List D):=ew (fV (kb (eI .i64)) (dO (kb (eI .i64)))) (fun x:(List Int)×(List Int)=>ud x.1 x.2) (fun r:(List Int) =>.clean (.sl false false r.length (al (eI .i64) r))) l d
def CT:Env:=(Am.ext bq 155 false gz)
def TW:bU prog CT:=(bU.none.add rj false)
def fc:=ai @w<|ai @qt<|@CT.eq_1
def HK:cn prog 116 sr:=cn.jB (mode:=.clean) tok TW mixed func116 (by kernel_rfl) (fun _ _=>rfl) (fun _=>by kernel_rfl) fun⟨p0,p1⟩ r a=>by
 replace a:ud p0 p1=some r:=a;apply aL rfl ntmps116 results116;simp only[jD];unfold ud at a;simp only[fc,seval,-Int.reduceToNat];obtain⟨o1,P,a⟩:=ae a;refine rp 0 (fun s t H e=>match s with|(b,f)=>t 0=sI b∧t 1=sI f) (fun s=>s=o1) ?_ ?_
 ·rintro⟨b,f⟩ t H e B rfl;try dsimp only at a
  obtain⟨x2,Q,a⟩:=ae a;obtain⟨R,S,T,C,U⟩:=mk_one (eI .i64) Q;simp only[bM]at C;simp only[fc,seval,-Int.reduceToNat,B,R,S,T,C,U];obtain⟨V,D,a⟩:=ae a;refine aD (fun s t H e=>match s with|(E,g,m)=>∃l:Nat,t 0=sI b∧t 1=sI f∧t 5=.buf 5 l 1 0 (m).length∧t 6=sN E∧t 20=sI b∧t 21=sN (b.length:Int)∧t 22=sN g∧H 5=rW l 3 (al (eI .i64) m)) (fun o x t H e=>match o with|(d,h)=>x=.exit 0∧∃n:Nat,t 0=sI b∧t 5=.buf 5 n 1 0 (h).length∧t 6=sN d∧H 5=rW n 3 (al (eI .i64) h)) D ?_ ?_ ?_
  ·refine⟨e,?_⟩;and_intros<;>first|rfl|(simp only[fc,seval,-Int.reduceToNat,B]<;>rfl)
  ·rintro⟨E,g,m⟩ t H e ⟨l,A⟩ c a;simp only[sV]at a;simp only[fc,seval,-Int.reduceToNat,A];apply sp aw a<;>intro _ a
   ·obtain⟨aa,F,a⟩:=ae a;have i:=bg (eI .i64) F;simp only[bM]at i;simp only[fc,seval,-Int.reduceToNat,A,i];obtain⟨W,G,a⟩:=ae a;refine rp 0 (fun s t H e=>match s with|j=>∃k:Nat,t 0=sI b∧t 1=sI f∧t 5=.buf 5 k 1 0 (m).length∧t 6=sN j∧t 7=sN g∧t 20=sI b∧t 21=sN (b.length:Int)∧t 22=sN g∧H 5=rW k 3 (al (eI .i64) m)) (fun s=>s=W) ?_ ?_
    ·rintro j t H e ⟨k,I⟩ rfl;try dsimp only at a
     obtain⟨ab,p,a⟩:=ae a;have q:=bg (eI .i64) p;simp only[bM]at q;have J:=eT (eI .i64) (x':=nd .and .i64 j 1048575) (fo:=0) (cs:=[.int .i64 (nd .and .i64 j 1048575)]) p rfl (alK rfl);simp only[bM,Nat.add_zero]at J;have u:=J;simp only[putCells,List.length_cons,List.length_nil,alf]at u;obtain⟨ad,K,a⟩:=ae a;have X:=wR K;cases a;simp only[fc,seval,-Int.reduceToNat,i,I,q,u,X];apply ij;refine⟨k,?_⟩;and_intros<;>first|rfl|(simp only[fc,seval,-Int.reduceToNat,I]<;>rfl)
    ·clear a;have a:=G;simp only[fc,seval,-Int.reduceToNat];apply sp aw a<;>intro _ a
     ·obtain⟨ag,L,a⟩:=ae a;have v:=bg (eI .i64) L;simp only[bM]at v;cases a;simp only[fc,seval,-Int.reduceToNat,A,i,v];rw[aG];refine⟨_,rfl,?_⟩;refine⟨l,?_⟩;and_intros<;>first|rfl|(simp only[fc,seval,-Int.reduceToNat,A]<;>rfl)
     ·cases a;simp only[fc,seval,-Int.reduceToNat];rw[aG];refine⟨_,rfl,?_⟩;refine⟨l,?_⟩;and_intros<;>first|rfl|(simp only[fc,seval,-Int.reduceToNat,A]<;>rfl)
   ·cases a;simp only[fc,seval,-Int.reduceToNat];apply jN;refine⟨rfl,⟨l,?_,?_,?_,?_⟩⟩;all_goals ((simp only[fc,seval,-Int.reduceToNat,A]<;>rfl))
  ·rintro x t H e Z;rcases V with⟨d,h⟩;dsimp only at Z a;obtain⟨rfl,⟨n,Y⟩⟩:=Z;obtain⟨ah,w,a⟩:=ae a;have y:=bg (eI .i64) w;simp only[bM]at y;have M:=eT (eI .i64) (x':=d) (fo:=0) (cs:=[.int .i64 d]) w rfl (alK rfl);simp only[bM,Nat.add_zero]at M;have z:=M;simp only[putCells,List.length_cons,List.length_nil,alf]at z;have N:=qt (h.set ((b.length:Int)).toNat d);simp only[amb]at N;obtain⟨ai,O,a⟩:=ae a;cases a;simp only[fc,seval,-Int.reduceToNat,Y,y,z,N,O]
 ·clear a;have a:=P;simp only[fc,seval,-Int.reduceToNat];apply sp aw a<;>intro _ a
  ·cases a;simp only[fc,seval,-Int.reduceToNat];rw[aG];refine⟨_,rfl,?_⟩;refine⟨?_,?_⟩;all_goals (rfl)
  ·cases a;simp only[fc,seval,-Int.reduceToNat];rw[aG];refine⟨_,rfl,?_⟩;refine⟨?_,?_⟩;all_goals (rfl)
def pS(l:Option (D×Row))(d:List D):=ew (fV (kb (eI .i64)) (dO (kb (eI .i64)))) (fun x:(List Int)×(List Int)=>ue x.1 x.2) (fun r:(List Int) =>.clean (.sl false false r.length (al (eI .i64) r))) l d
def CW:Env:=(Am.ext (Am.ext bq 55 false gi) 155 false gz)
def TZ:bU prog CW:=((bU.none.add iU false).add rj false)
def iJ:=ai @w<|ai @dE<|ai @sh0<|ai @gz.eq_1<|@CW.eq_1
def HN:cn prog 117 pS:=cn.jB (mode:=.clean) tok TZ mixed func117 (by kernel_rfl) (fun _ _=>rfl) (fun _=>by kernel_rfl) fun⟨M,D⟩ r a=>by
 replace a:ue M D=some r:=a;apply aL rfl ntmps117 results117;simp only[jD];unfold ue at a;obtain⟨K,E,a⟩:=ae a;simp only[iJ,seval,-Int.reduceToNat,E];obtain⟨F,q,a⟩:=ae a;refine aD (fun s t H e=>match s with|(u,d,i)=>∃h:Nat,t 1=sI D∧t 5=.buf 5 h 1 0 (i).length∧t 6=sN u∧t 12=sN ((K).length:Int)∧t 13=sN d∧H 5=rW h 3 (al (eI .i64) i)) (fun o x t H e=>match o with|j=>x=.exit 0∧∃k:Nat,t 5=.buf 5 k 1 0 (j).length∧H 5=rW k 3 (al (eI .i64) j)) q ?_ ?_ ?_
 ·refine⟨1,?_,?_,?_,?_,?_,?_⟩;all_goals (rfl)
 ·rintro⟨u,d,i⟩ t H e ⟨h,p⟩ c a;simp only[wg]at a;simp only[iJ,seval,-Int.reduceToNat,p];apply sp aw a<;>intro _ a
  ·obtain⟨N,l,a⟩:=ae a;have b:=bg (eI .i64) l;simp only[bM]at b;simp only[iJ,seval,-Int.reduceToNat,p,b];obtain⟨G,v,a⟩:=ae a;refine rp 0 (fun s t H e=>match s with|f=>∃g:Nat,t 1=sI D∧t 5=.buf 5 g 1 0 (i).length∧t 7=sN d∧t 8=sN f∧t 12=sN ((K).length:Int)∧t 13=sN d∧H 5=rW g 3 (al (eI .i64) i)) (fun s=>s=G) ?_ ?_
   ·rintro f t H e ⟨g,w⟩ rfl;try dsimp only at a
    obtain⟨O,y,a⟩:=ae a;have I:=wR y;have b:=bg (eI .i64) l;simp only[bM]at b;have A:=eT (eI .i64) (x':=nd .and .i64 f 1048575) (fo:=0) (cs:=[.int .i64 (nd .and .i64 f 1048575)]) l rfl (alK rfl);simp only[bM,Nat.add_zero]at A;have m:=A;simp only[putCells,List.length_cons,List.length_nil,alf]at m;cases a;simp only[iJ,seval,-Int.reduceToNat,w,I,b,m];apply ij;refine⟨g,?_⟩;and_intros<;>first|rfl|(simp only[iJ,seval,-Int.reduceToNat,w]<;>rfl)
   ·clear a;have a:=v;simp only[iJ,seval,-Int.reduceToNat];apply sp aw a<;>intro _ a
    ·obtain⟨P,B,a⟩:=ae a;have n:=bg (eI .i64) B;simp only[bM]at n;cases a;simp only[iJ,seval,-Int.reduceToNat,p,b,n];rw[aG];refine⟨_,rfl,?_⟩;refine⟨h,?_⟩;and_intros<;>first|rfl|(simp only[iJ,seval,-Int.reduceToNat,p]<;>rfl)
    ·cases a;simp only[iJ,seval,-Int.reduceToNat];rw[aG];refine⟨_,rfl,?_⟩;refine⟨h,?_⟩;and_intros<;>first|rfl|(simp only[iJ,seval,-Int.reduceToNat,p]<;>rfl)
  ·cases a;simp only[iJ,seval,-Int.reduceToNat];apply jN;refine⟨rfl,⟨h,?_,?_⟩⟩;all_goals ((simp only[iJ,seval,-Int.reduceToNat,p]<;>rfl))
 ·rintro x t H e L;obtain⟨j,rfl⟩:∃z,z=F:=⟨_,rfl⟩;dsimp only at L a;obtain⟨rfl,⟨k,J⟩⟩:=L;obtain⟨Q,C,a⟩:=ae a;cases a;simp only[iJ,seval,-Int.reduceToNat,J,C]
def yY(l:Option (D×Row))(d:List D):=ew (fV (bT je) (dO (bT je))) (fun x:aN×aN=>rX x.1 x.2) (fun r:aN×aN×Int =>.clean (.tup [.agg [.int .i64 r.1.aq,.sl false false r.1.aa.length (al (eI .i64) r.1.aa)],.agg [.int .i64 r.2.1.aq,.sl false false r.2.1.aa.length (al (eI .i64) r.2.1.aa)],.int .i64 r.2.2])) l d
def YX(a:(List Int))(b:(List Int)):sr none [.sl false false a.length (al (eI .i64) a),.sl false false b.length (al (eI .i64) b)]=(ud a b).map fun r:(List Int)=>(.clean (.sl false false r.length (al (eI .i64) r)),none):=cJ _ _ _ (a,b)
def CO:Env:=(Am.ext (Am.ext (Am.ext (Am.ext (Am.ext bq 103 false bV) 113 false cM) 116 false sr) 117 false pS) 147 false pR)
def TR:bU prog CO:=(((((bU.none.add iw false).add kT false).add HK false).add HN false).add HL false)
def fL:=ai @w<|ai @IW<|ai @bV.eq_1<|ai @ZM<|ai @cM.eq_1<|ai @W2<|ai @pS.eq_1<|ai @pR.eq_1<|@CO.eq_1
def Ug:cn prog 118 yY:=cn.jB (mode:=.clean) tok TR mixed func118 (by kernel_rfl) (fun _ _=>rfl) (fun _=>by kernel_rfl) fun⟨o,p⟩ r a=>by
 replace a:rX o p=some r:=a;apply aL rfl ntmps118 results118;simp only[jD];unfold rX at a;obtain⟨P,z,a⟩:=ae a;simp only[fL,seval,z];obtain⟨G,A,a⟩:=ae a;refine cK 0 (fun s t H e=>match s with|m=>∃b:Nat,∃c:Nat,∃d:Nat,∃f:Nat,t 2=.ptr 2 b 0∧t 3=.ptr 3 c 0∧t 4=.ptr 4 d 0∧t 5=.ptr 5 f 0∧t 9=.bool m∧H 2=rV b 39 [sN o.aq,sI o.aa]∧H 3=rV c 39 [sN p.aq,sI p.aa]∧H 4=rV d 39 [sN 0,.sl true true 0 []]∧H 5=rV f 39 [sN 0,.sl true true 0 []]) (fun s=>s=G) ?_ ?_
 ·rintro m t H e ⟨b,c,d,f,g⟩ rfl;try dsimp only at a
  simp only[fL,seval,g];apply sp aw a<;>intro _ a
  ·cases a;simp only[fL,seval,g]
  ·simp only[fL,seval,g];apply sp aw a<;>intro _ a
   ·cases a;simp only[fL,seval,g]
   ·obtain⟨B,C,a⟩:=ae a;simp only[fL,seval,g,C];obtain⟨I,D,a⟩:=ae a;refine cK 0 (fun s t H e=>match s with|h=>∃i:Nat,∃j:Nat,∃k:Nat,∃l:Nat,t 2=.ptr 2 i 0∧t 3=.ptr 3 j 0∧t 4=.ptr 4 k 0∧t 5=.ptr 5 l 0∧t 7=sI B.1∧t 8=sI B.2∧t 44=.bool h∧H 2=rV i 39 [sN o.aq,sI o.aa]∧H 3=rV j 39 [sN p.aq,sI p.aa]∧H 4=rV k 39 [sN 0,.sl true true 0 []]∧H 5=rV l 39 [sN 0,.sl true true 0 []]) (fun s=>s=I) ?_ ?_
    ·rintro h t H e ⟨i,j,k,l,n⟩ rfl;try dsimp only at a
     simp only[fL,seval,n];apply sp aw a<;>intro _ a
     ·have F:=YX B.1 ([1]);simp only[b9,bM,List.length_cons,alf]at F;obtain⟨Q,E,a⟩:=ae a;obtain⟨J,q,a⟩:=ae a;obtain⟨K,u,a⟩:=ae a;obtain⟨L,v,a⟩:=ae a;simp only[fL,seval,n,F,E,q,u,v];refine bP (by kernel_rfl) ?_;cases a;simp only[seval]
     ·obtain⟨M,w,a⟩:=ae a;obtain⟨N,x,a⟩:=ae a;simp only[fL,seval,n,w,x];refine bP (by kernel_rfl) ?_;cases a;simp only[seval]
    ·clear a;have a:=D;simp only[fL,seval];apply sp fP a<;>intro _ a
     ·cases a;simp only[fL,seval];rw[aG];refine⟨_,rfl,?_⟩;refine⟨b,c,d,f,?_⟩;and_intros<;>first|rfl|(simp only[fL,seval,g]<;>rfl)
     ·cases a;simp only[fL,seval];rw[aG];refine⟨_,rfl,?_⟩;refine⟨b,c,d,f,?_⟩;and_intros<;>first|rfl|(simp only[fL,seval,g]<;>rfl)
 ·clear a;have a:=A;simp only[fL,seval];apply sp bL a<;>intro _ a
  ·cases a;simp only[fL,seval];rw[aG];refine⟨_,rfl,?_⟩;refine⟨0,0,0,0,?_,?_,?_,?_,?_,?_,?_,?_,?_⟩;all_goals (rfl)
  ·obtain⟨O,y,a⟩:=ae a;cases a;simp only[fL,seval,y];rw[aG];refine⟨_,rfl,?_⟩;refine⟨0,0,0,0,?_,?_,?_,?_,?_,?_,?_,?_,?_⟩;all_goals (rfl)
def gC(l:Option (D×Row))(d:List D):=ew (fV (bT je) (dO (bT je))) (fun x:aN×aN=>oX x.1 x.2) (fun r:ak×Int =>.clean (.tup [.agg [.int .i64 r.1.bX.aq,.sl false false r.1.bX.aa.length (al (eI .i64) r.1.bX.aa),.int .i64 r.1.b8.aq,.sl false false r.1.b8.aa.length (al (eI .i64) r.1.b8.aa)],.int .i64 r.2])) l d
def AI:Env:=(Am.ext (Am.ext (Am.ext (Am.ext bq 71 false pQ) 103 false bV) 104 false pP) 118 false yY)
def Qg:bU prog AI:=((((bU.none.add HJ false).add iw false).add HI false).add Ug false)
def fE:=ai @w<|ai @IW<|ai @pQ.eq_1<|ai @bV.eq_1<|ai @L1<|ai @pP.eq_1<|ai @yY.eq_1<|@AI.eq_1
def uA:cn prog 63 gC:=cn.jB (mode:=.clean) tok Qg mixed func63 (by kernel_rfl) (fun _ _=>rfl) (fun _=>by kernel_rfl) fun⟨u,v⟩ r a=>by
 replace a:oX u v=some r:=a;apply aL rfl ntmps63 results63;simp only[jD];unfold oX at a;obtain⟨J,w,a⟩:=ae a;simp only[fE,seval,w];obtain⟨D,x,a⟩:=ae a;refine cK 0 (fun s t H e=>match s with|k=>∃b:Nat,∃c:Nat,∃d:Nat,t 2=.ptr 2 b 0∧t 3=.ptr 3 c 0∧t 4=.ptr 4 d 0∧t 14=.bool k∧H 2=rV b 39 [sN u.aq,sI u.aa]∧H 3=rV c 39 [sN v.aq,sI v.aa]∧H 4=rV d 41 [sN 0,.sl true true 0 [],sN 0,.sl true true 0 []]) (fun s=>s=D) ?_ ?_
 ·rintro k t H e ⟨b,c,d,f⟩ rfl;try dsimp only at a
  simp only[fE,seval,f];apply sp aw a<;>intro _ a
  ·cases a;simp only[fE,seval,f]
  ·simp only[fE,seval,f];apply sp aw a<;>intro _ a
   ·cases a;simp only[fE,seval,f]
   ·simp only[fE,seval,f];obtain⟨E,y,a⟩:=ae a;refine rp 0 (fun s t H e=>match s with|(g,h,i,j)=>∃l:Nat,∃m:Nat,∃n:Nat,t 2=.ptr 2 l 0∧t 3=.ptr 3 m 0∧t 4=.ptr 4 n 0∧H 2=rV l 39 [sN g,sI h]∧H 3=rV m 39 [sN i,sI j]∧H 4=rV n 41 [sN 0,.sl true true 0 [],sN 0,.sl true true 0 []]) (fun s=>s=E) ?_ ?_
    ·rintro⟨g,h,i,j⟩ t H e ⟨l,m,n,z⟩ rfl;try dsimp only at a
     obtain⟨K,A,a⟩:=ae a;obtain⟨L,B,a⟩:=ae a;obtain⟨M,C,a⟩:=ae a;cases a;simp only[fE,seval,z,A,B,C]
    ·clear a;have a:=y;simp only[fE,seval];apply sp aw a<;>intro _ a
     ·obtain⟨F,o,a⟩:=ae a;obtain⟨G,p,a⟩:=ae a;simp only[fE,seval,f,o,p];refine bP (by kernel_rfl) ?_;cases a;rw[aG];refine⟨_,rfl,?_⟩;refine⟨b,c,d,?_⟩;and_intros<;>first|rfl|(simp only[fE,seval,f]<;>rfl)
     ·cases a;simp only[fE,seval];rw[aG];refine⟨_,rfl,?_⟩;refine⟨b,c,d,?_,?_,?_,?_,?_,?_⟩;all_goals ((simp only[fE,seval,f]<;>rfl))
 ·clear a;have a:=x;simp only[fE,seval];apply sp bL a<;>intro _ a
  ·cases a;simp only[fE,seval];rw[aG];refine⟨_,rfl,?_⟩;refine⟨0,0,0,?_,?_,?_,?_,?_,?_,?_⟩;all_goals (rfl)
  ·obtain⟨I,q,a⟩:=ae a;cases a;simp only[fE,seval,q];rw[aG];refine⟨_,rfl,?_⟩;refine⟨0,0,0,?_,?_,?_,?_,?_,?_,?_⟩;all_goals (rfl)
def kQ(l:Option (D×Row))(d:List D):=ew (fV (aI .i64) (dO (aI .i64))) (fun x:Int×Int=>uj x.1 x.2) (fun r:ak×Int =>.clean (.tup [.agg [.int .i64 r.1.bX.aq,.sl false false r.1.bX.aa.length (al (eI .i64) r.1.bX.aa),.int .i64 r.1.b8.aq,.sl false false r.1.b8.aa.length (al (eI .i64) r.1.b8.aa)],.int .i64 r.2])) l d
def CX:Env:=(Am.ext (Am.ext bq 61 false sK) 63 false gC)
def T0:bU prog CX:=((bU.none.add Ly false).add uA false)
def ZJ:=ai @w<|ai @IV<|ai @sK.eq_1<|ai @L1<|ai @gC.eq_1<|@CX.eq_1
def A1:cn prog 57 kQ:=cn.jB (mode:=.clean) tok T0 mixed func57 (by kernel_rfl) (fun _ _=>rfl) (fun _=>by kernel_rfl) fun⟨e,f⟩ r a=>by
 replace a:uj e f=some r:=a;apply aL rfl ntmps57 results57;simp only[jD];unfold uj at a;obtain⟨g,b,a⟩:=ae a;obtain⟨h,c,a⟩:=ae a;obtain⟨i,d,a⟩:=ae a;cases a;simp only[ZJ,seval,b,c,d]
def sM(l:Option (D×Row))(d:List D):=ew (fV (aI .i64) (dO (aI .i64))) (fun x:Int×Int=>tu x.1 x.2) (fun r:ak =>.clean (.agg [.int .i64 r.bX.aq,.sl false false r.bX.aa.length (al (eI .i64) r.bX.aa),.int .i64 r.b8.aq,.sl false false r.b8.aa.length (al (eI .i64) r.b8.aa)])) l d
def GM:Env:=(Am.ext bq 57 false kQ)
def Ys:bU prog GM:=(bU.none.add A1 false)
def adq:=ai @w<|ai @Ot<|ai @kQ.eq_1<|@GM.eq_1
def LC:cn prog 18 sM:=cn.jB (mode:=.clean) tok Ys mixed func18 (by kernel_rfl) (fun _ _=>rfl) (fun _=>by kernel_rfl) fun⟨c,d⟩ r a=>by
 replace a:tu c d=some r:=a;apply aL rfl ntmps18 results18;simp only[jD];unfold tu at a;obtain⟨e,b,a⟩:=ae a;cases a;simp only[adq,seval,b]
def qC(l:Option (D×Row))(d:List D):=ew (as0) (fun x:Unit=>um) (fun r:aU×(List (List ak)) =>.clean (.tup [.agg [.sl false false r.1.av.length (al (eI .i64) r.1.av),.sl false false r.1.an.length (al bm r.1.an)],.sl false false r.2.length (al (dW ah) r.2)])) l d
def sh9{β:Type}{F:Unit->Option β}{R:β->RK}:ew (as0) F R none []=(F (())).map fun r=>(R r,none):=cJ _ _ _ (())
def uU:Env:=(Am.ext bq 18 false sM)
def GV:bU prog uU:=(bU.none.add LC false)
def An:=ai @w<|ai @Ot<|ai @sM.eq_1<|@uU.eq_1
def HQ:cn prog 37 qC:=cn.jB (mode:=.clean) tok GV mixed func37 (by kernel_rfl) (fun _ _=>rfl) (fun _=>by kernel_rfl) fun _ r a=>by
 replace a:um=some r:=a;apply aL rfl ntmps37 results37;simp only[jD];unfold um at a;obtain⟨f,b,a⟩:=ae a;obtain⟨g,c,a⟩:=ae a;obtain⟨h,d,a⟩:=ae a;obtain⟨i,e,a⟩:=ae a;simp only[An,seval,b,c,d,e];refine bP (by kernel_rfl) ?_;cases a;simp only[An,seval]
def dt(l:Option (D×Row))(d:List D):=ew (fV (aI .i64) (fV (aI .i64) (dO (aI .i64)))) (fun x:Int×Int×Int=>fB x.1 x.2.1 x.2.2) (fun r:Bool =>.clean (.bool r)) l d
def Jv{β:Type}{F:Int×Int×Int->Option β}{R:β->RK}(a:Int)(b:Int)(c:Int):ew (fV (aI .i64) (fV (aI .i64) (dO (aI .i64)))) F R none [.int .i64 a,.int .i64 b,.int .i64 c]=(F (a,b,c)).map fun r=>(R r,none):=cJ _ _ _ (a,b,c)
def nw:cn prog 81 dt:=cn.jB (mode:=.clean) tok bU.none mixed func81 (by kernel_rfl) (fun _ _=>rfl) (fun _=>by kernel_rfl) fun⟨b,c,d⟩ r a=>by
 replace a:fB b c d=some r:=a;apply aL rfl ntmps81 results81;simp only[jD];unfold fB at a;simp only[w,seval];apply sp fP a<;>intro _ a
 ·cases a;simp only[w,seval]
 ·cases a;simp only[w,seval]
def cH(l:Option (D×Row))(d:List D):=ew (dO (aI .i64)) (fun x:Int=>gm x) (fun r:ak =>.clean (.agg [.int .i64 r.bX.aq,.sl false false r.bX.aa.length (al (eI .i64) r.bX.aa),.int .i64 r.b8.aq,.sl false false r.b8.aa.length (al (eI .i64) r.b8.aa)])) l d
def AG:Env:=(Am.ext bq 61 false sK)
def Qe:bU prog AG:=(bU.none.add Ly false)
def U7:=ai @w<|ai @IV<|ai @sK.eq_1<|@AG.eq_1
def kg:cn prog 21 cH:=cn.jB (mode:=.clean) tok Qe mixed func21 (by kernel_rfl) (fun _ _=>rfl) (fun _=>by kernel_rfl) fun d r a=>by
 replace a:gm d=some r:=a;apply aL rfl ntmps21 results21;simp only[jD];unfold gm at a;obtain⟨e,b,a⟩:=ae a;obtain⟨f,c,a⟩:=ae a;cases a;simp only[U7,seval,b,c]
def yZ(l:Option (D×Row))(d:List D):=ew (dO (bT je)) (fun x:aN=>za x) (fun r:Int×Bool =>.clean (.tup [.int .i64 r.1,.bool r.2])) l d
def CQ:Env:=(Am.ext bq 103 false bV)
def TT:bU prog CQ:=(bU.none.add iw false)
def b7:=ai @w<|ai @IW<|ai @bV.eq_1<|@CQ.eq_1
def Uh:cn prog 148 yZ:=cn.jB (mode:=.clean) tok TT mixed func148 (by kernel_rfl) (fun _ _=>rfl) (fun _=>by kernel_rfl) fun d r a=>by
 replace a:za d=some r:=a;apply aL rfl ntmps148 results148;simp only[jD];unfold za at a;obtain⟨R,G,a⟩:=ae a;simp only[b7,seval,-Int.reduceToNat,G];obtain⟨O,I,a⟩:=ae a;refine cK 0 (fun s t H e=>match s with|j=>∃f:Nat,t 1=.ptr 1 f 0∧t 15=.bool j∧H 1=rV f 39 [sN d.aq,sI d.aa]) (fun s=>s=O) ?_ ?_
 ·rintro j t H e ⟨f,v⟩ rfl;try dsimp only at a
  simp only[b7,seval,-Int.reduceToNat,v];apply sp aw a<;>intro _ a
  ·cases a;simp only[b7,seval,-Int.reduceToNat]
  ·simp only[b7,seval,-Int.reduceToNat,v];obtain⟨J,z,a⟩:=ae a;refine aD (fun s t H e=>match s with|(w,g)=>∃i:Nat,t 1=.ptr 1 i 0∧t 4=.int .u64 w∧t 17=sI d.aa∧t 18=sN (d.aa.length:Int)∧t 19=sN g∧H 1=rV i 39 [sN d.aq,sI d.aa]) (fun o x t H e=>match o with|(.inl k)=>x=.exit 0∧∃b:Nat,t 1=.ptr 1 b 0∧t 4=.int .u64 k∧H 1=rV b 39 [sN d.aq,sI d.aa]|(.inr r)=>x=.ret∧gE .clean tab none [.tmp 2,.tmp 3] ⟨t,EH H,e⟩=some (.clean (.tup [.int .i64 r.1,.bool r.2]),none)) z ?_ ?_ ?_
   ·refine⟨f,?_⟩;and_intros<;>first|rfl|(simp only[b7,seval,-Int.reduceToNat,v]<;>rfl)
   ·rintro⟨w,g⟩ t H e ⟨i,A⟩ c a;simp only[vY]at a;simp only[b7,seval,-Int.reduceToNat,A];apply sp aw a<;>intro _ a
    ·obtain⟨K,B,a⟩:=ae a;have u:=bg (eI .i64) B;simp only[bM]at u;simp only[b7,seval,-Int.reduceToNat,A,u];obtain⟨L,C,a⟩:=ae a;refine cK 0 (fun s t H e=>match s with|l=>∃h:Nat,t 1=.ptr 1 h 0∧t 4=.int .u64 w∧t 5=sN g∧t 6=sN K∧t 17=sI d.aa∧t 18=sN (d.aa.length:Int)∧t 19=sN g∧t 29=.bool l∧H 1=rV h 39 [sN d.aq,sI d.aa]) (fun s=>s=L) ?_ ?_
     ·rintro l t H e ⟨h,y⟩ rfl;try dsimp only at a
      simp only[b7,seval,-Int.reduceToNat,y];apply sp aw a<;>intro _ a
      ·cases a;simp only[b7,seval,-Int.reduceToNat];refine tU ⟨rfl,?_⟩;simp only[b7,seval,-Int.reduceToNat]
      ·obtain⟨P,D,a⟩:=ae a;have M:=Fq D;cases a;simp only[b7,seval,-Int.reduceToNat,y,M];apply ij;refine⟨h,?_⟩;and_intros<;>first|rfl|(simp only[b7,seval,-Int.reduceToNat,y]<;>rfl)
     ·clear a;have a:=C;simp only[b7,seval,-Int.reduceToNat];apply sp fP a<;>intro _ a
      ·cases a;simp only[b7,seval,-Int.reduceToNat];rw[aG];refine⟨_,rfl,?_⟩;refine⟨i,?_⟩;and_intros<;>first|rfl|(simp only[b7,seval,-Int.reduceToNat,A]<;>rfl)
      ·cases a;simp only[b7,seval,-Int.reduceToNat];rw[aG];refine⟨_,rfl,?_⟩;refine⟨i,?_⟩;and_intros<;>first|rfl|(simp only[b7,seval,-Int.reduceToNat,A]<;>rfl)
    ·cases a;simp only[b7,seval,-Int.reduceToNat];apply jN;refine⟨rfl,⟨i,?_,?_,?_⟩⟩;all_goals ((simp only[b7,seval,-Int.reduceToNat,A]<;>rfl))
   ·rintro x t H e F;rcases J with k|S
    ·dsimp only at F a;obtain⟨rfl,⟨b,q⟩⟩:=F;simp only[b7,seval,-Int.reduceToNat,q];obtain⟨N,E,a⟩:=ae a;refine cK 0 (fun s t H e=>match s with|m=>∃n:Nat,t 1=.ptr 1 n 0∧t 4=.int .u64 k∧t 38=.bool m∧H 1=rV n 39 [sN d.aq,sI d.aa]) (fun s=>s=N) ?_ ?_
     ·rintro m t H e ⟨n,p⟩ rfl;try dsimp only at a
      simp only[b7,seval,-Int.reduceToNat,p];apply sp aw a<;>intro _ a
      ·cases a;simp only[b7,seval,-Int.reduceToNat,p]
      ·simp only[b7,seval,-Int.reduceToNat,p];apply sp fP a<;>intro _ a
       ·simp only[b7,seval,-Int.reduceToNat,p];apply sp aw a<;>intro _ a
        ·cases a;simp only[b7,seval,-Int.reduceToNat,p]
        ·cases a;simp only[b7,seval,-Int.reduceToNat]
       ·cases a;simp only[b7,seval,-Int.reduceToNat]
     ·clear a;have a:=E;simp only[b7,seval,-Int.reduceToNat];apply sp fP a<;>intro _ a
      ·cases a;simp only[b7,seval,-Int.reduceToNat,q];rw[aG];refine⟨_,rfl,?_⟩;refine⟨b,?_⟩;and_intros<;>first|rfl|(simp only[b7,seval,-Int.reduceToNat,q]<;>rfl)
      ·cases a;simp only[b7,seval,-Int.reduceToNat];rw[aG];refine⟨_,rfl,?_⟩;refine⟨b,?_⟩;and_intros<;>first|rfl|(simp only[b7,seval,-Int.reduceToNat,q]<;>rfl)
    ·dsimp only at F a;obtain⟨rfl,Q⟩:=F;cases a;simp only[a8,bj,cD,cZ];exact Q
 ·clear a;have a:=I;simp only[b7,seval,-Int.reduceToNat];apply sp bL a<;>intro _ a
  ·cases a;simp only[b7,seval,-Int.reduceToNat];rw[aG];refine⟨_,rfl,?_⟩;refine⟨0,?_,?_,?_⟩;all_goals (rfl)
  ·cases a;simp only[b7,seval,-Int.reduceToNat];rw[aG];refine⟨_,rfl,?_⟩;refine⟨0,?_,?_,?_⟩;all_goals (rfl)
def vO(l:Option (D×Row))(d:List D):=ew (dO (bT je)) (fun x:aN=>vl x) (fun r:Bool =>.clean (.bool r)) l d
def AK:Env:=(Am.ext bq 148 false yZ)
def Qi:bU prog AK:=(bU.none.add Uh false)
def Bh:=ai @w<|ai @IW<|ai @yZ.eq_1<|@AK.eq_1
def RD:cn prog 105 vO:=cn.jB (mode:=.clean) tok Qi mixed func105 (by kernel_rfl) (fun _ _=>rfl) (fun _=>by kernel_rfl) fun c r a=>by
 replace a:vl c=some r:=a;apply aL rfl ntmps105 results105;simp only[jD];unfold vl at a;obtain⟨d,b,a⟩:=ae a;simp only[Bh,seval,b];apply sp fP a<;>intro _ a
 ·cases a;simp only[Bh,seval]
 ·cases a;simp only[Bh,seval]
def bh(l:Option (D×Row))(d:List D):=ew (dO (bT ah)) (fun x:ak=>cV x) (fun r:Bool =>.clean (.bool r)) l d
def kJ{β:Type}{F:ak->Option β}{R:β->RK}(c:Int)(a:(List Int))(d:Int)(b:(List Int)):ew (dO (bT ah)) F R none [.agg [.int .i64 c,.sl false false a.length (al (eI .i64) a),.int .i64 d,.sl false false b.length (al (eI .i64) b)]]=(F ((ak.mk (aN.mk c a) (aN.mk d b)))).map fun r=>(R r,none):=cJ _ _ _ ((ak.mk (aN.mk c a) (aN.mk d b)))
def wy:Env:=(Am.ext (Am.ext (Am.ext bq 103 false bV) 104 false pP) 105 false vO)
def Jd:bU prog wy:=(((bU.none.add iw false).add HI false).add RD false)
def gq:=ai @w<|ai @IW<|ai @bV.eq_1<|ai @L1<|ai @pP.eq_1<|ai @vO.eq_1<|@wy.eq_1
def fm:cn prog 54 bh:=cn.jB (mode:=.clean) tok Jd mixed func54 (by kernel_rfl) (fun _ _=>rfl) (fun _=>by kernel_rfl) fun d r a=>by
 replace a:cV d=some r:=a;apply aL rfl ntmps54 results54;simp only[jD];unfold cV at a;obtain⟨m,g,a⟩:=ae a;simp only[gq,seval,g];obtain⟨l,h,a⟩:=ae a;refine cK 0 (fun s t H e=>match s with|b=>∃c:Nat,t 1=.ptr 1 c 0∧t 20=.bool b∧H 1=rV c 41 [sN d.bX.aq,sI d.bX.aa,sN d.b8.aq,sI d.b8.aa]) (fun s=>s=l) ?_ ?_
 ·rintro b t H e ⟨c,f⟩ rfl;try dsimp only at a
  simp only[gq,seval,f];apply sp aw a<;>intro _ a
  ·cases a;simp only[gq,seval]
  ·obtain⟨n,i,a⟩:=ae a;simp only[gq,seval,f,i];apply sp fP a<;>intro _ a
   ·obtain⟨o,j,a⟩:=ae a;cases a;simp only[gq,seval,j]
   ·cases a;simp only[gq,seval]
 ·clear a;have a:=h;simp only[gq,seval];apply sp bL a<;>intro _ a
  ·cases a;simp only[gq,seval];rw[aG];refine⟨_,rfl,?_⟩;refine⟨0,?_,?_,?_⟩;all_goals (rfl)
  ·obtain⟨p,k,a⟩:=ae a;simp only[gq,seval,k];apply sp bL a<;>intro _ a
   ·cases a;simp only[gq,seval];rw[aG];refine⟨_,rfl,?_⟩;refine⟨0,?_,?_,?_⟩;all_goals (rfl)
   ·cases a;simp only[gq,seval];rw[aG];refine⟨_,rfl,?_⟩;refine⟨0,?_,?_,?_⟩;all_goals (rfl)
def cI(l:Option (D×Row))(d:List D):=ew (dO (bT ah)) (fun x:ak=>iF x) (fun r:Int =>.clean (.int .i64 r)) l d
def yk:Env:=(Am.ext bq 54 false bh)
def M8:bU prog yk:=(bU.none.add fm false)
def yU:=ai @w<|ai @kJ<|ai @bh.eq_1<|@yk.eq_1
def kr:cn prog 24 cI:=cn.jB (mode:=.clean) tok M8 mixed func24 (by kernel_rfl) (fun _ _=>rfl) (fun _=>by kernel_rfl) fun c r a=>by
 replace a:iF c=some r:=a;apply aL rfl ntmps24 results24;simp only[jD];unfold iF at a;obtain⟨d,b,a⟩:=ae a;simp only[yU,seval,b];apply sp aw a<;>intro _ a
 ·cases a;simp only[yU,seval]
 ·cases a;simp only[yU,seval]
section
variable {P:Program} {T:Nat->Option Ty} {N F:Nat} {M:Nat->Prop} {L:kz} {w0:World} {blk:Nat->Option (Nat×Nat)} {t:Nat->D} {h:Nat->Option Row} {a:Act} {w:World} {e:Nat} {Γ:Env} {done:List Nat}
def Ha(d:vT N M L w0 blk e done t h a w):Holds N M L w0 ⟨t,h,e+1⟩ a w:=by
 refine⟨blk,d.inv.weaken fun x v c =>?_,fun x r f s nv g i j k l =>?_⟩
 ·rcases c with⟨b,c|⟨c,_⟩⟩|⟨b,n,o,m⟩
  ·exact .inl ⟨b,.inl (by simp only;omega)⟩
  ·exact .inl ⟨b,.inl (by simp only;omega)⟩
  ·exact .inr ⟨b,by simp only;omega,fun _=>by simp only;omega,m⟩
 ·have:=d.nv x r f s nv g i j k l;grind
def Ig(p:jL P T)(q:bU P Γ){b l:List Oper}{K:(Nat->D)->(Nat->Option Row)->Prop}{Q:Exit->Act->World->Prop}(r:vT N M L w0 blk e done t h a w)(j:(l.filterMap (·.dst)).Nodup)(s:∀o∈l,∀d,o.dst=some d->d∉done)
  (u:mV T Γ N F b l [] (fun _ t h _=>K t h) t h e) (hQ:∀c f g i,K c f->Holds N M L w0 ⟨c,f,e+1⟩ g i->Q .normal g i):wpList P b.toArray Q l a w:=by
 obtain⟨c,f,y,v,x⟩:=Ci (T:=T) (Γ:=Γ) (N:=N) (e:=e) (ops:=b.toArray) l t h u;exact Bf p q v j s r fun g i n k m=>hQ c f g i x (Ha m)
def abz(p:jL P T)(q:bU P Γ){b l:List Oper}{o:Oper}{K:(Nat->D)->(Nat->Option Row)->Prop}{Q:Exit->Act->World->Prop}(r:vT N M L w0 blk e done t h a w)(s:∀d,o.dst=some d->d∉done)
  (u:mV T Γ N F b [o] [] (fun _ t h _=>K t h) t h e) (hQ:∀i j k m c,K i j->vT N M L w0 c e (o.dst.toList++done) i j k m->wpList P b.toArray Q l k m):wpList P b.toArray Q (o::l) a w:=by
 obtain⟨i,j,z,g,v⟩:=Ci (T:=T) (Γ:=Γ) (N:=N) (e:=e) (ops:=b.toArray) [o] t h u;simp only[Dw]at g;split at g
 ·rename_i t1 x f y;simp only[akq,Prod.mk.injEq]at g;obtain⟨rfl,rfl,_⟩:=g;unfold wpList;exact NX p q r y s fun k m c n=>hQ _ _ _ _ c v n
 ·cases g
def sZ(m:jL P T)(n:bU P Γ)(o:P.follows .mixedOrders=true){c:Code}{K:Kt}{Q:Exit->Act->World->Prop}(p:Holds N M L w0 ⟨t,h,e⟩ a w)(g:codeOk c=true)(q:dr T Γ N F [.code c] K .normal t h e)
  (hQ:∀x j k l b d,K x j k l->Holds N M L w0 ⟨j,k,l⟩ b d->Q (GG x) b d):c.wp P Q a w:=by
 obtain⟨x,f,r,s⟩:=DH c t h e K q;exact kh m n o c ⟨t,h,e⟩ x f Q a w r g p fun b d i=>hQ x f.t f.h f.e b d s i
def jr.maps{a:Nat->Option Row}(l:∀x,a x=h x∨∃v c d f g b,a x=some ⟨v,c,[.mpc d f],g,b,true⟩):jr e h a:=by
 intro x m i n j k o p q r;grind
def abl{d:Nat}(b:d<N)(f:N<=PK)(c:d∉done):ky N (VE N e done h) d e where
 no:=by
  rintro (⟨_,a|⟨_,a⟩⟩|⟨a,_⟩)
  ·omega
  ·exact c a
  omega
 lt:=b
end
def map_eraseIdx{α β:Type}(f:α->β):∀(l:List α)(j:Nat),(l.map f).eraseIdx j=(l.eraseIdx j).map f
 | [],_=>rfl
 | a::l,0=>rfl
 | a::l,j+1=>by simp[map_eraseIdx f l j]
def B3{α:Type}:∀m:List ((Int×Int)×α),fJ m=m.map fun q=>DL.k q.1
 | []=>rfl
 | (k,v)::m=>by simp[fJ,B3 m]
def Ho{α:Type}(A:Arg α):∀m:List ((Int×Int)×α),iu A m=m.map fun q=>A.d q.2
 | []=>rfl
 | (k,v)::m=>by simp[iu,Ho A m]
def H3{α:Type}:∀{l:List α}{j:Nat}{q:α},l[j]? = some q->l.Perm (q::l.eraseIdx j)
 | [],_,_,h=>by simp at h
 | a::l,0,q,h=>by simp_all
 | a::l,j+1,q,h=>by
  simp only[List.getElem?_cons_succ]at h;exact ((H3 h).cons a).trans (List.Perm.swap q a _)
def kc(q:(Int×Int)×ak):cA:=cA.mk q.1.1 q.1.2 q.2
def ahj(r:fW×Int)(t:Nat->D)(h:Nat->Option Row)(e:Nat):Prop:=∃(m:List ((Int×Int)×ak))(a:Int)(b c d nv:Nat),t 6=.mp 21 b∧h 21=some ⟨b,113,[.mpc (fJ m) (iu (bT ah) m)],false,true,true⟩ ∧
 t 9=.ptr 9 c 0∧h 9=some ⟨c,66,[.nr 118 6 nv [.int .i64 a,.nx 0 []]],false,false,true⟩∧t 2=.ptr 2 d 0∧h 2=some ⟨d,66,[.int .i64 0,.sl true true 0 []],false,false,false⟩∧nv<=4*e∧Fl a m=some r
def Fy:=mkW 118 bW (dO (Oq 67)) (fun (l:List cA) (_:Unit)=>ED (lq cA.db cA.jM) l) (fun _:Unit =>.clean (.tup []))
def acs(pre post:List D)(a:List cA):Fy (some (.buf 0 0 6 pre.length a.length,⟨0,118,pre++(al bW a++post),false,true,false⟩)) [.fn 67]=(ED (lq cA.db cA.jM) a).map fun r=>(.clean (.tup []),some ⟨0,118,pre++(al bW r.1++post),false,true,false⟩):=ab6 _ _ _ _ _ pre post a ()
def YS:cn prog 66 Fy:=ND xZ (fun x=>by rw[sd];rfl) (fun x=>by rw[sd];rfl) 118
def TP:Env:=(Am.xq 9 (118,6,1) (Am.ext bq 66 true Fy))
def uk:bU prog TP:=bU.xq (bU.none.add YS true) 9 (118,6,1)
def yV:=ai @w<|@TP.eq_1
def Ve(m:List ((Int×Int)×ak))(a:Int)(d:List ((Int×Int)×ak))(t:Nat->D)(h:Nat->Option Row)(e:Nat):Prop:=∃(f:List ec)(g:List D)(b:List cA)(i c j k nv:Nat),
 t 44=.ptr 44 i 0∧h 44=some ⟨i,c,[.mpc f g],false,true,true⟩∧900000<=c∧f.drop (c-900000)=fJ d∧g.drop (c-900000)=iu (bT ah) d ∧
 t 9=.ptr 9 j 0∧h 9=some ⟨j,66,[.nr 118 6 nv [.int .i64 a,.nx b.length (al bW b)]],false,false,true⟩∧t 2=.ptr 2 k 0∧h 2=some ⟨k,66,[.int .i64 0,.sl true true 0 []],false,false,false⟩∧nv<=4*e∧(b++d.map kc).Perm (m.map kc)
def aeo{m:List ((Int×Int)×ak)}{c:Int}(A:m.length<=8000∧(m.map (·.1)).Nodup){t:Nat->D}{h:Nat->Option Row}{e:Nat}{w0:World}{M:Nat->Prop}{a:Act}{w:World}(B:Ve m c [] t h e)(C:Holds 65 M none w0 ⟨t,h,e⟩ a w) :
  (lX 0 (lX 5 (uK Tryz.f26))).wp prog (bodyPost prog Tryz.f26 fun e n=>∃v,e=.returned v∧Below w0.heap.size w0 n∧xy w0 n M (fun _=>False) v (.clean (.tup [.agg [.int .i64 c,.sl false false (rL (lq cA.db cA.jM) (m.map kc)).length (al bW (rL (lq cA.db cA.jM) (m.map kc)))],.int .i64 0]))) a w:=by
 obtain⟨Z,vs,b,vI,ty,v9,v2,nv,i1,i2,i3,i4,i5,E,G,H,I,J,d⟩:=B;rw[akZ,alX]at d;have hkey:∀x∈b,∀y∈b,lq cA.db cA.jM x y=0->x=y:=by
  intro x o y r L;obtain⟨p,N,rfl⟩:=akh.1 (d.mem_iff.1 o);obtain⟨q,O,rfl⟩:=akh.1 (d.mem_iff.1 r);obtain⟨P,Q⟩:=UM.1 L;have R:p.1=q.1:=Prod.ext P Q;have:p=q:=by
   obtain⟨i,S,rfl⟩:=ami N;obtain⟨j,T,rfl⟩:=ami O;have:=(List.getElem_inj (h₀:=by simpa using S) (h₁:=by simpa using T) A.2).1 (by simpa using R);subst this;rfl
  rw[this]
 have s:rL (lq cA.db cA.jM) b=rL (lq cA.db cA.jM) (m.map kc):=by
  refine qP (((jH _ b).trans d).trans (jH _ _).symm) (fun x o y r h1 h2=>hkey x ((jH _ b).mem_iff.1 o) y ((jH _ b).mem_iff.1 r) ?_) (o0 (yP _ _) _) (o0 (yP _ _) _);have:=(yP cA.db cA.jM).neg x y;omega
 have f:b.length=m.length:=by rw[d.length_eq,akJ]
 have u:ED (lq cA.db cA.jM) b=some (rL (lq cA.db cA.jM) (m.map kc),()):=by
  unfold ED;grind
 have g:(rL (lq cA.db cA.jM) (m.map kc)).length=b.length:=by rw[qk,akJ,f]
 generalize rL (lq cA.db cA.jM) (m.map kc)=k at u g ⊢;have z:=acs [] [] b;simp only[List.nil_append,alX,List.length_nil,bM]at z;refine (show (Code.seq (Code.region _ _ _) (Code.seq (Code.region _ _ _) Code.ret)).wp _ _ _ _ from ?_);refine sZ (F:=FU) tok uk mixed C (by kernel_rfl) (K:=fun x t h e=>x=.ret∧gE .clean tab none [.cell 2 66,.tmp 3] ⟨t,EH h,e⟩=some (.clean (.tup [.agg [.int .i64 c,.sl false false k.length (al bW k)],.int .i64 0]),none)) ?_ ?_
 ·simp only[yV,seval,E,G,H,I,z,u,g]
 ·rintro x U V W X n ⟨rfl,hr⟩ Y;have l:Holds Tryz.f26.ntmps M none w0 ⟨U,V,W⟩ X n:=by simp_all
  exact CH tok l (by simp_all)
def acf(r:fW×Int):FG prog Tryz.f26 (lX 5 (uK Tryz.f26)) (.clean (.tup [.agg [.int .i64 r.1.aF,.sl false false r.1.aZ.length (al bW r.1.aZ)],.int .i64 r.2])) (ahj r):=by
 intro w0 M s a w hJ E;obtain⟨t0,h0,H⟩:=s;obtain⟨m,c,g,z,A,nv,j1,Z,j3,j4,j5,j6,j7,hr⟩:=hJ;dsimp only at j1 Z j3 j4 j5 j6 j7;unfold Fl at hr
 by_cases hc:m.length<=8000∧(m.map (·.1)).Nodup
 rotate_left
 ·simp_all
 rw[if_pos hc]at hr;cases hr;rw[ntmps26]at E;apply wp_seq;apply wp_seq;obtain⟨blk,B⟩:=E;apply wp_region_lit;refine abz (F:=FU) tok uk B (fun d _=>by simp) (K:=fun t h=>t=ca t0 43 (.mp 21 g)∧h=h0) (by simp only[yV,seval,j1,Z]) ?_;rintro t1 h1 a1 w1 aj ⟨rfl,rfl⟩ G;refine CC rfl G (by decide) (K:=fun t h=>t=ca (ca t0 43 (.mp 21 g)) 44 (.ptr 44 H 0)∧h=ca (ca h1 21 (some ⟨g,113,[.mpc (fJ m) (iu (bT ah) m)],true,true,true⟩)) 44 (some ⟨H,900000,[.mpc (fJ m) (iu (bT ah) m)],false,true,true⟩)) ?_ ?_
 ·refine ff.mono (Tz tok G.inv (e:=H) (ty:=113) (d:=44) (k:=116) (el:=41) (x:=21) (v:=g) (v':=g) (m:=.tmp 43) rfl rfl (abl (by decide) (by rw[eD];decide) (by simp)) underlying113 (by simp[ev,aB]) Z (by decide) (by rw[eD];decide) (by decide)) fun v w' hA=>⟨_,⟨rfl,rfl⟩,y8 G (fun d hd =>?_) (jr.maps fun x =>?_) hA⟩
  ·grind
  ·show ca (ca h1 21 _) 44 _ x=_∨_
   by_cases l:x=44
   ·subst l;rw[aB];exact .inr ⟨_,_,_,_,_,_,rfl⟩
   ·rw[aC _ _ l]
    by_cases O:x=21
    ·subst O;rw[aB];exact .inr ⟨_,_,_,_,_,_,rfl⟩
    ·rw[aC _ _ O];exact .inl rfl
 ·rintro t2 h2 P Q an ⟨rfl,rfl⟩ R;have S:=Ha R;have T:Ve m c m (ca (ca t0 43 (.mp 21 g)) 44 (.ptr 44 H 0)) (ca (ca h1 21 (some ⟨g,113,[.mpc (fJ m) (iu (bT ah) m)],true,true,true⟩)) 44 (some ⟨H,900000,[.mpc (fJ m) (iu (bT ah) m)],false,true,true⟩)) (H+1) :=
   ⟨_,_,[],H,900000,z,A,nv,aB _ _ _,aB _ _ _,aki _,by simp_all,by simp_all,by rw[aC _ _ (by decide),aC _ _ (by decide)];exact j3,by rw[aC _ _ (by decide),aC _ _ (by decide)];exact j4,by rw[aC _ _ (by decide),aC _ _ (by decide)];exact j5,by rw[aC _ _ (by decide),aC _ _ (by decide)];exact j6,by omega,List.Perm.refl _⟩
  apply wp_block;refine wp_loop_ghost (fun n a w=>∃(o:List ((Int×Int)×ak))(t:Nat->D)(h:Nat->Option Row)(e:Nat),o.length=n∧Ve m c o t h e∧Holds 65 M none w0 ⟨t,h,e⟩ a w) m.length ⟨m,_,_,_,rfl,T,S⟩ ?_;clear T S R G B j1 Z j3 j4 j5 j6 j7;rintro n a w ⟨o,t,h,e,hn,⟨ks,vs,f,C,ty,z,A,nv,i1,i2,i3,U,i5,i6,i7,i8,i9,ar,I⟩,blk,B⟩;replace B:vT 65 M none w0 blk e [] t h a w:=B;apply wp_seq;apply wp_region_lit;refine CC rfl B (by decide) (K:=fun t' h'=>(o=[]∧t'=ca t 45 (.tup [.bool false])∧h'=h)∨∃(k:Int×Int)(x:ak)(b:List ((Int×Int)×ak)),(o.map kc).Perm (kc (k,x)::b.map kc)∧o.length=b.length+1 ∧
   t'=ca t 45 (.tup [.bool true,.agg [.int .i64 k.1,.int .i64 k.2],.agg [.int .i64 x.bX.aq,.sl false false x.bX.aa.length (al (eI .i64) x.bX.aa),.int .i64 x.b8.aq,.sl false false x.b8.aa.length (al (eI .i64) x.b8.aa)]]) ∧
   h'=ca h 44 (some ⟨C,900001,[.mpc (fJ ((k,x)::b)) (iu (bT ah) ((k,x)::b))],false,true,true⟩)) ?_ ?_
  ·refine ff.mono (Yc B.inv (e:=e) (y:=44) (p:=.tmp 44) rfl (by simp[ev,i1]) i2 i3 (by rw[eD];decide)) ?_;rintro v w' (⟨J,L⟩|⟨j,k,x,J,L,V⟩)
   ·rw[U,B3]at J;have aa:o=[]:=List.map_eq_nil_iff.1 J;exact⟨_,.inl ⟨aa,rfl,rfl⟩,y8 B (fun d hd=>by grind) (jr.maps fun x =>.inl rfl) L⟩
   ·rw[U,i5]at V;rw[U]at J;rw[i5]at L;rw[B3]at J V;rw[Ho]at L V;rw[akf]at J L;obtain⟨q,hq,rfl⟩:=akg.1 J;rw[hq]at L;cases L;rw[map_eraseIdx,map_eraseIdx,<- B3,<- Ho]at V;have hp:=H3 hq;refine⟨_,.inr ⟨q.1,q.2,o.eraseIdx j,hp.map kc,hp.length_eq,rfl,rfl⟩,y8 B (fun d hd=>by grind) (jr.maps fun x =>?_) V⟩;show ca h 44 _ x=_∨_
    by_cases l:x=44
    ·subst l;rw[aB];exact .inr ⟨_,_,_,_,_,_,rfl⟩
    ·rw[aC _ _ l];exact .inl rfl
  ·rintro t' h' a' w' ao (⟨rfl,rfl,rfl⟩|⟨k,x,b,p1,p2,rfl,rfl⟩) N
   ·refine Ig (F:=FU) tok uk N (by decide) (by simp) (K:=fun t' i=>t'=ca (ca t 45 (.tup [.bool false])) 46 (.bool false)∧i=h') (by simp only[yV,seval]) ?_;rintro t2 h2 P Q ⟨rfl,rfl⟩ E;refine (show Code.wp _ (Code.seq (Code.cond _ Code.skip (Code.exit 2)) _) _ P Q from ?_);refine sZ (F:=FU) tok uk mixed E (by kernel_rfl) (K:=fun x t' i W=>x=.exit 2∧t'=ca (ca t 45 (.tup [.bool false])) 46 (.bool false)∧i=h2∧W=e+1) (by simp only[yV,seval]) ?_;rintro x t3 h3 e3 a3 w3 ⟨rfl,rfl,rfl,rfl⟩ ab;refine aeo hc ⟨ks,vs,f,C,ty,z,A,nv,?_,i2,i3,U,i5,?_,i7,?_,i9,by omega,I⟩ ab
    ·rw[aC _ _ (by decide),aC _ _ (by decide)];exact i1
    ·rw[aC _ _ (by decide),aC _ _ (by decide)];exact i6
    ·rw[aC _ _ (by decide),aC _ _ (by decide)];exact i8
   ·refine Ig (F:=FU) tok uk N (by decide) (by simp) (K:=fun t' i=>t'=ca (ca t 45 (.tup [.bool true,.agg [.int .i64 k.1,.int .i64 k.2],.agg [.int .i64 x.bX.aq,.sl false false x.bX.aa.length (al (eI .i64) x.bX.aa),.int .i64 x.b8.aq,.sl false false x.b8.aa.length (al (eI .i64) x.b8.aa)]])) 46 (.bool true)∧i=ca h 44 (some ⟨C,900001,[.mpc (fJ ((k,x)::b)) (iu (bT ah) ((k,x)::b))],false,true,true⟩)) (by simp only[yV,seval]) ?_;rintro t2 h2 P Q ⟨rfl,rfl⟩ E;refine (show Code.wp _ (Code.seq (Code.cond _ Code.skip (Code.exit 2)) (Code.block 3 (Code.seq (Code.region _ (List.toArray _) false) _))) _ P Q from ?_);apply wp_seq;have hF:∃t h,(t 44=.ptr 44 C 0∧t 9=.ptr 9 z 0∧t 2=.ptr 2 A 0∧h 44=some ⟨C,900001,[.mpc (fJ ((k,x)::b)) (iu (bT ah) ((k,x)::b))],false,true,true⟩∧h 9=some ⟨z,66,[.nr 118 6 nv [.int .i64 c,.nx f.length (al bW f)]],false,false,true⟩∧h 2=some ⟨A,66,[.int .i64 0,.sl true true 0 []],false,false,false⟩∧t 46=.bool true)∧Holds 65 M none w0 ⟨t,h,e+1⟩ P Q:=by
     refine⟨_,_,⟨?_,?_,?_,aB _ _ _,?_,?_,aB _ _ _⟩,E⟩
     ·rw[aC _ _ (by decide),aC _ _ (by decide)];exact i1
     ·rw[aC _ _ (by decide),aC _ _ (by decide)];exact i6
     ·rw[aC _ _ (by decide),aC _ _ (by decide)];exact i8
     ·rw[aC _ _ (by decide)];exact i7
     ·rw[aC _ _ (by decide)];exact i9
    clear E N B i1 i2 i3 U i5 i6 i7 i8 i9;clear h t;obtain⟨t,h,⟨f1,f2,f3,f4,f5,f6,f7⟩,E⟩:=hF;refine sZ (F:=FU) tok uk mixed E (by kernel_rfl) (K:=fun x t' i W=>x=.normal∧t'=t∧i=h∧W=e+1) (by simp only[yV,seval,f7]) ?_;rintro x' t3 h3 e3 a3 w3 ⟨rfl,rfl,rfl,rfl⟩ ⟨X,u⟩;replace u:vT 65 M none w0 X (e+1) [] t3 h3 a3 w3:=u;refine (show Code.wp _ (Code.block 3 (Code.seq (Code.region _ (List.toArray _) false) _)) _ a3 w3 from ?_);apply wp_block;apply wp_seq;apply wp_region_lit;refine CC rfl u (by decide) (K:=fun t' h'=>t'=ca t3 47 (.tup [.agg [.int .i64 k.1,.int .i64 k.2],.agg [.int .i64 x.bX.aq,.sl false false x.bX.aa.length (al (eI .i64) x.bX.aa),.int .i64 x.b8.aq,.sl false false x.b8.aa.length (al (eI .i64) x.b8.aa)]])∧h'=h3) ?_ ?_
    ·refine ff.mono (Tv u.inv (e:=e+1) (y:=44) (p:=.tmp 44) (k:=DL.k k) (x:=(bT ah).d x) (ks:=fJ b) (vs:=iu (bT ah) b) rfl (by simp[ev,f1]) f4 (by rw[eD];decide)) fun v w' hA=>⟨_,⟨rfl,rfl⟩,y8 u (fun d hd=>by grind) (jr.refl _ _) hA⟩
    ·rintro t4 h4 a4 w4 aq ⟨rfl,rfl⟩ ad;refine Ig (F:=FU) tok uk ad (by decide) (by simp) (K:=fun t' h'=>t' 44=.ptr 44 C 0∧t' 9=.ptr 9 z 0∧t' 2=.ptr 2 A 0∧t' 10=.ptr 10 (e+1) 0∧t' 11=.ptr 11 (e+1) 0 ∧
      h' 44=some ⟨C,900001,[.mpc (fJ ((k,x)::b)) (iu (bT ah) ((k,x)::b))],false,true,true⟩∧h' 9=some ⟨z,66,[.nr 118 6 nv [.int .i64 c,.nx f.length (al bW f)]],false,false,true⟩∧h' 2=some ⟨A,66,[.int .i64 0,.sl true true 0 []],false,false,false⟩ ∧
      h' 10=some ⟨e+1,116,[.int .i64 k.1,.int .i64 k.2],false,false,false⟩∧h' 11=some ⟨e+1,41,[.int .i64 x.bX.aq,.sl false false x.bX.aa.length (al (eI .i64) x.bX.aa),.int .i64 x.b8.aq,.sl false false x.b8.aa.length (al (eI .i64) x.b8.aa)],false,false,false⟩) (by simp only[yV,seval,f1,f2,f3,f4,f5,f6]) ?_
     rintro t5 h5 a5 w5 ⟨g1,g2,g3,g4,g5,g6,g7,g8,g9,ae⟩ ag;have au:f.length+1+b.length=m.length:=by
      have:=I.length_eq;grind
     have Y:oQ 80 f [kc (k,x)]=some (f++[kc (k,x)]):=by
      unfold oQ;have:(17592186044416:Nat)<=maxLen:=by decide
      grind
     obtain⟨qa,qb,qc,qd⟩:=lj bW Y;simp only[bM,kc]at qb;have bp:bump nv (e+1+1)=some (4*(e+1+1)+1):=jO (by omega);refine (show Code.wp _ (Code.region _ (List.toArray _) false) _ a5 w5 from ?_);refine sZ (F:=FU) tok uk mixed ag (by kernel_rfl) (K:=fun x' t' h' W=>x'=.normal∧W=e+1+1+1∧t' 44=.ptr 44 C 0∧t' 9=.ptr 9 z 0∧t' 2=.ptr 2 A 0 ∧
      h' 44=some ⟨C,900001,[.mpc (fJ ((k,x)::b)) (iu (bT ah) ((k,x)::b))],false,true,true⟩∧h' 9=some ⟨z,66,[.nr 118 6 (4*(e+1+1)+1) [.int .i64 c,.nx (f++[kc (k,x)]).length (al bW (f++[kc (k,x)]))]],false,false,true⟩∧h' 2=some ⟨A,66,[.int .i64 0,.sl true true 0 []],false,false,false⟩)
      (by simp only[yV,seval,g1,g2,g3,g4,g5,g6,g7,g8,g9,ae,qa,qb,qc,qd,bp,kc];exact⟨qc,qd⟩) ?_
     rintro x' t6 h6 e6 a6 w6 ⟨rfl,rfl,l1,l2,l3,l4,l5,l6⟩ ai;refine (show ∃n',n'<n∧∃(o:List ((Int×Int)×ak))(t:Nat->D)(h:Nat->Option Row)(e:Nat),o.length=n'∧Ve m c o t h e∧Holds 65 M none w0 ⟨t,h,e⟩ a6 w6 from ?_);refine⟨b.length,by omega,b,t6,h6,_,rfl,⟨_,_,_,C,900001,z,A,_,l1,l4,by decide,?_,?_,l2,l5,l3,l6,by omega,?_⟩,ai⟩
     ·rw[show 900001-900000=1 from al5 (n:=900000) (m:=1)];rfl
     ·rw[show 900001-900000=1 from al5 (n:=900000) (m:=1)];rfl
     ·rw[alZ];exact (List.Perm.append_left f p1.symm).trans I
end Go.Proofs.YtobnihfgnbnncaaGreat.Am
namespace Go.Proofs.YtobnihfgnbnncaaGreat.Am
open Go.RowKit
section
variable {P:Program} {T:Nat->Option Ty} {N:Nat} {M:Nat->Prop} {L:kz} {w0:World} {blk:Nat->Option (Nat×Nat)} {V:Nat->Nat->Prop} {t:Nat->D} {h:Nat->Option Row} {a:Act} {w:World} {e:Nat}
def Inv.mark(o:Inv N M L w0 blk V t h a w){x:Nat}{r:Row}(b:Bool)(R:h x=some r)(H:∀d∈r.cells,eZ d=true):Inv N M L w0 blk V t (ca h x (some { r with mp:=b })) a w:=by
 generalize K:ca h x (some { r with mp:=b })=h';have D:h' x=some { r with mp:=b }:=by rw[<- K,aB]
 have O:∀y,y≠x->h' y=h y:=fun y k=>by rw[<- K,aC _ _ k]
 have back:∀y r',h' y=some r'->∃e,h y=some e∧r'.v=e.v∧r'.ty=e.ty∧r'.cells=e.cells∧r'.fz=e.fz∧r'.lst=e.lst∧(y≠x->r'=e):=fun y r' k=>by
  by_cases f:y=x
  ·subst f;rw[D]at k;cases k;exact⟨r,R,rfl,rfl,rfl,rfl,rfl,fun h=>absurd rfl h⟩
  ·rw[O y f]at k;exact⟨r',k,rfl,rfl,rfl,rfl,rfl,fun _=>rfl⟩
 have ab:∀y e,h y=some e->∃r',h' y=some r'∧r'.v=e.v∧r'.fz=e.fz:=fun y e k=>by
  by_cases f:y=x
  ·subst f;rw[R]at k;cases k;exact⟨_,D,rfl,rfl⟩
  ·exact⟨e,by rw[O y f];exact k,rfl,rfl⟩
 have own:∀c,Own M h' blk c->Own M h blk c:=by
  rintro c (p|⟨y,r',g,l,k2,B,I⟩)
  ·exact .inl p
  ·obtain⟨e,m,_,_,_,P,_⟩:=back y r' l;exact .inr ⟨y,e,g,m,by rw[<- P];exact k2,B,I⟩
 have keep:Fz w w (Own M h blk) (Own M h' blk) h h' blk blk V V:=⟨fun c E h2=>⟨E,fun p=>h2 (own c p),rfl⟩,fun _ _ h=>h,fun y v _ r' l k2=>by
  obtain⟨e,m,F,_⟩:=back y r' l;exact⟨⟨e,m,by rw[<- F];exact k2⟩,rfl,fun _ _=>rfl⟩⟩
 exact {
  tab:=o.tab.keep fun c E h2=>⟨E,fun p=>h2 (own c p),rfl⟩
  below:=o.below
  mlt:=o.mlt
  bY:=o.bY
  pin:=fun go C=>⟨(o.pin go C).1,fun r' hr hv=>by
   obtain⟨e,m,F,_⟩:=back 0 r' hr;exact (o.pin go C).2 e m (by rw[<- F];exact hv)⟩
  defers:=o.defers
  tsz:=o.tsz
  slots:=fun i=>(o.slots i).mono keep
  rows:=fun y r' k=>by
   obtain⟨e,m,F,q3,Q,P,T,S⟩:=back y r' k;obtain⟨E,h2⟩:=o.rows y e m;refine⟨fun hn=>by rw[F];exact E hn,?_⟩;cases hb:blk y with
   | none=>rw[hb]at h2;show r'.cells=[];rw[Q];exact h2
   | some g =>
    rw[hb]at h2;refine⟨h2.1,?_⟩;have J:=h2.2
    by_cases f:y=x
    rotate_left
    ·rw[S f];exact J.keep rfl rfl rfl rfl fun c l k2=>⟨l,fun p=>k2 (own c p),rfl⟩
    subst f;rw[R]at m;cases m;rw[D]at k;cases k;have hl:∃A:Array Value,w.heap[g.1]? = some (.cells A r.ty (0,0))∧g.2+r.cells.length<=A.size∧∀j d,r.cells[j]? = some d->RP w (Own M h blk) d (A.getD (g.2+j) undef):=by
     unfold eJ at J;cases G:r.mp with
     | false =>
      rw[G]at J;obtain⟨A,l,k2,B⟩:=J;exact⟨A,l,k2,fun j d q=>(B j d q).2⟩
     | true =>
      rw[G]at J;rcases J with⟨ks,vs,l,_⟩|⟨_,A,l,k2,B⟩
      ·have:=H (.mpc ks vs) (by rw[l];simp);cases this
      ·exact⟨A,l,k2,fun j d q=>(eV (H d (akG q))).2.2.1 (B j d q)⟩
    obtain⟨A,l,k2,B⟩:=hl;have I:∀j d,r.cells[j]? = some d->RP w (Own M h' blk) d (A.getD (g.2+j) undef):=fun j d q=>(B j d q).keep fun c E h2=>⟨E,fun p=>h2 (own c p),rfl⟩;unfold eJ;cases b with
    | false=>exact⟨A,l,k2,fun j d q=>⟨(eV (H d (akG q))).1,I j d q⟩⟩
    | true=>exact .inr ⟨fun d G=>(eV (H d G)).2.1,A,l,k2,fun j d q=>(eV (H d (akG q))).2.2.2 (I j d q)⟩
  inj:=fun y z r1 U g g' k W C X he=>by
   obtain⟨s1,l,_⟩:=back y r1 k;obtain⟨s2,k2,_⟩:=back z U W;exact o.inj y z s1 s2 g g' l k2 C X he
  big:=o.big
  pha:=fun y r' g k G C j z s n p=>by
   obtain⟨e,m,F,q3,Q,P,T,S⟩:=back y r' k
   by_cases f:y=x
   ·subst f;rw[R]at m;cases m;rw[Q]at p;have:=H _ (akG p);cases this
   ·rw[S f]at G p;obtain⟨k0,u,l,k2⟩:=o.pha y e g m G C j z s n p;exact⟨k0,u,l,k2.mono fun Y B=>by
     obtain⟨U,I,_⟩:=back z Y B;exact⟨⟨U,I⟩,rfl,fun _ _=>rfl⟩⟩
  ali:=fun y r' g k W Z C j c d' q aa=>by
   obtain⟨e,m,F,q3,Q,P,T,S⟩:=back y r' k;obtain⟨u,l,k2⟩:=o.ali y e g m (by rw[<- P];exact W) (by rw[<- T];exact Z) C j c d' (by rw[<- Q];exact q) aa;exact⟨u,l,k2.mono keep⟩ }
def Hu{a nv:Nat}{b:Bool}{d:Option D}(c:∀x,d=some x->eZ x=true):Et a nv b d=none:=by
 cases d with
 | none=>rfl
 | some x =>
  have:=c x rfl;cases x<;>first|rfl|cases this
def Ep{x s:Nat}{a:List D}(b:∀d∈a,eZ d=true):a.mapIdx (vB x s)=a:=by
 refine ame fun j =>?_;rw[amj];cases c:a[j]? with
 | none=>rfl
 | some d=>rw[akp,kK (b d (akG c))]
def adw{x ty s nv:Nat}{r:Row}(c:h x=some r)(f:r.mp=false)(b:x<PK)(hd:∀d∈r.cells,eZ d=true):EH (ca h x (some ⟨r.v,r.ty,[.nr ty s nv r.cells],r.fz,r.lst,true⟩))=ca (EH h) x (some { r with mp:=true }):=by
 have a:ca h x (some (⟨r.v,r.ty,[.nr ty s nv r.cells],r.fz,r.lst,true⟩:Row)) x=some ⟨r.v,r.ty,[.nr ty s nv r.cells],r.fz,r.lst,true⟩:=aB _ _ _;funext k
 by_cases hk:rt k=x
 rotate_left
 ·rw[aC _ _ (fun e=>hk (by rw[e,iV (by have:=eD;omega)]))];exact eC (by rw[aC _ _ hk])
 rcases pB hk with rfl|⟨o,rfl⟩
 ·rw[aB,gH a rfl rfl b,Ep hd]
 ·rw[aC _ _ (by have:=iz x o;have:=eD;omega),eY a rfl rfl b,sH b,c,alC];rw[Hu fun d g=>hd d (akG g)];unfold tx;rw[if_neg (by simp[f])]
def XL{x v a j s nv:Nat}{f b:Bool}{c:List D}(l:h x=some ⟨v,a,[.nr j s nv c],f,b,true⟩)(i:x<PK)(hd:∀d∈c,eZ d=true):EH (ca h x (some ⟨v,a,c,f,b,false⟩))=ca (EH h) x (some ⟨v,a,c,f,b,false⟩):=by
 have g:ca h x (some (⟨v,a,c,f,b,false⟩:Row)) x=some ⟨v,a,c,f,b,false⟩:=aB _ _ _;funext k
 by_cases hk:rt k=x
 rotate_left
 ·rw[aC _ _ (fun e=>hk (by rw[e,iV (by have:=eD;omega)]))];exact eC (by rw[aC _ _ hk])
 rcases pB hk with rfl|⟨o,rfl⟩
 ·rw[aB,sJ (by have:=eD;omega),g];rfl
 ·rw[aC _ _ (by have:=iz x o;have:=eD;omega),eY l rfl rfl i,sH i,g,alC,Hu fun d m=>hd d (akG m)];rfl
def Holds.next(g:Holds N M L w0 ⟨t,h,e⟩ a w):Holds N M L w0 ⟨t,h,e+1⟩ a w:=by
 obtain⟨blk,d⟩:=g;refine⟨blk,d.inv.weaken fun x v b =>?_,fun x r i s nv j k l m n =>?_⟩
 ·rcases b with⟨c,b|⟨b,_⟩⟩|⟨c,f,p,o⟩
  ·exact .inl ⟨c,.inl (by simp only at b ⊢;omega)⟩
  ·exact .inl ⟨c,.inl (by simp only at b ⊢;omega)⟩
  ·exact .inr ⟨c,by simp only at f ⊢;omega,fun _=>by simp only at f ⊢;omega,o⟩
 ·have:=d.nv x r i s nv j k l m n;exact⟨by simp only at this ⊢;omega,fun _=>by simp only at this ⊢;omega⟩
def Holds.mark(H:Holds N M L w0 ⟨t,h,e⟩ a w){x ty s:Nat}{r:Row}(u:h x=some r)(z:r.mp=false)(I:x<PK)(A:∀d∈r.cells,eZ d=true) :
  Holds N M L w0 ⟨t,ca h x (some ⟨r.v,r.ty,[.nr ty s (4*e+1) r.cells],r.fz,r.lst,true⟩),e⟩ a w:=by
 obtain⟨blk,B⟩:=H;have C:=B.inv;have E:=B.nv;simp only at C E;have l:EH h x=some r:=by rw[sJ (by have:=eD;omega),u];simp[Fc,z]
 have F:=C.mark true l A;rw[<- adw (ty:=ty) (s:=s) (nv:=4*e+1) u z I A]at F;refine⟨blk,F.weaken fun y v m =>?_,fun y n b o c f g p i q =>?_⟩
 ·rcases m with m|⟨g,p,i,q⟩
  ·exact .inl m
  ·refine .inr ⟨g,p,i,fun n b o c f j J G =>?_⟩;simp only at j
   by_cases k:y % PK=x
   ·rw[k,aB]at j;cases j;simp only[akD,D.nr.injEq,and_true]at G;have:=i (by simp);omega
   ·rw[aC _ _ k]at j;exact q n b o c f j J G
 ·simp only at g ⊢
  by_cases k:y=x
  ·subst k;rw[aB]at g;cases g;simp only[akD,D.nr.injEq,and_true]at i;exact⟨by omega,fun _=>by omega⟩
  ·rw[aC _ _ k]at g;exact E y n b o c f g p i q
def Holds.settle(J:Holds N M L w0 ⟨t,h,e⟩ a w){x v i o s nv n j:Nat}{k:Bool}{l r:List D}(u:h x=some ⟨v,i,[.nr o s nv l],false,k,true⟩)(G:x<PK)(K:l[j]? = some (.nx n r))(z:r.length=n*s) :
  Holds N M L w0 ⟨t,ca h x (some ⟨v,i,[.nr o s nv (l.set j (.sl false false n r))],false,k,true⟩),e⟩ a w:=by
 obtain⟨blk,H⟩:=J;have A:=H.nv;simp only at A;have O:=(H.inv.abo u rfl rfl rfl G K z).1;refine⟨blk,O.weaken fun y v B =>?_,fun y C b E c d f F p q =>?_⟩
 ·rcases B with B|⟨f,F,p,q⟩
  ·exact .inl B
  ·refine .inr ⟨f,F,p,fun C b E c d m P I =>?_⟩;simp only at m
   by_cases g:y % PK=x
   ·rw[g,aB]at m;cases m;simp only[akD,D.nr.injEq,and_true]at I;have:=q _ o s nv l (by rw[g];exact u) rfl rfl;omega
   ·rw[aC _ _ g]at m;exact q C b E c d m P I
 ·simp only at f ⊢
  by_cases g:y=x
  ·subst g;rw[aB]at f;cases f;simp only[akD,D.nr.injEq,and_true]at p;have:=A y _ o s nv l u rfl rfl G;exact⟨by omega,fun z=>by have:=this.2 z;omega⟩
  ·rw[aC _ _ g]at f;exact A y C b E c d f F p q
def Holds.ag3(K:Holds N M L w0 ⟨t,h,e⟩ a w){x v b O s nv:Nat}{o c:Bool}{m:List D}(C:h x=some ⟨v,b,[.nr O s nv m],o,c,true⟩)(E:x<PK)(p:∀d∈m,eZ d=true) :
  Holds N M L w0 ⟨t,ca h x (some ⟨v,b,m,o,c,false⟩),e⟩ a w:=by
 obtain⟨blk,F⟩:=K;have G:=F.inv;have H:=F.nv;simp only at G H;have q:EH h x=some ⟨v,b,m,o,c,true⟩:=by rw[gH C rfl rfl E,Ep p]
 have I:=G.mark false q p;rw[<- XL C E p]at I;refine⟨blk,I.weaken fun y Q r =>?_,fun y u f z g i j n A B =>?_⟩
 ·rcases r with r|⟨j,n,A,B⟩
  ·exact .inl r
  ·refine .inr ⟨j,n,A,fun u f z g i k J P =>?_⟩;simp only at k
   by_cases l:y % PK=x
   ·rw[l,aB]at k;cases k;cases J
   ·rw[aC _ _ l]at k;exact B u f z g i k J P
 ·simp only at j ⊢
  by_cases l:y=x
  ·subst l;rw[aB]at j;cases j;cases n
  ·rw[aC _ _ l]at j;exact H y u f z g i j n A B
end
end Go.Proofs.YtobnihfgnbnncaaGreat.Am
namespace Go.Proofs.YtobnihfgnbnncaaGreat.Am
open Go.RowKit Go.Proofs.YtobnihfgnbnncaaGreat.P
set_option maxRecDepth 100000
set_option maxHeartbeats 4000000
def yN(a b:Code):lX 0 (.seq a b)=b:=rfl
def yM(k:Nat)(a b:Code):lX (k+1) (.seq a b)=lX k b:=rfl
def G8:Code->Code
 | .seq a _=>a
 | c=>c
def G9(a b:Code):G8 (.seq a b)=a:=rfl
def RS{T:Nat->Option Ty}{Γ:Env}{n F:Nat}{K:Kt}{t:Nat->D}{h:Nat->Option Row}{e:Nat}{a:Func}{c:Code}{g:Code->Code}(b:a.body=some c)(d:a.ntmps=n)(f:dr T Γ n F [.code (g c)] K .normal t h e):dr T Γ a.ntmps F [.code (g (uK a))] K .normal t h e:=by
 unfold uK;rw[b,d];exact f
def aeA{T:Nat->Option Ty}{Γ:Env}{n F k:Nat}{t:Nat->D}{h:Nat->Option Row}{e:Nat}{a:Func}{c:Code}{b:List ResultVar}{r:RK×Option Row}{J:(Nat->D)->(Nat->Option Row)->Nat->Prop}(d:a.body=some c)(f:a.ntmps=n)(g:a.results=b.toArray)(i:dr T Γ n F [.code (lX k c)] (tn T b r J) .normal t h e):dr T Γ a.ntmps F [.code (lX k (uK a))] (tn T a.results.toList r J) .normal t h e:=by
 unfold uK;rw[d,f,g];exact i
def Qa:Env:=(Am.ext bq 21 false cH)
def abu:bU prog Qa:=bU.none.add kg false
def adr:=ai @w<|ai @vnp<|ai @IV<|ai @cH.eq_1<|@Qa.eq_1
section
variable {t:Nat->D} {h:Nat->Option Row} {e nv v16 len:Nat} {q:List ak} {pre post:List D} {m k n:Int}
def ahN{l:List (List ak)}(j:nv<=4*e)(p:P.idx l m=some q)(d:m.toNat*1=pre.length)(n:q.length*64<=140737488351232)(t1:t 1=.sl false false l.length (al (dW ah) l))(t15:t 15=.int .i64 m)(t16:t 16=.buf 16 v16 1 0 l.length)
  (f:h 16=some ⟨v16,27,[.nr 41 4 nv (pre++([.sl false false q.length (al ah q)]++post))],false,true,true⟩) :
  dr tab Qa Tryz.f6.ntmps FU [.code (G8 (lX 6 (uK Tryz.f6)))] (fun x t' h' r=>x=.normal∧r=e+1∧(∀i,i<60->t' i=t i)∧h' 5=h 5 ∧
   h' 16=some ⟨v16,27,[.nr 41 4 (4*e+1) (pre++(.nx q.length (al ah q)::post))],false,true,true⟩) .normal t h e:=by
 refine RS (g:=fun c=>G8 (lX 6 c)) rfl ntmps6 ?_;simp only[yM,yN,G9];have k:=bg (dW ah) p;simp only[bM]at k;have o:=jO j;have s:q.length<=maxLen∧q.length*64<=140737488355328:=⟨by unfold maxLen;omega,by omega⟩;have u:(al ah q).length=q.length*4:=by rw[bF];rfl
 have v:∀(a:D),pre.length+1<=(pre++a::post).length:=fun a=>by simp
 have w:∀(a b:D),putCells (pre++a::post) pre.length [b]=pre++b::post:=fun a b=>by
  unfold putCells;rw[List.take_left,alZ,alL];simp
 simp only[adr,seval,t1,t15,t16,f,k,o];refine⟨s,?_⟩;simp only[adr,seval,t1,t15,t16,f,k,o,u,v,w,d];intro i y;repeat rw[if_neg (by omega)]
def ahO{x y:ak}{j:Int}(f:nv<=4*e)(d:m.toNat*1=pre.length)(u:0<=m∧m<(len:Int))(v:gm (IntKind.i64.wrap n)=some x)(w:j=(IntKind.i64.wrap k).tmod (q.length:Int))(l:P.idx q j=some y)(t3:t 3=.int .u8 k)(t4:t 4=.int .u16 n)(t15:t 15=.int .i64 m)(t16:t 16=.buf 16 v16 1 0 len)
  (o:h 16=some ⟨v16,27,[.nr 41 4 nv (pre++(.nx q.length (al ah q)::post))],false,true,true⟩) :
  dr tab Qa Tryz.f6.ntmps FU [.code (G8 (lX 7 (uK Tryz.f6)))] (fun x' t' h' z=>x'=.normal∧z=e+1∧(∀i,i<60->t' i=t i)∧h' 5=h 5 ∧
   h' 16=some ⟨v16,27,[.nr 41 4 nv (pre++(.nx q.length (al ah (q.set j.toNat x))::post))],false,true,true⟩) .normal t h e:=by
 refine RS (g:=fun c=>G8 (lX 7 c)) rfl ntmps6 ?_;simp only[yM,yN,G9];have A:=jO f;have B:∀(a:D),pre.length+1<=(pre++a::post).length:=fun a=>by simp
 have C:∀(a b:D),putCells (pre++a::post) pre.length [b]=pre++b::post:=fun a b=>by
  unfold putCells;rw[List.take_left,alZ,alL];simp
 have s:=bg ah l;have p:=oZ l;have r:=RZ ah (x':=x) l;simp only[bM]at s r;have E:¬(q.length:Int)=0:=by omega
 simp only[adr,seval,t3,t4,t15,t16,o,A,v,u,d,B,C,E,<- w,s,p];simp only[putCells,List.length_cons,List.length_nil,alf,Nat.reduceAdd,alZ,List.cons_append,List.nil_append]at r;refine bP (by kernel_rfl) ⟨fun i F =>?_,by rw[r]⟩;repeat rw[if_neg (by omega)]
def Z3(R:aU->Bool->List (List ak)->List ak->Int->List (List ak)->Option Bool)(Γ:Env):Prop:=∀(a:aU)(d:Bool)(b:List (List ak))(c:List ak)(m:Int)(l:List (List ak))(r:Bool)(t:Nat->D)(H:Nat->Option Row)(e f v16:Nat),R a d b c m l=some r ->
 t 5=.ptr 5 f 0->t 11=.bool d->t 12=.sl false false b.length (al (dW ah) b)->t 13=.sl false false c.length (al ah c)->t 15=.int .i64 m->t 16=.buf 16 v16 1 0 l.length ->
 H 5=some ⟨f,25,[.sl false false a.av.length (al (eI .i64) a.av),.sl false false a.an.length (al bm a.an)],false,false,false⟩->H 16=some ⟨v16,27,al (dW ah) l,false,true,false⟩ ->
 dr tab Γ Tryz.f6.ntmps FU [.code (lX 8 (uK Tryz.f6))] (tn tab Tryz.f6.results.toList (.clean (.bool r),none) fun _ _ _=>False) .normal t H e
def ZN(R:aU->Bool->List (List ak)->List ak->Int->List (List ak)->Option Bool)(r:Bool)(t:Nat->D)(h:Nat->Option Row)(e:Nat):Prop:=∃(a:aU)(l:List (List ak))(k n:Int)(d:Bool)(b:List (List ak))(c:List ak)(m:Int)(f v16:Nat),
 t 1=.sl false false l.length (al (dW ah) l)∧t 3=.int .u8 k∧t 4=.int .u16 n∧t 5=.ptr 5 f 0∧t 11=.bool d∧t 12=.sl false false b.length (al (dW ah) b)∧t 13=.sl false false c.length (al ah c)∧t 15=.int .i64 m∧t 16=.buf 16 v16 1 0 l.length ∧
 h 5=some ⟨f,25,[.sl false false a.av.length (al (eI .i64) a.av),.sl false false a.an.length (al bm a.an)],false,false,false⟩∧h 16=some ⟨v16,27,al (dW ah) l,false,true,false⟩∧ME R a l k n d b c m=some r
def YM{l:List (List ak)}{m:Int}{q:List ak}(h:P.idx l m=some q):al (dW ah) l=al (dW ah) (l.take m.toNat)++([.sl false false q.length (al ah q)]++al (dW ah) (l.drop (m.toNat+1))):=by
 have a:=(bg (dW ah) h).2.1;have c:(dW ah).size=1:=rfl;have d:(dW ah).cells q=[.sl false false q.length (al ah q)]:=rfl;have b:=jn (e:=dW ah) l m.toNat;rw[c]at a b;rw[d]at a;rw[<- b,<- a,alS]
def ab1{l:List (List ak)}{m:Int}{q q':List ak}(h:P.idx l m=some q):al (dW ah) (l.set m.toNat q')=al (dW ah) (l.take m.toNat)++(.sl false false q'.length (al ah q')::al (dW ah) (l.drop (m.toNat+1))):=by
 have a:=oZ h;rw[List.set_eq_take_append_cons_drop,if_pos (by omega),iC,b9];rfl
def Hq{α:Type}{E:iK α}:∀l:List (List α),∀d∈al (dW E) l,eZ d=true
 | [],d,h=>by cases h
 | q::l,d,h=>by
  rw[b9]at h;rcases alv.1 h with h|h
  ·have a:(dW E).cells q=[.sl false false q.length (al E q)]:=rfl;rw[a]at h;rw[akC.1 h];rfl
  ·exact Hq l d h
def Th{R:aU->Bool->List (List ak)->List ak->Int->List (List ak)->Option Bool}{Γ:Env}(S:bU prog Γ)(T:Z3 R Γ)(r:Bool):FG prog Tryz.f6 (lX 6 (uK Tryz.f6)) (.clean (.bool r)) (ZN R r):=by
 intro w0 M s a w U V;obtain⟨t,h,e⟩:=s;obtain⟨W,l,k,n,X,Y,Z,m,v5,v16,t1,t3,t4,t5,t11,t12,t13,t15,t16,Q,p,c⟩:=U;dsimp only at t1 t3 t4 t5 t11 t12 t13 t15 t16 Q p;unfold ME at c;obtain⟨q,C,c⟩:=ae c;obtain⟨x,hx,c⟩:=ae c;obtain⟨y,hy,c⟩:=ae c;split at c;rotate_left
 ·cases c
 rename_i u;have aa:=eD;have hb:=oZ C;have i:m.toNat*1=(al (dW ah) (l.take m.toNat)).length:=by
  rw[bF,aky,amc (by omega)];rfl
 have v:=(V.mark (ty:=41) (s:=4) p rfl (by omega) (Hq l)).next;simp only[YM C]at v;refine wp_seq (sZ tok abu mixed v (by kernel_rfl) (ahN (nv:=4*e+1) (by omega) C i u t1 t15 t16 (aB _ _ _)) fun x1 ab ad ag a1 w1 E F =>?_);obtain⟨rfl,rfl,g,k5,G⟩:=E;refine wp_seq (sZ tok abu mixed F (by kernel_rfl) (ahO (len:=l.length) (k:=k) (n:=n) (m:=m) (by omega) i hb hx rfl hy (by rw[g 3 (by omega)];exact t3) (by rw[g 4 (by omega)];exact t4) (by rw[g 15 (by omega)];exact t15) (by rw[g 16 (by omega)];exact t16) G) fun x2 ai aj an a2 w2 H I =>?_);obtain⟨rfl,rfl,b,J,f⟩:=H;generalize K:q.set ((IntKind.i64.wrap k).tmod (q.length:Int)).toNat x=q' at c f;have L:q'.length=q.length:=by rw[<- K];simp
 rw[<- L]at f;have z:=I.settle (j:=(al (dW ah) (l.take m.toNat)).length) f (by omega) (by rw[ak7 (aki _),aln];rfl) (by rw[bF];rfl);have es:∀(A B:List D)(d N:D),(A++d::B).set A.length N=A++N::B:=fun A B d N=>by
  rw[List.set_append_right _ _ (aki _),aln];rfl
 rw[es,<- ab1 (q':=q') C]at z;have O:=z.ag3 (aB _ _ _) (by omega) (Hq _);refine sZ tok S mixed O (by kernel_rfl) (T W X Y Z m _ r _ _ _ v5 v16 c ?_ ?_ ?_ ?_ ?_ ?_ ?_ (aB _ _ _)) fun x3 ao aq ar a3 w3 o P =>?_
 ·rw[b 5 (by omega),g 5 (by omega)];exact t5
 ·rw[b 11 (by omega),g 11 (by omega)];exact t11
 ·rw[b 12 (by omega),g 12 (by omega)];exact t12
 ·rw[b 13 (by omega),g 13 (by omega)];exact t13
 ·rw[b 15 (by omega),g 15 (by omega)];exact t15
 ·rw[b 16 (by omega),g 16 (by omega),amb];exact t16
 ·rw[aC _ _ (by omega),aC _ _ (by omega),J,k5,aC _ _ (by omega)];exact Q
 cases x3 with
 | normal=>exact o.elim
 | exit n=>exact o.elim
 | ret=>exact CH tok P o
end
def y3(l:Option (D×Row))(d:List D):=ew (fV (bT je) (dO (bT je))) (fun x:aN×aN=>zb x.1 x.2) (fun r:aN×Int =>.clean (.tup [.agg [.int .i64 r.1.aq,.sl false false r.1.aa.length (al (eI .i64) r.1.aa)],.int .i64 r.2])) l d
def CR:Env:=(Am.ext (Am.ext (Am.ext (Am.ext bq 103 false bV) 113 false cM) 114 false mZ) 154 false ss)
def TU:bU prog CR:=((((bU.none.add iw false).add kT false).add tC false).add HM false)
def qw:=ai @w<|ai @IW<|ai @bV.eq_1<|ai @ZM<|ai @cM.eq_1<|ai @gN<|ai @W2<|ai @ss.eq_1<|@CR.eq_1
def Ui:cn prog 112 y3:=cn.jB (mode:=.clean) tok TU mixed func112 (by kernel_rfl) (fun _ _=>rfl) (fun _=>by kernel_rfl) fun⟨i,j⟩ r a=>by
 replace a:zb i j=some r:=a;apply aL rfl ntmps112 results112;simp only[jD];unfold zb at a;obtain⟨w,k,a⟩:=ae a;simp only[qw,seval,k];obtain⟨u,l,a⟩:=ae a;refine cK 0 (fun s t H e=>match s with|b=>∃c:Nat,∃d:Nat,∃f:Nat,t 2=.ptr 2 c 0∧t 3=.ptr 3 d 0∧t 4=.ptr 4 f 0∧t 13=.bool b∧H 2=rV c 39 [sN i.aq,sI i.aa]∧H 3=rV d 39 [sN j.aq,sI j.aa]∧H 4=rV f 39 [sN 0,.sl true true 0 []]) (fun s=>s=u) ?_ ?_
 ·rintro b t H e ⟨c,d,f,g⟩ rfl;try dsimp only at a
  simp only[qw,seval,g];apply sp aw a<;>intro _ a
  ·have q:=gN false 0 ([]);simp only[bM]at q;obtain⟨x,m,a⟩:=ae a;cases a;simp only[qw,seval,g,q,m]
  ·obtain⟨y,n,a⟩:=ae a;obtain⟨z,o,a⟩:=ae a;obtain⟨A,p,a⟩:=ae a;simp only[qw,seval,g,n,o,p];refine bP (by kernel_rfl) ?_;cases a;simp only[seval]
 ·clear a;have a:=l;simp only[qw,seval];apply sp bL a<;>intro _ a
  ·cases a;simp only[qw,seval];rw[aG];refine⟨_,rfl,?_⟩;refine⟨0,0,0,?_,?_,?_,?_,?_,?_,?_⟩;all_goals (rfl)
  ·obtain⟨v,h,a⟩:=ae a;cases a;simp only[qw,seval,h];rw[aG];refine⟨_,rfl,?_⟩;refine⟨0,0,0,?_,?_,?_,?_,?_,?_,?_⟩;all_goals (rfl)
def eN(l:Option (D×Row))(d:List D):=ew (fV (bT je) (dO (bT je))) (fun x:aN×aN=>cW x.1 x.2) (fun r:aN =>.clean (.agg [.int .i64 r.aq,.sl false false r.aa.length (al (eI .i64) r.aa)])) l d
def wz:Env:=(Am.ext bq 112 false y3)
def Je:bU prog wz:=(bU.none.add Ui false)
def Ol:=ai @w<|ai @L1<|ai @y3.eq_1<|@wz.eq_1
def qN:cn prog 60 eN:=cn.jB (mode:=.clean) tok Je mixed func60 (by kernel_rfl) (fun _ _=>rfl) (fun _=>by kernel_rfl) fun⟨c,d⟩ r a=>by
 replace a:cW c d=some r:=a;apply aL rfl ntmps60 results60;simp only[jD];unfold cW at a;obtain⟨e,b,a⟩:=ae a;cases a;simp only[Ol,seval,b]
def Bl(l:Option (D×Row))(d:List D):=ew (dO (kb (eI .i64))) (fun x:(List Int)=>xO x) (fun r:Int =>.clean (.int .i64 r)) l d
def LA:cn prog 115 Bl:=cn.jB (mode:=.clean) tok bU.none mixed func115 (by kernel_rfl) (fun _ _=>rfl) (fun _=>by kernel_rfl) fun h r a=>by
 replace a:xO h=some r:=a;apply aL rfl ntmps115 results115;simp only[jD];unfold xO at a;simp only[w,seval];obtain⟨l,i,a⟩:=ae a;refine aD (fun s t H e=>match s with|b=>t 3=sN 0∧t 6=sI h∧t 7=sN (h.length:Int)∧t 8=sN b) (fun o x t H e=>match o with|(.inl _)=>x=.exit 0∧t 3=sN 0|(.inr r)=>x=.ret∧gE .clean tab none [.tmp 2] ⟨t,EH H,e⟩=some (.clean (.int .i64 r),none)) i ?_ ?_ ?_
 ·refine⟨?_,?_,?_,?_⟩;all_goals (rfl)
 ·rintro b t H e d c a;simp only[zf]at a;simp only[w,seval,d];apply sp aw a<;>intro _ a
  ·obtain⟨n,j,a⟩:=ae a;have f:=bg (eI .i64) j;simp only[bM]at f;simp only[w,seval,d,f];apply sp aw a<;>intro _ a
   ·cases a;simp only[w,seval];refine tU ⟨rfl,?_⟩;simp only[w,seval]
   ·cases a;simp only[w,seval,d];apply ij;and_intros<;>first|rfl|(simp only[w,seval,d]<;>rfl)
  ·cases a;simp only[w,seval];apply jN;refine⟨rfl,?_⟩;all_goals ((simp only[w,seval,d]<;>rfl))
 ·rintro x t H e g;rcases l with _|p
  ·dsimp only at g a;obtain⟨rfl,k⟩:=g;cases a;simp only[w,seval,k]
  ·dsimp only at g a;obtain⟨rfl,m⟩:=g;cases a;simp only[a8,bj,cD,cZ];exact m
def yX(l:Option (D×Row))(d:List D):=ew (fV (bT je) (dO (bT je))) (fun x:aN×aN=>y9 x.1 x.2) (fun r:aN×Int =>.clean (.tup [.agg [.int .i64 r.1.aq,.sl false false r.1.aa.length (al (eI .i64) r.1.aa)],.int .i64 r.2])) l d
def R0(a:(List Int)):Bl none [.sl false false a.length (al (eI .i64) a)]=(xO a).map fun r:Int=>(.clean (.int .i64 r),none):=cJ _ _ _ (a)
def CN:Env:=(Am.ext (Am.ext (Am.ext (Am.ext (Am.ext (Am.ext (Am.ext bq 103 false bV) 111 false fX) 113 false cM) 114 false mZ) 115 false Bl) 116 false sr) 117 false pS)
def TQ:bU prog CN:=(((((((bU.none.add iw false).add tD false).add kT false).add tC false).add LA false).add HK false).add HN false)
def ka:=ai @w<|ai @IW<|ai @bV.eq_1<|ai @W2<|ai @fX.eq_1<|ai @ZM<|ai @cM.eq_1<|ai @gN<|ai @sr.eq_1<|ai @pS.eq_1<|@CN.eq_1
def Uf:cn prog 62 yX:=cn.jB (mode:=.clean) tok TQ mixed func62 (by kernel_rfl) (fun _ _=>rfl) (fun _=>by kernel_rfl) fun⟨u,v⟩ r a=>by
 replace a:y9 u v=some r:=a;apply aL rfl ntmps62 results62;simp only[jD];unfold y9 at a;obtain⟨P,w,a⟩:=ae a;simp only[ka,seval,w];obtain⟨D,x,a⟩:=ae a;refine cK 0 (fun s t H e=>match s with|c=>∃d:Nat,∃f:Nat,∃g:Nat,t 2=.ptr 2 d 0∧t 3=.ptr 3 f 0∧t 4=.ptr 4 g 0∧t 13=.bool c∧H 2=rV d 39 [sN u.aq,sI u.aa]∧H 3=rV f 39 [sN v.aq,sI v.aa]∧H 4=rV g 39 [sN 0,.sl true true 0 []]) (fun s=>s=D) ?_ ?_
 ·rintro c t H e ⟨d,f,g,b⟩ rfl;try dsimp only at a
  simp only[ka,seval,b];apply sp aw a<;>intro _ a
  ·have B:=gN false 0 ([]);simp only[bM]at B;obtain⟨Q,y,a⟩:=ae a;cases a;simp only[ka,seval,b,B,y]
  ·simp only[ka,seval,b];apply sp aw a<;>intro _ a
   ·have C:=R0 ([u.aq,v.aq]);simp only[b9,bM,List.length_cons,alf,Nat.reduceAdd]at C;obtain⟨R,z,a⟩:=ae a;obtain⟨S,A,a⟩:=ae a;obtain⟨E,h,a⟩:=ae a;obtain⟨F,i,a⟩:=ae a;simp only[ka,seval,b,C,z,A,h,i];refine bP (by kernel_rfl) ?_;cases a;simp only[seval]
   ·obtain⟨G,j,a⟩:=ae a;simp only[ka,seval,b,j];apply sp aw a<;>intro _ a
    ·obtain⟨I,k,a⟩:=ae a;obtain⟨J,l,a⟩:=ae a;obtain⟨K,m,a⟩:=ae a;simp only[ka,seval,b,k,l,m];refine bP (by kernel_rfl) ?_;cases a;simp only[seval]
    ·obtain⟨L,n,a⟩:=ae a;obtain⟨M,o,a⟩:=ae a;obtain⟨N,p,a⟩:=ae a;simp only[ka,seval,b,n,o,p];refine bP (by kernel_rfl) ?_;cases a;simp only[seval]
 ·clear a;have a:=x;simp only[ka,seval];apply sp bL a<;>intro _ a
  ·cases a;simp only[ka,seval];rw[aG];refine⟨_,rfl,?_⟩;refine⟨0,0,0,?_,?_,?_,?_,?_,?_,?_⟩;all_goals (rfl)
  ·obtain⟨O,q,a⟩:=ae a;cases a;simp only[ka,seval,q];rw[aG];refine⟨_,rfl,?_⟩;refine⟨0,0,0,?_,?_,?_,?_,?_,?_,?_⟩;all_goals (rfl)
def gA(l:Option (D×Row))(d:List D):=ew (fV (bT ah) (dO (bT ah))) (fun x:ak×ak=>nk x.1 x.2) (fun r:ak×Int =>.clean (.tup [.agg [.int .i64 r.1.bX.aq,.sl false false r.1.bX.aa.length (al (eI .i64) r.1.bX.aa),.int .i64 r.1.b8.aq,.sl false false r.1.b8.aa.length (al (eI .i64) r.1.b8.aa)],.int .i64 r.2])) l d
def tV{β:Type}{F:ak×ak->Option β}{R:β->RK}(e:Int)(a:(List Int))(f:Int)(b:(List Int))(g:Int)(c:(List Int))(h:Int)(d:(List Int)):ew (fV (bT ah) (dO (bT ah))) F R none [.agg [.int .i64 e,.sl false false a.length (al (eI .i64) a),.int .i64 f,.sl false false b.length (al (eI .i64) b)],.agg [.int .i64 g,.sl false false c.length (al (eI .i64) c),.int .i64 h,.sl false false d.length (al (eI .i64) d)]]=(F ((ak.mk (aN.mk e a) (aN.mk f b)),(ak.mk (aN.mk g c) (aN.mk h d)))).map fun r=>(R r,none):=cJ _ _ _ ((ak.mk (aN.mk e a) (aN.mk f b)),(ak.mk (aN.mk g c) (aN.mk h d)))
def AE:Env:=(Am.ext (Am.ext (Am.ext (Am.ext bq 54 false bh) 60 false eN) 62 false yX) 63 false gC)
def Qc:bU prog AE:=((((bU.none.add fm false).add qN false).add Uf false).add uA false)
def l7:=ai @w<|ai @kJ<|ai @bh.eq_1<|ai @L1<|ai @eN.eq_1<|ai @yX.eq_1<|ai @gC.eq_1<|@AE.eq_1
def uw:cn prog 23 gA:=cn.jB (mode:=.clean) tok Qc mixed func23 (by kernel_rfl) (fun _ _=>rfl) (fun _=>by kernel_rfl) fun⟨h,i⟩ r a=>by
 replace a:nk h i=some r:=a;apply aL rfl ntmps23 results23;simp only[jD];unfold nk at a;obtain⟨w,k,a⟩:=ae a;simp only[l7,seval,k];obtain⟨u,l,a⟩:=ae a;refine cK 0 (fun s t H e=>match s with|b=>∃c:Nat,∃d:Nat,∃f:Nat,t 2=.ptr 2 c 0∧t 3=.ptr 3 d 0∧t 4=.ptr 4 f 0∧t 15=.bool b∧H 2=rV c 41 [sN h.bX.aq,sI h.bX.aa,sN h.b8.aq,sI h.b8.aa]∧H 3=rV d 41 [sN i.bX.aq,sI i.bX.aa,sN i.b8.aq,sI i.b8.aa]∧H 4=rV f 41 [sN 0,.sl true true 0 [],sN 0,.sl true true 0 []]) (fun s=>s=u) ?_ ?_
 ·rintro b t H e ⟨c,d,f,g⟩ rfl;try dsimp only at a
  simp only[l7,seval,g];apply sp aw a<;>intro _ a
  ·cases a;simp only[l7,seval,g]
  ·obtain⟨x,m,a⟩:=ae a;obtain⟨y,n,a⟩:=ae a;obtain⟨z,o,a⟩:=ae a;simp only[l7,seval,g,m,n,o];refine bP (by kernel_rfl) ?_;obtain⟨A,p,a⟩:=ae a;obtain⟨B,q,a⟩:=ae a;simp only[l7,seval,g,p,q];refine bP (by kernel_rfl) ?_;cases a;simp only[seval]
 ·clear a;have a:=l;simp only[l7,seval];apply sp bL a<;>intro _ a
  ·cases a;simp only[l7,seval];rw[aG];refine⟨_,rfl,?_⟩;refine⟨0,0,0,?_,?_,?_,?_,?_,?_,?_⟩;all_goals (rfl)
  ·obtain⟨v,j,a⟩:=ae a;cases a;simp only[l7,seval,j];rw[aG];refine⟨_,rfl,?_⟩;refine⟨0,0,0,?_,?_,?_,?_,?_,?_,?_⟩;all_goals (rfl)
def pT(l:Option (D×Row))(d:List D):=ew (fV (bT ah) (dO (bT ah))) (fun x:ak×ak=>sj x.1 x.2) (fun r:ak =>.clean (.agg [.int .i64 r.bX.aq,.sl false false r.bX.aa.length (al (eI .i64) r.bX.aa),.int .i64 r.b8.aq,.sl false false r.b8.aa.length (al (eI .i64) r.b8.aa)])) l d
def CY:Env:=(Am.ext bq 23 false gA)
def T1:bU prog CY:=(bU.none.add uw false)
def ZK:=ai @w<|ai @tV<|ai @gA.eq_1<|@CY.eq_1
def HU:cn prog 120 pT:=cn.jB (mode:=.clean) tok T1 mixed func120 (by kernel_rfl) (fun _ _=>rfl) (fun _=>by kernel_rfl) fun⟨c,d⟩ r a=>by
 replace a:sj c d=some r:=a;apply aL rfl ntmps120 results120;simp only[jD];unfold sj at a;obtain⟨e,b,a⟩:=ae a;cases a;simp only[ZK,seval,b]
def qz(l:Option (D×Row))(d:List D):=ew (fV (bT je) (dO (bT je))) (fun x:aN×aN=>og x.1 x.2) (fun r:Int =>.clean (.int .i64 r)) l d
def uO:Env:=(Am.ext (Am.ext (Am.ext bq 103 false bV) 110 false dZ) 111 false fX)
def GO:bU prog uO:=(((bU.none.add iw false).add pq false).add tD false)
def gP:=ai @w<|ai @IW<|ai @bV.eq_1<|ai @Ot<|ai @dZ.eq_1<|ai @W2<|ai @fX.eq_1<|@uO.eq_1
def HH:cn prog 59 qz:=cn.jB (mode:=.clean) tok GO mixed func59 (by kernel_rfl) (fun _ _=>rfl) (fun _=>by kernel_rfl) fun⟨g,h⟩ r a=>by
 replace a:og g h=some r:=a;apply aL rfl ntmps59 results59;simp only[jD];unfold og at a;obtain⟨o,i,a⟩:=ae a;simp only[gP,seval,i];obtain⟨n,j,a⟩:=ae a;refine cK 0 (fun s t H e=>match s with|b=>∃c:Nat,∃d:Nat,t 2=.ptr 2 c 0∧t 3=.ptr 3 d 0∧t 12=.bool b∧H 2=rV c 39 [sN g.aq,sI g.aa]∧H 3=rV d 39 [sN h.aq,sI h.aa]) (fun s=>s=n) ?_ ?_
 ·rintro b t H e ⟨c,d,f⟩ rfl;try dsimp only at a
  simp only[gP,seval,f];apply sp aw a<;>intro _ a
  ·cases a;simp only[gP,seval]
  ·simp only[gP,seval,f];apply sp aw a<;>intro _ a
   ·obtain⟨p,k,a⟩:=ae a;cases a;simp only[gP,seval,f,k]
   ·obtain⟨q,l,a⟩:=ae a;simp only[gP,seval,f,l];refine bP (by kernel_rfl) ?_;cases a;simp only[seval]
 ·clear a;have a:=j;simp only[gP,seval];apply sp bL a<;>intro _ a
  ·cases a;simp only[gP,seval];rw[aG];refine⟨_,rfl,?_⟩;refine⟨0,0,?_,?_,?_,?_,?_⟩;all_goals (rfl)
  ·obtain⟨u,m,a⟩:=ae a;cases a;simp only[gP,seval,m];rw[aG];refine⟨_,rfl,?_⟩;refine⟨0,0,?_,?_,?_,?_,?_⟩;all_goals (rfl)
def oM(l:Option (D×Row))(d:List D):=ew (fV (bT ah) (dO (bT ah))) (fun x:ak×ak=>kl x.1 x.2) (fun r:Int =>.clean (.int .i64 r)) l d
def tr:Env:=(Am.ext (Am.ext (Am.ext bq 54 false bh) 59 false qz) 60 false eN)
def EZ:bU prog tr:=(((bU.none.add fm false).add HH false).add qN false)
def iZ:=ai @w<|ai @kJ<|ai @bh.eq_1<|ai @L1<|ai @qz.eq_1<|ai @eN.eq_1<|@tr.eq_1
def E5:cn prog 20 oM:=cn.jB (mode:=.clean) tok EZ mixed func20 (by kernel_rfl) (fun _ _=>rfl) (fun _=>by kernel_rfl) fun⟨f,g⟩ r a=>by
 replace a:kl f g=some r:=a;apply aL rfl ntmps20 results20;simp only[jD];unfold kl at a;obtain⟨p,i,a⟩:=ae a;simp only[iZ,seval,i];obtain⟨o,j,a⟩:=ae a;refine cK 0 (fun s t H e=>match s with|b=>∃c:Nat,∃d:Nat,t 2=.ptr 2 c 0∧t 3=.ptr 3 d 0∧t 12=.bool b∧H 2=rV c 41 [sN f.bX.aq,sI f.bX.aa,sN f.b8.aq,sI f.b8.aa]∧H 3=rV d 41 [sN g.bX.aq,sI g.bX.aa,sN g.b8.aq,sI g.b8.aa]) (fun s=>s=o) ?_ ?_
 ·rintro b t H e ⟨c,d,h⟩ rfl;try dsimp only at a
  simp only[iZ,seval,h];apply sp aw a<;>intro _ a
  ·cases a;simp only[iZ,seval]
  ·obtain⟨q,k,a⟩:=ae a;obtain⟨u,l,a⟩:=ae a;obtain⟨v,m,a⟩:=ae a;simp only[iZ,seval,h,k,l,m];refine bP (by kernel_rfl) ?_;cases a;simp only[seval]
 ·clear a;have a:=j;simp only[iZ,seval];apply sp bL a<;>intro _ a
  ·cases a;simp only[iZ,seval];rw[aG];refine⟨_,rfl,?_⟩;refine⟨0,0,?_,?_,?_,?_,?_⟩;all_goals (rfl)
  ·obtain⟨w,n,a⟩:=ae a;cases a;simp only[iZ,seval,n];rw[aG];refine⟨_,rfl,?_⟩;refine⟨0,0,?_,?_,?_,?_,?_⟩;all_goals (rfl)
def ua(l:Option (D×Row))(d:List D):=ew (dO (kb ah)) (fun x:(List ak)=>sC x) (fun r:Bool =>.clean (.bool r)) l d
def aie{β:Type}{F:(List ak)->Option β}{R:β->RK}(a:(List ak)):ew (dO (kb ah)) F R none [.sl false false a.length (al ah a)]=(F (a)).map fun r=>(R r,none):=cJ _ _ _ (a)
def yp:Env:=(Am.ext (Am.ext (Am.ext (Am.ext (Am.ext bq 20 false oM) 21 false cH) 24 false cI) 54 false bh) 120 false pT)
def Nd:bU prog yp:=(((((bU.none.add E5 false).add kg false).add kr false).add fm false).add HU false)
def fM:=ai @w<|ai @tV<|ai @oM.eq_1<|ai @IV<|ai @cH.eq_1<|ai @kJ<|ai @cI.eq_1<|ai @bh.eq_1<|ai @pT.eq_1<|@yp.eq_1
def NC:cn prog 172 ua:=cn.jB (mode:=.clean) tok Nd mixed func172 (by kernel_rfl) (fun _ _=>rfl) (fun _=>by kernel_rfl) fun C r a=>by
 replace a:sC C=some r:=a;apply aL rfl ntmps172 results172;simp only[jD];unfold sC at a;obtain⟨P,D,a⟩:=ae a;simp only[fM,seval,D];obtain⟨G,E,a⟩:=ae a;refine aD (fun s t H e=>match s with|(p,h,i,j,k)=>∃l:Nat,t 3=.ptr 3 l 0∧t 7=sF ah C∧t 8=sN (C.length:Int)∧t 9=sN p∧H 3=rV l 41 [sN h,sI i,sN j,sI k]) (fun o x t H e=>match o with|(.inl (b,d,f,g))=>x=.exit 0∧∃m:Nat,t 3=.ptr 3 m 0∧H 3=rV m 41 [sN b,sI d,sN f,sI g]|(.inr r)=>x=.ret∧gE .clean tab none [.tmp 2] ⟨t,EH H,e⟩=some (.clean (.bool r),none)) E ?_ ?_ ?_
 ·refine⟨1,?_,?_,?_,?_,?_⟩;all_goals (rfl)
 ·rintro⟨p,h,i,j,k⟩ t H e ⟨l,q⟩ c a;simp only[sk]at a;simp only[fM,seval,q];apply sp aw a<;>intro _ a
  ·obtain⟨I,u,a⟩:=ae a;have n:=bg ah u;simp only[bM]at n;obtain⟨J,v,a⟩:=ae a;simp only[fM,seval,q,n,v];apply sp bL a<;>intro _ a
   ·cases a;simp only[fM,seval];refine tU ⟨rfl,?_⟩;simp only[fM,seval]
   ·obtain⟨K,w,a⟩:=ae a;simp only[fM,seval,w];apply sp aw a<;>intro _ a
    ·cases a;simp only[fM,seval];refine tU ⟨rfl,?_⟩;simp only[fM,seval]
    ·obtain⟨L,y,a⟩:=ae a;cases a;simp only[fM,seval,q,y];apply ij;refine⟨l,?_⟩;and_intros<;>first|rfl|(simp only[fM,seval,q]<;>rfl)
  ·cases a;simp only[fM,seval];apply jN;refine⟨rfl,⟨l,?_,?_⟩⟩;all_goals ((simp only[fM,seval,q]<;>rfl))
 ·rintro x t H e B;rcases G with⟨b,d,f,g⟩|Q
  ·dsimp only at B a;obtain⟨rfl,⟨m,F⟩⟩:=B;obtain⟨M,z,a⟩:=ae a;obtain⟨N,A,a⟩:=ae a;simp only[fM,seval,F,z,A];refine bP (by kernel_rfl) ?_;cases a;simp only[seval]
  ·dsimp only at B a;obtain⟨rfl,O⟩:=B;cases a;simp only[a8,bj,cD,cZ];exact O
def nF(l:Option (D×Row))(d:List D):=ew (dO (bT xW)) (fun x:fh=>kS x) (fun r:Bool =>.clean (.bool r)) l d
def aeD{β:Type}{F:fh->Option β}{R:β->RK}(a:(List gY))(b:(List tS))(c:(List (List ak))):ew (dO (bT xW)) F R none [.agg [.sl false false a.length (al bA a),.sl false false b.length (al eK b),.sl false false c.length (al (dW ah) c)]]=(F ((fh.mk a b c))).map fun r=>(R r,none):=cJ _ _ _ ((fh.mk a b c))
def rF:Env:=(Am.ext (Am.ext bq 81 false dt) 172 false ua)
def C4:bU prog rF:=((bU.none.add nw false).add NC false)
def aH:=ai @w<|ai @Jv<|ai @dt.eq_1<|ai @aie<|ai @ua.eq_1<|@rF.eq_1
def Dj:cn prog 130 nF:=cn.jB (mode:=.clean) tok C4 mixed func130 (by kernel_rfl) (fun _ _=>rfl) (fun _=>by kernel_rfl) fun b r a=>by
 replace a:kS b=some r:=a;apply aL rfl ntmps130 results130;simp only[jD];unfold kS at a;simp only[aH,seval];obtain⟨o1,aq,a⟩:=ae a;refine cK 0 (fun s t H e=>match s with|l=>∃g:Nat,t 1=.ptr 1 g 0∧t 27=.bool l∧H 1=rV g 54 [sF bA b.au,sF eK b.aQ,sF (dW ah) b.aO]) (fun s=>s=o1) ?_ ?_
 ·rintro l t H e ⟨g,N⟩ rfl;try dsimp only at a
  simp only[aH,seval,N];apply sp aw a<;>intro _ a
  ·cases a;simp only[aH,seval]
  ·simp only[aH,seval,N];obtain⟨ar,Q,a⟩:=ae a;refine aD (fun s t H e=>match s with|D=>∃m:Nat,t 1=.ptr 1 m 0∧t 29=sF eK b.aQ∧t 30=sN (b.aQ.length:Int)∧t 31=sN D∧H 1=rV m 54 [sF bA b.au,sF eK b.aQ,sF (dW ah) b.aO]) (fun o x t H e=>match o with|(.inl _)=>x=.exit 0∧∃h:Nat,t 1=.ptr 1 h 0∧H 1=rV h 54 [sF bA b.au,sF eK b.aQ,sF (dW ah) b.aO]|(.inr r)=>x=.ret∧gE .clean tab none [.tmp 2] ⟨t,EH H,e⟩=some (.clean (.bool r),none)) Q ?_ ?_ ?_
   ·refine⟨g,?_⟩;and_intros<;>first|rfl|(simp only[aH,seval,N]<;>rfl)
   ·rintro D t H e ⟨m,P⟩ c a;simp only[mC]at a;simp only[aH,seval,P];apply sp aw a<;>intro _ a
    ·obtain⟨ax,R,a⟩:=ae a;have n:=bg eK R;simp only[bM]at n;obtain⟨ay,S,a⟩:=ae a;simp only[aH,seval,P,n,S];apply sp IH a<;>intro _ a
     ·simp only[aH,seval];refine bP (by kernel_rfl) ?_;cases a;refine tU ⟨rfl,?_⟩;simp only[aH,seval]
     ·simp only[aH,seval];apply sp IH a<;>intro _ a
      ·simp only[aH,seval];refine bP (by kernel_rfl) ?_;cases a;refine tU ⟨rfl,?_⟩;simp only[aH,seval]
      ·obtain⟨az,T,a⟩:=ae a;have E:=bg (dW ah) T;simp only[bM]at E;simp only[aH,seval,P,n,E];refine bP (by kernel_rfl) ?_;apply sp aw a<;>intro _ a
       ·cases a;simp only[aH,seval];refine tU ⟨rfl,?_⟩;simp only[aH,seval]
       ·cases a;simp only[aH,seval,P];apply ij;refine⟨m,?_⟩;and_intros<;>first|rfl|(simp only[aH,seval,P]<;>rfl)
    ·cases a;simp only[aH,seval];apply jN;refine⟨rfl,⟨m,?_,?_⟩⟩;all_goals ((simp only[aH,seval,P]<;>rfl))
   ·rintro x t H e k;rcases ar with _|rb
    ·dsimp only at k a;obtain⟨rfl,⟨h,U⟩⟩:=k;simp only[aH,seval,U];obtain⟨au,V,a⟩:=ae a;refine aD (fun s t H e=>match s with|d=>∃C:Nat,t 1=.ptr 1 C 0∧t 59=sF bA b.au∧t 60=sN (b.au.length:Int)∧t 61=sN d∧H 1=rV C 54 [sF bA b.au,sF eK b.aQ,sF (dW ah) b.aO]) (fun o x t H e=>match o with|(.inl _)=>x=.exit 2|(.inr r)=>x=.ret∧gE .clean tab none [.tmp 2] ⟨t,EH H,e⟩=some (.clean (.bool r),none)) V ?_ ?_ ?_
     ·refine⟨h,?_⟩;and_intros<;>first|rfl|(simp only[aH,seval,U]<;>rfl)
     ·rintro d t H e ⟨C,Zc⟩ c a;simp only[mD]at a;simp only[aH,seval,Zc];apply sp aw a<;>intro _ a
      ·obtain⟨j,W,a⟩:=ae a;have p:=bg bA W;simp only[bM]at p;obtain⟨aA,X,a⟩:=ae a;obtain⟨Y,Z,aa,F,ab⟩:=mk_one ah X;simp only[bM]at F;simp only[aH,seval,Zc,p,Y,Z,aa,F,ab];obtain⟨av,ad,a⟩:=ae a;refine aD (fun s t H e=>match s with|(G,O)=>∃q:Nat,∃u:Nat,∃v:Nat,t 1=.ptr 1 q 0∧t 5=sN d∧t 6=.ptr 6 u 0∧t 7=.buf 7 v 4 0 (O).length∧t 59=sF bA b.au∧t 60=sN (b.au.length:Int)∧t 61=sN d∧t 72=sN (b.aQ.length:Int)∧t 73=sN G∧H 1=rV q 54 [sF bA b.au,sF eK b.aQ,sF (dW ah) b.aO]∧H 6=rV u 83 [sN j.bn,sN j.aX,sN j.aV]∧H 7=rW v 41 (al ah O)) (fun o x t H e=>match o with|w=>x=.exit 4∧∃i:Nat,∃y:Nat,∃A:Nat,t 1=.ptr 1 i 0∧t 6=.ptr 6 y 0∧t 7=.buf 7 A 4 0 (w).length∧t 59=sF bA b.au∧t 60=sN (b.au.length:Int)∧t 61=sN d∧H 1=rV i 54 [sF bA b.au,sF eK b.aQ,sF (dW ah) b.aO]∧H 6=rV y 83 [sN j.bn,sN j.aX,sN j.aV]∧H 7=rW A 41 (al ah w)) ad ?_ ?_ ?_
       ·refine⟨C,e+1,e+1+1,?_⟩;and_intros<;>first|rfl|(simp only[aH,seval,Zc]<;>rfl)
       ·rintro⟨G,O⟩ t H e ⟨q,u,v,Ze⟩ c a;simp only[iI]at a;simp only[aH,seval,Ze];apply sp aw a<;>intro _ a
        ·obtain⟨aB,ag,a⟩:=ae a;have I:=bg (dW ah) ag;simp only[bM]at I;obtain⟨f,ai,a⟩:=ae a;have J:=bg ah ai;simp only[bM]at J;obtain⟨aC,K,a⟩:=ae a;have L:=bg ah K;simp only[bM]at L;have aj:=eT ah (x':=f) (fo:=0) (cs:=[.int .i64 f.bX.aq,.sl false false f.bX.aa.length (al (eI .i64) f.bX.aa),.int .i64 f.b8.aq,.sl false false f.b8.aa.length (al (eI .i64) f.b8.aa)]) K rfl (alK rfl);simp only[bM,Nat.add_zero]at aj;have M:=aj;simp only[putCells,List.length_cons,List.length_nil,alf,Nat.reduceAdd]at M;cases a;simp only[aH,seval,p,Ze,I,J,L,M];apply ij;refine⟨q,u,v,?_⟩;and_intros<;>first|rfl|(simp only[aH,seval,Ze]<;>rfl)
        ·cases a;simp only[aH,seval];apply jN;refine⟨rfl,⟨q,u,v,?_,?_,?_,?_,?_,?_,?_,?_,?_⟩⟩;all_goals ((simp only[aH,seval,Ze]<;>rfl))
       ·rintro x t H e k;obtain⟨w,rfl⟩:∃z,z=av:=⟨_,rfl⟩;dsimp only at k a;obtain⟨rfl,⟨i,y,A,B⟩⟩:=k;obtain⟨aE,an,a⟩:=ae a;simp only[aH,seval,B,an];apply sp bL a<;>intro _ a
        ·cases a;simp only[aH,seval];refine tU ⟨rfl,?_⟩;simp only[aH,seval]
        ·simp only[aH,seval,B];apply sp bL a<;>intro _ a
         ·cases a;simp only[aH,seval];refine tU ⟨rfl,?_⟩;simp only[aH,seval]
         ·obtain⟨aF,ao,a⟩:=ae a;simp only[aH,seval,B,ao];apply sp aw a<;>intro _ a
          ·cases a;simp only[aH,seval];refine tU ⟨rfl,?_⟩;simp only[aH,seval]
          ·cases a;simp only[aH,seval,B];apply ij;refine⟨i,?_⟩;and_intros<;>first|rfl|(simp only[aH,seval,B]<;>rfl)
      ·cases a;simp only[aH,seval];apply jN;exact rfl
     ·rintro x t H e k;rcases au with _|rc
      ·dsimp only at k a;subst k;cases a;simp only[aH,seval]
      ·dsimp only at k a;obtain⟨rfl,hE⟩:=k;cases a;simp only[a8,bj,cD,cZ];exact hE
    ·dsimp only at k a;obtain⟨rfl,hE⟩:=k;cases a;simp only[a8,bj,cD,cZ];exact hE
 ·clear a;have a:=aq;simp only[aH,seval];apply sp bL a<;>intro _ a
  ·cases a;simp only[aH,seval];rw[aG];refine⟨_,rfl,?_⟩;refine⟨0,?_,?_,?_⟩;all_goals (rfl)
  ·simp only[aH,seval];apply sp bL a<;>intro _ a
   ·cases a;simp only[aH,seval];rw[aG];refine⟨_,rfl,?_⟩;refine⟨0,?_,?_,?_⟩;all_goals (rfl)
   ·cases a;simp only[aH,seval];rw[aG];refine⟨_,rfl,?_⟩;refine⟨0,?_,?_,?_⟩;all_goals (rfl)
def rR(l:Option (D×Row))(d:List D):=ew (fV (bT gr) (dO (XQ (eI .i64)))) (fun x:ie×Int=>qo x.1 x.2) (fun r:Bool =>.clean (.bool r)) l d
def aif{β:Type}{F:ie×Int->Option β}{R:β->RK}(a:Int)(b:Int)(c:Int):ew (fV (bT gr) (dO (XQ (eI .i64)))) F R none [.agg [.int .i64 a,.int .i64 b],.ip [.int .i64 c]]=(F ((ie.mk a b),c)).map fun r=>(R r,none):=cJ _ _ _ ((ie.mk a b),c)
def wB:Env:=(Am.ext bq 81 false dt)
def Jg:bU prog wB:=(bU.none.add nw false)
def wZ:=ai @w<|ai @Jv<|ai @dt.eq_1<|@wB.eq_1
def Jp:cn prog 131 rR:=cn.jB (mode:=.clean) tok Jg mixed func131 (by kernel_rfl) (fun _ _=>rfl) (fun _=>by kernel_rfl) fun⟨d,e⟩ r a=>by
 replace a:qo d e=some r:=a;apply aL rfl ntmps131 results131;simp only[jD];unfold qo at a;obtain⟨f,b,a⟩:=ae a;simp only[wZ,seval,b];apply sp bL a<;>intro _ a
 ·cases a;simp only[wZ,seval]
 ·obtain⟨g,c,a⟩:=ae a;cases a;simp only[wZ,seval,c]
def rS(l:Option (D×Row))(d:List D):=ew (fV (aI .i64) (dO (XQ (eI .i64)))) (fun x:Int×Int=>qp x.1 x.2) (fun r:Bool =>.clean (.bool r)) l d
def aih{β:Type}{F:Int×Int->Option β}{R:β->RK}(a:Int)(b:Int):ew (fV (aI .i64) (dO (XQ (eI .i64)))) F R none [.int .i64 a,.ip [.int .i64 b]]=(F (a,b)).map fun r=>(R r,none):=cJ _ _ _ (a,b)
def wC:Env:=(Am.ext bq 81 false dt)
def Jh:bU prog wC:=(bU.none.add nw false)
def On:=ai @w<|ai @Jv<|ai @dt.eq_1<|@wC.eq_1
def Jq:cn prog 132 rS:=cn.jB (mode:=.clean) tok Jh mixed func132 (by kernel_rfl) (fun _ _=>rfl) (fun _=>by kernel_rfl) fun⟨c,d⟩ r a=>by
 replace a:qp c d=some r:=a;apply aL rfl ntmps132 results132;simp only[jD];unfold qp at a;obtain⟨e,b,a⟩:=ae a;cases a;simp only[On,seval,b]
def rz:=ew (dO (kb (eI .i64))) (fun x:(List Int)=>qO x) (fun r:(List Int) =>.clean (.clo 195 0 [.ip [.sl false false r.length (al (eI .i64) r)]]))
def xd(a:(List Int)):rz none [.sl false false a.length (al (eI .i64) a)]=(qO a).map fun r:(List Int)=>(.clean (.clo 195 0 [.ip [.sl false false r.length (al (eI .i64) r)]]),none):=cJ _ _ _ a
def Dk:cn prog 174 rz:=ZF
def ey:=ew (dO (MD 195 0 (dO (XQ (dW (eI .i64)))))) (fun x:(List Int)=>dn x) (fun r:(List Int) =>.fresh 3 1 r.length (al (eI .i64) r))
def gJ(a:(List Int)):ey none [.clo 195 0 [.ip [.sl false false a.length (al (eI .i64) a)]]]=(dn a).map fun r:(List Int)=>(.fresh 3 1 r.length (al (eI .i64) r),none):=cJ _ _ _ a
def k9:cn prog 173 ey:=Zj
def qG(l:Option (D×Row))(d:List D):=ew (fV (kb (eI .i64)) (dO (aI .i64))) (fun x:(List Int)×Int=>lO x.1 x.2) (fun r:Bool =>.clean (.bool r)) l d
def uX:Env:=(Am.ext (Am.ext bq 173 false ey) 174 false rz)
def GY:bU prog uX:=((bU.none.add k9 false).add Dk false)
def gg:=ai @w<|ai @gJ<|ai @xd<|@uX.eq_1
def HV:cn prog 133 qG:=cn.jB (mode:=.clean) tok GY mixed func133 (by kernel_rfl) (fun _ _=>rfl) (fun _=>by kernel_rfl) fun⟨u,k⟩ r a=>by
 replace a:lO u k=some r:=a;apply aL rfl ntmps133 results133;simp only[jD];unfold lO at a;obtain⟨y,l,a⟩:=ae a;obtain⟨g,m,a⟩:=ae a;simp only[gg,seval,l,m];obtain⟨v,n,a⟩:=ae a;refine aD (fun s t H e=>match s with|f=>∃b:Nat,t 1=sN k∧t 5=.buf 5 b 1 0 (g).length∧t 11=.buf 5 b 1 0 (g).length∧t 12=sN ((g).length:Int)∧t 13=sN f∧H 5=rW b 3 (al (eI .i64) g)) (fun o x t H e=>match o with|(.inl _)=>x=.exit 0∧∃d:Nat,t 1=sN k∧t 5=.buf 5 d 1 0 (g).length∧H 5=rW d 3 (al (eI .i64) g)|(.inr r)=>x=.ret∧gE .clean tab none [.tmp 4] ⟨t,EH H,e⟩=some (.clean (.bool r),none)) n ?_ ?_ ?_
 ·refine⟨1,?_,?_,?_,?_,?_,?_⟩;all_goals (rfl)
 ·rintro f t H e ⟨b,h⟩ c a;simp only[pk]at a;simp only[gg,seval,h];apply sp aw a<;>intro _ a
  ·obtain⟨z,p,a⟩:=ae a;have i:=bg (eI .i64) p;simp only[bM]at i;simp only[gg,seval,h,i];apply sp aw a<;>intro _ a
   ·cases a;simp only[gg,seval];refine tU ⟨rfl,?_⟩;simp only[gg,seval]
   ·cases a;simp only[gg,seval,h];apply ij;refine⟨b,?_⟩;and_intros<;>first|rfl|(simp only[gg,seval,h]<;>rfl)
  ·cases a;simp only[gg,seval];apply jN;refine⟨rfl,⟨b,?_,?_,?_⟩⟩;all_goals ((simp only[gg,seval,h]<;>rfl))
 ·rintro x t H e j;rcases v with _|A
  ·dsimp only at j a;obtain⟨rfl,⟨d,q⟩⟩:=j;cases a;simp only[gg,seval,q]
  ·dsimp only at j a;obtain⟨rfl,w⟩:=j;cases a;simp only[a8,bj,cD,cZ];exact w
def dU(l:Option (D×Row))(d:List D):=ew (fV (kb gr) (dO (MD 131 0 (dO (XQ (eI .i64)))))) (fun x:(List ie)×(Int)=>dp x.1 x.2) (fun r:Int =>.clean (.int .i64 r)) l d
def aeE{β:Type}{F:(List ie)×(Int)->Option β}{R:β->RK}(b:(List ie))(a:Int):ew (fV (kb gr) (dO (MD 131 0 (dO (XQ (eI .i64)))))) F R none [.sl false false b.length (al gr b),.clo 131 0 [.ip [.int .i64 a]]]=(F (b,(a))).map fun r=>(R r,none):=cJ _ _ _ (b,(a))
def fR:Env:=(Am.ext bq 131 false rR)
def nU:bU prog fR:=(bU.none.add Jp false)
def bC:=ai @w<|ai @aif<|ai @rR.eq_1<|@fR.eq_1
def nY:cn prog 175 dU:=cn.jB (mode:=.clean) tok nU mixed func175 (by kernel_rfl) (fun _ _=>rfl) (fun _=>by kernel_rfl) fun⟨i,b⟩ r a=>by
 replace a:dp i b=some r:=a;apply aL rfl ntmps175 results175;simp only[jD];unfold dp at a;simp only[bC,seval];obtain⟨m,j,a⟩:=ae a;refine aD (fun s t H e=>match s with|d=>t 0=sF gr i∧t 1=.clo 131 0 [.ip [sN b]]∧t 7=sN (i.length:Int)∧t 8=sN d) (fun o x t H e=>match o with|(.inl _)=>x=.exit 0|(.inr r)=>x=.ret∧gE .clean tab none [.tmp 4] ⟨t,EH H,e⟩=some (.clean (.int .i64 r),none)) j ?_ ?_ ?_
 ·refine⟨?_,?_,?_,?_⟩;all_goals (rfl)
 ·rintro d t H e g c a;simp only[dM]at a;simp only[bC,seval,g];apply sp aw a<;>intro _ a
  ·obtain⟨p,k,a⟩:=ae a;have f:=bg gr k;simp only[bM]at f;obtain⟨q,l,a⟩:=ae a;simp only[bC,seval,g,f,l];apply sp aw a<;>intro _ a
   ·cases a;simp only[bC,seval];refine tU ⟨rfl,?_⟩;simp only[bC,seval]
   ·cases a;simp only[bC,seval,g];apply ij;and_intros<;>first|rfl|(simp only[bC,seval,g]<;>rfl)
  ·cases a;simp only[bC,seval];apply jN;exact rfl
 ·rintro x t H e h;rcases m with _|u
  ·dsimp only at h a;subst h;cases a;simp only[bC,seval]
  ·dsimp only at h a;obtain⟨rfl,n⟩:=h;cases a;simp only[a8,bj,cD,cZ];exact n
def du(l:Option (D×Row))(d:List D):=ew (fV (kb gr) (dO (MD 131 0 (dO (XQ (eI .i64)))))) (fun x:(List ie)×(Int)=>cr x.1 x.2) (fun r:Bool =>.clean (.bool r)) l d
def eW:Env:=(Am.ext bq 175 false dU)
def mj:bU prog eW:=(bU.none.add nY false)
def mW:=ai @w<|ai @aeE<|ai @dU.eq_1<|@eW.eq_1
def mE:cn prog 134 du:=cn.jB (mode:=.clean) tok mj mixed func134 (by kernel_rfl) (fun _ _=>rfl) (fun _=>by kernel_rfl) fun⟨d,b⟩ r a=>by
 replace a:cr d b=some r:=a;apply aL rfl ntmps134 results134;simp only[jD];unfold cr at a;obtain⟨e,c,a⟩:=ae a;cases a;simp only[mW,seval,c]
def dV(l:Option (D×Row))(d:List D):=ew (fV (kb (eI .i64)) (dO (MD 132 0 (dO (XQ (eI .i64)))))) (fun x:(List Int)×(Int)=>dq x.1 x.2) (fun r:Int =>.clean (.int .i64 r)) l d
def aeF{β:Type}{F:(List Int)×(Int)->Option β}{R:β->RK}(b:(List Int))(a:Int):ew (fV (kb (eI .i64)) (dO (MD 132 0 (dO (XQ (eI .i64)))))) F R none [.sl false false b.length (al (eI .i64) b),.clo 132 0 [.ip [.int .i64 a]]]=(F (b,(a))).map fun r=>(R r,none):=cJ _ _ _ (b,(a))
def fS:Env:=(Am.ext bq 132 false rS)
def nV:bU prog fS:=(bU.none.add Jq false)
def bD:=ai @w<|ai @aih<|ai @rS.eq_1<|@fS.eq_1
def nZ:cn prog 176 dV:=cn.jB (mode:=.clean) tok nV mixed func176 (by kernel_rfl) (fun _ _=>rfl) (fun _=>by kernel_rfl) fun⟨i,b⟩ r a=>by
 replace a:dq i b=some r:=a;apply aL rfl ntmps176 results176;simp only[jD];unfold dq at a;simp only[bD,seval];obtain⟨m,j,a⟩:=ae a;refine aD (fun s t H e=>match s with|d=>t 0=sI i∧t 1=.clo 132 0 [.ip [sN b]]∧t 7=sN (i.length:Int)∧t 8=sN d) (fun o x t H e=>match o with|(.inl _)=>x=.exit 0|(.inr r)=>x=.ret∧gE .clean tab none [.tmp 4] ⟨t,EH H,e⟩=some (.clean (.int .i64 r),none)) j ?_ ?_ ?_
 ·refine⟨?_,?_,?_,?_⟩;all_goals (rfl)
 ·rintro d t H e g c a;simp only[dN]at a;simp only[bD,seval,g];apply sp aw a<;>intro _ a
  ·obtain⟨p,k,a⟩:=ae a;have f:=bg (eI .i64) k;simp only[bM]at f;obtain⟨q,l,a⟩:=ae a;simp only[bD,seval,g,f,l];apply sp aw a<;>intro _ a
   ·cases a;simp only[bD,seval];refine tU ⟨rfl,?_⟩;simp only[bD,seval]
   ·cases a;simp only[bD,seval,g];apply ij;and_intros<;>first|rfl|(simp only[bD,seval,g]<;>rfl)
  ·cases a;simp only[bD,seval];apply jN;exact rfl
 ·rintro x t H e h;rcases m with _|u
  ·dsimp only at h a;subst h;cases a;simp only[bD,seval]
  ·dsimp only at h a;obtain⟨rfl,n⟩:=h;cases a;simp only[a8,bj,cD,cZ];exact n
def dw(l:Option (D×Row))(d:List D):=ew (fV (kb (eI .i64)) (dO (MD 132 0 (dO (XQ (eI .i64)))))) (fun x:(List Int)×(Int)=>ct x.1 x.2) (fun r:Bool =>.clean (.bool r)) l d
def eX:Env:=(Am.ext bq 176 false dV)
def ml:bU prog eX:=(bU.none.add nZ false)
def mX:=ai @w<|ai @aeF<|ai @dV.eq_1<|@eX.eq_1
def mF:cn prog 135 dw:=cn.jB (mode:=.clean) tok ml mixed func135 (by kernel_rfl) (fun _ _=>rfl) (fun _=>by kernel_rfl) fun⟨d,b⟩ r a=>by
 replace a:ct d b=some r:=a;apply aL rfl ntmps135 results135;simp only[jD];unfold ct at a;obtain⟨e,c,a⟩:=ae a;cases a;simp only[mX,seval,c]
def vQ(l:Option (D×Row))(d:List D):=ew (fV (bT bm) (dO (aI .i64))) (fun x:bz×Int=>vu x.1 x.2) (fun r:Bool =>.clean (.bool r)) l d
def aii{β:Type}{F:bz×Int->Option β}{R:β->RK}(a:(List gY))(b:(List tS))(c:(List (List ak)))(d:(List ie))(e:(List Int))(f:Int):ew (fV (bT bm) (dO (aI .i64))) F R none [.agg [.sl false false a.length (al bA a),.sl false false b.length (al eK b),.sl false false c.length (al (dW ah) c),.sl false false d.length (al gr d),.sl false false e.length (al (eI .i64) e)],.int .i64 f]=(F ((bz.mk (fh.mk a b c) d e),f)).map fun r=>(R r,none):=cJ _ _ _ ((bz.mk (fh.mk a b c) d e),f)
def AM:Env:=(Am.ext (Am.ext (Am.ext (Am.ext bq 130 false nF) 133 false qG) 134 false du) 135 false dw)
def Qk:bU prog AM:=((((bU.none.add Dj false).add HV false).add mE false).add mF false)
def cj:=ai @w<|ai @aeD<|ai @nF.eq_1<|ai @sh7<|ai @qG.eq_1<|ai @aeE<|ai @du.eq_1<|ai @aeF<|ai @dw.eq_1<|@AM.eq_1
def RF:cn prog 82 vQ:=cn.jB (mode:=.clean) tok Qk mixed func82 (by kernel_rfl) (fun _ _=>rfl) (fun _=>by kernel_rfl) fun⟨b,O⟩ r a=>by
 replace a:vu b O=some r:=a;apply aL rfl ntmps82 results82;simp only[jD];unfold vu at a;obtain⟨r1,an,a⟩:=ae a;simp only[cj,seval,an];apply sp aw a<;>intro _ a
 ·cases a;simp only[cj,seval]
 ·simp only[cj,seval];obtain⟨o8,ao,a⟩:=ae a;refine aD (fun s t H e=>match s with|(D,K)=>∃j:Nat,∃k:Nat,∃q:Nat,∃l:Nat,t 2=.ptr 2 j 0∧t 3=.ptr 3 k 0∧t 5=.buf 5 q 1 0 (K).length∧t 6=.buf 6 l 1 0 0∧t 19=sF bA b.az.au∧t 20=sN (b.az.au.length:Int)∧t 21=sN D∧H 2=rV j 57 [sF bA b.az.au,sF eK b.az.aQ,sF (dW ah) b.az.aO,sF gr b.ba,sI b.aF]∧H 3=rV k 3 [sN O]∧H 5=rW q 3 (al (eI .i64) K)∧H 6=rW l 3 []) (fun o x t H e=>match o with|d=>x=.exit 0∧∃f:Nat,∃g:Nat,∃h:Nat,∃i:Nat,t 2=.ptr 2 f 0∧t 3=.ptr 3 g 0∧t 5=.buf 5 h 1 0 (d).length∧t 6=.buf 6 i 1 0 0∧H 2=rV f 57 [sF bA b.az.au,sF eK b.az.aQ,sF (dW ah) b.az.aO,sF gr b.ba,sI b.aF]∧H 3=rV g 3 [sN O]∧H 5=rW h 3 (al (eI .i64) d)∧H 6=rW i 3 []) ao ?_ ?_ ?_
  ·refine⟨0,0,2,2,?_,?_,?_,?_,?_,?_,?_,?_,?_,?_,?_⟩;all_goals (rfl)
  ·rintro⟨D,K⟩ t H e ⟨j,k,q,l,L⟩ c a;simp only[ou]at a;simp only[cj,seval,L];apply sp aw a<;>intro _ a
   ·obtain⟨ar,P,a⟩:=ae a;have E:=bg bA P;simp only[bM]at E;simp only[cj,seval,L,E];apply sp aw a<;>intro _ a
    ·obtain⟨au,Q,a⟩:=ae a;obtain⟨R,F,S,T⟩:=lj (eI .i64) Q;simp only[bM]at F;cases a;simp only[cj,seval,L,R,F,S,T];apply ij;refine⟨j,k,e+1+1+1,l,?_⟩;and_intros<;>first|rfl|(simp only[cj,seval,L]<;>rfl)
    ·cases a;simp only[cj,seval,L];apply ij;refine⟨j,k,q,l,?_⟩;and_intros<;>first|rfl|(simp only[cj,seval,L]<;>rfl)
   ·cases a;simp only[cj,seval];apply jN;refine⟨rfl,⟨j,k,q,l,?_,?_,?_,?_,?_,?_,?_,?_⟩⟩;all_goals ((simp only[cj,seval,L]<;>rfl))
  ·rintro x t H e U;obtain⟨d,rfl⟩:∃z,z=o8:=⟨_,rfl⟩;dsimp only at U a;obtain⟨rfl,⟨f,g,h,i,V⟩⟩:=U;simp only[cj,seval,V];obtain⟨aq,W,a⟩:=ae a;refine aD (fun s t H e=>match s with|(G,M)=>∃m:Nat,∃n:Nat,∃p:Nat,∃u:Nat,t 2=.ptr 2 m 0∧t 3=.ptr 3 n 0∧t 5=.buf 5 p 1 0 (d).length∧t 6=.buf 6 u 1 0 (M).length∧t 36=sF eK b.az.aQ∧t 37=sN (b.az.aQ.length:Int)∧t 38=sN G∧H 2=rV m 57 [sF bA b.az.au,sF eK b.az.aQ,sF (dW ah) b.az.aO,sF gr b.ba,sI b.aF]∧H 3=rV n 3 [sN O]∧H 5=rW p 3 (al (eI .i64) d)∧H 6=rW u 3 (al (eI .i64) M)) (fun o x t H e=>match o with|v=>x=.exit 2∧∃w:Nat,∃y:Nat,∃A:Nat,∃B:Nat,t 2=.ptr 2 w 0∧t 3=.ptr 3 y 0∧t 5=.buf 5 A 1 0 (d).length∧t 6=.buf 6 B 1 0 (v).length∧H 2=rV w 57 [sF bA b.az.au,sF eK b.az.aQ,sF (dW ah) b.az.aO,sF gr b.ba,sI b.aF]∧H 3=rV y 3 [sN O]∧H 5=rW A 3 (al (eI .i64) d)∧H 6=rW B 3 (al (eI .i64) v)) W ?_ ?_ ?_
   ·refine⟨f,g,h,i,?_⟩;and_intros<;>first|rfl|(simp only[cj,seval,V]<;>rfl)
   ·rintro⟨G,M⟩ t H e ⟨m,n,p,u,N⟩ c a;simp only[ov]at a;simp only[cj,seval,N];apply sp aw a<;>intro _ a
    ·obtain⟨av,X,a⟩:=ae a;have I:=bg eK X;simp only[bM]at I;simp only[cj,seval,N,I];apply sp aw a<;>intro _ a
     ·obtain⟨ax,Y,a⟩:=ae a;obtain⟨Z,J,aa,ab⟩:=lj (eI .i64) Y;simp only[bM]at J;cases a;simp only[cj,seval,N,Z,J,aa,ab];apply ij;refine⟨m,n,p,e+1+1+1,?_⟩;and_intros<;>first|rfl|(simp only[cj,seval,N]<;>rfl)
     ·cases a;simp only[cj,seval,N];apply ij;refine⟨m,n,p,u,?_⟩;and_intros<;>first|rfl|(simp only[cj,seval,N]<;>rfl)
    ·cases a;simp only[cj,seval];apply jN;refine⟨rfl,⟨m,n,p,u,?_,?_,?_,?_,?_,?_,?_,?_⟩⟩;all_goals ((simp only[cj,seval,N]<;>rfl))
   ·rintro x t H e U;obtain⟨v,rfl⟩:∃z,z=aq:=⟨_,rfl⟩;dsimp only at U a;obtain⟨rfl,⟨w,y,A,B,C⟩⟩:=U;obtain⟨ay,ad,a⟩:=ae a;simp only[cj,seval,C,ad];apply sp fP a<;>intro _ a
    ·obtain⟨az,ag,a⟩:=ae a;simp only[cj,seval,C,ag];apply sp fP a<;>intro _ a
     ·obtain⟨aA,ai,a⟩:=ae a;simp only[cj,seval,C,ai];apply sp fP a<;>intro _ a
      ·obtain⟨aB,aj,a⟩:=ae a;cases a;simp only[cj,seval,C,aj]
      ·cases a;simp only[cj,seval]
     ·cases a;simp only[cj,seval]
    ·cases a;simp only[cj,seval]
def iy(l:Option (D×Row))(d:List D):=ew (dO (bT jw)) (fun x:aU=>ot x) (fun r:Int×Int =>.clean (.tup [.int .i64 r.1,.int .i64 r.2])) l d
def Jw{β:Type}{F:aU->Option β}{R:β->RK}(a:(List Int))(b:(List bz)):ew (dO (bT jw)) F R none [.agg [.sl false false a.length (al (eI .i64) a),.sl false false b.length (al bm b)]]=(F ((aU.mk a b))).map fun r=>(R r,none):=cJ _ _ _ ((aU.mk a b))
def yl:Env:=(Am.ext (Am.ext bq 81 false dt) 82 false vQ)
def M9:bU prog yl:=((bU.none.add nw false).add RF false)
def aM:=ai @w<|ai @Jv<|ai @dt.eq_1<|ai @aii<|ai @vQ.eq_1<|@yl.eq_1
def wI:cn prog 39 iy:=cn.jB (mode:=.clean) tok M9 mixed func39 (by kernel_rfl) (fun _ _=>rfl) (fun _=>by kernel_rfl) fun b r a=>by
 replace a:ot b=some r:=a;apply aL rfl ntmps39 results39;simp only[jD];unfold ot at a;simp only[aM,seval];obtain⟨o1,bq,a⟩:=ae a;refine cK 0 (fun s t H e=>match s with|G=>∃l:Nat,t 1=.ptr 1 l 0∧t 27=.bool G∧H 1=rV l 25 [sI b.av,sF bm b.an]) (fun s=>s=o1) ?_ ?_
 ·rintro G t H e ⟨l,aF⟩ rfl;try dsimp only at a
  simp only[aM,seval,aF];apply sp aw a<;>intro _ a
  ·cases a;simp only[aM,seval]
  ·simp only[aM,seval,aF];obtain⟨o7,br,a⟩:=ae a;refine aD (fun s t H e=>match s with|an=>∃I:Nat,t 1=.ptr 1 I 0∧t 29=sI b.av∧t 30=sN (b.av.length:Int)∧t 31=sN an∧H 1=rV I 25 [sI b.av,sF bm b.an]) (fun o x t H e=>match o with|(.inl _)=>x=.exit 0∧∃m:Nat,t 1=.ptr 1 m 0∧H 1=rV m 25 [sI b.av,sF bm b.an]|(.inr r)=>x=.ret∧gE .clean tab none [.tmp 2,.tmp 3] ⟨t,EH H,e⟩=some (.clean (.tup [.int .i64 r.1,.int .i64 r.2]),none)) br ?_ ?_ ?_
   ·refine⟨l,?_⟩;and_intros<;>first|rfl|(simp only[aM,seval,aF]<;>rfl)
   ·rintro an t H e ⟨I,Zb⟩ c a;simp only[mo]at a;simp only[aM,seval,Zb];apply sp aw a<;>intro _ a
    ·obtain⟨x9,bs,a⟩:=ae a;have aK:=bg (eI .i64) bs;simp only[bM]at aK;obtain⟨bG,aN,a⟩:=ae a;simp only[aM,seval,Zb,aK,aN];apply sp aw a<;>intro _ a
     ·cases a;simp only[aM,seval];refine tU ⟨rfl,?_⟩;simp only[aM,seval]
     ·cases a;simp only[aM,seval,Zb];apply ij;refine⟨I,?_⟩;and_intros<;>first|rfl|(simp only[aM,seval,Zb]<;>rfl)
    ·cases a;simp only[aM,seval];apply jN;refine⟨rfl,⟨I,?_,?_⟩⟩;all_goals ((simp only[aM,seval,Zb]<;>rfl))
   ·rintro x t H e g;rcases o7 with _|rb
    ·dsimp only at g a;obtain⟨rfl,⟨m,aO⟩⟩:=g;obtain⟨bH,ao,a⟩:=ae a;obtain⟨aP,aQ,aR,aq,aS⟩:=mk_one (eI .i64) ao;simp only[bM]at aq;obtain⟨bC,bD,bE,aT,bF⟩:=mk_one (eI .i64) ao;simp only[bM]at aT;simp only[aM,seval,aO,aP,aQ,aR,aq,aS];refine bP (by kernel_rfl) ?_;obtain⟨bt,aV,a⟩:=ae a;refine aD (fun s t H e=>match s with|(i,aH,k)=>∃J:Nat,∃K:Nat,∃L:Nat,t 1=.ptr 1 J 0∧t 6=.buf 6 K 1 0 (aH).length∧t 7=.buf 7 L 1 0 (k).length∧t 50=sF bm b.an∧t 51=sN (b.an.length:Int)∧t 52=sN i∧H 1=rV J 25 [sI b.av,sF bm b.an]∧H 6=rW K 3 (al (eI .i64) aH)∧H 7=rW L 3 (al (eI .i64) k)) (fun o x t H e=>match o with|(.inl (j,d))=>x=.exit 2∧∃n:Nat,∃p:Nat,∃q:Nat,t 1=.ptr 1 n 0∧t 6=.buf 6 p 1 0 (j).length∧t 7=.buf 7 q 1 0 (d).length∧H 1=rV n 25 [sI b.av,sF bm b.an]∧H 6=rW p 3 (al (eI .i64) j)∧H 7=rW q 3 (al (eI .i64) d)|(.inr r)=>x=.ret∧gE .clean tab none [.tmp 2,.tmp 3] ⟨t,EH H,e⟩=some (.clean (.tup [.int .i64 r.1,.int .i64 r.2]),none)) aV ?_ ?_ ?_
     ·refine⟨m,e,e,?_⟩;and_intros<;>first|rfl|(simp only[aM,seval,aO]<;>rfl)
     ·rintro⟨i,aH,k⟩ t H e ⟨J,K,L,Zc⟩ c a;simp only[kq]at a;simp only[aM,seval,Zc];apply sp aw a<;>intro _ a
      ·obtain⟨f,aW,a⟩:=ae a;have ar:=bg bm aW;simp only[bM]at ar;obtain⟨bI,aX,a⟩:=ae a;simp only[aM,seval,Zc,ar,aX];apply sp aw a<;>intro _ a
       ·cases a;simp only[aM,seval];refine tU ⟨rfl,?_⟩;simp only[aM,seval]
       ·simp only[aM,seval];obtain⟨bu,aY,a⟩:=ae a;refine aD (fun s t H e=>match s with|(au,aI)=>∃M:Nat,∃N:Nat,∃O:Nat,∃P:Nat,t 1=.ptr 1 M 0∧t 6=.buf 6 N 1 0 (aI).length∧t 7=.buf 7 O 1 0 (k).length∧t 9=.ptr 9 P 0∧t 50=sF bm b.an∧t 51=sN (b.an.length:Int)∧t 52=sN i∧t 65=sI f.aF∧t 66=sN (f.aF.length:Int)∧t 67=sN au∧H 1=rV M 25 [sI b.av,sF bm b.an]∧H 6=rW N 3 (al (eI .i64) aI)∧H 7=rW O 3 (al (eI .i64) k)∧H 9=rV P 57 [sF bA f.az.au,sF eK f.az.aQ,sF (dW ah) f.az.aO,sF gr f.ba,sI f.aF]) (fun o x t H e=>match o with|h=>x=.exit 4∧∃u:Nat,∃v:Nat,∃w:Nat,∃Q:Nat,t 1=.ptr 1 u 0∧t 6=.buf 6 v 1 0 (h).length∧t 7=.buf 7 w 1 0 (k).length∧t 9=.ptr 9 Q 0∧t 50=sF bm b.an∧t 51=sN (b.an.length:Int)∧t 52=sN i∧H 1=rV u 25 [sI b.av,sF bm b.an]∧H 6=rW v 3 (al (eI .i64) h)∧H 7=rW w 3 (al (eI .i64) k)∧H 9=rV Q 57 [sF bA f.az.au,sF eK f.az.aQ,sF (dW ah) f.az.aO,sF gr f.ba,sI f.aF]) aY ?_ ?_ ?_
        ·refine⟨J,K,L,e+1,?_⟩;and_intros<;>first|rfl|(simp only[aM,seval,Zc]<;>rfl)
        ·rintro⟨au,aI⟩ t H e ⟨M,N,O,P,Zf⟩ c a;simp only[mq]at a;simp only[aM,seval,Zf];apply sp aw a<;>intro _ a
         ·obtain⟨bJ,aZ,a⟩:=ae a;have av:=bg (eI .i64) aZ;simp only[bM]at av;obtain⟨a1,R,a⟩:=ae a;have y:=bg (eI .i64) R;simp only[bM]at y;have y:=bg (eI .i64) R;simp only[bM]at y;have a6:=eT (eI .i64) (x':=IntKind.i64.wrap (a1+1)) (fo:=0) (cs:=[.int .i64 (IntKind.i64.wrap (a1+1))]) R rfl (alK rfl);simp only[bM,Nat.add_zero]at a6;have ax:=a6;simp only[putCells,List.length_cons,List.length_nil,alf]at ax;cases a;simp only[aM,seval,Zf,av,y,ax];apply ij;refine⟨M,N,O,P,?_⟩;and_intros<;>first|rfl|(simp only[aM,seval,Zf]<;>rfl)
         ·cases a;simp only[aM,seval];apply jN;refine⟨rfl,⟨M,N,O,P,?_,?_,?_,?_,?_,?_,?_,?_,?_,?_,?_⟩⟩;all_goals ((simp only[aM,seval,Zf]<;>rfl))
        ·rintro x t H e g;obtain⟨h,rfl⟩:∃z,z=bu:=⟨_,rfl⟩;dsimp only at g a;obtain⟨rfl,⟨u,v,w,Q,a7⟩⟩:=g;simp only[aM,seval,a7];obtain⟨bw,ba,a⟩:=ae a;refine aD (fun s t H e=>match s with|(ay,aJ)=>∃S:Nat,∃T:Nat,∃U:Nat,t 1=.ptr 1 S 0∧t 6=.buf 6 T 1 0 (h).length∧t 7=.buf 7 U 1 0 (aJ).length∧t 50=sF bm b.an∧t 51=sN (b.an.length:Int)∧t 52=sN i∧t 79=sF gr f.ba∧t 80=sN (f.ba.length:Int)∧t 81=sN ay∧H 1=rV S 25 [sI b.av,sF bm b.an]∧H 6=rW T 3 (al (eI .i64) h)∧H 7=rW U 3 (al (eI .i64) aJ)) (fun o x t H e=>match o with|V=>x=.exit 6∧∃A:Nat,∃B:Nat,∃C:Nat,t 1=.ptr 1 A 0∧t 6=.buf 6 B 1 0 (h).length∧t 7=.buf 7 C 1 0 (V).length∧t 50=sF bm b.an∧t 51=sN (b.an.length:Int)∧t 52=sN i∧H 1=rV A 25 [sI b.av,sF bm b.an]∧H 6=rW B 3 (al (eI .i64) h)∧H 7=rW C 3 (al (eI .i64) V)) ba ?_ ?_ ?_
         ·refine⟨u,v,w,?_⟩;and_intros<;>first|rfl|(simp only[aM,seval,a7]<;>rfl)
         ·rintro⟨ay,aJ⟩ t H e ⟨S,T,U,Zg⟩ c a;simp only[mu]at a;simp only[aM,seval,Zg];apply sp aw a<;>intro _ a
          ·obtain⟨ab,bb,a⟩:=ae a;have az:=bg gr bb;simp only[bM]at az;obtain⟨ad,W,a⟩:=ae a;have D:=bg (eI .i64) W;simp only[bM]at D;have D:=bg (eI .i64) W;simp only[bM]at D;have bc:=eT (eI .i64) (x':=(if 1099511627777<(IntKind.i64.wrap (ad+ab.aV)) then 1099511627777 else IntKind.i64.wrap (ad+ab.aV))) (fo:=0) (cs:=[.int .i64 (if 1099511627777<(IntKind.i64.wrap (ad+ab.aV)) then 1099511627777 else IntKind.i64.wrap (ad+ab.aV))]) W rfl (alK rfl);simp only[bM,Nat.add_zero]at bc;have aA:=bc;simp only[putCells,List.length_cons,List.length_nil,alf]at aA;simp only[aM,seval,Zg,az,D,aA];refine bP (by kernel_rfl) ?_;cases a;apply ij;refine⟨S,T,U,?_⟩;and_intros<;>first|rfl|(simp only[aM,seval,Zg]<;>rfl)
          ·cases a;simp only[aM,seval];apply jN;refine⟨rfl,⟨S,T,U,?_,?_,?_,?_,?_,?_,?_,?_,?_⟩⟩;all_goals ((simp only[aM,seval,Zg]<;>rfl))
         ·rintro x t H e g;obtain⟨V,rfl⟩:∃z,z=bw:=⟨_,rfl⟩;dsimp only at g a;obtain⟨rfl,⟨A,B,C,bd⟩⟩:=g;cases a;simp only[aM,seval,bd];apply ij;refine⟨A,B,C,?_⟩;and_intros<;>first|rfl|(simp only[aM,seval,bd]<;>rfl)
      ·cases a;simp only[aM,seval];apply jN;refine⟨rfl,⟨J,K,L,?_,?_,?_,?_,?_,?_⟩⟩;all_goals ((simp only[aM,seval,Zc]<;>rfl))
     ·rintro x t H e g;rcases bt with⟨j,d⟩|rc
      ·dsimp only at g a;obtain⟨rfl,⟨n,p,q,bf⟩⟩:=g;simp only[aM,seval,bf];obtain⟨bx,bh,a⟩:=ae a;refine aD (fun s t H e=>match s with|X=>∃Y:Nat,∃ag:Nat,∃Z:Nat,t 1=.ptr 1 Y 0∧t 7=.buf 7 Z 1 0 (d).length∧t 100=.buf 6 ag 1 0 (j).length∧t 101=sN ((j).length:Int)∧t 102=sN X∧H 1=rV Y 25 [sI b.av,sF bm b.an]∧H 6=rW ag 3 (al (eI .i64) j)∧H 7=rW Z 3 (al (eI .i64) d)) (fun o x t H e=>match o with|(.inl _)=>x=.exit 8∧∃E:Nat,∃F:Nat,t 1=.ptr 1 E 0∧t 7=.buf 7 F 1 0 (d).length∧H 1=rV E 25 [sI b.av,sF bm b.an]∧H 7=rW F 3 (al (eI .i64) d)|(.inr r)=>x=.ret∧gE .clean tab none [.tmp 2,.tmp 3] ⟨t,EH H,e⟩=some (.clean (.tup [.int .i64 r.1,.int .i64 r.2]),none)) bh ?_ ?_ ?_
       ·refine⟨n,p,q,?_⟩;and_intros<;>first|rfl|(simp only[aM,seval,bf]<;>rfl)
       ·rintro X t H e ⟨Y,ag,Z,Zh⟩ c a;simp only[mv]at a;simp only[aM,seval,Zh];apply sp aw a<;>intro _ a
        ·obtain⟨bK,bk,a⟩:=ae a;have aB:=bg (eI .i64) bk;simp only[bM]at aB;simp only[aM,seval,Zh,aB];apply sp aw a<;>intro _ a
         ·cases a;simp only[aM,seval];refine tU ⟨rfl,?_⟩;simp only[aM,seval]
         ·simp only[aM,seval];apply sp aw a<;>intro _ a
          ·cases a;simp only[aM,seval];refine tU ⟨rfl,?_⟩;simp only[aM,seval]
          ·cases a;simp only[aM,seval,Zh];apply ij;refine⟨Y,ag,Z,?_⟩;and_intros<;>first|rfl|(simp only[aM,seval,Zh]<;>rfl)
        ·cases a;simp only[aM,seval];apply jN;refine⟨rfl,⟨Y,Z,?_,?_,?_,?_⟩⟩;all_goals ((simp only[aM,seval,Zh]<;>rfl))
       ·rintro x t H e g;rcases bx with _|rh
        ·dsimp only at g a;obtain⟨rfl,⟨E,F,bl⟩⟩:=g;simp only[aM,seval,bl];obtain⟨bB,bn,a⟩:=ae a;refine aD (fun s t H e=>match s with|aa=>∃ai:Nat,∃aj:Nat,t 1=.ptr 1 ai 0∧t 116=.buf 7 aj 1 0 (d).length∧t 117=sN ((d).length:Int)∧t 118=sN aa∧H 1=rV ai 25 [sI b.av,sF bm b.an]∧H 7=rW aj 3 (al (eI .i64) d)) (fun o x t H e=>match o with|(.inl _)=>x=.exit 11|(.inr r)=>x=.ret∧gE .clean tab none [.tmp 2,.tmp 3] ⟨t,EH H,e⟩=some (.clean (.tup [.int .i64 r.1,.int .i64 r.2]),none)) bn ?_ ?_ ?_
         ·refine⟨E,F,?_⟩;and_intros<;>first|rfl|(simp only[aM,seval,bl]<;>rfl)
         ·rintro aa t H e ⟨ai,aj,Zi⟩ c a;simp only[mw]at a;simp only[aM,seval,Zi];apply sp aw a<;>intro _ a
          ·obtain⟨bN,bo,a⟩:=ae a;have aC:=bg (eI .i64) bo;simp only[bM]at aC;obtain⟨bO,bp,a⟩:=ae a;have aE:=bg (eI .i64) bp;simp only[bM]at aE;simp only[aM,seval,Zi,aC,aE];apply sp aw a<;>intro _ a
           ·cases a;simp only[aM,seval];refine tU ⟨rfl,?_⟩;simp only[aM,seval]
           ·cases a;simp only[aM,seval,Zi];apply ij;refine⟨ai,aj,?_⟩;and_intros<;>first|rfl|(simp only[aM,seval,Zi]<;>rfl)
          ·cases a;simp only[aM,seval];apply jN;exact rfl
         ·rintro x t H e g;rcases bB with _|ri
          ·dsimp only at g a;subst g;cases a;simp only[aM,seval]
          ·dsimp only at g a;obtain⟨rfl,hE⟩:=g;cases a;simp only[a8,bj,cD,cZ];exact hE
        ·dsimp only at g a;obtain⟨rfl,hE⟩:=g;cases a;simp only[a8,bj,cD,cZ];exact hE
      ·dsimp only at g a;obtain⟨rfl,hE⟩:=g;cases a;simp only[a8,bj,cD,cZ];exact hE
    ·dsimp only at g a;obtain⟨rfl,hE⟩:=g;cases a;simp only[a8,bj,cD,cZ];exact hE
 ·clear a;have a:=bq;simp only[aM,seval];apply sp bL a<;>intro _ a
  ·cases a;simp only[aM,seval];rw[aG];refine⟨_,rfl,?_⟩;refine⟨0,?_,?_,?_⟩;all_goals (rfl)
  ·cases a;simp only[aM,seval];rw[aG];refine⟨_,rfl,?_⟩;refine⟨0,?_,?_,?_⟩;all_goals (rfl)
def rP(l:Option (D×Row))(d:List D):=ew (fV (bT xW) (dO (kb ah))) (fun x:fh×(List ak)=>p5 x.1 x.2) (fun r:Bool =>.clean (.bool r)) l d
def aij{β:Type}{F:fh×(List ak)->Option β}{R:β->RK}(a:(List gY))(b:(List tS))(c:(List (List ak)))(d:(List ak)):ew (fV (bT xW) (dO (kb ah))) F R none [.agg [.sl false false a.length (al bA a),.sl false false b.length (al eK b),.sl false false c.length (al (dW ah) c)],.sl false false d.length (al ah d)]=(F ((fh.mk a b c),d)).map fun r=>(R r,none):=cJ _ _ _ ((fh.mk a b c),d)
def wv:Env:=(Am.ext (Am.ext bq 24 false cI) 54 false bh)
def Jb:bU prog wv:=((bU.none.add kr false).add fm false)
def di:=ai @w<|ai @kJ<|ai @cI.eq_1<|ai @bh.eq_1<|@wv.eq_1
def Jn:cn prog 83 rP:=cn.jB (mode:=.clean) tok Jb mixed func83 (by kernel_rfl) (fun _ _=>rfl) (fun _=>by kernel_rfl) fun⟨n,q⟩ r a=>by
 replace a:p5 n q=some r:=a;apply aL rfl ntmps83 results83;simp only[jD];unfold p5 at a;simp only[di,seval];apply sp aw a<;>intro _ a
 ·cases a;simp only[di,seval]
 ·simp only[di,seval];obtain⟨u,i,a⟩:=ae a;refine aD (fun s t H e=>match s with|f=>∃b:Nat,t 2=.ptr 2 b 0∧t 13=sF ah q∧t 14=sN (q.length:Int)∧t 15=sN f∧H 2=rV b 54 [sF bA n.au,sF eK n.aQ,sF (dW ah) n.aO]) (fun o x t H e=>match o with|(.inl _)=>x=.exit 0|(.inr r)=>x=.ret∧gE .clean tab none [.tmp 4] ⟨t,EH H,e⟩=some (.clean (.bool r),none)) i ?_ ?_ ?_
  ·refine⟨0,?_,?_,?_,?_,?_⟩;all_goals (rfl)
  ·rintro f t H e ⟨b,h⟩ c a;simp only[ng]at a;simp only[di,seval,h];apply sp aw a<;>intro _ a
   ·obtain⟨v,j,a⟩:=ae a;have d:=bg ah j;simp only[bM]at d;obtain⟨w,k,a⟩:=ae a;simp only[di,seval,h,d,k];apply sp bL a<;>intro _ a
    ·cases a;simp only[di,seval];refine tU ⟨rfl,?_⟩;simp only[di,seval]
    ·obtain⟨y,l,a⟩:=ae a;have g:=bg bA l;simp only[bM]at g;simp only[di,seval,h,d,g];apply sp fP a<;>intro _ a
     ·obtain⟨z,m,a⟩:=ae a;simp only[di,seval,m];apply sp aw a<;>intro _ a
      ·cases a;simp only[di,seval];refine tU ⟨rfl,?_⟩;simp only[di,seval]
      ·cases a;simp only[di,seval,h];apply ij;refine⟨b,?_⟩;and_intros<;>first|rfl|(simp only[di,seval,h]<;>rfl)
     ·cases a;simp only[di,seval,h];apply ij;refine⟨b,?_⟩;and_intros<;>first|rfl|(simp only[di,seval,h]<;>rfl)
   ·cases a;simp only[di,seval];apply jN;exact rfl
  ·rintro x t H e p;rcases u with _|B
   ·dsimp only at p a;subst p;cases a;simp only[di,seval]
   ·dsimp only at p a;obtain⟨rfl,A⟩:=p;cases a;simp only[a8,bj,cD,cZ];exact A
def nE(l:Option (D×Row))(d:List D):=ew (dO (bT ah)) (fun x:ak=>nf x) (fun r:Bool =>.clean (.bool r)) l d
def rE:Env:=(Am.ext bq 24 false cI)
def C2:bU prog rE:=(bU.none.add kr false)
def Ff:=ai @w<|ai @kJ<|ai @cI.eq_1<|@rE.eq_1
def Dh:cn prog 84 nE:=cn.jB (mode:=.clean) tok C2 mixed func84 (by kernel_rfl) (fun _ _=>rfl) (fun _=>by kernel_rfl) fun c r a=>by
 replace a:nf c=some r:=a;apply aL rfl ntmps84 results84;simp only[jD];unfold nf at a;obtain⟨d,b,a⟩:=ae a;cases a;simp only[Ff,seval,b]
def eu(l:Option (D×Row))(d:List D):=ew (fV (kb ah) (dO (Oq 84))) (fun x:(List ak)×Unit=>dA x.1) (fun r:Int =>.clean (.int .i64 r)) l d
def aeG{β:Type}{F:(List ak)×Unit->Option β}{R:β->RK}(a:(List ak)):ew (fV (kb ah) (dO (Oq 84))) F R none [.sl false false a.length (al ah a),.fn 84]=(F (a,())).map fun r=>(R r,none):=cJ _ _ _ (a,())
def gp:Env:=(Am.ext bq 84 false nE)
def oG:bU prog gp:=(bU.none.add Dh false)
def bH:=ai @w<|ai @kJ<|ai @nE.eq_1<|@gp.eq_1
def oI:cn prog 102 eu:=cn.jB (mode:=.clean) tok oG mixed func102 (by kernel_rfl) (fun _ _=>rfl) (fun _=>by kernel_rfl) fun⟨h,_⟩ r a=>by
 replace a:dA h=some r:=a;apply aL rfl ntmps102 results102;simp only[jD];unfold dA at a;simp only[bH,seval];obtain⟨l,i,a⟩:=ae a;refine aD (fun s t H e=>match s with|b=>t 0=sF ah h∧t 1=.fn 84∧t 7=sN (h.length:Int)∧t 8=sN b) (fun o x t H e=>match o with|(.inl _)=>x=.exit 0|(.inr r)=>x=.ret∧gE .clean tab none [.tmp 4] ⟨t,EH H,e⟩=some (.clean (.int .i64 r),none)) i ?_ ?_ ?_
 ·refine⟨?_,?_,?_,?_⟩;all_goals (rfl)
 ·rintro b t H e f c a;simp only[dY]at a;simp only[bH,seval,f];apply sp aw a<;>intro _ a
  ·obtain⟨n,j,a⟩:=ae a;have d:=bg ah j;simp only[bM]at d;obtain⟨p,k,a⟩:=ae a;simp only[bH,seval,f,d,k];apply sp aw a<;>intro _ a
   ·cases a;simp only[bH,seval];refine tU ⟨rfl,?_⟩;simp only[bH,seval]
   ·cases a;simp only[bH,seval,f];apply ij;and_intros<;>first|rfl|(simp only[bH,seval,f]<;>rfl)
  ·cases a;simp only[bH,seval];apply jN;exact rfl
 ·rintro x t H e g;rcases l with _|q
  ·dsimp only at g a;subst g;cases a;simp only[bH,seval]
  ·dsimp only at g a;obtain⟨rfl,m⟩:=g;cases a;simp only[a8,bj,cD,cZ];exact m
def dD(l:Option (D×Row))(d:List D):=ew (fV (kb ah) (dO (Oq 84))) (fun x:(List ak)×Unit=>cy x.1) (fun r:Bool =>.clean (.bool r)) l d
def fl:Env:=(Am.ext bq 102 false eu)
def mS:bU prog fl:=(bU.none.add oI false)
def nC:=ai @w<|ai @aeG<|ai @eu.eq_1<|@fl.eq_1
def mU:cn prog 52 dD:=cn.jB (mode:=.clean) tok mS mixed func52 (by kernel_rfl) (fun _ _=>rfl) (fun _=>by kernel_rfl) fun⟨c,_⟩ r a=>by
 replace a:cy c=some r:=a;apply aL rfl ntmps52 results52;simp only[jD];unfold cy at a;obtain⟨d,b,a⟩:=ae a;cases a;simp only[nC,seval,b]
def qB(l:Option (D×Row))(d:List D):=ew (fV (bT jw) (dO (kb (dW ah)))) (fun x:aU×(List (List ak))=>lA x.1 x.2) (fun r:Int =>.clean (.int .i64 r)) l d
def Sn{β:Type}{F:aU×(List (List ak))->Option β}{R:β->RK}(a:(List Int))(b:(List bz))(c:(List (List ak))):ew (fV (bT jw) (dO (kb (dW ah)))) F R none [.agg [.sl false false a.length (al (eI .i64) a),.sl false false b.length (al bm b)],.sl false false c.length (al (dW ah) c)]=(F ((aU.mk a b),c)).map fun r=>(R r,none):=cJ _ _ _ ((aU.mk a b),c)
def uS:Env:=(Am.ext (Am.ext bq 52 false dD) 83 false rP)
def GS:bU prog uS:=((bU.none.add mU false).add Jn false)
def ck:=ai @w<|ai @aeG<|ai @dD.eq_1<|ai @aij<|ai @rP.eq_1<|@uS.eq_1
def HP:cn prog 40 qB:=cn.jB (mode:=.clean) tok GS mixed func40 (by kernel_rfl) (fun _ _=>rfl) (fun _=>by kernel_rfl) fun⟨v,i⟩ r a=>by
 replace a:lA v i=some r:=a;apply aL rfl ntmps40 results40;simp only[jD];unfold lA at a;simp only[ck,seval];apply sp aw a<;>intro _ a
 ·cases a;simp only[ck,seval]
 ·simp only[ck,seval];obtain⟨C,w,a⟩:=ae a;refine aD (fun s t H e=>match s with|d=>t 1=sF (dW ah) i∧t 16=sF bm v.an∧t 17=sN (v.an.length:Int)∧t 18=sN d) (fun o x t H e=>match o with|(.inl _)=>x=.exit 0∧t 1=sF (dW ah) i|(.inr r)=>x=.ret∧gE .clean tab none [.tmp 4] ⟨t,EH H,e⟩=some (.clean (.int .i64 r),none)) w ?_ ?_ ?_
  ·refine⟨?_,?_,?_,?_⟩;all_goals (rfl)
  ·rintro d t H e j c a;simp only[lB]at a;simp only[ck,seval,j];apply sp aw a<;>intro _ a
   ·obtain⟨I,y,a⟩:=ae a;have k:=bg bm y;simp only[bM]at k;obtain⟨D,l,a⟩:=ae a;have f:=bg (dW ah) l;simp only[bM]at f;obtain⟨E,m,a⟩:=ae a;simp only[ck,seval,j,k,f,m];refine bP (by kernel_rfl) ?_;apply sp aw a<;>intro _ a
    ·cases a;simp only[ck,seval];refine tU ⟨rfl,?_⟩;simp only[ck,seval]
    ·cases a;simp only[ck,seval,j];apply ij;and_intros<;>first|rfl|(simp only[ck,seval,j]<;>rfl)
   ·cases a;simp only[ck,seval];apply jN;refine⟨rfl,?_⟩;all_goals ((simp only[ck,seval,j]<;>rfl))
  ·rintro x t H e b;rcases C with _|J
   ·dsimp only at b a;obtain⟨rfl,z⟩:=b;simp only[ck,seval,z];obtain⟨A,n,a⟩:=ae a;refine aD (fun s t H e=>match s with|g=>t 32=sF (dW ah) i∧t 33=sN (i.length:Int)∧t 34=sN g) (fun o x t H e=>match o with|(.inl _)=>x=.exit 2|(.inr r)=>x=.ret∧gE .clean tab none [.tmp 4] ⟨t,EH H,e⟩=some (.clean (.int .i64 r),none)) n ?_ ?_ ?_
    ·refine⟨?_,?_,?_⟩;all_goals (rfl)
    ·rintro g t H e u c a;simp only[lC]at a;simp only[ck,seval,u];apply sp aw a<;>intro _ a
     ·obtain⟨F,p,a⟩:=ae a;have h:=bg (dW ah) p;simp only[bM]at h;obtain⟨G,q,a⟩:=ae a;simp only[ck,seval,u,h,q];apply sp aw a<;>intro _ a
      ·cases a;simp only[ck,seval];refine tU ⟨rfl,?_⟩;simp only[ck,seval]
      ·cases a;simp only[ck,seval,u];apply ij;and_intros<;>first|rfl|(simp only[ck,seval,u]<;>rfl)
     ·cases a;simp only[ck,seval];apply jN;exact rfl
    ·rintro x t H e b;rcases A with _|K
     ·dsimp only at b a;subst b;cases a;simp only[ck,seval]
     ·dsimp only at b a;obtain⟨rfl,B⟩:=b;cases a;simp only[a8,bj,cD,cZ];exact B
   ·dsimp only at b a;obtain⟨rfl,B⟩:=b;cases a;simp only[a8,bj,cD,cZ];exact B
def gB(l:Option (D×Row))(d:List D):=ew (fV (bT ah) (dO (bT ah))) (fun x:ak×ak=>oW x.1 x.2) (fun r:ak×Int =>.clean (.tup [.agg [.int .i64 r.1.bX.aq,.sl false false r.1.bX.aa.length (al (eI .i64) r.1.bX.aa),.int .i64 r.1.b8.aq,.sl false false r.1.b8.aa.length (al (eI .i64) r.1.b8.aa)],.int .i64 r.2])) l d
def AH:Env:=(Am.ext (Am.ext (Am.ext bq 54 false bh) 60 false eN) 63 false gC)
def Qf:bU prog AH:=(((bU.none.add fm false).add qN false).add uA false)
def oc:=ai @w<|ai @kJ<|ai @bh.eq_1<|ai @L1<|ai @eN.eq_1<|ai @gC.eq_1<|@AH.eq_1
def uz:cn prog 58 gB:=cn.jB (mode:=.clean) tok Qf mixed func58 (by kernel_rfl) (fun _ _=>rfl) (fun _=>by kernel_rfl) fun⟨h,i⟩ r a=>by
 replace a:oW h i=some r:=a;apply aL rfl ntmps58 results58;simp only[jD];unfold oW at a;obtain⟨q,j,a⟩:=ae a;simp only[oc,seval,j];obtain⟨p,k,a⟩:=ae a;refine cK 0 (fun s t H e=>match s with|b=>∃c:Nat,∃d:Nat,∃f:Nat,t 2=.ptr 2 c 0∧t 3=.ptr 3 d 0∧t 4=.ptr 4 f 0∧t 13=.bool b∧H 2=rV c 41 [sN h.bX.aq,sI h.bX.aa,sN h.b8.aq,sI h.b8.aa]∧H 3=rV d 41 [sN i.bX.aq,sI i.bX.aa,sN i.b8.aq,sI i.b8.aa]∧H 4=rV f 41 [sN 0,.sl true true 0 [],sN 0,.sl true true 0 []]) (fun s=>s=p) ?_ ?_
 ·rintro b t H e ⟨c,d,f,g⟩ rfl;try dsimp only at a
  simp only[oc,seval,g];apply sp aw a<;>intro _ a
  ·cases a;simp only[oc,seval,g]
  ·obtain⟨u,l,a⟩:=ae a;obtain⟨v,m,a⟩:=ae a;obtain⟨w,n,a⟩:=ae a;simp only[oc,seval,g,l,m,n];refine bP (by kernel_rfl) ?_;cases a;simp only[seval]
 ·clear a;have a:=k;simp only[oc,seval];apply sp bL a<;>intro _ a
  ·cases a;simp only[oc,seval];rw[aG];refine⟨_,rfl,?_⟩;refine⟨0,0,0,?_,?_,?_,?_,?_,?_,?_⟩;all_goals (rfl)
  ·obtain⟨x,o,a⟩:=ae a;cases a;simp only[oc,seval,o];rw[aG];refine⟨_,rfl,?_⟩;refine⟨0,0,0,?_,?_,?_,?_,?_,?_,?_⟩;all_goals (rfl)
def rv:=kp 113 (bT ah) (fV (kb (eI .i64)) (dO (bT bm))) (fun (l:(List ((Int×Int)×ak))) (x:(List Int)×bz)=>jJ l x.1 x.2) (fun r:Unit =>.clean (.tup []))
def Fa(f:(List ((Int×Int)×ak)))(g:(List Int))(a:(List gY))(b:(List tS))(c:(List (List ak)))(d:(List ie))(e:(List Int)):rv (some (.mp 0 0,⟨0,113,[.mpc (fJ f) (iu (bT ah) f)],false,true,true⟩)) [.sl false false g.length (al (eI .i64) g),.agg [.sl false false a.length (al bA a),.sl false false b.length (al eK b),.sl false false c.length (al (dW ah) c),.sl false false d.length (al gr d),.sl false false e.length (al (eI .i64) e)]]=(jJ f g (bz.mk (fh.mk a b c) d e)).map fun r=>(.clean (.tup []),some ⟨0,113,[.mpc (fJ r.1) (iu (bT ah) r.1)],false,true,true⟩):=agn _ _ _ _ _ f (g,(bz.mk (fh.mk a b c) d e))
def nL:Env:=(Am.ext (Am.ext (Am.ext (Am.ext bq 24 false cI) 57 false kQ) 58 false gB) 120 false pT)
def C3:bU prog nL:=((((bU.none.add kr false).add A1 false).add uz false).add HU false)
def aY:=ai @w<|ai @kJ<|ai @cI.eq_1<|ai @Ot<|ai @kQ.eq_1<|ai @tV<|ai @gB.eq_1<|ai @pT.eq_1<|@nL.eq_1
def E2(p0:(List ((Int×Int)×ak)))(N:(List Int))(b:bz)(r:(List ((Int×Int)×ak))×(Unit))(a:jJ p0 N b=some r):kN .clean tab nL FU Tryz.f65 (some (.mp 0 0,⟨0,113,[.mpc (fJ p0) (iu (bT ah) p0)],false,true,true⟩)) [.sl false false N.length (al (eI .i64) N),.agg [.sl false false b.az.au.length (al bA b.az.au),.sl false false b.az.aQ.length (al eK b.az.aQ),.sl false false b.az.aO.length (al (dW ah) b.az.aO),.sl false false b.ba.length (al gr b.ba),.sl false false b.aF.length (al (eI .i64) b.aF)]]=some (.clean (.tup []),some ⟨0,113,[.mpc (fJ r.1) (iu (bT ah) r.1)],false,true,true⟩):=by
 apply SY rfl ntmps65 results65;unfold jJ at a;simp only[aY,seval];obtain⟨aq,R,a⟩:=ae a;refine aD (fun s t H e=>match s with|(d,O)=>∃u:Nat,t 0=.mp 0 0∧t 1=sI N∧t 5=.ptr 5 u 0∧t 20=sF bA b.az.au∧t 21=sN (b.az.au.length:Int)∧t 22=sN d∧H 0=some ⟨0,113,[.mpc (fJ O) (iu (bT ah) O)],false,true,true⟩∧H 5=rV u 57 [sF bA b.az.au,sF eK b.az.aQ,sF (dW ah) b.az.aO,sF gr b.ba,sI b.aF]) (fun o x t H e=>match o with|v=>x=.exit 0∧t 0=.mp 0 0∧H 0=some ⟨0,113,[.mpc (fJ v) (iu (bT ah) v)],false,true,true⟩) R ?_ ?_ ?_
 ·refine⟨1,?_,?_,?_,?_,?_,?_,?_,?_⟩;all_goals (rfl)
 ·rintro⟨d,O⟩ t H e ⟨u,P⟩ c a;simp only[j8]at a;simp only[aY,seval,P];apply sp aw a<;>intro _ a
  ·obtain⟨ax,S,a⟩:=ae a;have l:=bg bA S;simp only[bM]at l;simp only[aY,seval,P,l];apply sp aw a<;>intro _ a
   ·cases a;simp only[aY,seval,P];apply ij;refine⟨u,?_⟩;and_intros<;>first|rfl|(simp only[aY,seval,P]<;>rfl)
   ·obtain⟨D,T,a⟩:=ae a;have F:=bg gr T;simp only[bM]at F;obtain⟨ay,U,a⟩:=ae a;have G:=bg (eI .i64) U;simp only[bM]at G;obtain⟨j,V,a⟩:=ae a;simp only[aY,seval,P,F,G,V];refine bP (by kernel_rfl) ?_;obtain⟨ar,W,a⟩:=ae a;refine aD (fun s t H e=>match s with|(m,w)=>∃q:Nat,∃y:Nat,∃A:Nat,t 0=.mp 0 0∧t 1=sI N∧t 5=.ptr 5 q 0∧t 6=sN d∧t 8=.ptr 8 y 0∧t 9=.ptr 9 A 0∧t 20=sF bA b.az.au∧t 21=sN (b.az.au.length:Int)∧t 22=sN d∧t 49=sF eK b.az.aQ∧t 50=sN (b.az.aQ.length:Int)∧t 51=sN m∧H 0=some ⟨0,113,[.mpc (fJ w) (iu (bT ah) w)],false,true,true⟩∧H 5=rV q 57 [sF bA b.az.au,sF eK b.az.aQ,sF (dW ah) b.az.aO,sF gr b.ba,sI b.aF]∧H 8=rV y 72 [sN D.bQ,sN D.aV]∧H 9=rV A 41 [sN j.1.bX.aq,sI j.1.bX.aa,sN j.1.b8.aq,sI j.1.b8.aa]) (fun o x t H e=>match o with|B=>x=.exit 2∧∃n:Nat,t 0=.mp 0 0∧t 1=sI N∧t 5=.ptr 5 n 0∧t 20=sF bA b.az.au∧t 21=sN (b.az.au.length:Int)∧t 22=sN d∧H 0=some ⟨0,113,[.mpc (fJ B) (iu (bT ah) B)],false,true,true⟩∧H 5=rV n 57 [sF bA b.az.au,sF eK b.az.aQ,sF (dW ah) b.az.aO,sF gr b.ba,sI b.aF]) W ?_ ?_ ?_
    ·refine⟨u,e+1+1+1,e+1+1+1+1,?_⟩;and_intros<;>first|rfl|(simp only[aY,seval,P]<;>rfl)
    ·rintro⟨m,w⟩ t H e ⟨q,y,A,Q⟩ c a;simp only[iH]at a;simp only[aY,seval,Q];apply sp aw a<;>intro _ a
     ·obtain⟨E,X,a⟩:=ae a;have p:=bg eK X;simp only[bM]at p;simp only[aY,seval,Q,p];obtain⟨au,Y,a⟩:=ae a;refine cK 0 (fun s t H e=>match s with|C=>∃f:Nat,∃g:Nat,∃h:Nat,∃k:Nat,t 0=.mp 0 0∧t 1=sI N∧t 5=.ptr 5 f 0∧t 6=sN d∧t 8=.ptr 8 g 0∧t 9=.ptr 9 h 0∧t 11=sN m∧t 12=.ptr 12 k 0∧t 20=sF bA b.az.au∧t 21=sN (b.az.au.length:Int)∧t 22=sN d∧t 49=sF eK b.az.aQ∧t 50=sN (b.az.aQ.length:Int)∧t 51=sN m∧t 71=.bool C∧H 0=some ⟨0,113,[.mpc (fJ w) (iu (bT ah) w)],false,true,true⟩∧H 5=rV f 57 [sF bA b.az.au,sF eK b.az.aQ,sF (dW ah) b.az.aO,sF gr b.ba,sI b.aF]∧H 8=rV g 72 [sN D.bQ,sN D.aV]∧H 9=rV h 41 [sN j.1.bX.aq,sI j.1.bX.aa,sN j.1.b8.aq,sI j.1.b8.aa]∧H 12=rV k 60 [sN E.bn,sN E.aX,sN E.aV,.str E.M3]) (fun s=>s=au) ?_ ?_
      ·rintro C t H e ⟨f,g,h,k,i⟩ rfl;try dsimp only at a
       simp only[aY,seval,i];apply sp aw a<;>intro _ a
       ·cases a;simp only[aY,seval,i];apply ij;refine⟨f,g,h,?_⟩;and_intros<;>first|rfl|(simp only[aY,seval,i]<;>rfl)
       ·obtain⟨az,Z,a⟩:=ae a;have I:=bg (eI .i64) Z;simp only[bM]at I;simp only[aY,seval,p,i,I];refine bP (by kernel_rfl) ?_;obtain⟨aA,aa,a⟩:=ae a;have J:=bg (dW ah) aa;simp only[bM]at J;obtain⟨aB,ab,a⟩:=ae a;have K:=bg ah ab;simp only[bM]at K;obtain⟨aC,ad,a⟩:=ae a;simp only[aY,seval,l,i,J,K,ad];refine bP (by kernel_rfl) ?_;apply sp aw a<;>intro _ a
        ·obtain⟨aE,ag,a⟩:=ae a;cases a;simp only[aY,seval,i,ag];apply ij;refine⟨f,g,h,?_⟩;and_intros<;>first|rfl|(simp only[aY,seval,i]<;>rfl)
        ·cases a;simp only[aY,seval,i];apply ij;refine⟨f,g,h,?_⟩;and_intros<;>first|rfl|(simp only[aY,seval,i]<;>rfl)
      ·clear a;have a:=Y;simp only[aY,seval];apply sp bL a<;>intro _ a
       ·cases a;simp only[aY,seval];rw[aG];refine⟨_,rfl,?_⟩;refine⟨q,y,A,e+1,?_⟩;and_intros<;>first|rfl|(simp only[aY,seval,Q]<;>rfl)
       ·obtain⟨aF,ai,a⟩:=ae a;have L:=bg (dW ah) ai;simp only[bM]at L;obtain⟨aH,aj,a⟩:=ae a;have M:=bg ah aj;simp only[bM]at M;obtain⟨aI,an,a⟩:=ae a;cases a;simp only[aY,seval,l,Q,p,L,M,an];rw[aG];refine⟨_,rfl,?_⟩;refine⟨q,y,A,e+1,?_⟩;and_intros<;>first|rfl|(simp only[aY,seval,Q]<;>rfl)
     ·cases a;simp only[aY,seval];apply jN;refine⟨rfl,⟨q,?_,?_,?_,?_,?_,?_,?_,?_⟩⟩;all_goals ((simp only[aY,seval,Q]<;>rfl))
    ·rintro x t H e hx;obtain⟨B,rfl⟩:∃z,z=ar:=⟨_,rfl⟩;dsimp only at hx a;obtain⟨rfl,⟨n,ao⟩⟩:=hx;cases a;simp only[aY,seval,ao];apply ij;refine⟨n,?_⟩;and_intros<;>first|rfl|(simp only[aY,seval,ao]<;>rfl)
  ·cases a;simp only[aY,seval];apply jN;refine⟨rfl,⟨?_,?_⟩⟩;all_goals ((simp only[aY,seval,P]<;>rfl))
 ·rintro x t H e hx;obtain⟨v,rfl⟩:∃z,z=aq:=⟨_,rfl⟩;dsimp only at hx a;obtain⟨rfl,av⟩:=hx;cases a;simp only[aY,seval,av]
def Di:cn prog 65 rv:=cn.abU tok C3 mixed func65 (by kernel_rfl) ⟨by kernel_rfl,by kernel_rfl⟩ (fun _=>alK (by kernel_rfl)) (fun l x a r h=>E2 l x.1 x.2 (a,r) h)
def rQ(l:Option (D×Row))(d:List D):=ew (fV (bT bW) (dO (bT bW))) (fun x:cA×cA=>qn x.1 x.2) (fun r:Int =>.clean (.int .i64 r)) l d
def aik{β:Type}{F:cA×cA->Option β}{R:β->RK}(e:Int)(f:Int)(g:Int)(a:(List Int))(h:Int)(b:(List Int))(i:Int)(j:Int)(k:Int)(c:(List Int))(l:Int)(d:(List Int)):ew (fV (bT bW) (dO (bT bW))) F R none [.agg [.int .i64 e,.int .i64 f,.int .i64 g,.sl false false a.length (al (eI .i64) a),.int .i64 h,.sl false false b.length (al (eI .i64) b)],.agg [.int .i64 i,.int .i64 j,.int .i64 k,.sl false false c.length (al (eI .i64) c),.int .i64 l,.sl false false d.length (al (eI .i64) d)]]=(F ((cA.mk e f (ak.mk (aN.mk g a) (aN.mk h b))),(cA.mk i j (ak.mk (aN.mk k c) (aN.mk l d))))).map fun r=>(R r,none):=cJ _ _ _ ((cA.mk e f (ak.mk (aN.mk g a) (aN.mk h b))),(cA.mk i j (ak.mk (aN.mk k c) (aN.mk l d))))
def wA:Env:=(Am.ext (Am.ext bq 110 false dZ) 115 false Bl)
def Jf:bU prog wA:=((bU.none.add pq false).add LA false)
def Om:=ai @w<|ai @Ot<|ai @dZ.eq_1<|@wA.eq_1
def Jo:cn prog 67 rQ:=cn.jB (mode:=.clean) tok Jf mixed func67 (by kernel_rfl) (fun _ _=>rfl) (fun _=>by kernel_rfl) fun⟨f,g⟩ r a=>by
 replace a:qn f g=some r:=a;apply aL rfl ntmps67 results67;simp only[jD];unfold qn at a;obtain⟨h,b,a⟩:=ae a;obtain⟨i,c,a⟩:=ae a;have e:=R0 ([h,i]);simp only[b9,bM,List.length_cons,alf,Nat.reduceAdd]at e;obtain⟨j,d,a⟩:=ae a;simp only[Om,seval,b,c,e,d];refine bP (by kernel_rfl) ?_;cases a;simp only[seval]
def sO(l:Option (D×Row))(d:List D):=ew (dO (bT jw)) (fun x:aU=>AY x) (fun r:fW×Int =>.clean (.tup [.agg [.int .i64 r.1.aF,.sl false false r.1.aZ.length (al bW r.1.aZ)],.int .i64 r.2])) l d
def BS:Env:=(Am.xq 9 (118,6,1) (Am.ext (Am.ext bq 39 false iy) 65 true rv))
def Yt:bU prog BS:=(bU.xq ((bU.none.add wI false).add Di true) 9 (118,6,1))
def kP:=ai @w<|ai @qh<|ai @Jw<|ai @iy.eq_1<|@BS.eq_1
def abZ(i:aU)(r:fW×Int)(a:AY i=some r):Of tab BS FU 5 Tryz.f26 [.agg [.sl false false i.av.length (al (eI .i64) i.av),.sl false false i.an.length (al bm i.an)]] (tn tab Tryz.f26.results.toList (.clean (.tup [.agg [.int .i64 r.1.aF,.sl false false r.1.aZ.length (al bW r.1.aZ)],.int .i64 r.2]),none) (ahj r)):=by
 apply Mp rfl ntmps26 results26;simp only[BQ,BR];unfold AY at a;obtain⟨G,y,a⟩:=ae a;simp only[kP,seval,y];apply sp aw a<;>intro _ a
 ·cases a;simp only[kP,seval]
 ·simp only[kP,seval];obtain⟨E,A,a⟩:=ae a;refine aD (fun s t H e=>match s with|(n,g)=>∃j:Nat,∃k:Nat,∃f:Nat,t 1=.ptr 1 j 0∧t 2=.ptr 2 k 0∧t 6=.mp 21 f∧t 23=sF bm i.an∧t 24=sN (i.an.length:Int)∧t 25=sN n∧H 1=rV j 25 [sI i.av,sF bm i.an]∧H 2=rV k 66 [sN 0,.sl true true 0 []]∧H 21=some ⟨f,113,[.mpc (fJ g) (iu (bT ah) g)],false,true,true⟩) (fun o x t H e=>match o with|b=>x=.exit 0∧∃l:Nat,∃h:Nat,∃d:Nat,t 1=.ptr 1 l 0∧t 2=.ptr 2 h 0∧t 6=.mp 21 d∧H 1=rV l 25 [sI i.av,sF bm i.an]∧H 2=rV h 66 [sN 0,.sl true true 0 []]∧H 21=some ⟨d,113,[.mpc (fJ b) (iu (bT ah) b)],false,true,true⟩) A ?_ ?_ ?_
  ·refine⟨0,0,3,?_,?_,?_,?_,?_,?_,?_,?_,?_⟩;all_goals (rfl)
  ·rintro⟨n,g⟩ t H e ⟨j,k,f,w⟩ c a;simp only[sB]at a;simp only[kP,seval,w];apply sp aw a<;>intro _ a
   ·obtain⟨p,B,a⟩:=ae a;have q:=bg bm B;simp only[bM]at q;have C:=Fa g i.av p.az.au p.az.aQ p.az.aO p.ba p.aF;obtain⟨F,u,a⟩:=ae a;cases a;simp only[kP,seval,w,q,C,u];apply ij;refine⟨j,k,f,?_⟩;and_intros<;>first|rfl|(simp only[kP,seval,w]<;>rfl)
   ·cases a;simp only[kP,seval];apply jN;refine⟨rfl,⟨j,k,f,?_,?_,?_,?_,?_,?_⟩⟩;all_goals ((simp only[kP,seval,w]<;>rfl))
  ·rintro x t H e D;obtain⟨b,rfl⟩:∃z,z=E:=⟨_,rfl⟩;dsimp only at D a;obtain⟨rfl,⟨l,h,d,m⟩⟩:=D;simp only[kP,seval,m];apply sp aw a<;>intro _ a
   ·cases a;simp only[kP,seval,m]
   ·have v:bump (4*(e+1)+2) (e+1)=some (4*(e+1)+3):=aap rfl;simp only[kP,seval,m,v];rw[Ad];refine⟨b,(i.av.length:Int),d,e+1,h,(4*(e+1)+3),?_,?_,?_,?_,?_,?_,by omega,a⟩;all_goals first|rfl|(simp only[kP,seval,m]<;>rfl)
def LD:cn prog 26 sO:=cn.front tok Yt mixed func26 rfl (by kernel_rfl) ⟨by kernel_rfl,by kernel_rfl⟩ (fun _=>alK (by kernel_rfl)) (alK (by kernel_rfl)) (fun x r h=>abZ x r h) (fun r=>acf r)
def iL(l:Option (D×Row))(d:List D):=ew (fV (kb ah) (dO (kb ah))) (fun x:(List ak)×(List ak)=>js x.1 x.2) (fun r:ak =>.clean (.agg [.int .i64 r.bX.aq,.sl false false r.bX.aa.length (al (eI .i64) r.bX.aa),.int .i64 r.b8.aq,.sl false false r.b8.aa.length (al (eI .i64) r.b8.aa)])) l d
def Y4{β:Type}{F:(List ak)×(List ak)->Option β}{R:β->RK}(a:(List ak))(b:(List ak)):ew (fV (kb ah) (dO (kb ah))) F R none [.sl false false a.length (al ah a),.sl false false b.length (al ah b)]=(F (a,b)).map fun r=>(R r,none):=cJ _ _ _ (a,b)
def tq:Env:=(Am.ext (Am.ext (Am.ext bq 21 false cH) 23 false gA) 58 false gB)
def EY:bU prog tq:=(((bU.none.add kg false).add uw false).add uz false)
def gW:=ai @w<|ai @IV<|ai @cH.eq_1<|ai @tV<|ai @gA.eq_1<|ai @gB.eq_1<|@tq.eq_1
def xc:cn prog 45 iL:=cn.jB (mode:=.clean) tok EY mixed func45 (by kernel_rfl) (fun _ _=>rfl) (fun _=>by kernel_rfl) fun⟨G,B⟩ r a=>by
 replace a:js G B=some r:=a;apply aL rfl ntmps45 results45;simp only[jD];unfold js at a;obtain⟨N,C,a⟩:=ae a;simp only[gW,seval,C];obtain⟨J,D,a⟩:=ae a;refine aD (fun s t H e=>match s with|(q,h,i,j,k)=>∃l:Nat,∃m:Nat,t 0=sF ah G∧t 4=.ptr 4 l 0∧t 5=.ptr 5 m 0∧t 11=sF ah B∧t 12=sN (B.length:Int)∧t 13=sN q∧H 4=rV l 41 [sN 0,.sl true true 0 [],sN 0,.sl true true 0 []]∧H 5=rV m 41 [sN h,sI i,sN j,sI k]) (fun o x t H e=>match o with|(b,d,f,g)=>x=.exit 0∧∃n:Nat,∃p:Nat,t 4=.ptr 4 n 0∧t 5=.ptr 5 p 0∧H 4=rV n 41 [sN 0,.sl true true 0 [],sN 0,.sl true true 0 []]∧H 5=rV p 41 [sN b,sI d,sN f,sI g]) D ?_ ?_ ?_
 ·refine⟨0,1,?_,?_,?_,?_,?_,?_,?_,?_⟩;all_goals (rfl)
 ·rintro⟨q,h,i,j,k⟩ t H e ⟨l,m,v⟩ c a;simp only[kC]at a;simp only[gW,seval,v];apply sp aw a<;>intro _ a
  ·obtain⟨O,E,a⟩:=ae a;have w:=bg ah E;simp only[bM]at w;obtain⟨K,y,a⟩:=ae a;have u:=bg ah y;simp only[bM]at u;obtain⟨L,z,a⟩:=ae a;simp only[gW,seval,v,w,u,z];refine bP (by kernel_rfl) ?_;obtain⟨M,A,a⟩:=ae a;cases a;simp only[gW,seval,v,A];apply ij;refine⟨l,m,?_⟩;and_intros<;>first|rfl|(simp only[gW,seval,v]<;>rfl)
  ·cases a;simp only[gW,seval];apply jN;refine⟨rfl,⟨l,m,?_,?_,?_,?_⟩⟩;all_goals ((simp only[gW,seval,v]<;>rfl))
 ·rintro x t H e I;rcases J with⟨b,d,f,g⟩;dsimp only at I a;obtain⟨rfl,⟨n,p,F⟩⟩:=I;cases a;simp only[gW,seval,F]
def oL(l:Option (D×Row))(d:List D):=ew (fV (bT jw) (dO (kb (dW ah)))) (fun x:aU×(List (List ak))=>ma x.1 x.2) (fun r:(List ak) =>.clean (.sl false false r.length (al ah r))) l d
def tp:Env:=(Am.ext bq 45 false iL)
def EX:bU prog tp:=(bU.none.add xc false)
def cz:=ai @w<|ai @Y4<|ai @iL.eq_1<|@tp.eq_1
def E4:cn prog 42 oL:=cn.jB (mode:=.clean) tok EX mixed func42 (by kernel_rfl) (fun _ _=>rfl) (fun _=>by kernel_rfl) fun⟨C,T⟩ r a=>by
 replace a:ma C T=some r:=a;apply aL rfl ntmps42 results42;simp only[jD];unfold ma at a;obtain⟨x1,V,a⟩:=ae a;obtain⟨W,X,Y,G,Z⟩:=mk_one ah V;simp only[bM]at G;simp only[cz,seval,W,X,Y,G,Z];obtain⟨aa,I,a⟩:=ae a;refine aD (fun s t H e=>match s with|(b,D)=>∃i:Nat,t 1=sF (dW ah) T∧t 5=.buf 5 i 4 0 (D).length∧t 15=sF bm C.an∧t 16=sN (C.an.length:Int)∧t 17=sN b∧H 5=rW i 41 (al ah D)) (fun o x t H e=>match o with|j=>x=.exit 0∧∃k:Nat,t 5=.buf 5 k 4 0 (j).length∧H 5=rW k 41 (al ah j)) I ?_ ?_ ?_
 ·refine⟨1,?_,?_,?_,?_,?_,?_⟩;all_goals (rfl)
 ·rintro⟨b,D⟩ t H e ⟨i,U⟩ c a;simp only[jk]at a;simp only[cz,seval,U];apply sp aw a<;>intro _ a
  ·obtain⟨d,J,a⟩:=ae a;have l:=bg bm J;simp only[bM]at l;simp only[cz,seval,U,l];obtain⟨ab,K,a⟩:=ae a;refine aD (fun s t H e=>match s with|(q,E)=>∃h:Nat,∃m:Nat,t 1=sF (dW ah) T∧t 5=.buf 5 h 4 0 (E).length∧t 6=sN b∧t 7=.ptr 7 m 0∧t 15=sF bm C.an∧t 16=sN (C.an.length:Int)∧t 17=sN b∧t 24=sF eK d.az.aQ∧t 25=sN (d.az.aQ.length:Int)∧t 26=sN q∧H 5=rW h 41 (al ah E)∧H 7=rV m 57 [sF bA d.az.au,sF eK d.az.aQ,sF (dW ah) d.az.aO,sF gr d.ba,sI d.aF]) (fun o x t H e=>match o with|n=>x=.exit 2∧∃g:Nat,t 1=sF (dW ah) T∧t 5=.buf 5 g 4 0 (n).length∧t 15=sF bm C.an∧t 16=sN (C.an.length:Int)∧t 17=sN b∧H 5=rW g 41 (al ah n)) K ?_ ?_ ?_
   ·refine⟨i,e+1,?_⟩;and_intros<;>first|rfl|(simp only[cz,seval,U]<;>rfl)
   ·rintro⟨q,E⟩ t H e ⟨h,m,F⟩ c a;simp only[jl]at a;simp only[cz,seval,F];apply sp aw a<;>intro _ a
    ·obtain⟨ag,L,a⟩:=ae a;have p:=bg eK L;simp only[bM]at p;simp only[cz,seval,F,p];apply sp aw a<;>intro _ a
     ·obtain⟨ai,M,a⟩:=ae a;have u:=bg (eI .i64) M;simp only[bM]at u;obtain⟨aj,N,a⟩:=ae a;have v:=bg (dW ah) N;simp only[bM]at v;obtain⟨an,O,a⟩:=ae a;have w:=bg (dW ah) O;simp only[bM]at w;obtain⟨f,P,a⟩:=ae a;obtain⟨ao,y,a⟩:=ae a;have A:=bg ah y;simp only[bM]at A;have Q:=eT ah (x':=f) (fo:=0) (cs:=[.int .i64 f.bX.aq,.sl false false f.bX.aa.length (al (eI .i64) f.bX.aa),.int .i64 f.b8.aq,.sl false false f.b8.aa.length (al (eI .i64) f.b8.aa)]) y rfl (alK rfl);simp only[bM,Nat.add_zero]at Q;have B:=Q;simp only[putCells,List.length_cons,List.length_nil,alf,Nat.reduceAdd]at B;simp only[cz,seval,l,F,p,u,v,w,P,A,B];refine bP (by kernel_rfl) ?_;cases a;apply ij;refine⟨h,m,?_⟩;and_intros<;>first|rfl|(simp only[cz,seval,F]<;>rfl)
     ·cases a;simp only[cz,seval,F];apply ij;refine⟨h,m,?_⟩;and_intros<;>first|rfl|(simp only[cz,seval,F]<;>rfl)
    ·cases a;simp only[cz,seval];apply jN;refine⟨rfl,⟨h,?_,?_,?_,?_,?_,?_⟩⟩;all_goals ((simp only[cz,seval,F]<;>rfl))
   ·rintro x t H e R;obtain⟨n,rfl⟩:∃z,z=ab:=⟨_,rfl⟩;dsimp only at R a;obtain⟨rfl,⟨g,S⟩⟩:=R;cases a;simp only[cz,seval,S];apply ij;refine⟨g,?_⟩;and_intros<;>first|rfl|(simp only[cz,seval,S]<;>rfl)
  ·cases a;simp only[cz,seval];apply jN;refine⟨rfl,⟨i,?_,?_⟩⟩;all_goals ((simp only[cz,seval,U]<;>rfl))
 ·rintro x t H e R;obtain⟨j,rfl⟩:∃z,z=aa:=⟨_,rfl⟩;dsimp only at R a;obtain⟨rfl,⟨k,ad⟩⟩:=R;cases a;simp only[cz,seval,ad]
def nR(l:Option (D×Row))(d:List D):=ew (fV (bT ah) (dO (bT ah))) (fun x:ak×ak=>tl x.1 x.2) (fun r:ak×Int =>.clean (.tup [.agg [.int .i64 r.1.bX.aq,.sl false false r.1.bX.aa.length (al (eI .i64) r.1.bX.aa),.int .i64 r.1.b8.aq,.sl false false r.1.b8.aa.length (al (eI .i64) r.1.b8.aa)],.int .i64 r.2])) l d
def AJ:Env:=(Am.ext (Am.ext (Am.ext bq 23 false gA) 54 false bh) 71 false pQ)
def Qh:bU prog AJ:=(((bU.none.add uw false).add fm false).add HJ false)
def od:=ai @w<|ai @tV<|ai @gA.eq_1<|ai @kJ<|ai @bh.eq_1<|ai @IW<|ai @pQ.eq_1<|@AJ.eq_1
def Ew:cn prog 29 nR:=cn.jB (mode:=.clean) tok Qh mixed func29 (by kernel_rfl) (fun _ _=>rfl) (fun _=>by kernel_rfl) fun⟨h,i⟩ r a=>by
 replace a:tl h i=some r:=a;apply aL rfl ntmps29 results29;simp only[jD];unfold tl at a;obtain⟨p,j,a⟩:=ae a;simp only[od,seval,j];obtain⟨o,k,a⟩:=ae a;refine cK 0 (fun s t H e=>match s with|b=>∃c:Nat,∃d:Nat,∃f:Nat,t 2=.ptr 2 c 0∧t 3=.ptr 3 d 0∧t 4=.ptr 4 f 0∧t 13=.bool b∧H 2=rV c 41 [sN h.bX.aq,sI h.bX.aa,sN h.b8.aq,sI h.b8.aa]∧H 3=rV d 41 [sN i.bX.aq,sI i.bX.aa,sN i.b8.aq,sI i.b8.aa]∧H 4=rV f 41 [sN 0,.sl true true 0 [],sN 0,.sl true true 0 []]) (fun s=>s=o) ?_ ?_
 ·rintro b t H e ⟨c,d,f,g⟩ rfl;try dsimp only at a
  simp only[od,seval,g];apply sp aw a<;>intro _ a
  ·cases a;simp only[od,seval,g]
  ·obtain⟨q,l,a⟩:=ae a;obtain⟨u,m,a⟩:=ae a;simp only[od,seval,g,l,m];refine bP (by kernel_rfl) ?_;cases a;simp only[seval]
 ·clear a;have a:=k;simp only[od,seval];apply sp bL a<;>intro _ a
  ·cases a;simp only[od,seval];rw[aG];refine⟨_,rfl,?_⟩;refine⟨0,0,0,?_,?_,?_,?_,?_,?_,?_⟩;all_goals (rfl)
  ·obtain⟨v,n,a⟩:=ae a;cases a;simp only[od,seval,n];rw[aG];refine⟨_,rfl,?_⟩;refine⟨0,0,0,?_,?_,?_,?_,?_,?_,?_⟩;all_goals (rfl)
def lx(l:Option (D×Row))(d:List D):=ew (dO (bT xX)) (fun x:fW=>qq x) (fun r:(List ak) =>.clean (.sl false false r.length (al ah r))) l d
def Sp{β:Type}{F:fW->Option β}{R:β->RK}(b:Int)(a:(List cA)):ew (dO (bT xX)) F R none [.agg [.int .i64 b,.sl false false a.length (al bW a)]]=(F ((fW.mk b a))).map fun r=>(R r,none):=cJ _ _ _ ((fW.mk b a))
def yo:Env:=(Am.ext (Am.ext bq 21 false cH) 29 false nR)
def Nc:bU prog yo:=((bU.none.add kg false).add Ew false)
def fa:=ai @w<|ai @IV<|ai @cH.eq_1<|ai @tV<|ai @nR.eq_1<|@yo.eq_1
def Ce:cn prog 126 lx:=cn.jB (mode:=.clean) tok Nc mixed func126 (by kernel_rfl) (fun _ _=>rfl) (fun _=>by kernel_rfl) fun B r a=>by
 replace a:qq B=some r:=a;apply aL rfl ntmps126 results126;simp only[jD];unfold qq at a;obtain⟨Z,Q,a⟩:=ae a;obtain⟨R,S,T,F,U⟩:=mk_one ah Q;simp only[bM]at F;simp only[fa,seval,R,S,T,F,U];obtain⟨o7,V,a⟩:=ae a;refine aD (fun s t H e=>match s with|(p,C)=>∃g:Nat,∃h:Nat,t 1=.ptr 1 g 0∧t 3=.buf 3 h 4 0 (C).length∧t 11=sN ((Z).length:Int)∧t 12=sN p∧H 1=rV g 66 [sN B.aF,sF bW B.aZ]∧H 3=rW h 41 (al ah C)) (fun o x t H e=>match o with|i=>x=.exit 0∧∃j:Nat,∃d:Nat,t 1=.ptr 1 j 0∧t 3=.buf 3 d 4 0 (i).length∧H 1=rV j 66 [sN B.aF,sF bW B.aZ]∧H 3=rW d 41 (al ah i)) V ?_ ?_ ?_
 ·refine⟨0,1,?_,?_,?_,?_,?_,?_⟩;all_goals (rfl)
 ·rintro⟨p,C⟩ t H e ⟨g,h,O⟩ c a;simp only[pg]at a;simp only[fa,seval,O];apply sp aw a<;>intro _ a
  ·obtain⟨D,W,a⟩:=ae a;obtain⟨aa,q,a⟩:=ae a;have u:=bg ah q;simp only[bM]at u;have G:=eT ah (x':=D) (fo:=0) (cs:=[.int .i64 D.bX.aq,.sl false false D.bX.aa.length (al (eI .i64) D.bX.aa),.int .i64 D.b8.aq,.sl false false D.b8.aa.length (al (eI .i64) D.b8.aa)]) q rfl (alK rfl);simp only[bM,Nat.add_zero]at G;have v:=G;simp only[putCells,List.length_cons,List.length_nil,alf,Nat.reduceAdd]at v;cases a;simp only[fa,seval,O,W,u,v];apply ij;refine⟨g,h,?_⟩;and_intros<;>first|rfl|(simp only[fa,seval,O]<;>rfl)
  ·cases a;simp only[fa,seval];apply jN;refine⟨rfl,⟨g,h,?_,?_,?_,?_⟩⟩;all_goals ((simp only[fa,seval,O]<;>rfl))
 ·rintro x t H e I;obtain⟨i,rfl⟩:∃z,z=o7:=⟨_,rfl⟩;dsimp only at I a;obtain⟨rfl,⟨j,d,J⟩⟩:=I;simp only[fa,seval,J];obtain⟨X,K,a⟩:=ae a;refine aD (fun s t H e=>match s with|(w,E)=>∃k:Nat,t 3=.buf 3 k 4 0 (E).length∧t 21=sF bW B.aZ∧t 22=sN (B.aZ.length:Int)∧t 23=sN w∧H 3=rW k 41 (al ah E)) (fun o x t H e=>match o with|l=>x=.exit 2∧∃m:Nat,t 3=.buf 3 m 4 0 (l).length∧H 3=rW m 41 (al ah l)) K ?_ ?_ ?_
  ·refine⟨d,?_⟩;and_intros<;>first|rfl|(simp only[fa,seval,J]<;>rfl)
  ·rintro⟨w,E⟩ t H e ⟨k,P⟩ c a;simp only[pj]at a;simp only[fa,seval,P];apply sp aw a<;>intro _ a
   ·obtain⟨ab,L,a⟩:=ae a;have y:=bg bW L;simp only[bM]at y;obtain⟨ad,n,a⟩:=ae a;have f:=bg ah n;simp only[bM]at f;obtain⟨b,M,a⟩:=ae a;have f:=bg ah n;simp only[bM]at f;have N:=eT ah (x':=b.1) (fo:=0) (cs:=[.int .i64 b.1.bX.aq,.sl false false b.1.bX.aa.length (al (eI .i64) b.1.bX.aa),.int .i64 b.1.b8.aq,.sl false false b.1.b8.aa.length (al (eI .i64) b.1.b8.aa)]) n rfl (alK rfl);simp only[bM,Nat.add_zero]at N;have A:=N;simp only[putCells,List.length_cons,List.length_nil,alf,Nat.reduceAdd]at A;simp only[fa,seval,P,y,M,f,A];refine bP (by kernel_rfl) ?_;cases a;apply ij;refine⟨k,?_⟩;and_intros<;>first|rfl|(simp only[fa,seval,P]<;>rfl)
   ·cases a;simp only[fa,seval];apply jN;refine⟨rfl,⟨k,?_,?_⟩⟩;all_goals ((simp only[fa,seval,P]<;>rfl))
  ·rintro x t H e I;obtain⟨l,rfl⟩:∃z,z=X:=⟨_,rfl⟩;dsimp only at I a;obtain⟨rfl,⟨m,Y⟩⟩:=I;cases a;simp only[fa,seval,Y]
def qE(l:Option (D×Row))(d:List D):=ew (dO (bT ah)) (fun x:ak=>rf x) (fun r:Bool =>.clean (.bool r)) l d
def uV:Env:=(Am.ext bq 24 false cI)
def GW:bU prog uV:=(bU.none.add kr false)
def JF:=ai @w<|ai @kJ<|ai @cI.eq_1<|@uV.eq_1
def HS:cn prog 127 qE:=cn.jB (mode:=.clean) tok GW mixed func127 (by kernel_rfl) (fun _ _=>rfl) (fun _=>by kernel_rfl) fun c r a=>by
 replace a:rf c=some r:=a;apply aL rfl ntmps127 results127;simp only[jD];unfold rf at a;obtain⟨d,b,a⟩:=ae a;cases a;simp only[JF,seval,b]
def eO(l:Option (D×Row))(d:List D):=ew (fV (kb ah) (dO (Oq 127))) (fun x:(List ak)×Unit=>dR x.1) (fun r:Int =>.clean (.int .i64 r)) l d
def aeH{β:Type}{F:(List ak)×Unit->Option β}{R:β->RK}(a:(List ak)):ew (fV (kb ah) (dO (Oq 127))) F R none [.sl false false a.length (al ah a),.fn 127]=(F (a,())).map fun r=>(R r,none):=cJ _ _ _ (a,())
def gF:Env:=(Am.ext bq 127 false qE)
def pI:bU prog gF:=(bU.none.add HS false)
def bN:=ai @w<|ai @kJ<|ai @qE.eq_1<|@gF.eq_1
def pL:cn prog 102 eO:=cn.jB (mode:=.clean) tok pI mixed func102 (by kernel_rfl) (fun _ _=>rfl) (fun _=>by kernel_rfl) fun⟨h,_⟩ r a=>by
 replace a:dR h=some r:=a;apply aL rfl ntmps102 results102;simp only[jD];unfold dR at a;simp only[bN,seval];obtain⟨l,i,a⟩:=ae a;refine aD (fun s t H e=>match s with|b=>t 0=sF ah h∧t 1=.fn 127∧t 7=sN (h.length:Int)∧t 8=sN b) (fun o x t H e=>match o with|(.inl _)=>x=.exit 0|(.inr r)=>x=.ret∧gE .clean tab none [.tmp 4] ⟨t,EH H,e⟩=some (.clean (.int .i64 r),none)) i ?_ ?_ ?_
 ·refine⟨?_,?_,?_,?_⟩;all_goals (rfl)
 ·rintro b t H e f c a;simp only[eB]at a;simp only[bN,seval,f];apply sp aw a<;>intro _ a
  ·obtain⟨n,j,a⟩:=ae a;have d:=bg ah j;simp only[bM]at d;obtain⟨p,k,a⟩:=ae a;simp only[bN,seval,f,d,k];apply sp aw a<;>intro _ a
   ·cases a;simp only[bN,seval];refine tU ⟨rfl,?_⟩;simp only[bN,seval]
   ·cases a;simp only[bN,seval,f];apply ij;and_intros<;>first|rfl|(simp only[bN,seval,f]<;>rfl)
  ·cases a;simp only[bN,seval];apply jN;exact rfl
 ·rintro x t H e g;rcases l with _|q
  ·dsimp only at g a;subst g;cases a;simp only[bN,seval]
  ·dsimp only at g a;obtain⟨rfl,m⟩:=g;cases a;simp only[a8,bj,cD,cZ];exact m
def dS(l:Option (D×Row))(d:List D):=ew (fV (kb ah) (dO (Oq 127))) (fun x:(List ak)×Unit=>cL x.1) (fun r:Bool =>.clean (.bool r)) l d
def fQ:Env:=(Am.ext bq 102 false eO)
def nT:bU prog fQ:=(bU.none.add pL false)
def oK:=ai @w<|ai @aeH<|ai @eO.eq_1<|@fQ.eq_1
def nX:cn prog 52 dS:=cn.jB (mode:=.clean) tok nT mixed func52 (by kernel_rfl) (fun _ _=>rfl) (fun _=>by kernel_rfl) fun⟨c,_⟩ r a=>by
 replace a:cL c=some r:=a;apply aL rfl ntmps52 results52;simp only[jD];unfold cL at a;obtain⟨d,b,a⟩:=ae a;cases a;simp only[oK,seval,b]
def lv(l:Option (D×Row))(d:List D):=ew (dO (bT xX)) (fun x:fW=>qm x) (fun r:Bool =>.clean (.bool r)) l d
def yn:Env:=(Am.ext (Am.ext (Am.ext (Am.ext (Am.ext (Am.ext bq 24 false cI) 52 false dS) 54 false bh) 67 false rQ) 81 false dt) 126 false lx)
def Nb:bU prog yn:=((((((bU.none.add kr false).add nX false).add fm false).add Jo false).add nw false).add Ce false)
def bt:=ai @w<|ai @kJ<|ai @cI.eq_1<|ai @aeH<|ai @dS.eq_1<|ai @bh.eq_1<|ai @aik<|ai @rQ.eq_1<|ai @Jv<|ai @dt.eq_1<|ai @Sp<|ai @lx.eq_1<|@yn.eq_1
def Cd:cn prog 73 lv:=cn.jB (mode:=.clean) tok Nb mixed func73 (by kernel_rfl) (fun _ _=>rfl) (fun _=>by kernel_rfl) fun i r a=>by
 replace a:qm i=some r:=a;apply aL rfl ntmps73 results73;simp only[jD];unfold qm at a;obtain⟨Z,K,a⟩:=ae a;simp only[bt,seval,K];obtain⟨P,L,a⟩:=ae a;refine cK 0 (fun s t H e=>match s with|k=>∃g:Nat,t 1=.ptr 1 g 0∧t 14=.bool k∧H 1=rV g 66 [sN i.aF,sF bW i.aZ]) (fun s=>s=P) ?_ ?_
 ·rintro k t H e ⟨g,v⟩ rfl;try dsimp only at a
  simp only[bt,seval,v];apply sp aw a<;>intro _ a
  ·cases a;simp only[bt,seval]
  ·simp only[bt,seval,v];obtain⟨M,w,a⟩:=ae a;refine aD (fun s t H e=>match s with|h=>∃b:Nat,t 1=.ptr 1 b 0∧t 16=sF bW i.aZ∧t 17=sN (i.aZ.length:Int)∧t 18=sN h∧H 1=rV b 66 [sN i.aF,sF bW i.aZ]) (fun o x t H e=>match o with|(.inl _)=>x=.exit 0∧∃l:Nat,t 1=.ptr 1 l 0∧H 1=rV l 66 [sN i.aF,sF bW i.aZ]|(.inr r)=>x=.ret∧gE .clean tab none [.tmp 2] ⟨t,EH H,e⟩=some (.clean (.bool r),none)) w ?_ ?_ ?_
   ·refine⟨g,?_⟩;and_intros<;>first|rfl|(simp only[bt,seval,v]<;>rfl)
   ·rintro h t H e ⟨b,p⟩ c a;simp only[pf]at a;simp only[bt,seval,p];apply sp aw a<;>intro _ a
    ·obtain⟨j,y,a⟩:=ae a;have q:=bg bW y;simp only[bM]at q;obtain⟨Q,z,a⟩:=ae a;simp only[bt,seval,p,q,z];obtain⟨N,A,a⟩:=ae a;refine cK 0 (fun s t H e=>match s with|m=>∃d:Nat,∃n:Nat,t 1=.ptr 1 d 0∧t 3=sN h∧t 4=.ptr 4 n 0∧t 16=sF bW i.aZ∧t 17=sN (i.aZ.length:Int)∧t 18=sN h∧t 50=.bool m∧H 1=rV d 66 [sN i.aF,sF bW i.aZ]∧H 4=rV n 118 [sN j.db,sN j.jM,sN j.fj.bX.aq,sI j.fj.bX.aa,sN j.fj.b8.aq,sI j.fj.b8.aa]) (fun s=>s=N) ?_ ?_
     ·rintro m t H e ⟨d,n,f⟩ rfl;try dsimp only at a
      simp only[bt,seval,f];apply sp aw a<;>intro _ a
      ·cases a;simp only[bt,seval];refine tU ⟨rfl,?_⟩;simp only[bt,seval]
      ·simp only[bt,seval,f];apply sp zC a<;>intro _ a
       ·obtain⟨R,B,a⟩:=ae a;have u:=bg bW B;simp only[bM]at u;obtain⟨S,C,a⟩:=ae a;simp only[bt,seval,f,u,C];refine bP (by kernel_rfl) ?_;apply sp aw a<;>intro _ a
        ·cases a;simp only[bt,seval];refine tU ⟨rfl,?_⟩;simp only[bt,seval]
        ·cases a;simp only[bt,seval,f];apply ij;refine⟨d,?_⟩;and_intros<;>first|rfl|(simp only[bt,seval,f]<;>rfl)
       ·simp only[bt,seval,f];refine bP (by kernel_rfl) ?_;cases a;apply ij;refine⟨d,?_⟩;and_intros<;>first|rfl|(simp only[bt,seval,f]<;>rfl)
     ·clear a;have a:=A;simp only[bt,seval];apply sp bL a<;>intro _ a
      ·cases a;simp only[bt,seval];rw[aG];refine⟨_,rfl,?_⟩;refine⟨b,e+1,?_⟩;and_intros<;>first|rfl|(simp only[bt,seval,p]<;>rfl)
      ·obtain⟨T,D,a⟩:=ae a;simp only[bt,seval,p,D];apply sp bL a<;>intro _ a
       ·cases a;simp only[bt,seval];rw[aG];refine⟨_,rfl,?_⟩;refine⟨b,e+1,?_⟩;and_intros<;>first|rfl|(simp only[bt,seval,p]<;>rfl)
       ·obtain⟨U,E,a⟩:=ae a;simp only[bt,seval,E];apply sp bL a<;>intro _ a
        ·cases a;simp only[bt,seval];rw[aG];refine⟨_,rfl,?_⟩;refine⟨b,e+1,?_⟩;and_intros<;>first|rfl|(simp only[bt,seval,p]<;>rfl)
        ·obtain⟨V,F,a⟩:=ae a;cases a;simp only[bt,seval,F];rw[aG];refine⟨_,rfl,?_⟩;refine⟨b,e+1,?_⟩;and_intros<;>first|rfl|(simp only[bt,seval,p]<;>rfl)
    ·cases a;simp only[bt,seval];apply jN;refine⟨rfl,⟨b,?_,?_⟩⟩;all_goals ((simp only[bt,seval,p]<;>rfl))
   ·rintro x t H e J;rcases M with _|rb
    ·dsimp only at J a;obtain⟨rfl,⟨l,O⟩⟩:=J;obtain⟨W,G,a⟩:=ae a;obtain⟨X,I,a⟩:=ae a;cases a;simp only[bt,seval,O,G,I]
    ·dsimp only at J a;obtain⟨rfl,Y⟩:=J;cases a;simp only[a8,bj,cD,cZ];exact Y
 ·clear a;have a:=L;simp only[bt,seval];apply sp bL a<;>intro _ a
  ·cases a;simp only[bt,seval];rw[aG];refine⟨_,rfl,?_⟩;refine⟨0,?_,?_,?_⟩;all_goals (rfl)
  ·cases a;simp only[bt,seval];rw[aG];refine⟨_,rfl,?_⟩;refine⟨0,?_,?_,?_⟩;all_goals (rfl)
def lh(l:Option (D×Row))(d:List D):=ew (dO (bT ah)) (fun x:ak=>kM x) (fun r:Bool =>.clean (.bool r)) l d
def oY:Env:=(Am.ext bq 54 false bh)
def AR:bU prog oY:=(bU.none.add fm false)
def Cx:=ai @w<|ai @kJ<|ai @bh.eq_1<|@oY.eq_1
def A2:cn prog 128 lh:=cn.jB (mode:=.clean) tok AR mixed func128 (by kernel_rfl) (fun _ _=>rfl) (fun _=>by kernel_rfl) fun c r a=>by
 replace a:kM c=some r:=a;apply aL rfl ntmps128 results128;simp only[jD];unfold kM at a;obtain⟨d,b,a⟩:=ae a;cases a;simp only[Cx,seval,b]
def dK(l:Option (D×Row))(d:List D):=ew (fV (kb ah) (dO (Oq 128))) (fun x:(List ak)×Unit=>dh x.1) (fun r:Int =>.clean (.int .i64 r)) l d
def aeI{β:Type}{F:(List ak)×Unit->Option β}{R:β->RK}(a:(List ak)):ew (fV (kb ah) (dO (Oq 128))) F R none [.sl false false a.length (al ah a),.fn 128]=(F (a,())).map fun r=>(R r,none):=cJ _ _ _ (a,())
def fA:Env:=(Am.ext bq 128 false lh)
def np:bU prog fA:=(bU.none.add A2 false)
def bx:=ai @w<|ai @kJ<|ai @lh.eq_1<|@fA.eq_1
def ny:cn prog 102 dK:=cn.jB (mode:=.clean) tok np mixed func102 (by kernel_rfl) (fun _ _=>rfl) (fun _=>by kernel_rfl) fun⟨h,_⟩ r a=>by
 replace a:dh h=some r:=a;apply aL rfl ntmps102 results102;simp only[jD];unfold dh at a;simp only[bx,seval];obtain⟨l,i,a⟩:=ae a;refine aD (fun s t H e=>match s with|b=>t 0=sF ah h∧t 1=.fn 128∧t 7=sN (h.length:Int)∧t 8=sN b) (fun o x t H e=>match o with|(.inl _)=>x=.exit 0|(.inr r)=>x=.ret∧gE .clean tab none [.tmp 4] ⟨t,EH H,e⟩=some (.clean (.int .i64 r),none)) i ?_ ?_ ?_
 ·refine⟨?_,?_,?_,?_⟩;all_goals (rfl)
 ·rintro b t H e f c a;simp only[dF]at a;simp only[bx,seval,f];apply sp aw a<;>intro _ a
  ·obtain⟨n,j,a⟩:=ae a;have d:=bg ah j;simp only[bM]at d;obtain⟨p,k,a⟩:=ae a;simp only[bx,seval,f,d,k];apply sp aw a<;>intro _ a
   ·cases a;simp only[bx,seval];refine tU ⟨rfl,?_⟩;simp only[bx,seval]
   ·cases a;simp only[bx,seval,f];apply ij;and_intros<;>first|rfl|(simp only[bx,seval,f]<;>rfl)
  ·cases a;simp only[bx,seval];apply jN;exact rfl
 ·rintro x t H e g;rcases l with _|q
  ·dsimp only at g a;subst g;cases a;simp only[bx,seval]
  ·dsimp only at g a;obtain⟨rfl,m⟩:=g;cases a;simp only[a8,bj,cD,cZ];exact m
def dm(l:Option (D×Row))(d:List D):=ew (fV (kb ah) (dO (Oq 128))) (fun x:(List ak)×Unit=>cO x.1) (fun r:Bool =>.clean (.bool r)) l d
def eR:Env:=(Am.ext bq 102 false dK)
def lF:bU prog eR:=(bU.none.add ny false)
def mL:=ai @w<|ai @aeI<|ai @dK.eq_1<|@eR.eq_1
def lQ:cn prog 52 dm:=cn.jB (mode:=.clean) tok lF mixed func52 (by kernel_rfl) (fun _ _=>rfl) (fun _=>by kernel_rfl) fun⟨c,_⟩ r a=>by
 replace a:cO c=some r:=a;apply aL rfl ntmps52 results52;simp only[jD];unfold cO at a;obtain⟨d,b,a⟩:=ae a;cases a;simp only[mL,seval,b]
def nG(l:Option (D×Row))(d:List D):=ew (fV (kb ah) (dO (aI .i64))) (fun x:(List ak)×Int=>kV x.1 x.2) (fun r:Bool =>.clean (.bool r)) l d
def ail{β:Type}{F:(List ak)×Int->Option β}{R:β->RK}(a:(List ak))(b:Int):ew (fV (kb ah) (dO (aI .i64))) F R none [.sl false false a.length (al ah a),.int .i64 b]=(F (a,b)).map fun r=>(R r,none):=cJ _ _ _ (a,b)
def rG:Env:=(Am.ext bq 52 false dm)
def C5:bU prog rG:=(bU.none.add lQ false)
def rJ:=ai @w<|ai @aeI<|ai @dm.eq_1<|@rG.eq_1
def Dl:cn prog 74 nG:=cn.jB (mode:=.clean) tok C5 mixed func74 (by kernel_rfl) (fun _ _=>rfl) (fun _=>by kernel_rfl) fun⟨c,d⟩ r a=>by
 replace a:kV c d=some r:=a;apply aL rfl ntmps74 results74;simp only[jD];unfold kV at a;simp only[rJ,seval];apply sp fP a<;>intro _ a
 ·obtain⟨e,b,a⟩:=ae a;cases a;simp only[rJ,seval,b]
 ·cases a;simp only[rJ,seval]
def tZ(l:Option (D×Row))(d:List D):=ew (dO (bT xX)) (fun x:fW=>jZ x) (fun r:(List Int) =>.clean (.sl false false r.length (al (eI .i64) r))) l d
def ym:Env:=(Am.xq 18 (3,1,0) (Am.ext (Am.ext (Am.ext bq 24 false cI) 73 false lv) 126 false lx))
def Na:bU prog ym:=(bU.xq (((bU.none.add kr false).add Cd false).add Ce false) 18 (3,1,0))
def bk:=ai @w<|ai @kJ<|ai @cI.eq_1<|ai @Sp<|ai @lv.eq_1<|ai @lx.eq_1<|@ym.eq_1
def NB:cn prog 136 tZ:=cn.jB (mode:=.clean) tok Na mixed func136 (by kernel_rfl) (fun _ _=>rfl) (fun _=>by kernel_rfl) fun p0 r a=>by
 replace a:jZ p0=some r:=a;apply aL rfl ntmps136 results136;simp only[jD];unfold jZ at a;obtain⟨r1,bG,a⟩:=ae a;simp only[bk,seval,-Int.reduceToNat,bG];apply sp aw a<;>intro _ a
 ·cases a;simp only[bk,seval,-Int.reduceToNat]
 ·obtain⟨x3,b4,a⟩:=ae a;have bH:=WC (E:=(PH (eI .i64))) (ty':=3) (s:=1) (f:=0) (k:=.i64) NZ (by rfl) rfl rfl rfl rfl rfl b4;obtain⟨aR,dp,dq,dr,ds⟩:=mk_one (PH (eI .i64)) b4;simp only[bk,seval,-Int.reduceToNat,bH,aR];obtain⟨c9,b5,a⟩:=ae a;refine aD (fun s t H e=>match s with|(a7,V)=>∃W:Nat,∃w:Nat,∃l:Nat,t 1=.ptr 1 W 0∧t 3=.buf 18 w 1 0 (V).length∧t 20=sF bW p0.aZ∧t 21=sN (p0.aZ.length:Int)∧t 22=sN a7∧H 1=rV W 66 [sN p0.aF,sF bW p0.aZ]∧H 18=some ⟨w,22,[.nr 3 1 l (al (PH (eI .i64)) V)],false,true,true⟩∧l<=4*e) (fun o x t H e=>match o with|b=>x=.exit 0∧∃X:Nat,∃p:Nat,∃h:Nat,t 1=.ptr 1 X 0∧t 3=.buf 18 p 1 0 (b).length∧H 1=rV X 66 [sN p0.aF,sF bW p0.aZ]∧H 18=some ⟨p,22,[.nr 3 1 h (al (PH (eI .i64)) b)],false,true,true⟩∧h<=4*e) b5 ?_ ?_ ?_
  ·refine⟨0,2,4*(2)+2,?_,?_,?_,?_,?_,?_,?_,?_⟩;all_goals (first|rfl|omega|(simp only[bk,seval,-Int.reduceToNat,bG,bH,aR]<;>rfl))
  ·rintro⟨a7,V⟩ t H e ⟨W,w,l,Za⟩ c a;simp only[my]at a;simp only[bk,seval,-Int.reduceToNat,Za];apply sp aw a<;>intro _ a
   ·obtain⟨dt,b6,a⟩:=ae a;have a8:=bg bW b6;simp only[bM]at a8;obtain⟨du,A,a⟩:=ae a;have B:=bg (PH (eI .i64)) A;simp only[bM]at B;obtain⟨bI,b7,a⟩:=ae a;obtain⟨b8,ba,b9,ca⟩:=lj (eI .i64) b7;simp only[bM]at ba;have B:=bg (PH (eI .i64)) A;simp only[bM]at B;have cb:=RU (PH (eI .i64)) (x':=bI) 0 .und (.nx bI.length (al (eI .i64) bI)) A rfl (alK rfl);have bb:=WT (PH (eI .i64)) 0 .und A (alK rfl);simp only[bM,Nat.add_zero]at cb bb;have bc:=cb;simp only[putCells,List.length_cons,List.length_nil,alf]at bc;have Y:=bb;simp only[putCells,List.length_cons,List.length_nil,alf]at Y;have cc:bump l (e+1+1)=some (4*(e+1+1)+1):=jO (by omega);simp only[bk,seval,-Int.reduceToNat,Za,a8,b8,ba,b9,ca,B,bc,Y,cc];refine bP (by kernel_rfl) ?_;cases a;apply ij;refine⟨W,w,4*(e+1+1)+1,?_,?_,?_,?_,?_,?_,?_,?_⟩;all_goals (first|rfl|omega|(simp only[bk,seval,-Int.reduceToNat,Za]<;>rfl))
   ·cases a;simp only[bk,seval,-Int.reduceToNat];apply jN;refine⟨rfl,⟨W,w,l,?_,?_,?_,?_,?_⟩⟩;all_goals (first|rfl|omega|(simp only[bk,seval,-Int.reduceToNat,Za]<;>rfl))
  ·rintro x t H e Z;obtain⟨b,rfl⟩:∃z,z=c9:=⟨_,rfl⟩;dsimp only at Z a;obtain⟨rfl,⟨X,p,h,cd⟩⟩:=Z;obtain⟨dv,cf,a⟩:=ae a;obtain⟨cg,bd,bf,aa,bh⟩:=mk_one (eI .i64) cf;simp only[bM]at aa;obtain⟨ch,bj,a⟩:=ae a;simp only[bk,seval,-Int.reduceToNat,aR,cd,bd,bf,aa,bh,bj];obtain⟨da,cj,a⟩:=ae a;refine aD (fun s t H e=>match s with|(bl,bJ,bK)=>∃T:Nat,∃ab:Nat,∃m:Nat,∃g:Nat,∃ad:Nat,∃ag:List D,t 3=.buf 18 m 1 0 (b).length∧t 6=.buf 6 T 1 0 (bJ).length∧t 7=.buf 7 ab 1 ad (bK).length∧t 44=sF ah ch∧t 45=sN (ch.length:Int)∧t 46=sN bl∧H 6=rW T 3 (al (eI .i64) bJ)∧H 7=rW ab 3 (ag)∧H 18=some ⟨m,22,[.nr 3 1 g (al (PH (eI .i64)) b)],false,true,true⟩∧g<=4*e∧mY (eI .i64) ag ad bK) (fun o x t H e=>match o with|(ai,aj)=>x=.exit 2∧∃C:Nat,∃F:Nat,∃q:Nat,∃i:Nat,∃G:Nat,∃I:List D,t 3=.buf 18 q 1 0 (b).length∧t 6=.buf 6 C 1 0 (ai).length∧t 7=.buf 7 F 1 G (aj).length∧H 6=rW C 3 (al (eI .i64) ai)∧H 7=rW F 3 (I)∧H 18=some ⟨q,22,[.nr 3 1 i (al (PH (eI .i64)) b)],false,true,true⟩∧i<=4*e∧mY (eI .i64) I G aj) cj ?_ ?_ ?_
   ·refine⟨e,e+1,p,h,0,(al (eI .i64) ([])),?_,?_,?_,?_,?_,?_,?_,?_,?_,?_,(mY.self (eI .i64) ([]))⟩;all_goals (first|rfl|omega|(simp only[bk,seval,-Int.reduceToNat,cd]<;>rfl))
   ·rintro⟨bl,bJ,bK⟩ t H e ⟨T,ab,m,g,ad,ag,bL,an,bN,ao,aq,J,ck,bO,bm,db,aS⟩ c a;simp only[mz]at a;have ar:=aS.fit;have au:=aS.eq;simp only[bM]at ar au;simp only[bk,seval,-Int.reduceToNat,aq,J];apply sp aw a<;>intro _ a
    ·obtain⟨dw,cm,a⟩:=ae a;have av:=bg ah cm;simp only[bM]at av;obtain⟨dx,bn,a⟩:=ae a;have ax:=bg (eI .i64) bn;simp only[bM]at ax;have cp:=eT (eI .i64) (x':=(-1)) (fo:=0) (cs:=[.int .i64 (-1)]) bn rfl (alK rfl);simp only[bM,Nat.add_zero]at cp;have bo:=cp;simp only[putCells,List.length_cons,List.length_nil,alf]at bo;obtain⟨dy,cq,a⟩:=ae a;simp only[bk,seval,-Int.reduceToNat,an,ao,J,ck,av,ax,bo,cq];apply sp aw a<;>intro _ a
     ·obtain⟨dz,bp,a⟩:=ae a;have cr:=bg (eI .i64) bp;simp only[bM,amb]at cr;have ct:=eT (eI .i64) (x':=0) (fo:=0) (cs:=[.int .i64 0]) bp rfl (alK rfl);simp only[bM,Nat.add_zero]at ct;have bq:=ct;simp only[putCells,List.length_cons,List.length_nil,alf]at bq;obtain⟨cu,cv,a⟩:=ae a;obtain⟨cw,br,cx,cy⟩:=lj (eI .i64) cv;simp only[bM]at br;cases a;simp only[bk,seval,-Int.reduceToNat,an,bN,J,bO,ar,au,av,ax,bq,cw,br,cx,cy];apply ij;refine⟨T,e+1+1+1+1+1,m,g,0,(al (eI .i64) cu),?_,?_,?_,?_,?_,?_,?_,?_,?_,?_,(mY.self (eI .i64) cu)⟩;all_goals (first|rfl|omega|(simp only[bk,seval,-Int.reduceToNat,bL,an,ao,aq,bm]<;>rfl))
     ·cases a;simp only[bk,seval,-Int.reduceToNat,J];apply ij;refine⟨T,ab,m,g,ad,ag,?_,?_,?_,?_,?_,?_,?_,?_,?_,?_,aS⟩;all_goals (first|rfl|omega|(simp only[bk,seval,-Int.reduceToNat,bL,an,bN,ao,aq,bO,bm]<;>rfl))
    ·cases a;simp only[bk,seval,-Int.reduceToNat];apply jN;refine⟨rfl,⟨T,ab,m,g,ad,ag,?_,?_,?_,?_,?_,?_,?_,aS⟩⟩;all_goals (first|rfl|omega|(simp only[bk,seval,-Int.reduceToNat,bL,an,bN,ck,bO]<;>rfl))
   ·rintro x t H e Z;rcases da with⟨ai,aj⟩;dsimp only at Z a;obtain⟨rfl,⟨C,F,q,i,G,I,cz,cA,cB,cC,cD,bQ,aT,ay⟩⟩:=Z;have K:=ay.fit;have L:=ay.eq;simp only[bM]at K L;simp only[bk,seval,-Int.reduceToNat];obtain⟨dc,cE,a⟩:=ae a;refine aD (fun s t H e=>match s with|(bR,bS)=>∃az:Nat,∃bT:Nat,∃M:Nat,∃u:Nat,∃aV:Nat,∃aW:List D,t 3=.buf 18 M 1 0 (b).length∧t 6=.buf 6 az 1 0 (bR).length∧t 7=.buf 7 bT 1 aV (bS).length∧H 6=rW az 3 (al (eI .i64) bR)∧H 7=rW bT 3 (aW)∧H 18=some ⟨M,22,[.nr 3 1 u (al (PH (eI .i64)) b)],false,true,true⟩∧u<=4*e∧mY (eI .i64) aW aV bS) (fun o x t H e=>match o with|aA=>x=.exit 4∧∃aB:Nat,t 6=.buf 6 aB 1 0 (aA).length∧H 6=rW aB 3 (al (eI .i64) aA)) cE ?_ ?_ ?_
    ·refine⟨C,F,q,i,G,I,?_,?_,?_,?_,?_,?_,?_,ay⟩;all_goals (first|rfl|omega|(simp only[bk,seval,-Int.reduceToNat,bG,bH,aR,cg,bd,bf,aa,bh,bj,cz,cA,cB,cC,cD,bQ,aT,K,L]<;>rfl))
    ·rintro⟨bR,bS⟩ t H e ⟨az,bT,M,u,aV,aW,cF,cG,cH,cI,cJ,bs,dd,aX⟩ c a;simp only[mA]at a;have bU:=aX.fit;have bV:=aX.eq;simp only[bM]at bU bV;simp only[bk,seval,-Int.reduceToNat,cH,cJ];apply sp aw a<;>intro _ a
     ·obtain⟨cK,bt,a⟩:=ae a;have cL:=oZ bt;obtain⟨bu,cM,bw⟩:=aX.idx bt;simp only[bM]at bw bu;obtain⟨dA,bx,a⟩:=ae a;obtain⟨cN,dj,cO,cP,cQ⟩:=acF (eI .i64) bx;simp only[bM]at cQ;have cR:=mY.tail aX bx;obtain⟨cS,cT,a⟩:=ae a;have N:=bg (PH (eI .i64)) cT;simp only[bM]at N;simp only[bk,seval,-Int.reduceToNat,cF,cH,cJ,bs,cL,bw,bu,cN,cO,N];obtain⟨de,cU,a⟩:=ae a;refine aD (fun s t H e=>match s with|(bA,bX,bZ)=>∃U:Nat,∃aC:Nat,∃n:Nat,∃d:Nat,∃aE:Nat,∃aF:List D,t 3=.buf 18 n 1 0 (b).length∧t 6=.buf 6 U 1 0 (bX).length∧t 7=.buf 7 aC 1 aE (bZ).length∧t 10=sN cK∧t 76=.buf (NK 18 ((cK:Int).toNat*1)) d 1 0 (cS).length∧t 77=sN ((cS).length:Int)∧t 78=sN bA∧H 6=rW U 3 (al (eI .i64) bX)∧H 7=rW aC 3 (aF)∧H 18=some ⟨n,22,[.nr 3 1 d (al (PH (eI .i64)) b)],false,true,true⟩∧d<=4*e∧mY (eI .i64) aF aE bZ) (fun o x t H e=>match o with|(aG,aH)=>x=.exit 6∧∃O:Nat,∃P:Nat,∃v:Nat,∃j:Nat,∃Q:Nat,∃R:List D,t 3=.buf 18 v 1 0 (b).length∧t 6=.buf 6 O 1 0 (aG).length∧t 7=.buf 7 P 1 Q (aH).length∧H 6=rW O 3 (al (eI .i64) aG)∧H 7=rW P 3 (R)∧H 18=some ⟨v,22,[.nr 3 1 j (al (PH (eI .i64)) b)],false,true,true⟩∧j<=4*e∧mY (eI .i64) R Q aH) cU ?_ ?_ ?_
      ·refine⟨az,e+1+1,M,u,(aV+(1:Int).toNat*1),(aW),?_,?_,?_,?_,?_,?_,?_,?_,?_,?_,?_,cR⟩;all_goals (first|rfl|omega|(simp only[bk,seval,-Int.reduceToNat,cF,cG,cI,bs,cP]<;>rfl))
      ·rintro⟨bA,bX,bZ⟩ t H e ⟨U,aC,n,d,aE,aF,b1,aI,b2,aJ,aK,aM,S,aY,b3,bB,df,aZ⟩ c a;simp only[mB]at a;have aN:=aZ.fit;have aO:=aZ.eq;simp only[bM]at aN aO;simp only[bk,seval,-Int.reduceToNat,aM,S];apply sp aw a<;>intro _ a
       ·obtain⟨dB,cV,a⟩:=ae a;have bC:=bg (eI .i64) cV;simp only[bM]at bC;obtain⟨dC,aP,a⟩:=ae a;have y:=bg (eI .i64) aP;simp only[bM]at y;simp only[bk,seval,-Int.reduceToNat,N,aI,aK,S,aY,bB,bC,y];apply sp aw a<;>intro _ a
        ·obtain⟨cW,cX,a⟩:=ae a;have bD:=bg (eI .i64) cX;simp only[bM]at bD;have y:=bg (eI .i64) aP;simp only[bM]at y;have cY:=eT (eI .i64) (x':=IntKind.i64.wrap (cW+1)) (fo:=0) (cs:=[.int .i64 (IntKind.i64.wrap (cW+1))]) aP rfl (alK rfl);simp only[bM,Nat.add_zero]at cY;have bE:=cY;simp only[putCells,List.length_cons,List.length_nil,alf]at bE;obtain⟨cZ,c0,a⟩:=ae a;obtain⟨c3,bF,c4,c5⟩:=lj (eI .i64) c0;simp only[bM]at bF;cases a;simp only[bk,seval,-Int.reduceToNat,N,aI,b2,aJ,S,aY,b3,aN,aO,bD,y,bE,c3,bF,c4,c5];apply ij;refine⟨U,e+1+1+1+1,n,d,0,(al (eI .i64) cZ),?_,?_,?_,?_,?_,?_,?_,?_,?_,?_,?_,(mY.self (eI .i64) cZ)⟩;all_goals (first|rfl|omega|(simp only[bk,seval,-Int.reduceToNat,b1,aI,aJ,aK,aM,bB]<;>rfl))
        ·cases a;simp only[bk,seval,-Int.reduceToNat,S];apply ij;refine⟨U,aC,n,d,aE,aF,?_,?_,?_,?_,?_,?_,?_,?_,?_,?_,?_,aZ⟩;all_goals (first|rfl|omega|(simp only[bk,seval,-Int.reduceToNat,b1,aI,b2,aJ,aK,aM,aY,b3]<;>rfl))
       ·cases a;simp only[bk,seval,-Int.reduceToNat];apply jN;refine⟨rfl,⟨U,aC,n,d,aE,aF,?_,?_,?_,?_,?_,?_,?_,aZ⟩⟩;all_goals (first|rfl|omega|(simp only[bk,seval,-Int.reduceToNat,b1,aI,b2,aY,b3]<;>rfl))
      ·rintro x t H e Z;rcases de with⟨aG,aH⟩;dsimp only at Z a;obtain⟨rfl,⟨O,P,v,j,Q,R,dk,dm,dn,c6,c7,dh,c8,aQ⟩⟩:=Z;have a1:=aQ.fit;have a6:=aQ.eq;simp only[bM]at a1 a6;cases a;simp only[bk,seval,-Int.reduceToNat];apply ij;refine⟨O,P,v,j,Q,R,?_,?_,?_,?_,?_,?_,?_,aQ⟩;all_goals (first|rfl|omega|(simp only[bk,seval,-Int.reduceToNat,c6,c7]<;>rfl))
     ·cases a;simp only[bk,seval,-Int.reduceToNat];apply jN;refine⟨rfl,⟨az,?_,?_⟩⟩;all_goals ((simp only[bk,seval,-Int.reduceToNat,cG,cI]<;>rfl))
    ·rintro x t H e Z;obtain⟨aA,rfl⟩:∃z,z=dc:=⟨_,rfl⟩;dsimp only at Z a;obtain⟨rfl,⟨aB,di⟩⟩:=Z;cases a;simp only[bk,seval,-Int.reduceToNat,di]
def qF(l:Option (D×Row))(d:List D):=ew (dO (bT xX)) (fun x:fW=>lN x) (fun r:(List Int) =>.clean (.sl false false r.length (al (eI .i64) r))) l d
def uW:Env:=(Am.ext bq 136 false tZ)
def GX:bU prog uW:=(bU.none.add NB false)
def fZ:=ai @w<|ai @Sp<|ai @tZ.eq_1<|@uW.eq_1
def HT:cn prog 85 qF:=cn.jB (mode:=.clean) tok GX mixed func85 (by kernel_rfl) (fun _ _=>rfl) (fun _=>by kernel_rfl) fun B r a=>by
 replace a:lN B=some r:=a;apply aL rfl ntmps85 results85;simp only[jD];unfold lN at a;obtain⟨y,q,a⟩:=ae a;simp only[fZ,seval,q];obtain⟨C,u,a⟩:=ae a;refine aD (fun s t H e=>match s with|(j,h)=>∃b:Nat,t 3=.buf 3 b 1 0 (h).length∧t 7=sI y∧t 8=sN (y.length:Int)∧t 9=sN j∧H 3=rW b 3 (al (eI .i64) h)) (fun o x t H e=>match o with|d=>x=.exit 0∧∃f:Nat,t 3=.buf 3 f 1 0 (d).length∧H 3=rW f 3 (al (eI .i64) d)) u ?_ ?_ ?_
 ·refine⟨1,?_,?_,?_,?_,?_⟩;all_goals (rfl)
 ·rintro⟨j,h⟩ t H e ⟨b,i⟩ c a;simp only[j0]at a;simp only[fZ,seval,i];apply sp aw a<;>intro _ a
  ·obtain⟨E,v,a⟩:=ae a;have k:=bg (eI .i64) v;simp only[bM]at k;simp only[fZ,seval,i,k];apply sp aw a<;>intro _ a
   ·obtain⟨D,l,a⟩:=ae a;obtain⟨m,g,n,p⟩:=lj (eI .i64) l;simp only[bM]at g;cases a;simp only[fZ,seval,i,m,g,n,p];apply ij;refine⟨e+1+1+1,?_⟩;and_intros<;>first|rfl|(simp only[fZ,seval,i]<;>rfl)
   ·cases a;simp only[fZ,seval,i];apply ij;refine⟨b,?_⟩;and_intros<;>first|rfl|(simp only[fZ,seval,i]<;>rfl)
  ·cases a;simp only[fZ,seval];apply jN;refine⟨rfl,⟨b,?_,?_⟩⟩;all_goals ((simp only[fZ,seval,i]<;>rfl))
 ·rintro x t H e A;obtain⟨d,rfl⟩:∃z,z=C:=⟨_,rfl⟩;dsimp only at A a;obtain⟨rfl,⟨f,w⟩⟩:=A;cases a;simp only[fZ,seval,w]
def aim{β:Type}{F:fW×(List ak)->Option β}{R:β->RK}(b:Int)(a:(List cA))(c:(List ak)):ew (fV (bT xX) (dO (kb ah))) F R none [.agg [.int .i64 b,.sl false false a.length (al bW a)],.sl false false c.length (al ah c)]=(F ((fW.mk b a),c)).map fun r=>(R r,none):=cJ _ _ _ ((fW.mk b a),c)
def lp:Env:=(Am.xq 11 (130,5,4) bq)
def AS:bU prog lp:=(bU.xq bU.none 11 (130,5,4))
def cd:=ai @w<|@lp.eq_1
def B2(F:fW)(p1:(List ak))(r:(List aJ))(a:gu F p1=some r):Be tab lp FU Tryz.f75 [.agg [.int .i64 F.aF,.sl false false F.aZ.length (al bW F.aZ)],.sl false false p1.length (al ah p1)]=some (128,130,5,5,r.length,al a7 r):=by
 apply ZG rfl ntmps75 results75;unfold gu at a;obtain⟨x1,T,a⟩:=ae a;have U:=WC (E:=a7) (ty':=130) (s:=5) (f:=4) (k:=.i64) NY (by rfl) rfl rfl rfl rfl rfl T;obtain⟨V,aB,aC,aE,aF⟩:=mk_one a7 T;simp only[cd,seval,U,V];obtain⟨o8,av,a⟩:=ae a;refine aD (fun s t H e=>match s with|(G,w)=>∃y:Nat,∃l:Nat,∃g:Nat,t 1=sF ah p1∧t 2=.ptr 2 y 0∧t 5=.buf 11 l 5 0 (w).length∧t 13=sN ((x1).length:Int)∧t 14=sN G∧H 2=rV y 66 [sN F.aF,sF bW F.aZ]∧H 11=some ⟨l,128,[.nr 130 5 g (al a7 w)],false,true,true⟩∧g<=4*e) (fun o x t H e=>match o with|n=>x=.exit 0∧∃A:Nat,∃i:Nat,∃d:Nat,t 2=.ptr 2 A 0∧t 5=.buf 11 i 5 0 (n).length∧H 2=rV A 66 [sN F.aF,sF bW F.aZ]∧H 11=some ⟨i,128,[.nr 130 5 d (al a7 n)],false,true,true⟩∧d<=4*e) av ?_ ?_ ?_
 ·refine⟨0,1,4*(1)+2,?_,?_,?_,?_,?_,?_,?_,?_⟩;all_goals (first|rfl|omega|(simp only[cd,seval,U,V]<;>rfl))
 ·rintro⟨G,w⟩ t H e ⟨y,l,g,Za⟩ c a;simp only[iW]at a;simp only[cd,seval,Za];apply sp aw a<;>intro _ a
  ·obtain⟨p,W,a⟩:=ae a;have I:=bg ah W;simp only[bM]at I;obtain⟨ax,B,a⟩:=ae a;have J:=bg a7 B;simp only[bM]at J;have K:=kF a7 0 4 (alK rfl) B;simp only[bM,Nat.add_zero]at K;have X:=eT a7 (x':=(aJ.mk p ax.cB)) (fo:=0) (cs:=[.int .i64 p.bX.aq,.sl false false p.bX.aa.length (al (eI .i64) p.bX.aa),.int .i64 p.b8.aq,.sl false false p.b8.aa.length (al (eI .i64) p.b8.aa)]) B rfl (alK rfl);simp only[bM,Nat.add_zero]at X;have L:=X;simp only[putCells,List.length_cons,List.length_nil,alf,Nat.reduceAdd]at L;cases a;simp only[cd,seval,Za,I,J,K,L];apply ij;refine⟨y,l,g,?_,?_,?_,?_,?_,?_,?_,?_⟩;all_goals (first|rfl|omega|(simp only[cd,seval,Za]<;>rfl))
  ·cases a;simp only[cd,seval];apply jN;refine⟨rfl,⟨y,l,g,?_,?_,?_,?_,?_⟩⟩;all_goals (first|rfl|omega|(simp only[cd,seval,Za]<;>rfl))
 ·rintro x t H e Y;obtain⟨n,rfl⟩:∃z,z=o8:=⟨_,rfl⟩;dsimp only at Y a;obtain⟨rfl,⟨A,i,d,Z⟩⟩:=Y;simp only[cd,seval,Z];obtain⟨ay,aa,a⟩:=ae a;refine aD (fun s t H e=>match s with|(M,C)=>∃m:Nat,∃h:Nat,t 5=.buf 11 m 5 0 (C).length∧t 27=sF bW F.aZ∧t 28=sN (F.aZ.length:Int)∧t 29=sN M∧H 11=some ⟨m,128,[.nr 130 5 h (al a7 C)],false,true,true⟩∧h<=4*e) (fun o x t H e=>match o with|q=>x=.exit 2∧∃u:Nat,∃j:Nat,t 5=.buf 11 u 5 0 (q).length∧H 11=some ⟨u,128,[.nr 130 5 j (al a7 q)],false,true,true⟩∧j<=4*e) aa ?_ ?_ ?_
  ·refine⟨i,d,?_,?_,?_,?_,?_,?_⟩;all_goals (first|rfl|omega|(simp only[cd,seval,Z]<;>rfl))
  ·rintro⟨M,C⟩ t H e ⟨m,h,Zb⟩ c a;simp only[iX]at a;simp only[cd,seval,Zb];apply sp aw a<;>intro _ a
   ·obtain⟨aG,ab,a⟩:=ae a;have N:=bg bW ab;simp only[bM]at N;obtain⟨az,b,a⟩:=ae a;have v:=bg a7 b;simp only[bM]at v;have O:=lG a7 4 b;have ad:=kF a7 4 1 (alK rfl) b;simp only[bM]at O ad;obtain⟨S,ag,a⟩:=ae a;obtain⟨ai,P,aj,an⟩:=lj ch ag;simp only[bM]at P;have v:=bg a7 b;simp only[bM]at v;have ao:=lG a7 4 b;have aq:=kF a7 4 1 (alK rfl) b;simp only[bM]at ao aq;have ar:=RU a7 (x':=(aJ.mk az.bK S)) 4 .und (.nx S.length (al ch S)) b rfl (alK rfl);have Q:=WT a7 4 .und b (alK rfl);simp only[bM]at ar Q;have R:=ar;simp only[putCells,List.length_cons,List.length_nil,alf]at R;have D:=Q;simp only[putCells,List.length_cons,List.length_nil,alf]at D;have au:bump h (e+1+1)=some (4*(e+1+1)+1):=jO (by omega);simp only[cd,seval,Zb,N,O,ai,P,aj,an,v,R,D,au];refine bP (by kernel_rfl) ?_;cases a;apply ij;refine⟨m,4*(e+1+1)+1,?_,?_,?_,?_,?_,?_⟩;all_goals (first|rfl|omega|(simp only[cd,seval,Zb]<;>rfl))
   ·cases a;simp only[cd,seval];apply jN;refine⟨rfl,⟨m,h,?_,?_,?_⟩⟩;all_goals (first|rfl|omega|(simp only[cd,seval,Zb]<;>rfl))
  ·rintro x t H e Y;obtain⟨q,rfl⟩:∃z,z=ay:=⟨_,rfl⟩;dsimp only at Y a;obtain⟨rfl,⟨u,j,aA⟩⟩:=Y;cases a;simp only[cd,seval,aA]
def nQ:=cw (fV (bT xX) (dO (kb ah))) (fun x:fW×(List ak)=>gu x.1 x.2) (fun r:(List aJ)=>(128,130,5,5,r.length,al a7 r))
def tJ(b:Int)(a:(List cA))(c:(List ak)):nQ [.agg [.int .i64 b,.sl false false a.length (al bW a)],.sl false false c.length (al ah c)]=(gu (fW.mk b a) c).map fun r:(List aJ)=>(128,130,5,5,r.length,al a7 r):=agm _ _ _ ((fW.mk b a),c)
def rN:FOk prog 75 nQ:=FOk.of tok AS mixed func75 (by kernel_rfl) ⟨by kernel_rfl,by kernel_rfl⟩ (fun _=>alK (by kernel_rfl)) (fun x r h=>B2 x.1 x.2 r h)
def gX(l:Option (D×Row))(d:List D):=ew (fV (bT ch) (dO (aI .i64))) (fun x:fU×Int=>ej x.1 x.2) (fun r:Int =>.clean (.int .i64 r)) l d
end Go.Proofs.YtobnihfgnbnncaaGreat.Am
