import Derived.Test.YtobnihfgnbnncaaGreatLe
set_option linter.unusedSimpArgs false
set_option linter.unusedVariables false
set_option linter.defProp false
noncomputable section
open Go.Proofs.Tryz
namespace Go.Proofs.YtobnihfgnbnncaaGreat.Am
open Go.RowKit Go.Proofs.YtobnihfgnbnncaaGreat.P
set_option maxRecDepth 100000
set_option maxHeartbeats 4000000
def P3:b6 prog 136 vx:=b6.gO (mode:=.clean) tok Px mixed func136 (by kernel_rfl) (fun _ _=>rfl) (fun _=>by kernel_rfl) fun p0 r a=>by
 replace a:kS p0=some r:=a;apply aD rfl ntmps136 results136;simp only[gP];unfold kS at a;obtain⟨r1,bH,a⟩:=ae a;simp only[bq,seval,-Int.reduceToNat,bH];apply sp av a<;>intro _ a
 ·cases a;simp only[bq,seval,-Int.reduceToNat]
 ·obtain⟨x3,b2,a⟩:=ae a;have bI:=Zp (E:=(Sd (eI .i64))) (ty':=3) (s:=1) (f:=0) (k:=.i64) Qu (by rfl) rfl rfl rfl rfl rfl b2;obtain⟨aR,dp,dq,dr,ds⟩:=mk_one (Sd (eI .i64)) b2;simp only[bq,seval,-Int.reduceToNat,bI,aR];obtain⟨c9,b3,a⟩:=ae a;refine az (fun s t H e=>match s with|(a7,V)=>∃W:Nat,∃w:Nat,∃l:Nat,t 1=.ptr 1 W 0∧t 3=.buf 18 w 1 0 (V).length∧t 20=sF ch p0.bf∧t 21=sN (p0.bf.length:Int)∧t 22=sN a7∧H 1=rV W 66 [sN p0.aC,sF ch p0.bf]∧H 18=some ⟨w,22,[.nr 3 1 l (aq (Sd (eI .i64)) V)],false,true,true⟩∧l<=4*e) (fun o x t H e=>match o with|b=>x=.exit 0∧∃X:Nat,∃p:Nat,∃h:Nat,t 1=.ptr 1 X 0∧t 3=.buf 18 p 1 0 (b).length∧H 1=rV X 66 [sN p0.aC,sF ch p0.bf]∧H 18=some ⟨p,22,[.nr 3 1 h (aq (Sd (eI .i64)) b)],false,true,true⟩∧h<=4*e) b3 ?_ ?_ ?_
  ·refine⟨0,2,4*(2)+2,?_,?_,?_,?_,?_,?_,?_,?_⟩;all_goals (first|rfl|omega|(simp only[bq,seval,-Int.reduceToNat,bH,bI,aR]<;>rfl))
  ·rintro⟨a7,V⟩ t H e ⟨W,w,l,Za⟩ c a;simp only[ny]at a;simp only[bq,seval,-Int.reduceToNat,Za];apply sp av a<;>intro _ a
   ·obtain⟨dt,b4,a⟩:=ae a;have a8:=bh ch b4;simp only[bK]at a8;obtain⟨du,A,a⟩:=ae a;have B:=bh (Sd (eI .i64)) A;simp only[bK]at B;obtain⟨bJ,b5,a⟩:=ae a;obtain⟨b7,ba,b8,b9⟩:=iR (eI .i64) b5;simp only[bK]at ba;have B:=bh (Sd (eI .i64)) A;simp only[bK]at B;have ca:=Uq (Sd (eI .i64)) (x':=bJ) 0 .und (.nx bJ.length (aq (eI .i64) bJ)) A rfl (aov rfl);have bb:=ZC (Sd (eI .i64)) 0 .und A (aov rfl);simp only[bK,Nat.add_zero]at ca bb;have bc:=ca;simp only[putCells,List.length_cons,List.length_nil,an5]at bc;have Y:=bb;simp only[putCells,List.length_cons,List.length_nil,an5]at Y;have cb:bump l (e+1+1)=some (4*(e+1+1)+1):=mj (by omega);simp only[bq,seval,-Int.reduceToNat,Za,a8,b7,ba,b8,b9,B,bc,Y,cb];refine bA (by kernel_rfl) ?_;cases a;apply gS;refine⟨W,w,4*(e+1+1)+1,?_,?_,?_,?_,?_,?_,?_,?_⟩;all_goals (first|rfl|omega|(simp only[bq,seval,-Int.reduceToNat,Za]<;>rfl))
   ·cases a;simp only[bq,seval,-Int.reduceToNat];apply jf;refine⟨rfl,⟨W,w,l,?_,?_,?_,?_,?_⟩⟩;all_goals (first|rfl|omega|(simp only[bq,seval,-Int.reduceToNat,Za]<;>rfl))
  ·rintro x t H e Z;obtain⟨b,rfl⟩:∃z,z=c9:=⟨_,rfl⟩;dsimp only at Z a;obtain⟨rfl,⟨X,p,h,cc⟩⟩:=Z;obtain⟨dv,cd,a⟩:=ae a;obtain⟨cf,bd,bf,aa,bg⟩:=mk_one (eI .i64) cd;simp only[bK]at aa;obtain⟨cj,bj,a⟩:=ae a;simp only[bq,seval,-Int.reduceToNat,aR,cc,bd,bf,aa,bg,bj];obtain⟨da,ck,a⟩:=ae a;refine az (fun s t H e=>match s with|(bk,bL,bM)=>∃T:Nat,∃ab:Nat,∃m:Nat,∃g:Nat,∃ad:Nat,∃ag:List D,t 3=.buf 18 m 1 0 (b).length∧t 6=.buf 6 T 1 0 (bL).length∧t 7=.buf 7 ab 1 ad (bM).length∧t 44=sF ah cj∧t 45=sN (cj.length:Int)∧t 46=sN bk∧H 6=rW T 3 (aq (eI .i64) bL)∧H 7=rW ab 3 (ag)∧H 18=some ⟨m,22,[.nr 3 1 g (aq (Sd (eI .i64)) b)],false,true,true⟩∧g<=4*e∧n9 (eI .i64) ag ad bM) (fun o x t H e=>match o with|(ai,aj)=>x=.exit 2∧∃C:Nat,∃F:Nat,∃q:Nat,∃i:Nat,∃G:Nat,∃I:List D,t 3=.buf 18 q 1 0 (b).length∧t 6=.buf 6 C 1 0 (ai).length∧t 7=.buf 7 F 1 G (aj).length∧H 6=rW C 3 (aq (eI .i64) ai)∧H 7=rW F 3 (I)∧H 18=some ⟨q,22,[.nr 3 1 i (aq (Sd (eI .i64)) b)],false,true,true⟩∧i<=4*e∧n9 (eI .i64) I G aj) ck ?_ ?_ ?_
   ·refine⟨e,e+1,p,h,0,(aq (eI .i64) ([])),?_,?_,?_,?_,?_,?_,?_,?_,?_,?_,(n9.self (eI .i64) ([]))⟩;all_goals (first|rfl|omega|(simp only[bq,seval,-Int.reduceToNat,cc]<;>rfl))
   ·rintro⟨bk,bL,bM⟩ t H e ⟨T,ab,m,g,ad,ag,bN,ak,bO,al,ao,J,cm,bP,bm,db,aS⟩ c a;simp only[nz]at a;have ar:=aS.fit;have au:=aS.eq;simp only[bK]at ar au;simp only[bq,seval,-Int.reduceToNat,ao,J];apply sp av a<;>intro _ a
    ·obtain⟨dw,cn,a⟩:=ae a;have aw:=bh ah cn;simp only[bK]at aw;obtain⟨dx,bn,a⟩:=ae a;have ax:=bh (eI .i64) bn;simp only[bK]at ax;have cp:=eN (eI .i64) (x':=(-1)) (fo:=0) (cs:=[.int .i64 (-1)]) bn rfl (aov rfl);simp only[bK,Nat.add_zero]at cp;have bo:=cp;simp only[putCells,List.length_cons,List.length_nil,an5]at bo;obtain⟨dy,cq,a⟩:=ae a;simp only[bq,seval,-Int.reduceToNat,ak,al,J,cm,aw,ax,bo,cq];apply sp av a<;>intro _ a
     ·obtain⟨dz,bp,a⟩:=ae a;have cr:=bh (eI .i64) bp;simp only[bK,aoW]at cr;have ct:=eN (eI .i64) (x':=0) (fo:=0) (cs:=[.int .i64 0]) bp rfl (aov rfl);simp only[bK,Nat.add_zero]at ct;have br:=ct;simp only[putCells,List.length_cons,List.length_nil,an5]at br;obtain⟨cu,cv,a⟩:=ae a;obtain⟨cw,bs,cx,cy⟩:=iR (eI .i64) cv;simp only[bK]at bs;cases a;simp only[bq,seval,-Int.reduceToNat,ak,bO,J,bP,ar,au,aw,ax,br,cw,bs,cx,cy];apply gS;refine⟨T,e+1+1+1+1+1,m,g,0,(aq (eI .i64) cu),?_,?_,?_,?_,?_,?_,?_,?_,?_,?_,(n9.self (eI .i64) cu)⟩;all_goals (first|rfl|omega|(simp only[bq,seval,-Int.reduceToNat,bN,ak,al,ao,bm]<;>rfl))
     ·cases a;simp only[bq,seval,-Int.reduceToNat,J];apply gS;refine⟨T,ab,m,g,ad,ag,?_,?_,?_,?_,?_,?_,?_,?_,?_,?_,aS⟩;all_goals (first|rfl|omega|(simp only[bq,seval,-Int.reduceToNat,bN,ak,bO,al,ao,bP,bm]<;>rfl))
    ·cases a;simp only[bq,seval,-Int.reduceToNat];apply jf;refine⟨rfl,⟨T,ab,m,g,ad,ag,?_,?_,?_,?_,?_,?_,?_,aS⟩⟩;all_goals (first|rfl|omega|(simp only[bq,seval,-Int.reduceToNat,bN,ak,bO,cm,bP]<;>rfl))
   ·rintro x t H e Z;rcases da with⟨ai,aj⟩;dsimp only at Z a;obtain⟨rfl,⟨C,F,q,i,G,I,cz,cA,cB,cC,cD,bQ,aU,ay⟩⟩:=Z;have K:=ay.fit;have L:=ay.eq;simp only[bK]at K L;simp only[bq,seval,-Int.reduceToNat];obtain⟨dc,cE,a⟩:=ae a;refine az (fun s t H e=>match s with|(bR,bS)=>∃aA:Nat,∃bT:Nat,∃M:Nat,∃u:Nat,∃aV:Nat,∃aW:List D,t 3=.buf 18 M 1 0 (b).length∧t 6=.buf 6 aA 1 0 (bR).length∧t 7=.buf 7 bT 1 aV (bS).length∧H 6=rW aA 3 (aq (eI .i64) bR)∧H 7=rW bT 3 (aW)∧H 18=some ⟨M,22,[.nr 3 1 u (aq (Sd (eI .i64)) b)],false,true,true⟩∧u<=4*e∧n9 (eI .i64) aW aV bS) (fun o x t H e=>match o with|aB=>x=.exit 4∧∃aC:Nat,t 6=.buf 6 aC 1 0 (aB).length∧H 6=rW aC 3 (aq (eI .i64) aB)) cE ?_ ?_ ?_
    ·refine⟨C,F,q,i,G,I,?_,?_,?_,?_,?_,?_,?_,ay⟩;all_goals (first|rfl|omega|(simp only[bq,seval,-Int.reduceToNat,bH,bI,aR,cf,bd,bf,aa,bg,bj,cz,cA,cB,cC,cD,bQ,aU,K,L]<;>rfl))
    ·rintro⟨bR,bS⟩ t H e ⟨aA,bT,M,u,aV,aW,cF,cG,cH,cI,cJ,bt,dd,aX⟩ c a;simp only[nA]at a;have bU:=aX.fit;have bV:=aX.eq;simp only[bK]at bU bV;simp only[bq,seval,-Int.reduceToNat,cH,cJ];apply sp av a<;>intro _ a
     ·obtain⟨cK,bu,a⟩:=ae a;have cL:=uQ bu;obtain⟨bw,cM,bx⟩:=aX.idx bu;simp only[bK]at bx bw;obtain⟨dA,bz,a⟩:=ae a;obtain⟨cN,dj,cO,cP,cQ⟩:=afi (eI .i64) bz;simp only[bK]at cQ;have cR:=n9.tail aX bz;obtain⟨cS,cT,a⟩:=ae a;have N:=bh (Sd (eI .i64)) cT;simp only[bK]at N;simp only[bq,seval,-Int.reduceToNat,cF,cH,cJ,bt,cL,bx,bw,cN,cO,N];obtain⟨de,cU,a⟩:=ae a;refine az (fun s t H e=>match s with|(bB,bW,bX)=>∃U:Nat,∃aE:Nat,∃n:Nat,∃d:Nat,∃aF:Nat,∃aG:List D,t 3=.buf 18 n 1 0 (b).length∧t 6=.buf 6 U 1 0 (bW).length∧t 7=.buf 7 aE 1 aF (bX).length∧t 10=sN cK∧t 76=.buf (NK 18 ((cK:Int).toNat*1)) d 1 0 (cS).length∧t 77=sN ((cS).length:Int)∧t 78=sN bB∧H 6=rW U 3 (aq (eI .i64) bW)∧H 7=rW aE 3 (aG)∧H 18=some ⟨n,22,[.nr 3 1 d (aq (Sd (eI .i64)) b)],false,true,true⟩∧d<=4*e∧n9 (eI .i64) aG aF bX) (fun o x t H e=>match o with|(aH,aI)=>x=.exit 6∧∃O:Nat,∃P:Nat,∃v:Nat,∃j:Nat,∃Q:Nat,∃R:List D,t 3=.buf 18 v 1 0 (b).length∧t 6=.buf 6 O 1 0 (aH).length∧t 7=.buf 7 P 1 Q (aI).length∧H 6=rW O 3 (aq (eI .i64) aH)∧H 7=rW P 3 (R)∧H 18=some ⟨v,22,[.nr 3 1 j (aq (Sd (eI .i64)) b)],false,true,true⟩∧j<=4*e∧n9 (eI .i64) R Q aI) cU ?_ ?_ ?_
      ·refine⟨aA,e+1+1,M,u,(aV+(1:Int).toNat*1),(aW),?_,?_,?_,?_,?_,?_,?_,?_,?_,?_,?_,cR⟩;all_goals (first|rfl|omega|(simp only[bq,seval,-Int.reduceToNat,cF,cG,cI,bt,cP]<;>rfl))
      ·rintro⟨bB,bW,bX⟩ t H e ⟨U,aE,n,d,aF,aG,bY,aJ,bZ,aK,aL,aM,S,aY,b1,bC,df,aZ⟩ c a;simp only[nB]at a;have aN:=aZ.fit;have aO:=aZ.eq;simp only[bK]at aN aO;simp only[bq,seval,-Int.reduceToNat,aM,S];apply sp av a<;>intro _ a
       ·obtain⟨dB,cV,a⟩:=ae a;have bD:=bh (eI .i64) cV;simp only[bK]at bD;obtain⟨dC,aP,a⟩:=ae a;have y:=bh (eI .i64) aP;simp only[bK]at y;simp only[bq,seval,-Int.reduceToNat,N,aJ,aL,S,aY,bC,bD,y];apply sp av a<;>intro _ a
        ·obtain⟨cW,cX,a⟩:=ae a;have bE:=bh (eI .i64) cX;simp only[bK]at bE;have y:=bh (eI .i64) aP;simp only[bK]at y;have cY:=eN (eI .i64) (x':=IntKind.i64.wrap (cW+1)) (fo:=0) (cs:=[.int .i64 (IntKind.i64.wrap (cW+1))]) aP rfl (aov rfl);simp only[bK,Nat.add_zero]at cY;have bF:=cY;simp only[putCells,List.length_cons,List.length_nil,an5]at bF;obtain⟨cZ,c0,a⟩:=ae a;obtain⟨c3,bG,c4,c5⟩:=iR (eI .i64) c0;simp only[bK]at bG;cases a;simp only[bq,seval,-Int.reduceToNat,N,aJ,bZ,aK,S,aY,b1,aN,aO,bE,y,bF,c3,bG,c4,c5];apply gS;refine⟨U,e+1+1+1+1,n,d,0,(aq (eI .i64) cZ),?_,?_,?_,?_,?_,?_,?_,?_,?_,?_,?_,(n9.self (eI .i64) cZ)⟩;all_goals (first|rfl|omega|(simp only[bq,seval,-Int.reduceToNat,bY,aJ,aK,aL,aM,bC]<;>rfl))
        ·cases a;simp only[bq,seval,-Int.reduceToNat,S];apply gS;refine⟨U,aE,n,d,aF,aG,?_,?_,?_,?_,?_,?_,?_,?_,?_,?_,?_,aZ⟩;all_goals (first|rfl|omega|(simp only[bq,seval,-Int.reduceToNat,bY,aJ,bZ,aK,aL,aM,aY,b1]<;>rfl))
       ·cases a;simp only[bq,seval,-Int.reduceToNat];apply jf;refine⟨rfl,⟨U,aE,n,d,aF,aG,?_,?_,?_,?_,?_,?_,?_,aZ⟩⟩;all_goals (first|rfl|omega|(simp only[bq,seval,-Int.reduceToNat,bY,aJ,bZ,aY,b1]<;>rfl))
      ·rintro x t H e Z;rcases de with⟨aH,aI⟩;dsimp only at Z a;obtain⟨rfl,⟨O,P,v,j,Q,R,dk,dm,dn,c6,c7,dh,c8,aQ⟩⟩:=Z;have a1:=aQ.fit;have a6:=aQ.eq;simp only[bK]at a1 a6;cases a;simp only[bq,seval,-Int.reduceToNat];apply gS;refine⟨O,P,v,j,Q,R,?_,?_,?_,?_,?_,?_,?_,aQ⟩;all_goals (first|rfl|omega|(simp only[bq,seval,-Int.reduceToNat,c6,c7]<;>rfl))
     ·cases a;simp only[bq,seval,-Int.reduceToNat];apply jf;refine⟨rfl,⟨aA,?_,?_⟩⟩;all_goals ((simp only[bq,seval,-Int.reduceToNat,cG,cI]<;>rfl))
    ·rintro x t H e Z;obtain⟨aB,rfl⟩:∃z,z=dc:=⟨_,rfl⟩;dsimp only at Z a;obtain⟨rfl,⟨aC,di⟩⟩:=Z;cases a;simp only[bq,seval,-Int.reduceToNat,di]
def rX(l:Option (D×Row))(d:List D):=dx (dp (bC yR)) (fun x:gK=>mF x) (fun r:(List Int) =>.clean (.sl false false r.length (aq (eI .i64) r))) l d
def wI:Env:=(Am.ext bd 136 false vx)
def Jb:bN prog wI:=(bN.none.add P3 false)
def gx:=ai @w<|ai @LO<|ai @vx.eq_1<|@wI.eq_1
def J3:b6 prog 85 rX:=b6.gO (mode:=.clean) tok Jb mixed func85 (by kernel_rfl) (fun _ _=>rfl) (fun _=>by kernel_rfl) fun B r a=>by
 replace a:mF B=some r:=a;apply aD rfl ntmps85 results85;simp only[gP];unfold mF at a;obtain⟨y,q,a⟩:=ae a;simp only[gx,seval,q];obtain⟨C,u,a⟩:=ae a;refine az (fun s t H e=>match s with|(j,h)=>∃b:Nat,t 3=.buf 3 b 1 0 (h).length∧t 7=sI y∧t 8=sN (y.length:Int)∧t 9=sN j∧H 3=rW b 3 (aq (eI .i64) h)) (fun o x t H e=>match o with|d=>x=.exit 0∧∃f:Nat,t 3=.buf 3 f 1 0 (d).length∧H 3=rW f 3 (aq (eI .i64) d)) u ?_ ?_ ?_
 ·refine⟨1,?_,?_,?_,?_,?_⟩;all_goals (rfl)
 ·rintro⟨j,h⟩ t H e ⟨b,i⟩ c a;simp only[kT]at a;simp only[gx,seval,i];apply sp av a<;>intro _ a
  ·obtain⟨E,v,a⟩:=ae a;have k:=bh (eI .i64) v;simp only[bK]at k;simp only[gx,seval,i,k];apply sp av a<;>intro _ a
   ·obtain⟨D,l,a⟩:=ae a;obtain⟨m,g,n,p⟩:=iR (eI .i64) l;simp only[bK]at g;cases a;simp only[gx,seval,i,m,g,n,p];apply gS;refine⟨e+1+1+1,?_⟩;and_intros<;>first|rfl|(simp only[gx,seval,i]<;>rfl)
   ·cases a;simp only[gx,seval,i];apply gS;refine⟨b,?_⟩;and_intros<;>first|rfl|(simp only[gx,seval,i]<;>rfl)
  ·cases a;simp only[gx,seval];apply jf;refine⟨rfl,⟨b,?_,?_⟩⟩;all_goals ((simp only[gx,seval,i]<;>rfl))
 ·rintro x t H e A;obtain⟨d,rfl⟩:∃z,z=C:=⟨_,rfl⟩;dsimp only at A a;obtain⟨rfl,⟨f,w⟩⟩:=A;cases a;simp only[gx,seval,w]
def jW(l:Option (D×Row))(d:List D):=dx (eZ (bC yR) (dp (iQ ah))) (fun x:gK×(List an)=>eX x.1 x.2) (fun r:(List aJ) =>.clean (.sl false false r.length (aq gX r))) l d
def ahi{β:Type}{F:gK×(List an)->Option β}{R:β->RK}(b:Int)(a:(List cN))(c:(List an)):dx (eZ (bC yR) (dp (iQ ah))) F R none [.agg [.int .i64 b,.sl false false a.length (aq ch a)],.sl false false c.length (aq ah c)]=(F ((gK.mk b a),c)).map fun r=>(R r,none):=cF _ _ _ ((gK.mk b a),c)
def mm:Env:=(Am.zf 11 (130,5,4) bd)
def uO:bN prog mm:=(bN.zf bN.none 11 (130,5,4))
def cn:=ai @w<|@mm.eq_1
def vQ(F:gK)(p1:(List an))(r:(List aJ))(a:eX F p1=some r):yI tab mm FU Tryz.f75 [.agg [.int .i64 F.aC,.sl false false F.bf.length (aq ch F.bf)],.sl false false p1.length (aq ah p1)]=some (128,130,5,5,r.length,aq a7 r):=by
 apply acd rfl ntmps75 results75;unfold eX at a;obtain⟨x1,T,a⟩:=ae a;have U:=Zp (E:=a7) (ty':=130) (s:=5) (f:=4) (k:=.i64) Qt (by rfl) rfl rfl rfl rfl rfl T;obtain⟨V,aC,aD,aE,aF⟩:=mk_one a7 T;simp only[cn,seval,U,V];obtain⟨o8,aw,a⟩:=ae a;refine az (fun s t H e=>match s with|(G,w)=>∃y:Nat,∃l:Nat,∃g:Nat,t 1=sF ah p1∧t 2=.ptr 2 y 0∧t 5=.buf 11 l 5 0 (w).length∧t 13=sN ((x1).length:Int)∧t 14=sN G∧H 2=rV y 66 [sN F.aC,sF ch F.bf]∧H 11=some ⟨l,128,[.nr 130 5 g (aq a7 w)],false,true,true⟩∧g<=4*e) (fun o x t H e=>match o with|n=>x=.exit 0∧∃A:Nat,∃i:Nat,∃d:Nat,t 2=.ptr 2 A 0∧t 5=.buf 11 i 5 0 (n).length∧H 2=rV A 66 [sN F.aC,sF ch F.bf]∧H 11=some ⟨i,128,[.nr 130 5 d (aq a7 n)],false,true,true⟩∧d<=4*e) aw ?_ ?_ ?_
 ·refine⟨0,1,4*(1)+2,?_,?_,?_,?_,?_,?_,?_,?_⟩;all_goals (first|rfl|omega|(simp only[cn,seval,U,V]<;>rfl))
 ·rintro⟨G,w⟩ t H e ⟨y,l,g,Za⟩ c a;simp only[jD]at a;simp only[cn,seval,Za];apply sp av a<;>intro _ a
  ·obtain⟨p,W,a⟩:=ae a;have I:=bh ah W;simp only[bK]at I;obtain⟨ax,B,a⟩:=ae a;have J:=bh a7 B;simp only[bK]at J;have K:=lK a7 0 4 (aov rfl) B;simp only[bK,Nat.add_zero]at K;have X:=eN a7 (x':=(aJ.mk p ax.ct)) (fo:=0) (cs:=[.int .i64 p.bF.al,.sl false false p.bF.aa.length (aq (eI .i64) p.bF.aa),.int .i64 p.bJ.al,.sl false false p.bJ.aa.length (aq (eI .i64) p.bJ.aa)]) B rfl (aov rfl);simp only[bK,Nat.add_zero]at X;have L:=X;simp only[putCells,List.length_cons,List.length_nil,an5,Nat.reduceAdd]at L;cases a;simp only[cn,seval,Za,I,J,K,L];apply gS;refine⟨y,l,g,?_,?_,?_,?_,?_,?_,?_,?_⟩;all_goals (first|rfl|omega|(simp only[cn,seval,Za]<;>rfl))
  ·cases a;simp only[cn,seval];apply jf;refine⟨rfl,⟨y,l,g,?_,?_,?_,?_,?_⟩⟩;all_goals (first|rfl|omega|(simp only[cn,seval,Za]<;>rfl))
 ·rintro x t H e Y;obtain⟨n,rfl⟩:∃z,z=o8:=⟨_,rfl⟩;dsimp only at Y a;obtain⟨rfl,⟨A,i,d,Z⟩⟩:=Y;simp only[cn,seval,Z];obtain⟨ay,aa,a⟩:=ae a;refine az (fun s t H e=>match s with|(M,C)=>∃m:Nat,∃h:Nat,t 5=.buf 11 m 5 0 (C).length∧t 27=sF ch F.bf∧t 28=sN (F.bf.length:Int)∧t 29=sN M∧H 11=some ⟨m,128,[.nr 130 5 h (aq a7 C)],false,true,true⟩∧h<=4*e) (fun o x t H e=>match o with|q=>x=.exit 2∧∃u:Nat,∃j:Nat,t 5=.buf 11 u 5 0 (q).length∧H 11=some ⟨u,128,[.nr 130 5 j (aq a7 q)],false,true,true⟩∧j<=4*e) aa ?_ ?_ ?_
  ·refine⟨i,d,?_,?_,?_,?_,?_,?_⟩;all_goals (first|rfl|omega|(simp only[cn,seval,Z]<;>rfl))
  ·rintro⟨M,C⟩ t H e ⟨m,h,Zb⟩ c a;simp only[jE]at a;simp only[cn,seval,Zb];apply sp av a<;>intro _ a
   ·obtain⟨aG,ab,a⟩:=ae a;have N:=bh ch ab;simp only[bK]at N;obtain⟨aA,b,a⟩:=ae a;have v:=bh a7 b;simp only[bK]at v;have O:=mC a7 4 b;have ad:=lK a7 4 1 (aov rfl) b;simp only[bK]at O ad;obtain⟨S,ag,a⟩:=ae a;obtain⟨ai,P,aj,ak⟩:=iR ck ag;simp only[bK]at P;have v:=bh a7 b;simp only[bK]at v;have al:=mC a7 4 b;have ao:=lK a7 4 1 (aov rfl) b;simp only[bK]at al ao;have ar:=Uq a7 (x':=(aJ.mk aA.bG S)) 4 .und (.nx S.length (aq ck S)) b rfl (aov rfl);have Q:=ZC a7 4 .und b (aov rfl);simp only[bK]at ar Q;have R:=ar;simp only[putCells,List.length_cons,List.length_nil,an5]at R;have D:=Q;simp only[putCells,List.length_cons,List.length_nil,an5]at D;have au:bump h (e+1+1)=some (4*(e+1+1)+1):=mj (by omega);simp only[cn,seval,Zb,N,O,ai,P,aj,ak,v,R,D,au];refine bA (by kernel_rfl) ?_;cases a;apply gS;refine⟨m,4*(e+1+1)+1,?_,?_,?_,?_,?_,?_⟩;all_goals (first|rfl|omega|(simp only[cn,seval,Zb]<;>rfl))
   ·cases a;simp only[cn,seval];apply jf;refine⟨rfl,⟨m,h,?_,?_,?_⟩⟩;all_goals (first|rfl|omega|(simp only[cn,seval,Zb]<;>rfl))
  ·rintro x t H e Y;obtain⟨q,rfl⟩:∃z,z=ay:=⟨_,rfl⟩;dsimp only at Y a;obtain⟨rfl,⟨u,j,aB⟩⟩:=Y;cases a;simp only[cn,seval,aB]
def CQ:b6 prog 75 jW:=by
 unfold jW;exact b6.ofW (E:=gX) (EN:=a7) (ty:=128) (t:=130) (s:=5) tok uO mixed func75 (by kernel_rfl) ⟨by kernel_rfl,by kernel_rfl⟩ (fun _=>aov (by kernel_rfl)) rfl (fun _=>rfl) (fun x=>by simp[eM,wR,gD,bQ,vH]) (fun x r h=>vQ x.1 x.2 r h)
def oQ:=b9 (eZ (bC yR) (dp (iQ ah))) (fun x:gK×(List an)=>eX x.1 x.2) (fun r:(List aJ)=>(128,130,5,5,r.length,aq a7 r))
def u5(b:Int)(a:(List cN))(c:(List an)):oQ [.agg [.int .i64 b,.sl false false a.length (aq ch a)],.sl false false c.length (aq ah c)]=(eX (gK.mk b a) c).map fun r:(List aJ)=>(128,130,5,5,r.length,aq a7 r):=ai3 _ _ _ ((gK.mk b a),c)
def th:FOk prog 75 oQ:=FOk.of tok uO mixed func75 (by kernel_rfl) ⟨by kernel_rfl,by kernel_rfl⟩ (fun _=>aov (by kernel_rfl)) (fun x r h=>vQ x.1 x.2 r h)
def iE(l:Option (D×Row))(d:List D):=dx (eZ (bC ck) (dp (aI .i64))) (fun x:gu×Int=>eH x.1 x.2) (fun r:Int =>.clean (.int .i64 r)) l d
def ak0{β:Type}{F:gu×Int->Option β}{R:β->RK}(c:Int)(d:Int)(a:(List Int))(e:Int)(b:(List Int))(f:Int):dx (eZ (bC ck) (dp (aI .i64))) F R none [.agg [.int .i64 c,.int .i64 d,.sl false false a.length (aq (eI .i64) a),.int .i64 e,.sl false false b.length (aq (eI .i64) b)],.int .i64 f]=(F ((gu.mk c (an.mk (aF.mk d a) (aF.mk e b))),f)).map fun r=>(R r,none):=cF _ _ _ ((gu.mk c (an.mk (aF.mk d a) (aF.mk e b))),f)
def kQ:Env:=(Am.ext bd 110 false eD)
def wN:bN prog kQ:=(bN.none.add qp false)
def xq:=ai @w<|ai @K6<|ai @eD.eq_1<|@kQ.eq_1
def wS:b6 prog 178 iE:=b6.gO (mode:=.clean) tok wN mixed func178 (by kernel_rfl) (fun _ _=>rfl) (fun _=>by kernel_rfl) fun⟨c,d⟩ r a=>by
 replace a:eH c d=some r:=a;apply aD rfl ntmps178 results178;simp only[gP];unfold eH at a;obtain⟨e,b,a⟩:=ae a;cases a;simp only[xq,seval,b]
def cD(l:Option (D×Row))(d:List D):=dx (eZ (iQ ck) (eZ (aI .i64) (dp (QT 178)))) (fun x:(List gu)×Int×Unit=>bP x.1 x.2.1) (fun r:Int×Bool =>.clean (.tup [.int .i64 r.1,.bool r.2])) l d
def ak1{β:Type}{F:(List gu)×Int×Unit->Option β}{R:β->RK}(a:(List gu))(b:Int):dx (eZ (iQ ck) (eZ (aI .i64) (dp (QT 178)))) F R none [.sl false false a.length (aq ck a),.int .i64 b,.fn 178]=(F (a,b,())).map fun r=>(R r,none):=cF _ _ _ (a,b,())
def dt:Env:=(Am.ext bd 178 false iE)
def jO:bN prog dt:=(bN.none.add wS false)
def aK:=ai @w<|ai @ak0<|ai @iE.eq_1<|@dt.eq_1
def jP:b6 prog 177 cD:=b6.gO (mode:=.clean) tok jO mixed func177 (by kernel_rfl) (fun _ _=>rfl) (fun _=>by kernel_rfl) fun⟨h,q,_⟩ r a=>by
 replace a:bP h q=some r:=a;apply aD rfl ntmps177 results177;simp only[gP];unfold bP at a;simp only[aK,seval,-Int.reduceToNat];obtain⟨A,u,a⟩:=ae a;refine az (fun s t H e=>match s with|(i,b)=>t 0=sF ck h∧t 1=sN q∧t 2=.fn 178∧t 8=sN (h.length:Int)∧t 9=sN i∧t 10=sN b) (fun o x t H e=>match o with|d=>x=.exit 0∧t 0=sF ck h∧t 1=sN q∧t 2=.fn 178∧t 8=sN (h.length:Int)∧t 9=sN d) u ?_ ?_ ?_
 ·refine⟨?_,?_,?_,?_,?_,?_⟩;all_goals (rfl)
 ·rintro⟨i,b⟩ t H e j c a;simp only[cB]at a;simp only[aK,seval,-Int.reduceToNat,j];apply sp av a<;>intro _ a
  ·obtain⟨F,v,a⟩:=ae a;have w:=yB v;obtain⟨B,k,a⟩:=ae a;have f:=bh ck k;simp only[bK]at f;obtain⟨C,l,a⟩:=ae a;simp only[aK,seval,-Int.reduceToNat,j,w,f,l];apply sp av a<;>intro _ a
   ·cases a;simp only[aK,seval,-Int.reduceToNat];apply gS;and_intros<;>first|rfl|(simp only[aK,seval,-Int.reduceToNat,j]<;>rfl)
   ·cases a;simp only[aK,seval,-Int.reduceToNat];apply gS;and_intros<;>first|rfl|(simp only[aK,seval,-Int.reduceToNat,j]<;>rfl)
  ·cases a;simp only[aK,seval,-Int.reduceToNat];apply jf;refine⟨rfl,⟨?_,?_,?_,?_,?_⟩⟩;all_goals ((simp only[aK,seval,-Int.reduceToNat,j]<;>rfl))
 ·rintro x t H e y;obtain⟨d,rfl⟩:∃z,z=A:=⟨_,rfl⟩;dsimp only at y a;obtain⟨rfl,m⟩:=y;simp only[aK,seval,-Int.reduceToNat,m];apply sp gj a<;>intro _ a
  ·obtain⟨D,n,a⟩:=ae a;have g:=bh ck n;simp only[bK]at g;obtain⟨E,p,a⟩:=ae a;cases a;simp only[aK,seval,-Int.reduceToNat,m,g,p]
  ·cases a;simp only[aK,seval,-Int.reduceToNat]
def gA:=Lw 128 130 5 a7 (dp (aI .i64)) (fun (q:aJ) (x:Int)=>dK q x) (fun r:Int×Bool =>.tup [.int .i64 r.1,.bool r.2])
def ly(b a:List D)(c:aJ)(d:Int):gA 128 130 5 b.length (b++(a7.cells c++a)) [.int .i64 d]=(dK c d).map fun r=>(.tup [.int .i64 r.2.1,.bool r.2.2],b++(a7.cells r.1++a)):=PO _ _ _ _ _ _ _ b a c (d)
def jL:Env:=(Am.ext bd 177 false cD)
def yf:bN prog jL:=(bN.none.add jP false)
def zi:=ai @w<|ai @vnp<|ai @ak1<|ai @cD.eq_1<|@jL.eq_1
def zd(b a:List D)(e:aJ)(f:Int)(r:aJ×(Int×Bool))(c:dK e f=some r):yJ tab jL FU Tryz.f137 128 130 5 b.length (b++(a7.cells e++a)) [.int .i64 f]=some (.tup [.int .i64 r.2.1,.bool r.2.2],b++(a7.cells r.1++a)):=by
 apply BA rfl ntmps137 results137;rw[eM];unfold dK at c;obtain⟨g,d,c⟩:=ae c;cases c;simp only[zi,seval,d]
def eP:NOk prog 137 gA:=NOk.of tok yf mixed func137 (by kernel_rfl) ⟨by kernel_rfl,by kernel_rfl⟩ (fun _=>aov (by kernel_rfl)) (fun b a q x c r h=>zd b a q x (c,r) h)
def mh:=mkE 130 ck (eZ (aI .i64) (dp (aI .i64))) (fun (l:(List gu)) (x:Int×Int)=>jh l x.1 x.2)
def vZ(b a:List D)(c:(List gu))(d e:Int):mh (some (.buf 0 0 5 b.length c.length,⟨0,130,b++(aq ck c++a),false,true,false⟩)) [.int .i64 d,.int .i64 e]=(jh c d e).map fun r=>(.fresh 130 5 r.length (aq ck r),none):=aeG _ _ _ _ b a c (d,e)
def u3:b6 prog 138 mh:=agr ck rfl
def xx(l:Option (D×Row))(d:List D):=dx (eZ (bC ah) (dp (bC ah))) (fun x:an×an=>sA x.1 x.2) (fun r:an×Int =>.clean (.tup [.agg [.int .i64 r.1.bF.al,.sl false false r.1.bF.aa.length (aq (eI .i64) r.1.bF.aa),.int .i64 r.1.bJ.al,.sl false false r.1.bJ.aa.length (aq (eI .i64) r.1.bJ.aa)],.int .i64 r.2])) l d
def Cp:Env:=(Am.ext (Am.ext (Am.ext bd 54 false bn) 60 false fc) 63 false gW)
def SJ:bN prog Cp:=(((bN.none.add fJ false).add sh false).add vW false)
def lC:=ai @w<|ai @kC<|ai @bn.eq_1<|ai @B4<|ai @fc.eq_1<|ai @gW.eq_1<|@Cp.eq_1
def Ua:b6 prog 139 xx:=b6.gO (mode:=.clean) tok SJ mixed func139 (by kernel_rfl) (fun _ _=>rfl) (fun _=>by kernel_rfl) fun⟨h,i⟩ r a=>by
 replace a:sA h i=some r:=a;apply aD rfl ntmps139 results139;simp only[gP];unfold sA at a;obtain⟨q,j,a⟩:=ae a;simp only[lC,seval,j];obtain⟨p,k,a⟩:=ae a;refine bX 0 (fun s t H e=>match s with|g=>∃b:Nat,∃c:Nat,∃d:Nat,t 2=.ptr 2 b 0∧t 3=.ptr 3 c 0∧t 4=.ptr 4 d 0∧t 6=.bool g∧H 2=rV b 41 [sN h.bF.al,sI h.bF.aa,sN h.bJ.al,sI h.bJ.aa]∧H 3=rV c 41 [sN i.bF.al,sI i.bF.aa,sN i.bJ.al,sI i.bJ.aa]∧H 4=rV d 41 [sN 0,.sl true true 0 [],sN 0,.sl true true 0 []]) (fun s=>s=p) ?_ ?_
 ·rintro g t H e ⟨b,c,d,f⟩ rfl;try dsimp only at a
  simp only[lC,seval,f];apply sp av a<;>intro _ a
  ·cases a;simp only[lC,seval,f]
  ·simp only[lC,seval,f];apply sp av a<;>intro _ a
   ·cases a;simp only[lC,seval,f]
   ·obtain⟨u,l,a⟩:=ae a;obtain⟨v,m,a⟩:=ae a;obtain⟨w,n,a⟩:=ae a;simp only[lC,seval,f,l,m,n];refine bA (by kernel_rfl) ?_;cases a;simp only[seval]
 ·clear a;have a:=k;simp only[lC,seval];apply sp aZ a<;>intro _ a
  ·cases a;simp only[lC,seval];rw[ay];refine⟨_,rfl,?_⟩;refine⟨0,0,0,?_,?_,?_,?_,?_,?_,?_⟩;all_goals (rfl)
  ·obtain⟨x,o,a⟩:=ae a;cases a;simp only[lC,seval,o];rw[ay];refine⟨_,rfl,?_⟩;refine⟨0,0,0,?_,?_,?_,?_,?_,?_,?_⟩;all_goals (rfl)
def kH:=Lw 128 130 5 a7 (dp (aI .i64)) (fun (q:aJ) (x:Int)=>eV q x) (fun r:Unit =>.tup [])
def iV:Env:=(Am.ext (Am.ext (Am.tH 137 (0,gA) (Am.ext (Am.ext bd 21 false dr) 29 false kp)) 138 true mh) 139 false xx)
def xd:bN prog iV:=(((bN.tH ((bN.none.add mH false).add Aq false) eP.callable eP.calls).add u3 true).add Ua false)
def cm:=ai @w<|ai @vnp<|ai @vnl<|ai @GK<|ai @dr.eq_1<|ai @qI<|ai @kp.eq_1<|ai @xx.eq_1<|@iV.eq_1
def yh(f g:List D)(R:aJ)(S:Int)(r:aJ×(Unit))(a:eV R S=some r):yJ tab iV FU Tryz.f86 128 130 5 f.length (f++(a7.cells R++g)) [.int .i64 S]=some (.tup [],f++(a7.cells r.1++g)):=by
 apply BA rfl ntmps86 results86;rw[eM];unfold eV at a;have T:=ly f g R S;simp only[bK]at T;obtain⟨U,C,a⟩:=ae a;have V:bump 0 (1)=some (4*(1)+1):=mj (by omega);simp only[cm,seval,T,C];apply sp av a<;>intro _ a
 ·cases a;simp only[cm,seval]
 ·obtain⟨r5,E,a⟩:=ae a;obtain⟨x6,y,a⟩:=ae a;have A:=bh ck y;simp only[bK]at A;have B:=mC ck 1 y;have F:=lK ck 1 4 (aov rfl) y;simp only[bK]at B F;obtain⟨P,G,a⟩:=ae a;simp only[cm,seval,E,A,B,G];refine bA (by kernel_rfl) ?_;have W:=vZ [] [] U.1.ct U.2.1 (IntKind.i64.wrap (U.2.1+1));simp only[List.nil_append,aoI,List.length_nil]at W;obtain⟨X,p,a⟩:=ae a;have I:bump (4*(1)+1) (4)=some (4*(4)+1):=mj (by omega);obtain⟨h,q,a⟩:=ae a;simp only[cm,seval,W,p,q];refine bA (by kernel_rfl) ?_;obtain⟨Y,J,a⟩:=ae a;refine az (fun s t H e=>match s with|(u,j)=>∃n:Nat,∃i:Nat,t 0=.ptr 0 0 f.length∧t 6=.ptr 6 n 0∧t 57=sN ((X).length:Int)∧t 58=sN u∧H 0=some ⟨0,128,[.nr 130 5 i (f++([sN h.1.bF.al,sI h.1.bF.aa,sN h.1.bJ.al,sI h.1.bJ.aa,.nx (j).length (aq ck j)]++g))],false,true,true⟩∧H 6=rV n 41 [sN P.1.bF.al,sI P.1.bF.aa,sN P.1.bJ.al,sI P.1.bJ.aa]∧i<=4*e) (fun o x t H e=>match o with|d=>x=.exit 0∧∃k:Nat,t 0=.ptr 0 0 f.length∧H 0=some ⟨0,128,[.nr 130 5 k (f++([sN h.1.bF.al,sI h.1.bF.aa,sN h.1.bJ.al,sI h.1.bJ.aa,.nx (d).length (aq ck d)]++g))],false,true,true⟩∧k<=4*e) J ?_ ?_ ?_
  ·refine⟨3,4*(4)+1,?_,?_,?_,?_,?_,?_,?_⟩;all_goals (first|rfl|omega|(simp only[cm,seval,T,C,V,E,A,B,F,G,W,p,I,q]<;>rfl))
  ·rintro⟨u,j⟩ t H e ⟨n,i,Q⟩ c a;simp only[fX]at a;simp only[cm,seval,Q];apply sp av a<;>intro _ a
   ·obtain⟨Z,b,a⟩:=ae a;have m:=bh ck b;simp only[bK]at m;have v:=mC ck 1 b;have K:=lK ck 1 4 (aov rfl) b;simp only[bK]at v K;obtain⟨l,L,a⟩:=ae a;have m:=bh ck b;simp only[bK]at m;have M:=mC ck 1 b;have N:=lK ck 1 4 (aov rfl) b;simp only[bK]at M N;have O:=eN ck (x':=(gu.mk Z.oS l.1)) (fo:=1) (cs:=[.int .i64 l.1.bF.al,.sl false false l.1.bF.aa.length (aq (eI .i64) l.1.bF.aa),.int .i64 l.1.bJ.al,.sl false false l.1.bJ.aa.length (aq (eI .i64) l.1.bJ.aa)]) b rfl (aov rfl);simp only[bK]at O;have w:=O;simp only[putCells,List.length_cons,List.length_nil,an5,Nat.reduceAdd]at w;simp only[cm,seval,Q,v,L,m,w];refine bA (by kernel_rfl) ?_;cases a;apply gS;refine⟨n,i,?_,?_,?_,?_,?_,?_,?_⟩;all_goals (first|rfl|omega|(simp only[cm,seval,Q]<;>rfl))
   ·cases a;simp only[cm,seval];apply jf;refine⟨rfl,⟨i,?_,?_,?_⟩⟩;all_goals (first|rfl|omega|(simp only[cm,seval,Q]<;>rfl))
  ·rintro x t H e hx;obtain⟨d,rfl⟩:∃z,z=Y:=⟨_,rfl⟩;dsimp only at hx a;obtain⟨rfl,⟨k,aa⟩⟩:=hx;cases a;simp only[cm,seval,aa]
def ou:NOk prog 86 kH:=NOk.of tok xd mixed func86 (by kernel_rfl) ⟨by kernel_rfl,by kernel_rfl⟩ (fun _=>aov (by kernel_rfl)) (fun b a q x c r h=>yh b a q x (c,r) h)
def ff(l:Option (D×Row))(d:List D):=dx (eZ (bC ah) (eZ (bC ah) (dp (bC ah)))) (fun x:an×an×an=>jF x.1 x.2.1 x.2.2) (fun r:an =>.clean (.agg [.int .i64 r.bF.al,.sl false false r.bF.aa.length (aq (eI .i64) r.bF.aa),.int .i64 r.bJ.al,.sl false false r.bJ.aa.length (aq (eI .i64) r.bJ.aa)])) l d
def UT{β:Type}{F:an×an×an->Option β}{R:β->RK}(g:Int)(a:(List Int))(h:Int)(b:(List Int))(i:Int)(c:(List Int))(j:Int)(d:(List Int))(k:Int)(e:(List Int))(l:Int)(f:(List Int)):dx (eZ (bC ah) (eZ (bC ah) (dp (bC ah)))) F R none [.agg [.int .i64 g,.sl false false a.length (aq (eI .i64) a),.int .i64 h,.sl false false b.length (aq (eI .i64) b)],.agg [.int .i64 i,.sl false false c.length (aq (eI .i64) c),.int .i64 j,.sl false false d.length (aq (eI .i64) d)],.agg [.int .i64 k,.sl false false e.length (aq (eI .i64) e),.int .i64 l,.sl false false f.length (aq (eI .i64) f)]]=(F ((an.mk (aF.mk g a) (aF.mk h b)),(an.mk (aF.mk i c) (aF.mk j d)),(an.mk (aF.mk k e) (aF.mk l f)))).map fun r=>(R r,none):=cF _ _ _ ((an.mk (aF.mk g a) (aF.mk h b)),(an.mk (aF.mk i c) (aF.mk j d)),(an.mk (aF.mk k e) (aF.mk l f)))
def ye:Env:=(Am.ext (Am.ext bd 23 false gU) 58 false gV)
def Lv:bN prog ye:=((bN.none.add vU false).add vV false)
def QS:=ai @w<|ai @qI<|ai @gU.eq_1<|ai @gV.eq_1<|@ye.eq_1
def si:b6 prog 76 ff:=b6.gO (mode:=.clean) tok Lv mixed func76 (by kernel_rfl) (fun _ _=>rfl) (fun _=>by kernel_rfl) fun⟨d,e,f⟩ r a=>by
 replace a:jF d e f=some r:=a;apply aD rfl ntmps76 results76;simp only[gP];unfold jF at a;obtain⟨g,b,a⟩:=ae a;obtain⟨h,c,a⟩:=ae a;cases a;simp only[QS,seval,b,c]
def agG:acs prog 179 (130,5,72):=agI
def l8:=Lw 128 130 5 a7 (eZ (aI .i64) (dp (bC ah))) (fun (q:aJ) (x:Int×an)=>fQ q x.1 x.2) (fun r:Unit =>.tup [])
def zh(f c:List D)(g:aJ)(h:Int)(d:Int)(a:(List Int))(e:Int)(b:(List Int)):l8 128 130 5 f.length (f++(a7.cells g++c)) [.int .i64 h,.agg [.int .i64 d,.sl false false a.length (aq (eI .i64) a),.int .i64 e,.sl false false b.length (aq (eI .i64) b)]]=(fQ g h (an.mk (aF.mk d a) (aF.mk e b))).map fun r=>(.tup [],f++(a7.cells r.1++c)):=PO _ _ _ _ _ _ _ f c g (h,(an.mk (aF.mk d a) (aF.mk e b)))
def ka:Env:=(Am.Jl 179 (130,5,72) (Am.tH 137 (0,gA) (Am.ext (Am.ext bd 21 false dr) 76 false ff)))
def za:bN prog ka:=(bN.Jl (bN.tH ((bN.none.add mH false).add si false) eP.callable eP.calls) agG)
def kl:=ai @w<|ai @vnp<|ai @vnl<|ai @GK<|ai @dr.eq_1<|ai @UT<|ai @ff.eq_1<|@ka.eq_1
def Aj(d c:List D)(q:aJ)(s:Int)(h:an)(r:aJ×(Unit))(a:fQ q s h=some r):yJ tab ka FU Tryz.f140 128 130 5 d.length (d++(a7.cells q++c)) [.int .i64 s,.agg [.int .i64 h.bF.al,.sl false false h.bF.aa.length (aq (eI .i64) h.bF.aa),.int .i64 h.bJ.al,.sl false false h.bJ.aa.length (aq (eI .i64) h.bJ.aa)]]=some (.tup [],d++(a7.cells r.1++c)):=by
 apply BA rfl ntmps140 results140;rw[eM];unfold fQ at a;have z:=ly d c q s;simp only[bK]at z;obtain⟨F,t,a⟩:=ae a;have B:bump 0 (2)=some (4*(2)+1):=mj (by omega);simp only[kl,seval,z,t];apply sp av a<;>intro _ a
 ·obtain⟨C,b,a⟩:=ae a;have e:=bh ck b;simp only[bK]at e;have j:=mC ck 1 b;have u:=lK ck 1 4 (aov rfl) b;simp only[bK]at j u;obtain⟨G,v,a⟩:=ae a;obtain⟨i,w,a⟩:=ae a;have e:=bh ck b;simp only[bK]at e;have x:=mC ck 1 b;have y:=lK ck 1 4 (aov rfl) b;simp only[bK]at x y;have k:=eN ck (x':=(gu.mk C.oS i)) (fo:=1) (cs:=[.int .i64 i.bF.al,.sl false false i.bF.aa.length (aq (eI .i64) i.bF.aa),.int .i64 i.bJ.al,.sl false false i.bJ.aa.length (aq (eI .i64) i.bJ.aa)]) b rfl (aov rfl);simp only[bK]at k;have f:=k;simp only[putCells,List.length_cons,List.length_nil,an5,Nat.reduceAdd]at f;simp only[kl,seval,j,v,w,e,f];refine bA (by kernel_rfl) ?_;cases a;simp only[kl,seval]
 ·obtain⟨E,l,a⟩:=ae a;obtain⟨m,n,o,p,g⟩:=agH ck l;simp only[bK]at g;have A:bump (4*(2)+1) (4)=some (4*(4)+1):=mj (by omega);simp only[kl,ne_eq,not_false_eq_true,seval,m,n,o,p,g];refine bA (by kernel_rfl) ?_;cases a;simp only[seval]
def qn:NOk prog 140 l8:=NOk.of tok za mixed func140 (by kernel_rfl) ⟨by kernel_rfl,by kernel_rfl⟩ (fun _=>aov (by kernel_rfl)) (fun b a q x c r h=>Aj b a q x.1 x.2 (c,r) h)
def l9:=Lw 128 130 5 a7 (eZ (aI .i64) (dp (bC gX))) (fun (q:aJ) (x:Int×aJ)=>fR q x.1 x.2) (fun r:Unit =>.tup [])
def kb:Env:=(Am.tH 140 (0,l8) (Am.ext (Am.tH 137 (0,gA) (Am.ext (Am.ext bd 21 false dr) 76 false ff)) 138 true mh))
def zb:bN prog kb:=(bN.tH ((bN.tH ((bN.none.add mH false).add si false) eP.callable eP.calls).add u3 true) qn.callable qn.calls)
def cY:=ai @w<|ai @vnp<|ai @vnl<|ai @GK<|ai @dr.eq_1<|ai @UT<|ai @ff.eq_1<|@kb.eq_1
def Ak(d b:List D)(T:aJ)(U:Int)(v:aJ)(r:aJ×(Unit))(a:fR T U v=some r):yJ tab kb FU Tryz.f87 128 130 5 d.length (d++(a7.cells T++b)) [.int .i64 U,.agg [.int .i64 v.bG.bF.al,.sl false false v.bG.bF.aa.length (aq (eI .i64) v.bG.bF.aa),.int .i64 v.bG.bJ.al,.sl false false v.bG.bJ.aa.length (aq (eI .i64) v.bG.bJ.aa),.sl false false v.ct.length (aq ck v.ct)]]=some (.tup [],d++(a7.cells r.1++b)):=by
 apply BA rfl ntmps87 results87;rw[eM];unfold fR at a;have V:=ly d b T U;simp only[bK]at V;obtain⟨W,G,a⟩:=ae a;have X:bump 0 (2)=some (4*(2)+1):=mj (by omega);simp only[cY,seval,V,G];apply sp av a<;>intro _ a
 ·cases a;simp only[cY,seval]
 ·obtain⟨R,C,a⟩:=ae a;have E:=bh ck C;simp only[bK]at E;have F:=mC ck 1 C;have I:=lK ck 1 4 (aov rfl) C;simp only[bK]at F I;have Y:=vZ [] [] W.1.ct W.2.1 (IntKind.i64.wrap (W.2.1+1));simp only[List.nil_append,aoI,List.length_nil]at Y;obtain⟨r8,J,a⟩:=ae a;have Z:bump (4*(2)+1) (5)=some (4*(5)+1):=mj (by omega);obtain⟨ag,z,a⟩:=ae a;simp only[cY,seval,E,F,Y,J,z];refine bA (by kernel_rfl) ?_;obtain⟨aa,K,a⟩:=ae a;refine az (fun s t H e=>match s with|(A,i,j,k,l,f)=>∃w:Nat,∃h:Nat,t 0=.ptr 0 0 d.length∧t 8=.ptr 8 w 0∧t 50=sF ck v.ct∧t 51=sN (v.ct.length:Int)∧t 52=sN A∧H 0=some ⟨0,128,[.nr 130 5 h (d++([sN i,sI j,sN k,sI l,.nx (f).length (aq ck f)]++b))],false,true,true⟩∧H 8=rV w 41 [sN R.iU.bF.al,sI R.iU.bF.aa,sN R.iU.bJ.al,sI R.iU.bJ.aa]∧h<=4*e) (fun o x t H e=>match o with|(n,p,q,u,g)=>x=.exit 0∧∃m:Nat,t 0=.ptr 0 0 d.length∧H 0=some ⟨0,128,[.nr 130 5 m (d++([sN n,sI p,sN q,sI u,.nx (g).length (aq ck g)]++b))],false,true,true⟩∧m<=4*e) K ?_ ?_ ?_
  ·refine⟨4,4*(5)+1,?_,?_,?_,?_,?_,?_,?_,?_⟩;all_goals (first|rfl|omega|(simp only[cY,seval,V,G,X,E,F,I,Y,J,Z,z]<;>rfl))
  ·rintro⟨A,i,j,k,l,f⟩ t H e ⟨w,h,S⟩ c a;simp only[gR]at a;simp only[cY,seval,S];apply sp av a<;>intro _ a
   ·obtain⟨ab,L,a⟩:=ae a;have B:=bh ck L;simp only[bK]at B;obtain⟨ah,M,a⟩:=ae a;obtain⟨y,N,a⟩:=ae a;have O:=zh d b (aJ.mk (an.mk (aF.mk i j) (aF.mk k l)) f) ab.oS y.bF.al y.bF.aa y.bJ.al y.bJ.aa;simp only[bK]at O;obtain⟨ai,P,a⟩:=ae a;have Q:bump h (e+1+1)=some (4*(e+1+1)+1):=mj (by omega);simp only[cY,seval,S,B,M,N,O,P,Q];refine bA (by kernel_rfl) ?_;cases a;apply gS;refine⟨w,4*(e+1+1)+1,?_,?_,?_,?_,?_,?_,?_,?_⟩;all_goals (first|rfl|omega|(simp only[cY,seval,S]<;>rfl))
   ·cases a;simp only[cY,seval];apply jf;refine⟨rfl,⟨h,?_,?_,?_⟩⟩;all_goals (first|rfl|omega|(simp only[cY,seval,S]<;>rfl))
  ·rintro x t H e hx;rcases aa with⟨n,p,q,u,g⟩;dsimp only at hx a;obtain⟨rfl,⟨m,ad⟩⟩:=hx;cases a;simp only[cY,seval,ad]
def qo:NOk prog 87 l9:=NOk.of tok zb mixed func87 (by kernel_rfl) ⟨by kernel_rfl,by kernel_rfl⟩ (fun _=>aov (by kernel_rfl)) (fun b a q x c r h=>Ak b a q x.1 x.2 (c,r) h)
def xD(l:Option (D×Row))(d:List D):=dx (eZ (bC yR) (dp (iQ ah))) (fun x:gK×(List an)=>lN x.1 x.2) (fun r:(List an)×Int =>.clean (.tup [.sl false false r.1.length (aq ah r.1),.int .i64 r.2])) l d
def xm{C:List (Bool×aJ)}{i:Int}{b:aJ}(h:P.idx C i=some (false,b))(a:Int):kH 128 130 5 (i.toNat*b8.size) (aq b8 C) [.int .i64 a]=(eV b a).map fun r=>(.tup [],aq b8 (C.set i.toNat (false,r.1))):=Zo p5 h (a)
def zg{C:List (Bool×aJ)}{i:Int}{g:aJ}(h:P.idx C i=some (false,g))(f:Int)(d:Int)(a:(List Int))(e:Int)(b:(List Int))(c:(List gu)):l9 128 130 5 (i.toNat*b8.size) (aq b8 C) [.int .i64 f,.agg [.int .i64 d,.sl false false a.length (aq (eI .i64) a),.int .i64 e,.sl false false b.length (aq (eI .i64) b),.sl false false c.length (aq ck c)]]=(fR g f (aJ.mk (an.mk (aF.mk d a) (aF.mk e b)) c)).map fun r=>(.tup [],aq b8 (C.set i.toNat (false,r.1))):=Zo p5 h (f,(aJ.mk (an.mk (aF.mk d a) (aF.mk e b)) c))
def CD:Env:=(Am.tH 87 (0,l9) (Am.tH 86 (5,kH) (Am.ext (Am.ext (Am.DW 75 oQ (Am.ext (Am.ext (Am.ext bd 21 false dr) 73 false iZ) 74 false iM)) 76 false ff) 85 false rX)))
def SZ:bN prog CD:=(bN.tH (bN.tH (((bN.DW (((bN.none.add mH false).add yk false).add xj false) th.callable th.calls).add si false).add J3 false) ou.callable ou.calls) qo.callable qo.calls)
def bI:=ai @w<|ai @vnl<|ai @GK<|ai @dr.eq_1<|ai @LO<|ai @iZ.eq_1<|ai @ahh<|ai @iM.eq_1<|ai @u5<|ai @UT<|ai @ff.eq_1<|ai @rX.eq_1<|@CD.eq_1
def Ug:b6 prog 41 xD:=b6.gO (mode:=.clean) tok SZ mixed func41 (by kernel_rfl) (fun _ _=>rfl) (fun _=>by kernel_rfl) fun⟨X,p1⟩ r a=>by
 replace a:lN X p1=some r:=a;apply aD rfl ntmps41 results41;simp only[gP];unfold lN at a;obtain⟨r1,bD,a⟩:=ae a;simp only[bI,seval,bD];obtain⟨o2,bE,a⟩:=ae a;refine bX 0 (fun s t H e=>match s with|Y=>∃L:Nat,t 1=sF ah p1∧t 2=.ptr 2 L 0∧t 14=.bool Y∧H 2=rV L 66 [sN X.aC,sF ch X.bf]) (fun s=>s=o2) ?_ ?_
 ·rintro Y t H e ⟨L,au⟩ rfl;try dsimp only at a
  simp only[bI,seval,au];apply sp av a<;>intro _ a
  ·cases a;simp only[bI,seval]
  ·obtain⟨r4,bF,a⟩:=ae a;simp only[bI,seval,au,bF];apply sp av a<;>intro _ a
   ·cases a;simp only[bI,seval]
   ·obtain⟨r6,bG,a⟩:=ae a;have bH:=Ni p5 r6;simp only[bI,seval,au,bG,bH];obtain⟨bJ,aS,a⟩:=ae a;refine az (fun s t H e=>match s with|(g,M)=>∃Z:Nat,∃A:Nat,∃m:Nat,t 2=.ptr 2 Z 0∧t 6=.buf 32 A 5 0 (M).length∧t 34=sN ((r6).length:Int)∧t 35=sN g∧H 2=rV Z 66 [sN X.aC,sF ch X.bf]∧H 32=some ⟨A,128,[.nr 130 5 m (aq b8 M)],false,true,true⟩∧m<=4*e) (fun o x t H e=>match o with|b=>x=.exit 1∧∃aa:Nat,∃u:Nat,∃j:Nat,t 2=.ptr 2 aa 0∧t 6=.buf 32 u 5 0 (b).length∧H 2=rV aa 66 [sN X.aC,sF ch X.bf]∧H 32=some ⟨u,128,[.nr 130 5 j (aq b8 b)],false,true,true⟩∧j<=4*e) aS ?_ ?_ ?_
    ·refine⟨L,e+1,4*(e+1)+2,?_,?_,?_,?_,?_,?_,?_⟩;all_goals (first|rfl|omega|(simp only[bI,seval,au]<;>rfl))
    ·rintro⟨g,M⟩ t H e ⟨Z,A,m,Zb⟩ c a;simp only[mQ]at a;simp only[bI,seval,Zb];apply sp av a<;>intro _ a
     ·obtain⟨bS,ab,a⟩:=ae a;have ad:=And.intro (uQ ab) (lq b8 ab);simp only[bK]at ad;obtain⟨bL,aU,a⟩:=ae a;have aw:P.idx M g=some (false,bL):=ab.trans (congrArg some (Uk aU));have aV:=xm aw g;simp only[bK]at aV;obtain⟨bM,aW,a⟩:=ae a;have aX:bump m (e+1+1)=some (4*(e+1+1)+1):=mj (by omega);have ax:=akk p5 IA IC IB aw bM.1;rw[rl]at ax;simp only[bI,seval,Zb,ad,aV,aW,aX,ax];obtain⟨bN,aY,a⟩:=ae a;refine az (fun s t H e=>match s with|(aQ,B)=>∃ag:Nat,∃C:Nat,∃n:Nat,t 2=.ptr 2 ag 0∧t 6=.buf 32 C 5 0 (B).length∧t 7=sN g∧t 8=sN aQ∧t 34=sN ((r6).length:Int)∧t 35=sN g∧H 2=rV ag 66 [sN X.aC,sF ch X.bf]∧H 32=some ⟨C,128,[.nr 130 5 n (aq b8 B)],false,true,true⟩∧n<=4*e) (fun o x t H e=>match o with|I=>x=.exit 3∧∃N:Nat,∃v:Nat,∃k:Nat,t 2=.ptr 2 N 0∧t 6=.buf 32 v 5 0 (I).length∧t 34=sN ((r6).length:Int)∧t 35=sN g∧H 2=rV N 66 [sN X.aC,sF ch X.bf]∧H 32=some ⟨v,128,[.nr 130 5 k (aq b8 I)],false,true,true⟩∧k<=4*e) aY ?_ ?_ ?_
      ·refine⟨Z,A,4*(e+1+1)+1,?_,?_,?_,?_,?_,?_,?_,?_,?_⟩;all_goals (first|rfl|omega|(simp only[bI,seval,Zb]<;>rfl))
      ·rintro⟨aQ,B⟩ t H e ⟨ag,C,n,Zd⟩ c a;simp only[pI]at a;simp only[bI,seval,Zd];apply sp av a<;>intro _ a
       ·obtain⟨bT,ai,a⟩:=ae a;have aA:=And.intro (uQ ai) (lq b8 ai);simp only[bK]at aA;obtain⟨bU,aj,a⟩:=ae a;have aB:=And.intro (uQ aj) (lq b8 aj);simp only[bK]at aB;obtain⟨W,a1,a⟩:=ae a;have aC:P.idx B g=some (true,W):=aj.trans (congrArg some (UY a1));have aE:=mC b8 0 aC;have a6:=lK b8 0 5 (aov rfl) aC;simp only[bK,Nat.add_zero]at aE a6;obtain⟨bO,a7,a⟩:=ae a;have a8:P.idx B aQ=some (false,bO):=ai.trans (congrArg some (Uk a7));have ba:=zg a8 g W.bG.bF.al W.bG.bF.aa W.bG.bJ.al W.bG.bJ.aa W.ct;simp only[bK]at ba;obtain⟨bV,bb,a⟩:=ae a;have bc:bump n (e+1)=some (4*(e+1)+1):=mj (by omega);simp only[bI,seval,ad,Zd,aA,aB,aE,ba,bb,bc];refine bA (by kernel_rfl) ?_;cases a;apply gS;refine⟨ag,C,4*(e+1)+1,?_,?_,?_,?_,?_,?_,?_,?_,?_⟩;all_goals (first|rfl|omega|(simp only[bI,seval,Zd]<;>rfl))
       ·cases a;simp only[bI,seval];apply jf;refine⟨rfl,⟨ag,C,n,?_,?_,?_,?_,?_,?_,?_⟩⟩;all_goals (first|rfl|omega|(simp only[bI,seval,Zd]<;>rfl))
      ·rintro x t H e hx;obtain⟨I,rfl⟩:∃z,z=bN:=⟨_,rfl⟩;dsimp only at hx a;obtain⟨rfl,⟨N,v,k,bd⟩⟩:=hx;cases a;simp only[bI,seval,bd];apply gS;refine⟨N,v,k,?_,?_,?_,?_,?_,?_,?_⟩;all_goals (first|rfl|omega|(simp only[bI,seval,bd]<;>rfl))
     ·cases a;simp only[bI,seval];apply jf;refine⟨rfl,⟨Z,A,m,?_,?_,?_,?_,?_⟩⟩;all_goals (first|rfl|omega|(simp only[bI,seval,Zb]<;>rfl))
    ·rintro x t H e hx;obtain⟨b,rfl⟩:∃z,z=bJ:=⟨_,rfl⟩;dsimp only at hx a;obtain⟨rfl,⟨aa,u,j,bf⟩⟩:=hx;obtain⟨bW,bg,a⟩:=ae a;obtain⟨bj,bk,bm,aG,bn⟩:=mk_one ah bg;simp only[bK]at aG;simp only[bI,seval,bf,bj,bk,bm,aG,bn];obtain⟨bP,bo,a⟩:=ae a;refine az (fun s t H e=>match s with|(D,J)=>∃ak:Nat,∃O:Nat,∃w:Nat,t 6=.buf 32 O 5 0 (b).length∧t 9=.buf 9 ak 4 0 (J).length∧t 10=sN D∧H 9=rW ak 41 (aq ah J)∧H 32=some ⟨O,128,[.nr 130 5 w (aq b8 b)],false,true,true⟩∧w<=4*e) (fun o x t H e=>match o with|al=>x=.exit 5∧∃ao:Nat,t 9=.buf 9 ao 4 0 (al).length∧H 9=rW ao 41 (aq ah al)) bo ?_ ?_ ?_
     ·refine⟨e,u,j,?_,?_,?_,?_,?_,?_⟩;all_goals (first|rfl|omega|(simp only[bI,seval,bf]<;>rfl))
     ·rintro⟨D,J⟩ t H e ⟨ak,O,w,Ze⟩ c a;simp only[mR]at a;simp only[bI,seval,Ze];apply sp av a<;>intro _ a
      ·obtain⟨bY,E,a⟩:=ae a;have q:=And.intro (uQ E) (lq b8 E);simp only[bK]at q;obtain⟨aR,bp,a⟩:=ae a;have Q:P.idx b D=some (true,aR):=E.trans (congrArg some (UY bp));have aH:=mC b8 0 Q;have aI:=lK b8 0 4 (aov rfl) Q;simp only[bK,Nat.add_zero]at aH aI;obtain⟨bZ,bq,a⟩:=ae a;obtain⟨b1,br,a⟩:=ae a;simp only[bI,seval,Ze,q,aH,aI,bq,br];refine bA (by kernel_rfl) ?_;have q:=And.intro (uQ E) (lq b8 E);simp only[bK]at q;have aJ:=mC b8 4 Q;have bs:=lK b8 4 1 (aov rfl) Q;simp only[bK]at aJ bs;simp only[bI,seval,q,aJ];obtain⟨bQ,bt,a⟩:=ae a;refine az (fun s t H e=>match s with|(aK,R,S,T,U)=>∃ar:Nat,∃F:Nat,∃G:Nat,∃p:Nat,t 6=.buf 32 G 5 0 (b).length∧t 9=.buf 9 ar 4 0 (J).length∧t 10=sN D∧t 11=.ptr 11 F 0∧t 83=sF ck aR.ct∧t 84=sN (aR.ct.length:Int)∧t 85=sN aK∧H 9=rW ar 41 (aq ah J)∧H 11=rV F 41 [sN R,sI S,sN T,sI U]∧H 32=some ⟨G,128,[.nr 130 5 p (aq b8 b)],false,true,true⟩∧p<=4*e) (fun o x t H e=>match o with|(h,d,i,f)=>x=.exit 7∧∃V:Nat,∃K:Nat,∃y:Nat,∃l:Nat,t 6=.buf 32 y 5 0 (b).length∧t 9=.buf 9 V 4 0 (J).length∧t 10=sN D∧t 11=.ptr 11 K 0∧H 9=rW V 41 (aq ah J)∧H 11=rV K 41 [sN h,sI d,sN i,sI f]∧H 32=some ⟨y,128,[.nr 130 5 l (aq b8 b)],false,true,true⟩∧l<=4*e) bt ?_ ?_ ?_
       ·refine⟨ak,e+1,O,w,?_,?_,?_,?_,?_,?_,?_,?_,?_,?_,?_⟩;all_goals (first|rfl|omega|(simp only[bI,seval,Ze]<;>rfl))
       ·rintro⟨aK,R,S,T,U⟩ t H e ⟨ar,F,G,p,Zg⟩ c a;simp only[sQ]at a;simp only[bI,seval,Zg];apply sp av a<;>intro _ a
        ·obtain⟨b2,bu,a⟩:=ae a;have aL:=bh ck bu;simp only[bK]at aL;obtain⟨b3,bw,a⟩:=ae a;have aM:=bh ah bw;simp only[bK]at aM;obtain⟨b4,bx,a⟩:=ae a;simp only[bI,seval,Zg,aL,aM,bx];refine bA (by kernel_rfl) ?_;cases a;apply gS;refine⟨ar,F,G,p,?_,?_,?_,?_,?_,?_,?_,?_,?_,?_,?_⟩;all_goals (first|rfl|omega|(simp only[bI,seval,Zg]<;>rfl))
        ·cases a;simp only[bI,seval];apply jf;refine⟨rfl,⟨ar,F,G,p,?_,?_,?_,?_,?_,?_,?_,?_⟩⟩;all_goals (first|rfl|omega|(simp only[bI,seval,Zg]<;>rfl))
       ·rintro x t H e hx;rcases bQ with⟨h,d,i,f⟩;dsimp only at hx a;obtain⟨rfl,⟨V,K,y,l,bz⟩⟩:=hx;obtain⟨b5,aN,a⟩:=ae a;have aO:=bh ah aN;simp only[bK]at aO;have bB:=eN ah (x':=(an.mk (aF.mk h d) (aF.mk i f))) (fo:=0) (cs:=[.int .i64 h,.sl false false d.length (aq (eI .i64) d),.int .i64 i,.sl false false f.length (aq (eI .i64) f)]) aN rfl (aov rfl);simp only[bK,Nat.add_zero]at bB;have aP:=bB;simp only[putCells,List.length_cons,List.length_nil,an5,Nat.reduceAdd]at aP;cases a;simp only[bI,seval,q,bz,aO,aP];apply gS;refine⟨V,y,l,?_,?_,?_,?_,?_,?_⟩;all_goals (first|rfl|omega|(simp only[bI,seval,bz]<;>rfl))
      ·cases a;simp only[bI,seval];apply jf;refine⟨rfl,⟨ak,?_,?_⟩⟩;all_goals ((simp only[bI,seval,Ze]<;>rfl))
     ·rintro x t H e hx;obtain⟨al,rfl⟩:∃z,z=bP:=⟨_,rfl⟩;dsimp only at hx a;obtain⟨rfl,⟨ao,bR⟩⟩:=hx;cases a;simp only[bI,seval,bR]
 ·clear a;have a:=bE;simp only[bI,seval];apply sp aZ a<;>intro _ a
  ·cases a;simp only[bI,seval];rw[ay];refine⟨_,rfl,?_⟩;refine⟨0,?_,?_,?_,?_⟩;all_goals (rfl)
  ·obtain⟨b7,bC,a⟩:=ae a;cases a;simp only[bI,seval,bC];rw[ay];refine⟨_,rfl,?_⟩;refine⟨0,?_,?_,?_,?_⟩;all_goals (rfl)
def Fg(r:(List an))(a:ik []=some r):lP (.fresh 41 4) tab bd FU Tryz.f43 none [.sl true true 0 []]=some (.fresh 41 4 r.length (aq ah r),none):=by
 unfold ik at a;obtain⟨b,c,d⟩:=vC a;subst b;apply aD rfl ntmps43 results43;simp only[w,seval,Nat.lt_irrefl]
def Fh(r:(List an))(a:ik []=some r):lP (.fresh 41 4) tab bd FU Tryz.f43 none [.sl true false 0 []]=some (.fresh 41 4 r.length (aq ah r),none):=by
 unfold ik at a;obtain⟨b,c,d⟩:=vC a;subst b;apply aD rfl ntmps43 results43;simp only[w,seval,Nat.lt_irrefl]
def Fi(a r:(List an))(c:0<a.length)(b:ik a=some r):lP (.fresh 41 4) tab bd FU Tryz.f43 none [.sl false false a.length (aq ah a)]=some (.fresh 41 4 r.length (aq ah r),none):=by
 unfold ik at b;have g:¬a.length=0:=by omega
 obtain⟨d,e,f⟩:=vC b;subst d;apply aD rfl ntmps43 results43;simp only[w,seval,c,e,f]
def uj:=dx (dp (iQ ah)) (fun x:(List an)=>ik x) (fun r:(List an) =>.fresh 41 4 r.length (aq ah r))
def Aw(a:(List an)):uj none [.sl false false a.length (aq ah a)]=(ik a).map fun r:(List an)=>(.fresh 41 4 r.length (aq ah r),none):=cF _ _ _ a
def Hd:b6 prog 43 uj:=b6.aic (mode:=(.fresh 41 4)) tok bN.none mixed func43 (by kernel_rfl) ⟨by kernel_rfl,by kernel_rfl⟩ (aov (by kernel_rfl)) Fg Fh Fi
def lk(l:Option (D×Row))(d:List D):=dx (eZ (bC jK) (eZ (iQ ah) (eZ (aI .i64) (dp (aI .i64))))) (fun x:aT×(List an)×Int×Int=>ln x.1 x.2.1 x.2.2.1 x.2.2.2) (fun r:an =>.clean (.agg [.int .i64 r.bF.al,.sl false false r.bF.aa.length (aq (eI .i64) r.bF.aa),.int .i64 r.bJ.al,.sl false false r.bJ.aa.length (aq (eI .i64) r.bJ.aa)])) l d
def ahj{β:Type}{F:aT×(List an)×Int×Int->Option β}{R:β->RK}(a:(List Int))(b:(List bl))(c:(List an))(d:Int)(e:Int):dx (eZ (bC jK) (eZ (iQ ah) (eZ (aI .i64) (dp (aI .i64))))) F R none [.agg [.sl false false a.length (aq (eI .i64) a),.sl false false b.length (aq bD b)],.sl false false c.length (aq ah c),.int .i64 d,.int .i64 e]=(F ((aT.mk a b),c,d,e)).map fun r=>(R r,none):=cF _ _ _ ((aT.mk a b),c,d,e)
def xY:Env:=(Am.ext (Am.ext bd 57 false lS) 58 false gV)
def Lp:bN prog xY:=((bN.none.add CN false).add vV false)
def QO:=ai @w<|ai @K6<|ai @lS.eq_1<|ai @qI<|ai @gV.eq_1<|@xY.eq_1
def B2:b6 prog 44 lk:=b6.gO (mode:=.clean) tok Lp mixed func44 (by kernel_rfl) (fun _ _=>rfl) (fun _=>by kernel_rfl) fun⟨h,i,j,k⟩ r a=>by
 replace a:ln h i j k=some r:=a;apply aD rfl ntmps44 results44;simp only[gP];unfold ln at a;obtain⟨l,d,a⟩:=ae a;have b:=bh (eI .i64) d;simp only[bK]at b;obtain⟨m,e,a⟩:=ae a;obtain⟨n,f,a⟩:=ae a;have c:=bh ah f;simp only[bK]at c;obtain⟨o,g,a⟩:=ae a;simp only[QO,seval,b,e,c,g];refine bA (by kernel_rfl) ?_;cases a;simp only[seval]
def kn(l:Option (D×Row))(d:List D):=dx (eZ (bC jK) (dp (iQ (fj ah)))) (fun x:aT×(List (List an))=>gM x.1 x.2) (fun r:(List (List an))×(List an)×Int =>.clean (.tup [.sl false false r.1.length (aq (fj ah) r.1),.sl false false r.2.1.length (aq ah r.2.1),.int .i64 r.2.2])) l d
def wC:Env:=(Am.ext (Am.ext (Am.ext (Am.ext (Am.ext (Am.ext (Am.ext (Am.ext bd 26 false ug) 39 false iY) 40 false rS) 41 false xD) 42 false pS) 43 false uj) 44 false lk) 45 false jr)
def I5:bN prog wC:=((((((((bN.none.add NZ false).add yj false).add J0 false).add Ug false).add Hc false).add Hd false).add B2 false).add yU false)
def bk:=ai @w<|ai @US<|ai @ug.eq_1<|ai @iY.eq_1<|ai @abL<|ai @rS.eq_1<|ai @ahi<|ai @xD.eq_1<|ai @pS.eq_1<|ai @Aw<|ai @ahj<|ai @lk.eq_1<|ai @abM<|ai @jr.eq_1<|@wC.eq_1
def Ao:b6 prog 12 kn:=b6.gO (mode:=.clean) tok I5 mixed func12 (by kernel_rfl) (fun _ _=>rfl) (fun _=>by kernel_rfl) fun⟨g,p1⟩ r a=>by
 replace a:gM g p1=some r:=a;apply aD rfl ntmps12 results12;simp only[gP];unfold gM at a;obtain⟨r1,aJ,a⟩:=ae a;simp only[bk,seval,aJ];apply sp av a<;>intro _ a
 ·cases a;simp only[bk,seval]
 ·obtain⟨r3,aK,a⟩:=ae a;simp only[bk,seval,aK];apply sp av a<;>intro _ a
  ·cases a;simp only[bk,seval]
  ·obtain⟨r5,aL,a⟩:=ae a;simp only[bk,seval,aL];apply sp av a<;>intro _ a
   ·cases a;simp only[bk,seval]
   ·obtain⟨r7,aM,a⟩:=ae a;obtain⟨r8,aN,a⟩:=ae a;simp only[bk,seval,aM,aN];refine bA (by kernel_rfl) ?_;apply sp av a<;>intro _ a
    ·cases a;simp only[bk,seval]
    ·simp only[bk,seval];obtain⟨aO,aa,a⟩:=ae a;refine az (fun s t H e=>match s with|(h,d)=>∃M:Nat,∃C:Nat,t 1=sF (fj ah) p1∧t 2=.ptr 2 M 0∧t 4=.buf 4 C 1 0 (d).length∧t 5=sF ah r8.1∧t 54=sF bD g.au∧t 55=sN (g.au.length:Int)∧t 56=sN h∧H 2=rV M 25 [sI g.ak,sF bD g.au]∧H 4=rW C 27 (aq (fj ah) d)) (fun o x t H e=>match o with|D=>x=.exit 0∧∃E:Nat,t 4=.buf 4 E 1 0 (D).length∧t 5=sF ah r8.1∧H 4=rW E 27 (aq (fj ah) D)) aa ?_ ?_ ?_
     ·refine⟨0,0,?_,?_,?_,?_,?_,?_,?_,?_,?_⟩;all_goals (rfl)
     ·rintro⟨h,d⟩ t H e ⟨M,C,Za⟩ c a;simp only[jv]at a;simp only[bk,seval,Za];apply sp av a<;>intro _ a
      ·obtain⟨b,ab,a⟩:=ae a;have N:=bh bD ab;simp only[bK]at N;obtain⟨aS,ad,a⟩:=ae a;have O:=bh (fj ah) ad;simp only[bK]at O;obtain⟨aU,ag,a⟩:=ae a;simp only[bk,seval,Za,N,O,ag];obtain⟨aP,ai,a⟩:=ae a;refine az (fun s t H e=>match s with|(P,F)=>∃A:Nat,∃B:Nat,∃i:Nat,∃j:Nat,t 1=sF (fj ah) p1∧t 2=.ptr 2 A 0∧t 4=.buf 4 B 1 0 (d).length∧t 5=sF ah r8.1∧t 12=.ptr 12 i 0∧t 13=.buf 13 j 4 0 (F).length∧t 54=sF bD g.au∧t 55=sN (g.au.length:Int)∧t 56=sN h∧t 68=sF bo b.ax.aw∧t 69=sN (b.ax.aw.length:Int)∧t 70=sN P∧H 2=rV A 25 [sI g.ak,sF bD g.au]∧H 4=rW B 27 (aq (fj ah) d)∧H 12=rV i 57 [sF bo b.ax.aw,sF ep b.ax.aN,sF (fj ah) b.ax.aM,sF fu b.aX,sI b.aC]∧H 13=rW j 41 (aq ah F)) (fun o x t H e=>match o with|f=>x=.exit 2∧∃q:Nat,∃u:Nat,∃l:Nat,∃k:Nat,t 1=sF (fj ah) p1∧t 2=.ptr 2 q 0∧t 4=.buf 4 u 1 0 (d).length∧t 5=sF ah r8.1∧t 12=.ptr 12 l 0∧t 13=.buf 13 k 4 0 (f).length∧t 54=sF bD g.au∧t 55=sN (g.au.length:Int)∧t 56=sN h∧H 2=rV q 25 [sI g.ak,sF bD g.au]∧H 4=rW u 27 (aq (fj ah) d)∧H 12=rV l 57 [sF bo b.ax.aw,sF ep b.ax.aN,sF (fj ah) b.ax.aM,sF fu b.aX,sI b.aC]∧H 13=rW k 41 (aq ah f)) ai ?_ ?_ ?_
       ·refine⟨M,C,e+1,e+1+1,?_⟩;and_intros<;>first|rfl|(simp only[bk,seval,Za]<;>rfl)
       ·rintro⟨P,F⟩ t H e ⟨A,B,i,j,Zd⟩ c a;simp only[kK]at a;simp only[bk,seval,Zd];apply sp av a<;>intro _ a
        ·obtain⟨aV,aj,a⟩:=ae a;have G:=bh bo aj;simp only[bK]at G;simp only[bk,seval,Zd,G];apply sp av a<;>intro _ a
         ·obtain⟨aW,ak,a⟩:=ae a;have Q:=bh fu ak;simp only[bK]at Q;obtain⟨m,al,a⟩:=ae a;obtain⟨aX,R,a⟩:=ae a;have S:=bh ah R;simp only[bK]at S;have ao:=eN ah (x':=m) (fo:=0) (cs:=[.int .i64 m.bF.al,.sl false false m.bF.aa.length (aq (eI .i64) m.bF.aa),.int .i64 m.bJ.al,.sl false false m.bJ.aa.length (aq (eI .i64) m.bJ.aa)]) R rfl (aov rfl);simp only[bK,Nat.add_zero]at ao;have T:=ao;simp only[putCells,List.length_cons,List.length_nil,an5,Nat.reduceAdd]at T;cases a;simp only[bk,seval,Zd,G,Q,al,S,T];apply gS;refine⟨A,B,i,j,?_⟩;and_intros<;>first|rfl|(simp only[bk,seval,Zd]<;>rfl)
         ·cases a;simp only[bk,seval,Zd];apply gS;refine⟨A,B,i,j,?_⟩;and_intros<;>first|rfl|(simp only[bk,seval,Zd]<;>rfl)
        ·cases a;simp only[bk,seval];apply jf;refine⟨rfl,⟨A,B,i,j,?_,?_,?_,?_,?_,?_,?_,?_,?_,?_,?_,?_,?_⟩⟩;all_goals ((simp only[bk,seval,Zd]<;>rfl))
       ·rintro x t H e U;obtain⟨f,rfl⟩:∃z,z=aP:=⟨_,rfl⟩;dsimp only at U a;obtain⟨rfl,⟨q,u,l,k,ar⟩⟩:=U;simp only[bk,seval,ar];obtain⟨aQ,au,a⟩:=ae a;refine az (fun s t H e=>match s with|(V,I)=>∃J:Nat,∃K:Nat,∃v:Nat,∃w:Nat,∃W:Bool,t 1=sF (fj ah) p1∧t 2=.ptr 2 J 0∧t 4=.buf 4 K 1 0 (d).length∧t 5=sF ah r8.1∧t 13=.buf 13 v 4 0 (f).length∧t 17=.buf 17 w 4 0 (I).length∧t 54=sF bD g.au∧t 55=sN (g.au.length:Int)∧t 56=sN h∧t 97=sF (fj ah) b.ax.aM∧t 98=sN (b.ax.aM.length:Int)∧t 99=sN V∧H 2=rV J 25 [sI g.ak,sF bD g.au]∧H 4=rW K 27 (aq (fj ah) d)∧H 13=some ⟨v,41,aq ah f,W,true,false⟩∧H 17=rW w 41 (aq ah I)) (fun o x t H e=>match o with|n=>x=.exit 4∧∃y:Nat,∃L:Nat,∃p:Nat,t 1=sF (fj ah) p1∧t 2=.ptr 2 y 0∧t 4=.buf 4 L 1 0 (d).length∧t 5=sF ah r8.1∧t 17=.buf 17 p 4 0 (n).length∧t 54=sF bD g.au∧t 55=sN (g.au.length:Int)∧t 56=sN h∧H 2=rV y 25 [sI g.ak,sF bD g.au]∧H 4=rW L 27 (aq (fj ah) d)∧H 17=rW p 41 (aq ah n)) au ?_ ?_ ?_
        ·refine⟨q,u,k,e,false,?_⟩;and_intros<;>first|rfl|(simp only[bk,seval,ar]<;>rfl)
        ·rintro⟨V,I⟩ t H e ⟨J,K,v,w,W,Ze⟩ c a;simp only[kL]at a;simp only[bk,seval,Ze];apply sp av a<;>intro _ a
         ·obtain⟨aY,aw,a⟩:=ae a;have X:=bh (fj ah) aw;simp only[bK]at X;obtain⟨aZ,ax,a⟩:=ae a;obtain⟨a1,ay,a⟩:=ae a;obtain⟨aA,Y,aB,aC⟩:=iR ah ay;simp only[bK]at Y;cases a;simp only[bk,seval,Ze,X,ax,aA,Y,aB,aC];apply gS;refine⟨J,K,v,e+1+1,true,?_⟩;and_intros<;>first|rfl|(simp only[bk,seval,Ze]<;>rfl)
         ·cases a;simp only[bk,seval];apply jf;refine⟨rfl,⟨J,K,w,?_,?_,?_,?_,?_,?_,?_,?_,?_,?_,?_⟩⟩;all_goals ((simp only[bk,seval,Ze]<;>rfl))
        ·rintro x t H e U;obtain⟨n,rfl⟩:∃z,z=aQ:=⟨_,rfl⟩;dsimp only at U a;obtain⟨rfl,⟨y,L,p,aE⟩⟩:=U;obtain⟨a6,aF,a⟩:=ae a;obtain⟨aG,Z,aH,aI⟩:=iR (fj ah) aF;simp only[bK]at Z;cases a;simp only[bk,seval,aE,aG,Z,aH,aI];apply gS;refine⟨y,e,?_⟩;and_intros<;>first|rfl|(simp only[bk,seval,aE]<;>rfl)
      ·cases a;simp only[bk,seval];apply jf;refine⟨rfl,⟨C,?_,?_,?_⟩⟩;all_goals ((simp only[bk,seval,Za]<;>rfl))
     ·rintro x t H e U;obtain⟨D,rfl⟩:∃z,z=aO:=⟨_,rfl⟩;dsimp only at U a;obtain⟨rfl,⟨E,aR⟩⟩:=U;cases a;simp only[bk,seval,aR]
def oE(l:Option (D×Row))(d:List D):=dx (dp (bC ah)) (fun x:an=>od x) (fun r:Bool =>.clean (.bool r)) l d
def sX:Env:=(Am.ext bd 54 false bn)
def E4:bN prog sX:=(bN.none.add fJ false)
def Hl:=ai @w<|ai @kC<|ai @bn.eq_1<|@sX.eq_1
def Fl:b6 prog 53 oE:=b6.gO (mode:=.clean) tok E4 mixed func53 (by kernel_rfl) (fun _ _=>rfl) (fun _=>by kernel_rfl) fun c r a=>by
 replace a:od c=some r:=a;apply aD rfl ntmps53 results53;simp only[gP];unfold od at a;obtain⟨d,b,a⟩:=ae a;cases a;simp only[Hl,seval,b]
def eJ(l:Option (D×Row))(d:List D):=dx (eZ (iQ ah) (dp (QT 53))) (fun x:(List an)×Unit=>dN x.1) (fun r:Int =>.clean (.int .i64 r)) l d
def ahk{β:Type}{F:(List an)×Unit->Option β}{R:β->RK}(a:(List an)):dx (eZ (iQ ah) (dp (QT 53))) F R none [.sl false false a.length (aq ah a),.fn 53]=(F (a,())).map fun r=>(R r,none):=cF _ _ _ (a,())
def gG:Env:=(Am.ext bd 53 false oE)
def pL:bN prog gG:=(bN.none.add Fl false)
def bS:=ai @w<|ai @kC<|ai @oE.eq_1<|@gG.eq_1
def pN:b6 prog 102 eJ:=b6.gO (mode:=.clean) tok pL mixed func102 (by kernel_rfl) (fun _ _=>rfl) (fun _=>by kernel_rfl) fun⟨h,_⟩ r a=>by
 replace a:dN h=some r:=a;apply aD rfl ntmps102 results102;simp only[gP];unfold dN at a;simp only[bS,seval];obtain⟨l,i,a⟩:=ae a;refine az (fun s t H e=>match s with|b=>t 0=sF ah h∧t 1=.fn 53∧t 7=sN (h.length:Int)∧t 8=sN b) (fun o x t H e=>match o with|(.inl _)=>x=.exit 0|(.inr r)=>x=.ret∧gF .clean tab none [.tmp 4] ⟨t,EH H,e⟩=some (.clean (.int .i64 r),none)) i ?_ ?_ ?_
 ·refine⟨?_,?_,?_,?_⟩;all_goals (rfl)
 ·rintro b t H e f c a;simp only[eB]at a;simp only[bS,seval,f];apply sp av a<;>intro _ a
  ·obtain⟨n,j,a⟩:=ae a;have d:=bh ah j;simp only[bK]at d;obtain⟨p,k,a⟩:=ae a;simp only[bS,seval,f,d,k];apply sp av a<;>intro _ a
   ·cases a;simp only[bS,seval];refine tf ⟨rfl,?_⟩;simp only[bS,seval]
   ·cases a;simp only[bS,seval,f];apply gS;and_intros<;>first|rfl|(simp only[bS,seval,f]<;>rfl)
  ·cases a;simp only[bS,seval];apply jf;exact rfl
 ·rintro x t H e g;rcases l with _|q
  ·dsimp only at g a;subst g;cases a;simp only[bS,seval]
  ·dsimp only at g a;obtain⟨rfl,m⟩:=g;cases a;simp only[aV,bc,cw,cL];exact m
def dR(l:Option (D×Row))(d:List D):=dx (eZ (iQ ah) (dp (QT 53))) (fun x:(List an)×Unit=>cJ x.1) (fun r:Bool =>.clean (.bool r)) l d
def fH:Env:=(Am.ext bd 102 false eJ)
def nS:bN prog fH:=(bN.none.add pN false)
def oC:=ai @w<|ai @ahk<|ai @eJ.eq_1<|@fH.eq_1
def nV:b6 prog 52 dR:=b6.gO (mode:=.clean) tok nS mixed func52 (by kernel_rfl) (fun _ _=>rfl) (fun _=>by kernel_rfl) fun⟨c,_⟩ r a=>by
 replace a:cJ c=some r:=a;apply aD rfl ntmps52 results52;simp only[gP];unfold cJ at a;obtain⟨d,b,a⟩:=ae a;cases a;simp only[oC,seval,b]
def ko(l:Option (D×Row))(d:List D):=dx (eZ (bC jK) (dp (iQ ah))) (fun x:aT×(List an)=>jc x.1 x.2) (fun r:(List an) =>.clean (.sl false false r.length (aq ah r))) l d
def ahl{β:Type}{F:aT×(List an)->Option β}{R:β->RK}(a:(List Int))(b:(List bl))(c:(List an)):dx (eZ (bC jK) (dp (iQ ah))) F R none [.agg [.sl false false a.length (aq (eI .i64) a),.sl false false b.length (aq bD b)],.sl false false c.length (aq ah c)]=(F ((aT.mk a b),c)).map fun r=>(R r,none):=cF _ _ _ ((aT.mk a b),c)
def wD:Env:=(Am.ext (Am.ext (Am.ext (Am.ext bd 39 false iY) 44 false lk) 52 false dR) 55 false gB)
def I6:bN prog wD:=((((bN.none.add yj false).add B2 false).add nV false).add jC false)
def bs:=ai @w<|ai @US<|ai @iY.eq_1<|ai @ahj<|ai @lk.eq_1<|ai @ahk<|ai @dR.eq_1<|ai @dU<|@wD.eq_1
def Ap:b6 prog 16 ko:=b6.gO (mode:=.clean) tok I6 mixed func16 (by kernel_rfl) (fun _ _=>rfl) (fun _=>by kernel_rfl) fun⟨d,O⟩ r a=>by
 replace a:jc d O=some r:=a;apply aD rfl ntmps16 results16;simp only[gP];unfold jc at a;obtain⟨r1,au,a⟩:=ae a;simp only[bs,seval,au];obtain⟨o2,aw,a⟩:=ae a;refine bX 0 (fun s t H e=>match s with|q=>∃h:Nat,t 1=sF ah O∧t 2=.ptr 2 h 0∧t 33=.bool q∧H 2=rV h 25 [sI d.ak,sF bD d.au]) (fun s=>s=o2) ?_ ?_
 ·rintro q t H e ⟨h,P⟩ rfl;try dsimp only at a
  simp only[bs,seval,P];apply sp av a<;>intro _ a
  ·cases a;simp only[bs,seval]
  ·obtain⟨r4,ax,a⟩:=ae a;simp only[bs,seval,P,ax];obtain⟨aA,S,a⟩:=ae a;refine az (fun s t H e=>match s with|(i,Q)=>∃u:Nat,∃v:Nat,t 1=sF ah O∧t 2=.ptr 2 u 0∧t 7=.buf 7 v 1 0 (Q).length∧t 38=sF bD d.au∧t 39=sN (d.au.length:Int)∧t 40=sN i∧H 2=rV u 25 [sI d.ak,sF bD d.au]∧H 7=rW v 3 (aq (eI .i64) Q)) (fun o x t H e=>match o with|b=>x=.exit 0∧∃j:Nat,∃k:Nat,t 1=sF ah O∧t 2=.ptr 2 j 0∧t 7=.buf 7 k 1 0 (b).length∧H 2=rV j 25 [sI d.ak,sF bD d.au]∧H 7=rW k 3 (aq (eI .i64) b)) S ?_ ?_ ?_
   ·refine⟨h,e,?_⟩;and_intros<;>first|rfl|(simp only[bs,seval,P]<;>rfl)
   ·rintro⟨i,Q⟩ t H e ⟨u,v,Zb⟩ c a;simp only[kM]at a;simp only[bs,seval,Zb];apply sp av a<;>intro _ a
    ·obtain⟨T,U,a⟩:=ae a;have F:=bh bD U;simp only[bK]at F;simp only[bs,seval,Zb,F];obtain⟨aB,V,a⟩:=ae a;refine az (fun s t H e=>match s with|(G,R)=>∃w:Nat,∃y:Nat,t 1=sF ah O∧t 2=.ptr 2 w 0∧t 7=.buf 7 y 1 0 (R).length∧t 38=sF bD d.au∧t 39=sN (d.au.length:Int)∧t 40=sN i∧t 45=sF fu T.aX∧t 46=sN (T.aX.length:Int)∧t 47=sN G∧H 2=rV w 25 [sI d.ak,sF bD d.au]∧H 7=rW y 3 (aq (eI .i64) R)) (fun o x t H e=>match o with|A=>x=.exit 2∧∃l:Nat,∃m:Nat,t 1=sF ah O∧t 2=.ptr 2 l 0∧t 7=.buf 7 m 1 0 (A).length∧t 38=sF bD d.au∧t 39=sN (d.au.length:Int)∧t 40=sN i∧H 2=rV l 25 [sI d.ak,sF bD d.au]∧H 7=rW m 3 (aq (eI .i64) A)) V ?_ ?_ ?_
     ·refine⟨u,v,?_⟩;and_intros<;>first|rfl|(simp only[bs,seval,Zb]<;>rfl)
     ·rintro⟨G,R⟩ t H e ⟨w,y,Zd⟩ c a;simp only[kN]at a;simp only[bs,seval,Zd];apply sp av a<;>intro _ a
      ·obtain⟨W,X,a⟩:=ae a;have I:=bh fu X;simp only[bK]at I;obtain⟨Y,B,a⟩:=ae a;have n:=bh (eI .i64) B;simp only[bK]at n;have n:=bh (eI .i64) B;simp only[bK]at n;have Z:=eN (eI .i64) (x':=IntKind.i64.wrap (Y-W.aR)) (fo:=0) (cs:=[.int .i64 (IntKind.i64.wrap (Y-W.aR))]) B rfl (aov rfl);simp only[bK,Nat.add_zero]at Z;have J:=Z;simp only[putCells,List.length_cons,List.length_nil,an5]at J;simp only[bs,seval,Zd,I,n,J];refine bA (by kernel_rfl) ?_;cases a;apply gS;refine⟨w,y,?_⟩;and_intros<;>first|rfl|(simp only[bs,seval,Zd]<;>rfl)
      ·cases a;simp only[bs,seval];apply jf;refine⟨rfl,⟨w,y,?_,?_,?_,?_,?_,?_,?_,?_⟩⟩;all_goals ((simp only[bs,seval,Zd]<;>rfl))
     ·rintro x t H e K;obtain⟨A,rfl⟩:∃z,z=aB:=⟨_,rfl⟩;dsimp only at K a;obtain⟨rfl,⟨l,m,aa⟩⟩:=K;cases a;simp only[bs,seval,aa];apply gS;refine⟨l,m,?_⟩;and_intros<;>first|rfl|(simp only[bs,seval,aa]<;>rfl)
    ·cases a;simp only[bs,seval];apply jf;refine⟨rfl,⟨u,v,?_,?_,?_,?_,?_⟩⟩;all_goals ((simp only[bs,seval,Zb]<;>rfl))
   ·rintro x t H e K;obtain⟨b,rfl⟩:∃z,z=aA:=⟨_,rfl⟩;dsimp only at K a;obtain⟨rfl,⟨j,k,ab⟩⟩:=K;simp only[bs,seval,ab];obtain⟨aC,ad,a⟩:=ae a;refine az (fun s t H e=>match s with|(L,C)=>∃D:Nat,∃E:Nat,∃p:Nat,t 1=sF ah O∧t 2=.ptr 2 D 0∧t 12=.buf 12 p 4 0 (C).length∧t 62=.buf 7 E 1 0 (b).length∧t 63=sN ((b).length:Int)∧t 64=sN L∧H 2=rV D 25 [sI d.ak,sF bD d.au]∧H 7=rW E 3 (aq (eI .i64) b)∧H 12=rW p 41 (aq ah C)) (fun o x t H e=>match o with|f=>x=.exit 4∧∃g:Nat,t 12=.buf 12 g 4 0 (f).length∧H 12=rW g 41 (aq ah f)) ad ?_ ?_ ?_
    ·refine⟨j,k,e,?_⟩;and_intros<;>first|rfl|(simp only[bs,seval,ab]<;>rfl)
    ·rintro⟨L,C⟩ t H e ⟨D,E,p,Ze⟩ c a;simp only[kO]at a;simp only[bs,seval,Ze];apply sp av a<;>intro _ a
     ·obtain⟨aF,ag,a⟩:=ae a;have M:=bh (eI .i64) ag;simp only[bK]at M;obtain⟨aG,ai,a⟩:=ae a;obtain⟨aH,aj,a⟩:=ae a;obtain⟨ak,N,al,ao⟩:=iR ah aj;simp only[bK]at N;cases a;simp only[bs,seval,Ze,M,ai,ak,N,al,ao];apply gS;refine⟨D,E,e+1+1,?_⟩;and_intros<;>first|rfl|(simp only[bs,seval,Ze]<;>rfl)
     ·cases a;simp only[bs,seval];apply jf;refine⟨rfl,⟨p,?_,?_⟩⟩;all_goals ((simp only[bs,seval,Ze]<;>rfl))
    ·rintro x t H e K;obtain⟨f,rfl⟩:∃z,z=aC:=⟨_,rfl⟩;dsimp only at K a;obtain⟨rfl,⟨g,aE⟩⟩:=K;cases a;simp only[bs,seval,aE]
 ·clear a;have a:=aw;simp only[bs,seval];apply sp aZ a<;>intro _ a
  ·cases a;simp only[bs,seval];rw[ay];refine⟨_,rfl,?_⟩;refine⟨0,?_,?_,?_,?_⟩;all_goals (rfl)
  ·simp only[bs,seval];apply sp aZ a<;>intro _ a
   ·cases a;simp only[bs,seval];rw[ay];refine⟨_,rfl,?_⟩;refine⟨0,?_,?_,?_,?_⟩;all_goals (rfl)
   ·obtain⟨aI,ar,a⟩:=ae a;cases a;simp only[bs,seval,ar];rw[ay];refine⟨_,rfl,?_⟩;refine⟨0,?_,?_,?_,?_⟩;all_goals (rfl)
def sa(l:Option (D×Row))(d:List D):=dx (eZ (bC e9) (dp (bC e9))) (fun x:aF×aF=>mK x.1 x.2) (fun r:Bool =>.clean (.bool r)) l d
def Kb:b6 prog 101 sa:=b6.gO (mode:=.clean) tok bN.none mixed func101 (by kernel_rfl) (fun _ _=>rfl) (fun _=>by kernel_rfl) fun⟨j,k⟩ r a=>by
 replace a:mK j k=some r:=a;apply aD rfl ntmps101 results101;simp only[gP];unfold mK at a;simp only[w,seval];obtain⟨A,v,a⟩:=ae a;refine bX 0 (fun s t H e=>match s with|f=>∃b:Nat,∃d:Nat,t 2=.ptr 2 b 0∧t 3=.ptr 3 d 0∧t 19=.bool f∧H 2=rV b 39 [sN j.al,sI j.aa]∧H 3=rV d 39 [sN k.al,sI k.aa]) (fun s=>s=A) ?_ ?_
 ·rintro f t H e ⟨b,d,l⟩ rfl;try dsimp only at a
  simp only[w,seval,l];apply sp av a<;>intro _ a
  ·cases a;simp only[w,seval]
  ·simp only[w,seval];obtain⟨B,y,a⟩:=ae a;refine az (fun s t H e=>match s with|m=>∃g:Nat,∃h:Nat,t 2=.ptr 2 g 0∧t 3=.ptr 3 h 0∧t 5=sN m∧H 2=rV g 39 [sN j.al,sI j.aa]∧H 3=rV h 39 [sN k.al,sI k.aa]) (fun o x t H e=>match o with|(.inl _)=>x=.exit 0|(.inr r)=>x=.ret∧gF .clean tab none [.tmp 4] ⟨t,EH H,e⟩=some (.clean (.bool r),none)) y ?_ ?_ ?_
   ·refine⟨b,d,?_⟩;and_intros<;>first|rfl|(simp only[w,seval,l]<;>rfl)
   ·rintro m t H e ⟨g,h,q⟩ c a;simp only[qv]at a;simp only[w,seval,q];apply sp av a<;>intro _ a
    ·obtain⟨E,z,a⟩:=ae a;have n:=bh (eI .i64) z;simp only[bK]at n;obtain⟨C,p,a⟩:=ae a;have i:=bh (eI .i64) p;simp only[bK]at i;simp only[w,seval,q,n,i];refine bA (by kernel_rfl) ?_;apply sp av a<;>intro _ a
     ·cases a;simp only[w,seval];refine tf ⟨rfl,?_⟩;simp only[w,seval]
     ·cases a;simp only[w,seval,q];apply gS;refine⟨g,h,?_⟩;and_intros<;>first|rfl|(simp only[w,seval,q]<;>rfl)
    ·cases a;simp only[w,seval];apply jf;exact rfl
   ·rintro x t H e u;rcases B with _|F
    ·dsimp only at u a;subst u;cases a;simp only[w,seval]
    ·dsimp only at u a;obtain⟨rfl,D⟩:=u;cases a;simp only[aV,bc,cw,cL];exact D
 ·clear a;have a:=v;simp only[w,seval];apply sp aZ a<;>intro _ a
  ·cases a;simp only[w,seval];rw[ay];refine⟨_,rfl,?_⟩;refine⟨0,0,?_,?_,?_,?_,?_⟩;all_goals (rfl)
  ·cases a;simp only[w,seval];rw[ay];refine⟨_,rfl,?_⟩;refine⟨0,0,?_,?_,?_,?_,?_⟩;all_goals (rfl)
def xC(l:Option (D×Row))(d:List D):=dx (eZ (bC ah) (dp (bC ah))) (fun x:an×an=>u9 x.1 x.2) (fun r:Bool =>.clean (.bool r)) l d
def CB:Env:=(Am.ext bd 101 false sa)
def SX:bN prog CB:=(bN.none.add Kb false)
def C7:=ai @w<|ai @B4<|ai @sa.eq_1<|@CB.eq_1
def Uf:b6 prog 51 xC:=b6.gO (mode:=.clean) tok SX mixed func51 (by kernel_rfl) (fun _ _=>rfl) (fun _=>by kernel_rfl) fun⟨d,e⟩ r a=>by
 replace a:u9 d e=some r:=a;apply aD rfl ntmps51 results51;simp only[gP];unfold u9 at a;obtain⟨f,b,a⟩:=ae a;simp only[C7,seval,b];apply sp gj a<;>intro _ a
 ·obtain⟨g,c,a⟩:=ae a;cases a;simp only[C7,seval,c]
 ·cases a;simp only[C7,seval]
def qX(l:Option (D×Row))(d:List D):=dx (eZ (iQ ah) (dp (iQ ah))) (fun x:(List an)×(List an)=>ox x.1 x.2) (fun r:Bool =>.clean (.bool r)) l d
def CC:Env:=(Am.ext bd 51 false xC)
def SY:bN prog CC:=(bN.none.add Uf false)
def jJ:=ai @w<|ai @qI<|ai @xC.eq_1<|@CC.eq_1
def GD:b6 prog 15 qX:=b6.gO (mode:=.clean) tok SY mixed func15 (by kernel_rfl) (fun _ _=>rfl) (fun _=>by kernel_rfl) fun⟨m,n⟩ r a=>by
 replace a:ox m n=some r:=a;apply aD rfl ntmps15 results15;simp only[gP];unfold ox at a;simp only[jJ,seval];apply sp av a<;>intro _ a
 ·cases a;simp only[jJ,seval]
 ·simp only[jJ,seval];obtain⟨p,k,a⟩:=ae a;refine az (fun s t H e=>match s with|d=>t 0=sF ah m∧t 1=sF ah n∧t 5=sN d) (fun o x t H e=>match o with|(.inl _)=>x=.exit 0|(.inr r)=>x=.ret∧gF .clean tab none [.tmp 4] ⟨t,EH H,e⟩=some (.clean (.bool r),none)) k ?_ ?_ ?_
  ·refine⟨?_,?_,?_⟩;all_goals (rfl)
  ·rintro d t H e i c a;simp only[we]at a;simp only[jJ,seval,i];apply sp av a<;>intro _ a
   ·obtain⟨w,l,a⟩:=ae a;have f:=bh ah l;simp only[bK]at f;obtain⟨q,g,a⟩:=ae a;have b:=bh ah g;simp only[bK]at b;obtain⟨u,h,a⟩:=ae a;simp only[jJ,seval,i,f,b,h];refine bA (by kernel_rfl) ?_;apply sp av a<;>intro _ a
    ·cases a;simp only[jJ,seval];refine tf ⟨rfl,?_⟩;simp only[jJ,seval]
    ·cases a;simp only[jJ,seval,i];apply gS;and_intros<;>first|rfl|(simp only[jJ,seval,i]<;>rfl)
   ·cases a;simp only[jJ,seval];apply jf;exact rfl
  ·rintro x t H e j;rcases p with _|y
   ·dsimp only at j a;subst j;cases a;simp only[jJ,seval]
   ·dsimp only at j a;obtain⟨rfl,v⟩:=j;cases a;simp only[aV,bc,cw,cL];exact v
def xz(l:Option (D×Row))(d:List D):=dx (as0) (fun x:Unit=>Ag) (fun r:Bool =>.clean (.bool r)) l d
def CV(a:(List an))(b:(List an)):qX none [.sl false false a.length (aq ah a),.sl false false b.length (aq ah b)]=(ox a b).map fun r:Bool=>(.clean (.bool r),none):=cF _ _ _ (a,b)
def Cv:Env:=(Am.ext (Am.ext (Am.ext (Am.ext (Am.ext bd 12 false kn) 15 false qX) 16 false ko) 18 false uf) 37 false rT)
def SP:bN prog Cv:=(((((bN.none.add Ao false).add GD false).add Ap false).add NY false).add J1 false)
def jI:=ai @w<|ai @abL<|ai @kn.eq_1<|ai @ahl<|ai @ko.eq_1<|ai @K6<|ai @uf.eq_1<|ai @sh9<|ai @rT.eq_1<|@Cv.eq_1
def Uc:b6 prog 9 xz:=b6.gO (mode:=.clean) tok SP mixed func9 (by kernel_rfl) (fun _ _=>rfl) (fun _=>by kernel_rfl) fun _ r a=>by
 replace a:Ag=some r:=a;apply aD rfl ntmps9 results9;simp only[gP];unfold Ag at a;obtain⟨J,p,a⟩:=ae a;obtain⟨q,u,a⟩:=ae a;obtain⟨B,v,a⟩:=ae a;simp only[jI,seval,p,u,v];obtain⟨F,w,a⟩:=ae a;refine bX 0 (fun s t H e=>match s with|b=>t 3=sF (fj ah) q.1∧t 4=sF ah q.2.1∧t 6=sF ah B∧t 27=.bool b) (fun s=>s=F) ?_ ?_
 ·rintro b t H e c rfl;try dsimp only at a
  simp only[jI,seval,c];apply sp av a<;>intro _ a
  ·cases a;simp only[jI,seval]
  ·obtain⟨C,h,a⟩:=ae a;obtain⟨D,i,a⟩:=ae a;have E:=CV q.2.1 ([C,D]);simp only[bY,bK,List.length_cons,an5,Nat.reduceAdd]at E;obtain⟨K,x,a⟩:=ae a;simp only[jI,seval,c,h,i,E,x];apply sp HD a<;>intro _ a
   ·obtain⟨y,d,a⟩:=ae a;have f:=bh (fj ah) d;simp only[bK]at f;have g:=amk (fj ah) d;simp only[bK]at g;obtain⟨z,j,a⟩:=ae a;have k:=CV y ([C,z]);simp only[bY,bK,List.length_cons,an5,Nat.reduceAdd]at k;obtain⟨G,l,a⟩:=ae a;simp only[jI,seval,c,h,f,g,j,k,l];apply sp HD a<;>intro _ a
    ·obtain⟨A,m,a⟩:=ae a;have n:=CV B ([D,A]);simp only[bY,bK,List.length_cons,an5,Nat.reduceAdd]at n;obtain⟨I,o,a⟩:=ae a;simp only[jI,seval,c,i,m,n,o];refine bA (by kernel_rfl) ?_;cases a;simp only[seval]
    ·simp only[jI,seval];refine bA (by kernel_rfl) ?_;cases a;simp only[seval]
   ·simp only[jI,seval];refine bA (by kernel_rfl) ?_;cases a;simp only[seval]
 ·clear a;have a:=w;simp only[jI,seval];apply sp aZ a<;>intro _ a
  ·cases a;simp only[jI,seval];rw[ay];refine⟨_,rfl,?_⟩;refine⟨?_,?_,?_,?_⟩;all_goals (rfl)
  ·cases a;simp only[jI,seval];rw[ay];refine⟨_,rfl,?_⟩;refine⟨?_,?_,?_,?_⟩;all_goals (rfl)
def qV(l:Option (D×Row))(d:List D):=dx (eZ (bC ah) (dp (aI .i64))) (fun x:an×Int=>yr x.1 x.2) (fun r:Bool =>.clean (.bool r)) l d
def ahm{β:Type}{F:an×Int->Option β}{R:β->RK}(c:Int)(a:(List Int))(d:Int)(b:(List Int))(e:Int):dx (eZ (bC ah) (dp (aI .i64))) F R none [.agg [.int .i64 c,.sl false false a.length (aq (eI .i64) a),.int .i64 d,.sl false false b.length (aq (eI .i64) b)],.int .i64 e]=(F ((an.mk (aF.mk c a) (aF.mk d b)),e)).map fun r=>(R r,none):=cF _ _ _ ((an.mk (aF.mk c a) (aF.mk d b)),e)
def J9:b6 prog 38 qV:=b6.gO (mode:=.clean) tok bN.none mixed func38 (by kernel_rfl) (fun _ _=>rfl) (fun _=>by kernel_rfl) fun⟨b,c⟩ r a=>by
 replace a:yr b c=some r:=a;apply aD rfl ntmps38 results38;simp only[gP];unfold yr at a;simp only[w,seval];apply sp gj a<;>intro _ a
 ·cases a;simp only[w,seval]
 ·cases a;simp only[w,seval]
def sb(l:Option (D×Row))(d:List D):=dx (dp (bC wx)) (fun x:eL=>mL x) (fun r:Bool =>.clean (.bool r)) l d
def wL:Env:=(Am.ext bd 38 false qV)
def Je:bN prog wL:=(bN.none.add J9 false)
def bu:=ai @w<|ai @ahm<|ai @qV.eq_1<|@wL.eq_1
def Kc:b6 prog 32 sb:=b6.gO (mode:=.clean) tok Je mixed func32 (by kernel_rfl) (fun _ _=>rfl) (fun _=>by kernel_rfl) fun g r a=>by
 replace a:mL g=some r:=a;apply aD rfl ntmps32 results32;simp only[gP];unfold mL at a;simp only[bu,seval];obtain⟨G,C,a⟩:=ae a;refine bX 0 (fun s t H e=>match s with|h=>∃d:Nat,t 1=.ptr 1 d 0∧t 20=.bool h∧H 1=rV d 54 [sF bo g.aw,sF ep g.aN,sF (fj ah) g.aM]) (fun s=>s=G) ?_ ?_
 ·rintro h t H e ⟨d,p⟩ rfl;try dsimp only at a
  simp only[bu,seval,p];apply sp av a<;>intro _ a
  ·cases a;simp only[bu,seval]
  ·simp only[bu,seval];obtain⟨D,q,a⟩:=ae a;refine az (fun s t H e=>match s with|k=>∃l:Nat,t 1=.ptr 1 l 0∧t 3=sN k∧H 1=rV l 54 [sF bo g.aw,sF ep g.aN,sF (fj ah) g.aM]) (fun o x t H e=>match o with|(.inl _)=>x=.exit 0|(.inr r)=>x=.ret∧gF .clean tab none [.tmp 2] ⟨t,EH H,e⟩=some (.clean (.bool r),none)) q ?_ ?_ ?_
   ·refine⟨d,?_⟩;and_intros<;>first|rfl|(simp only[bu,seval,p]<;>rfl)
   ·rintro k t H e ⟨l,E⟩ c a;simp only[qw]at a;simp only[bu,seval,E];apply sp av a<;>intro _ a
    ·obtain⟨I,i,a⟩:=ae a;have b:=bh (fj ah) i;simp only[bK]at b;simp only[bu,seval,E,b];apply sp av a<;>intro _ a
     ·cases a;simp only[bu,seval];refine tf ⟨rfl,?_⟩;simp only[bu,seval]
     ·simp only[bu,seval];obtain⟨F,u,a⟩:=ae a;refine az (fun s t H e=>match s with|v=>∃j:Nat,t 1=.ptr 1 j 0∧t 3=sN k∧t 4=sN v∧H 1=rV j 54 [sF bo g.aw,sF ep g.aN,sF (fj ah) g.aM]) (fun o x t H e=>match o with|(.inl _)=>x=.exit 2∧∃f:Nat,t 1=.ptr 1 f 0∧t 3=sN k∧H 1=rV f 54 [sF bo g.aw,sF ep g.aN,sF (fj ah) g.aM]|(.inr r)=>x=.ret∧gF .clean tab none [.tmp 2] ⟨t,EH H,e⟩=some (.clean (.bool r),none)) u ?_ ?_ ?_
      ·refine⟨l,?_⟩;and_intros<;>first|rfl|(simp only[bu,seval,E]<;>rfl)
      ·rintro v t H e ⟨j,w⟩ c a;simp only[fK]at a;have b:=bh (fj ah) i;simp only[bK]at b;simp only[bu,seval,w,b];apply sp av a<;>intro _ a
       ·have b:=bh (fj ah) i;simp only[bK]at b;obtain⟨J,y,a⟩:=ae a;have n:=bh ah y;simp only[bK]at n;obtain⟨K,z,a⟩:=ae a;simp only[bu,seval,w,b,n,z];apply sp av a<;>intro _ a
        ·cases a;simp only[bu,seval];refine tf ⟨rfl,?_⟩;simp only[bu,seval]
        ·cases a;simp only[bu,seval,w];apply gS;refine⟨j,?_⟩;and_intros<;>first|rfl|(simp only[bu,seval,w]<;>rfl)
       ·cases a;simp only[bu,seval];apply jf;refine⟨rfl,⟨j,?_,?_,?_⟩⟩;all_goals ((simp only[bu,seval,w]<;>rfl))
      ·rintro x t H e m;rcases F with _|rd
       ·dsimp only at m a;obtain⟨rfl,⟨f,A⟩⟩:=m;cases a;simp only[bu,seval,A];apply gS;refine⟨f,?_⟩;and_intros<;>first|rfl|(simp only[bu,seval,A]<;>rfl)
       ·dsimp only at m a;obtain⟨rfl,B⟩:=m;cases a;simp only[aV,bc,cw];apply tf;first|exact⟨rfl,B⟩|(simp only[bu,seval]at B;exact⟨rfl,B⟩)
    ·cases a;simp only[bu,seval];apply jf;exact rfl
   ·rintro x t H e m;rcases D with _|L
    ·dsimp only at m a;subst m;cases a;simp only[bu,seval]
    ·dsimp only at m a;obtain⟨rfl,B⟩:=m;cases a;simp only[aV,bc,cw,cL];exact B
 ·clear a;have a:=C;simp only[bu,seval];apply sp aZ a<;>intro _ a
  ·cases a;simp only[bu,seval];rw[ay];refine⟨_,rfl,?_⟩;refine⟨0,?_,?_,?_⟩;all_goals (rfl)
  ·simp only[bu,seval];apply sp aZ a<;>intro _ a
   ·cases a;simp only[bu,seval];rw[ay];refine⟨_,rfl,?_⟩;refine⟨0,?_,?_,?_⟩;all_goals (rfl)
   ·cases a;simp only[bu,seval];rw[ay];refine⟨_,rfl,?_⟩;refine⟨0,?_,?_,?_⟩;all_goals (rfl)
def AZ(l:Option (D×Row))(d:List D):=dx (dp (bC jK)) (fun x:aT=>Bq x) (fun r:Bool =>.clean (.bool r)) l d
def E1:Env:=(Am.ext bd 32 false sb)
def Wy:bN prog E1:=(bN.none.add Kc false)
def dZ:=ai @w<|ai @ahb<|ai @sb.eq_1<|@E1.eq_1
def W0:b6 prog 10 AZ:=b6.gO (mode:=.clean) tok Wy mixed func10 (by kernel_rfl) (fun _ _=>rfl) (fun _=>by kernel_rfl) fun j r a=>by
 replace a:Bq j=some r:=a;apply aD rfl ntmps10 results10;simp only[gP];unfold Bq at a;simp only[dZ,seval];obtain⟨u,p,a⟩:=ae a;refine bX 0 (fun s t H e=>match s with|f=>∃d:Nat,t 1=.ptr 1 d 0∧t 13=.bool f∧H 1=rV d 25 [sI j.ak,sF bD j.au]) (fun s=>s=u) ?_ ?_
 ·rintro f t H e ⟨d,k⟩ rfl;try dsimp only at a
  simp only[dZ,seval,k];apply sp av a<;>intro _ a
  ·cases a;simp only[dZ,seval]
  ·simp only[dZ,seval];obtain⟨v,q,a⟩:=ae a;refine az (fun s t H e=>match s with|l=>∃h:Nat,t 1=.ptr 1 h 0∧t 3=sN l∧H 1=rV h 25 [sI j.ak,sF bD j.au]) (fun o x t H e=>match o with|(.inl _)=>x=.exit 0|(.inr r)=>x=.ret∧gF .clean tab none [.tmp 2] ⟨t,EH H,e⟩=some (.clean (.bool r),none)) q ?_ ?_ ?_
   ·refine⟨d,?_⟩;and_intros<;>first|rfl|(simp only[dZ,seval,k]<;>rfl)
   ·rintro l t H e ⟨h,i⟩ c a;simp only[yv]at a;simp only[dZ,seval,i];apply sp av a<;>intro _ a
    ·obtain⟨w,g,a⟩:=ae a;have b:=bh bD g;simp only[bK]at b;obtain⟨y,m,a⟩:=ae a;simp only[dZ,seval,i,b,m];apply sp aZ a<;>intro _ a
     ·cases a;simp only[dZ,seval];refine tf ⟨rfl,?_⟩;simp only[dZ,seval]
     ·have b:=bh bD g;simp only[bK]at b;simp only[dZ,seval,i,b];apply sp aZ a<;>intro _ a
      ·cases a;simp only[dZ,seval];refine tf ⟨rfl,?_⟩;simp only[dZ,seval]
      ·have b:=bh bD g;simp only[bK]at b;simp only[dZ,seval,i,b];apply sp av a<;>intro _ a
       ·cases a;simp only[dZ,seval];refine tf ⟨rfl,?_⟩;simp only[dZ,seval]
       ·cases a;simp only[dZ,seval,i];apply gS;refine⟨h,?_⟩;and_intros<;>first|rfl|(simp only[dZ,seval,i]<;>rfl)
    ·cases a;simp only[dZ,seval];apply jf;exact rfl
   ·rintro x t H e n;rcases v with _|A
    ·dsimp only at n a;subst n;cases a;simp only[dZ,seval]
    ·dsimp only at n a;obtain⟨rfl,z⟩:=n;cases a;simp only[aV,bc,cw,cL];exact z
 ·clear a;have a:=p;simp only[dZ,seval];apply sp aZ a<;>intro _ a
  ·cases a;simp only[dZ,seval];rw[ay];refine⟨_,rfl,?_⟩;refine⟨0,?_,?_,?_⟩;all_goals (rfl)
  ·cases a;simp only[dZ,seval];rw[ay];refine⟨_,rfl,?_⟩;refine⟨0,?_,?_,?_⟩;all_goals (rfl)
def A0(l:Option (D×Row))(d:List D):=dx (dp (iQ (fj ah))) (fun x:(List (List an))=>Br x) (fun r:Bool =>.clean (.bool r)) l d
def ak2{β:Type}{F:(List (List an))->Option β}{R:β->RK}(a:(List (List an))):dx (dp (iQ (fj ah))) F R none [.sl false false a.length (aq (fj ah) a)]=(F (a)).map fun r=>(R r,none):=cF _ _ _ (a)
def E2:Env:=(Am.ext bd 38 false qV)
def Wz:bN prog E2:=(bN.none.add J9 false)
def db:=ai @w<|ai @ahm<|ai @qV.eq_1<|@E2.eq_1
def W2:b6 prog 11 A0:=b6.gO (mode:=.clean) tok Wz mixed func11 (by kernel_rfl) (fun _ _=>rfl) (fun _=>by kernel_rfl) fun k r a=>by
 replace a:Br k=some r:=a;apply aD rfl ntmps11 results11;simp only[gP];unfold Br at a;simp only[db,seval];obtain⟨A,l,a⟩:=ae a;refine az (fun s t H e=>match s with|d=>t 0=sF (fj ah) k∧t 3=sN d) (fun o x t H e=>match o with|(.inl _)=>x=.exit 0∧t 0=sF (fj ah) k|(.inr r)=>x=.ret∧gF .clean tab none [.tmp 2] ⟨t,EH H,e⟩=some (.clean (.bool r),none)) l ?_ ?_ ?_
 ·refine⟨?_,?_⟩;all_goals (rfl)
 ·rintro d t H e z c a;simp only[va]at a;simp only[db,seval,z];obtain⟨B,m,a⟩:=ae a;refine bX 0 (fun s t H e=>match s with|f=>t 0=sF (fj ah) k∧t 3=sN d∧t 12=.bool f) (fun s=>s=B) ?_ ?_
  ·rintro f t H e h rfl;try dsimp only at a
   simp only[db,seval,h];apply sp av a<;>intro _ a
   ·obtain⟨E,g,a⟩:=ae a;have b:=bh (fj ah) g;simp only[bK]at b;simp only[db,seval,h,b];apply sp av a<;>intro _ a
    ·cases a;simp only[db,seval];refine tf ⟨rfl,?_⟩;simp only[db,seval]
    ·simp only[db,seval];obtain⟨C,n,a⟩:=ae a;refine az (fun s t H e=>match s with|p=>t 0=sF (fj ah) k∧t 3=sN d∧t 4=sN p) (fun o x t H e=>match o with|(.inl _)=>x=.exit 2∧t 0=sF (fj ah) k∧t 3=sN d|(.inr r)=>x=.ret∧gF .clean tab none [.tmp 2] ⟨t,EH H,e⟩=some (.clean (.bool r),none)) n ?_ ?_ ?_
     ·and_intros<;>first|rfl|(simp only[db,seval,h]<;>rfl)
     ·rintro p t H e q c a;simp only[rJ]at a;have b:=bh (fj ah) g;simp only[bK]at b;simp only[db,seval,q,b];apply sp av a<;>intro _ a
      ·have b:=bh (fj ah) g;simp only[bK]at b;obtain⟨F,u,a⟩:=ae a;have j:=bh ah u;simp only[bK]at j;obtain⟨G,v,a⟩:=ae a;simp only[db,seval,q,b,j,v];apply sp av a<;>intro _ a
       ·cases a;simp only[db,seval];refine tf ⟨rfl,?_⟩;simp only[db,seval]
       ·cases a;simp only[db,seval,q];apply gS;and_intros<;>first|rfl|(simp only[db,seval,q]<;>rfl)
      ·cases a;simp only[db,seval];apply jf;refine⟨rfl,⟨?_,?_⟩⟩;all_goals ((simp only[db,seval,q]<;>rfl))
     ·rintro x t H e i;rcases C with _|I
      ·dsimp only at i a;obtain⟨rfl,w⟩:=i;cases a;simp only[db,seval,w];apply gS;and_intros<;>first|rfl|(simp only[db,seval,w]<;>rfl)
      ·dsimp only at i a;obtain⟨rfl,y⟩:=i;cases a;simp only[aV,bc,cw];apply tf;first|exact⟨rfl,y⟩|(simp only[db,seval]at y;exact⟨rfl,y⟩)
   ·cases a;simp only[db,seval];apply jf;refine⟨rfl,?_⟩;all_goals ((simp only[db,seval,h]<;>rfl))
  ·clear a;have a:=m;simp only[db,seval];apply sp gj a<;>intro _ a
   ·cases a;simp only[db,seval,z];rw[ay];refine⟨_,rfl,?_⟩;and_intros<;>first|rfl|(simp only[db,seval,z]<;>rfl)
   ·cases a;simp only[db,seval];rw[ay];refine⟨_,rfl,?_⟩;and_intros<;>first|rfl|(simp only[db,seval,z]<;>rfl)
 ·rintro x t H e i;rcases A with _|J
  ·dsimp only at i a;obtain⟨rfl,D⟩:=i;cases a;simp only[db,seval,D]
  ·dsimp only at i a;obtain⟨rfl,y⟩:=i;cases a;simp only[aV,bc,cw,cL];exact y
def pT(l:Option (D×Row))(d:List D):=dx (eZ (iQ (eI .i64)) (dp (iQ (eI .i64)))) (fun x:(List Int)×(List Int)=>nJ x.1 x.2) (fun r:Bool =>.clean (.bool r)) l d
def He:b6 prog 119 pT:=b6.gO (mode:=.clean) tok bN.none mixed func119 (by kernel_rfl) (fun _ _=>rfl) (fun _=>by kernel_rfl) fun⟨i,m⟩ r a=>by
 replace a:nJ i m=some r:=a;apply aD rfl ntmps119 results119;simp only[gP];unfold nJ at a;simp only[w,seval];apply sp av a<;>intro _ a
 ·cases a;simp only[w,seval]
 ·simp only[w,seval];obtain⟨n,j,a⟩:=ae a;refine az (fun s t H e=>match s with|b=>t 0=sI i∧t 1=sI m∧t 12=sN (i.length:Int)∧t 13=sN b) (fun o x t H e=>match o with|(.inl _)=>x=.exit 0|(.inr r)=>x=.ret∧gF .clean tab none [.tmp 4] ⟨t,EH H,e⟩=some (.clean (.bool r),none)) j ?_ ?_ ?_
  ·refine⟨?_,?_,?_,?_⟩;all_goals (rfl)
  ·rintro b t H e g c a;simp only[oP]at a;simp only[w,seval,g];apply sp av a<;>intro _ a
   ·obtain⟨q,k,a⟩:=ae a;have d:=bh (eI .i64) k;simp only[bK]at d;obtain⟨u,l,a⟩:=ae a;have f:=bh (eI .i64) l;simp only[bK]at f;simp only[w,seval,g,d,f];refine bA (by kernel_rfl) ?_;apply sp av a<;>intro _ a
    ·cases a;simp only[w,seval];refine tf ⟨rfl,?_⟩;simp only[w,seval]
    ·cases a;simp only[w,seval,g];apply gS;and_intros<;>first|rfl|(simp only[w,seval,g]<;>rfl)
   ·cases a;simp only[w,seval];apply jf;exact rfl
  ·rintro x t H e h;rcases n with _|v
   ·dsimp only at h a;subst h;cases a;simp only[w,seval]
   ·dsimp only at h a;obtain⟨rfl,p⟩:=h;cases a;simp only[aV,bc,cw,cL];exact p
def xv(l:Option (D×Row))(d:List D):=dx (eZ (bC e9) (dp (bC e9))) (fun x:aF×aF=>ur x.1 x.2) (fun r:Bool =>.clean (.bool r)) l d
def Cn:Env:=(Am.ext bd 119 false pT)
def SH:bN prog Cn:=(bN.none.add He false)
def C4:=ai @w<|ai @GL<|ai @pT.eq_1<|@Cn.eq_1
def T9:b6 prog 64 xv:=b6.gO (mode:=.clean) tok SH mixed func64 (by kernel_rfl) (fun _ _=>rfl) (fun _=>by kernel_rfl) fun⟨c,d⟩ r a=>by
 replace a:ur c d=some r:=a;apply aD rfl ntmps64 results64;simp only[gP];unfold ur at a;simp only[C4,seval];apply sp gj a<;>intro _ a
 ·obtain⟨e,b,a⟩:=ae a;cases a;simp only[C4,seval,b]
 ·cases a;simp only[C4,seval]
def vw(l:Option (D×Row))(d:List D):=dx (eZ (bC ah) (dp (bC ah))) (fun x:an×an=>tV x.1 x.2) (fun r:Bool =>.clean (.bool r)) l d
def zU:Env:=(Am.ext bd 64 false xv)
def Pu:bN prog zU:=(bN.none.add T9 false)
def AM:=ai @w<|ai @B4<|ai @xv.eq_1<|@zU.eq_1
def P0:b6 prog 25 vw:=b6.gO (mode:=.clean) tok Pu mixed func25 (by kernel_rfl) (fun _ _=>rfl) (fun _=>by kernel_rfl) fun⟨d,e⟩ r a=>by
 replace a:tV d e=some r:=a;apply aD rfl ntmps25 results25;simp only[gP];unfold tV at a;obtain⟨f,b,a⟩:=ae a;simp only[AM,seval,b];apply sp gj a<;>intro _ a
 ·obtain⟨g,c,a⟩:=ae a;cases a;simp only[AM,seval,c]
 ·cases a;simp only[AM,seval]
def fN(l:Option (D×Row))(d:List D):=dx (dp (iQ (eI .i64))) (fun x:(List Int)=>kf x) (fun r:(List Int) =>.clean (.sl false false r.length (aq (eI .i64) r))) l d
def sL:b6 prog 185 fN:=b6.gO (mode:=.clean) tok bN.none mixed func185 (by kernel_rfl) (fun _ _=>rfl) (fun _=>by kernel_rfl) fun m r a=>by
 replace a:kf m=some r:=a;apply aD rfl ntmps185 results185;simp only[gP];unfold kf at a;simp only[w,seval];obtain⟨C,n,a⟩:=ae a;refine az (fun s t H e=>match s with|g=>t 0=sI m∧t 3=sN g) (fun o x t H e=>match o with|d=>x=.exit 0∧t 0=sI m∧t 3=sN d) n ?_ ?_ ?_
 ·refine⟨?_,?_⟩;all_goals (rfl)
 ·rintro g t H e f c a;simp only[Az]at a;simp only[w,seval,f];apply sp gj a<;>intro _ a
  ·obtain⟨F,p,a⟩:=ae a;have h:=bh (eI .i64) p;simp only[bK]at h;simp only[w,seval,f,h];apply sp av a<;>intro _ a
   ·cases a;simp only[w,seval,f];apply gS;and_intros<;>first|rfl|(simp only[w,seval,f]<;>rfl)
   ·cases a;simp only[w,seval];apply jf;refine⟨rfl,⟨?_,?_⟩⟩;all_goals ((simp only[w,seval,f]<;>rfl))
  ·cases a;simp only[w,seval];apply jf;refine⟨rfl,⟨?_,?_⟩⟩;all_goals ((simp only[w,seval,f]<;>rfl))
 ·rintro x t H e B;obtain⟨d,rfl⟩:∃z,z=C:=⟨_,rfl⟩;dsimp only at B a;obtain⟨rfl,q⟩:=B;obtain⟨G,u,a⟩:=ae a;obtain⟨v,D,y,A,i⟩:=Qm (eI .i64) u;simp only[bK]at i;obtain⟨E,j,a⟩:=ae a;obtain⟨b,k,l⟩:=vC j;replace b:=b.symm;subst b;cases a;simp only[w,seval,q,v,y,A,i,k,l]
def ec(l:Option (D×Row))(d:List D):=dx (eZ (aI .i64) (dp (iQ (eI .i64)))) (fun x:Int×(List Int)=>gQ x.1 x.2) (fun r:aF =>.clean (.agg [.int .i64 r.al,.sl false false r.aa.length (aq (eI .i64) r.aa)])) l d
def Cy:Env:=(Am.ext bd 185 false fN)
def SS:bN prog Cy:=(bN.none.add sL false)
def C6:=ai @w<|ai @ZL<|ai @fN.eq_1<|@Cy.eq_1
def pD:b6 prog 150 ec:=b6.gO (mode:=.clean) tok SS mixed func150 (by kernel_rfl) (fun _ _=>rfl) (fun _=>by kernel_rfl) fun⟨c,d⟩ r a=>by
 replace a:gQ c d=some r:=a;apply aD rfl ntmps150 results150;simp only[gP];unfold gQ at a;obtain⟨e,b,a⟩:=ae a;simp only[C6,seval,b];apply sp av a<;>intro _ a
 ·cases a;simp only[C6,seval]
 ·cases a;simp only[C6,seval]
def uh(l:Option (D×Row))(d:List D):=dx (dp (aI .i64)) (fun x:Int=>Ax x) (fun r:aF =>.clean (.agg [.int .i64 r.al,.sl false false r.aa.length (aq (eI .i64) r.aa)])) l d
def I0:Env:=(Am.ext bd 150 false ec)
def aa5:bN prog I0:=(bN.none.add pD false)
def iD:=ai @w<|ai @Hy<|ai @ec.eq_1<|@I0.eq_1
def N0:b6 prog 109 uh:=b6.gO (mode:=.clean) tok aa5 mixed func109 (by kernel_rfl) (fun _ _=>rfl) (fun _=>by kernel_rfl) fun Q r a=>by
 replace a:Ax Q=some r:=a;apply aD rfl ntmps109 results109;simp only[gP];unfold Ax at a;simp only[iD,seval];apply sp av a<;>intro _ a
 ·cases a;simp only[iD,seval]
 ·simp only[iD,seval];obtain⟨S,K,a⟩:=ae a;refine oB 0 (fun s t H e=>match s with|b=>∃d:Nat,t 0=sN Q∧t 2=.ptr 2 d 0∧t 3=sN b∧H 2=rV d 39 [sN 0,.sl true true 0 []]) (fun s=>s=S) ?_ ?_
  ·rintro b t H e ⟨d,L⟩ rfl;try dsimp only at a
   simp only[iD,seval];obtain⟨M,q,a⟩:=ae a;refine az (fun s t H e=>match s with|(u,m)=>∃f:Nat,∃j:Nat,t 0=sN u∧t 2=.ptr 2 f 0∧t 3=sN b∧t 4=.buf 4 j 1 0 (m).length∧H 2=rV f 39 [sN 0,.sl true true 0 []]∧H 4=rW j 3 (aq (eI .i64) m)) (fun o x t H e=>match o with|g=>x=.exit 0∧∃h:Nat,∃i:Nat,t 2=.ptr 2 h 0∧t 3=sN b∧t 4=.buf 4 i 1 0 (g).length∧H 2=rV h 39 [sN 0,.sl true true 0 []]∧H 4=rW i 3 (aq (eI .i64) g)) q ?_ ?_ ?_
   ·refine⟨d,e,?_⟩;and_intros<;>first|rfl|(simp only[iD,seval,L]<;>rfl)
   ·rintro⟨u,m⟩ t H e ⟨f,j,n⟩ c a;simp only[Bp]at a;simp only[iD,seval,n];apply sp av a<;>intro _ a
    ·obtain⟨T,v,a⟩:=ae a;have p:=DT v;simp only[iD,seval,n,p];apply sp av a<;>intro _ a
     ·obtain⟨U,w,a⟩:=ae a;obtain⟨y,k,A,B⟩:=iR (eI .i64) w;simp only[bK]at k;obtain⟨V,C,a⟩:=ae a;have N:=xT C;cases a;simp only[iD,seval,n,p,y,k,A,B,N];apply gS;refine⟨f,e+1+1+1+1,?_⟩;and_intros<;>first|rfl|(simp only[iD,seval,n]<;>rfl)
     ·obtain⟨W,D,a⟩:=ae a;obtain⟨E,l,F,G⟩:=iR (eI .i64) D;simp only[bK]at l;obtain⟨X,I,a⟩:=ae a;have O:=xT I;cases a;simp only[iD,seval,n,p,E,l,F,G,O];apply gS;refine⟨f,e+1+1+1,?_⟩;and_intros<;>first|rfl|(simp only[iD,seval,n]<;>rfl)
    ·cases a;simp only[iD,seval];apply jf;refine⟨rfl,⟨f,j,?_,?_,?_,?_,?_⟩⟩;all_goals ((simp only[iD,seval,n]<;>rfl))
   ·rintro x t H e R;obtain⟨g,rfl⟩:∃z,z=M:=⟨_,rfl⟩;dsimp only at R a;obtain⟨rfl,⟨h,i,P⟩⟩:=R;obtain⟨Y,J,a⟩:=ae a;cases a;simp only[iD,seval,P,J]
  ·clear a;have a:=K;simp only[iD,seval];apply sp av a<;>intro _ a
   ·cases a;simp only[iD,seval];rw[ay];refine⟨_,rfl,?_⟩;refine⟨0,?_,?_,?_,?_⟩;all_goals (rfl)
   ·cases a;simp only[iD,seval];rw[ay];refine⟨_,rfl,?_⟩;refine⟨0,?_,?_,?_,?_⟩;all_goals (rfl)
def cv(l:Option (D×Row))(d:List D):=dx (dp (bC e9)) (fun x:aF=>eG x) (fun r:Bool =>.clean (.bool r)) l d
def ke:b6 prog 106 cv:=b6.gO (mode:=.clean) tok bN.none mixed func106 (by kernel_rfl) (fun _ _=>rfl) (fun _=>by kernel_rfl) fun j r a=>by
 replace a:eG j=some r:=a;apply aD rfl ntmps106 results106;simp only[gP];unfold eG at a;simp only[w,seval];obtain⟨A,y,a⟩:=ae a;refine az (fun s t H e=>match s with|n=>∃f:Nat,t 1=.ptr 1 f 0∧t 3=sN n∧H 1=rV f 39 [sN j.al,sI j.aa]) (fun o x t H e=>match o with|(.inl _)=>x=.exit 0∧∃b:Nat,t 1=.ptr 1 b 0∧H 1=rV b 39 [sN j.al,sI j.aa]|(.inr r)=>x=.ret∧gF .clean tab none [.tmp 2] ⟨t,EH H,e⟩=some (.clean (.bool r),none)) y ?_ ?_ ?_
 ·refine⟨0,?_,?_,?_⟩;all_goals (rfl)
 ·rintro n t H e ⟨f,m⟩ c a;simp only[tN]at a;simp only[w,seval,m];apply sp av a<;>intro _ a
  ·obtain⟨D,p,a⟩:=ae a;have g:=bh (eI .i64) p;simp only[bK]at g;simp only[w,seval,m,g];apply sp aZ a<;>intro _ a
   ·cases a;simp only[w,seval];refine tf ⟨rfl,?_⟩;simp only[w,seval]
   ·have g:=bh (eI .i64) p;simp only[bK]at g;simp only[w,seval,m,g];apply sp av a<;>intro _ a
    ·cases a;simp only[w,seval];refine tf ⟨rfl,?_⟩;simp only[w,seval]
    ·cases a;simp only[w,seval,m];apply gS;refine⟨f,?_⟩;and_intros<;>first|rfl|(simp only[w,seval,m]<;>rfl)
  ·cases a;simp only[w,seval];apply jf;refine⟨rfl,⟨f,?_,?_⟩⟩;all_goals ((simp only[w,seval,m]<;>rfl))
 ·rintro x t H e v;rcases A with _|E
  ·dsimp only at v a;obtain⟨rfl,⟨b,d⟩⟩:=v;simp only[w,seval,d];obtain⟨z,q,a⟩:=ae a;refine bX 0 (fun s t H e=>match s with|h=>∃i:Nat,t 1=.ptr 1 i 0∧t 4=sN (j.aa.length:Int)∧t 44=.bool h∧H 1=rV i 39 [sN j.al,sI j.aa]) (fun s=>s=z) ?_ ?_
   ·rintro h t H e ⟨i,l⟩ rfl;try dsimp only at a
    simp only[w,seval,l];apply sp av a<;>intro _ a
    ·cases a;simp only[w,seval]
    ·simp only[w,seval,l];apply sp aZ a<;>intro _ a
     ·cases a;simp only[w,seval]
     ·obtain⟨B,u,a⟩:=ae a;have k:=bh (eI .i64) u;simp only[bK]at k;cases a;simp only[w,seval,l,k]
   ·clear a;have a:=q;simp only[w,seval];apply sp aZ a<;>intro _ a
    ·cases a;simp only[w,seval];rw[ay];refine⟨_,rfl,?_⟩;refine⟨b,?_⟩;and_intros<;>first|rfl|(simp only[w,seval,d]<;>rfl)
    ·simp only[w,seval,d];apply sp aZ a<;>intro _ a
     ·cases a;simp only[w,seval];rw[ay];refine⟨_,rfl,?_⟩;refine⟨b,?_⟩;and_intros<;>first|rfl|(simp only[w,seval,d]<;>rfl)
     ·cases a;simp only[w,seval,d];rw[ay];refine⟨_,rfl,?_⟩;refine⟨b,?_⟩;and_intros<;>first|rfl|(simp only[w,seval,d]<;>rfl)
  ·dsimp only at v a;obtain⟨rfl,C⟩:=v;cases a;simp only[aV,bc,cw,cL];exact C
def AW(l:Option (D×Row))(d:List D):=dx (dp (bC e9)) (fun x:aF=>yo x) (fun r:aF =>.clean (.agg [.int .i64 r.al,.sl false false r.aa.length (aq (eI .i64) r.aa)])) l d
def EV:Env:=(Am.ext (Am.ext bd 106 false cv) 150 false ec)
def Wt:bN prog EV:=((bN.none.add ke false).add pD false)
def FQ:=ai @w<|ai @y3<|ai @cv.eq_1<|ai @Hy<|ai @ec.eq_1<|@EV.eq_1
def WX:b6 prog 167 AW:=b6.gO (mode:=.clean) tok Wt mixed func167 (by kernel_rfl) (fun _ _=>rfl) (fun _=>by kernel_rfl) fun d r a=>by
 replace a:yo d=some r:=a;apply aD rfl ntmps167 results167;simp only[gP];unfold yo at a;obtain⟨e,b,a⟩:=ae a;simp only[FQ,seval,b];apply sp av a<;>intro _ a
 ·cases a;simp only[FQ,seval]
 ·obtain⟨f,c,a⟩:=ae a;cases a;simp only[FQ,seval,c]
def fU(l:Option (D×Row))(d:List D):=dx (eZ (iQ (eI .i64)) (dp (aI .i64))) (fun x:(List Int)×Int=>kV x.1 x.2) (fun r:Int =>.clean (.int .i64 r)) l d
def tK:b6 prog 186 fU:=b6.gO (mode:=.clean) tok bN.none mixed func186 (by kernel_rfl) (fun _ _=>rfl) (fun _=>by kernel_rfl) fun⟨d,e⟩ r a=>by
 replace a:kV d e=some r:=a;apply aD rfl ntmps186 results186;simp only[gP];unfold kV at a;simp only[w,seval];apply sp av a<;>intro _ a
 ·obtain⟨f,c,a⟩:=ae a;have b:=bh (eI .i64) c;simp only[bK]at b;cases a;simp only[w,seval,b]
 ·cases a;simp only[w,seval]
def pk(l:Option (D×Row))(d:List D):=dx (eZ (iQ (eI .i64)) (dp (iQ (eI .i64)))) (fun x:(List Int)×(List Int)=>nH x.1 x.2) (fun r:(List Int) =>.clean (.sl false false r.length (aq (eI .i64) r))) l d
def z8:Env:=(Am.ext (Am.ext bd 185 false fN) 186 false fU)
def PC:bN prog z8:=((bN.none.add sL false).add tK false)
def dm:=ai @w<|ai @ZL<|ai @fN.eq_1<|ai @sh7<|ai @fU.eq_1<|@z8.eq_1
def D0:b6 prog 166 pk:=b6.gO (mode:=.clean) tok PC mixed func166 (by kernel_rfl) (fun _ _=>rfl) (fun _=>by kernel_rfl) fun⟨B,C⟩ r a=>by
 replace a:nH B C=some r:=a;apply aD rfl ntmps166 results166;simp only[gP];unfold nH at a;obtain⟨x1,S,a⟩:=ae a;obtain⟨T,U,V,D,W⟩:=mk_one (eI .i64) S;simp only[bK]at D;simp only[dm,seval,T,U,V,D,W];obtain⟨X,E,a⟩:=ae a;refine az (fun s t H e=>match s with|(g,w)=>∃h:Nat,t 0=sI B∧t 1=sI C∧t 5=.buf 5 h 1 0 (w).length∧t 6=sN g∧H 5=rW h 3 (aq (eI .i64) w)) (fun o x t H e=>match o with|i=>x=.exit 0∧∃j:Nat,t 5=.buf 5 j 1 0 (i).length∧H 5=rW j 3 (aq (eI .i64) i)) E ?_ ?_ ?_
 ·refine⟨1,?_,?_,?_,?_,?_⟩;all_goals (rfl)
 ·rintro⟨g,w⟩ t H e ⟨h,Y⟩ c a;simp only[tP]at a;simp only[dm,seval,Y];apply sp av a<;>intro _ a
  ·simp only[dm,seval];obtain⟨Z,F,a⟩:=ae a;refine az (fun s t H e=>match s with|(y,A,k)=>∃l:Nat,t 0=sI B∧t 1=sI C∧t 5=.buf 5 l 1 0 (k).length∧t 6=sN g∧t 7=sN y∧t 8=sN A∧H 5=rW l 3 (aq (eI .i64) k)) (fun o x t H e=>match o with|m=>x=.exit 2∧∃d:Nat,t 0=sI B∧t 1=sI C∧t 5=.buf 5 d 1 0 (m).length∧t 6=sN g∧H 5=rW d 3 (aq (eI .i64) m)) F ?_ ?_ ?_
   ·refine⟨h,?_⟩;and_intros<;>first|rfl|(simp only[dm,seval,Y]<;>rfl)
   ·rintro⟨y,A,k⟩ t H e ⟨l,R⟩ c a;simp only[tQ]at a;simp only[dm,seval,R];obtain⟨aa,G,a⟩:=ae a;refine bX 0 (fun s t H e=>match s with|n=>∃b:Nat,t 0=sI B∧t 1=sI C∧t 5=.buf 5 b 1 0 (k).length∧t 6=sN g∧t 7=sN y∧t 8=sN A∧t 29=.bool n∧H 5=rW b 3 (aq (eI .i64) k)) (fun s=>s=aa) ?_ ?_
    ·rintro n t H e ⟨b,q⟩ rfl;try dsimp only at a
     simp only[dm,seval,q];apply sp av a<;>intro _ a
     ·obtain⟨ah,p,a⟩:=ae a;have f:=bh (eI .i64) p;simp only[bK]at f;obtain⟨ai,I,a⟩:=ae a;have u:=bh (eI .i64) I;simp only[bK]at u;obtain⟨aj,J,a⟩:=ae a;simp only[dm,seval,q,f,u,J];refine bA (by kernel_rfl) ?_;obtain⟨K,L,a⟩:=ae a;have ab:=DT L;have f:=bh (eI .i64) p;simp only[bK]at f;have M:=eN (eI .i64) (x':=K) (fo:=0) (cs:=[.int .i64 K]) p rfl (aov rfl);simp only[bK,Nat.add_zero]at M;have v:=M;simp only[putCells,List.length_cons,List.length_nil,an5]at v;obtain⟨ak,N,a⟩:=ae a;have ad:=xT N;cases a;simp only[seval,ab,v,ad];apply gS;refine⟨b,?_⟩;and_intros<;>first|rfl|(simp only[dm,seval,q]<;>rfl)
     ·cases a;simp only[dm,seval];apply jf;refine⟨rfl,⟨b,?_,?_,?_,?_,?_⟩⟩;all_goals ((simp only[dm,seval,q]<;>rfl))
    ·clear a;have a:=G;simp only[dm,seval];apply sp aZ a<;>intro _ a
     ·cases a;simp only[dm,seval];rw[ay];refine⟨_,rfl,?_⟩;refine⟨l,?_⟩;and_intros<;>first|rfl|(simp only[dm,seval,R]<;>rfl)
     ·cases a;simp only[dm,seval,R];rw[ay];refine⟨_,rfl,?_⟩;refine⟨l,?_⟩;and_intros<;>first|rfl|(simp only[dm,seval,R]<;>rfl)
   ·rintro x t H e O;obtain⟨m,rfl⟩:∃z,z=Z:=⟨_,rfl⟩;dsimp only at O a;obtain⟨rfl,⟨d,P⟩⟩:=O;cases a;simp only[dm,seval,P];apply gS;refine⟨d,?_⟩;and_intros<;>first|rfl|(simp only[dm,seval,P]<;>rfl)
  ·cases a;simp only[dm,seval];apply jf;refine⟨rfl,⟨h,?_,?_⟩⟩;all_goals ((simp only[dm,seval,Y]<;>rfl))
 ·rintro x t H e O;obtain⟨i,rfl⟩:∃z,z=X:=⟨_,rfl⟩;dsimp only at O a;obtain⟨rfl,⟨j,ag⟩⟩:=O;obtain⟨al,Q,a⟩:=ae a;cases a;simp only[dm,seval,ag,Q]
def kq(l:Option (D×Row))(d:List D):=dx (eZ (iQ (eI .i64)) (dp (iQ (eI .i64)))) (fun x:(List Int)×(List Int)=>sM x.1 x.2) (fun r:Bool =>.clean (.bool r)) l d
def Cx:Env:=(Am.ext bd 186 false fU)
def SR:bN prog Cx:=(bN.none.add tK false)
def lD:=ai @w<|ai @sh7<|ai @fU.eq_1<|@Cx.eq_1
def Ar:b6 prog 152 kq:=b6.gO (mode:=.clean) tok SR mixed func152 (by kernel_rfl) (fun _ _=>rfl) (fun _=>by kernel_rfl) fun⟨j,k⟩ r a=>by
 replace a:sM j k=some r:=a;apply aD rfl ntmps152 results152;simp only[gP];unfold sM at a;simp only[lD,seval];obtain⟨l,i,a⟩:=ae a;refine az (fun s t H e=>match s with|b=>t 0=sI j∧t 1=sI k∧t 5=sN b) (fun o x t H e=>match o with|(.inl _)=>x=.exit 0|(.inr r)=>x=.ret∧gF .clean tab none [.tmp 4] ⟨t,EH H,e⟩=some (.clean (.bool r),none)) i ?_ ?_ ?_
 ·refine⟨?_,?_,?_⟩;all_goals (rfl)
 ·rintro b t H e d c a;simp only[v8]at a;simp only[lD,seval,d];apply sp av a<;>intro _ a
  ·obtain⟨n,f,a⟩:=ae a;obtain⟨p,g,a⟩:=ae a;simp only[lD,seval,d,f,g];apply sp av a<;>intro _ a
   ·cases a;simp only[lD,seval,d,f,g];refine tf ⟨rfl,?_⟩;simp only[lD,seval]
   ·cases a;simp only[lD,seval,d];apply gS;and_intros<;>first|rfl|(simp only[lD,seval,d]<;>rfl)
  ·cases a;simp only[lD,seval];apply jf;exact rfl
 ·rintro x t H e h;rcases l with _|q
  ·dsimp only at h a;subst h;cases a;simp only[lD,seval]
  ·dsimp only at h a;obtain⟨rfl,m⟩:=h;cases a;simp only[aV,bc,cw,cL];exact m
def ja(l:Option (D×Row))(d:List D):=dx (eZ (iQ (eI .i64)) (dp (iQ (eI .i64)))) (fun x:(List Int)×(List Int)=>nG x.1 x.2) (fun r:(List Int) =>.clean (.sl false false r.length (aq (eI .i64) r))) l d
def z7:Env:=(Am.ext (Am.ext bd 185 false fN) 186 false fU)
def PB:bN prog z7:=((bN.none.add sL false).add tK false)
def jj:=ai @w<|ai @ZL<|ai @fN.eq_1<|ai @sh7<|ai @fU.eq_1<|@z7.eq_1
def yl:b6 prog 170 ja:=b6.gO (mode:=.clean) tok PB mixed func170 (by kernel_rfl) (fun _ _=>rfl) (fun _=>by kernel_rfl) fun⟨G,I⟩ r a=>by
 replace a:nG G I=some r:=a;apply aD rfl ntmps170 results170;simp only[gP];unfold nG at a;simp only[jj,seval];obtain⟨K,E,a⟩:=ae a;refine az (fun s t H e=>match s with|(l,m,j)=>∃f:Nat,t 0=sI G∧t 1=sI I∧t 5=.buf 5 f 1 0 (j).length∧t 6=sN l∧t 7=sN m∧H 5=rW f 3 (aq (eI .i64) j)) (fun o x t H e=>match o with|b=>x=.exit 0∧∃d:Nat,t 5=.buf 5 d 1 0 (b).length∧H 5=rW d 3 (aq (eI .i64) b)) E ?_ ?_ ?_
 ·refine⟨1,?_,?_,?_,?_,?_,?_⟩;all_goals (rfl)
 ·rintro⟨l,m,j⟩ t H e ⟨f,k⟩ c a;simp only[tO]at a;simp only[jj,seval,k];apply sp av a<;>intro _ a
  ·obtain⟨L,n,a⟩:=ae a;have g:=bh (eI .i64) n;simp only[bK]at g;obtain⟨M,p,a⟩:=ae a;simp only[jj,seval,k,g,p];refine bA (by kernel_rfl) ?_;apply sp av a<;>intro _ a
   ·obtain⟨N,q,a⟩:=ae a;obtain⟨u,h,v,w⟩:=iR (eI .i64) q;simp only[bK]at h;cases a;simp only[jj,seval,k,u,h,v,w];apply gS;refine⟨e+1+1+1+1+1+1,?_⟩;and_intros<;>first|rfl|(simp only[jj,seval,k]<;>rfl)
   ·obtain⟨O,y,a⟩:=ae a;obtain⟨A,i,B,C⟩:=iR (eI .i64) y;simp only[bK]at i;cases a;simp only[jj,seval,k,A,i,B,C];apply gS;refine⟨e+1+1+1+1,?_⟩;and_intros<;>first|rfl|(simp only[jj,seval,k]<;>rfl)
  ·cases a;simp only[jj,seval];apply jf;refine⟨rfl,⟨f,?_,?_⟩⟩;all_goals ((simp only[jj,seval,k]<;>rfl))
 ·rintro x t H e J;obtain⟨b,rfl⟩:∃z,z=K:=⟨_,rfl⟩;dsimp only at J a;obtain⟨rfl,⟨d,F⟩⟩:=J;obtain⟨P,D,a⟩:=ae a;cases a;simp only[jj,seval,F,D]
def oR(l:Option (D×Row))(d:List D):=dx (eZ (iQ (eI .i64)) (dp (iQ (eI .i64)))) (fun x:(List Int)×(List Int)=>u7 x.1 x.2) (fun r:(List Int)×(List Int) =>.clean (.tup [.sl false false r.1.length (aq (eI .i64) r.1),.sl false false r.2.length (aq (eI .i64) r.2)])) l d
def Av(a:(List Int))(b:(List Int)):pk none [.sl false false a.length (aq (eI .i64) a),.sl false false b.length (aq (eI .i64) b)]=(nH a b).map fun r:(List Int)=>(.clean (.sl false false r.length (aq (eI .i64) r)),none):=cF _ _ _ (a,b)
def CU(a:(List Int)):fN none [.sl false false a.length (aq (eI .i64) a)]=(kf a).map fun r:(List Int)=>(.clean (.sl false false r.length (aq (eI .i64) r)),none):=cF _ _ _ (a)
def Cz:Env:=(Am.keep 7 (Am.ext (Am.ext (Am.ext (Am.ext bd 152 false kq) 166 false pk) 170 false ja) 185 false fN))
def SU:bN prog Cz:=(bN.keep ((((bN.none.add Ar false).add D0 false).add yl false).add sL false) 7)
def eW:=ai @w<|ai @GL<|ai @kq.eq_1<|ai @Av<|ai @ja.eq_1<|ai @CU<|@Cz.eq_1
def GB:b6 prog 149 oR:=b6.gO (mode:=.clean) tok SU mixed func149 (by kernel_rfl) (fun _ _=>rfl) (fun _=>by kernel_rfl) fun⟨Z,y⟩ r a=>by
 replace a:u7 Z y=some r:=a;apply aD rfl ntmps149 results149;simp only[gP];unfold u7 at a;obtain⟨x1,aa,a⟩:=ae a;obtain⟨ab,ad,ag,A,ah⟩:=mk_one (eI .i64) aa;simp only[bK]at A;simp only[eW,seval,ab,ad,ag,A,ah];obtain⟨ai,B,a⟩:=ae a;refine az (fun s t H e=>match s with|(C,l,d)=>∃h:Nat,t 0=sI Z∧t 1=sI y∧t 6=.buf 6 h 1 0 (d).length∧t 7=sI C∧t 8=sN l∧H 6=rW h 3 (aq (eI .i64) d)) (fun o x t H e=>match o with|(m,i)=>x=.exit 0∧∃j:Nat,t 6=.buf 6 j 1 0 (i).length∧t 7=sI m∧H 6=rW j 3 (aq (eI .i64) i)) B ?_ ?_ ?_
 ·refine⟨1,?_,?_,?_,?_,?_,?_⟩;all_goals (rfl)
 ·rintro⟨C,l,d⟩ t H e ⟨h,Za⟩ c a;simp only[wa]at a;simp only[eW,seval,Za];apply sp av a<;>intro _ a
  ·obtain⟨ar,D,a⟩:=ae a;have k:=bh (eI .i64) D;simp only[bK]at k;obtain⟨au,E,a⟩:=ae a;obtain⟨n,p,F,G⟩:=agf (eI .i64) E;simp only[bY,bK,List.length_cons,an5]at n p;obtain⟨I,J,a⟩:=ae a;simp only[eW,seval,Za,k,n,p,F,G,J];obtain⟨aj,K,a⟩:=ae a;refine az (fun s t H e=>match s with|(L,q)=>∃g:Nat,t 0=sI Z∧t 1=sI y∧t 6=.buf 6 g 1 0 (d).length∧t 7=sI I∧t 8=sN l∧t 9=sN L∧t 10=sN q∧H 6=rW g 3 (aq (eI .i64) d)) (fun o x t H e=>match o with|b=>x=.exit 2∧∃f:Nat,t 0=sI Z∧t 1=sI y∧t 6=.buf 6 f 1 0 (d).length∧t 7=sI I∧t 8=sN l∧t 9=sN b∧H 6=rW f 3 (aq (eI .i64) d)) K ?_ ?_ ?_
   ·refine⟨h,?_⟩;and_intros<;>first|rfl|(simp only[eW,seval,Za]<;>rfl)
   ·rintro⟨L,q⟩ t H e ⟨g,M⟩ c a;simp only[sO]at a;simp only[eW,seval,M];apply sp av a<;>intro _ a
    ·obtain⟨ak,N,a⟩:=ae a;have al:=xT N;have O:=Av y ([ak]);simp only[bY,bK,List.length_cons,an5]at O;obtain⟨aw,P,a⟩:=ae a;obtain⟨ax,Q,a⟩:=ae a;simp only[eW,seval,M,al,O,P,Q];apply sp av a<;>intro _ a
     ·cases a;simp only[eW,seval];apply gS;refine⟨g,?_⟩;and_intros<;>first|rfl|(simp only[eW,seval,M]<;>rfl)
     ·cases a;simp only[eW,seval];apply gS;refine⟨g,?_⟩;and_intros<;>first|rfl|(simp only[eW,seval,M]<;>rfl)
    ·cases a;simp only[eW,seval];apply jf;refine⟨rfl,⟨g,?_,?_,?_,?_,?_,?_,?_⟩⟩;all_goals ((simp only[eW,seval,M]<;>rfl))
   ·rintro x t H e R;obtain⟨b,rfl⟩:∃z,z=aj:=⟨_,rfl⟩;dsimp only at R a;obtain⟨rfl,⟨f,S⟩⟩:=R;obtain⟨ay,u,a⟩:=ae a;have v:=bh (eI .i64) u;simp only[bK]at v;have T:=eN (eI .i64) (x':=b) (fo:=0) (cs:=[.int .i64 b]) u rfl (aov rfl);simp only[bK,Nat.add_zero]at T;have w:=T;simp only[putCells,List.length_cons,List.length_nil,an5]at w;have U:=CU ([b]);simp only[bY,bK,List.length_cons,an5]at U;obtain⟨aA,V,a⟩:=ae a;obtain⟨aB,W,a⟩:=ae a;obtain⟨aC,X,a⟩:=ae a;cases a;simp only[eW,seval,k,S,v,w,U,V,W,X];apply gS;refine⟨f,?_⟩;and_intros<;>first|rfl|(simp only[eW,seval,S]<;>rfl)
  ·cases a;simp only[eW,seval];apply jf;refine⟨rfl,⟨h,?_,?_,?_⟩⟩;all_goals ((simp only[eW,seval,Za]<;>rfl))
 ·rintro x t H e R;rcases ai with⟨m,i⟩;dsimp only at R a;obtain⟨rfl,⟨j,ao⟩⟩:=R;obtain⟨aE,Y,a⟩:=ae a;cases a;simp only[eW,seval,ao,Y]
def qS(l:Option (D×Row))(d:List D):=dx (eZ (bC e9) (dp (bC e9))) (fun x:aF×aF=>v7 x.1 x.2) (fun r:aF×Int =>.clean (.tup [.agg [.int .i64 r.1.al,.sl false false r.1.aa.length (aq (eI .i64) r.1.aa)],.int .i64 r.2])) l d
def ET:Env:=(Am.ext (Am.ext (Am.ext bd 106 false cv) 149 false oR) 150 false ec)
def Wr:bN prog ET:=(((bN.none.add ke false).add GB false).add pD false)
def iL:=ai @w<|ai @y3<|ai @cv.eq_1<|ai @GL<|ai @oR.eq_1<|ai @Hy<|ai @ec.eq_1<|@ET.eq_1
def J7:b6 prog 107 qS:=b6.gO (mode:=.clean) tok Wr mixed func107 (by kernel_rfl) (fun _ _=>rfl) (fun _=>by kernel_rfl) fun⟨q,u⟩ r a=>by
 replace a:v7 q u=some r:=a;apply aD rfl ntmps107 results107;simp only[gP];unfold v7 at a;obtain⟨I,v,a⟩:=ae a;simp only[iL,seval,v];obtain⟨E,w,a⟩:=ae a;refine bX 0 (fun s t H e=>match s with|d=>∃f:Nat,∃g:Nat,∃b:Nat,t 2=.ptr 2 f 0∧t 3=.ptr 3 g 0∧t 4=.ptr 4 b 0∧t 17=.bool d∧H 2=rV f 39 [sN q.al,sI q.aa]∧H 3=rV g 39 [sN u.al,sI u.aa]∧H 4=rV b 39 [sN 0,.sl true true 0 []]) (fun s=>s=E) ?_ ?_
 ·rintro d t H e ⟨f,g,b,j⟩ rfl;try dsimp only at a
  simp only[iL,seval,j];apply sp av a<;>intro _ a
  ·cases a;simp only[iL,seval,j]
  ·simp only[iL,seval,j];obtain⟨F,y,a⟩:=ae a;refine az (fun s t H e=>match s with|(l,m)=>∃h:Nat,t 4=.ptr 4 h 0∧t 6=sI l∧t 7=sI m∧H 4=rV h 39 [sN 0,.sl true true 0 []]) (fun o x t H e=>match o with|k=>x=.exit 0∧∃i:Nat,t 4=.ptr 4 i 0∧t 6=sI k∧H 4=rV i 39 [sN 0,.sl true true 0 []]) y ?_ ?_ ?_
   ·refine⟨b,?_⟩;and_intros<;>first|rfl|(simp only[iL,seval,j]<;>rfl)
   ·rintro⟨l,m⟩ t H e ⟨h,p⟩ c a;simp only[u6]at a;simp only[iL,seval,p];apply sp av a<;>intro _ a
    ·obtain⟨J,A,a⟩:=ae a;cases a;simp only[iL,seval,p,A];apply gS;refine⟨h,?_⟩;and_intros<;>first|rfl|(simp only[iL,seval,p]<;>rfl)
    ·cases a;simp only[iL,seval];apply jf;refine⟨rfl,⟨h,?_,?_,?_⟩⟩;all_goals ((simp only[iL,seval,p]<;>rfl))
   ·rintro x t H e D;obtain⟨k,rfl⟩:∃z,z=F:=⟨_,rfl⟩;dsimp only at D a;obtain⟨rfl,⟨i,B⟩⟩:=D;obtain⟨K,C,a⟩:=ae a;cases a;simp only[iL,seval,B,C]
 ·clear a;have a:=w;simp only[iL,seval];apply sp aZ a<;>intro _ a
  ·cases a;simp only[iL,seval];rw[ay];refine⟨_,rfl,?_⟩;refine⟨0,0,0,?_,?_,?_,?_,?_,?_,?_⟩;all_goals (rfl)
  ·obtain⟨G,n,a⟩:=ae a;cases a;simp only[iL,seval,n];rw[ay];refine⟨_,rfl,?_⟩;refine⟨0,0,0,?_,?_,?_,?_,?_,?_,?_⟩;all_goals (rfl)
def qU(l:Option (D×Row))(d:List D):=dx (eZ (iQ (eI .i64)) (dp (iQ (eI .i64)))) (fun x:(List Int)×(List Int)=>sP x.1 x.2) (fun r:(List Int) =>.clean (.sl false false r.length (aq (eI .i64) r))) l d
def CA:Env:=(Am.ext (Am.ext bd 185 false fN) 186 false fU)
def SV:bN prog CA:=((bN.none.add sL false).add tK false)
def fm:=ai @w<|ai @ZL<|ai @fN.eq_1<|ai @sh7<|ai @fU.eq_1<|@CA.eq_1
def GC:b6 prog 169 qU:=b6.gO (mode:=.clean) tok SV mixed func169 (by kernel_rfl) (fun _ _=>rfl) (fun _=>by kernel_rfl) fun⟨F,G⟩ r a=>by
 replace a:sP F G=some r:=a;apply aD rfl ntmps169 results169;simp only[gP];unfold sP at a;simp only[fm,seval];obtain⟨I,p,a⟩:=ae a;refine az (fun s t H e=>match s with|(l,m,f)=>∃d:Nat,t 0=sI F∧t 1=sI G∧t 5=.buf 5 d 1 0 (f).length∧t 6=sN l∧t 7=sN m∧H 5=rW d 3 (aq (eI .i64) f)) (fun o x t H e=>match o with|g=>x=.exit 0∧∃h:Nat,t 5=.buf 5 h 1 0 (g).length∧H 5=rW h 3 (aq (eI .i64) g)) p ?_ ?_ ?_
 ·refine⟨1,?_,?_,?_,?_,?_,?_⟩;all_goals (rfl)
 ·rintro⟨l,m,f⟩ t H e ⟨d,n⟩ c a;simp only[wb]at a;simp only[fm,seval,n];obtain⟨J,q,a⟩:=ae a;refine bX 0 (fun s t H e=>match s with|i=>∃b:Nat,t 0=sI F∧t 1=sI G∧t 5=.buf 5 b 1 0 (f).length∧t 6=sN l∧t 7=sN m∧t 22=.bool i∧H 5=rW b 3 (aq (eI .i64) f)) (fun s=>s=J) ?_ ?_
  ·rintro i t H e ⟨b,j⟩ rfl;try dsimp only at a
   simp only[fm,seval,j];apply sp av a<;>intro _ a
   ·obtain⟨O,u,a⟩:=ae a;obtain⟨P,v,a⟩:=ae a;obtain⟨Q,w,a⟩:=ae a;have K:=DT w;obtain⟨R,y,a⟩:=ae a;obtain⟨A,k,B,C⟩:=iR (eI .i64) y;simp only[bK]at k;obtain⟨S,D,a⟩:=ae a;have L:=xT D;cases a;simp only[fm,seval,j,u,v,K,A,k,B,C,L];apply gS;refine⟨e+1,?_⟩;and_intros<;>first|rfl|(simp only[fm,seval,j]<;>rfl)
   ·cases a;simp only[fm,seval];apply jf;refine⟨rfl,⟨b,?_,?_⟩⟩;all_goals ((simp only[fm,seval,j]<;>rfl))
  ·clear a;have a:=q;simp only[fm,seval];apply sp aZ a<;>intro _ a
   ·cases a;simp only[fm,seval];rw[ay];refine⟨_,rfl,?_⟩;refine⟨d,?_⟩;and_intros<;>first|rfl|(simp only[fm,seval,n]<;>rfl)
   ·simp only[fm,seval,n];apply sp aZ a<;>intro _ a
    ·cases a;simp only[fm,seval];rw[ay];refine⟨_,rfl,?_⟩;refine⟨d,?_⟩;and_intros<;>first|rfl|(simp only[fm,seval,n]<;>rfl)
    ·cases a;simp only[fm,seval,n];rw[ay];refine⟨_,rfl,?_⟩;refine⟨d,?_⟩;and_intros<;>first|rfl|(simp only[fm,seval,n]<;>rfl)
 ·rintro x t H e N;obtain⟨g,rfl⟩:∃z,z=I:=⟨_,rfl⟩;dsimp only at N a;obtain⟨rfl,⟨h,M⟩⟩:=N;obtain⟨T,E,a⟩:=ae a;cases a;simp only[fm,seval,M,E]
def AV(l:Option (D×Row))(d:List D):=dx (eZ (bC e9) (dp (bC e9))) (fun x:aF×aF=>tM x.1 x.2) (fun r:aF×aF×Int =>.clean (.tup [.agg [.int .i64 r.1.al,.sl false false r.1.aa.length (aq (eI .i64) r.1.aa)],.agg [.int .i64 r.2.1.al,.sl false false r.2.1.aa.length (aq (eI .i64) r.2.1.aa)],.int .i64 r.2.2])) l d
def W9(a:(List Int))(b:(List Int)):qU none [.sl false false a.length (aq (eI .i64) a),.sl false false b.length (aq (eI .i64) b)]=(sP a b).map fun r:(List Int)=>(.clean (.sl false false r.length (aq (eI .i64) r)),none):=cF _ _ _ (a,b)
def ES:Env:=(Am.ext (Am.ext (Am.ext (Am.ext (Am.ext bd 106 false cv) 149 false oR) 150 false ec) 169 false qU) 170 false ja)
def Wq:bN prog ES:=(((((bN.none.add ke false).add GB false).add pD false).add GC false).add yl false)
def gg:=ai @w<|ai @y3<|ai @cv.eq_1<|ai @GL<|ai @oR.eq_1<|ai @Hy<|ai @ec.eq_1<|ai @ja.eq_1<|@ES.eq_1
def WW:b6 prog 168 AV:=b6.gO (mode:=.clean) tok Wq mixed func168 (by kernel_rfl) (fun _ _=>rfl) (fun _=>by kernel_rfl) fun⟨o,p⟩ r a=>by
 replace a:tM o p=some r:=a;apply aD rfl ntmps168 results168;simp only[gP];unfold tM at a;obtain⟨O,z,a⟩:=ae a;simp only[gg,seval,z];obtain⟨G,A,a⟩:=ae a;refine bX 0 (fun s t H e=>match s with|h=>∃b:Nat,∃c:Nat,∃d:Nat,∃f:Nat,t 2=.ptr 2 b 0∧t 3=.ptr 3 c 0∧t 4=.ptr 4 d 0∧t 5=.ptr 5 f 0∧t 16=.bool h∧H 2=rV b 39 [sN o.al,sI o.aa]∧H 3=rV c 39 [sN p.al,sI p.aa]∧H 4=rV d 39 [sN 0,.sl true true 0 []]∧H 5=rV f 39 [sN 0,.sl true true 0 []]) (fun s=>s=G) ?_ ?_
 ·rintro h t H e ⟨b,c,d,f,g⟩ rfl;try dsimp only at a
  simp only[gg,seval,g];apply sp av a<;>intro _ a
  ·cases a;simp only[gg,seval,g]
  ·simp only[gg,seval,g];apply sp av a<;>intro _ a
   ·cases a;simp only[gg,seval,g]
   ·obtain⟨B,C,a⟩:=ae a;simp only[gg,seval,g,C];obtain⟨I,D,a⟩:=ae a;refine bX 0 (fun s t H e=>match s with|i=>∃j:Nat,∃k:Nat,∃l:Nat,∃m:Nat,t 2=.ptr 2 j 0∧t 3=.ptr 3 k 0∧t 4=.ptr 4 l 0∧t 5=.ptr 5 m 0∧t 7=sI B.1∧t 8=sI B.2∧t 42=.bool i∧H 2=rV j 39 [sN o.al,sI o.aa]∧H 3=rV k 39 [sN p.al,sI p.aa]∧H 4=rV l 39 [sN 0,.sl true true 0 []]∧H 5=rV m 39 [sN 0,.sl true true 0 []]) (fun s=>s=I) ?_ ?_
    ·rintro i t H e ⟨j,k,l,m,n⟩ rfl;try dsimp only at a
     simp only[gg,seval,n];apply sp av a<;>intro _ a
     ·obtain⟨P,E,a⟩:=ae a;obtain⟨Q,F,a⟩:=ae a;simp only[gg,seval,n,E,F];refine bA (by kernel_rfl) ?_;cases a;simp only[seval]
     ·have q:=W9 B.1 ([1]);simp only[bY,bK,List.length_cons,an5]at q;obtain⟨J,u,a⟩:=ae a;obtain⟨K,v,a⟩:=ae a;obtain⟨L,w,a⟩:=ae a;obtain⟨M,x,a⟩:=ae a;simp only[gg,seval,n,q,u,v,w,x];refine bA (by kernel_rfl) ?_;cases a;simp only[seval]
    ·clear a;have a:=D;simp only[gg,seval];apply sp aZ a<;>intro _ a
     ·cases a;simp only[gg,seval];rw[ay];refine⟨_,rfl,?_⟩;refine⟨b,c,d,f,?_⟩;and_intros<;>first|rfl|(simp only[gg,seval,g]<;>rfl)
     ·cases a;simp only[gg,seval];rw[ay];refine⟨_,rfl,?_⟩;refine⟨b,c,d,f,?_⟩;and_intros<;>first|rfl|(simp only[gg,seval,g]<;>rfl)
 ·clear a;have a:=A;simp only[gg,seval];apply sp aZ a<;>intro _ a
  ·cases a;simp only[gg,seval];rw[ay];refine⟨_,rfl,?_⟩;refine⟨0,0,0,0,?_,?_,?_,?_,?_,?_,?_,?_,?_⟩;all_goals (rfl)
  ·obtain⟨N,y,a⟩:=ae a;cases a;simp only[gg,seval,y];rw[ay];refine⟨_,rfl,?_⟩;refine⟨0,0,0,0,?_,?_,?_,?_,?_,?_,?_,?_,?_⟩;all_goals (rfl)
def lT(l:Option (D×Row))(d:List D):=dx (eZ (bC e9) (dp (bC e9))) (fun x:aF×aF=>wc x.1 x.2) (fun r:an×Int =>.clean (.tup [.agg [.int .i64 r.1.bF.al,.sl false false r.1.bF.aa.length (aq (eI .i64) r.1.bF.aa),.int .i64 r.1.bJ.al,.sl false false r.1.bJ.aa.length (aq (eI .i64) r.1.bJ.aa)],.int .i64 r.2])) l d
def EZ:Env:=(Am.ext (Am.ext (Am.ext (Am.ext bd 106 false cv) 107 false qS) 167 false AW) 168 false AV)
def Wx:bN prog EZ:=((((bN.none.add ke false).add J7 false).add WX false).add WW false)
def ia:=ai @w<|ai @y3<|ai @cv.eq_1<|ai @B4<|ai @qS.eq_1<|ai @AW.eq_1<|ai @AV.eq_1<|@EZ.eq_1
def CO:b6 prog 124 lT:=b6.gO (mode:=.clean) tok Wx mixed func124 (by kernel_rfl) (fun _ _=>rfl) (fun _=>by kernel_rfl) fun⟨u,v⟩ r a=>by
 replace a:wc u v=some r:=a;apply aD rfl ntmps124 results124;simp only[gP];unfold wc at a;obtain⟨J,w,a⟩:=ae a;simp only[ia,seval,w];obtain⟨D,x,a⟩:=ae a;refine bX 0 (fun s t H e=>match s with|k=>∃b:Nat,∃c:Nat,∃d:Nat,t 2=.ptr 2 b 0∧t 3=.ptr 3 c 0∧t 4=.ptr 4 d 0∧t 21=.bool k∧H 2=rV b 39 [sN u.al,sI u.aa]∧H 3=rV c 39 [sN v.al,sI v.aa]∧H 4=rV d 41 [sN 0,.sl true true 0 [],sN 0,.sl true true 0 []]) (fun s=>s=D) ?_ ?_
 ·rintro k t H e ⟨b,c,d,f⟩ rfl;try dsimp only at a
  simp only[ia,seval,f];apply sp av a<;>intro _ a
  ·cases a;simp only[ia,seval,f]
  ·simp only[ia,seval,f];apply sp av a<;>intro _ a
   ·cases a;simp only[ia,seval,f]
   ·simp only[ia,seval,f];obtain⟨E,y,a⟩:=ae a;refine oB 0 (fun s t H e=>match s with|(g,h,i,j)=>∃l:Nat,∃m:Nat,∃n:Nat,t 2=.ptr 2 l 0∧t 3=.ptr 3 m 0∧t 4=.ptr 4 n 0∧H 2=rV l 39 [sN g,sI h]∧H 3=rV m 39 [sN i,sI j]∧H 4=rV n 41 [sN 0,.sl true true 0 [],sN 0,.sl true true 0 []]) (fun s=>s=E) ?_ ?_
    ·rintro⟨g,h,i,j⟩ t H e ⟨l,m,n,z⟩ rfl;try dsimp only at a
     obtain⟨K,A,a⟩:=ae a;obtain⟨L,B,a⟩:=ae a;obtain⟨M,C,a⟩:=ae a;cases a;simp only[ia,seval,z,A,B,C]
    ·clear a;have a:=y;simp only[ia,seval];apply sp av a<;>intro _ a
     ·obtain⟨F,o,a⟩:=ae a;obtain⟨G,p,a⟩:=ae a;cases a;simp only[ia,seval,f,o,p];rw[ay];refine⟨_,rfl,?_⟩;refine⟨b,c,d,?_⟩;and_intros<;>first|rfl|(simp only[ia,seval,f]<;>rfl)
     ·cases a;simp only[ia,seval];rw[ay];refine⟨_,rfl,?_⟩;refine⟨b,c,d,?_,?_,?_,?_,?_,?_⟩;all_goals ((simp only[ia,seval,f]<;>rfl))
 ·clear a;have a:=x;simp only[ia,seval];apply sp aZ a<;>intro _ a
  ·cases a;simp only[ia,seval];rw[ay];refine⟨_,rfl,?_⟩;refine⟨0,0,0,?_,?_,?_,?_,?_,?_,?_⟩;all_goals (rfl)
  ·obtain⟨I,q,a⟩:=ae a;cases a;simp only[ia,seval,q];rw[ay];refine⟨_,rfl,?_⟩;refine⟨0,0,0,?_,?_,?_,?_,?_,?_,?_⟩;all_goals (rfl)
def ui(l:Option (D×Row))(d:List D):=dx (eZ (aI .i64) (dp (aI .i64))) (fun x:Int×Int=>AA x.1 x.2) (fun r:an×Int =>.clean (.tup [.agg [.int .i64 r.1.bF.al,.sl false false r.1.bF.aa.length (aq (eI .i64) r.1.bF.aa),.int .i64 r.1.bJ.al,.sl false false r.1.bJ.aa.length (aq (eI .i64) r.1.bJ.aa)],.int .i64 r.2])) l d
def I1:Env:=(Am.ext (Am.ext bd 109 false uh) 124 false lT)
def aa6:bN prog I1:=((bN.none.add N0 false).add CO false)
def af5:=ai @w<|ai @GK<|ai @uh.eq_1<|ai @B4<|ai @lT.eq_1<|@I1.eq_1
def N1:b6 prog 72 ui:=b6.gO (mode:=.clean) tok aa6 mixed func72 (by kernel_rfl) (fun _ _=>rfl) (fun _=>by kernel_rfl) fun⟨e,f⟩ r a=>by
 replace a:AA e f=some r:=a;apply aD rfl ntmps72 results72;simp only[gP];unfold AA at a;obtain⟨g,b,a⟩:=ae a;obtain⟨h,c,a⟩:=ae a;obtain⟨i,d,a⟩:=ae a;cases a;simp only[af5,seval,b,c,d]
def AY(l:Option (D×Row))(d:List D):=dx (dp (aI .i64)) (fun x:Int=>yt x) (fun r:an =>.clean (.agg [.int .i64 r.bF.al,.sl false false r.bF.aa.length (aq (eI .i64) r.bF.aa),.int .i64 r.bJ.al,.sl false false r.bJ.aa.length (aq (eI .i64) r.bJ.aa)])) l d
def EX:Env:=(Am.ext bd 72 false ui)
def Wv:bN prog EX:=(bN.none.add N1 false)
def aci:=ai @w<|ai @K6<|ai @ui.eq_1<|@EX.eq_1
def WZ:b6 prog 68 AY:=b6.gO (mode:=.clean) tok Wv mixed func68 (by kernel_rfl) (fun _ _=>rfl) (fun _=>by kernel_rfl) fun c r a=>by
 replace a:yt c=some r:=a;apply aD rfl ntmps68 results68;simp only[gP];unfold yt at a;obtain⟨d,b,a⟩:=ae a;cases a;simp only[aci,seval,b]
def xB(l:Option (D×Row))(d:List D):=dx (eZ (bC e9) (dp (bC e9))) (fun x:aF×aF=>Ay x.1 x.2) (fun r:Bool =>.clean (.bool r)) l d
def Ue:b6 prog 151 xB:=b6.gO (mode:=.clean) tok bN.none mixed func151 (by kernel_rfl) (fun _ _=>rfl) (fun _=>by kernel_rfl) fun⟨j,k⟩ r a=>by
 replace a:Ay j k=some r:=a;apply aD rfl ntmps151 results151;simp only[gP];unfold Ay at a;simp only[w,seval];obtain⟨A,v,a⟩:=ae a;refine bX 0 (fun s t H e=>match s with|f=>∃b:Nat,∃d:Nat,t 2=.ptr 2 b 0∧t 3=.ptr 3 d 0∧t 19=.bool f∧H 2=rV b 39 [sN j.al,sI j.aa]∧H 3=rV d 39 [sN k.al,sI k.aa]) (fun s=>s=A) ?_ ?_
 ·rintro f t H e ⟨b,d,l⟩ rfl;try dsimp only at a
  simp only[w,seval,l];apply sp av a<;>intro _ a
  ·cases a;simp only[w,seval]
  ·simp only[w,seval];obtain⟨B,y,a⟩:=ae a;refine az (fun s t H e=>match s with|m=>∃g:Nat,∃h:Nat,t 2=.ptr 2 g 0∧t 3=.ptr 3 h 0∧t 5=sN m∧H 2=rV g 39 [sN j.al,sI j.aa]∧H 3=rV h 39 [sN k.al,sI k.aa]) (fun o x t H e=>match o with|(.inl _)=>x=.exit 0|(.inr r)=>x=.ret∧gF .clean tab none [.tmp 4] ⟨t,EH H,e⟩=some (.clean (.bool r),none)) y ?_ ?_ ?_
   ·refine⟨b,d,?_⟩;and_intros<;>first|rfl|(simp only[w,seval,l]<;>rfl)
   ·rintro m t H e ⟨g,h,q⟩ c a;simp only[GH]at a;simp only[w,seval,q];apply sp av a<;>intro _ a
    ·obtain⟨E,z,a⟩:=ae a;have n:=bh (eI .i64) z;simp only[bK]at n;obtain⟨C,p,a⟩:=ae a;have i:=bh (eI .i64) p;simp only[bK]at i;simp only[w,seval,q,n,i];refine bA (by kernel_rfl) ?_;apply sp av a<;>intro _ a
     ·cases a;simp only[w,seval];refine tf ⟨rfl,?_⟩;simp only[w,seval]
     ·cases a;simp only[w,seval,q];apply gS;refine⟨g,h,?_⟩;and_intros<;>first|rfl|(simp only[w,seval,q]<;>rfl)
    ·cases a;simp only[w,seval];apply jf;exact rfl
   ·rintro x t H e u;rcases B with _|F
    ·dsimp only at u a;subst u;cases a;simp only[w,seval]
    ·dsimp only at u a;obtain⟨rfl,D⟩:=u;cases a;simp only[aV,bc,cw,cL];exact D
 ·clear a;have a:=v;simp only[w,seval];apply sp aZ a<;>intro _ a
  ·cases a;simp only[w,seval];rw[ay];refine⟨_,rfl,?_⟩;refine⟨0,0,?_,?_,?_,?_,?_⟩;all_goals (rfl)
  ·cases a;simp only[w,seval];rw[ay];refine⟨_,rfl,?_⟩;refine⟨0,0,?_,?_,?_,?_,?_⟩;all_goals (rfl)
def rZ(l:Option (D×Row))(d:List D):=dx (eZ (bC e9) (dp (bC e9))) (fun x:aF×aF=>pF x.1 x.2) (fun r:Int =>.clean (.int .i64 r)) l d
def wK:Env:=(Am.ext (Am.ext (Am.ext bd 106 false cv) 151 false xB) 152 false kq)
def Jd:bN prog wK:=(((bN.none.add ke false).add Ue false).add Ar false)
def dz:=ai @w<|ai @y3<|ai @cv.eq_1<|ai @B4<|ai @xB.eq_1<|ai @GL<|ai @kq.eq_1<|@wK.eq_1
def J6:b6 prog 108 rZ:=b6.gO (mode:=.clean) tok Jd mixed func108 (by kernel_rfl) (fun _ _=>rfl) (fun _=>by kernel_rfl) fun⟨h,i⟩ r a=>by
 replace a:pF h i=some r:=a;apply aD rfl ntmps108 results108;simp only[gP];unfold pF at a;obtain⟨p,j,a⟩:=ae a;simp only[dz,seval,j];obtain⟨n,k,a⟩:=ae a;refine bX 0 (fun s t H e=>match s with|b=>∃c:Nat,∃d:Nat,t 2=.ptr 2 c 0∧t 3=.ptr 3 d 0∧t 17=.bool b∧H 2=rV c 39 [sN h.al,sI h.aa]∧H 3=rV d 39 [sN i.al,sI i.aa]) (fun s=>s=n) ?_ ?_
 ·rintro b t H e ⟨c,d,f⟩ rfl;try dsimp only at a
  simp only[dz,seval,f];apply sp av a<;>intro _ a
  ·cases a;simp only[dz,seval]
  ·simp only[dz,seval,f];apply sp av a<;>intro _ a
   ·simp only[dz,seval,f];apply sp av a<;>intro _ a
    ·cases a;simp only[dz,seval]
    ·cases a;simp only[dz,seval]
   ·obtain⟨q,l,a⟩:=ae a;simp only[dz,seval,f,l];refine bA (by kernel_rfl) ?_;apply sp av a<;>intro _ a
    ·cases a;simp only[dz,seval]
    ·cases a;simp only[dz,seval]
 ·clear a;have a:=k;simp only[dz,seval];apply sp aZ a<;>intro _ a
  ·cases a;simp only[dz,seval];rw[ay];refine⟨_,rfl,?_⟩;refine⟨0,0,?_,?_,?_,?_,?_⟩;all_goals (rfl)
  ·obtain⟨u,m,a⟩:=ae a;simp only[dz,seval,m];apply sp aZ a<;>intro _ a
   ·cases a;simp only[dz,seval];rw[ay];refine⟨_,rfl,?_⟩;refine⟨0,0,?_,?_,?_,?_,?_⟩;all_goals (rfl)
   ·obtain⟨o,g,a⟩:=ae a;cases a;simp only[dz,seval,g];rw[ay];refine⟨_,rfl,?_⟩;refine⟨0,0,?_,?_,?_,?_,?_⟩;all_goals (rfl)
def mv(l:Option (D×Row))(d:List D):=dx (dp (bC ah)) (fun x:an=>lY x) (fun r:Bool =>.clean (.bool r)) l d
def Aa:Env:=(Am.ext (Am.ext (Am.ext (Am.ext bd 106 false cv) 107 false qS) 108 false rZ) 109 false uh)
def PD:bN prog Aa:=((((bN.none.add ke false).add J7 false).add J6 false).add N0 false)
def kj:=ai @w<|ai @y3<|ai @cv.eq_1<|ai @B4<|ai @qS.eq_1<|ai @rZ.eq_1<|ai @GK<|ai @uh.eq_1<|@Aa.eq_1
def D1:b6 prog 56 mv:=b6.gO (mode:=.clean) tok PD mixed func56 (by kernel_rfl) (fun _ _=>rfl) (fun _=>by kernel_rfl) fun d r a=>by
 replace a:lY d=some r:=a;apply aD rfl ntmps56 results56;simp only[gP];unfold lY at a;obtain⟨n,g,a⟩:=ae a;simp only[kj,seval,g];obtain⟨m,h,a⟩:=ae a;refine bX 0 (fun s t H e=>match s with|b=>∃c:Nat,t 1=.ptr 1 c 0∧t 20=.bool b∧H 1=rV c 41 [sN d.bF.al,sI d.bF.aa,sN d.bJ.al,sI d.bJ.aa]) (fun s=>s=m) ?_ ?_
 ·rintro b t H e ⟨c,f⟩ rfl;try dsimp only at a
  simp only[kj,seval,f];apply sp av a<;>intro _ a
  ·cases a;simp only[kj,seval]
  ·obtain⟨o,i,a⟩:=ae a;obtain⟨p,j,a⟩:=ae a;obtain⟨q,k,a⟩:=ae a;simp only[kj,seval,f,i,j,k];refine bA (by kernel_rfl) ?_;cases a;simp only[seval]
 ·clear a;have a:=h;simp only[kj,seval];apply sp aZ a<;>intro _ a
  ·cases a;simp only[kj,seval];rw[ay];refine⟨_,rfl,?_⟩;refine⟨0,?_,?_,?_⟩;all_goals (rfl)
  ·obtain⟨u,l,a⟩:=ae a;simp only[kj,seval,l];apply sp aZ a<;>intro _ a
   ·cases a;simp only[kj,seval];rw[ay];refine⟨_,rfl,?_⟩;refine⟨0,?_,?_,?_⟩;all_goals (rfl)
   ·cases a;simp only[kj,seval];rw[ay];refine⟨_,rfl,?_⟩;refine⟨0,?_,?_,?_⟩;all_goals (rfl)
def qT(l:Option (D×Row))(d:List D):=dx (eZ (bC e9) (dp (bC e9))) (fun x:aF×aF=>lz x.1 x.2) (fun r:aF×Int =>.clean (.tup [.agg [.int .i64 r.1.al,.sl false false r.1.aa.length (aq (eI .i64) r.1.aa)],.int .i64 r.2])) l d
def EU:Env:=(Am.ext (Am.ext (Am.ext bd 106 false cv) 150 false ec) 166 false pk)
def Ws:bN prog EU:=(((bN.none.add ke false).add pD false).add D0 false)
def rN:=ai @w<|ai @y3<|ai @cv.eq_1<|ai @Hy<|ai @ec.eq_1<|ai @GL<|ai @pk.eq_1<|@EU.eq_1
def J8:b6 prog 123 qT:=b6.gO (mode:=.clean) tok Ws mixed func123 (by kernel_rfl) (fun _ _=>rfl) (fun _=>by kernel_rfl) fun⟨h,i⟩ r a=>by
 replace a:lz h i=some r:=a;apply aD rfl ntmps123 results123;simp only[gP];unfold lz at a;obtain⟨p,j,a⟩:=ae a;simp only[rN,seval,j];obtain⟨o,k,a⟩:=ae a;refine bX 0 (fun s t H e=>match s with|b=>∃c:Nat,∃d:Nat,∃f:Nat,t 2=.ptr 2 c 0∧t 3=.ptr 3 d 0∧t 4=.ptr 4 f 0∧t 13=.bool b∧H 2=rV c 39 [sN h.al,sI h.aa]∧H 3=rV d 39 [sN i.al,sI i.aa]∧H 4=rV f 39 [sN 0,.sl true true 0 []]) (fun s=>s=o) ?_ ?_
 ·rintro b t H e ⟨c,d,f,g⟩ rfl;try dsimp only at a
  simp only[rN,seval,g];apply sp av a<;>intro _ a
  ·cases a;simp only[rN,seval,g]
  ·obtain⟨q,l,a⟩:=ae a;obtain⟨u,m,a⟩:=ae a;simp only[rN,seval,g,l,m];refine bA (by kernel_rfl) ?_;cases a;simp only[seval]
 ·clear a;have a:=k;simp only[rN,seval];apply sp aZ a<;>intro _ a
  ·cases a;simp only[rN,seval];rw[ay];refine⟨_,rfl,?_⟩;refine⟨0,0,0,?_,?_,?_,?_,?_,?_,?_⟩;all_goals (rfl)
  ·obtain⟨v,n,a⟩:=ae a;cases a;simp only[rN,seval,n];rw[ay];refine⟨_,rfl,?_⟩;refine⟨0,0,0,?_,?_,?_,?_,?_,?_,?_⟩;all_goals (rfl)
def qW(l:Option (D×Row))(d:List D):=dx (eZ (bC ah) (dp (bC ah))) (fun x:an×an=>yu x.1 x.2) (fun r:an×Int =>.clean (.tup [.agg [.int .i64 r.1.bF.al,.sl false false r.1.bF.aa.length (aq (eI .i64) r.1.bF.aa),.int .i64 r.1.bJ.al,.sl false false r.1.bJ.aa.length (aq (eI .i64) r.1.bJ.aa)],.int .i64 r.2])) l d
def EY:Env:=(Am.ext (Am.ext (Am.ext bd 56 false mv) 123 false qT) 124 false lT)
def Ww:bN prog EY:=(((bN.none.add D1 false).add J8 false).add CO false)
def rP:=ai @w<|ai @kC<|ai @mv.eq_1<|ai @B4<|ai @qT.eq_1<|ai @lT.eq_1<|@EY.eq_1
def Ka:b6 prog 69 qW:=b6.gO (mode:=.clean) tok Ww mixed func69 (by kernel_rfl) (fun _ _=>rfl) (fun _=>by kernel_rfl) fun⟨h,i⟩ r a=>by
 replace a:yu h i=some r:=a;apply aD rfl ntmps69 results69;simp only[gP];unfold yu at a;obtain⟨q,j,a⟩:=ae a;simp only[rP,seval,j];obtain⟨p,k,a⟩:=ae a;refine bX 0 (fun s t H e=>match s with|b=>∃c:Nat,∃d:Nat,∃f:Nat,t 2=.ptr 2 c 0∧t 3=.ptr 3 d 0∧t 4=.ptr 4 f 0∧t 17=.bool b∧H 2=rV c 41 [sN h.bF.al,sI h.bF.aa,sN h.bJ.al,sI h.bJ.aa]∧H 3=rV d 41 [sN i.bF.al,sI i.bF.aa,sN i.bJ.al,sI i.bJ.aa]∧H 4=rV f 41 [sN 0,.sl true true 0 [],sN 0,.sl true true 0 []]) (fun s=>s=p) ?_ ?_
 ·rintro b t H e ⟨c,d,f,g⟩ rfl;try dsimp only at a
  simp only[rP,seval,g];apply sp av a<;>intro _ a
  ·cases a;simp only[rP,seval,g]
  ·obtain⟨u,l,a⟩:=ae a;obtain⟨v,m,a⟩:=ae a;obtain⟨w,n,a⟩:=ae a;cases a;simp only[rP,seval,g,l,m,n]
 ·clear a;have a:=k;simp only[rP,seval];apply sp aZ a<;>intro _ a
  ·cases a;simp only[rP,seval];rw[ay];refine⟨_,rfl,?_⟩;refine⟨0,0,0,?_,?_,?_,?_,?_,?_,?_⟩;all_goals (rfl)
  ·obtain⟨x,o,a⟩:=ae a;cases a;simp only[rP,seval,o];rw[ay];refine⟨_,rfl,?_⟩;refine⟨0,0,0,?_,?_,?_,?_,?_,?_,?_⟩;all_goals (rfl)
def AU(l:Option (D×Row))(d:List D):=dx (eZ (bC e9) (dp (bC e9))) (fun x:aF×aF=>Bn x.1 x.2) (fun r:aF×Int =>.clean (.tup [.agg [.int .i64 r.1.al,.sl false false r.1.aa.length (aq (eI .i64) r.1.aa)],.int .i64 r.2])) l d
def ER:Env:=(Am.ext (Am.ext (Am.ext (Am.ext (Am.ext bd 106 false cv) 150 false ec) 152 false kq) 169 false qU) 170 false ja)
def Wp:bN prog ER:=(((((bN.none.add ke false).add pD false).add Ar false).add GC false).add yl false)
def eQ:=ai @w<|ai @y3<|ai @cv.eq_1<|ai @Hy<|ai @ec.eq_1<|ai @GL<|ai @kq.eq_1<|ai @qU.eq_1<|ai @ja.eq_1<|@ER.eq_1
def WV:b6 prog 125 AU:=b6.gO (mode:=.clean) tok Wp mixed func125 (by kernel_rfl) (fun _ _=>rfl) (fun _=>by kernel_rfl) fun⟨m,n⟩ r a=>by
 replace a:Bn m n=some r:=a;apply aD rfl ntmps125 results125;simp only[gP];unfold Bn at a;obtain⟨K,w,a⟩:=ae a;simp only[eQ,seval,w];obtain⟨C,x,a⟩:=ae a;refine bX 0 (fun s t H e=>match s with|g=>∃b:Nat,∃c:Nat,∃d:Nat,t 2=.ptr 2 b 0∧t 3=.ptr 3 c 0∧t 4=.ptr 4 d 0∧t 13=.bool g∧H 2=rV b 39 [sN m.al,sI m.aa]∧H 3=rV c 39 [sN n.al,sI n.aa]∧H 4=rV d 39 [sN 0,.sl true true 0 []]) (fun s=>s=C) ?_ ?_
 ·rintro g t H e ⟨b,c,d,f⟩ rfl;try dsimp only at a
  simp only[eQ,seval,f];apply sp av a<;>intro _ a
  ·cases a;simp only[eQ,seval,f]
  ·simp only[eQ,seval,f];obtain⟨D,y,a⟩:=ae a;refine bX 0 (fun s t H e=>match s with|h=>∃i:Nat,∃j:Nat,∃k:Nat,t 2=.ptr 2 i 0∧t 3=.ptr 3 j 0∧t 4=.ptr 4 k 0∧t 29=.bool h∧H 2=rV i 39 [sN m.al,sI m.aa]∧H 3=rV j 39 [sN n.al,sI n.aa]∧H 4=rV k 39 [sN 0,.sl true true 0 []]) (fun s=>s=D) ?_ ?_
   ·rintro h t H e ⟨i,j,k,l⟩ rfl;try dsimp only at a
    simp only[eQ,seval,l];apply sp av a<;>intro _ a
    ·obtain⟨L,z,a⟩:=ae a;obtain⟨M,A,a⟩:=ae a;simp only[eQ,seval,l,z,A];refine bA (by kernel_rfl) ?_;cases a;simp only[seval]
    ·obtain⟨N,B,a⟩:=ae a;simp only[eQ,seval,l,B];apply sp av a<;>intro _ a
     ·obtain⟨E,o,a⟩:=ae a;obtain⟨F,p,a⟩:=ae a;simp only[eQ,seval,l,o,p];refine bA (by kernel_rfl) ?_;cases a;simp only[seval]
     ·obtain⟨G,q,a⟩:=ae a;obtain⟨I,u,a⟩:=ae a;simp only[eQ,seval,l,q,u];refine bA (by kernel_rfl) ?_;cases a;simp only[seval]
   ·clear a;have a:=y;simp only[eQ,seval];apply sp aZ a<;>intro _ a
    ·cases a;simp only[eQ,seval];rw[ay];refine⟨_,rfl,?_⟩;refine⟨b,c,d,?_⟩;and_intros<;>first|rfl|(simp only[eQ,seval,f]<;>rfl)
    ·simp only[eQ,seval,f];apply sp aZ a<;>intro _ a
     ·cases a;simp only[eQ,seval];rw[ay];refine⟨_,rfl,?_⟩;refine⟨b,c,d,?_⟩;and_intros<;>first|rfl|(simp only[eQ,seval,f]<;>rfl)
     ·cases a;simp only[eQ,seval,f];rw[ay];refine⟨_,rfl,?_⟩;refine⟨b,c,d,?_⟩;and_intros<;>first|rfl|(simp only[eQ,seval,f]<;>rfl)
 ·clear a;have a:=x;simp only[eQ,seval];apply sp aZ a<;>intro _ a
  ·cases a;simp only[eQ,seval];rw[ay];refine⟨_,rfl,?_⟩;refine⟨0,0,0,?_,?_,?_,?_,?_,?_,?_⟩;all_goals (rfl)
  ·obtain⟨J,v,a⟩:=ae a;cases a;simp only[eQ,seval,v];rw[ay];refine⟨_,rfl,?_⟩;refine⟨0,0,0,?_,?_,?_,?_,?_,?_,?_⟩;all_goals (rfl)
def AX(l:Option (D×Row))(d:List D):=dx (eZ (bC ah) (dp (bC ah))) (fun x:an×an=>yp x.1 x.2) (fun r:an×Int =>.clean (.tup [.agg [.int .i64 r.1.bF.al,.sl false false r.1.bF.aa.length (aq (eI .i64) r.1.bF.aa),.int .i64 r.1.bJ.al,.sl false false r.1.bJ.aa.length (aq (eI .i64) r.1.bJ.aa)],.int .i64 r.2])) l d
def EW:Env:=(Am.ext (Am.ext (Am.ext (Am.ext bd 56 false mv) 123 false qT) 124 false lT) 125 false AU)
def Wu:bN prog EW:=((((bN.none.add D1 false).add J8 false).add CO false).add WV false)
def rO:=ai @w<|ai @kC<|ai @mv.eq_1<|ai @B4<|ai @qT.eq_1<|ai @lT.eq_1<|ai @AU.eq_1<|@EW.eq_1
def WY:b6 prog 70 AX:=b6.gO (mode:=.clean) tok Wu mixed func70 (by kernel_rfl) (fun _ _=>rfl) (fun _=>by kernel_rfl) fun⟨h,i⟩ r a=>by
 replace a:yp h i=some r:=a;apply aD rfl ntmps70 results70;simp only[gP];unfold yp at a;obtain⟨w,k,a⟩:=ae a;simp only[rO,seval,k];obtain⟨u,l,a⟩:=ae a;refine bX 0 (fun s t H e=>match s with|b=>∃c:Nat,∃d:Nat,∃f:Nat,t 2=.ptr 2 c 0∧t 3=.ptr 3 d 0∧t 4=.ptr 4 f 0∧t 21=.bool b∧H 2=rV c 41 [sN h.bF.al,sI h.bF.aa,sN h.bJ.al,sI h.bJ.aa]∧H 3=rV d 41 [sN i.bF.al,sI i.bF.aa,sN i.bJ.al,sI i.bJ.aa]∧H 4=rV f 41 [sN 0,.sl true true 0 [],sN 0,.sl true true 0 []]) (fun s=>s=u) ?_ ?_
 ·rintro b t H e ⟨c,d,f,g⟩ rfl;try dsimp only at a
  simp only[rO,seval,g];apply sp av a<;>intro _ a
  ·cases a;simp only[rO,seval,g]
  ·obtain⟨x,m,a⟩:=ae a;obtain⟨y,n,a⟩:=ae a;obtain⟨z,o,a⟩:=ae a;obtain⟨A,p,a⟩:=ae a;obtain⟨B,q,a⟩:=ae a;cases a;simp only[rO,seval,g,m,n,o,p,q]
 ·clear a;have a:=l;simp only[rO,seval];apply sp aZ a<;>intro _ a
  ·cases a;simp only[rO,seval];rw[ay];refine⟨_,rfl,?_⟩;refine⟨0,0,0,?_,?_,?_,?_,?_,?_,?_⟩;all_goals (rfl)
  ·obtain⟨v,j,a⟩:=ae a;cases a;simp only[rO,seval,j];rw[ay];refine⟨_,rfl,?_⟩;refine⟨0,0,0,?_,?_,?_,?_,?_,?_,?_⟩;all_goals (rfl)
def A1(l:Option (D×Row))(d:List D):=dx (eZ (bC wx) (eZ (aI .i64) (dp (iQ ah)))) (fun x:eL×Int×(List an)=>Bt x.1 x.2.1 x.2.2) (fun r:an =>.clean (.agg [.int .i64 r.bF.al,.sl false false r.bF.aa.length (aq (eI .i64) r.bF.aa),.int .i64 r.bJ.al,.sl false false r.bJ.aa.length (aq (eI .i64) r.bJ.aa)])) l d
def ak3{β:Type}{F:eL×Int×(List an)->Option β}{R:β->RK}(a:(List ie))(b:(List um))(c:(List (List an)))(e:Int)(d:(List an)):dx (eZ (bC wx) (eZ (aI .i64) (dp (iQ ah)))) F R none [.agg [.sl false false a.length (aq bo a),.sl false false b.length (aq ep b),.sl false false c.length (aq (fj ah) c)],.int .i64 e,.sl false false d.length (aq ah d)]=(F ((eL.mk a b c),e,d)).map fun r=>(R r,none):=cF _ _ _ ((eL.mk a b c),e,d)
def E3:Env:=(Am.ext (Am.ext (Am.ext bd 68 false AY) 69 false qW) 70 false AX)
def WA:bN prog E3:=(((bN.none.add WZ false).add Ka false).add WY false)
def pJ:=ai @w<|ai @GK<|ai @AY.eq_1<|ai @qI<|ai @qW.eq_1<|ai @AX.eq_1<|@E3.eq_1
def W4:b6 prog 28 A1:=b6.gO (mode:=.clean) tok WA mixed func28 (by kernel_rfl) (fun _ _=>rfl) (fun _=>by kernel_rfl) fun⟨F,K,L⟩ r a=>by
 replace a:Bt F K L=some r:=a;apply aD rfl ntmps28 results28;simp only[gP];unfold Bt at a;obtain⟨T,G,a⟩:=ae a;simp only[pJ,seval,G];obtain⟨N,I,a⟩:=ae a;refine az (fun s t H e=>match s with|(y,h,i,j,k)=>∃q:Nat,∃l:Nat,∃m:Nat,t 1=sN K∧t 2=sF ah L∧t 3=.ptr 3 q 0∧t 6=.ptr 6 l 0∧t 7=.ptr 7 m 0∧t 8=sN y∧H 3=rV q 54 [sF bo F.aw,sF ep F.aN,sF (fj ah) F.aM]∧H 6=rV l 41 [sN 0,.sl true true 0 [],sN 0,.sl true true 0 []]∧H 7=rV m 41 [sN h,sI i,sN j,sI k]) (fun o x t H e=>match o with|(b,d,f,g)=>x=.exit 0∧∃n:Nat,∃p:Nat,t 6=.ptr 6 n 0∧t 7=.ptr 7 p 0∧H 6=rV n 41 [sN 0,.sl true true 0 [],sN 0,.sl true true 0 []]∧H 7=rV p 41 [sN b,sI d,sN f,sI g]) I ?_ ?_ ?_
 ·refine⟨0,0,1,?_,?_,?_,?_,?_,?_,?_,?_,?_⟩;all_goals (rfl)
 ·rintro⟨y,h,i,j,k⟩ t H e ⟨q,l,m,z⟩ c a;simp only[vd]at a;simp only[pJ,seval,z];apply sp av a<;>intro _ a
  ·obtain⟨O,A,a⟩:=ae a;have u:=bh (fj ah) A;simp only[bK]at u;obtain⟨P,B,a⟩:=ae a;have v:=bh ah B;simp only[bK]at v;obtain⟨Q,C,a⟩:=ae a;have w:=bh ah C;simp only[bK]at w;obtain⟨R,D,a⟩:=ae a;simp only[pJ,seval,z,u,v,w,D];refine bA (by kernel_rfl) ?_;obtain⟨S,E,a⟩:=ae a;cases a;simp only[pJ,seval,z,E];apply gS;refine⟨q,l,m,?_⟩;and_intros<;>first|rfl|(simp only[pJ,seval,z]<;>rfl)
  ·cases a;simp only[pJ,seval];apply jf;refine⟨rfl,⟨l,m,?_,?_,?_,?_⟩⟩;all_goals ((simp only[pJ,seval,z]<;>rfl))
 ·rintro x t H e M;rcases N with⟨b,d,f,g⟩;dsimp only at M a;obtain⟨rfl,⟨n,p,J⟩⟩:=M;cases a;simp only[pJ,seval,J]
def vB(l:Option (D×Row))(d:List D):=dx (eZ (bC jK) (eZ (bC fu) (dp (iQ ah)))) (fun x:aT×fE×(List an)=>tY x.1 x.2.1 x.2.2) (fun r:an =>.clean (.agg [.int .i64 r.bF.al,.sl false false r.bF.aa.length (aq (eI .i64) r.bF.aa),.int .i64 r.bJ.al,.sl false false r.bJ.aa.length (aq (eI .i64) r.bJ.aa)])) l d
def ak4{β:Type}{F:aT×fE×(List an)->Option β}{R:β->RK}(a:(List Int))(b:(List bl))(c:Int)(d:Int)(e:(List an)):dx (eZ (bC jK) (eZ (bC fu) (dp (iQ ah)))) F R none [.agg [.sl false false a.length (aq (eI .i64) a),.sl false false b.length (aq bD b)],.agg [.int .i64 c,.int .i64 d],.sl false false e.length (aq ah e)]=(F ((aT.mk a b),(fE.mk c d),e)).map fun r=>(R r,none):=cF _ _ _ ((aT.mk a b),(fE.mk c d),e)
def Ab:Env:=(Am.ext (Am.ext bd 69 false qW) 72 false ui)
def PE:bN prog Ab:=((bN.none.add Ka false).add N1 false)
def GW:=ai @w<|ai @qI<|ai @qW.eq_1<|ai @K6<|ai @ui.eq_1<|@Ab.eq_1
def P5:b6 prog 30 vB:=b6.gO (mode:=.clean) tok PE mixed func30 (by kernel_rfl) (fun _ _=>rfl) (fun _=>by kernel_rfl) fun⟨h,i,j⟩ r a=>by
 replace a:tY h i j=some r:=a;apply aD rfl ntmps30 results30;simp only[gP];unfold tY at a;obtain⟨k,d,a⟩:=ae a;have b:=bh (eI .i64) d;simp only[bK]at b;obtain⟨l,e,a⟩:=ae a;simp only[GW,seval,b,e];refine bA (by kernel_rfl) ?_;obtain⟨m,f,a⟩:=ae a;have c:=bh ah f;simp only[bK]at c;obtain⟨n,g,a⟩:=ae a;simp only[GW,seval,c,g];refine bA (by kernel_rfl) ?_;cases a;simp only[seval]
def sd(l:Option (D×Row))(d:List D):=dx (eZ (bC yR) (eZ (iQ ah) (dp (iQ ah)))) (fun x:gK×(List an)×(List an)=>mN x.1 x.2.1 x.2.2) (fun r:Bool =>.clean (.bool r)) l d
def ak5{β:Type}{F:gK×(List an)×(List an)->Option β}{R:β->RK}(b:Int)(a:(List cN))(c:(List an))(d:(List an)):dx (eZ (bC yR) (eZ (iQ ah) (dp (iQ ah)))) F R none [.agg [.int .i64 b,.sl false false a.length (aq ch a)],.sl false false c.length (aq ah c),.sl false false d.length (aq ah d)]=(F ((gK.mk b a),c,d)).map fun r=>(R r,none):=cF _ _ _ ((gK.mk b a),c,d)
def wM:Env:=(Am.ext (Am.ext (Am.ext (Am.ext (Am.ext bd 20 false js) 73 false iZ) 74 false iM) 75 false jW) 76 false ff)
def Jf:bN prog wM:=(((((bN.none.add yV false).add yk false).add xj false).add CQ false).add si false)
def bV:=ai @w<|ai @qI<|ai @js.eq_1<|ai @LO<|ai @iZ.eq_1<|ai @ahh<|ai @iM.eq_1<|ai @ahi<|ai @jW.eq_1<|ai @UT<|ai @ff.eq_1<|@wM.eq_1
def Kd:b6 prog 31 sd:=b6.gO (mode:=.clean) tok Jf mixed func31 (by kernel_rfl) (fun _ _=>rfl) (fun _=>by kernel_rfl) fun⟨S,Z,E⟩ r a=>by
 replace a:mN S Z E=some r:=a;apply aD rfl ntmps31 results31;simp only[gP];unfold mN at a;obtain⟨r1,T,a⟩:=ae a;simp only[bV,seval,T];obtain⟨o2,U,a⟩:=ae a;refine bX 0 (fun s t H e=>match s with|i=>∃j:Nat,t 1=sF ah Z∧t 2=sF ah E∧t 3=.ptr 3 j 0∧t 28=.bool i∧H 3=rV j 66 [sN S.aC,sF ch S.bf]) (fun s=>s=o2) ?_ ?_
 ·rintro i t H e ⟨j,A⟩ rfl;try dsimp only at a
  simp only[bV,seval,A];apply sp av a<;>intro _ a
  ·cases a;simp only[bV,seval]
  ·obtain⟨D,V,a⟩:=ae a;simp only[bV,seval,A,V];obtain⟨W,F,a⟩:=ae a;refine az (fun s t H e=>match s with|b=>t 2=sF ah E∧t 31=sF gX D∧t 32=sN (D.length:Int)∧t 33=sN b) (fun o x t H e=>match o with|(.inl _)=>x=.exit 0|(.inr r)=>x=.ret∧gF .clean tab none [.tmp 6] ⟨t,EH H,e⟩=some (.clean (.bool r),none)) F ?_ ?_ ?_
   ·and_intros<;>first|rfl|(simp only[bV,seval,A]<;>rfl)
   ·rintro b t H e X c a;simp only[mO]at a;simp only[bV,seval,X];apply sp av a<;>intro _ a
    ·obtain⟨G,I,a⟩:=ae a;have k:=bh gX I;simp only[bK]at k;simp only[bV,seval,X,k];obtain⟨Y,J,a⟩:=ae a;refine az (fun s t H e=>match s with|(v,l,m,n,p)=>∃q:Nat,t 2=sF ah E∧t 7=sN b∧t 9=.ptr 9 q 0∧t 31=sF gX D∧t 32=sN (D.length:Int)∧t 33=sN b∧t 41=sF ck G.ct∧t 42=sN (G.ct.length:Int)∧t 43=sN v∧H 9=rV q 41 [sN l,sI m,sN n,sI p]) (fun o x t H e=>match o with|(d,f,g,h)=>x=.exit 2∧∃u:Nat,t 2=sF ah E∧t 7=sN b∧t 9=.ptr 9 u 0∧t 31=sF gX D∧t 32=sN (D.length:Int)∧t 33=sN b∧H 9=rV u 41 [sN d,sI f,sN g,sI h]) J ?_ ?_ ?_
     ·refine⟨e+1+1,?_⟩;and_intros<;>first|rfl|(simp only[bV,seval,X]<;>rfl)
     ·rintro⟨v,l,m,n,p⟩ t H e ⟨q,R⟩ c a;simp only[mP]at a;simp only[bV,seval,R];apply sp av a<;>intro _ a
      ·obtain⟨aa,K,a⟩:=ae a;have w:=bh ck K;simp only[bK]at w;obtain⟨ab,L,a⟩:=ae a;have y:=bh ah L;simp only[bK]at y;obtain⟨ad,M,a⟩:=ae a;simp only[bV,seval,R,w,y,M];refine bA (by kernel_rfl) ?_;cases a;apply gS;refine⟨q,?_⟩;and_intros<;>first|rfl|(simp only[bV,seval,R]<;>rfl)
      ·cases a;simp only[bV,seval];apply jf;refine⟨rfl,⟨q,?_,?_,?_,?_,?_,?_,?_⟩⟩;all_goals ((simp only[bV,seval,R]<;>rfl))
     ·rintro x t H e B;rcases Y with⟨d,f,g,h⟩;dsimp only at B a;obtain⟨rfl,⟨u,C⟩⟩:=B;obtain⟨ag,N,a⟩:=ae a;have z:=bh ah N;simp only[bK]at z;obtain⟨ai,O,a⟩:=ae a;simp only[bV,seval,k,C,z,O];refine bA (by kernel_rfl) ?_;apply sp av a<;>intro _ a
      ·cases a;simp only[bV,seval];refine tf ⟨rfl,?_⟩;simp only[bV,seval]
      ·cases a;simp only[bV,seval,C];apply gS;and_intros<;>first|rfl|(simp only[bV,seval,C]<;>rfl)
    ·cases a;simp only[bV,seval];apply jf;exact rfl
   ·rintro x t H e B;rcases W with _|rb
    ·dsimp only at B a;subst B;cases a;simp only[bV,seval]
    ·dsimp only at B a;obtain⟨rfl,hE⟩:=B;cases a;simp only[aV,bc,cw,cL];exact hE
 ·clear a;have a:=U;simp only[bV,seval];apply sp aZ a<;>intro _ a
  ·cases a;simp only[bV,seval];rw[ay];refine⟨_,rfl,?_⟩;refine⟨0,?_,?_,?_,?_,?_⟩;all_goals (rfl)
  ·obtain⟨aj,P,a⟩:=ae a;simp only[bV,seval,P];apply sp aZ a<;>intro _ a
   ·cases a;simp only[bV,seval];rw[ay];refine⟨_,rfl,?_⟩;refine⟨0,?_,?_,?_,?_,?_⟩;all_goals (rfl)
   ·obtain⟨ak,Q,a⟩:=ae a;cases a;simp only[bV,seval,Q];rw[ay];refine⟨_,rfl,?_⟩;refine⟨0,?_,?_,?_,?_,?_⟩;all_goals (rfl)
def Ej(l:Option (D×Row))(d:List D):=dx (eZ (bC jK) (dp (iQ (fj ah)))) (fun x:aT×(List (List an))=>jA x.1 x.2) (fun r:Bool =>.clean (.bool r)) l d
def rv:Env:=(Am.ext (Am.ext (Am.ext (Am.ext (Am.ext (Am.ext (Am.ext (Am.ext (Am.ext (Am.ext (Am.ext (Am.ext bd 9 false xz) 10 false AZ) 11 false A0) 12 false kn) 15 false qX) 16 false ko) 25 false vw) 26 false ug) 28 false A1) 29 false kp) 30 false vB) 31 false sd)
def DI:bN prog rv:=((((((((((((bN.none.add Uc false).add W0 false).add W2 false).add Ao false).add GD false).add Ap false).add P0 false).add NZ false).add W4 false).add Aq false).add P5 false).add Kd false)
def aB:=ai @w<|ai @sh9<|ai @xz.eq_1<|ai @US<|ai @AZ.eq_1<|ai @ak2<|ai @A0.eq_1<|ai @abL<|ai @kn.eq_1<|ai @abM<|ai @qX.eq_1<|ai @ahl<|ai @ko.eq_1<|ai @qI<|ai @vw.eq_1<|ai @ug.eq_1<|ai @ak3<|ai @A1.eq_1<|ai @kp.eq_1<|ai @ak4<|ai @vB.eq_1<|ai @ak5<|ai @sd.eq_1<|@rv.eq_1
def DY:b6 prog 7 Ej:=b6.gO (mode:=.clean) tok DI mixed func7 (by kernel_rfl) (fun _ _=>rfl) (fun _=>by kernel_rfl) fun⟨I,p1⟩ r a=>by
 replace a:jA I p1=some r:=a;apply aD rfl ntmps7 results7;simp only[gP];unfold jA at a;obtain⟨r1,bx,a⟩:=ae a;obtain⟨r2,bz,a⟩:=ae a;simp only[aB,seval,bx,bz];obtain⟨o3,bB,a⟩:=ae a;refine bX 0 (fun s t H e=>match s with|ab=>∃f:Nat,t 1=sF (fj ah) p1∧t 2=.ptr 2 f 0∧t 5=.bool r1∧t 29=.bool ab∧H 2=rV f 25 [sI I.ak,sF bD I.au]) (fun s=>s=o3) ?_ ?_
 ·rintro ab t H e ⟨f,h⟩ rfl;try dsimp only at a
  simp only[aB,seval,h];apply sp av a<;>intro _ a
  ·cases a;simp only[aB,seval,h]
  ·obtain⟨Z,bC,a⟩:=ae a;obtain⟨r6,bE,a⟩:=ae a;obtain⟨R,bF,a⟩:=ae a;simp only[aB,seval,h,bC,bE,bF];apply sp av a<;>intro _ a
   ·cases a;simp only[aB,seval,h]
   ·simp only[aB,seval];obtain⟨o9,bG,a⟩:=ae a;refine bX 0 (fun s t H e=>match s with|ad=>∃S:Nat,∃n:Nat,t 1=sF (fj ah) p1∧t 2=.ptr 2 S 0∧t 5=.bool r1∧t 6=sF (fj ah) Z.1∧t 7=sF ah Z.2.1∧t 9=sF ah r6∧t 10=.ptr 10 n 0∧t 73=.bool ad∧H 2=rV S 25 [sI I.ak,sF bD I.au]∧H 10=rV n 66 [sN R.1.aC,sF ch R.1.bf]) (fun s=>s=o9) ?_ ?_
    ·rintro ad t H e ⟨S,n,aN⟩ rfl;try dsimp only at a
     simp only[aB,seval,aN];apply sp av a<;>intro _ a
     ·cases a;simp only[aB,seval]
     ·obtain⟨bP,aS,a⟩:=ae a;obtain⟨aU,aW,aX,ax,aY⟩:=mk_one ah aS;simp only[bK]at ax;obtain⟨bQ,a1,a⟩:=ae a;obtain⟨ag,a6,a7⟩:=vC a1;replace ag:=ag.symm;subst ag;simp only[aB,seval,aN,aU,aW,aX,ax,aY,a6,a7];obtain⟨bH,a8,a⟩:=ae a;refine az (fun s t H e=>match s with|(i,ai,g)=>∃aw:Nat,∃B:Nat,∃C:Nat,∃D:Nat,t 1=sF (fj ah) p1∧t 2=.ptr 2 aw 0∧t 5=.bool r1∧t 6=sF (fj ah) Z.1∧t 7=sF ah Z.2.1∧t 9=sF ah r6∧t 10=.ptr 10 B 0∧t 12=.buf 12 C 4 0 (ai).length∧t 13=.buf 13 D 4 0 (g).length∧t 14=sN i∧H 2=rV aw 25 [sI I.ak,sF bD I.au]∧H 10=rV B 66 [sN R.1.aC,sF ch R.1.bf]∧H 12=rW C 41 (aq ah ai)∧H 13=rW D 41 (aq ah g)) (fun o x t H e=>match o with|(.inl (J,K))=>x=.exit 0∧∃L:Nat,∃M:Nat,∃N:Nat,t 5=.bool r1∧t 7=sF ah Z.2.1∧t 9=sF ah r6∧t 10=.ptr 10 L 0∧t 12=.buf 12 M 4 0 (J).length∧t 13=.buf 13 N 4 0 (K).length∧H 10=rV L 66 [sN R.1.aC,sF ch R.1.bf]∧H 12=rW M 41 (aq ah J)∧H 13=rW N 41 (aq ah K)|(.inr r)=>x=.ret∧gF .clean tab none [.tmp 4] ⟨t,EH H,e⟩=some (.clean (.bool r),none)) a8 ?_ ?_ ?_
      ·refine⟨S,n,e,e+1,?_⟩;and_intros<;>first|rfl|(simp only[aB,seval,aN]<;>rfl)
      ·rintro⟨i,ai,g⟩ t H e ⟨aw,B,C,D,Zc⟩ c a;simp only[iG]at a;simp only[aB,seval,Zc];apply sp av a<;>intro _ a
       ·obtain⟨b,ba,a⟩:=ae a;have T:=bh bD ba;simp only[bK]at T;simp only[aB,seval,Zc,T];obtain⟨bI,bb,a⟩:=ae a;refine az (fun s t H e=>match s with|(aA,aj)=>∃aa:Nat,∃j:Nat,∃k:Nat,∃l:Nat,∃m:Nat,t 1=sF (fj ah) p1∧t 2=.ptr 2 aa 0∧t 5=.bool r1∧t 6=sF (fj ah) Z.1∧t 7=sF ah Z.2.1∧t 9=sF ah r6∧t 10=.ptr 10 j 0∧t 12=.buf 12 k 4 0 (aj).length∧t 13=.buf 13 l 4 0 (g).length∧t 14=sN i∧t 15=.ptr 15 m 0∧t 16=sN aA∧H 2=rV aa 25 [sI I.ak,sF bD I.au]∧H 10=rV j 66 [sN R.1.aC,sF ch R.1.bf]∧H 12=rW k 41 (aq ah aj)∧H 13=rW l 41 (aq ah g)∧H 15=rV m 57 [sF bo b.ax.aw,sF ep b.ax.aN,sF (fj ah) b.ax.aM,sF fu b.aX,sI b.aC]) (fun o x t H e=>match o with|(.inl d)=>x=.exit 2∧∃U:Nat,∃p:Nat,∃q:Nat,∃u:Nat,∃v:Nat,t 1=sF (fj ah) p1∧t 2=.ptr 2 U 0∧t 5=.bool r1∧t 6=sF (fj ah) Z.1∧t 7=sF ah Z.2.1∧t 9=sF ah r6∧t 10=.ptr 10 p 0∧t 12=.buf 12 q 4 0 (d).length∧t 13=.buf 13 u 4 0 (g).length∧t 14=sN i∧t 15=.ptr 15 v 0∧H 2=rV U 25 [sI I.ak,sF bD I.au]∧H 10=rV p 66 [sN R.1.aC,sF ch R.1.bf]∧H 12=rW q 41 (aq ah d)∧H 13=rW u 41 (aq ah g)∧H 15=rV v 57 [sF bo b.ax.aw,sF ep b.ax.aN,sF (fj ah) b.ax.aM,sF fu b.aX,sI b.aC]|(.inr r)=>x=.ret∧gF .clean tab none [.tmp 4] ⟨t,EH H,e⟩=some (.clean (.bool r),none)) bb ?_ ?_ ?_
        ·refine⟨aw,B,C,D,e+1,?_⟩;and_intros<;>first|rfl|(simp only[aB,seval,Zc]<;>rfl)
        ·rintro⟨aA,aj⟩ t H e ⟨aa,j,k,l,m,Zf⟩ c a;simp only[iH]at a;simp only[aB,seval,Zf];apply sp av a<;>intro _ a
         ·obtain⟨bR,bd,a⟩:=ae a;have ak:=bh ep bd;simp only[bK]at ak;simp only[aB,seval,Zf,ak];apply sp av a<;>intro _ a
          ·cases a;simp only[aB,seval,Zf];apply gS;refine⟨aa,j,k,l,m,?_⟩;and_intros<;>first|rfl|(simp only[aB,seval,Zf]<;>rfl)
          ·obtain⟨bS,bf,a⟩:=ae a;have aC:=bh (eI .i64) bf;simp only[bK]at aC;obtain⟨bT,bg,a⟩:=ae a;have aE:=bh (fj ah) bg;simp only[bK]at aE;obtain⟨bU,bj,a⟩:=ae a;have aF:=bh ah bj;simp only[bK]at aF;obtain⟨bV,bk,a⟩:=ae a;have al:=bh ah bk;simp only[bK]at al;obtain⟨bW,bm,a⟩:=ae a;simp only[aB,seval,T,Zf,ak,aC,aE,aF,al,bm];refine bA (by kernel_rfl) ?_;apply sp av a<;>intro _ a
           ·cases a;simp only[aB,seval];refine tf ⟨rfl,?_⟩;simp only[aB,seval]
           ·obtain⟨bY,bn,a⟩:=ae a;have aG:=bh (fj ah) bn;simp only[bK]at aG;obtain⟨O,bp,a⟩:=ae a;obtain⟨bZ,aH,a⟩:=ae a;have aI:=bh ah aH;simp only[bK]at aI;have bq:=eN ah (x':=O) (fo:=0) (cs:=[.int .i64 O.bF.al,.sl false false O.bF.aa.length (aq (eI .i64) O.bF.aa),.int .i64 O.bJ.al,.sl false false O.bJ.aa.length (aq (eI .i64) O.bJ.aa)]) aH rfl (aov rfl);simp only[bK,Nat.add_zero]at bq;have aJ:=bq;simp only[putCells,List.length_cons,List.length_nil,an5,Nat.reduceAdd]at aJ;simp only[aB,seval,T,Zf,al,aG,bp,aI,aJ];refine bA (by kernel_rfl) ?_;cases a;apply gS;refine⟨aa,j,k,l,m,?_⟩;and_intros<;>first|rfl|(simp only[aB,seval,Zf]<;>rfl)
         ·cases a;simp only[aB,seval];apply jf;refine⟨rfl,⟨aa,j,k,l,m,?_,?_,?_,?_,?_,?_,?_,?_,?_,?_,?_,?_,?_,?_,?_,?_⟩⟩;all_goals ((simp only[aB,seval,Zf]<;>rfl))
        ·rintro x t H e hx;rcases bI with d|rf
         ·dsimp only at hx a;obtain⟨rfl,⟨U,p,q,u,v,bJ⟩⟩:=hx;simp only[aB,seval];obtain⟨bL,br,a⟩:=ae a;refine az (fun s t H e=>match s with|(aK,ao)=>∃ar:Nat,∃E:Nat,∃F:Nat,∃G:Nat,∃V:Nat,t 1=sF (fj ah) p1∧t 2=.ptr 2 ar 0∧t 5=.bool r1∧t 6=sF (fj ah) Z.1∧t 7=sF ah Z.2.1∧t 9=sF ah r6∧t 10=.ptr 10 E 0∧t 12=.buf 12 F 4 0 (d).length∧t 13=.buf 13 G 4 0 (ao).length∧t 14=sN i∧t 15=.ptr 15 V 0∧t 19=sN aK∧H 2=rV ar 25 [sI I.ak,sF bD I.au]∧H 10=rV E 66 [sN R.1.aC,sF ch R.1.bf]∧H 12=rW F 41 (aq ah d)∧H 13=rW G 41 (aq ah ao)∧H 15=rV V 57 [sF bo b.ax.aw,sF ep b.ax.aN,sF (fj ah) b.ax.aM,sF fu b.aX,sI b.aC]) (fun o x t H e=>match o with|P=>x=.exit 4∧∃W:Nat,∃w:Nat,∃y:Nat,∃A:Nat,t 1=sF (fj ah) p1∧t 2=.ptr 2 W 0∧t 5=.bool r1∧t 6=sF (fj ah) Z.1∧t 7=sF ah Z.2.1∧t 9=sF ah r6∧t 10=.ptr 10 w 0∧t 12=.buf 12 y 4 0 (d).length∧t 13=.buf 13 A 4 0 (P).length∧t 14=sN i∧H 2=rV W 25 [sI I.ak,sF bD I.au]∧H 10=rV w 66 [sN R.1.aC,sF ch R.1.bf]∧H 12=rW y 41 (aq ah d)∧H 13=rW A 41 (aq ah P)) br ?_ ?_ ?_
          ·refine⟨U,p,q,u,v,?_⟩;and_intros<;>first|rfl|(simp only[aB,seval,bJ]<;>rfl)
          ·rintro⟨aK,ao⟩ t H e ⟨ar,E,F,G,V,Zg⟩ c a;simp only[iI]at a;simp only[aB,seval,Zg];apply sp av a<;>intro _ a
           ·obtain⟨b1,aL,a⟩:=ae a;have X:=bh fu aL;simp only[bK]at X;obtain⟨b2,au,a⟩:=ae a;have Y:=bh ah au;simp only[bK]at Y;have X:=bh fu aL;simp only[bK]at X;obtain⟨b3,bs,a⟩:=ae a;obtain⟨Q,bt,a⟩:=ae a;have Y:=bh ah au;simp only[bK]at Y;have bu:=eN ah (x':=Q.1) (fo:=0) (cs:=[.int .i64 Q.1.bF.al,.sl false false Q.1.bF.aa.length (aq (eI .i64) Q.1.bF.aa),.int .i64 Q.1.bJ.al,.sl false false Q.1.bJ.aa.length (aq (eI .i64) Q.1.bJ.aa)]) au rfl (aov rfl);simp only[bK,Nat.add_zero]at bu;have aM:=bu;simp only[putCells,List.length_cons,List.length_nil,an5,Nat.reduceAdd]at aM;simp only[aB,seval,Zg,X,bs,bt,Y,aM];refine bA (by kernel_rfl) ?_;cases a;apply gS;refine⟨ar,E,F,G,V,?_⟩;and_intros<;>first|rfl|(simp only[aB,seval,Zg]<;>rfl)
           ·cases a;simp only[aB,seval];apply jf;refine⟨rfl,⟨ar,E,F,G,?_,?_,?_,?_,?_,?_,?_,?_,?_,?_,?_,?_,?_,?_⟩⟩;all_goals ((simp only[aB,seval,Zg]<;>rfl))
          ·rintro x t H e hx;obtain⟨P,rfl⟩:∃z,z=bL:=⟨_,rfl⟩;dsimp only at hx a;obtain⟨rfl,⟨W,w,y,A,bw⟩⟩:=hx;cases a;simp only[aB,seval,bw];apply gS;refine⟨W,w,y,A,?_⟩;and_intros<;>first|rfl|(simp only[aB,seval,bw]<;>rfl)
         ·dsimp only at hx a;obtain⟨rfl,hE⟩:=hx;cases a;simp only[aV,bc,cw];apply tf;first|exact⟨rfl,hE⟩|(simp only[aB,seval]at hE;exact⟨rfl,hE⟩)
       ·cases a;simp only[aB,seval];apply jf;refine⟨rfl,⟨B,C,D,?_,?_,?_,?_,?_,?_,?_,?_,?_⟩⟩;all_goals ((simp only[aB,seval,Zc]<;>rfl))
      ·rintro x t H e hx;rcases bH with⟨J,K⟩|rc
       ·dsimp only at hx a;obtain⟨rfl,⟨L,M,N,aO⟩⟩:=hx;simp only[aB,seval,aO];apply sp gj a<;>intro _ a
        ·obtain⟨bM,aP,a⟩:=ae a;simp only[aB,seval,aO,aP];apply sp gj a<;>intro _ a
         ·obtain⟨bN,aQ,a⟩:=ae a;cases a;simp only[aB,seval,aO,aQ]
         ·cases a;simp only[aB,seval]
        ·cases a;simp only[aB,seval]
       ·dsimp only at hx a;obtain⟨rfl,hE⟩:=hx;cases a;simp only[aV,bc,cw,cL];exact hE
    ·clear a;have a:=bG;simp only[aB,seval];apply sp aZ a<;>intro _ a
     ·cases a;simp only[aB,seval];rw[ay];refine⟨_,rfl,?_⟩;refine⟨f,e+1+1,?_⟩;and_intros<;>first|rfl|(simp only[aB,seval,h]<;>rfl)
     ·simp only[aB,seval,h];apply sp aZ a<;>intro _ a
      ·cases a;simp only[aB,seval];rw[ay];refine⟨_,rfl,?_⟩;refine⟨f,e+1+1,?_⟩;and_intros<;>first|rfl|(simp only[aB,seval,h]<;>rfl)
      ·simp only[aB,seval,h];apply sp aZ a<;>intro _ a
       ·cases a;simp only[aB,seval];rw[ay];refine⟨_,rfl,?_⟩;refine⟨f,e+1+1,?_⟩;and_intros<;>first|rfl|(simp only[aB,seval,h]<;>rfl)
       ·cases a;simp only[aB,seval];rw[ay];refine⟨_,rfl,?_⟩;refine⟨f,e+1+1,?_⟩;and_intros<;>first|rfl|(simp only[aB,seval,h]<;>rfl)
 ·clear a;have a:=bB;simp only[aB,seval];apply sp aZ a<;>intro _ a
  ·cases a;simp only[aB,seval];rw[ay];refine⟨_,rfl,?_⟩;refine⟨0,?_,?_,?_,?_,?_⟩;all_goals (rfl)
  ·obtain⟨bO,aR,a⟩:=ae a;cases a;simp only[aB,seval,aR];rw[ay];refine⟨_,rfl,?_⟩;refine⟨0,?_,?_,?_,?_,?_⟩;all_goals (rfl)
end Go.Proofs.YtobnihfgnbnncaaGreat.Am
namespace Go.Proofs.YtobnihfgnbnncaaGreat.Am
open Go.ChangeShapes Go.WideShapes Go.ChangeAt Go.RowKit Go.Proofs.YtobnihfgnbnncaaGreat.P
set_option maxRecDepth 100000
def Tryz.own:ownKnob Tryz.prog.godebug=none:=by kernel_rfl
def Tryz.laidOut:laidOutB prog=true:=by kernel_rfl
def LH(n:Nat):FV tab (n+1) 3 (eI .i64) (fun x=>(Lit.int .i64 x).wf=true):=opI aac rfl rfl
def aeZ(n:Nat):FV tab (n+2) 22 (fj (eI .i64)) (fun x=>(x.length*8<=140737488351232∧∀y∈x,(Lit.int .i64 y).wf=true)):=W5 Qu rfl rfl (by rw[aac];rfl) (LH n)
def CM(x:ie):Prop:=(Lit.int .i64 x.bj).wf=true∧((Lit.int .i64 x.aY).wf=true∧((Lit.int .i64 x.aR).wf=true))
def akG(n:Nat):FV tab (n+2) 83 bo (fun x=>CM x):=opS (g:=fun y=>ie.mk y.1 y.2.1 y.2.2) QC rfl rfl (fun _=>rfl) (Fs (LH n) rfl (Fs (LH n) rfl (Ui (LH n))))
def akz(n:Nat):FV tab (n+3) 51 (fj bo) (fun x=>(x.length*24<=140737488351232∧∀y∈x,CM y)):=W5 Xq rfl rfl (by rw[QC];rfl) (akG n)
def amq(n:Nat):FV tab (n+1) 9 aiM (fun x=>x.size<=140737488351232):=aku afC rfl rfl
def PW(x:um):Prop:=(Lit.int .i64 x.bj).wf=true∧((Lit.int .i64 x.aY).wf=true∧((Lit.int .i64 x.aR).wf=true∧(x.Po.size<=140737488351232)))
def akE(n:Nat):FV tab (n+2) 60 ep (fun x=>PW x):=opS (g:=fun y=>um.mk y.1 y.2.1 y.2.2.1 y.2.2.2) QA rfl rfl (fun _=>rfl) (Fs (LH n) rfl (Fs (LH n) rfl (Fs (LH n) rfl (Ui (amq n)))))
def akA(n:Nat):FV tab (n+3) 52 (fj ep) (fun x=>(x.length*40<=140737488351232∧∀y∈x,PW y)):=W5 Xr rfl rfl (by rw[QA];rfl) (akE n)
def PV(x:aF):Prop:=(Lit.int .i64 x.al).wf=true∧((x.aa.length*8<=140737488351232∧∀y∈x.aa,(Lit.int .i64 y).wf=true))
def aik(n:Nat):FV tab (n+3) 39 e9 (fun x=>PV x):=opS (g:=fun y=>aF.mk y.1 y.2) Xp rfl rfl (fun _=>rfl) (Fs (LH (n+1)) rfl (Ui (aeZ n)))
def uX(x:an):Prop:=PV x.bF∧(PV x.bJ)
def aky(n:Nat):FV tab (n+4) 41 ah (fun x=>uX x):=opS (g:=fun y=>an.mk y.1 y.2) Qy rfl rfl (fun _=>rfl) (Fs (aik n) rfl (Ui (aik n)))
def akx(n:Nat):FV tab (n+5) 27 (fj ah) (fun x=>(x.length*64<=140737488351232∧∀y∈x,uX y)):=W5 Qx rfl rfl (by rw[Qy];rfl) (aky n)
def aij(n:Nat):FV tab (n+6) 26 (fj (fj ah)) (fun x=>(x.length*24<=140737488351232∧∀y∈x,(y.length*64<=140737488351232∧∀z∈y,uX z))):=W5 Qw rfl rfl (by rw[Qx];rfl) (akx n)
def T8(x:eL):Prop:=(x.aw.length*24<=140737488351232∧∀y∈x.aw,CM y)∧((x.aN.length*40<=140737488351232∧∀y∈x.aN,PW y)∧((x.aM.length*24<=140737488351232∧∀y∈x.aM,(y.length*64<=140737488351232∧∀z∈y,uX z))))
def akB(n:Nat):FV tab (n+7) 54 wx (fun x=>T8 x):=opS (g:=fun y=>eL.mk y.1 y.2.1 y.2.2) Xs rfl rfl (fun _=>rfl) (Fs (akz (n+3)) rfl (Fs (akA (n+3)) rfl (Ui (aij n))))
def PX(x:fE):Prop:=(Lit.int .i64 x.bg).wf=true∧((Lit.int .i64 x.aR).wf=true)
def akF(n:Nat):FV tab (n+2) 72 fu (fun x=>PX x):=opS (g:=fun y=>fE.mk y.1 y.2) QB rfl rfl (fun _=>rfl) (Fs (LH n) rfl (Ui (LH n)))
def akC(n:Nat):FV tab (n+3) 55 (fj fu) (fun x=>(x.length*16<=140737488351232∧∀y∈x,PX y)):=W5 Xt rfl rfl (by rw[QB];rfl) (akF n)
def JS(x:bl):Prop:=T8 x.ax∧((x.aX.length*16<=140737488351232∧∀y∈x.aX,PX y)∧((x.aC.length*8<=140737488351232∧∀y∈x.aC,(Lit.int .i64 y).wf=true)))
def akD(n:Nat):FV tab (n+8) 57 bD (fun x=>JS x):=opS (g:=fun y=>bl.mk y.1 y.2.1 y.2.2) Qz rfl rfl (fun _=>rfl) (Fs (akB n) rfl (Fs (akC (n+4)) rfl (Ui (aeZ (n+5)))))
def akv(n:Nat):FV tab (n+9) 23 (fj bD) (fun x=>(x.length*120<=140737488351232∧∀y∈x,JS y)):=W5 Xo rfl rfl (by rw[Qz];rfl) (akD n)
def Bm(x:aT):Prop:=(x.ak.length*8<=140737488351232∧∀y∈x.ak,(Lit.int .i64 y).wf=true)∧((x.au.length*120<=140737488351232∧∀y∈x.au,JS y))
def akw(n:Nat):FV tab (n+10) 25 jK (fun x=>Bm x):=opS (g:=fun y=>aT.mk y.1 y.2) Qv rfl rfl (fun _=>rfl) (Fs (aeZ (n+7)) rfl (Ui (akv n)))
def As:acD tab 11 [25,26] (eZ (bC jK) (dp (iQ (fj ah)))) (fun x=>Bm x.1∧((x.2.length*24<=140737488351232∧∀y∈x.2,(y.length*64<=140737488351232∧∀z∈y,uX z)))):=(amp (oaS Qv rfl (akw 1)) (amo (amn Qw rfl (aij 5))))
def zc(law:∀(e:aT)(d:(List (List an))),(Bm e)->((d.length*24<=140737488351232∧∀y∈d,(y.length*64<=140737488351232∧∀z∈y,uX z)))->P.jA e d=some true)(f:Os)(a:f.Started)(H:Type)(b:TypeId×Value->H) :
  ReturnsInHanded {} Tryz.checked f 7 .any (Rows.carryGivesSpec.pre6 b prog Tryz.f7 Rows.carryGivesRow.domain false) (Rows.carryGivesSpec.post b prog Tryz.f7 false true false false):=by
 refine Xf (C:=Tryz.checked) (T:=tab) (tb:=4) (n:=11) tok Tryz.own a (by kernel_rfl) func7
  (ChangeSpec.witness6 (enc:=b) (C:=Tryz.checked) false ⟨#[],#[.agg #[.slice none 0 0,.slice none 0 0],.slice none 0 0],[]⟩ 8 (by kernel_rfl) (by kernel_rfl) (by kernel_rfl) (by kernel_rfl)) Tryz.laidOut (by kernel_rfl) rfl (by kernel_rfl) rfl (fun j c =>?_) (fun k g h =>?_)
 ·rw[Tryz.params7]at c
  match j,c with
  | [d0,d1],_=>exact⟨rfl,rfl,rfl⟩
 ·rw[Tryz.params7]at g h;exact aiY As DY (fun x i=>law x.1 x.2 i.1 i.2) k g h
set_option maxHeartbeats 4000000 in
theorem Ae(b:∀(e:aT)(c:(List (List an))),(Bm e)->((c.length*24<=140737488351232∧∀y∈c,(y.length*64<=140737488351232∧∀z∈y,uX z)))->P.jA e c=some true):Rows.CarryGivesSaid :=
 OpenClaim.holds_of_wide 7 Tryz.f7 rfl rfl rfl rfl rfl rfl rfl ⟨rfl,rfl,rfl,rfl,rfl⟩ rfl rfl rfl rfl rfl (by kernel_rfl) func7 (by kernel_rfl)
  (of_decide_eq_true (by kernel_rfl)) (by unfold Func.isWrapper;first|(rw[if_pos (by decide +kernel)];kernel_rfl)|(rw[if_neg (by decide +kernel)];exact⟨rfl,rfl⟩))
  (fun f a H d _=>zc b f a H d)
end Go.Proofs.YtobnihfgnbnncaaGreat.Am
namespace Go.Proofs.YtobnihfgnbnncaaGreat.P
open Go.RowKit
def aU(n:Nat):List Int:=if h:n=0 then [] else ((n % 1048576:Nat):Int)::aU (n / 1048576)
termination_by n
decreasing_by omega
def dv:List Int->Int
 | []=>0
 | d::l=>d+1048576*dv l
def Dg(l:List Int):Prop:=∀d∈l,0<=d∧d<1048576
def pw(i:Nat):Int:=1048576 ^ i
theorem sj:pw 0=1:=rfl
theorem mn(i:Nat):pw (i+1)=1048576*pw i:=by unfold pw;omega
def rH(i:Nat):0<pw i:=by simp_all[pw,Int.pow_pos]
theorem Kl(i j:Nat):pw (i+j)=pw i*pw j:=by unfold pw;rw[Int.pow_add]
def vY{i j:Nat}(h:i<=j):pw i<=pw j:=by
 obtain⟨k,rfl⟩:=Nat.le.dest h;rw[Kl];have a:=rH i;have b:=rH k
 calc pw i=pw i*1:=by rw[Int.mul_one]
  _<=pw i*pw k:=ao6 (by omega) (by omega)
theorem dB:aU 0=[]:=by rw[aU];rfl
theorem ss{n:Nat}(h:n≠0):aU n=((n % 1048576:Nat):Int)::aU (n / 1048576):=by rw[aU,dif_neg h]
theorem zD{n:Nat}:aU n=[]↔n=0:=by
 grind[Nat.eq_zero_or_pos,ss,dB]
theorem bt:∀n:Nat,dv (aU n)=n:=by
 intro n
 induction n using Nat.strongRecOn with
 | _ n a =>
  grind[dv,Nat.eq_zero_or_pos,dB,ss]
theorem cr:∀n:Nat,Dg (aU n):=by
 intro n
 induction n using Nat.strongRecOn with
 | _ n c =>
  rcases anm n with b|b
  ·subst b;rw[dB];intro d a;cases a
  ·rw[ss (by omega)];intro d a;rcases anc.1 a with rfl|a
   ·omega
   ·exact c (n / 1048576) (by omega) d a
def Dg.nil:Dg []:=fun d a=>by cases a
def Dg.cons{d:Int}{l:List Int}(h:Dg (d::l)):(0<=d∧d<1048576)∧Dg l:=⟨h d aoi,fun x a=>h x (aoj _ a)⟩
def Dg.mk{d:Int}{l:List Int}(h:0<=d∧d<1048576)(b:Dg l):Dg (d::l):=fun x a=>by
 rcases anc.1 a with rfl|a
 ·exact h
 ·exact b x a
def Dg.append{l m:List Int}(h:Dg l)(a:Dg m):Dg (l++m):=fun x b=>(aoh.1 b).elim (h x) (a x)
def Dg.take{l:List Int}(h:Dg l)(n:Nat):Dg (l.take n):=fun x a=>h x (anK a)
def Dg.drop{l:List Int}(h:Dg l)(n:Nat):Dg (l.drop n):=fun x a=>h x (anI a)
def Dg.rep(n:Nat):Dg (List.replicate n 0):=fun x a=>by simp_all
def Dg.set{l:List Int}(h:Dg l)(i:Nat){x:Int}(b:0<=x∧x<1048576):Dg (l.set i x):=fun y a=>by
 rcases List.mem_or_eq_of_mem_set a with a|rfl
 ·exact h y a
 ·exact b
def Dg.get{l:List Int}(h:Dg l){i:Nat}(a:i<l.length):0<=l[i]∧l[i]<1048576:=h _ (ani a)
def dL:∀{l:List Int},Dg l->0<=dv l
 | [],_=>Int.le_refl _
 | d::l,h=>by
  have a:=h.cons;have:=dL a.2;simp only[dv];omega
def td:∀{l:List Int},Dg l->dv l<pw l.length
 | [],_=>by simp[dv,sj]
 | d::l,h=>by
  have a:=h.cons;have:=td a.2;grind[dv,List.length_cons,mn]
theorem iF:∀l m:List Int,dv (l++m)=dv l+pw l.length*dv m
 | [],m=>by simp[dv,sj]
 | d::l,m=>by
  rw[aoJ,dv,dv,iF l m,anO,mn,ao7,ao8];omega
def Et:∀n:Nat,dv (List.replicate n 0)=0
 | 0=>rfl
 | n+1=>by rw[anU,dv,Et n];rfl
theorem iT{l:List Int}{i:Nat}(h:i<l.length):dv (l.take (i+1))=dv (l.take i)+pw i*l[i]:=by
 have e:l.take (i+1)=l.take i++[l[i]]:=by simp_all
 grind[dv,iF,List.length_take,Nat.min_eq_left]
theorem lI(l:List Int){i:Nat}(h:i<=l.length):dv l=dv (l.take i)+pw i*dv (l.drop i):=by
 have:=iF (l.take i) (l.drop i);simp_all
def xU{l:List Int}{i:Nat}(h:i<l.length)(x:Int):dv (l.set i x)=dv l+pw i*(x-l[i]):=by
 induction l generalizing i with
 | nil=>simp at h
 | cons d l a =>
  cases i with
  | zero=>grind[dv,sj]
  | succ i =>
   grind[dv,mn,Int.mul_add,Int.mul_assoc]
def Hr:∀{l:List Int},Dg l->(∀h:l≠[],l.getLast h≠0)->aU (dv l).toNat=l
 | [],_,_=>by simp[dv,dB]
 | d::l,h,j=>by
  have a:=h.cons;have k:=dL a.2;have b:(dv (d::l)).toNat≠0:=by
   simp only[dv];intro n;have c:d=0:=by omega
   have o:dv l=0:=by omega
   cases l with
   | nil=>simp_all
   | cons e m =>
    have p:=Hr a.2 (fun f=>by simp_all);grind[dB]
  rw[ss b];have g:(dv (d::l)).toNat % 1048576=d.toNat:=by simp only[dv];omega
  have i:(dv (d::l)).toNat / 1048576=(dv l).toNat:=by simp only[dv];omega
  rw[g,i];have c:(d.toNat:Int)=d:=by omega
  rw[c];cases l with
  | nil=>simp[dv,dB]
  | cons e m=>rw[Hr a.2 (fun f=>by simp_all)]
theorem aaH:∀(n:Nat)(h:aU n≠[]),(aU n).getLast h≠0:=by
 intro n
 induction n using Nat.strongRecOn with
 | _ n a =>
  grind[aU,zD,ss,dB]
theorem adq{a b:Nat}(h:aU a=aU b):a=b:=by
 have:=congrArg dv h;grind[bt]
def j8{n k:Nat}(h:(n:Int)<pw k):(aU n).length<=k:=by
 induction k generalizing n with
 | zero =>
  grind[sj,dB]
 | succ k b =>
  by_cases a:n=0
  ·rw[a,dB];simp
  grind[ss,List.length_cons,mn]
def iO(n:Nat):(n:Int)<pw (aU n).length:=by
 have:=td (cr n)
 rwa [bt]at this
def Dn{n:Nat}(h:n≠0):pw ((aU n).length-1)<=n∧0<(aU n).length:=by
 induction n using Nat.strongRecOn with
 | _ n a =>
  rw[ss h,anO];refine⟨?_,by omega⟩
  by_cases b:n / 1048576=0
  ·grind[dB,sj]
  ·obtain⟨c,d⟩:=a (n / 1048576) (by omega) b;grind[aU,mn]
def zp{x:Int}(a : -9223372036854775808<=x)(b:x<9223372036854775808):nR .and .i64 x 1048575=x % 1048576:=by
 unfold nR;simp only;have c:(BitVec.ofInt IntKind.i64.bits x &&& BitVec.ofInt IntKind.i64.bits 1048575).toNat=((x % 18446744073709551616).toNat) % 1048576:=by
  rw[BitVec.toNat_and,BitVec.toNat_ofInt,BitVec.toNat_ofInt];have e:((1048575:Int) % ((2 ^ IntKind.i64.bits:Nat):Int)).toNat=2 ^ 20-1:=by decide
  rw[e,ao9];rfl
 grind[wrap64]
def age{x:Int}(a : -9223372036854775808<=x)(b:x<9223372036854775808):nR .and .i64 x 1=x % 2:=by
 grind[nR,BitVec.ofInt,BitVec.toNat_and,BitVec.toNat_ofInt,Nat.and_two_pow_sub_one_eq_mod,wrap64]
def UW(x:Int):CZ .i64 x 20=some (x / 1048576):=by
 unfold CZ;rw[if_neg (by decide)];have e:(2:Int) ^ (min (Int.toNat 20) IntKind.i64.bits)=1048576:=by decide
 grind
def afe{x:Int}(a:0<=x)(h:x<8796093022208):LP .i64 x 20=some (1048576*x):=by
 unfold LP;rw[if_neg (by decide)];have e:(2:Int) ^ (min (Int.toNat 20) IntKind.i64.bits)=1048576:=by decide
 grind[wrap64,Int.mul_comm]
def W6{x y:Int}(b:0<=x)(h:x<8796093022208)(c:0<=y∧y<1048576):nR .or .i64 (1048576*x) y=1048576*x+y:=by
 unfold nR;simp only;have a:(BitVec.ofInt IntKind.i64.bits (1048576*x) ||| BitVec.ofInt IntKind.i64.bits y).toNat=1048576*x.toNat+y.toNat:=by
  rw[BitVec.toNat_or,BitVec.toNat_ofInt,BitVec.toNat_ofInt];have e:((2 ^ IntKind.i64.bits:Nat):Int)=18446744073709551616:=by decide
  rw[e];have d:((1048576*x) % 18446744073709551616).toNat=x.toNat <<< 20:=by omega
  grind[Nat.shiftLeft_add_eq_or_of_lt,Nat.shiftLeft_eq]
 rw[a,wrap64 (by omega) (by omega)];omega
theorem mk0{n:Nat}(h:n<=17592186044416):Ha 8 (n:Int) (n:Int) (0:Int)=some (List.replicate n 0):=by
 unfold Ha;rw[if_pos]
 ·simp
 grind[maxLen]
theorem y7{l m:List Int}(h:l.length+m.length<=17592186044416):me 8 l m=some (l++m):=by
 grind[me,maxLen]
def dq{σ ρ:Type}{body:σ->Option (σ⊕ρ)}(I:Nat->σ->Prop)(n:Nat)(Q:ρ->Prop){s:σ}(c:I 0 s)(d:n+1<FU)
  (a:∀i s,i<=n->I i s->(i<n∧∃b,body s=some (.inl b)∧I (i+1) b)∨(∃r,body s=some (.inr r)∧Q r)):∃r,aO body s=some r∧Q r:=by
 have key:∀(k i:Nat)(s:σ),i<=n->n-i<k->I i s->∃r,uR body k s=some r∧Q r:=by
  intro k
  induction k with
  | zero=>omega
  | succ k e =>
   grind[uR]
 exact key FU 0 s (am7 _) (by omega) c
theorem ZG(i:Nat)(x:Int):pw (i+1)*x=pw i*(1048576*x):=by grind[pw,mn,Int.mul_comm,Int.mul_assoc]
theorem yn(i:Nat)(t:Int):pw i*(t % 1048576)+pw (i+1)*(t / 1048576)=pw i*t:=by
 grind[ZG,Int.mul_add]
def ky{n:Nat}(h:n<=17592186044416):n+1<FU:=by unfold FU;omega
abbrev Fit(l:List Int):Prop:=l.length<=17592186044416
theorem jQ{x:Int}(h : -4611686018427387904<=x∧x<=4611686018427387904):IntKind.i64.wrap x=x:=wrap64 (by omega) (by omega)
theorem qm{α:Type}(o:Option α):(o.bind fun r=>some r)=o:=by cases o<;>rfl
def OH{l:List Int}(b:Fit l):∃r,aO (pq l) (l.length:Int)=some r∧∃k:Nat,r=k∧k<=l.length∧(∀j (c:j<l.length),k<=j->l[j]=0)∧(∀h:0<k,∀d:k-1<l.length,l[k-1]≠0):=by
 unfold Fit at b;refine dq (I:=fun i s=>s=((l.length-i:Nat):Int)∧(∀j (c:j<l.length),l.length-i<=j->l[j]=0)) l.length _ ⟨rfl,fun j c h=>by omega⟩ (ky b) ?_;rintro i s m ⟨rfl,f⟩;generalize d:l.length-i=k at *;simp only[pq]
 by_cases g:0<k
 ·have a:k-1<l.length:=by omega
  have e:IntKind.i64.wrap ((k:Int)-1)=((k-1:Nat):Int):=by rw[jQ (by omega)];omega
  rw[if_pos (by simp;omega),e,cW a,aoo]
  by_cases n:l[k-1]=0
  ·left;grind
  grind
 ·right;exact⟨_,by simp_all,k,rfl,by omega,f,fun h=>absurd h g⟩
theorem adK{l:List Int}{k:Nat}(a:∀j (b:j<l.length),k<=j->l[j]=0):dv (l.drop k)=0:=by
 have:l.drop k=List.replicate (l.drop k).length 0:=by
  grind[List.eq_replicate_of_mem,List.mem_iff_getElem]
 rw[this,Et]
theorem yG{l:List Int}(b:Fit l)(c:Dg l):fF l=some (aU (dv l).toNat):=by
 obtain⟨r,d,k,rfl,e,h,a⟩:=OH b;unfold fF;rw[d,aoo,ZN e,aoo];congr 1;have f:dv l=dv (l.take k):=by grind[lI,adK]
 rw[f];refine (Hr (c.take k) fun g =>?_).symm;grind
def HC{l:List Int}{n:Nat}(a:Fit l)(b:Dg l)(c:dv l=n):fF l=some (aU n):=by
 rw[yG a b,c];rfl
def gd(l:List Int)(i:Nat):Int:=if h:i<l.length then l[i] else 0
def Gt{l:List Int}(h:Dg l)(i:Nat):0<=gd l i∧gd l i<1048576:=by
 unfold gd;split
 ·exact h.get _
 ·omega
def se{l:List Int}(i:Nat):dv (l.take (i+1))=dv (l.take i)+pw i*gd l i:=by
 grind[gd,iT,List.take_of_length_le]
def CE{l:List Int}{i:Nat}(h:l.length<=i):dv (l.take i)=dv l:=by rw[aoF h]
def acN{a b:List Int}(q:Dg a)(t:Dg b)(B:a.length<17592186044416)(u:b.length<=a.length) :
  ∃r,aO (uu a b) (0,0,List.replicate (a.length+1) 0)=some r∧r.2.length=a.length+1∧Dg r.2∧(∀j (f:j<r.2.length),a.length<=j->r.2[j]=0)∧(0<=r.1∧r.1<=1)∧dv r.2+pw a.length*r.1=dv a+dv b:=by
 refine dq (I:=fun i s=>s.2.1=(i:Int)∧s.2.2.length=a.length+1∧Dg s.2.2∧(∀j (f:j<s.2.2.length),i<=j->s.2.2[j]=0)∧(0<=s.1∧s.1<=1)∧dv s.2.2+pw i*s.1=dv (a.take i)+dv (b.take i))
  a.length _ ⟨rfl,by simp,Dg.rep _,fun j f _=>by simp,by simp,by simp[Et,dv]⟩ (ky (by omega)) ?_
 rintro i ⟨c,s,l⟩ C ⟨m,n,o,p,v,w⟩;simp only at m n o p v w;subst m;simp only[uu]
 by_cases d:i<a.length
 ·left;rw[if_pos (by simpa using d),cW d,aoo];have D:=q.get d;have E:=Gt t i;have x:(if decide ((i:Int)<(b.length:Int))=true then (P.idx b (i:Int)).bind fun g=>some (IntKind.i64.wrap ((IntKind.i64.wrap (c+a[i]))+g)) else some (IntKind.i64.wrap (c+a[i])))=some (c+a[i]+gd b i):=by
   by_cases e:i<b.length
   ·rw[if_pos (by simpa using e),cW e,aoo];have:gd b i=b[i]:=by unfold gd;rw[dif_pos e]
    grind[jQ]
   ·rw[if_neg (by simpa using e)];have:gd b i=0:=by unfold gd;rw[dif_neg e]
    rw[this,jQ (by omega)];simp
  rw[x,aoo,cW (by omega),aoo,UW,aoo,zp (by omega) (by omega)];have h:l[i]=0:=p i (by omega) (am6 _);have y:IntKind.i64.wrap ((i:Int)+1)=((i+1:Nat):Int):=by rw[jQ (by omega)];omega
  refine⟨d,_,rfl,y,by simpa using n,o.set _ (by omega),fun j f z =>?_,by simp only;omega,?_⟩
  ·grind
  ·simp only[Int.toNat_natCast];rw[xU (by omega),h,se,se];have k:gd a i=a[i]:=by unfold gd;rw[dif_pos d]
   rw[k];have F:=yn i (c+a[i]+gd b i);grind
 ·right;have A:i=a.length:=by omega
  simp_all[if_neg,CE,am6]
def add_eq{a b:List Int}(k:Dg a)(m:Dg b)(f:a.length<17592186044416)(p:b.length<17592186044416):vE a b=some (aU (dv a+dv b).toNat):=by
 have n:∀{a b:List Int},Dg a->Dg b->a.length<17592186044416->b.length<=a.length ->
   ((Ha 8 (IntKind.i64.wrap ((a.length:Int)+1)) (IntKind.i64.wrap ((a.length:Int)+1)) 0).bind fun r =>
    (aO (uu a b) (0,0,r)).bind fun q=>match q with
    | (g,d) =>
     (P.idx d (a.length:Int)).bind fun s =>
     (fF (d.set ((a.length:Int)).toNat g)).bind fun h =>
     some h)=some (aU (dv a+dv b).toNat):=by
  intro a b k m f i;have e:IntKind.i64.wrap ((a.length:Int)+1)=((a.length+1:Nat):Int):=by rw[jQ (by omega)];omega
  rw[e,mk0 (by omega),aoo];obtain⟨⟨c,l⟩,t,u,o,v,w,x⟩:=acN k m f i;rw[t];simp only[Option.bind_some]at u o v w x ⊢;have j:a.length<l.length:=by omega
  rw[cW j,aoo,anY,qm];have y:dv (l.set a.length c)=dv a+dv b:=by
   simp_all[xU,am6,Int.sub_zero]
  rw[yG (by simp[Fit];omega) (o.set _ (by omega)),y]
 unfold vE;grind
theorem zA{l:List Int}(h:Fit l):cy l=some l:=by
 grind[cy,y7]
theorem SG{l:List Int}{i:Nat}(h:i<l.length):gd l i=l[i]:=by unfold gd;rw[dif_pos h]
theorem I2{l:List Int}{i:Nat}(h:l.length<=i):gd l i=0:=by unfold gd;grind
def afu{a b:List Int}(t:Dg a)(w:Dg b)(x:Fit a)(m:b.length<=a.length)(y:dv b<=dv a) :
  ∃l,aO (xQ b a) (0,0,a)=some l∧l.length=a.length∧Dg l∧dv l=dv a-dv b:=by
 unfold Fit at x;refine dq (I:=fun i s=>s.2.1=(i:Int)∧s.2.2.length=a.length∧Dg s.2.2∧(∀j (u:j<s.2.2.length) (n:j<a.length),i<=j->s.2.2[j]=a[j])∧(0<=s.1∧s.1<=1)∧dv s.2.2+dv (b.take i)=dv a+pw i*s.1)
  a.length _ ⟨rfl,rfl,t,fun j u _ _=>rfl,by simp,by simp[dv]⟩ (ky (by omega)) ?_
 rintro i ⟨c,s,l⟩ E ⟨g,h,k,o,z,v⟩;simp only at g h k o z v;subst g;simp only[xQ]
 by_cases d:i<a.length
 ·left;have e:i<l.length:=by omega
  rw[if_pos (by simpa using d),cW e,aoo,o i e d (am6 _)];have F:=t.get d;have G:=Gt w i;have A:(if decide ((i:Int)<(b.length:Int))=true then (P.idx b (i:Int)).bind fun p=>some (IntKind.i64.wrap ((IntKind.i64.wrap (a[i]-c))-p)) else some (IntKind.i64.wrap (a[i]-c)))=some (a[i]-c-gd b i):=by
   by_cases f:i<b.length
   ·rw[if_pos (by simpa using f),cW f,aoo];grind[SG,jQ]
   ·rw[if_neg (by simpa using f),I2 (by omega),jQ (by omega)];simp
  rw[A,aoo,UW,aoo,zp (by omega) (by omega),age (by omega) (by omega)];have B:IntKind.i64.wrap ((i:Int)+1)=((i+1:Nat):Int):=by rw[jQ (by omega)];omega
  refine⟨d,_,rfl,B,by simpa using h,k.set _ (by omega),fun j u n C =>?_,by simp only;omega,?_⟩
  ·grind
  ·simp only[Int.toNat_natCast];rw[xU e,o i e d (am6 _),se];have H:=yn i (a[i]-c-gd b i);have D:(a[i]-c-gd b i) / 1048576 % 2 = - ((a[i]-c-gd b i) / 1048576):=by omega
   grind
 ·right;have q:i=a.length:=by omega
  subst q;refine⟨l,by simp_all,h,k,?_⟩;rw[CE m]at v;have g:=td k;rw[h]at g;have r:c=0:=by
   grind
  subst r;omega
def sub_eq{a b:List Int}(e:Dg a)(f:Dg b)(g:Fit a)(c:b.length<=a.length)(d:dv b<=dv a):vF a b=some (aU (dv a-dv b).toNat):=by
 obtain⟨l,h,i,j,k⟩:=afu e f g c d;grind[vF,zA,qm,yG]
theorem nc{l:List Int}{i:Nat}(h:i<l.length):dv (l.drop i)=l[i]+1048576*dv (l.drop (i+1)):=by
 rw[aoO h,dv]
def adu{x d:Int}(h:0<=x)(a:0<d)(b:x<4611686018427387904):Ep .i64 x d=some (x / d):=by
 unfold Ep;rw[if_neg (by omega),Int.tdiv_eq_ediv_of_nonneg h,jQ];have:=apa h (Int.le_of_lt a);have:=Int.ediv_le_self d h;omega
def agX{x d:Int}(h:0<=x)(a:0<d):JE .i64 x d=some (x % d):=by
 unfold JE;grind
def Xj{a:List Int}{d:Int}(t:Dg a)(e:0<d∧d<=1048576)(u:Fit a) :
  ∃r,aO (tC a d) (0,IntKind.i64.wrap ((a.length:Int)-1),List.replicate a.length 0)=some r∧r.2.length=a.length∧Dg r.2∧(0<=r.1∧r.1<d)∧dv a=d*dv r.2+r.1:=by
 unfold Fit at u;have v:IntKind.i64.wrap ((a.length:Int)-1)=(a.length:Int)-1:=jQ (by omega);rw[v];refine dq (I:=fun i s=>s.2.1=((a.length-i:Nat):Int)-1∧s.2.2.length=a.length∧Dg s.2.2∧(0<=s.1∧s.1<d)∧dv (a.drop (a.length-i))=d*dv (s.2.2.drop (a.length-i))+s.1)
  a.length _ ⟨rfl,by simp,Dg.rep _,by simp;omega,by simp[dv]⟩ (ky (by omega)) ?_
 rintro i ⟨r,s,l⟩ z ⟨n,o,p,w,q⟩;simp only at n o p w q;subst n;generalize A:a.length-i=k at *;simp only[tC]
 by_cases B:0<k
 ·left;have b:k-1<a.length:=by omega
  have c:k-1<l.length:=by omega
  have x:((k:Int)-1)=((k-1:Nat):Int):=by omega
  have y:=t.get b;rw[x,if_pos (by simp),afe (by omega) (by omega),aoo,cW b,aoo,W6 (by omega) (by omega) y,adu (by omega) e.1 (by omega),aoo,cW c,aoo,agX (by omega) e.1,aoo];have C:IntKind.i64.wrap (((k-1:Nat):Int)-1)=((k-1:Nat):Int)-1:=jQ (by omega);have f:0<=1048576*r+a[k-1]:=by omega
  have g:0<=(1048576*r+a[k-1]) / d:=apa f (by omega);have h:(1048576*r+a[k-1]) / d<1048576:=by
   apply apb e.1;omega
  have j:=Int.emod_nonneg (1048576*r+a[k-1]) (show d≠0 by omega);have m:=apc (1048576*r+a[k-1]) e.1;refine⟨by omega,_,rfl,by grind,by simpa using o,p.set _ ⟨g,h⟩,⟨j,m⟩,?_⟩;simp only[Int.toNat_natCast];rw[show a.length-(i+1)=k-1 by omega,nc b,nc (l:=l.set (k-1) _) (i:=k-1) (by simpa using c),show k-1+1=k by omega,List.getElem_set_self,List.drop_set_of_lt (by omega),q];have:=apd (1048576*r+a[k-1]) d;grind
 simp_all
def UU{a:List Int}{d:Int}(g:Dg a)(h:0<d∧d<=1048576)(c:Fit a):q8 a d=some (aU (dv a / d).toNat,dv a % d):=by
 obtain⟨⟨r,l⟩,i,j,e,b,f⟩:=Xj g h c;unfold q8;rw[mk0 c,aoo,i,aoo];simp only at j e b f ⊢;rw[yG (by omega) e,aoo];have k:dv a / d=dv l:=by
  rw[f,Int.mul_comm,Int.add_comm,Int.add_mul_ediv_right _ _ (by omega),Int.ediv_eq_zero_of_lt b.1 b.2];omega
 simp_all[dv,Int.mul_comm,Int.add_comm,Int.add_mul_emod_self_right,Int.emod_eq_of_lt]
def abu{b l0:List Int}{x:Int}{i n:Nat}(p:Dg b)(q:0<=x∧x<1048576)(t:Dg l0)(u:l0.length=n)(E:i+b.length<n)(F:n<=17592186044416)(e:∀j (f:j<l0.length),i+b.length<=j->l0[j]=0) :
  ∃r,aO (xP b (i:Int) x) (0,0,l0)=some r∧r.2.length=n∧Dg r.2∧(0<=r.1∧r.1<1048576)∧(∀j (f:j<r.2.length),i+b.length<=j->r.2[j]=0)∧dv r.2+pw (i+b.length)*r.1=dv l0+pw i*(x*dv b):=by
 refine dq (I:=fun k s=>s.2.1=(k:Int)∧s.2.2.length=n∧Dg s.2.2∧(0<=s.1∧s.1<1048576)∧(∀j (f:j<s.2.2.length),i+b.length<=j->s.2.2[j]=0)∧dv s.2.2+pw (i+k)*s.1=dv l0+pw i*(x*dv (b.take k)))
  b.length _ ⟨rfl,u,t,by simp,e,by simp[dv]⟩ (ky (by omega)) ?_
 rintro k ⟨c,s,l⟩ G ⟨h,m,g,v,e,w⟩;simp only at h m g v e w;subst h;simp only[xP]
 by_cases a:k<b.length
 ·left;have d:i+k<l.length:=by omega
  have y:IntKind.i64.wrap ((i:Int)+(k:Int))=((i+k:Nat):Int):=by rw[jQ (by omega)];omega
  have o:=p.get a;have H:=g.get d;have z:0<=x*b[k]:=ape q.1 o.1;have A:x*b[k]<=1048575*1048575:=apf (by omega) (by omega) o.1 (by omega);rw[if_pos (by simpa using a),cW a,aoo,y,cW d,aoo,jQ (x:=x*b[k]) (by omega),jQ (x:=l[i+k]+x*b[k]) (by omega),jQ (x:=l[i+k]+x*b[k]+c) (by omega),UW,aoo,zp (by omega) (by omega)];have B:IntKind.i64.wrap ((k:Int)+1)=((k+1:Nat):Int):=by rw[jQ (by omega)];omega
  refine⟨a,_,rfl,B,by simpa using m,g.set _ (by omega),by simp only;omega,fun j f C =>?_,?_⟩
  ·grind
  ·simp only[Int.toNat_natCast];rw[xU d,iT a];have J:=yn (i+k) (l[i+k]+x*b[k]+c);grind[pw,dv,Int.mul_add,Kl]
 ·right;have D:k=b.length:=by omega
  simp_all
def abt{a b:List Int}(u:Dg a)(v:Dg b)(w:a.length+b.length<=17592186044416) :
  ∃l,aO (xO a b) (0,List.replicate (a.length+b.length) 0)=some l∧l.length=a.length+b.length∧Dg l∧dv l=dv a*dv b:=by
 refine dq (I:=fun i s=>s.1=(i:Int)∧s.2.length=a.length+b.length∧Dg s.2∧(∀j (f:j<s.2.length),i+b.length<=j->s.2[j]=0)∧dv s.2=dv (a.take i)*dv b)
  a.length _ ⟨rfl,by simp,Dg.rep _,fun j f _=>by simp,by simp[dv,Et]⟩ (ky (by omega)) ?_
 rintro i ⟨s,l⟩ F ⟨g,h,k,o,y⟩;simp only at g h k o y;subst g;simp only[xO]
 by_cases d:i<a.length
 ·left;have z:=u.get d;obtain⟨⟨c,m⟩,A,p,q,r,t,B⟩:=abu (i:=i) (n:=a.length+b.length) v z k h (by omega) w o;rw[if_pos (by simpa using d),cW d,aoo,A,aoo];simp only at p q r t B ⊢;have C:IntKind.i64.wrap ((i:Int)+(b.length:Int))=((i+b.length:Nat):Int):=by rw[jQ (by omega)];omega
  have e:i+b.length<m.length:=by omega
  rw[C,cW e,aoo,t _ e (am6 _),Int.zero_add,jQ (x:=c) (by omega)];have D:IntKind.i64.wrap ((i:Int)+1)=((i+1:Nat):Int):=by rw[jQ (by omega)];omega
  refine⟨d,_,rfl,D,by simpa using p,q.set _ r,fun j f E =>?_,?_⟩
  ·grind
  ·simp only[Int.toNat_natCast];simp_all[xU,am6,Int.sub_zero,iT,Int.add_mul,ao8]
 grind
def mul_eq{a b:List Int}(c:Dg a)(d:Dg b)(e:a.length+b.length<=17592186044416):tz a b=some (aU (dv a*dv b).toNat):=by
 obtain⟨l,f,g,h,i⟩:=abt c d e;unfold tz;grind[jQ,mk0,qm,yG]
def mY(x y:Int):Int:=if x<y then -1 else if y<x then 1 else 0
def En(x y:Int):iu x y=some (mY x y):=by
 grind[iu,tT,mY]
theorem RN{a b:List Int}(e:Dg a)(f:Dg b)(g:Fit a)(w:a.length=b.length):jb a b=some (mY (dv a) (dv b)):=by
 unfold Fit at g;unfold jb;rw[if_neg (by simp;omega)];have o:IntKind.i64.wrap ((a.length:Int)-1)=(a.length:Int)-1:=jQ (by omega);rw[o];have key:∃r,aO (pX a b) ((a.length:Int)-1)=some r∧(match r with | .inl _=>mY (dv a) (dv b)=0 | .inr x=>x=mY (dv a) (dv b)):=by
  refine dq (I:=fun i s=>s=((a.length-i:Nat):Int)-1∧a.drop (a.length-i)=b.drop (a.length-i)) a.length _ ⟨rfl,?_⟩ (ky g) ?_
  ·simp_all
  rintro i s y ⟨rfl,p⟩;generalize z:a.length-i=k at *;simp only[pX]
  by_cases A:0<k
  ·have h:k-1<a.length:=by omega
   have j:k-1<b.length:=by omega
   have q:((k:Int)-1)=((k-1:Nat):Int):=by omega
   rw[q,if_pos (by simp),cW h,aoo,cW j,aoo]
   by_cases c:a[k-1]=b[k-1]
   ·left;rw[if_neg (by simpa using c)];grind[jQ,List.drop_eq_getElem_cons]
   ·right;rw[if_pos (by simpa using c),En,aoo];refine⟨_,rfl,?_⟩;simp only;have l:=lI a (i:=k) (by omega);have t:=lI b (i:=k) (by omega);have m:=iT h;have n:=iT j;rw[show k-1+1=k by omega]at m n;have u:=td (e.take (k-1));have v:=td (f.take (k-1));rw[ann,aoX (by omega)]at u v;have B:=dL (e.take (k-1));have C:=dL (f.take (k-1));have D:=rH (k-1);rw[m]at l;rw[n]at t;rw[p]at l;unfold mY;rcases Int.lt_or_gt_of_ne c with d|d
    ·have:pw (k-1)*a[k-1]+pw (k-1)<=pw (k-1)*b[k-1]:=by
      have:pw (k-1)*(a[k-1]+1)<=pw (k-1)*b[k-1]:=ao6 (by omega) (by omega);grind
     omega
    ·have:pw (k-1)*b[k-1]+pw (k-1)<=pw (k-1)*a[k-1]:=by
      have:pw (k-1)*(b[k-1]+1)<=pw (k-1)*a[k-1]:=ao6 (by omega) (by omega);grind
     omega
  simp_all[mY,aoE]
 grind
def zC{m n:Nat}(h:(aU m).length<(aU n).length):m<n:=by
 have b:=iO m;have a:n≠0:=fun c=>by grind[dB]
 have d:=Dn a;have e:=vY (i:=(aU m).length) (j:=(aU n).length-1) (by omega);omega
def cQ{m n:Nat}(h:m<=n):(aU m).length<=(aU n).length:=by
 rcases anL (aU n).length (aU m).length with h1|h1
 ·have:=zC h1;omega
 ·exact h1
def Cg{m n:Nat}(b:Fit (aU m))(c:Fit (aU n)):jb (aU m) (aU n)=some (mY m n):=by
 by_cases a:(aU m).length=(aU n).length
 ·grind[RN,cr,bt]
 ·unfold jb;rw[if_pos (by simp;omega),En,qm];unfold mY;rcases Nat.lt_or_gt_of_ne a with h|h
  ·simp_all[zC]
  ·have:=zC h;grind
def Qj{u v:List Int}{g:Int}(m:Dg u)(t:Dg v)(w:0<=g∧g<=1048576)(y:Fit u)(H:v.length<=u.length) :
  ∃r,aO (oH u v g) (0,0,u)=some r∧r.2.length=u.length∧Dg r.2∧(0<=r.1∧r.1<=1048576)∧dv r.2+g*dv v=dv u+pw u.length*r.1:=by
 unfold Fit at y;refine dq (I:=fun i s=>s.2.1=(i:Int)∧s.2.2.length=u.length∧Dg s.2.2∧(∀j (n:j<s.2.2.length) (f:j<u.length),i<=j->s.2.2[j]=u[j])∧(0<=s.1∧s.1<=1048576)∧dv s.2.2+g*dv (v.take i)=dv u+pw i*s.1)
  u.length _ ⟨rfl,rfl,m,fun j n _ _=>rfl,by simp,by simp[dv]⟩ (ky (by omega)) ?_
 rintro i ⟨c,s,l⟩ J ⟨o,e,p,h,z,A⟩;simp only at o e p h z A;subst o;simp only[oH]
 by_cases a:i<u.length
 ·left;have b:i<l.length:=by omega
  rw[if_pos (by simpa using a),cW b,aoo,h i b a (am6 _)];have K:=m.get a;have q:=Gt t i;have B:0<=g*gd v i:=ape w.1 q.1;have C:g*gd v i<=1048576*1048575:=apf (by omega) (by omega) q.1 (by omega);have D:(if decide ((i:Int)<(v.length:Int))=true then (P.idx v (i:Int)).bind fun k=>some (IntKind.i64.wrap ((IntKind.i64.wrap (u[i]-c))-(IntKind.i64.wrap (g*k)))) else some (IntKind.i64.wrap (u[i]-c)))=some (u[i]-c-g*gd v i):=by
   by_cases d:i<v.length
   ·rw[if_pos (by simpa using d),cW d,aoo];grind[SG,jQ]
   ·rw[if_neg (by simpa using d),I2 (by omega),jQ (by omega)];simp
  rw[D,aoo,UW,aoo,zp (by omega) (by omega),jQ (x:=0-_) (by omega)];have E:IntKind.i64.wrap ((i:Int)+1)=((i+1:Nat):Int):=by rw[jQ (by omega)];omega
  refine⟨a,_,rfl,E,by simpa using e,p.set _ (by omega),fun j n f F =>?_,by simp only;omega,?_⟩
  ·grind
  ·simp only[Int.toNat_natCast];rw[xU b,h i b a (am6 _),se];have L:=yn i (u[i]-c-g*gd v i);grind
 ·right;have G:i=u.length:=by omega
  simp_all[CE]
def Qk{u v:List Int}(o:Dg u)(t:Dg v)(w:Fit u)(x:v.length<=u.length) :
  ∃l,aO (oI v u) (0,0,u)=some l∧l.length=u.length∧Dg l∧∃c,0<=c∧dv l+pw u.length*c=dv u+dv v:=by
 unfold Fit at w;refine dq (I:=fun i s=>s.2.1=(i:Int)∧s.2.2.length=u.length∧Dg s.2.2∧(∀j (p:j<s.2.2.length) (f:j<u.length),i<=j->s.2.2[j]=u[j])∧(0<=s.1∧s.1<=1)∧dv s.2.2+pw i*s.1=dv u+dv (v.take i))
  u.length _ ⟨rfl,rfl,o,fun j p _ _=>rfl,by simp,by simp[dv]⟩ (ky (by omega)) ?_
 rintro i ⟨c,s,l⟩ B ⟨q,d,g,h,r,k⟩;simp only at q d g h r k;subst q;simp only[oI]
 by_cases a:i<u.length
 ·left;have b:i<l.length:=by omega
  rw[if_pos (by simpa using a),cW b,aoo,h i b a (am6 _)];have C:=o.get a;have D:=Gt t i;have y:(if decide ((i:Int)<(v.length:Int))=true then (P.idx v (i:Int)).bind fun m=>some (IntKind.i64.wrap ((IntKind.i64.wrap (c+u[i]))+m)) else some (IntKind.i64.wrap (c+u[i])))=some (c+u[i]+gd v i):=by
   by_cases e:i<v.length
   ·rw[if_pos (by simpa using e),cW e,aoo];grind[SG,jQ]
   ·rw[if_neg (by simpa using e),I2 (by omega),jQ (by omega)];simp
  rw[y,aoo,UW,aoo,zp (by omega) (by omega)];have z:IntKind.i64.wrap ((i:Int)+1)=((i+1:Nat):Int):=by rw[jQ (by omega)];omega
  refine⟨a,_,rfl,z,by simpa using d,g.set _ (by omega),fun j p f A =>?_,by simp only;omega,?_⟩
  ·grind
  ·simp only[Int.toNat_natCast];rw[xU b,h i b a (am6 _),se];have E:=yn i (c+u[i]+gd v i);grind
 ·right;have n:i=u.length:=by omega
  subst n;refine⟨l,by simp_all,d,g,c,r.1,?_⟩;rw[CE x]at k;exact k
def abK{u v:List Int}{g:Int}(q:Dg u)(f:Dg v)(w:Fit u)(r:v.length<=u.length)(x:0<dv v)(y:dv u / dv v<=g)(z:g<=dv u / dv v+1)(i:g<=1048576) :
  ∃l,iS u v g=some (l,dv u / dv v)∧l.length=u.length∧Dg l∧dv l=dv u % dv v:=by
 have A:0<=dv u / dv v:=apa (dL q) (by omega);obtain⟨⟨c,l⟩,B,b,e,C,D⟩:=Qj q f ⟨by omega,i⟩ w r;simp only at b e C D;have L:=apd (dv u) (dv v);have E:=Int.emod_nonneg (dv u) (show dv v≠0 by omega);have F:=apc (dv u) x;have j:=td e;have G:=dL e;rw[b]at j;have M:=rH u.length;have H:dv v<pw u.length:=Int.lt_of_lt_of_le (td f) (vY r);unfold iS uv;rw[B,aoo];simp only;rcases (show g=dv u / dv v∨g=dv u / dv v+1 by omega) with s|s
 ·have k:g*dv v=dv v*(dv u / dv v):=by grind
  have a:c=0:=by
   rcases (show c=0∨1<=c by omega) with h|h
   ·exact h
   ·have:pw u.length*1<=pw u.length*c:=ao6 h (by omega);omega
  grind
 ·have k:g*dv v=dv v*(dv u / dv v)+dv v:=by grind
  have a:c≠0:=by
   grind
  obtain⟨m,I,J,n,d,N,K⟩:=Qk e f (by omega) (by omega);rw[if_neg (by simpa using a),I,aoo,aoo,if_pos (by simp;omega)];refine⟨m,by rw[jQ (by omega),s];simp,by omega,n,?_⟩;rw[b]at K;have o:=td n;have t:=dL n;rw[J,b]at o;have p:c=d:=by
   rcases Int.lt_trichotomy c d with h|h|h
   ·have:pw u.length*(c+1)<=pw u.length*d:=ao6 (by omega) (by omega);grind
   ·exact h
   ·have:pw u.length*(d+1)<=pw u.length*c:=ao6 (by omega) (by omega);grind
  subst p;omega
def WD{v u:List Int}{s13:Int}{a b c T V W:Int}{n:Nat}(hn:2<=n)(h:v.length=n)(M:n<=17592186044416)(i:Nat)(N:s13=i)(O:i+n<=17592186044416)
  (p:P.idx v (((n-2:Nat)):Int)=some b) (q:P.idx u (((i+n-2:Nat)):Int)=some c)
  (b1:524288<=a∧a<1048576) (m:0<=b∧b<1048576) (Q:0<=c∧c<1048576) (t:0<=T) (R:T<1048576*1048576)
  (G:pw (n-2)*(a*1048576+b)<=V∧V<pw (n-2)*(a*1048576+b+1)) (hW:pw (n-2)*(T*1048576+c)<=W∧W<pw (n-2)*(T*1048576+c+1)) (w:W<1048576*V) :
  ∃g,aO (xN v s13 u a) (T / a,T % a)=some g∧W / V<=g∧g<=W / V+1∧g<=1048576:=by
 subst N;have hp:=rH (n-2);have d:0<V:=by
  have:pw (n-2)*1<=pw (n-2)*(a*1048576+b):=ao6 (by omega) (by omega);omega
 have y:0<=W:=by
  have:0<=pw (n-2)*(T*1048576+c):=ape (by omega) (by omega);omega
 have S:0<=W / V:=apa y (by omega);have U:W / V<1048576:=apb d w;have hm:=apd T a;have z:=Int.emod_nonneg T (show a≠0 by omega);have X:=apc T (show 0<a by omega);have Y:0<=T / a:=apa t (by omega);have A:T / a<=2097152:=by
  have:T / a<2097153:=apb (by omega) (by
   omega)
  omega
 have Z:∀g r:Int,g*a+r=T->W / V<=g->g*b>r*1048576+c->W / V<=g-1:=by
  intro g r o B C;have j:W<g*V:=by
   have k:g*(a*1048576+b)>=T*1048576+c+1:=by
    grind
   have e2:pw (n-2)*(T*1048576+c+1)<=pw (n-2)*(g*(a*1048576+b)):=ao6 k (by omega);have H:g*(pw (n-2)*(a*1048576+b))<=g*V:=ao6 G.1 (by omega);grind
  have:=apb d j;omega
 have D:∀g r:Int,g*a+r=T->0<=g->g<=1048576->g*b<=r*1048576+c->g<=W / V+1:=by
  intro g r o h0 hB C;have k:g*(a*1048576+b)<=T*1048576+c:=by
   grind
  have e2:g*V<=W+V:=by
   have f1:g*V<=g*(pw (n-2)*(a*1048576+b+1)):=ao6 (by omega) h0;have f2:g*(pw (n-2)*(a*1048576+b+1))=pw (n-2)*(g*(a*1048576+b))+pw (n-2)*g:=by
    grind
   have f3:pw (n-2)*(g*(a*1048576+b))<=pw (n-2)*(T*1048576+c):=ao6 k (by omega);have f4:pw (n-2)*g<=pw (n-2)*(a*1048576+b):=ao6 (by omega) (by omega);omega
  have H:(g-1)*V<=W:=by grind
  have:=Int.le_ediv_of_mul_le d H;omega
 have e:W / V<=T / a:=by
  have k:W<(T / a+1)*V:=by
   have f1:T+1<=(T / a+1)*a:=by
    grind
   have f2:T*1048576+c+1<=(T / a+1)*(a*1048576+b):=by
    have g1:(T+1)*1048576<=(T / a+1)*a*1048576:=apg f1 (by omega);have g2:0<=(T / a+1)*b:=ape (by omega) m.1;grind
   have f3:pw (n-2)*(T*1048576+c+1)<=pw (n-2)*((T / a+1)*(a*1048576+b)):=ao6 f2 (by omega);have f4:(T / a+1)*(pw (n-2)*(a*1048576+b))<=(T / a+1)*V:=ao6 G.1 (by omega);grind
  have:=apb d k;omega
 refine uU (I:=fun (s:Int×Int)=>s.1*a+s.2=T∧W / V<=s.1∧s.1<=2097152∧0<=s.2) (μ:=fun (s:Int×Int)=>s.1.toNat) _ ⟨?_,e,A,z⟩ (by unfold FU;omega) ?_
 ·grind
 rintro⟨g,r⟩ ⟨o,B,C,j⟩;simp only at o B C j;have aa:0<=g*a:=ape (by omega) (by omega);simp only[xN];have el:IntKind.i64.wrap ((v.length:Int)-2)=((n-2:Nat):Int):=by rw[h,jQ (by omega)];omega
 have ei:IntKind.i64.wrap ((IntKind.i64.wrap ((i:Int)+(v.length:Int)))-2)=((i+n-2:Nat):Int):=by grind[jQ]
 rw[el,ei];have E:W / V<=g-1->∃f:Int×Int,(some (Sum.inl (IntKind.i64.wrap (g-1),IntKind.i64.wrap (r+a))):Option ((Int×Int)⊕Int))=some (.inl f)∧(f.1*a+f.2=T∧W / V<=f.1∧f.1<=2097152∧0<=f.2)∧f.1.toNat<g.toNat:=by
  intro ab;refine⟨_,rfl,?_⟩;rw[jQ (x:=g-1) (by omega),jQ (x:=r+a) (by omega)];grind
 by_cases l:g>=1048576
 ·rw[if_pos (by simpa using l),aoo,if_pos rfl];grind
 ·rw[if_neg (by simpa using l)]
  by_cases J:r<1048576
  ·have K:0<=g*b:=ape (by omega) m.1;have F:g*b<=1048576*1048576:=apf (by omega) (by omega) m.1 (by omega);rw[if_pos (by simpa using J),p,aoo,afe j (by omega),aoo,q,aoo,jQ (x:=g*b) (by omega),W6 j (by omega) Q,aoo]
   by_cases L:g*b>1048576*r+c
   ·rw[if_pos (by simpa using L)];grind
   ·rw[if_neg (by simpa using L)];grind
  ·rw[if_neg (by simpa using J),aoo,if_neg (by simp)];refine .inr ⟨g,rfl,B,D g r o (by omega) (by omega) ?_,by omega⟩;have:g*b<=1048575*1048575:=apf (by omega) (by omega) m.1 (by omega);omega
def ajl{α:Type}{l:List α}{a b:Nat}(h:a<=b)(c:b<=l.length):Hj l (a:Int) (b:Int)=some ((l.drop a).take (b-a)):=by
 unfold Hj;simp_all
def agu{l:List Int}{n:Nat}(c:l.length=n)(d:2<=n)(a:Dg l) :
  pw (n-2)*((l[n-1]'(by omega))*1048576+l[n-2]'(by omega))<=dv l∧dv l<pw (n-2)*((l[n-1]'(by omega))*1048576+l[n-2]'(by omega)+1):=by
 have e:=lI l (i:=n-2) (by omega);rw[nc (by omega),nc (i:=n-2+1) (by omega),aox (by omega)]at e;have b:l[n-2+1]'(by omega)=l[n-1]'(by omega):=by congr 1;omega
 rw[b]at e;have f:=dL (a.take (n-2));have g:=td (a.take (n-2));grind[dv,List.length_take,Nat.min_eq_left]
def agv{l:List Int}{n:Nat}(g:l.length=n+1)(h:2<=n)(a:Dg l) :
  pw (n-2)*((1048576*(l[n]'(by omega))+l[n-1]'(by omega))*1048576+l[n-2]'(by omega))<=dv l∧dv l<pw (n-2)*((1048576*(l[n]'(by omega))+l[n-1]'(by omega))*1048576+l[n-2]'(by omega)+1):=by
 have e:=lI l (i:=n-2) (by omega);rw[nc (by omega),nc (i:=n-2+1) (by omega),nc (i:=n-2+1+1) (by omega),aox (by omega)]at e;have b:l[n-2+1]'(by omega)=l[n-1]'(by omega):=by congr 1;omega
 have c:l[n-2+1+1]'(by omega)=l[n]'(by omega):=by congr 1;omega
 rw[b,c]at e;have j:=dL (a.take (n-2));have d:=td (a.take (n-2));rw[ann,aoX (by omega)]at d;simp only[dv]at e;have f:l[n-2]'(by omega)+1048576*(l[n-1]'(by omega)+1048576*(l[n]'(by omega)+1048576*0))=(1048576*(l[n]'(by omega))+l[n-1]'(by omega))*1048576+l[n-2]'(by omega):=by omega
 rw[f]at e;rw[ao7 (pw (n-2)) _ 1,Int.mul_one];omega
def adt{v o:List Int}{n m:Nat}(p:Dg v)(a:v.length=n)(F:2<=n)(G:524288<=v[n-1]'(by omega))(hu:Dg o)(H:o.length=m+n)(hf:m+n<=17592186044416)(d:dv (o.drop m)<dv v) :
  ∃r,aO (xM v) ((m:Int)-1,o,List.replicate m 0)=some r∧r.1.length=m+n∧Dg r.1∧r.2.length=m∧Dg r.2∧dv r.1+dv v*dv r.2=dv o∧dv r.1<dv v:=by
 have J:=td p;rw[a]at J;refine dq (I:=fun i s=>s.1=((m-i:Nat):Int)-1∧s.2.1.length=m+n∧Dg s.2.1∧s.2.2.length=m∧Dg s.2.2∧(∀j (E:j<s.2.2.length),j<m-i->s.2.2[j]=0)∧dv s.2.1+dv v*dv s.2.2=dv o∧dv (s.2.1.drop (m-i))<dv v)
  m _ ⟨rfl,H,hu,by simp,Dg.rep _,fun j E _=>by simp,by simp[Et],d⟩ (ky (by omega)) ?_
 rintro i ⟨s,u,q⟩ hi ⟨S,hl,b,t,x,K,he,d⟩;simp only at S hl b t x K he d;subst S;generalize hk:m-i=k at *;simp only[xM]
 by_cases h0:0<k
 ·left;have ek:((k:Int)-1)=((k-1:Nat):Int):=by omega
  rw[ek,if_pos (by simp)];have e1:IntKind.i64.wrap (((k-1:Nat):Int)+(v.length:Int))=((k-1+n:Nat):Int):=by rw[a,jQ (by omega)];omega
  have e2:IntKind.i64.wrap (((k-1+n:Nat):Int)-1)=((k-1+n-1:Nat):Int):=by rw[jQ (by omega)];omega
  have e3:IntKind.i64.wrap ((v.length:Int)-1)=((n-1:Nat):Int):=by rw[a,jQ (by omega)];omega
  have e4:IntKind.i64.wrap (((k-1+n:Nat):Int)+1)=((k-1+n+1:Nat):Int):=by rw[jQ (by omega)];omega
  have e5:IntKind.i64.wrap (((k-1:Nat):Int)-1)=((k-1:Nat):Int)-1:=jQ (by omega);rw[e1,e2,e3,e4,e5];have U:k-1+n<u.length:=by omega
  have V:k-1+n-1<u.length:=by omega
  have W:k-1+n-2<u.length:=by omega
  have X:n-1<v.length:=by omega
  have y:n-2<v.length:=by omega
  have Y:=b.get U;have g2:=b.get V;have g3:=b.get W;have gv:=p.get X;have L:=p.get y;rw[cW U,aoo,afe Y.1 (by omega),aoo,cW V,aoo,cW X,aoo,W6 Y.1 (by omega) g2,adu (by omega) (by omega) (by omega),aoo,agX (by omega) (by omega),aoo,ajl (by omega) (by omega),show k-1+n+1-(k-1)=n+1 by omega];generalize Z:(u.drop (k-1)).take (n+1)=w;have M:w.length=n+1:=by grind
  have c:Dg w:=by rw[<- Z];exact (b.drop _).take _
  have e:∀j (E:j<n+1),w[j]'(by omega)=u[k-1+j]'(by omega):=by
   grind
  have z:dv (u.drop (k+n))=0:=by
   have N:=lI (u.drop k) (i:=n) (by grind);rw[aoB]at N;have n1:=dL ((b.drop k).take n);have n2:=dL (b.drop (k+n));have hp:=rH n;rcases (show dv (u.drop (k+n))=0∨1<=dv (u.drop (k+n)) by omega) with h|h
   ·exact h
   ·have:pw n*1<=pw n*dv (u.drop (k+n)):=ao6 h (by omega);omega
  have hW:dv w=dv (u.drop (k-1)):=by
   have N:=lI (u.drop (k-1)) (i:=n+1) (by grind);rw[aoB,show k-1+(n+1)=k+n by omega,z,Z]at N;omega
  have aa:dv w=u[k-1]+1048576*dv (u.drop k):=by
   grind[nc]
  have gk:=b.get (show k-1<u.length by omega);have A:dv w<1048576*dv v:=by omega
  have t2:=agu a F p;have t3:=agv M F c;rw[e n (by omega),e (n-1) (by omega),e (n-2) (by omega)]at t3;have a1:u[k-1+(n-1)]'(by omega)=u[k-1+n-1]'(by omega):=by congr 1;omega
  have a2:u[k-1+(n-2)]'(by omega)=u[k-1+n-2]'(by omega):=by congr 1;omega
  rw[a1,a2]at t3;obtain⟨g,q1,q2,q3,q4⟩:=WD (s13:=((k-1:Nat):Int)) F a (by omega) (k-1) rfl (by omega) (cW y) (cW W) ⟨G,gv.2⟩ L g3 (T:=1048576*u[k-1+n]+u[k-1+n-1]) (by omega) (by omega) t2 t3 A;rw[q1,aoo,aoo];have f:0<dv v:=by
   have:=dL c;omega
  obtain⟨l,r1,r2,r3,r4⟩:=abK c p (by unfold Fit;omega) (by omega) f q2 q3 q4;have O:k-1<q.length:=by omega
  rw[r1,aoo,cW O,aoo];simp only;have P:0<=dv w / dv v:=apa (dL c) (by omega);have Q:dv w / dv v<1048576:=apb f A;have B:=apc (dv w) f;simp only[Int.toNat_natCast];have C:dv (l++u.drop (k-1+n+1))=dv w % dv v:=by
   rw[iF,show k-1+n+1=k+n by omega,z,r4];omega
  have D:(u.take (k-1)).length=k-1:=by grind
  have R:dv (u.take (k-1)++(l++u.drop (k-1+n+1)))=dv (u.take (k-1))+pw (k-1)*(dv w % dv v):=by rw[iF,D,C]
  refine⟨by omega,_,rfl,by rw[show m-(i+1)=k-1 by omega],?_,(b.take _).append (r3.append (b.drop _)),by simpa using t,x.set _ ⟨P,Q⟩,fun j E ab =>?_,?_,?_⟩
  ·grind
  ·rw[List.getElem_set_ne (by omega)];exact K j (by simpa using E) (by omega)
  ·rw[R,xU O,K _ O (by omega),Int.sub_zero,ao7];grind[dv,lI,Int.mul_ediv_add_emod]
  ·rw[show m-(i+1)=k-1 by omega,aow,D,aoa,aoE,aox (by omega),aoy,C];exact B
 simp_all
def Xi{v:List Int}{t:Int}{n:Nat}(b:v.length=n)(g:0<n)(k:n<=17592186044416)(c:v[n-1]'(by omega)=t)(d:1<=t)(l:t<1048576) :
  ∃s,aO (xL v) 1=some s∧∃j:Nat,s=2 ^ j∧j<=19∧524288<=t*s∧t*s<1048576:=by
 refine dq (I:=fun i s=>s=2 ^ i∧t*s<1048576) 20 _ ⟨rfl,by omega⟩ (by unfold FU;omega) ?_;rintro i s m ⟨rfl,o⟩;have p:(0:Int)<2 ^ i:=Int.pow_pos (by decide);have f:(2:Int) ^ i<=t*2 ^ i:=by
  have:1*(2:Int) ^ i<=t*2 ^ i:=apg d (by omega);omega
 have a:i<=19:=by
  grind
 simp only[xL];have e:IntKind.i64.wrap ((v.length:Int)-1)=((n-1:Nat):Int):=by rw[b,jQ (by omega)];omega
 rw[e,cW (by omega),aoo,c,jQ (x:=t*2 ^ i) (by omega)]
 by_cases h:t*2 ^ i<524288
 ·left;rw[if_pos (by simpa using h)];refine⟨by omega,_,rfl,by rw[jQ (by omega),Int.pow_succ],?_⟩;rw[jQ (by omega),<- ao8];omega
 grind
def div_eq{m n:Nat}(hn:n≠0)(ai:(aU m).length<=17592186043904)(aj:(aU n).length<=17592186043904):xK (aU m) (aU n)=some (aU (m / n),aU (m % n)):=by
 unfold xK;rw[Cg (by unfold Fit;omega) (by unfold Fit;omega),aoo]
 by_cases l:m<n
 ·have:mY (m:Int) n<0:=by unfold mY;omega
  rw[if_pos (by simpa using this),zA (by unfold Fit;omega),aoo,aph l,anW l,dB]
 have:¬mY (m:Int) n<0:=by unfold mY;omega
 rw[if_neg (by simpa using this)];obtain⟨ak,al⟩:=Dn hn;have ao:=iO n
 by_cases h1:(aU n).length=1
 ·rw[if_pos (by simp;omega)];have aq:(n:Int)<1048576:=by grind[pw]
  have e:aU n=[(n:Int)]:=by
   rw[ss hn,aph (by omega),dB,anW (by omega)]
  have ei:P.idx (aU n) 0=some (n:Int):=by rw[e];rfl
  rw[ei,aoo,UU (cr m) ⟨by omega,by omega⟩ (by unfold Fit;omega),aoo,bt];have B:(m:Int) % n=((m % n:Nat):Int):=(Int.natCast_emod m n).symm;have C:((m:Int) / n).toNat=m / n:=by
   grind
  have ar:m % n<n:=anT _ (by omega);simp only[B,C];rw[HC (n:=m % n) (by simp[Fit]) (Dg.mk (by omega) Dg.nil) (by simp[dv]),aoo]
 ·rw[if_neg (by simp;omega)];generalize hN:(aU n).length=N at *;have D:2<=N:=by omega
  have c:=cr n;have gt:=c.get (show N-1<(aU n).length by omega);generalize ht:(aU n)[N-1]'(by omega)=t at gt;have a:=lI (aU n) (i:=N-1) (by omega);rw[bt,nc (by omega),aox (by omega),ht]at a;simp only[dv,api,apj]at a;have E:=dL (c.take (N-1));have F:=td (c.take (N-1));rw[ann,aoX (by omega)]at F;have au:=rH (N-1);have G:1<=t:=by
   grind
  obtain⟨s,H,j,I,hj,J,av⟩:=Xi hN (by omega) (by omega) ht G gt.2;have K:(2:Int) ^ j<=524288:=by
   have:∀j:Nat,j<=19->(2:Int) ^ j<=524288:=by decide
   exact this j hj
  have L:(0:Int)<2 ^ j:=Int.pow_pos (by decide);have O:(t+1)*s<=1048576:=by
   have aw:(1048576:Int)=2 ^ (20-j)*2 ^ j:=by rw[<- Int.pow_add,Nat.sub_add_cancel (by omega)];rfl
   (simp_all;omega)
  rw[<- I]at L K;obtain⟨S,rfl⟩:∃S:Nat,s=S:=⟨s.toNat,by omega⟩;have o:Dg [(S:Int)]:=Dg.mk (by omega) Dg.nil;have b:dv [(S:Int)]=S:=by simp[dv]
  rw[H,aoo,mul_eq (cr m) o (by simp;omega),aoo,bt,b];have em:((m:Int)*S).toNat=m*S:=by omega
  have en:((n:Int)*S).toNat=n*S:=by omega
  rw[em];have ax:(aU (m*S)).length<=(aU m).length+1:=by
   apply j8;rw[mn,apk];have d:=iO m;have:(m:Int)*S<=m*1048576:=ao6 (by omega) (by omega);omega
  have hU:∃u,((if ((((aU (m*S)++[0]).length:Int))==((aU m).length:Int))=true then (me 8 (aU (m*S)++[0]) [0]).bind fun R=>some R else some (aU (m*S)++[0]))=some u)∧Dg u∧dv u=(m*S:Nat)∧dv u<pw (u.length-1)∧(aU (m*S)).length+1<=u.length∧u.length<=(aU m).length+3:=by
   have d1:Dg (aU (m*S)++[0]):=(cr _).append (Dg.mk (by omega) Dg.nil);have v1:dv (aU (m*S)++[0])=(m*S:Nat):=by rw[iF,bt];simp[dv]
   have v2:=iO (m*S);split
   ·rw[y7 (by simp;omega),aoo];refine⟨_,rfl,d1.append (Dg.mk (by omega) Dg.nil),by rw[iF,v1];simp[dv],?_,by simp,by simp;omega⟩;rw[iF,v1];simp only[dv,an7,List.length_cons,List.length_nil];have:=vY (i:=(aU (m*S)).length) (j:=(aU (m*S)).length+1) (by omega);grind
   grind
  obtain⟨u,T,p,V,ay,az,aA⟩:=hU;rw[y7 (by simp;omega),aoo,mul_eq (cr n) o (by simp;omega),aoo,bt,b,en,T,aoo];have ag:524288*pw (N-1)<=((n*S:Nat):Int):=by
   rw[apk,a,Int.add_mul];have d:0<=dv ((aU n).take (N-1))*S:=ape E (by omega);have q:pw (N-1)*524288<=pw (N-1)*(t*S):=ao6 J (by omega);grind
  have r:((n*S:Nat):Int)<pw N:=by
   have a0:pw N=1048576*pw (N-1):=by rw[<- mn];congr 1;omega
   rw[a0,apk,a];have d:(dv ((aU n).take (N-1))+pw (N-1)*t+1)*S<=(pw (N-1)*(t+1))*S:=apg (by grind) (by omega);have q:pw (N-1)*((t+1)*S)<=pw (N-1)*1048576:=ao6 O (by omega);grind
  have W:(aU (n*S)).length=N:=by
   have d:=j8 r;rcases anL (aU (n*S)).length N with h|h
   ·have q:=iO (n*S);have z:=vY (i:=(aU (n*S)).length) (j:=N-1) (by omega);omega
   ·omega
  have X:524288<=(aU (n*S))[N-1]'(by omega):=by
   have d:=lI (aU (n*S)) (i:=N-1) (by omega);rw[bt,nc (by omega),aox (by omega)]at d;simp only[dv,api,apj]at d;have q:=td ((cr (n*S)).take (N-1));rw[ann,aoX (by omega)]at q;have z:pw (N-1)*524288<pw (N-1)*((aU (n*S))[N-1]'(by omega)+1):=by grind
   have:=Int.lt_of_mul_lt_mul_left z (by omega);omega
  have ah:N+1<=u.length:=by
   have:n*S<=m*S:=anM _ (by omega);have:=cQ this;omega
  obtain⟨M,hM⟩:∃M,u.length=M+N:=⟨u.length-N,by omega⟩;have e1:IntKind.i64.wrap ((u.length:Int)-((aU (n*S)).length:Int))=(M:Int):=by grind[jQ]
  rw[e1,mk0 (by omega),aoo,List.length_replicate,jQ (x:=(M:Int)-1) (by omega)];have Y:dv (u.drop M)<dv (aU (n*S)):=by
   rw[bt];have d:=lI u (i:=M) (by omega);have q:=dL (p.take M);have z:pw M*dv (u.drop M)<pw M*pw (N-1):=by
    rw[<- Kl,show M+(N-1)=u.length-1 by omega];omega
   have:=Int.lt_of_mul_lt_mul_left z (by have:=rH M;omega);omega
  obtain⟨⟨U,Q⟩,r1,r2,Z,r4,r5,r6,r7⟩:=adt (cr (n*S)) W D X p hM (by omega) Y;simp only at r2 Z r4 r5 r6 r7;rw[r1,aoo];simp only;rw[bt,V]at r6;rw[bt]at r7;have aB:=dL Z;have aC:=dL r5;have hS:0<S:=by omega
  have aa:0<n*S:=ao1 (by omega) hS;obtain⟨g,f⟩:∃k:Nat,dv U=k:=⟨(dv U).toNat,by omega⟩;obtain⟨A,v⟩:∃k:Nat,dv Q=k:=⟨(dv Q).toNat,by omega⟩;rw[f,v]at r6;rw[f]at r7;have w:g+n*S*A=m*S:=by
   omega
  have y:g<n*S:=by omega
  have ab:A=m / n:=by
   have:m*S / (n*S)=A:=by
    rw[<- w,Nat.add_mul_div_left _ _ aa,aph y,an5]
   grind[Nat.mul_div_mul_right]
  have ad:g=(m % n)*S:=by
   grind[Nat.add_mul_mod_self_left,Nat.mod_eq_of_lt,Nat.mul_mod_mul_right]
  rw[HC (n:=g) (by unfold Fit;omega) Z f,aoo];have ae:(aU g).length<=N:=j8 (by omega);rw[UU (cr g) ⟨by omega,by omega⟩ (by unfold Fit;omega),aoo,HC (n:=A) (by unfold Fit;omega) r5 v,aoo,bt,ab,ad];have:((((m % n)*S:Nat):Int) / (S:Int)).toNat=m % n:=by
   grind[Int.natCast_mul,Int.mul_ediv_cancel]
  rw[this]
def eu(x:Int):aF:=aF.mk x.sign (aU x.natAbs)
def Ln(x:Int):Nat:=(aU x.natAbs).length
def dh:Nat:=4398046511104
def ll:Nat:=17592186043904
def wX{n:Nat}(h:n<=dh):n<=ll:=am8 h (by decide)
theorem JC:eu 0=aF.mk 0 []:=by unfold eu;grind[dB]
theorem Zn{x y:Int}(h:eu x=eu y):x=y:=by
 grind[eu,aF.mk.injEq,adq]
def QZ{x:Int}{k:Nat}(h:(x.natAbs:Int)<pw k):Ln x<=k:=j8 h
def Zk(x:Int):(x.natAbs:Int)<pw (Ln x):=iO _
def X0{x y:Int}(h:x.natAbs<=y.natAbs):Ln x<=Ln y:=cQ h
def Ek(x:Int):Ln (-x)=Ln x:=by unfold Ln;rw[Int.natAbs_neg]
def HK(x y:Int):Ln (x+y)<=max (Ln x) (Ln y)+1:=by
 apply QZ;have a:=Zk x;have b:=Zk y;have c:=vY (i:=Ln x) (j:=max (Ln x) (Ln y)) (by omega);have d:=vY (i:=Ln y) (j:=max (Ln x) (Ln y)) (by omega);grind[Int.natAbs_add_le,mn]
def jt(x y:Int):Ln (x*y)<=Ln x+Ln y:=by
 apply QZ;have c:=Zk x;have a:=Zk y;rw[apl,apk,Kl];have b:=rH (Ln x)
 calc (x.natAbs:Int)*y.natAbs<=pw (Ln x)*y.natAbs:=apg (by omega) (by omega)
  _<pw (Ln x)*pw (Ln y):=Int.mul_lt_mul_of_pos_left a b
theorem Q0{x:Int}(h:x.natAbs<1048576):Ln x<=1:=QZ (by rw[mn,sj];omega)
instance (l:List Int):Decidable (Dg l):=by unfold Dg;infer_instance
def okB(b:aF):Bool:=decide (Dg b.aa)&&(match b.aa.getLast? with|none=>b.al==0|some d=>(b.al==1||b.al == -1)&&d != 0)
end Go.Proofs.YtobnihfgnbnncaaGreat.P
