import Derived.Test.YtgnoaanebhmegaaId
set_option linter.unusedSimpArgs false
set_option linter.unusedVariables false
noncomputable section
open Go.Proofs.Try
namespace Go.Proofs.Ytgnoaanebhmegaa.Am
open Go.RowKit Go.Proofs.Ytgnoaanebhmegaa.P
set_option maxRecDepth 100000
set_option maxHeartbeats 4000000
theorem Dh:bN prog 64 lN:=bN.ig (mode := .clean) tok C1 mixed func64 (by kernel_rfl) (fun _ _=>rfl) (fun _=>by kernel_rfl) fun⟨p0,p1⟩ r O=>by
 replace O:jz p0 p1=some r:=O;apply aw rfl ntmps64 results64;simp only[im];unfold jz at O;obtain⟨x1,aJ,O⟩:=ab O;obtain⟨X,Y,Z,U,aa⟩:=mk_one (eI .i64) aJ;simp only[cF]at U;try simp only[fk,seval,-Int.reduceToNat,X,Y,Z,U,aa]
 obtain⟨aK,av,O⟩:=ab O;refine ax (fun s t H e=>match s with|(ay,az,au)=>∃ad:Nat,t 0=.sl false false p0.length (ae (eI .i64) p0)∧t 1=.int .i64 p1∧t 6=.buf 6 ad 1 0 (au).length∧t 7=.int .i64 ay∧t 8=.int .i64 az∧H 6=some ⟨ad,3,ae (eI .i64) au,false,true,false⟩) (fun o x t H e=>match o with|(aq,ah)=>x=.exit 0∧∃ai:Nat,t 6=.buf 6 ai 1 0 (ah).length∧t 7=.int .i64 aq∧H 6=some ⟨ai,3,ae (eI .i64) ah,false,true,false⟩) av ?_ ?_ ?_
 ·refine⟨1,?_⟩;and_intros<;>first|rfl|(simp only[fk,seval,-Int.reduceToNat,X,Y,Z,U,aa]<;>rfl)
 ·rintro⟨ay,az,au⟩ t H e ⟨ad,Za⟩ c O;simp only[km]at O;try simp only[fk,seval,-Int.reduceToNat,X,Y,Z,U,aa,Za]
  apply sp ak O<;>intro _ O
  ·obtain⟨aM,aA,O⟩:=ab O;have aB:=kD aA;obtain⟨aN,aC,O⟩:=ab O;have aj:=cq (eI .i64) aC;simp only[cF]at aj;obtain⟨aD,aE,O⟩:=ab O;have aF:=pZ aE;obtain⟨aO,ar,O⟩:=ab O;have al:=cq (eI .i64) ar;simp only[cF]at al;have ao:=nI (eI .i64) (x':=aD) (fo:=0) (cs:=[.int .i64 aD]) ar rfl (Xp rfl);simp only[cF,Nat.add_zero]at ao;have an:=ao;simp only[putCells,List.length_cons,List.length_nil,Wt,Nat.reduceAdd]at an;obtain⟨aP,aG,O⟩:=ab O;have aH:=vO aG;cases O;try simp only[fk,seval,-Int.reduceToNat,X,Y,Z,U,aa,Za,aB,aj,aF,al,ao,an,aH]
   apply jQ;refine⟨ad,?_⟩;and_intros<;>first|rfl|(simp only[fk,seval,-Int.reduceToNat,X,Y,Z,U,aa,Za,aB,aj,aF,al,ao,an,aH]<;>rfl)
  ·cases O;try simp only[fk,seval,-Int.reduceToNat,X,Y,Z,U,aa,Za]
   apply ku;refine⟨rfl,⟨ad,?_⟩⟩;and_intros<;>first|rfl|(simp only[fk,seval,-Int.reduceToNat,X,Y,Z,U,aa,Za]<;>rfl)
 ·rintro x t H e hx;rcases aK with⟨aq,ah⟩;dsimp only at hx O;obtain⟨rfl,⟨ai,aL⟩⟩:=hx;obtain⟨aQ,aI,O⟩:=ab O;cases O;try simp only[fk,seval,-Int.reduceToNat,X,Y,Z,U,aa,aL,aI]
def kF (l:Option (D×Row)) (d:List D):=dR (gg (gf (eI .i64)) (ee (gf (eI .i64)))) (fun x:(List Int)×(List Int)=>kl x.1 x.2) (fun r:(List Int) =>.fresh 3 1 r.length (ae (eI .i64) r)) l d
def tx:Env:=(Am.ext bk 62 true mQ)
theorem Iz:bt prog tx:=(bt.none.add zn true)
theorem dt:type_of% (ai @w<|@tx.eq_1):=⟨@w,@tx.eq_1⟩
theorem yj:bN prog 65 kF:=bN.ig (mode:=(.fresh 3 1)) tok Iz mixed func65 (by kernel_rfl) (fun _ _=>rfl) (fun _=>by kernel_rfl) fun⟨p0,p1⟩ r O=>by
 replace O:kl p0 p1=some r:=O;apply aw rfl ntmps65 results65;simp only[im];unfold kl at O;obtain⟨x1,aW,O⟩:=ab O;obtain⟨Y,Z,aa,U,ad⟩:=mk_one (eI .i64) aW;simp only[cF]at U;try simp only[dt,seval,-Int.reduceToNat,Y,Z,aa,U,ad]
 obtain⟨aX,aL,O⟩:=ab O;refine ax (fun s t H e=>match s with|(aj,aH)=>∃aq:Nat,t 1=.sl false false p1.length (ae (eI .i64) p1)∧t 5=.buf 5 aq 1 0 (aH).length∧t 18=.sl false false p0.length (ae (eI .i64) p0)∧t 19=.int .i64 (p0.length:Int)∧t 20=.int .i64 aj∧H 5=some ⟨aq,3,ae (eI .i64) aH,false,true,false⟩) (fun o x t H e=>match o with|al=>x=.exit 0∧∃ar:Nat,t 5=.buf 5 ar 1 0 (al).length∧H 5=some ⟨ar,3,ae (eI .i64) al,false,true,false⟩) aL ?_ ?_ ?_
 ·refine⟨1,?_⟩;and_intros<;>first|rfl|(simp only[dt,seval,-Int.reduceToNat,Y,Z,aa,U,ad]<;>rfl)
 ·rintro⟨aj,aH⟩ t H e ⟨aq,Za⟩ c O;simp only[nf]at O;try simp only[dt,seval,-Int.reduceToNat,Y,Z,aa,U,ad,Za]
  apply sp ak O<;>intro _ O
  ·obtain⟨aI,aM,O⟩:=ab O;have X:=cq (eI .i64) aM;simp only[cF]at X;try simp only[dt,seval,-Int.reduceToNat,Y,Z,aa,U,ad,Za,X]
   obtain⟨aY,aN,O⟩:=ab O;refine ax (fun s t H e=>match s with|(aD,aG,aJ)=>∃au:Nat,t 1=.sl false false p1.length (ae (eI .i64) p1)∧t 5=.buf 5 au 1 0 (aJ).length∧t 6=.int .i64 aj∧t 7=.int .i64 aI∧t 8=.int .i64 aD∧t 18=.sl false false p0.length (ae (eI .i64) p0)∧t 19=.int .i64 (p0.length:Int)∧t 20=.int .i64 aj∧t 25=.sl false false p1.length (ae (eI .i64) p1)∧t 26=.int .i64 (p1.length:Int)∧t 27=.int .i64 aG∧H 5=some ⟨au,3,ae (eI .i64) aJ,false,true,false⟩) (fun o x t H e=>match o with|(an,av)=>x=.exit 2∧∃ao:Nat,t 1=.sl false false p1.length (ae (eI .i64) p1)∧t 5=.buf 5 ao 1 0 (av).length∧t 6=.int .i64 aj∧t 8=.int .i64 an∧t 18=.sl false false p0.length (ae (eI .i64) p0)∧t 19=.int .i64 (p0.length:Int)∧t 20=.int .i64 aj∧H 5=some ⟨ao,3,ae (eI .i64) av,false,true,false⟩) aN ?_ ?_ ?_
   ·refine⟨aq,?_⟩;and_intros<;>first|rfl|(simp only[dt,seval,-Int.reduceToNat,Y,Z,aa,U,ad,Za,X]<;>rfl)
   ·rintro⟨aD,aG,aJ⟩ t H e ⟨au,Zc⟩ c O;simp only[ng]at O;try simp only[dt,seval,-Int.reduceToNat,Y,Z,aa,U,ad,X,Zc]
    apply sp ak O<;>intro _ O
    ·obtain⟨aO,aP,O⟩:=ab O;have ay:=cq (eI .i64) aP;simp only[cF]at ay;obtain⟨aQ,az,O⟩:=ab O;have ah:=cq (eI .i64) az;simp only[cF]at ah;obtain⟨a1,aR,O⟩:=ab O;have aS:=kE aR;have ah:=cq (eI .i64) az;simp only[cF]at ah;have aE:=nI (eI .i64) (x':=gR .and .i64 (IntKind.i64.wrap ((IntKind.i64.wrap (aQ+(IntKind.i64.wrap (aI*aO))))+aD)) 1048575) (fo:=0) (cs:=[.int .i64 (gR .and .i64 (IntKind.i64.wrap ((IntKind.i64.wrap (aQ+(IntKind.i64.wrap (aI*aO))))+aD)) 1048575)]) az rfl (Xp rfl);simp only[cF,Nat.add_zero]at aE;have aA:=aE;simp only[putCells,List.length_cons,List.length_nil,Wt,Nat.reduceAdd]at aA;cases O;try simp only[dt,seval,-Int.reduceToNat,Y,Z,aa,U,ad,X,Zc,ay,ah,aS,ah,aE,aA]
     apply jQ;refine⟨au,?_⟩;and_intros<;>first|rfl|(simp only[dt,seval,-Int.reduceToNat,Y,Z,aa,U,ad,X,Zc,ay,ah,aS,ah,aE,aA]<;>rfl)
    ·cases O;try simp only[dt,seval,-Int.reduceToNat,Y,Z,aa,U,ad,X,Zc]
     apply ku;refine⟨rfl,⟨au,?_⟩⟩;and_intros<;>first|rfl|(simp only[dt,seval,-Int.reduceToNat,Y,Z,aa,U,ad,X,Zc]<;>rfl)
   ·rintro x t H e hx;rcases aY with⟨an,av⟩;dsimp only at hx O;obtain⟨rfl,⟨ao,aT⟩⟩:=hx;obtain⟨aU,aB,O⟩:=ab O;have ai:=cq (eI .i64) aB;simp only[cF]at ai;have ai:=cq (eI .i64) aB;simp only[cF]at ai;have aF:=nI (eI .i64) (x':=IntKind.i64.wrap (aU+an)) (fo:=0) (cs:=[.int .i64 (IntKind.i64.wrap (aU+an))]) aB rfl (Xp rfl);simp only[cF,Nat.add_zero]at aF;have aC:=aF;simp only[putCells,List.length_cons,List.length_nil,Wt,Nat.reduceAdd]at aC;cases O;try simp only[dt,seval,-Int.reduceToNat,Y,Z,aa,U,ad,X,aT,ai,ai,aF,aC]
    apply jQ;refine⟨ao,?_⟩;and_intros<;>first|rfl|(simp only[dt,seval,-Int.reduceToNat,Y,Z,aa,U,ad,X,aT,ai,ai,aF,aC]<;>rfl)
  ·cases O;try simp only[dt,seval,-Int.reduceToNat,Y,Z,aa,U,ad,Za]
   apply ku;refine⟨rfl,⟨aq,?_⟩⟩;and_intros<;>first|rfl|(simp only[dt,seval,-Int.reduceToNat,Y,Z,aa,U,ad,Za]<;>rfl)
 ·rintro x t H e hx;obtain⟨al,rfl⟩:∃z,z=aX:=⟨_,rfl⟩;dsimp only at hx O;obtain⟨rfl,⟨ar,aZ⟩⟩:=hx;have i38:=Dq [] [] al;try simp only[List.nil_append,Xx,List.length_nil,aK,XE,cF]at i38
  obtain⟨a6,aV,O⟩:=ab O;cases O;try simp only[dt,seval,-Int.reduceToNat,Y,Z,aa,U,ad,aZ,i38,aV]
def kN:=QJ 3 (eI .i64) (gg (gf (eI .i64)) (ee (aI .i64))) (fun (l:(List Int)) (x:(List Int)×Int)=>dS l x.1 x.2) (fun r:Int =>.clean (.int .i64 r))
theorem yw (pre post:List D) (O:(List Int)) (U:(List Int)) (X:Int):kN (some (.buf 0 0 1 pre.length O.length,⟨0,3,pre++(ae (eI .i64) O++post),false,true,false⟩)) [.sl false false U.length (ae (eI .i64) U),.int .i64 X]=(dS O U X).map fun r=>(.clean (.int .i64 r.2),some ⟨0,3,pre++(ae (eI .i64) r.1++post),false,true,false⟩):=OU _ _ _ _ _ pre post O (U,X)
theorem xT (pre post:List D) (p0:(List Int)) (p1:(List Int)) (p2:Int) (r:(List Int)×(Int)) (O:dS p0 p1 p2=some r):iQ .clean tab bk FU Try.f66 (some (.buf 0 0 1 pre.length p0.length,⟨0,3,pre++(ae (eI .i64) p0++post),false,true,false⟩)) [.sl false false p1.length (ae (eI .i64) p1),.int .i64 p2]=some (.clean (.int .i64 r.2),some ⟨0,3,pre++(ae (eI .i64) r.1++post),false,true,false⟩):=by
 apply yY rfl ntmps66 results66;unfold dS at O;obtain⟨rw,aP,O⟩:=ab O;split at O;rotate_left
 ·cases O
 cases O;rename_i hlen;replace O:=aP;unfold kQ at O;try simp only[w,seval,-Int.reduceToNat]
 obtain⟨o9,aQ,O⟩:=ab O;refine ax (fun s t H e=>match s with|(aD,aa,ah)=>t 0=.buf 0 0 1 pre.length (ah).length∧t 1=.sl false false p1.length (ae (eI .i64) p1)∧t 2=.int .i64 p2∧t 7=.int .i64 aD∧t 13=.int .i64 ((p0).length:Int)∧t 14=.int .i64 aa∧H 0=some ⟨0,3,pre++(ae (eI .i64) ah++post),false,true,false⟩) (fun o x t H e=>match o with|(aB,Y)=>x=.exit 0∧t 0=.buf 0 0 1 pre.length (Y).length∧t 1=.sl false false p1.length (ae (eI .i64) p1)∧t 2=.int .i64 p2∧t 7=.int .i64 aB∧H 0=some ⟨0,3,pre++(ae (eI .i64) Y++post),false,true,false⟩) aQ ?_ ?_ ?_
 ·and_intros<;>first|rfl|(simp only[w,seval,-Int.reduceToNat]<;>rfl)
 ·rintro⟨aD,aa,ah⟩ t H e Za c O;simp only[hZ]at O;try simp only[w,seval,-Int.reduceToNat,Za]
  apply sp ak O<;>intro _ O
  ·obtain⟨aV,ai,O⟩:=ab O;have U:=FF (pre:=pre) (post:=post) (eI .i64) ai;simp only[cF]at U;try simp only[w,seval,-Int.reduceToNat,Za,U]
   obtain⟨aR,aE,O⟩:=ab O;refine j7 0 (fun s t H e=>match s with|aj=>t 0=.buf 0 0 1 pre.length (ah).length∧t 1=.sl false false p1.length (ae (eI .i64) p1)∧t 2=.int .i64 p2∧t 8=.int .i64 aa∧t 9=.int .i64 aj∧t 13=.int .i64 ((p0).length:Int)∧t 14=.int .i64 aa∧H 0=some ⟨0,3,pre++(ae (eI .i64) ah++post),false,true,false⟩) (fun s=>s=aR) ?_ ?_
   ·rintro aj t H e aF rfl;try dsimp only at O
    have U:=FF (pre:=pre) (post:=post) (eI .i64) ai;simp only[cF]at U;have ay:=G1 (pre:=pre) (post:=post) (eI .i64) (y':=gR .and .i64 aj 1048575) ai;simp only[cF]at ay;have al:=ay;simp only[putCells,List.length_cons,List.length_nil,Wt,Nat.reduceAdd]at al;obtain⟨aW,aG,O⟩:=ab O;have aH:=kE aG;cases O;try simp only[w,seval,-Int.reduceToNat,U,aF,U,ay,al,aH]
    apply jQ;and_intros<;>first|rfl|(simp only[w,seval,-Int.reduceToNat,U,aF,U,ay,al,aH]<;>rfl)
   ·clear O;have O:=aE;try simp only[w,seval,-Int.reduceToNat,Za,U]
    apply sp ak O<;>intro _ O
    ·obtain⟨aX,aI,O⟩:=ab O;have an:=cq (eI .i64) aI;simp only[cF]at an;cases O;try simp only[w,seval,-Int.reduceToNat,Za,U,an]
     rw[ao];refine⟨_,rfl,?_⟩;and_intros<;>first|rfl|(simp only[w,seval,-Int.reduceToNat,Za,U,an]<;>rfl)
    ·cases O;try simp only[w,seval,-Int.reduceToNat,Za,U]
     rw[ao];refine⟨_,rfl,?_⟩;and_intros<;>first|rfl|(simp only[w,seval,-Int.reduceToNat,Za,U]<;>rfl)
  ·cases O;try simp only[w,seval,-Int.reduceToNat,Za]
   apply ku;refine⟨rfl,?_⟩;and_intros<;>first|rfl|(simp only[w,seval,-Int.reduceToNat,Za]<;>rfl)
 ·rintro x t H e hx;rcases o9 with⟨aB,Y⟩;dsimp only at hx O;obtain⟨rfl,az⟩:=hx;try simp only[w,seval,-Int.reduceToNat,az]
  apply sp ak O<;>intro _ O
  ·cases O;try simp only[w,seval,-Int.reduceToNat,az]
  ·try simp only[w,seval,-Int.reduceToNat,az]
   obtain⟨aS,aJ,O⟩:=ab O;refine ax (fun s t H e=>match s with|(aC,ad,aq)=>t 0=.buf 0 0 1 pre.length (aq).length∧t 1=.sl false false p1.length (ae (eI .i64) p1)∧t 2=.int .i64 p2∧t 10=.int .i64 aC∧t 48=.int .i64 ((Y).length:Int)∧t 49=.int .i64 ad∧H 0=some ⟨0,3,pre++(ae (eI .i64) aq++post),false,true,false⟩) (fun o x t H e=>match o with|ar=>x=.exit 2∧t 0=.buf 0 0 1 pre.length (ar).length∧t 2=.int .i64 p2∧H 0=some ⟨0,3,pre++(ae (eI .i64) ar++post),false,true,false⟩) aJ ?_ ?_ ?_
   ·and_intros<;>first|rfl|(simp only[w,seval,-Int.reduceToNat,az]<;>rfl)
   ·rintro⟨aC,ad,aq⟩ t H e Zd c O;simp only[ia]at O;try simp only[w,seval,-Int.reduceToNat,Zd]
    apply sp ak O<;>intro _ O
    ·obtain⟨aY,au,O⟩:=ab O;have X:=FF (pre:=pre) (post:=post) (eI .i64) au;simp only[cF]at X;try simp only[w,seval,-Int.reduceToNat,Zd,X]
     obtain⟨aT,aK,O⟩:=ab O;refine j7 0 (fun s t H e=>match s with|Z=>t 0=.buf 0 0 1 pre.length (aq).length∧t 1=.sl false false p1.length (ae (eI .i64) p1)∧t 2=.int .i64 p2∧t 10=.int .i64 Z∧t 11=.int .i64 ad∧t 48=.int .i64 ((Y).length:Int)∧t 49=.int .i64 ad∧H 0=some ⟨0,3,pre++(ae (eI .i64) aq++post),false,true,false⟩) (fun s=>s=aT) ?_ ?_
     ·rintro Z t H e aL rfl;try dsimp only at O
      have X:=FF (pre:=pre) (post:=post) (eI .i64) au;simp only[cF]at X;have aA:=G1 (pre:=pre) (post:=post) (eI .i64) (y':=gR .and .i64 Z 1048575) au;simp only[cF]at aA;have av:=aA;simp only[putCells,List.length_cons,List.length_nil,Wt,Nat.reduceAdd]at av;obtain⟨aZ,aM,O⟩:=ab O;have aN:=kE aM;cases O;try simp only[w,seval,-Int.reduceToNat,X,aL,X,aA,av,aN]
      apply jQ;and_intros<;>first|rfl|(simp only[w,seval,-Int.reduceToNat,X,aL,X,aA,av,aN]<;>rfl)
     ·clear O;have O:=aK;try simp only[w,seval,-Int.reduceToNat,Zd,X]
      apply sp ak O<;>intro _ O
      ·obtain⟨a1,aO,O⟩:=ab O;have aw:=cq (eI .i64) aO;simp only[cF]at aw;cases O;try simp only[w,seval,-Int.reduceToNat,Zd,X,aw]
       rw[ao];refine⟨_,rfl,?_⟩;and_intros<;>first|rfl|(simp only[w,seval,-Int.reduceToNat,Zd,X,aw]<;>rfl)
      ·cases O;try simp only[w,seval,-Int.reduceToNat,Zd,X]
       rw[ao];refine⟨_,rfl,?_⟩;and_intros<;>first|rfl|(simp only[w,seval,-Int.reduceToNat,Zd,X]<;>rfl)
    ·cases O;try simp only[w,seval,-Int.reduceToNat,Zd]
     apply ku;refine⟨rfl,?_⟩;and_intros<;>first|rfl|(simp only[w,seval,-Int.reduceToNat,Zd]<;>rfl)
   ·rintro x t H e hx;obtain⟨ar,rfl⟩:∃z,z=aS:=⟨_,rfl⟩;dsimp only at hx O;obtain⟨rfl,aU⟩:=hx;cases O;try simp only[w,seval,-Int.reduceToNat,aU]
theorem vw:bN prog 66 kN:=bN.Tl (mode := .clean) tok bt.none mixed func66 (by kernel_rfl) ⟨by kernel_rfl,by kernel_rfl⟩ (fun _=>Xp (by kernel_rfl)) (fun pre post l x l' r h=>xT pre post l x.1 x.2 (l',r) h)
def pL (l:Option (D×Row)) (d:List D):=dR (gg (gf (eI .i64)) (ee (gf (eI .i64)))) (fun x:(List Int)×(List Int)=>pV x.1 x.2) (fun r:(List Int)×(List Int) =>.clean (.tup [.sl false false r.1.length (ae (eI .i64) r.1),.sl false false r.2.length (ae (eI .i64) r.2)])) l d
theorem qf (O:(List Int)) (U:(List Int)):kF none [.sl false false O.length (ae (eI .i64) O),.sl false false U.length (ae (eI .i64) U)]=(kl O U).map fun r:(List Int)=>(.fresh 3 1 r.length (ae (eI .i64) r),none):=b6 _ _ _ (O,U)
theorem rG (O:(List Int)):fl none [.sl false false O.length (ae (eI .i64) O)]=(dh O).map fun r:(List Int)=>(.clean (.sl false false r.length (ae (eI .i64) r)),none):=b6 _ _ _ (O)
def tw:Env:=(Am.ext (Am.ext (Am.ext (Am.ext (Am.ext (Am.ext bk 50 false iU) 62 false fl) 63 false eJ) 64 false lN) 65 false kF) 66 true kN)
theorem Iy:bt prog tw:=((((((bt.none.add n9 false).add pk false).add pj false).add Dh false).add yj false).add vw true)
theorem aG:type_of% (ai @w<|ai @jk<|ai @rG<|ai @y7<|ai @eJ.eq_1<|ai @RU<|ai @lN.eq_1<|ai @qf<|@tw.eq_1):=⟨@w,@jk,@rG,@y7,@eJ.eq_1,@RU,@lN.eq_1,@qf,@tw.eq_1⟩
theorem IN:bN prog 51 pL:=bN.ig (mode := .clean) tok Iy mixed func51 (by kernel_rfl) (fun _ _=>rfl) (fun _=>by kernel_rfl) fun⟨p0,p1⟩ r U=>by
 replace U:pV p0 p1=some r:=U;apply aw rfl ntmps51 results51;simp only[im];unfold pV at U;obtain⟨r1,ai,U⟩:=ab U;try simp only[aG,seval,-Int.reduceToNat,ai]
 apply sp ak U<;>intro _ U
 ·obtain⟨r3,b7,U⟩:=ab U;cases U;try simp only[aG,seval,-Int.reduceToNat,ai,b7]
 ·try simp only[aG,seval,-Int.reduceToNat,ai]
  apply sp ak U<;>intro _ U
  ·obtain⟨x5,b8,U⟩:=ab U;have bF:=cq (eI .i64) b8;simp only[cF]at bF;obtain⟨r6,b9,U⟩:=ab U;have i7:=rG ([r6.2]);simp only[aK,cF,List.length_cons,List.length_nil,Wt,Nat.reduceAdd,XE]at i7;obtain⟨r8,ca,U⟩:=ab U;cases U;try simp only[aG,seval,-Int.reduceToNat,ai,bF,b9,i7,ca]
  ·try simp only[aG,seval,-Int.reduceToNat,ai]
   obtain⟨cb,bG,U⟩:=ab U;refine ax (fun s t H e=>match s with|bH=>t 0=.sl false false p0.length (ae (eI .i64) p0)∧t 1=.sl false false p1.length (ae (eI .i64) p1)∧t 8=.int .i64 bH) (fun o x t H e=>match o with|aC=>x=.exit 0∧t 0=.sl false false p0.length (ae (eI .i64) p0)∧t 1=.sl false false p1.length (ae (eI .i64) p1)∧t 8=.int .i64 aC) bG ?_ ?_ ?_
   ·and_intros<;>first|rfl|(simp only[aG,seval,-Int.reduceToNat,ai]<;>rfl)
   ·rintro bH t H e Za c U;simp only[mZ]at U;obtain⟨cm,bI,U⟩:=ab U;have aJ:=cq (eI .i64) bI;simp only[cF]at aJ;try simp only[aG,seval,-Int.reduceToNat,ai,Za,aJ]
    apply sp ak U<;>intro _ U
    ·cases U;try simp only[aG,seval,-Int.reduceToNat,ai,Za,aJ]
     apply jQ;and_intros<;>first|rfl|(simp only[aG,seval,-Int.reduceToNat,ai,Za,aJ]<;>rfl)
    ·cases U;try simp only[aG,seval,-Int.reduceToNat,ai,Za,aJ]
     apply ku;refine⟨rfl,?_⟩;and_intros<;>first|rfl|(simp only[aG,seval,-Int.reduceToNat,ai,Za,aJ]<;>rfl)
   ·rintro x t H e hx;obtain⟨aC,rfl⟩:∃z,z=cb:=⟨_,rfl⟩;dsimp only at hx U;obtain⟨rfl,ba⟩:=hx;have i14:=qf p0 ([aC]);simp only[aK,cF,List.length_cons,List.length_nil,Wt,Nat.reduceAdd,XE]at i14;obtain⟨cn,Y,U⟩:=ab U;obtain⟨cp,bJ,U⟩:=ab U;obtain⟨Z,X,aa,ad⟩:=fT (eI .i64) bJ;simp only[cF]at X;have i18:=qf p1 ([aC]);simp only[aK,cF,List.length_cons,List.length_nil,Wt,Nat.reduceAdd,XE]at i18;obtain⟨aB,ah,U⟩:=ab U;try simp only[aG,seval,-Int.reduceToNat,ai,ba,i14,Y,Z,X,aa,ad,i18,ah]
    obtain⟨cc,bK,U⟩:=ab U;refine j7 0 (fun s t H e=>match s with|bc=>∃aY:Nat,∃aN:Nat,t 8=.int .i64 aC∧t 9=.buf 9 aY 1 0 (bc).length∧t 10=.buf 10 aN 1 0 (aB).length∧H 9=some ⟨aY,3,ae (eI .i64) bc,false,true,false⟩∧H 10=some ⟨aN,3,ae (eI .i64) aB,false,true,false⟩) (fun s=>s=cc) ?_ ?_
    ·rintro bc t H e ⟨aY,aN,bL⟩ rfl;try dsimp only at U
     obtain⟨cr,bM,U⟩:=ab U;obtain⟨al,an,aq,aj,ar⟩:=mk_one (eI .i64) bM;simp only[cF]at aj;try simp only[aG,seval,-Int.reduceToNat,ai,i14,Y,Z,X,aa,ad,i18,ah,bL,al,an,aq,aj,ar]
     obtain⟨cd,bO,U⟩:=ab U;refine ax (fun s t H e=>match s with|(aE,aF,aD)=>∃bd:Nat,∃aZ:Nat,∃aR:Nat,∃bf:Bool,t 8=.int .i64 aC∧t 9=.buf 9 bd 1 0 (aF).length∧t 10=.buf 10 aZ 1 0 (aB).length∧t 11=.int .i64 ((aB).length:Int)∧t 12=.buf 12 aR 1 0 (aD).length∧t 13=.int .i64 aE∧H 9=some ⟨bd,3,ae (eI .i64) aF,false,true,false⟩∧H 10=some ⟨aZ,3,ae (eI .i64) aB,bf,true,false⟩∧H 12=some ⟨aR,3,ae (eI .i64) aD,false,true,false⟩) (fun o x t H e=>match o with|(bg,aV)=>x=.exit 2∧∃bh:Nat,∃aW:Nat,t 8=.int .i64 aC∧t 9=.buf 9 bh 1 0 (bg).length∧t 12=.buf 12 aW 1 0 (aV).length∧H 9=some ⟨bh,3,ae (eI .i64) bg,false,true,false⟩∧H 12=some ⟨aW,3,ae (eI .i64) aV,false,true,false⟩) bO ?_ ?_ ?_
     ·refine⟨aY,aN,e+1,false,?_⟩;and_intros<;>first|rfl|(simp only[aG,seval,-Int.reduceToNat,ai,i14,Y,Z,X,aa,ad,i18,ah,bL,al,an,aq,aj,ar]<;>rfl)
     ·rintro⟨aE,aF,aD⟩ t H e ⟨bd,aZ,aR,bf,Zc⟩ c U;simp only[nc]at U;try simp only[aG,seval,-Int.reduceToNat,ai,i14,Y,Z,X,aa,ad,i18,ah,al,an,aq,aj,ar,Zc]
      apply sp ak U<;>intro _ U
      ·obtain⟨ct,bP,U⟩:=ab U;have au:=cq (eI .i64) bP;simp only[cF]at au;obtain⟨cu,bQ,U⟩:=ab U;have ay:=kD bQ;obtain⟨cv,bR,U⟩:=ab U;have av:=cq (eI .i64) bR;simp only[cF]at av;try simp only[aG,seval,-Int.reduceToNat,ai,i14,Y,Z,X,aa,ad,i18,ah,al,an,aq,aj,ar,Zc,au,ay,av]
       refine cW (by kernel_rfl) ?_;obtain⟨cw,bj,U⟩:=ab U;have O:=cq (eI .i64) bj;simp only[cF]at O;obtain⟨cx,bS,U⟩:=ab U;have az:=pZ bS;have O:=cq (eI .i64) bj;simp only[cF]at O;obtain⟨cy,bT,U⟩:=ab U;have aA:=vO bT;try simp only[aG,seval,-Int.reduceToNat,ai,i14,Y,Z,X,aa,ad,i18,ah,al,an,aq,aj,ar,Zc,au,ay,av,O,az,O,aA]
       refine cW (by kernel_rfl) ?_;try simp only[aG,seval,-Int.reduceToNat,ai,i14,Y,Z,X,aa,ad,i18,ah,al,an,aq,aj,ar,Zc,au,ay,av,O,az,O,aA]
       obtain⟨cf,bU,U⟩:=ab U;refine ax (fun s t H e=>match s with|(bk,bl)=>∃bb:Nat,∃aL:Nat,∃aM:Nat,∃aS:Bool,t 8=.int .i64 aC∧t 9=.buf 9 bb 1 0 (aF).length∧t 10=.buf 10 aL 1 0 (aB).length∧t 11=.int .i64 ((aB).length:Int)∧t 12=.buf 12 aM 1 0 (aD).length∧t 13=.int .i64 aE∧t 15=.int .i64 bk∧t 16=.int .i64 bl∧H 9=some ⟨bb,3,ae (eI .i64) aF,false,true,false⟩∧H 10=some ⟨aL,3,ae (eI .i64) aB,aS,true,false⟩∧H 12=some ⟨aM,3,ae (eI .i64) aD,false,true,false⟩) (fun o x t H e=>match o with|aX=>x=.exit 4∧∃a1:Nat,∃aO:Nat,∃aP:Nat,∃bm:Bool,t 8=.int .i64 aC∧t 9=.buf 9 a1 1 0 (aF).length∧t 10=.buf 10 aO 1 0 (aB).length∧t 11=.int .i64 ((aB).length:Int)∧t 12=.buf 12 aP 1 0 (aD).length∧t 13=.int .i64 aE∧t 15=.int .i64 aX∧H 9=some ⟨a1,3,ae (eI .i64) aF,false,true,false⟩∧H 10=some ⟨aO,3,ae (eI .i64) aB,bm,true,false⟩∧H 12=some ⟨aP,3,ae (eI .i64) aD,false,true,false⟩) bU ?_ ?_ ?_
       ·refine⟨bd,aZ,aR,bf,?_⟩;and_intros<;>first|rfl|(simp only[aG,seval,-Int.reduceToNat,ai,i14,Y,Z,X,aa,ad,i18,ah,al,an,aq,aj,ar,Zc,au,ay,av,O,az,O,aA]<;>rfl)
       ·rintro⟨bk,bl⟩ t H e ⟨bb,aL,aM,aS,Zg⟩ c U;simp only[nd]at U;try simp only[aG,seval,-Int.reduceToNat,ai,i14,Y,Z,X,aa,ad,i18,ah,al,an,aq,aj,ar,au,ay,av,O,az,O,aA,Zg]
        obtain⟨cg,bV,U⟩:=ab U;refine PW 0 (fun s t H e=>match s with|a6=>∃aT:Nat,∃aH:Nat,∃aI:Nat,∃aQ:Bool,t 8=.int .i64 aC∧t 9=.buf 9 aT 1 0 (aF).length∧t 10=.buf 10 aH 1 0 (aB).length∧t 11=.int .i64 ((aB).length:Int)∧t 12=.buf 12 aI 1 0 (aD).length∧t 13=.int .i64 aE∧t 15=.int .i64 bk∧t 16=.int .i64 bl∧t 137=.bool a6∧H 9=some ⟨aT,3,ae (eI .i64) aF,false,true,false⟩∧H 10=some ⟨aH,3,ae (eI .i64) aB,aQ,true,false⟩∧H 12=some ⟨aI,3,ae (eI .i64) aD,false,true,false⟩) (fun s=>s=cg) ?_ ?_
        ·rintro a6 t H e ⟨aT,aH,aI,aQ,bn⟩ rfl;try dsimp only at U
         try simp only[aG,seval,-Int.reduceToNat,ai,i14,Y,Z,X,aa,ad,i18,ah,al,an,aq,aj,ar,au,ay,av,O,az,O,aA,bn]
         apply sp ak U<;>intro _ U
         ·have O:=cq (eI .i64) bj;simp only[cF]at O;cases U;try simp only[aG,seval,-Int.reduceToNat,ai,i14,Y,Z,X,aa,ad,i18,ah,al,an,aq,aj,ar,au,ay,av,O,az,O,aA,bn,O]
          apply jQ;refine⟨aT,aH,aI,aQ,?_⟩;and_intros<;>first|rfl|(simp only[aG,seval,-Int.reduceToNat,ai,i14,Y,Z,X,aa,ad,i18,ah,al,an,aq,aj,ar,au,ay,av,O,az,O,aA,bn,O]<;>rfl)
         ·cases U;try simp only[aG,seval,-Int.reduceToNat,ai,i14,Y,Z,X,aa,ad,i18,ah,al,an,aq,aj,ar,au,ay,av,O,az,O,aA,bn]
          apply ku;refine⟨rfl,⟨aT,aH,aI,aQ,?_⟩⟩;and_intros<;>first|rfl|(simp only[aG,seval,-Int.reduceToNat,ai,i14,Y,Z,X,aa,ad,i18,ah,al,an,aq,aj,ar,au,ay,av,O,az,O,aA,bn]<;>rfl)
        ·clear U;have U:=bV;try simp only[aG,seval,-Int.reduceToNat,ai,i14,Y,Z,X,aa,ad,i18,ah,al,an,aq,aj,ar,au,ay,av,O,az,O,aA,Zg]
         apply sp HJ U<;>intro _ U
         ·try simp only[aG,seval,-Int.reduceToNat,ai,i14,Y,Z,X,aa,ad,i18,ah,al,an,aq,aj,ar,au,ay,av,O,az,O,aA,Zg]
          refine cW (by kernel_rfl) ?_;cases U;try simp only[aG,seval,-Int.reduceToNat,ai,i14,Y,Z,X,aa,ad,i18,ah,al,an,aq,aj,ar,au,ay,av,O,az,O,aA,Zg]
          rw[ao];refine⟨_,rfl,?_⟩;refine⟨bb,aL,aM,aS,?_⟩;and_intros<;>first|rfl|(simp only[aG,seval,-Int.reduceToNat,ai,i14,Y,Z,X,aa,ad,i18,ah,al,an,aq,aj,ar,au,ay,av,O,az,O,aA,Zg]<;>rfl)
         ·try simp only[aG,seval,-Int.reduceToNat,ai,i14,Y,Z,X,aa,ad,i18,ah,al,an,aq,aj,ar,au,ay,av,O,az,O,aA,Zg]
          apply sp vS U<;>intro _ U
          ·obtain⟨cz,bW,U⟩:=ab U;have a7:=cq (eI .i64) bW;simp only[cF]at a7;obtain⟨cA,bX,U⟩:=ab U;have bE:=kD bX;obtain⟨cB,bY,U⟩:=ab U;have a8:=cq (eI .i64) bY;simp only[cF]at a8;try simp only[aG,seval,-Int.reduceToNat,ai,i14,Y,Z,X,aa,ad,i18,ah,al,an,aq,aj,ar,au,ay,av,O,az,O,aA,Zg,a7,bE,a8]
           refine cW (by kernel_rfl) ?_;cases U;try simp only[aG,seval,-Int.reduceToNat,ai,i14,Y,Z,X,aa,ad,i18,ah,al,an,aq,aj,ar,au,ay,av,O,az,O,aA,Zg,a7,bE,a8]
           rw[ao];refine⟨_,rfl,?_⟩;refine⟨bb,aL,aM,aS,?_⟩;and_intros<;>first|rfl|(simp only[aG,seval,-Int.reduceToNat,ai,i14,Y,Z,X,aa,ad,i18,ah,al,an,aq,aj,ar,au,ay,av,O,az,O,aA,Zg,a7,bE,a8]<;>rfl)
          ·try simp only[aG,seval,-Int.reduceToNat,ai,i14,Y,Z,X,aa,ad,i18,ah,al,an,aq,aj,ar,au,ay,av,O,az,O,aA,Zg]
           refine cW (by kernel_rfl) ?_;cases U;try simp only[aG,seval,-Int.reduceToNat,ai,i14,Y,Z,X,aa,ad,i18,ah,al,an,aq,aj,ar,au,ay,av,O,az,O,aA,Zg]
           rw[ao];refine⟨_,rfl,?_⟩;refine⟨bb,aL,aM,aS,?_⟩;and_intros<;>first|rfl|(simp only[aG,seval,-Int.reduceToNat,ai,i14,Y,Z,X,aa,ad,i18,ah,al,an,aq,aj,ar,au,ay,av,O,az,O,aA,Zg]<;>rfl)
       ·rintro x t H e hx;obtain⟨aX,rfl⟩:∃z,z=cf:=⟨_,rfl⟩;dsimp only at hx U;obtain⟨rfl,⟨a1,aO,aP,bm,bZ⟩⟩:=hx;obtain⟨ch,aU,U⟩:=ab U;obtain⟨bu,bw,bx,ck,bo⟩:=SN (eI .i64) aU;simp only[cF]at bo;have i89:=yw (ae (eI .i64) (aF.take (aE).toNat)) (ae (eI .i64) (aF.drop (IntKind.i64.wrap ((IntKind.i64.wrap (aE+((aB).length:Int)))+1)).toNat)) ch aB aX;simp only[Q2,Q3 (eI .i64) aU,Q4 (eI .i64) aU,R1 aU,cF,Int.toNat_zero,Xu,Nat.sub_zero]at i89;obtain⟨b1,bp,U⟩:=ab U;have b2:=tH bp;have bz:=P0 aU b2;obtain⟨cC,bA,U⟩:=ab U;have bq:=cq (eI .i64) bA;simp only[cF]at bq;have bt:=nI (eI .i64) (x':=b1.2) (fo:=0) (cs:=[.int .i64 b1.2]) bA rfl (Xp rfl);simp only[cF,Nat.add_zero]at bt;have br:=bt;simp only[putCells,List.length_cons,List.length_nil,Wt,Nat.reduceAdd]at br;cases U;try simp only[aG,seval,-Int.reduceToNat,ai,i14,Y,Z,X,aa,ad,i18,ah,al,an,aq,aj,ar,au,ay,av,O,az,O,aA,bZ,bu,bw,bx,bo,i89,bp,bz,bq,bt,br]
        apply jQ;refine⟨a1,aO,aP,true,?_⟩;and_intros<;>first|rfl|(simp only[aG,seval,-Int.reduceToNat,ai,i14,Y,Z,X,aa,ad,i18,ah,al,an,aq,aj,ar,au,ay,av,O,az,O,aA,bZ,bu,bw,bx,bo,i89,bp,bz,bq,bt,br]<;>rfl)
      ·cases U;try simp only[aG,seval,-Int.reduceToNat,ai,i14,Y,Z,X,aa,ad,i18,ah,al,an,aq,aj,ar,Zc]
       apply ku;refine⟨rfl,⟨bd,aR,?_⟩⟩;and_intros<;>first|rfl|(simp only[aG,seval,-Int.reduceToNat,ai,i14,Y,Z,X,aa,ad,i18,ah,al,an,aq,aj,ar,Zc]<;>rfl)
     ·rintro x t H e hx;rcases cd with⟨bg,aV⟩;dsimp only at hx U;obtain⟨rfl,⟨bh,aW,cj⟩⟩:=hx;obtain⟨cD,b3,U⟩:=ab U;obtain⟨cE,b4,U⟩:=ab U;obtain⟨cG,b5,U⟩:=ab U;cases U;try simp only[aG,seval,-Int.reduceToNat,ai,i14,Y,Z,X,aa,ad,i18,ah,al,an,aq,aj,ar,cj,b3,b4,b5]
    ·clear U;have U:=bK;try simp only[aG,seval,-Int.reduceToNat,ai,ba,i14,Y,Z,X,aa,ad,i18,ah]
     apply sp ak U<;>intro _ U
     ·obtain⟨cH,b6,U⟩:=ab U;obtain⟨bB,bs,bC,bD⟩:=fT (eI .i64) b6;simp only[cF]at bs;cases U;try simp only[aG,seval,-Int.reduceToNat,ai,ba,i14,Y,Z,X,aa,ad,i18,ah,bB,bs,bC,bD]
      rw[ao];refine⟨_,rfl,?_⟩;refine⟨e+1+1,e,?_⟩;and_intros<;>first|rfl|(simp only[aG,seval,-Int.reduceToNat,ai,ba,i14,Y,Z,X,aa,ad,i18,ah,bB,bs,bC,bD]<;>rfl)
     ·cases U;try simp only[aG,seval,-Int.reduceToNat,ai,ba,i14,Y,Z,X,aa,ad,i18,ah]
      rw[ao];refine⟨_,rfl,?_⟩;refine⟨e,e,?_⟩;and_intros<;>first|rfl|(simp only[aG,seval,-Int.reduceToNat,ai,ba,i14,Y,Z,X,aa,ad,i18,ah]<;>rfl)
def pI (l:Option (D×Row)) (d:List D):=dR (gg (dm eF) (ee (dm eF))) (fun x:aH×aH=>pS x.1 x.2) (fun r:aH×Int =>.clean (.tup [.agg [.int .i64 r.1.an,.sl false false r.1.aa.length (ae (eI .i64) r.1.aa)],.int .i64 r.2])) l d
theorem vF {β:Type} {F:aH×aH->Option β} {R:β->RK} (X:Int) (O:(List Int)) (Y:Int) (U:(List Int)):dR (gg (dm eF) (ee (dm eF))) F R none [.agg [.int .i64 X,.sl false false O.length (ae (eI .i64) O)],.agg [.int .i64 Y,.sl false false U.length (ae (eI .i64) U)]]=(F ((aH.mk X O),(aH.mk Y U))).map fun r=>(R r,none):=b6 _ _ _ ((aH.mk X O),(aH.mk Y U))
theorem fL (X:Bool) (U:Int) (O:(List Int)):jM none [.bool X,.agg [.int .i64 U,.sl false false O.length (ae (eI .i64) O)]]=(eA X (aH.mk U O)).map fun r:aH×Int=>(.clean (.tup [.agg [.int .i64 r.1.an,.sl false false r.1.aa.length (ae (eI .i64) r.1.aa)],.int .i64 r.2]),none):=b6 _ _ _ (X,(aH.mk U O))
def tr:Env:=(Am.keep 6 (Am.ext (Am.ext (Am.ext (Am.ext (Am.ext bk 33 false bV) 48 false du) 49 false jM) 50 false iU) 51 false pL))
theorem Iv:bt prog tr:=(bt.keep (((((bt.none.add jf false).add mu false).add pg false).add n9 false).add IN false) 6)
theorem cK:type_of% (ai @w<|ai @BV<|ai @bV.eq_1<|ai @MW<|ai @du.eq_1<|ai @fL<|ai @jk<|ai @y7<|ai @pL.eq_1<|@tr.eq_1):=⟨@w,@BV,@bV.eq_1,@MW,@du.eq_1,@fL,@jk,@y7,@pL.eq_1,@tr.eq_1⟩
theorem IK:bN prog 34 pI:=bN.ig (mode := .clean) tok Iv mixed func34 (by kernel_rfl) (fun _ _=>rfl) (fun _=>by kernel_rfl) fun⟨p0,p1⟩ r O=>by
 replace O:pS p0 p1=some r:=O;apply aw rfl ntmps34 results34;simp only[im];unfold pS at O;obtain⟨r1,U,O⟩:=ab O;try simp only[cK,seval,U]
 obtain⟨o2,aC,O⟩:=ab O;refine b4 0 (fun s t H e=>match s with|Z=>∃ad:Nat,∃ah:Nat,∃Y:Nat,t 2=.ptr 2 ad 0∧t 3=.ptr 3 ah 0∧t 4=.ptr 4 Y 0∧t 17=.bool Z∧H 2=some ⟨ad,25,[.int .i64 p0.an,.sl false false p0.aa.length (ae (eI .i64) p0.aa)],false,false,false⟩∧H 3=some ⟨ah,25,[.int .i64 p1.an,.sl false false p1.aa.length (ae (eI .i64) p1.aa)],false,false,false⟩∧H 4=some ⟨Y,25,[.int .i64 0,.sl true true 0 []],false,false,false⟩) (fun s=>s=o2) ?_ ?_
 ·rintro Z t H e ⟨ad,ah,Y,ai⟩ rfl;try dsimp only at O
  try simp only[cK,seval,U,ai]
  apply sp ak O<;>intro _ O
  ·have i4:=fL false 0 ([]);simp only[aK,cF,List.length_cons,List.length_nil,Wt,Nat.reduceAdd,XE]at i4;obtain⟨r5,aD,O⟩:=ab O;cases O;try simp only[cK,seval,U,ai,i4,aD]
  ·obtain⟨r6,X,O⟩:=ab O;try simp only[cK,seval,U,ai,X]
   refine cW (by kernel_rfl) ?_;try simp only[cK,seval,U,ai,X]
   obtain⟨o9,aE,O⟩:=ab O;refine ax (fun s t H e=>match s with|(av,ay)=>∃aj:Nat,t 4=.ptr 4 aj 0∧t 6=.sl false false av.length (ae (eI .i64) av)∧t 7=.sl false false ay.length (ae (eI .i64) ay)∧H 4=some ⟨aj,25,[.int .i64 0,.sl true true 0 []],false,false,false⟩) (fun o x t H e=>match o with|al=>x=.exit 0∧∃aq:Nat,t 4=.ptr 4 aq 0∧t 6=.sl false false al.length (ae (eI .i64) al)∧H 4=some ⟨aq,25,[.int .i64 0,.sl true true 0 []],false,false,false⟩) aE ?_ ?_ ?_
   ·refine⟨Y,?_⟩;and_intros<;>first|rfl|(simp only[cK,seval,U,ai,X]<;>rfl)
   ·rintro⟨av,ay⟩ t H e ⟨aj,Zb⟩ c O;simp only[kP]at O;try simp only[cK,seval,U,X,Zb]
    apply sp ak O<;>intro _ O
    ·obtain⟨aG,ar,O⟩:=ab O;cases O;try simp only[cK,seval,U,X,Zb,ar]
     apply jQ;refine⟨aj,?_⟩;and_intros<;>first|rfl|(simp only[cK,seval,U,X,Zb,ar]<;>rfl)
    ·cases O;try simp only[cK,seval,U,X,Zb]
     apply ku;refine⟨rfl,⟨aj,?_⟩⟩;and_intros<;>first|rfl|(simp only[cK,seval,U,X,Zb]<;>rfl)
   ·rintro x t H e hx;obtain⟨al,rfl⟩:∃z,z=o9:=⟨_,rfl⟩;dsimp only at hx O;obtain⟨rfl,⟨aq,aF⟩⟩:=hx;obtain⟨aH,az,O⟩:=ab O;obtain⟨aI,aA,O⟩:=ab O;obtain⟨aJ,aB,O⟩:=ab O;cases O;try simp only[cK,seval,U,X,aF,az,aA,aB]
 ·clear O;have O:=aC;try simp only[cK,seval,U]
  apply sp bn O<;>intro _ O
  ·cases O;try simp only[cK,seval,U]
   rw[ao];refine⟨_,rfl,?_⟩;refine⟨0,0,0,?_⟩;and_intros<;>first|rfl|(simp only[cK,seval,U]<;>rfl)
  ·obtain⟨aL,au,O⟩:=ab O;cases O;try simp only[cK,seval,U,au]
   rw[ao];refine⟨_,rfl,?_⟩;refine⟨0,0,0,?_⟩;and_intros<;>first|rfl|(simp only[cK,seval,U,au]<;>rfl)
def pJ (l:Option (D×Row)) (d:List D):=dR (ee (dm eF)) (fun x:aH=>pT x) (fun r:Int×Bool =>.clean (.tup [.int .i64 r.1,.bool r.2])) l d
def tu:Env:=(Am.ext bk 33 false bV)
theorem Iw:bt prog tu:=(bt.none.add jf false)
theorem aM:type_of% (ai @w<|ai @BV<|ai @bV.eq_1<|@tu.eq_1):=⟨@w,@BV,@bV.eq_1,@tu.eq_1⟩
theorem IL:bN prog 52 pJ:=bN.ig (mode := .clean) tok Iw mixed func52 (by kernel_rfl) (fun _ _=>rfl) (fun _=>by kernel_rfl) fun Y r U=>by
 replace U:pT Y=some r:=U;apply aw rfl ntmps52 results52;simp only[im];unfold pT at U;obtain⟨r1,O,U⟩:=ab U;try simp only[aM,seval,-Int.reduceToNat,O]
 obtain⟨o2,aJ,U⟩:=ab U;refine b4 0 (fun s t H e=>match s with|ar=>∃ah:Nat,t 1=.ptr 1 ah 0∧t 15=.bool ar∧H 1=some ⟨ah,25,[.int .i64 Y.an,.sl false false Y.aa.length (ae (eI .i64) Y.aa)],false,false,false⟩) (fun s=>s=o2) ?_ ?_
 ·rintro ar t H e ⟨ah,aB⟩ rfl;try dsimp only at U
  try simp only[aM,seval,-Int.reduceToNat,O,aB]
  apply sp ak U<;>intro _ U
  ·cases U;try simp only[aM,seval,-Int.reduceToNat,O,aB]
  ·try simp only[aM,seval,-Int.reduceToNat,O,aB]
   obtain⟨aK,aD,U⟩:=ab U;refine ax (fun s t H e=>match s with|(aC,ai)=>∃al:Nat,t 1=.ptr 1 al 0∧t 4=.int .u64 aC∧t 17=.sl false false Y.aa.length (ae (eI .i64) Y.aa)∧t 18=.int .i64 (Y.aa.length:Int)∧t 19=.int .i64 ai∧H 1=some ⟨al,25,[.int .i64 Y.an,.sl false false Y.aa.length (ae (eI .i64) Y.aa)],false,false,false⟩) (fun o x t H e=>match o with|(.inl au)=>x=.exit 0∧∃Z:Nat,t 1=.ptr 1 Z 0∧t 4=.int .u64 au∧H 1=some ⟨Z,25,[.int .i64 Y.an,.sl false false Y.aa.length (ae (eI .i64) Y.aa)],false,false,false⟩|(.inr r)=>x=.ret∧fp .clean tab none [.tmp 2,.tmp 3] ⟨t,EH H,e⟩=some (.clean (.tup [.int .i64 r.1,.bool r.2]),none)) aD ?_ ?_ ?_
   ·refine⟨ah,?_⟩;and_intros<;>first|rfl|(simp only[aM,seval,-Int.reduceToNat,O,aB]<;>rfl)
   ·rintro⟨aC,ai⟩ t H e ⟨al,Zb⟩ c U;simp only[mY]at U;try simp only[aM,seval,-Int.reduceToNat,O,Zb]
    apply sp ak U<;>intro _ U
    ·obtain⟨aL,aE,U⟩:=ab U;have X:=cq (eI .i64) aE;simp only[cF]at X;try simp only[aM,seval,-Int.reduceToNat,O,Zb,X]
     obtain⟨aN,aF,U⟩:=ab U;refine b4 0 (fun s t H e=>match s with|av=>∃aj:Nat,t 1=.ptr 1 aj 0∧t 4=.int .u64 aC∧t 5=.int .i64 ai∧t 6=.int .i64 aL∧t 17=.sl false false Y.aa.length (ae (eI .i64) Y.aa)∧t 18=.int .i64 (Y.aa.length:Int)∧t 19=.int .i64 ai∧t 29=.bool av∧H 1=some ⟨aj,25,[.int .i64 Y.an,.sl false false Y.aa.length (ae (eI .i64) Y.aa)],false,false,false⟩) (fun s=>s=aN) ?_ ?_
     ·rintro av t H e ⟨aj,ay⟩ rfl;try dsimp only at U
      try simp only[aM,seval,-Int.reduceToNat,O,X,ay]
      apply sp ak U<;>intro _ U
      ·cases U;try simp only[aM,seval,-Int.reduceToNat,O,X,ay]
       refine DH ⟨rfl,?_⟩;try simp only[aM,seval,-Int.reduceToNat,O,X,ay]
      ·obtain⟨aP,aG,U⟩:=ab U;have aH:=kD aG;cases U;try simp only[aM,seval,-Int.reduceToNat,O,X,ay,aH]
       apply jQ;refine⟨aj,?_⟩;and_intros<;>first|rfl|(simp only[aM,seval,-Int.reduceToNat,O,X,ay,aH]<;>rfl)
     ·clear U;have U:=aF;try simp only[aM,seval,-Int.reduceToNat,O,Zb,X]
      apply sp bF U<;>intro _ U
      ·cases U;try simp only[aM,seval,-Int.reduceToNat,O,Zb,X]
       rw[ao];refine⟨_,rfl,?_⟩;refine⟨al,?_⟩;and_intros<;>first|rfl|(simp only[aM,seval,-Int.reduceToNat,O,Zb,X]<;>rfl)
      ·cases U;try simp only[aM,seval,-Int.reduceToNat,O,Zb,X]
       rw[ao];refine⟨_,rfl,?_⟩;refine⟨al,?_⟩;and_intros<;>first|rfl|(simp only[aM,seval,-Int.reduceToNat,O,Zb,X]<;>rfl)
    ·cases U;try simp only[aM,seval,-Int.reduceToNat,O,Zb]
     apply ku;refine⟨rfl,⟨al,?_⟩⟩;and_intros<;>first|rfl|(simp only[aM,seval,-Int.reduceToNat,O,Zb]<;>rfl)
   ·rintro x t H e hx;rcases aK with au|rb
    ·dsimp only at hx U;obtain⟨rfl,⟨Z,aq⟩⟩:=hx;try simp only[aM,seval,-Int.reduceToNat,O,aq]
     obtain⟨aO,aI,U⟩:=ab U;refine b4 0 (fun s t H e=>match s with|az=>∃aA:Nat,t 1=.ptr 1 aA 0∧t 4=.int .u64 au∧t 38=.bool az∧H 1=some ⟨aA,25,[.int .i64 Y.an,.sl false false Y.aa.length (ae (eI .i64) Y.aa)],false,false,false⟩) (fun s=>s=aO) ?_ ?_
     ·rintro az t H e ⟨aA,ad⟩ rfl;try dsimp only at U
      try simp only[aM,seval,-Int.reduceToNat,O,ad]
      apply sp ak U<;>intro _ U
      ·cases U;try simp only[aM,seval,-Int.reduceToNat,O,ad]
      ·try simp only[aM,seval,-Int.reduceToNat,O,ad]
       apply sp bF U<;>intro _ U
       ·try simp only[aM,seval,-Int.reduceToNat,O,ad]
        apply sp ak U<;>intro _ U
        ·cases U;try simp only[aM,seval,-Int.reduceToNat,O,ad]
        ·cases U;try simp only[aM,seval,-Int.reduceToNat,O,ad]
       ·cases U;try simp only[aM,seval,-Int.reduceToNat,O,ad]
     ·clear U;have U:=aI;try simp only[aM,seval,-Int.reduceToNat,O,aq]
      apply sp bF U<;>intro _ U
      ·cases U;try simp only[aM,seval,-Int.reduceToNat,O,aq]
       rw[ao];refine⟨_,rfl,?_⟩;refine⟨Z,?_⟩;and_intros<;>first|rfl|(simp only[aM,seval,-Int.reduceToNat,O,aq]<;>rfl)
      ·cases U;try simp only[aM,seval,-Int.reduceToNat,O,aq]
       rw[ao];refine⟨_,rfl,?_⟩;refine⟨Z,?_⟩;and_intros<;>first|rfl|(simp only[aM,seval,-Int.reduceToNat,O,aq]<;>rfl)
    ·dsimp only at hx U;obtain⟨rfl,hE⟩:=hx;cases U;try simp only[bf,aZ,bq,dD,dA,cI,cJ]
     exact hE
 ·clear U;have U:=aJ;try simp only[aM,seval,-Int.reduceToNat,O]
  apply sp bn U<;>intro _ U
  ·cases U;try simp only[aM,seval,-Int.reduceToNat,O]
   rw[ao];refine⟨_,rfl,?_⟩;refine⟨0,?_⟩;and_intros<;>first|rfl|(simp only[aM,seval,-Int.reduceToNat,O]<;>rfl)
  ·cases U;try simp only[aM,seval,-Int.reduceToNat,O]
   rw[ao];refine⟨_,rfl,?_⟩;refine⟨0,?_⟩;and_intros<;>first|rfl|(simp only[aM,seval,-Int.reduceToNat,O]<;>rfl)
def mR (l:Option (D×Row)) (d:List D):=dR (ee (dm eF)) (fun x:aH=>mI x) (fun r:Bool =>.clean (.bool r)) l d
def rf:Env:=(Am.ext bk 52 false pJ)
theorem Fk:bt prog rf:=(bt.none.add IL false)
theorem rL:type_of% (ai @w<|ai @BV<|ai @pJ.eq_1<|@rf.eq_1):=⟨@w,@BV,@pJ.eq_1,@rf.eq_1⟩
theorem GN:bN prog 35 mR:=bN.ig (mode := .clean) tok Fk mixed func35 (by kernel_rfl) (fun _ _=>rfl) (fun _=>by kernel_rfl) fun X r O=>by
 replace O:mI X=some r:=O;apply aw rfl ntmps35 results35;simp only[im];unfold mI at O;obtain⟨Y,U,O⟩:=ab O;try simp only[rL,seval,U]
 apply sp bF O<;>intro _ O
 ·cases O;try simp only[rL,seval,U]
 ·cases O;try simp only[rL,seval,U]
def dw (l:Option (D×Row)) (d:List D):=dR (ee (dm aC)) (fun x:au=>eR x) (fun r:Bool =>.clean (.bool r)) l d
theorem sR {β:Type} {F:au->Option β} {R:β->RK} (X:Int) (O:(List Int)) (Y:Int) (U:(List Int)):dR (ee (dm aC)) F R none [.agg [.int .i64 X,.sl false false O.length (ae (eI .i64) O),.int .i64 Y,.sl false false U.length (ae (eI .i64) U)]]=(F ((au.mk (aH.mk X O) (aH.mk Y U)))).map fun r=>(R r,none):=b6 _ _ _ ((au.mk (aH.mk X O) (aH.mk Y U)))
def ns:Env:=(Am.ext (Am.ext (Am.ext bk 33 false bV) 34 false pI) 35 false mR)
theorem zj:bt prog ns:=(((bt.none.add jf false).add IK false).add GN false)
theorem b5:type_of% (ai @w<|ai @BV<|ai @bV.eq_1<|ai @vF<|ai @pI.eq_1<|ai @mR.eq_1<|@ns.eq_1):=⟨@w,@BV,@bV.eq_1,@vF,@pI.eq_1,@mR.eq_1,@ns.eq_1⟩
theorem mv:bN prog 19 dw:=bN.ig (mode := .clean) tok zj mixed func19 (by kernel_rfl) (fun _ _=>rfl) (fun _=>by kernel_rfl) fun p0 r O=>by
 replace O:eR p0=some r:=O;apply aw rfl ntmps19 results19;simp only[im];unfold eR at O;obtain⟨r1,U,O⟩:=ab O;try simp only[b5,seval,U]
 obtain⟨o2,ai,O⟩:=ab O;refine b4 0 (fun s t H e=>match s with|X=>∃Y:Nat,t 1=.ptr 1 Y 0∧t 20=.bool X∧H 1=some ⟨Y,27,[.int .i64 p0.dQ.an,.sl false false p0.dQ.aa.length (ae (eI .i64) p0.dQ.aa),.int .i64 p0.dN.an,.sl false false p0.dN.aa.length (ae (eI .i64) p0.dN.aa)],false,false,false⟩) (fun s=>s=o2) ?_ ?_
 ·rintro X t H e ⟨Y,Z⟩ rfl;try dsimp only at O
  try simp only[b5,seval,U,Z]
  apply sp ak O<;>intro _ O
  ·cases O;try simp only[b5,seval,U,Z]
  ·obtain⟨r4,ah,O⟩:=ab O;try simp only[b5,seval,U,Z,ah]
   apply sp bF O<;>intro _ O
   ·obtain⟨r6,aj,O⟩:=ab O;cases O;try simp only[b5,seval,U,Z,ah,aj]
   ·cases O;try simp only[b5,seval,U,Z,ah]
 ·clear O;have O:=ai;try simp only[b5,seval,U]
  apply sp bn O<;>intro _ O
  ·cases O;try simp only[b5,seval,U]
   rw[ao];refine⟨_,rfl,?_⟩;refine⟨0,?_⟩;and_intros<;>first|rfl|(simp only[b5,seval,U]<;>rfl)
  ·obtain⟨r8,ad,O⟩:=ab O;try simp only[b5,seval,U,ad]
   apply sp bn O<;>intro _ O
   ·cases O;try simp only[b5,seval,U,ad]
    rw[ao];refine⟨_,rfl,?_⟩;refine⟨0,?_⟩;and_intros<;>first|rfl|(simp only[b5,seval,U,ad]<;>rfl)
   ·cases O;try simp only[b5,seval,U,ad]
    rw[ao];refine⟨_,rfl,?_⟩;refine⟨0,?_⟩;and_intros<;>first|rfl|(simp only[b5,seval,U,ad]<;>rfl)
def gB (l:Option (D×Row)) (d:List D):=dR (ee (dm aC)) (fun x:au=>gx x) (fun r:Bool =>.clean (.bool r)) l d
def jC:Env:=(Am.ext bk 19 false dw)
theorem sv:bt prog jC:=(bt.none.add mv false)
theorem tW:type_of% (ai @w<|ai @sR<|ai @dw.eq_1<|@jC.eq_1):=⟨@w,@sR,@dw.eq_1,@jC.eq_1⟩
theorem sL:bN prog 29 gB:=bN.ig (mode := .clean) tok sv mixed func29 (by kernel_rfl) (fun _ _=>rfl) (fun _=>by kernel_rfl) fun X r O=>by
 replace O:gx X=some r:=O;apply aw rfl ntmps29 results29;simp only[im];unfold gx at O;obtain⟨Y,U,O⟩:=ab O;cases O;try simp only[tW,seval,U]
def bS (l:Option (D×Row)) (d:List D):=dR (gg (gf aC) (ee (Qh 29))) (fun x:(List au)×Unit=>bB x.1) (fun r:Int =>.clean (.int .i64 r)) l d
theorem QT {β:Type} {F:(List au)×Unit->Option β} {R:β->RK} (O:(List au)):dR (gg (gf aC) (ee (Qh 29))) F R none [.sl false false O.length (ae aC O),.fn 29]=(F (O,())).map fun r=>(R r,none):=b6 _ _ _ (O,())
def cN:Env:=(Am.ext bk 29 false gB)
theorem iy:bt prog cN:=(bt.none.add sL false)
theorem aE:type_of% (ai @w<|ai @sR<|ai @gB.eq_1<|@cN.eq_1):=⟨@w,@sR,@gB.eq_1,@cN.eq_1⟩
theorem iA:bN prog 47 bS:=bN.ig (mode := .clean) tok iy mixed func47 (by kernel_rfl) (fun _ _=>rfl) (fun _=>by kernel_rfl) fun⟨p0,_⟩ r O=>by
 replace O:bB p0=some r:=O;apply aw rfl ntmps47 results47;simp only[im];unfold bB at O;try simp only[aE,seval]
 obtain⟨o5,aa,O⟩:=ab O;refine ax (fun s t H e=>match s with|Z=>t 0=.sl false false p0.length (ae aC p0)∧t 1=.fn 29∧t 7=.int .i64 (p0.length:Int)∧t 8=.int .i64 Z) (fun o x t H e=>match o with|(.inl _)=>x=.exit 0|(.inr r)=>x=.ret∧fp .clean tab none [.tmp 4] ⟨t,EH H,e⟩=some (.clean (.int .i64 r),none)) aa ?_ ?_ ?_
 ·and_intros<;>first|rfl|(simp only[aE,seval]<;>rfl)
 ·rintro Z t H e Y c O;simp only[bP]at O;try simp only[aE,seval,Y]
  apply sp ak O<;>intro _ O
  ·obtain⟨x7,ad,O⟩:=ab O;have U:=cq aC ad;simp only[cF]at U;obtain⟨r8,X,O⟩:=ab O;try simp only[aE,seval,Y,U,X]
   apply sp ak O<;>intro _ O
   ·cases O;try simp only[aE,seval,Y,U,X]
    refine DH ⟨rfl,?_⟩;try simp only[aE,seval,Y,U,X]
   ·cases O;try simp only[aE,seval,Y,U,X]
    apply jQ;and_intros<;>first|rfl|(simp only[aE,seval,Y,U,X]<;>rfl)
  ·cases O;try simp only[aE,seval,Y]
   apply ku;exact rfl
 ·rintro x t H e hx;rcases o5 with _|ra
  ·dsimp only at hx O;subst hx;cases O;try simp only[aE,seval]
  ·dsimp only at hx O;obtain⟨rfl,hE⟩:=hx;cases O;try simp only[bf,aZ,bq,dD,dA,cI,cJ]
   exact hE
def bD (l:Option (D×Row)) (d:List D):=dR (gg (gf aC) (ee (Qh 29))) (fun x:(List au)×Unit=>aX x.1) (fun r:Bool =>.clean (.bool r)) l d
def cn:Env:=(Am.ext bk 47 false bS)
theorem gF:bt prog cn:=(bt.none.add iA false)
theorem gU:type_of% (ai @w<|ai @QT<|ai @bS.eq_1<|@cn.eq_1):=⟨@w,@QT,@bS.eq_1,@cn.eq_1⟩
theorem gI:bN prog 28 bD:=bN.ig (mode := .clean) tok gF mixed func28 (by kernel_rfl) (fun _ _=>rfl) (fun _=>by kernel_rfl) fun⟨X,_⟩ r O=>by
 replace O:aX X=some r:=O;apply aw rfl ntmps28 results28;simp only[im];unfold aX at O;obtain⟨Y,U,O⟩:=ab O;cases O;try simp only[gU,seval,U]
def cS (l:Option (D×Row)) (d:List D):=dR (ee (gf aC)) (fun x:(List au)=>cm x) (fun r:Int =>.clean (.int .i64 r)) l d
theorem MD {β:Type} {F:(List au)->Option β} {R:β->RK} (O:(List au)):dR (ee (gf aC)) F R none [.sl false false O.length (ae aC O)]=(F (O)).map fun r=>(R r,none):=b6 _ _ _ (O)
def lq:Env:=(Am.ext (Am.ext bk 27 false hY) 28 false bD)
theorem vr:bt prog lq:=((bt.none.add tM false).add gI false)
theorem cZ:type_of% (ai @w<|ai @Uy<|ai @hY.eq_1<|ai @QT<|ai @bD.eq_1<|@lq.eq_1):=⟨@w,@Uy,@hY.eq_1,@QT,@bD.eq_1,@lq.eq_1⟩
theorem kc:bN prog 12 cS:=bN.ig (mode := .clean) tok vr mixed func12 (by kernel_rfl) (fun _ _=>rfl) (fun _=>by kernel_rfl) fun p0 r O=>by
 replace O:cm p0=some r:=O;apply aw rfl ntmps12 results12;simp only[im];unfold cm at O;obtain⟨r1,U,O⟩:=ab O;try simp only[cZ,seval,-Int.reduceToNat,U]
 apply sp bn O<;>intro _ O
 ·cases O;try simp only[cZ,seval,-Int.reduceToNat,U]
 ·try simp only[cZ,seval,-Int.reduceToNat,U]
  apply sp bn O<;>intro _ O
  ·cases O;try simp only[cZ,seval,-Int.reduceToNat,U]
  ·obtain⟨x4,Z,O⟩:=ab O;have Y:=kD Z;try simp only[cZ,seval,-Int.reduceToNat,U,Y]
   apply sp bn O<;>intro _ O
   ·cases O;try simp only[cZ,seval,-Int.reduceToNat,U,Y]
   ·obtain⟨r7,X,O⟩:=ab O;try simp only[cZ,seval,-Int.reduceToNat,U,Y,X]
    apply sp ak O<;>intro _ O
    ·cases O;try simp only[cZ,seval,-Int.reduceToNat,U,Y,X]
    ·cases O;try simp only[cZ,seval,-Int.reduceToNat,U,Y,X]
def pK (l:Option (D×Row)) (d:List D):=dR (gg (dm eF) (ee (dm eF))) (fun x:aH×aH=>pU x.1 x.2) (fun r:aH×Int =>.clean (.tup [.agg [.int .i64 r.1.an,.sl false false r.1.aa.length (ae (eI .i64) r.1.aa)],.int .i64 r.2])) l d
def tv:Env:=(Am.ext (Am.ext (Am.ext (Am.ext bk 33 false bV) 48 false du) 49 false jM) 65 false kF)
theorem Ix:bt prog tv:=((((bt.none.add jf false).add mu false).add pg false).add yj false)
theorem fP:type_of% (ai @w<|ai @BV<|ai @bV.eq_1<|ai @MW<|ai @du.eq_1<|ai @fL<|ai @y7<|ai @kF.eq_1<|@tv.eq_1):=⟨@w,@BV,@bV.eq_1,@MW,@du.eq_1,@fL,@y7,@kF.eq_1,@tv.eq_1⟩
theorem IM:bN prog 76 pK:=bN.ig (mode := .clean) tok Ix mixed func76 (by kernel_rfl) (fun _ _=>rfl) (fun _=>by kernel_rfl) fun⟨p0,p1⟩ r O=>by
 replace O:pU p0 p1=some r:=O;apply aw rfl ntmps76 results76;simp only[im];unfold pU at O;obtain⟨r1,U,O⟩:=ab O;try simp only[fP,seval,U]
 obtain⟨o2,ar,O⟩:=ab O;refine b4 0 (fun s t H e=>match s with|X=>∃Y:Nat,∃Z:Nat,∃ad:Nat,t 2=.ptr 2 Y 0∧t 3=.ptr 3 Z 0∧t 4=.ptr 4 ad 0∧t 13=.bool X∧H 2=some ⟨Y,25,[.int .i64 p0.an,.sl false false p0.aa.length (ae (eI .i64) p0.aa)],false,false,false⟩∧H 3=some ⟨Z,25,[.int .i64 p1.an,.sl false false p1.aa.length (ae (eI .i64) p1.aa)],false,false,false⟩∧H 4=some ⟨ad,25,[.int .i64 0,.sl true true 0 []],false,false,false⟩) (fun s=>s=o2) ?_ ?_
 ·rintro X t H e ⟨Y,Z,ad,ah⟩ rfl;try dsimp only at O
  try simp only[fP,seval,U,ah]
  apply sp ak O<;>intro _ O
  ·have i4:=fL false 0 ([]);simp only[aK,cF,List.length_cons,List.length_nil,Wt,Nat.reduceAdd,XE]at i4;obtain⟨r5,au,O⟩:=ab O;cases O;try simp only[fP,seval,U,ah,i4,au]
  ·obtain⟨r6,aj,O⟩:=ab O;obtain⟨r7,al,O⟩:=ab O;obtain⟨r8,aq,O⟩:=ab O;try simp only[fP,seval,U,ah,aj,al,aq]
   refine cW (by kernel_rfl) ?_;cases O;try simp only[fP,seval,U,ah,aj,al,aq]
 ·clear O;have O:=ar;try simp only[fP,seval,U]
  apply sp bn O<;>intro _ O
  ·cases O;try simp only[fP,seval,U]
   rw[ao];refine⟨_,rfl,?_⟩;refine⟨0,0,0,?_⟩;and_intros<;>first|rfl|(simp only[fP,seval,U]<;>rfl)
  ·obtain⟨av,ai,O⟩:=ab O;cases O;try simp only[fP,seval,U,ai]
   rw[ao];refine⟨_,rfl,?_⟩;refine⟨0,0,0,?_⟩;and_intros<;>first|rfl|(simp only[fP,seval,U,ai]<;>rfl)
def kh (l:Option (D×Row)) (d:List D):=dR (gg (dm eF) (ee (dm eF))) (fun x:aH×aH=>fu x.1 x.2) (fun r:aH =>.clean (.agg [.int .i64 r.an,.sl false false r.aa.length (ae (eI .i64) r.aa)])) l d
def nt:Env:=(Am.ext bk 76 false pK)
theorem zk:bt prog nt:=(bt.none.add IM false)
theorem DF:type_of% (ai @w<|ai @vF<|ai @pK.eq_1<|@nt.eq_1):=⟨@w,@vF,@pK.eq_1,@nt.eq_1⟩
theorem zo:bN prog 56 kh:=bN.ig (mode := .clean) tok zk mixed func56 (by kernel_rfl) (fun _ _=>rfl) (fun _=>by kernel_rfl) fun⟨X,Y⟩ r O=>by
 replace O:fu X Y=some r:=O;apply aw rfl ntmps56 results56;simp only[im];unfold fu at O;obtain⟨Z,U,O⟩:=ab O;cases O;try simp only[DF,seval,U]
def jL (l:Option (D×Row)) (d:List D):=dR (gg (dm eF) (ee (dm eF))) (fun x:aH×aH=>iJ x.1 x.2) (fun r:Int =>.clean (.int .i64 r)) l d
def mf:Env:=(Am.ext (Am.ext (Am.ext bk 33 false bV) 63 false eJ) 75 false eK)
theorem xv:bt prog mf:=(((bt.none.add jf false).add pj false).add pn false)
theorem cd:type_of% (ai @w<|ai @BV<|ai @bV.eq_1<|ai @y7<|ai @eJ.eq_1<|ai @Uz<|ai @eK.eq_1<|@mf.eq_1):=⟨@w,@BV,@bV.eq_1,@y7,@eJ.eq_1,@Uz,@eK.eq_1,@mf.eq_1⟩
theorem yi:bN prog 55 jL:=bN.ig (mode := .clean) tok xv mixed func55 (by kernel_rfl) (fun _ _=>rfl) (fun _=>by kernel_rfl) fun⟨p0,p1⟩ r O=>by
 replace O:iJ p0 p1=some r:=O;apply aw rfl ntmps55 results55;simp only[im];unfold iJ at O;obtain⟨r1,U,O⟩:=ab O;try simp only[cd,seval,U]
 obtain⟨o2,aj,O⟩:=ab O;refine b4 0 (fun s t H e=>match s with|Y=>∃Z:Nat,∃ad:Nat,t 2=.ptr 2 Z 0∧t 3=.ptr 3 ad 0∧t 12=.bool Y∧H 2=some ⟨Z,25,[.int .i64 p0.an,.sl false false p0.aa.length (ae (eI .i64) p0.aa)],false,false,false⟩∧H 3=some ⟨ad,25,[.int .i64 p1.an,.sl false false p1.aa.length (ae (eI .i64) p1.aa)],false,false,false⟩) (fun s=>s=o2) ?_ ?_
 ·rintro Y t H e ⟨Z,ad,X⟩ rfl;try dsimp only at O
  try simp only[cd,seval,U,X]
  apply sp ak O<;>intro _ O
  ·cases O;try simp only[cd,seval,U,X]
  ·try simp only[cd,seval,U,X]
   apply sp ak O<;>intro _ O
   ·obtain⟨r5,al,O⟩:=ab O;cases O;try simp only[cd,seval,U,X,al]
   ·obtain⟨r6,ah,O⟩:=ab O;try simp only[cd,seval,U,X,ah]
    refine cW (by kernel_rfl) ?_;cases O;try simp only[cd,seval,U,X,ah]
 ·clear O;have O:=aj;try simp only[cd,seval,U]
  apply sp bn O<;>intro _ O
  ·cases O;try simp only[cd,seval,U]
   rw[ao];refine⟨_,rfl,?_⟩;refine⟨0,0,?_⟩;and_intros<;>first|rfl|(simp only[cd,seval,U]<;>rfl)
  ·obtain⟨r8,ai,O⟩:=ab O;cases O;try simp only[cd,seval,U,ai]
   rw[ao];refine⟨_,rfl,?_⟩;refine⟨0,0,?_⟩;and_intros<;>first|rfl|(simp only[cd,seval,U,ai]<;>rfl)
def iT (l:Option (D×Row)) (d:List D):=dR (gg (dm aC) (ee (dm aC))) (fun x:au×au=>fq x.1 x.2) (fun r:Int =>.clean (.int .i64 r)) l d
theorem QU {β:Type} {F:au×au->Option β} {R:β->RK} (Z:Int) (O:(List Int)) (aa:Int) (U:(List Int)) (ab:Int) (X:(List Int)) (ad:Int) (Y:(List Int)):dR (gg (dm aC) (ee (dm aC))) F R none [.agg [.int .i64 Z,.sl false false O.length (ae (eI .i64) O),.int .i64 aa,.sl false false U.length (ae (eI .i64) U)],.agg [.int .i64 ab,.sl false false X.length (ae (eI .i64) X),.int .i64 ad,.sl false false Y.length (ae (eI .i64) Y)]]=(F ((au.mk (aH.mk Z O) (aH.mk aa U)),(au.mk (aH.mk ab X) (aH.mk ad Y)))).map fun r=>(R r,none):=b6 _ _ _ ((au.mk (aH.mk Z O) (aH.mk aa U)),(au.mk (aH.mk ab X) (aH.mk ad Y)))
def ln:Env:=(Am.ext (Am.ext (Am.ext bk 19 false dw) 55 false jL) 56 false kh)
theorem vo:bt prog ln:=(((bt.none.add mv false).add yi false).add zo false)
theorem cA:type_of% (ai @w<|ai @sR<|ai @dw.eq_1<|ai @vF<|ai @jL.eq_1<|ai @kh.eq_1<|@ln.eq_1):=⟨@w,@sR,@dw.eq_1,@vF,@jL.eq_1,@kh.eq_1,@ln.eq_1⟩
theorem vx:bN prog 39 iT:=bN.ig (mode := .clean) tok vo mixed func39 (by kernel_rfl) (fun _ _=>rfl) (fun _=>by kernel_rfl) fun⟨p0,p1⟩ r O=>by
 replace O:fq p0 p1=some r:=O;apply aw rfl ntmps39 results39;simp only[im];unfold fq at O;obtain⟨r1,U,O⟩:=ab O;try simp only[cA,seval,U]
 obtain⟨o2,aq,O⟩:=ab O;refine b4 0 (fun s t H e=>match s with|X=>∃Y:Nat,∃Z:Nat,t 2=.ptr 2 Y 0∧t 3=.ptr 3 Z 0∧t 12=.bool X∧H 2=some ⟨Y,27,[.int .i64 p0.dQ.an,.sl false false p0.dQ.aa.length (ae (eI .i64) p0.dQ.aa),.int .i64 p0.dN.an,.sl false false p0.dN.aa.length (ae (eI .i64) p0.dN.aa)],false,false,false⟩∧H 3=some ⟨Z,27,[.int .i64 p1.dQ.an,.sl false false p1.dQ.aa.length (ae (eI .i64) p1.dQ.aa),.int .i64 p1.dN.an,.sl false false p1.dN.aa.length (ae (eI .i64) p1.dN.aa)],false,false,false⟩) (fun s=>s=o2) ?_ ?_
 ·rintro X t H e ⟨Y,Z,ad⟩ rfl;try dsimp only at O
  try simp only[cA,seval,U,ad]
  apply sp ak O<;>intro _ O
  ·cases O;try simp only[cA,seval,U,ad]
  ·obtain⟨r4,ah,O⟩:=ab O;obtain⟨r5,ai,O⟩:=ab O;obtain⟨r6,aj,O⟩:=ab O;try simp only[cA,seval,U,ad,ah,ai,aj]
   refine cW (by kernel_rfl) ?_;cases O;try simp only[cA,seval,U,ad,ah,ai,aj]
 ·clear O;have O:=aq;try simp only[cA,seval,U]
  apply sp bn O<;>intro _ O
  ·cases O;try simp only[cA,seval,U]
   rw[ao];refine⟨_,rfl,?_⟩;refine⟨0,0,?_⟩;and_intros<;>first|rfl|(simp only[cA,seval,U]<;>rfl)
  ·obtain⟨r8,al,O⟩:=ab O;cases O;try simp only[cA,seval,U,al]
   rw[ao];refine⟨_,rfl,?_⟩;refine⟨0,0,?_⟩;and_intros<;>first|rfl|(simp only[cA,seval,U,al]<;>rfl)
def eo (l:Option (D×Row)) (d:List D):=dR (gg (dm tl) (ee (aI .i64))) (fun x:iH×Int=>bE x.1 x.2) (fun r:Bool =>.clean (.bool r)) l d
theorem TG {β:Type} {F:iH×Int->Option β} {R:β->RK} (O:(List au)) (Y:Int) (U:(List Int)) (Z:Int) (X:(List Int)) (p1:Int):dR (gg (dm tl) (ee (aI .i64))) F R none [.agg [.sl false false O.length (ae aC O),.int .i64 Y,.sl false false U.length (ae (eI .i64) U),.int .i64 Z,.sl false false X.length (ae (eI .i64) X)],.int .i64 p1]=(F ((iH.mk O (au.mk (aH.mk Y U) (aH.mk Z X))),p1)).map fun r=>(R r,none):=b6 _ _ _ ((iH.mk O (au.mk (aH.mk Y U) (aH.mk Z X))),p1)
def fR:Env:=(Am.ext bk 39 false iT)
theorem nw:bt prog fR:=(bt.none.add vx false)
theorem jt:type_of% (ai @w<|ai @QU<|ai @iT.eq_1<|@fR.eq_1):=⟨@w,@QU,@iT.eq_1,@fR.eq_1⟩
theorem nG:bN prog 21 eo:=bN.ig (mode := .clean) tok nw mixed func21 (by kernel_rfl) (fun _ _=>rfl) (fun _=>by kernel_rfl) fun⟨Z,p1⟩ r O=>by
 replace O:bE Z p1=some r:=O;apply aw rfl ntmps21 results21;simp only[im];unfold bE at O;obtain⟨x1,Y,O⟩:=ab O;have U:=cq aC Y;simp only[cF]at U;obtain⟨r2,X,O⟩:=ab O;try simp only[jt,seval,U,X]
 refine cW (by kernel_rfl) ?_;cases O;try simp only[jt,seval,U,X]
def jP (l:Option (D×Row)) (d:List D):=dR (ee (aI .i64)) (fun x:Int=>iP x) (fun r:(List Int) =>.clean (.sl false false r.length (ae (eI .i64) r))) l d
theorem ym:bN prog 36 jP:=bN.ig (mode := .clean) tok bt.none mixed func36 (by kernel_rfl) (fun _ _=>rfl) (fun _=>by kernel_rfl) fun p0 r O=>by
 replace O:iP p0=some r:=O;apply aw rfl ntmps36 results36;simp only[im];unfold iP at O;try simp only[w,seval,-Int.reduceToNat]
 obtain⟨o7,ao,O⟩:=ab O;refine ax (fun s t H e=>match s with|(al,aj)=>∃U:Nat,t 0=.int .i64 p0∧t 3=.buf 3 U 1 0 (aj).length∧t 6=.int .i64 al∧H 3=some ⟨U,3,ae (eI .i64) aj,false,true,false⟩) (fun o x t H e=>match o with|X=>x=.exit 0∧∃Y:Nat,t 3=.buf 3 Y 1 0 (X).length∧H 3=some ⟨Y,3,ae (eI .i64) X,false,true,false⟩) ao ?_ ?_ ?_
 ·refine⟨1,?_⟩;and_intros<;>first|rfl|(simp only[w,seval,-Int.reduceToNat]<;>rfl)
 ·rintro⟨al,aj⟩ t H e ⟨U,Za⟩ c O;simp only[pE]at O;try simp only[w,seval,-Int.reduceToNat,Za]
  apply sp ak O<;>intro _ O
  ·obtain⟨x9,aq,O⟩:=ab O;have Z:=kE aq;try simp only[w,seval,-Int.reduceToNat,Za,Z]
   apply sp ak O<;>intro _ O
   ·obtain⟨au,an,O⟩:=ab O;obtain⟨ad,aa,ah,ai⟩:=fT (eI .i64) an;simp only[cF]at aa;cases O;try simp only[w,seval,-Int.reduceToNat,Za,Z,ad,aa,ah,ai]
    apply jQ;refine⟨e+1+1+1,?_⟩;and_intros<;>first|rfl|(simp only[w,seval,-Int.reduceToNat,Za,Z,ad,aa,ah,ai]<;>rfl)
   ·cases O;try simp only[w,seval,-Int.reduceToNat,Za,Z]
    apply jQ;refine⟨U,?_⟩;and_intros<;>first|rfl|(simp only[w,seval,-Int.reduceToNat,Za,Z]<;>rfl)
  ·cases O;try simp only[w,seval,-Int.reduceToNat,Za]
   apply ku;refine⟨rfl,⟨U,?_⟩⟩;and_intros<;>first|rfl|(simp only[w,seval,-Int.reduceToNat,Za]<;>rfl)
 ·rintro x t H e hx;obtain⟨X,rfl⟩:∃z,z=o7:=⟨_,rfl⟩;dsimp only at hx O;obtain⟨rfl,⟨Y,ar⟩⟩:=hx;cases O;try simp only[w,seval,-Int.reduceToNat,ar]
def cD:=QJ 23 (dp (eI .i64)) (ee (Qh 38)) (fun (l:(List (List Int))) (_:Unit)=>a7 l) (fun _:Unit =>.clean (.tup []))
theorem iC (pre post:List D) (O:(List (List Int))):cD (some (.buf 0 0 1 pre.length O.length,⟨0,23,pre++(ae (dp (eI .i64)) O++post),false,true,false⟩)) [.fn 38]=(a7 O).map fun r=>(.clean (.tup []),some ⟨0,23,pre++(ae (dp (eI .i64)) r.1++post),false,true,false⟩):=OU _ _ _ _ _ pre post O ()
theorem gW:bN prog 37 cD:=GS 23
def bT (l:Option (D×Row)) (d:List D):=dR (gg (aI .i64) (ee (R7 21 1 (ee (dm tl))))) (fun x:Int×(iH)=>bd x.1 x.2) (fun r:(List (List Int)) =>.clean (.sl false false r.length (ae (dp (eI .i64)) r))) l d
theorem TH {β:Type} {F:Int×(iH)->Option β} {R:β->RK} (p0:Int) (O:(List au)) (Y:Int) (U:(List Int)) (Z:Int) (X:(List Int)):dR (gg (aI .i64) (ee (R7 21 1 (ee (dm tl))))) F R none [.int .i64 p0,.clo 21 1 [.agg [.sl false false O.length (ae aC O),.int .i64 Y,.sl false false U.length (ae (eI .i64) U),.int .i64 Z,.sl false false X.length (ae (eI .i64) X)]]]=(F (p0,((iH.mk O (au.mk (aH.mk Y U) (aH.mk Z X)))))).map fun r=>(R r,none):=b6 _ _ _ (p0,((iH.mk O (au.mk (aH.mk Y U) (aH.mk Z X)))))
def cO:Env:=(Am.ext (Am.ext (Am.ext bk 21 false eo) 36 false jP) 37 true cD)
theorem iz:bt prog cO:=(((bt.none.add nG false).add ym false).add gW true)
theorem ah:type_of% (ai @w<|ai @TG<|ai @eo.eq_1<|ai @K9<|ai @jP.eq_1<|@cO.eq_1):=⟨@w,@TG,@eo.eq_1,@K9,@jP.eq_1,@cO.eq_1⟩
theorem iB:bN prog 20 bT:=bN.ig (mode := .clean) tok iz mixed func20 (by kernel_rfl) (fun _ _=>rfl) (fun _=>by kernel_rfl) fun⟨p0,O⟩ r X=>by
 replace X:bd p0 O=some r:=X;apply aw rfl ntmps20 results20;simp only[im];unfold bd at X;obtain⟨x1,aS,X⟩:=ab X;have Y:=kD aS;try simp only[ah,seval,-Int.reduceToNat,Y]
 obtain⟨aT,aN,X⟩:=ab X;refine ax (fun s t H e=>match s with|(Z,ai)=>∃av:Nat,t 1=.clo 21 1 [.agg [.sl false false O.eY.length (ae aC O.eY),.int .i64 O.bc.dQ.an,.sl false false O.bc.dQ.aa.length (ae (eI .i64) O.bc.dQ.aa),.int .i64 O.bc.dN.an,.sl false false O.bc.dN.aa.length (ae (eI .i64) O.bc.dN.aa)]]∧t 5=.buf 5 av 1 0 (ai).length∧t 10=.int .i64 x1∧t 11=.int .i64 Z∧H 5=some ⟨av,23,ae (dp (eI .i64)) ai,false,true,false⟩) (fun o x t H e=>match o with|aq=>x=.exit 0∧∃ay:Nat,t 5=.buf 5 ay 1 0 (aq).length∧H 5=some ⟨ay,23,ae (dp (eI .i64)) aq,false,true,false⟩) aN ?_ ?_ ?_
 ·refine⟨1,?_⟩;and_intros<;>first|rfl|(simp only[ah,seval,-Int.reduceToNat,Y]<;>rfl)
 ·rintro⟨Z,ai⟩ t H e ⟨av,Za⟩ c X;simp only[bh]at X;try simp only[ah,seval,-Int.reduceToNat,Y,Za]
  apply sp ak X<;>intro _ X
  ·obtain⟨aX,U,X⟩:=ab X;try simp only[ah,seval,-Int.reduceToNat,Y,Za,U]
   obtain⟨aU,aO,X⟩:=ab X;refine ax (fun s t H e=>match s with|(aL,aM)=>∃az:Nat,t 1=.clo 21 1 [.agg [.sl false false O.eY.length (ae aC O.eY),.int .i64 O.bc.dQ.an,.sl false false O.bc.dQ.aa.length (ae (eI .i64) O.bc.dQ.aa),.int .i64 O.bc.dN.an,.sl false false O.bc.dN.aa.length (ae (eI .i64) O.bc.dN.aa)]]∧t 5=.buf 5 az 1 0 (ai).length∧t 6=.int .i64 Z∧t 7=.bool aL∧t 8=.int .i64 aM∧t 10=.int .i64 x1∧t 11=.int .i64 Z∧H 5=some ⟨az,23,ae (dp (eI .i64)) ai,false,true,false⟩) (fun o x t H e=>match o with|aE=>x=.exit 2∧∃ar:Nat,t 1=.clo 21 1 [.agg [.sl false false O.eY.length (ae aC O.eY),.int .i64 O.bc.dQ.an,.sl false false O.bc.dQ.aa.length (ae (eI .i64) O.bc.dQ.aa),.int .i64 O.bc.dN.an,.sl false false O.bc.dN.aa.length (ae (eI .i64) O.bc.dN.aa)]]∧t 5=.buf 5 ar 1 0 (ai).length∧t 6=.int .i64 Z∧t 7=.bool aE∧t 10=.int .i64 x1∧t 11=.int .i64 Z∧H 5=some ⟨ar,23,ae (dp (eI .i64)) ai,false,true,false⟩) aO ?_ ?_ ?_
   ·refine⟨av,?_⟩;and_intros<;>first|rfl|(simp only[ah,seval,-Int.reduceToNat,Y,Za,U]<;>rfl)
   ·rintro⟨aL,aM⟩ t H e ⟨az,Ze⟩ c X;simp only[aP]at X;try simp only[ah,seval,-Int.reduceToNat,Y,U,Ze]
    obtain⟨aV,aQ,X⟩:=ab X;refine b4 0 (fun s t H e=>match s with|aA=>∃ad:Nat,t 1=.clo 21 1 [.agg [.sl false false O.eY.length (ae aC O.eY),.int .i64 O.bc.dQ.an,.sl false false O.bc.dQ.aa.length (ae (eI .i64) O.bc.dQ.aa),.int .i64 O.bc.dN.an,.sl false false O.bc.dN.aa.length (ae (eI .i64) O.bc.dN.aa)]]∧t 5=.buf 5 ad 1 0 (ai).length∧t 6=.int .i64 Z∧t 7=.bool aL∧t 8=.int .i64 aM∧t 10=.int .i64 x1∧t 11=.int .i64 Z∧t 26=.bool aA∧H 5=some ⟨ad,23,ae (dp (eI .i64)) ai,false,true,false⟩) (fun s=>s=aV) ?_ ?_
    ·rintro aA t H e ⟨ad,aj⟩ rfl;try dsimp only at X
     try simp only[ah,seval,-Int.reduceToNat,Y,U,aj]
     apply sp ak X<;>intro _ X
     ·obtain⟨aY,al,X⟩:=ab X;try simp only[ah,seval,-Int.reduceToNat,Y,U,aj,al]
      apply sp ak X<;>intro _ X
      ·cases X;try simp only[ah,seval,-Int.reduceToNat,Y,U,aj,al]
       apply ku;refine⟨rfl,⟨ad,?_⟩⟩;and_intros<;>first|rfl|(simp only[ah,seval,-Int.reduceToNat,Y,U,aj,al]<;>rfl)
      ·cases X;try simp only[ah,seval,-Int.reduceToNat,Y,U,aj,al]
       apply jQ;refine⟨ad,?_⟩;and_intros<;>first|rfl|(simp only[ah,seval,-Int.reduceToNat,Y,U,aj,al]<;>rfl)
     ·cases X;try simp only[ah,seval,-Int.reduceToNat,Y,U,aj]
      apply ku;refine⟨rfl,⟨ad,?_⟩⟩;and_intros<;>first|rfl|(simp only[ah,seval,-Int.reduceToNat,Y,U,aj]<;>rfl)
    ·clear X;have X:=aQ;try simp only[ah,seval,-Int.reduceToNat,Y,U,Ze]
     apply sp bF X<;>intro _ X
     ·cases X;try simp only[ah,seval,-Int.reduceToNat,Y,U,Ze]
      rw[ao];refine⟨_,rfl,?_⟩;refine⟨az,?_⟩;and_intros<;>first|rfl|(simp only[ah,seval,-Int.reduceToNat,Y,U,Ze]<;>rfl)
     ·cases X;try simp only[ah,seval,-Int.reduceToNat,Y,U,Ze]
      rw[ao];refine⟨_,rfl,?_⟩;refine⟨az,?_⟩;and_intros<;>first|rfl|(simp only[ah,seval,-Int.reduceToNat,Y,U,Ze]<;>rfl)
   ·rintro x t H e hx;obtain⟨aE,rfl⟩:∃z,z=aU:=⟨_,rfl⟩;dsimp only at hx X;obtain⟨rfl,⟨ar,aB⟩⟩:=hx;try simp only[ah,seval,-Int.reduceToNat,Y,U,aB]
    apply sp ak X<;>intro _ X
    ·obtain⟨aZ,aF,X⟩:=ab X;obtain⟨a1,aR,X⟩:=ab X;obtain⟨aG,aD,aH,aI⟩:=fT (dp (eI .i64)) aR;simp only[cF]at aD;cases X;try simp only[ah,seval,-Int.reduceToNat,Y,U,aB,aF,aG,aD,aH,aI]
     apply jQ;refine⟨e+1,?_⟩;and_intros<;>first|rfl|(simp only[ah,seval,-Int.reduceToNat,Y,U,aB,aF,aG,aD,aH,aI]<;>rfl)
    ·cases X;try simp only[ah,seval,-Int.reduceToNat,Y,U,aB]
     apply jQ;refine⟨ar,?_⟩;and_intros<;>first|rfl|(simp only[ah,seval,-Int.reduceToNat,Y,U,aB]<;>rfl)
  ·cases X;try simp only[ah,seval,-Int.reduceToNat,Y,Za]
   apply ku;refine⟨rfl,⟨av,?_⟩⟩;and_intros<;>first|rfl|(simp only[ah,seval,-Int.reduceToNat,Y,Za]<;>rfl)
 ·rintro x t H e hx;obtain⟨aq,rfl⟩:∃z,z=aT:=⟨_,rfl⟩;dsimp only at hx X;obtain⟨rfl,⟨ay,aW⟩⟩:=hx;have i38:=iC [] [] aq;try simp only[List.nil_append,Xx,List.length_nil,aK,XE,cF]at i38
  obtain⟨a6,aJ,X⟩:=ab X;have au:=gT aJ;replace au:=au.symm;try simp only[au]at i38
  cases X;try simp only[ah,seval,-Int.reduceToNat,Y,aW,i38,aJ,au]
def cg (l:Option (D×Row)) (d:List D):=dR (gg (gf aC) (ee (dm aC))) (fun x:(List au)×au=>bs x.1 x.2) (fun r:(List (List Int))×Int =>.clean (.tup [.sl false false r.1.length (ae (dp (eI .i64)) r.1),.int .i64 r.2])) l d
theorem zu {β:Type} {F:(List au)×au->Option β} {R:β->RK} (Z:(List au)) (X:Int) (O:(List Int)) (Y:Int) (U:(List Int)):dR (gg (gf aC) (ee (dm aC))) F R none [.sl false false Z.length (ae aC Z),.agg [.int .i64 X,.sl false false O.length (ae (eI .i64) O),.int .i64 Y,.sl false false U.length (ae (eI .i64) U)]]=(F (Z,(au.mk (aH.mk X O) (aH.mk Y U)))).map fun r=>(R r,none):=b6 _ _ _ (Z,(au.mk (aH.mk X O) (aH.mk Y U)))
def jD:Env:=(Am.ext (Am.ext (Am.ext bk 12 false cS) 19 false dw) 20 false bT)
theorem sw:bt prog jD:=(((bt.none.add kc false).add mv false).add iB false)
theorem bH:type_of% (ai @w<|ai @MD<|ai @cS.eq_1<|ai @sR<|ai @dw.eq_1<|ai @TH<|ai @bT.eq_1<|@jD.eq_1):=⟨@w,@MD,@cS.eq_1,@sR,@dw.eq_1,@TH,@bT.eq_1,@jD.eq_1⟩
theorem jh:bN prog 9 cg:=bN.ig (mode := .clean) tok sw mixed func9 (by kernel_rfl) (fun _ _=>rfl) (fun _=>by kernel_rfl) fun⟨p0,p1⟩ r O=>by
 replace O:bs p0 p1=some r:=O;apply aw rfl ntmps9 results9;simp only[im];unfold bs at O;obtain⟨r1,U,O⟩:=ab O;try simp only[bH,seval,U]
 obtain⟨o2,ai,O⟩:=ab O;refine b4 0 (fun s t H e=>match s with|X=>∃Y:Nat,t 0=.sl false false p0.length (ae aC p0)∧t 3=.ptr 3 Y 0∧t 6=.int .i64 r1∧t 17=.bool X∧H 3=some ⟨Y,27,[.int .i64 p1.dQ.an,.sl false false p1.dQ.aa.length (ae (eI .i64) p1.dQ.aa),.int .i64 p1.dN.an,.sl false false p1.dN.aa.length (ae (eI .i64) p1.dN.aa)],false,false,false⟩) (fun s=>s=o2) ?_ ?_
 ·rintro X t H e ⟨Y,Z⟩ rfl;try dsimp only at O
  try simp only[bH,seval,U,Z]
  apply sp ak O<;>intro _ O
  ·cases O;try simp only[bH,seval,U,Z]
  ·obtain⟨r4,ad,O⟩:=ab O;try simp only[bH,seval,U,Z,ad]
   apply sp ak O<;>intro _ O
   ·cases O;try simp only[bH,seval,U,Z,ad]
   ·cases O;try simp only[bH,seval,U,Z,ad]
 ·clear O;have O:=ai;try simp only[bH,seval,U]
  apply sp bn O<;>intro _ O
  ·cases O;try simp only[bH,seval,U]
   rw[ao];refine⟨_,rfl,?_⟩;refine⟨0,?_⟩;and_intros<;>first|rfl|(simp only[bH,seval,U]<;>rfl)
  ·obtain⟨r7,ah,O⟩:=ab O;cases O;try simp only[bH,seval,U,ah]
   rw[ao];refine⟨_,rfl,?_⟩;refine⟨0,?_⟩;and_intros<;>first|rfl|(simp only[bH,seval,U,ah]<;>rfl)
def cQ (l:Option (D×Row)) (d:List D):=dR (gg (gf aC) (ee (dm aC))) (fun x:(List au)×au=>ec x.1 x.2) (fun r:(List (List Int))×Int =>.clean (.tup [.sl false false r.1.length (ae (dp (eI .i64)) r.1),.int .i64 r.2])) l d
def mo:Env:=(Am.ext bk 9 false cg)
theorem xC:bt prog mo:=(bt.none.add jh false)
theorem cB:type_of% (ai @w<|ai @zu<|ai @cg.eq_1<|@mo.eq_1):=⟨@w,@zu,@cg.eq_1,@mo.eq_1⟩
theorem ji:bN prog 7 cQ:=bN.ig (mode := .clean) tok xC mixed func7 (by kernel_rfl) (fun _ _=>rfl) (fun _=>by kernel_rfl) fun⟨p0,p1⟩ r O=>by
 replace O:ec p0 p1=some r:=O;apply aw rfl ntmps7 results7;simp only[im];unfold ec at O;obtain⟨r1,U,O⟩:=ab O;try simp only[cB,seval,U]
 obtain⟨o8,au,O⟩:=ab O;refine ax (fun s t H e=>match s with|ah=>t 6=.sl false false r1.1.length (ae (dp (eI .i64)) r1.1)∧t 7=.int .i64 r1.2∧t 16=.sl false false r1.1.length (ae (dp (eI .i64)) r1.1)∧t 17=.int .i64 (r1.1.length:Int)∧t 18=.int .i64 ah) (fun o x t H e=>match o with|(.inl _)=>x=.exit 0∧t 6=.sl false false r1.1.length (ae (dp (eI .i64)) r1.1)∧t 7=.int .i64 r1.2|(.inr r)=>x=.ret∧fp .clean tab none [.tmp 4,.tmp 5] ⟨t,EH H,e⟩=some (.clean (.tup [.sl false false r.1.length (ae (dp (eI .i64)) r.1),.int .i64 r.2]),none)) au ?_ ?_ ?_
 ·and_intros<;>first|rfl|(simp only[cB,seval,U]<;>rfl)
 ·rintro ah t H e Za c O;simp only[jn]at O;try simp only[cB,seval,U,Za]
  apply sp ak O<;>intro _ O
  ·obtain⟨ay,aq,O⟩:=ab O;have Y:=cq (dp (eI .i64)) aq;simp only[cF]at Y;obtain⟨az,ai,O⟩:=ab O;have X:=cq (dp (eI .i64)) ai;simp only[cF]at X;have Z:=Te (dp (eI .i64)) ai;simp only[cF]at Z;try simp only[cB,seval,U,Za,Y,X,Z]
   apply sp ak O<;>intro _ O
   ·obtain⟨aA,ar,O⟩:=ab O;obtain⟨aj,al,an,ao,aa⟩:=yK (dp (eI .i64)) ar;simp only[cF]at aa;have ad:=aa;try simp only[X]at ad
    cases O;try simp only[cB,seval,U,Za,Y,X,Z,aj,al,an,ao,aa,ad]
    refine DH ⟨rfl,?_⟩;try simp only[cB,seval,U,Za,Y,X,Z,aj,al,an,ao,aa,ad]
   ·cases O;try simp only[cB,seval,U,Za,Y,X,Z]
    apply jQ;and_intros<;>first|rfl|(simp only[cB,seval,U,Za,Y,X,Z]<;>rfl)
  ·cases O;try simp only[cB,seval,U,Za]
   apply ku;refine⟨rfl,?_⟩;and_intros<;>first|rfl|(simp only[cB,seval,U,Za]<;>rfl)
 ·rintro x t H e hx;rcases o8 with _|ra
  ·dsimp only at hx O;obtain⟨rfl,av⟩:=hx;cases O;try simp only[cB,seval,U,av]
  ·dsimp only at hx O;obtain⟨rfl,hE⟩:=hx;cases O;try simp only[bf,aZ,bq,dD,dA,cI,cJ]
   exact hE
def fm (l:Option (D×Row)) (d:List D):=dR (gg (gf (eI .i64)) (ee (gf (eI .i64)))) (fun x:(List Int)×(List Int)=>gp x.1 x.2) (fun r:Bool =>.clean (.bool r)) l d
theorem qK:bN prog 26 fm:=bN.ig (mode := .clean) tok bt.none mixed func26 (by kernel_rfl) (fun _ _=>rfl) (fun _=>by kernel_rfl) fun⟨p0,p1⟩ r X=>by
 replace X:gp p0 p1=some r:=X;apply aw rfl ntmps26 results26;simp only[im];unfold gp at X;try simp only[w,seval]
 apply sp ak X<;>intro _ X
 ·cases X;try simp only[w,seval]
 ·try simp only[w,seval]
  obtain⟨o6,ah,X⟩:=ab X;refine ax (fun s t H e=>match s with|Z=>t 0=.sl false false p0.length (ae (eI .i64) p0)∧t 1=.sl false false p1.length (ae (eI .i64) p1)∧t 5=.int .i64 Z) (fun o x t H e=>match o with|(.inl _)=>x=.exit 0|(.inr r)=>x=.ret∧fp .clean tab none [.tmp 4] ⟨t,EH H,e⟩=some (.clean (.bool r),none)) ah ?_ ?_ ?_
  ·and_intros<;>first|rfl|(simp only[w,seval]<;>rfl)
  ·rintro Z t H e Y c X;simp only[jS]at X;try simp only[w,seval,Y]
   apply sp ak X<;>intro _ X
   ·obtain⟨x8,aa,X⟩:=ab X;have O:=cq (eI .i64) aa;simp only[cF]at O;obtain⟨x9,ad,X⟩:=ab X;have U:=cq (eI .i64) ad;simp only[cF]at U;try simp only[w,seval,Y,O,U]
    refine cW (by kernel_rfl) ?_;try simp only[w,seval,Y,O,U]
    apply sp ak X<;>intro _ X
    ·have O:=cq (eI .i64) aa;simp only[cF]at O;have U:=cq (eI .i64) ad;simp only[cF]at U;try simp only[w,seval,Y,O,U,O,U]
     refine cW (by kernel_rfl) ?_;cases X;try simp only[w,seval,Y,O,U,O,U]
     refine DH ⟨rfl,?_⟩;try simp only[w,seval,Y,O,U,O,U]
    ·cases X;try simp only[w,seval,Y,O,U]
     apply jQ;and_intros<;>first|rfl|(simp only[w,seval,Y,O,U]<;>rfl)
   ·cases X;try simp only[w,seval,Y]
    apply ku;exact rfl
  ·rintro x t H e hx;rcases o6 with _|ra
   ·dsimp only at hx X;subst hx;cases X;try simp only[w,seval]
   ·dsimp only at hx X;obtain⟨rfl,hE⟩:=hx;cases X;try simp only[bf,aZ,bq,dD,dA,cI,cJ]
    exact hE
def eO (l:Option (D×Row)) (d:List D):=dR (gg (gf (dp (eI .i64))) (ee (gf (dp (eI .i64))))) (fun x:(List (List Int))×(List (List Int))=>gX x.1 x.2) (fun r:Bool =>.clean (.bool r)) l d
theorem ME {β:Type} {F:(List (List Int))×(List (List Int))->Option β} {R:β->RK} (O:(List (List Int))) (U:(List (List Int))):dR (gg (gf (dp (eI .i64))) (ee (gf (dp (eI .i64))))) F R none [.sl false false O.length (ae (dp (eI .i64)) O),.sl false false U.length (ae (dp (eI .i64)) U)]=(F (O,U)).map fun r=>(R r,none):=b6 _ _ _ (O,U)
def rm:Env:=(Am.ext bk 26 false fm)
theorem Fq:bt prog rm:=(bt.none.add qK false)
theorem cc:type_of% (ai @w<|ai @y7<|ai @fm.eq_1<|@rm.eq_1):=⟨@w,@y7,@fm.eq_1,@rm.eq_1⟩
theorem pt:bN prog 11 eO:=bN.ig (mode := .clean) tok Fq mixed func11 (by kernel_rfl) (fun _ _=>rfl) (fun _=>by kernel_rfl) fun⟨p0,p1⟩ r X=>by
 replace X:gX p0 p1=some r:=X;apply aw rfl ntmps11 results11;simp only[im];unfold gX at X;try simp only[cc,seval]
 apply sp ak X<;>intro _ X
 ·cases X;try simp only[cc,seval]
 ·try simp only[cc,seval]
  obtain⟨o9,ai,X⟩:=ab X;refine ax (fun s t H e=>match s with|ah=>t 0=.sl false false p0.length (ae (dp (eI .i64)) p0)∧t 1=.sl false false p1.length (ae (dp (eI .i64)) p1)∧t 5=.int .i64 ah) (fun o x t H e=>match o with|(.inl _)=>x=.exit 0|(.inr r)=>x=.ret∧fp .clean tab none [.tmp 4] ⟨t,EH H,e⟩=some (.clean (.bool r),none)) ai ?_ ?_ ?_
  ·and_intros<;>first|rfl|(simp only[cc,seval]<;>rfl)
  ·rintro ah t H e Za c X;simp only[l8]at X;try simp only[cc,seval,Za]
   apply sp ak X<;>intro _ X
   ·obtain⟨aj,aa,X⟩:=ab X;have O:=cq (dp (eI .i64)) aa;simp only[cF]at O;obtain⟨al,ad,X⟩:=ab X;have U:=cq (dp (eI .i64)) ad;simp only[cF]at U;obtain⟨an,Y,X⟩:=ab X;try simp only[cc,seval,Za,O,U,Y]
    apply sp HJ X<;>intro _ X
    ·try simp only[cc,seval,Za,O,U,Y]
     refine cW (by kernel_rfl) ?_;cases X;try simp only[cc,seval,Za,O,U,Y]
     refine DH ⟨rfl,?_⟩;try simp only[cc,seval,Za,O,U,Y]
    ·have U:=cq (dp (eI .i64)) ad;simp only[cF]at U;have O:=cq (dp (eI .i64)) aa;simp only[cF]at O;obtain⟨ao,Z,X⟩:=ab X;try simp only[cc,seval,Za,O,U,Y,U,O,Z]
     refine cW (by kernel_rfl) ?_;try simp only[cc,seval,Za,O,U,Y,U,O,Z]
     apply sp ak X<;>intro _ X
     ·cases X;try simp only[cc,seval,Za,O,U,Y,U,O,Z]
      refine DH ⟨rfl,?_⟩;try simp only[cc,seval,Za,O,U,Y,U,O,Z]
     ·cases X;try simp only[cc,seval,Za,O,U,Y,U,O,Z]
      apply jQ;and_intros<;>first|rfl|(simp only[cc,seval,Za,O,U,Y,U,O,Z]<;>rfl)
   ·cases X;try simp only[cc,seval,Za]
    apply ku;exact rfl
  ·rintro x t H e hx;rcases o9 with _|ra
   ·dsimp only at hx X;subst hx;cases X;try simp only[cc,seval]
   ·dsimp only at hx X;obtain⟨rfl,hE⟩:=hx;cases X;try simp only[bf,aZ,bq,dD,dA,cI,cJ]
    exact hE
def iV (l:Option (D×Row)) (d:List D):=dR (gg (gf (eI .i64)) (ee (gf (eI .i64)))) (fun x:(List Int)×(List Int)=>gM x.1 x.2) (fun r:Bool =>.clean (.bool r)) l d
theorem vA:bN prog 31 iV:=bN.ig (mode := .clean) tok bt.none mixed func31 (by kernel_rfl) (fun _ _=>rfl) (fun _=>by kernel_rfl) fun⟨p0,p1⟩ r O=>by
 replace O:gM p0 p1=some r:=O;apply aw rfl ntmps31 results31;simp only[im];unfold gM at O;try simp only[w,seval]
 apply sp ak O<;>intro _ O
 ·cases O;try simp only[w,seval]
 ·try simp only[w,seval]
  obtain⟨o6,aa,O⟩:=ab O;refine ax (fun s t H e=>match s with|Y=>t 0=.sl false false p0.length (ae (eI .i64) p0)∧t 1=.sl false false p1.length (ae (eI .i64) p1)∧t 12=.int .i64 (p0.length:Int)∧t 13=.int .i64 Y) (fun o x t H e=>match o with|(.inl _)=>x=.exit 0|(.inr r)=>x=.ret∧fp .clean tab none [.tmp 4] ⟨t,EH H,e⟩=some (.clean (.bool r),none)) aa ?_ ?_ ?_
  ·and_intros<;>first|rfl|(simp only[w,seval]<;>rfl)
  ·rintro Y t H e Z c O;simp only[il]at O;try simp only[w,seval,Z]
   apply sp ak O<;>intro _ O
   ·obtain⟨x8,ad,O⟩:=ab O;have U:=cq (eI .i64) ad;simp only[cF]at U;obtain⟨x9,ah,O⟩:=ab O;have X:=cq (eI .i64) ah;simp only[cF]at X;try simp only[w,seval,Z,U,X]
    refine cW (by kernel_rfl) ?_;try simp only[w,seval,Z,U,X]
    apply sp ak O<;>intro _ O
    ·cases O;try simp only[w,seval,Z,U,X]
     refine DH ⟨rfl,?_⟩;try simp only[w,seval,Z,U,X]
    ·cases O;try simp only[w,seval,Z,U,X]
     apply jQ;and_intros<;>first|rfl|(simp only[w,seval,Z,U,X]<;>rfl)
   ·cases O;try simp only[w,seval,Z]
    apply ku;exact rfl
  ·rintro x t H e hx;rcases o6 with _|ra
   ·dsimp only at hx O;subst hx;cases O;try simp only[w,seval]
   ·dsimp only at hx O;obtain⟨rfl,hE⟩:=hx;cases O;try simp only[bf,aZ,bq,dD,dA,cI,cJ]
    exact hE
def b8 (l:Option (D×Row)) (d:List D):=dR (gg (gf (dp (eI .i64))) (gg (gf (dp (eI .i64))) (ee (Qh 31)))) (fun x:(List (List Int))×(List (List Int))×Unit=>bm x.1 x.2.1) (fun r:Bool =>.clean (.bool r)) l d
theorem TI {β:Type} {F:(List (List Int))×(List (List Int))×Unit->Option β} {R:β->RK} (O:(List (List Int))) (U:(List (List Int))):dR (gg (gf (dp (eI .i64))) (gg (gf (dp (eI .i64))) (ee (Qh 31)))) F R none [.sl false false O.length (ae (dp (eI .i64)) O),.sl false false U.length (ae (dp (eI .i64)) U),.fn 31]=(F (O,U,())).map fun r=>(R r,none):=b6 _ _ _ (O,U,())
def df:Env:=(Am.ext bk 31 false iV)
theorem jc:bt prog df:=(bt.none.add vA false)
theorem aB:type_of% (ai @w<|ai @y7<|ai @iV.eq_1<|@df.eq_1):=⟨@w,@y7,@iV.eq_1,@df.eq_1⟩
theorem jg:bN prog 30 b8:=bN.ig (mode := .clean) tok jc mixed func30 (by kernel_rfl) (fun _ _=>rfl) (fun _=>by kernel_rfl) fun⟨p0,p1,_⟩ r O=>by
 replace O:bm p0 p1=some r:=O;apply aw rfl ntmps30 results30;simp only[im];unfold bm at O;try simp only[aB,seval]
 apply sp ak O<;>intro _ O
 ·cases O;try simp only[aB,seval]
 ·try simp only[aB,seval]
  obtain⟨o7,ad,O⟩:=ab O;refine ax (fun s t H e=>match s with|Z=>t 1=.sl false false p1.length (ae (dp (eI .i64)) p1)∧t 2=.fn 31∧t 15=.sl false false p0.length (ae (dp (eI .i64)) p0)∧t 16=.int .i64 (p0.length:Int)∧t 17=.int .i64 Z) (fun o x t H e=>match o with|(.inl _)=>x=.exit 0|(.inr r)=>x=.ret∧fp .clean tab none [.tmp 6] ⟨t,EH H,e⟩=some (.clean (.bool r),none)) ad ?_ ?_ ?_
  ·and_intros<;>first|rfl|(simp only[aB,seval]<;>rfl)
  ·rintro Z t H e Za c O;simp only[bZ]at O;try simp only[aB,seval,Za]
   apply sp ak O<;>intro _ O
   ·obtain⟨x9,ah,O⟩:=ab O;have Y:=cq (dp (eI .i64)) ah;simp only[cF]at Y;obtain⟨ai,aa,O⟩:=ab O;have U:=cq (dp (eI .i64)) aa;simp only[cF]at U;obtain⟨aj,X,O⟩:=ab O;try simp only[aB,seval,Za,Y,U,X]
    apply sp ak O<;>intro _ O
    ·cases O;try simp only[aB,seval,Za,Y,U,X]
     refine DH ⟨rfl,?_⟩;try simp only[aB,seval,Za,Y,U,X]
    ·cases O;try simp only[aB,seval,Za,Y,U,X]
     apply jQ;and_intros<;>first|rfl|(simp only[aB,seval,Za,Y,U,X]<;>rfl)
   ·cases O;try simp only[aB,seval,Za]
    apply ku;exact rfl
  ·rintro x t H e hx;rcases o7 with _|ra
   ·dsimp only at hx O;subst hx;cases O;try simp only[aB,seval]
   ·dsimp only at hx O;obtain⟨rfl,hE⟩:=hx;cases O;try simp only[bf,aZ,bq,dD,dA,cI,cJ]
    exact hE
def eW (l:Option (D×Row)) (d:List D):=dR (gg (gf aC) (gg (dm aC) (ee (gf (dp (eI .i64)))))) (fun x:(List au)×au×(List (List Int))=>dW x.1 x.2.1 x.2.2) (fun r:Bool =>.clean (.bool r)) l d
theorem TJ {β:Type} {F:(List au)×au×(List (List Int))->Option β} {R:β->RK} (Z:(List au)) (X:Int) (O:(List Int)) (Y:Int) (U:(List Int)) (p2:(List (List Int))):dR (gg (gf aC) (gg (dm aC) (ee (gf (dp (eI .i64)))))) F R none [.sl false false Z.length (ae aC Z),.agg [.int .i64 X,.sl false false O.length (ae (eI .i64) O),.int .i64 Y,.sl false false U.length (ae (eI .i64) U)],.sl false false p2.length (ae (dp (eI .i64)) p2)]=(F (Z,(au.mk (aH.mk X O) (aH.mk Y U)),p2)).map fun r=>(R r,none):=b6 _ _ _ (Z,(au.mk (aH.mk X O) (aH.mk Y U)),p2)
def lp:Env:=(Am.ext (Am.ext bk 7 false cQ) 30 false b8)
theorem vp:bt prog lp:=((bt.none.add ji false).add jg false)
theorem lI:type_of% (ai @w<|ai @zu<|ai @cQ.eq_1<|ai @TI<|ai @b8.eq_1<|@lp.eq_1):=⟨@w,@zu,@cQ.eq_1,@TI,@b8.eq_1,@lp.eq_1⟩
theorem oa:bN prog 14 eW:=bN.ig (mode := .clean) tok vp mixed func14 (by kernel_rfl) (fun _ _=>rfl) (fun _=>by kernel_rfl) fun⟨Y,Z,p2⟩ r O=>by
 replace O:dW Y Z p2=some r:=O;apply aw rfl ntmps14 results14;simp only[im];unfold dW at O;obtain⟨r1,U,O⟩:=ab O;try simp only[lI,seval,U]
 apply sp bF O<;>intro _ O
 ·obtain⟨r3,X,O⟩:=ab O;cases O;try simp only[lI,seval,U,X]
 ·cases O;try simp only[lI,seval,U]
def qU (l:Option (D×Row)) (d:List D):=dR (gg (aI .i64) (ee (gf (dp (eI .i64))))) (fun x:Int×(List (List Int))=>jW x.1 x.2) (fun r:Bool =>.clean (.bool r)) l d
theorem ly (Z:(List au)) (X:Int) (O:(List Int)) (Y:Int) (U:(List Int)) (p2:(List (List Int))):eW none [.sl false false Z.length (ae aC Z),.agg [.int .i64 X,.sl false false O.length (ae (eI .i64) O),.int .i64 Y,.sl false false U.length (ae (eI .i64) U)],.sl false false p2.length (ae (dp (eI .i64)) p2)]=(dW Z (au.mk (aH.mk X O) (aH.mk Y U)) p2).map fun r:Bool=>(.clean (.bool r),none):=b6 _ _ _ (Z,(au.mk (aH.mk X O) (aH.mk Y U)),p2)
theorem jJ (Z:(List au)) (X:Int) (O:(List Int)) (Y:Int) (U:(List Int)):cg none [.sl false false Z.length (ae aC Z),.agg [.int .i64 X,.sl false false O.length (ae (eI .i64) O),.int .i64 Y,.sl false false U.length (ae (eI .i64) U)]]=(bs Z (au.mk (aH.mk X O) (aH.mk Y U))).map fun r:(List (List Int))×Int=>(.clean (.tup [.sl false false r.1.length (ae (dp (eI .i64)) r.1),.int .i64 r.2]),none):=b6 _ _ _ (Z,(au.mk (aH.mk X O) (aH.mk Y U)))
theorem fM (Z:(List au)) (X:Int) (O:(List Int)) (Y:Int) (U:(List Int)):cQ none [.sl false false Z.length (ae aC Z),.agg [.int .i64 X,.sl false false O.length (ae (eI .i64) O),.int .i64 Y,.sl false false U.length (ae (eI .i64) U)]]=(ec Z (au.mk (aH.mk X O) (aH.mk Y U))).map fun r:(List (List Int))×Int=>(.clean (.tup [.sl false false r.1.length (ae (dp (eI .i64)) r.1),.int .i64 r.2]),none):=b6 _ _ _ (Z,(au.mk (aH.mk X O) (aH.mk Y U)))
def rh:Env:=(Am.ext (Am.ext (Am.ext (Am.ext (Am.ext bk 7 false cQ) 9 false cg) 11 false eO) 14 false eW) 16 false ir)
theorem Fl:bt prog rh:=(((((bt.none.add ji false).add jh false).add pt false).add oa false).add uU false)
theorem fA:type_of% (ai @w<|ai @fM<|ai @jJ<|ai @ME<|ai @eO.eq_1<|ai @ly<|ai @K9<|ai @ir.eq_1<|@rh.eq_1):=⟨@w,@fM,@jJ,@ME,@eO.eq_1,@ly,@K9,@ir.eq_1,@rh.eq_1⟩
theorem GO:bN prog 17 qU:=bN.ig (mode := .clean) tok Fl mixed func17 (by kernel_rfl) (fun _ _=>rfl) (fun _=>by kernel_rfl) fun⟨p0,p1⟩ r O=>by
 replace O:jW p0 p1=some r:=O;apply aw rfl ntmps17 results17;simp only[im];unfold jW at O;obtain⟨r1,U,O⟩:=ab O;obtain⟨r2,X,O⟩:=ab O;obtain⟨r3,Y,O⟩:=ab O;obtain⟨r4,Z,O⟩:=ab O;obtain⟨r5,ad,O⟩:=ab O;have i6:=fM ([r1,r2,r3,r4]) r5.dQ.an r5.dQ.aa r5.dN.an r5.dN.aa;simp only[aK,cF,List.length_cons,List.length_nil,Wt,Nat.reduceAdd,XE]at i6;obtain⟨r7,ae,O⟩:=ab O;have i8:=jJ ([r1,r2,r3,r4]) r5.dQ.an r5.dQ.aa r5.dN.an r5.dN.aa;simp only[aK,cF,List.length_cons,List.length_nil,Wt,Nat.reduceAdd,XE]at i8;obtain⟨r9,ah,O⟩:=ab O;try simp only[fA,seval,U,X,Y,Z,ad,i6,ae,i8,ah]
 apply sp bF O<;>intro _ O
 ·try simp only[fA,seval,U,X,Y,Z,ad,i6,ae,i8,ah]
  apply sp bF O<;>intro _ O
  ·obtain⟨al,ai,O⟩:=ab O;try simp only[fA,seval,U,X,Y,Z,ad,i6,ae,i8,ah,ai]
   apply sp bF O<;>intro _ O
   ·obtain⟨ao,aj,O⟩:=ab O;try simp only[fA,seval,U,X,Y,Z,ad,i6,ae,i8,ah,ai,aj]
    apply sp bF O<;>intro _ O
    ·have i16:=ly ([r1,r2,r3,r4]) r5.dQ.an r5.dQ.aa r5.dN.an r5.dN.aa p1;simp only[aK,cF,List.length_cons,List.length_nil,Wt,Nat.reduceAdd,XE]at i16;obtain⟨aq,ak,O⟩:=ab O;cases O;try simp only[fA,seval,U,X,Y,Z,ad,i6,ae,i8,ah,ai,aj,i16,ak]
    ·cases O;try simp only[fA,seval,U,X,Y,Z,ad,i6,ae,i8,ah,ai,aj]
   ·cases O;try simp only[fA,seval,U,X,Y,Z,ad,i6,ae,i8,ah,ai]
  ·cases O;try simp only[fA,seval,U,X,Y,Z,ad,i6,ae,i8,ah]
 ·cases O;try simp only[fA,seval,U,X,Y,Z,ad,i6,ae,i8,ah]
def lQ (l:Option (D×Row)) (d:List D):=dR (Uo) (fun x:Unit=>mK) (fun r:Bool =>.clean (.bool r)) l d
theorem TK {β:Type} {F:Unit->Option β} {R:β->RK} : dR (Uo) F R none []=(F (())).map fun r=>(R r,none):=b6 _ _ _ (())
theorem jI (U:Int) (O:(List (List Int))):qU none [.int .i64 U,.sl false false O.length (ae (dp (eI .i64)) O)]=(jW U O).map fun r:Bool=>(.clean (.bool r),none):=b6 _ _ _ (U,O)
theorem lz (O:(List au)):cS none [.sl false false O.length (ae aC O)]=(cm O).map fun r:Int=>(.clean (.int .i64 r),none):=b6 _ _ _ (O)
def oT:Env:=(Am.ext (Am.ext (Am.ext (Am.ext bk 7 false cQ) 12 false cS) 16 false ir) 17 false qU)
theorem C2:bt prog oT:=((((bt.none.add ji false).add kc false).add uU false).add GO false)
theorem dE:type_of% (ai @w<|ai @fM<|ai @lz<|ai @K9<|ai @ir.eq_1<|ai @jI<|@oT.eq_1):=⟨@w,@fM,@lz,@K9,@ir.eq_1,@jI,@oT.eq_1⟩
theorem Dk:bN prog 4 lQ:=bN.ig (mode := .clean) tok C2 mixed func4 (by kernel_rfl) (fun _ _=>rfl) (fun _=>by kernel_rfl) fun _ r O=>by
 replace O:mK=some r:=O;apply aw rfl ntmps4 results4;simp only[im];unfold mK at O;obtain⟨r1,X,O⟩:=ab O;obtain⟨r2,Y,O⟩:=ab O;obtain⟨r3,Z,O⟩:=ab O;obtain⟨r4,ad,O⟩:=ab O;obtain⟨r5,ae,O⟩:=ab O;have i6:=fM ([r1,r2,r3,r4]) r5.dQ.an r5.dQ.aa r5.dN.an r5.dN.aa;simp only[aK,cF,List.length_cons,List.length_nil,Wt,Nat.reduceAdd,XE]at i6;obtain⟨r7,ah,O⟩:=ab O;have i8:=lz ([r1,r2,r3,r4]);simp only[aK,cF,List.length_cons,List.length_nil,Wt,Nat.reduceAdd,XE]at i8;obtain⟨r9,ai,O⟩:=ab O;try simp only[dE,seval,X,Y,Z,ad,ae,i6,ah,i8,ai]
 apply sp bF O<;>intro _ O
 ·have i11:=jI 8 ([[0],[1]]);simp only[aK,cF,List.length_cons,List.length_nil,Wt,Nat.reduceAdd,XE]at i11;obtain⟨ao,U,O⟩:=ab O;try simp only[dE,seval,X,Y,Z,ad,ae,i6,ah,i8,ai,i11,U]
  apply sp bF O<;>intro _ O
  ·have i14:=jI 7 ([[0]]);simp only[aK,cF,List.length_cons,List.length_nil,Wt,Nat.reduceAdd,XE]at i14;obtain⟨aq,aj,O⟩:=ab O;try simp only[dE,seval,X,Y,Z,ad,ae,i6,ah,i8,ai,i11,U,i14,aj]
   apply sp bF O<;>intro _ O
   ·have i17:=jI 5 ([[0,1]]);simp only[aK,cF,List.length_cons,List.length_nil,Wt,Nat.reduceAdd,XE]at i17;obtain⟨ar,ak,O⟩:=ab O;try simp only[dE,seval,X,Y,Z,ad,ae,i6,ah,i8,ai,i11,U,i14,aj,i17,ak]
    apply sp bF O<;>intro _ O
    ·have i20:=jI 10 ([[]]);simp only[aK,cF,List.length_cons,List.length_nil,Wt,Nat.reduceAdd,XE]at i20;obtain⟨au,al,O⟩:=ab O;try simp only[dE,seval,X,Y,Z,ad,ae,i6,ah,i8,ai,i11,U,i14,aj,i17,ak,i20,al]
     apply sp bF O<;>intro _ O
     ·cases O;try simp only[dE,seval,X,Y,Z,ad,ae,i6,ah,i8,ai,i11,U,i14,aj,i17,ak,i20,al]
     ·cases O;try simp only[dE,seval,X,Y,Z,ad,ae,i6,ah,i8,ai,i11,U,i14,aj,i17,ak,i20,al]
    ·cases O;try simp only[dE,seval,X,Y,Z,ad,ae,i6,ah,i8,ai,i11,U,i14,aj,i17,ak]
   ·cases O;try simp only[dE,seval,X,Y,Z,ad,ae,i6,ah,i8,ai,i11,U,i14,aj]
  ·cases O;try simp only[dE,seval,X,Y,Z,ad,ae,i6,ah,i8,ai,i11,U]
 ·cases O;try simp only[dE,seval,X,Y,Z,ad,ae,i6,ah,i8,ai]
def pO (l:Option (D×Row)) (d:List D):=dR (gg (dm aC) (ee (aI .i64))) (fun x:au×Int=>nJ x.1 x.2) (fun r:Bool =>.clean (.bool r)) l d
theorem TL {β:Type} {F:au×Int->Option β} {R:β->RK} (X:Int) (O:(List Int)) (Y:Int) (U:(List Int)) (Z:Int):dR (gg (dm aC) (ee (aI .i64))) F R none [.agg [.int .i64 X,.sl false false O.length (ae (eI .i64) O),.int .i64 Y,.sl false false U.length (ae (eI .i64) U)],.int .i64 Z]=(F ((au.mk (aH.mk X O) (aH.mk Y U)),Z)).map fun r=>(R r,none):=b6 _ _ _ ((au.mk (aH.mk X O) (aH.mk Y U)),Z)
theorem IS:bN prog 18 pO:=bN.ig (mode := .clean) tok bt.none mixed func18 (by kernel_rfl) (fun _ _=>rfl) (fun _=>by kernel_rfl) fun⟨U,X⟩ r O=>by
 replace O:nJ U X=some r:=O;apply aw rfl ntmps18 results18;simp only[im];unfold nJ at O;try simp only[w,seval]
 apply sp bF O<;>intro _ O
 ·cases O;try simp only[w,seval]
 ·cases O;try simp only[w,seval]
def pP (l:Option (D×Row)) (d:List D):=dR (gg (gf aC) (ee (dm aC))) (fun x:(List au)×au=>qk x.1 x.2) (fun r:Bool =>.clean (.bool r)) l d
def tB:Env:=(Am.ext bk 18 false pO)
theorem IC:bt prog tB:=(bt.none.add IS false)
theorem bp:type_of% (ai @w<|ai @TL<|ai @pO.eq_1<|@tB.eq_1):=⟨@w,@TL,@pO.eq_1,@tB.eq_1⟩
theorem IT:bN prog 5 pP:=bN.ig (mode := .clean) tok IC mixed func5 (by kernel_rfl) (fun _ _=>rfl) (fun _=>by kernel_rfl) fun⟨p0,Y⟩ r O=>by
 replace O:qk p0 Y=some r:=O;apply aw rfl ntmps5 results5;simp only[im];unfold qk at O;try simp only[bp,seval]
 obtain⟨o7,av,O⟩:=ab O;refine ax (fun s t H e=>match s with|ar=>∃aj:Nat,t 0=.sl false false p0.length (ae aC p0)∧t 3=.ptr 3 aj 0∧t 5=.int .i64 ar∧H 3=some ⟨aj,27,[.int .i64 Y.dQ.an,.sl false false Y.dQ.aa.length (ae (eI .i64) Y.dQ.aa),.int .i64 Y.dN.an,.sl false false Y.dN.aa.length (ae (eI .i64) Y.dN.aa)],false,false,false⟩) (fun o x t H e=>match o with|(.inl _)=>x=.exit 0∧∃al:Nat,t 0=.sl false false p0.length (ae aC p0)∧t 3=.ptr 3 al 0∧H 3=some ⟨al,27,[.int .i64 Y.dQ.an,.sl false false Y.dQ.aa.length (ae (eI .i64) Y.dQ.aa),.int .i64 Y.dN.an,.sl false false Y.dN.aa.length (ae (eI .i64) Y.dN.aa)],false,false,false⟩|(.inr r)=>x=.ret∧fp .clean tab none [.tmp 4] ⟨t,EH H,e⟩=some (.clean (.bool r),none)) av ?_ ?_ ?_
 ·refine⟨0,?_⟩;and_intros<;>first|rfl|(simp only[bp,seval]<;>rfl)
 ·rintro ar t H e ⟨aj,Za⟩ c O;simp only[nK]at O;try simp only[bp,seval,Za]
  obtain⟨o8,ay,O⟩:=ab O;refine b4 0 (fun s t H e=>match s with|aq=>∃ad:Nat,t 0=.sl false false p0.length (ae aC p0)∧t 3=.ptr 3 ad 0∧t 5=.int .i64 ar∧t 14=.bool aq∧H 3=some ⟨ad,27,[.int .i64 Y.dQ.an,.sl false false Y.dQ.aa.length (ae (eI .i64) Y.dQ.aa),.int .i64 Y.dN.an,.sl false false Y.dN.aa.length (ae (eI .i64) Y.dN.aa)],false,false,false⟩) (fun s=>s=o8) ?_ ?_
  ·rintro aq t H e ⟨ad,ah⟩ rfl;try dsimp only at O
   try simp only[bp,seval,ah]
   apply sp ak O<;>intro _ O
   ·obtain⟨az,au,O⟩:=ab O;have X:=cq aC au;simp only[cF]at X;obtain⟨aA,ai,O⟩:=ab O;try simp only[bp,seval,ah,X,ai]
    apply sp ak O<;>intro _ O
    ·cases O;try simp only[bp,seval,ah,X,ai]
     refine DH ⟨rfl,?_⟩;try simp only[bp,seval,ah,X,ai]
    ·cases O;try simp only[bp,seval,ah,X,ai]
     apply jQ;refine⟨ad,?_⟩;and_intros<;>first|rfl|(simp only[bp,seval,ah,X,ai]<;>rfl)
   ·cases O;try simp only[bp,seval,ah]
    apply ku;refine⟨rfl,⟨ad,?_⟩⟩;and_intros<;>first|rfl|(simp only[bp,seval,ah]<;>rfl)
  ·clear O;have O:=ay;try simp only[bp,seval,Za]
   apply sp bF O<;>intro _ O
   ·cases O;try simp only[bp,seval,Za]
    rw[ao];refine⟨_,rfl,?_⟩;refine⟨aj,?_⟩;and_intros<;>first|rfl|(simp only[bp,seval,Za]<;>rfl)
   ·cases O;try simp only[bp,seval,Za]
    rw[ao];refine⟨_,rfl,?_⟩;refine⟨aj,?_⟩;and_intros<;>first|rfl|(simp only[bp,seval,Za]<;>rfl)
 ·rintro x t H e hx;rcases o7 with _|ra
  ·dsimp only at hx O;obtain⟨rfl,⟨al,Z⟩⟩:=hx;obtain⟨aB,U,O⟩:=ab O;try simp only[bp,seval,Z,U]
   apply sp bF O<;>intro _ O
   ·try simp only[bp,seval,Z,U]
    apply sp bn O<;>intro _ O
    ·cases O;try simp only[bp,seval,Z,U]
    ·try simp only[bp,seval,Z,U]
     apply sp bF O<;>intro _ O
     ·try simp only[bp,seval,Z,U]
      apply sp bn O<;>intro _ O
      ·cases O;try simp only[bp,seval,Z,U]
      ·cases O;try simp only[bp,seval,Z,U]
     ·cases O;try simp only[bp,seval,Z,U]
   ·cases O;try simp only[bp,seval,Z,U]
  ·dsimp only at hx O;obtain⟨rfl,hE⟩:=hx;cases O;try simp only[bf,aZ,bq,dD,dA,cI,cJ]
   exact hE
def lP (l:Option (D×Row)) (d:List D):=dR (ee (gf (dp (eI .i64)))) (fun x:(List (List Int))=>kJ x) (fun r:Bool =>.clean (.bool r)) l d
theorem TM {β:Type} {F:(List (List Int))->Option β} {R:β->RK} (O:(List (List Int))):dR (ee (gf (dp (eI .i64)))) F R none [.sl false false O.length (ae (dp (eI .i64)) O)]=(F (O)).map fun r=>(R r,none):=b6 _ _ _ (O)
theorem Dj:bN prog 6 lP:=bN.ig (mode := .clean) tok bt.none mixed func6 (by kernel_rfl) (fun _ _=>rfl) (fun _=>by kernel_rfl) fun Z r O=>by
 replace O:kJ Z=some r:=O;apply aw rfl ntmps6 results6;simp only[im];unfold kJ at O;try simp only[w,seval]
 obtain⟨o6,ad,O⟩:=ab O;refine ax (fun s t H e=>match s with|aa=>t 0=.sl false false Z.length (ae (dp (eI .i64)) Z)∧t 3=.int .i64 aa) (fun o x t H e=>match o with|(.inl _)=>x=.exit 0∧t 0=.sl false false Z.length (ae (dp (eI .i64)) Z)|(.inr r)=>x=.ret∧fp .clean tab none [.tmp 2] ⟨t,EH H,e⟩=some (.clean (.bool r),none)) ad ?_ ?_ ?_
 ·and_intros<;>first|rfl|(simp only[w,seval]<;>rfl)
 ·rintro aa t H e Za c O;simp only[kq]at O;try simp only[w,seval,Za]
  obtain⟨o7,ah,O⟩:=ab O;refine b4 0 (fun s t H e=>match s with|Y=>t 0=.sl false false Z.length (ae (dp (eI .i64)) Z)∧t 3=.int .i64 aa∧t 11=.bool Y) (fun s=>s=o7) ?_ ?_
  ·rintro Y t H e U rfl;try dsimp only at O
   try simp only[w,seval,U]
   apply sp ak O<;>intro _ O
   ·obtain⟨x9,ai,O⟩:=ab O;have X:=cq (dp (eI .i64)) ai;simp only[cF]at X;try simp only[w,seval,U,X]
    apply sp ak O<;>intro _ O
    ·cases O;try simp only[w,seval,U,X]
     refine DH ⟨rfl,?_⟩;try simp only[w,seval,U,X]
    ·cases O;try simp only[w,seval,U,X]
     apply jQ;and_intros<;>first|rfl|(simp only[w,seval,U,X]<;>rfl)
   ·cases O;try simp only[w,seval,U]
    apply ku;refine⟨rfl,?_⟩;and_intros<;>first|rfl|(simp only[w,seval,U]<;>rfl)
  ·clear O;have O:=ah;try simp only[w,seval,Za]
   apply sp bF O<;>intro _ O
   ·cases O;try simp only[w,seval,Za]
    rw[ao];refine⟨_,rfl,?_⟩;and_intros<;>first|rfl|(simp only[w,seval,Za]<;>rfl)
   ·cases O;try simp only[w,seval,Za]
    rw[ao];refine⟨_,rfl,?_⟩;and_intros<;>first|rfl|(simp only[w,seval,Za]<;>rfl)
 ·rintro x t H e hx;rcases o6 with _|ra
  ·dsimp only at hx O;obtain⟨rfl,aj⟩:=hx;cases O;try simp only[w,seval,aj]
  ·dsimp only at hx O;obtain⟨rfl,hE⟩:=hx;cases O;try simp only[bf,aZ,bq,dD,dA,cI,cJ]
   exact hE
def cH (l:Option (D×Row)) (d:List D):=dR (ee (dm eF)) (fun x:aH=>dH x) (fun r:Bool =>.clean (.bool r)) l d
theorem kv:bN prog 40 cH:=bN.ig (mode := .clean) tok bt.none mixed func40 (by kernel_rfl) (fun _ _=>rfl) (fun _=>by kernel_rfl) fun Z r O=>by
 replace O:dH Z=some r:=O;apply aw rfl ntmps40 results40;simp only[im];unfold dH at O;try simp only[w,seval]
 obtain⟨o5,ay,O⟩:=ab O;refine ax (fun s t H e=>match s with|aq=>∃ad:Nat,t 1=.ptr 1 ad 0∧t 3=.int .i64 aq∧H 1=some ⟨ad,25,[.int .i64 Z.an,.sl false false Z.aa.length (ae (eI .i64) Z.aa)],false,false,false⟩) (fun o x t H e=>match o with|(.inl _)=>x=.exit 0∧∃X:Nat,t 1=.ptr 1 X 0∧H 1=some ⟨X,25,[.int .i64 Z.an,.sl false false Z.aa.length (ae (eI .i64) Z.aa)],false,false,false⟩|(.inr r)=>x=.ret∧fp .clean tab none [.tmp 2] ⟨t,EH H,e⟩=some (.clean (.bool r),none)) ay ?_ ?_ ?_
 ·refine⟨0,?_⟩;and_intros<;>first|rfl|(simp only[w,seval]<;>rfl)
 ·rintro aq t H e ⟨ad,Za⟩ c O;simp only[ky]at O;try simp only[w,seval,Za]
  apply sp ak O<;>intro _ O
  ·obtain⟨x7,ar,O⟩:=ab O;have U:=cq (eI .i64) ar;simp only[cF]at U;try simp only[w,seval,Za,U]
   apply sp bn O<;>intro _ O
   ·cases O;try simp only[w,seval,Za,U]
    refine DH ⟨rfl,?_⟩;try simp only[w,seval,Za,U]
   ·have U:=cq (eI .i64) ar;simp only[cF]at U;try simp only[w,seval,Za,U,U]
    apply sp ak O<;>intro _ O
    ·cases O;try simp only[w,seval,Za,U,U]
     refine DH ⟨rfl,?_⟩;try simp only[w,seval,Za,U,U]
    ·cases O;try simp only[w,seval,Za,U,U]
     apply jQ;refine⟨ad,?_⟩;and_intros<;>first|rfl|(simp only[w,seval,Za,U,U]<;>rfl)
  ·cases O;try simp only[w,seval,Za]
   apply ku;refine⟨rfl,⟨ad,?_⟩⟩;and_intros<;>first|rfl|(simp only[w,seval,Za]<;>rfl)
 ·rintro x t H e hx;rcases o5 with _|ra
  ·dsimp only at hx O;obtain⟨rfl,⟨X,Y⟩⟩:=hx;try simp only[w,seval,Y]
   obtain⟨az,au,O⟩:=ab O;refine b4 0 (fun s t H e=>match s with|ah=>∃ai:Nat,t 1=.ptr 1 ai 0∧t 4=.int .i64 (Z.aa.length:Int)∧t 44=.bool ah∧H 1=some ⟨ai,25,[.int .i64 Z.an,.sl false false Z.aa.length (ae (eI .i64) Z.aa)],false,false,false⟩) (fun s=>s=az) ?_ ?_
   ·rintro ah t H e ⟨ai,aj⟩ rfl;try dsimp only at O
    try simp only[w,seval,aj]
    apply sp ak O<;>intro _ O
    ·cases O;try simp only[w,seval,aj]
    ·try simp only[w,seval,aj]
     apply sp bn O<;>intro _ O
     ·cases O;try simp only[w,seval,aj]
     ·obtain⟨aA,av,O⟩:=ab O;have al:=cq (eI .i64) av;simp only[cF]at al;cases O;try simp only[w,seval,aj,al]
   ·clear O;have O:=au;try simp only[w,seval,Y]
    apply sp bn O<;>intro _ O
    ·cases O;try simp only[w,seval,Y]
     rw[ao];refine⟨_,rfl,?_⟩;refine⟨X,?_⟩;and_intros<;>first|rfl|(simp only[w,seval,Y]<;>rfl)
    ·try simp only[w,seval,Y]
     apply sp bn O<;>intro _ O
     ·cases O;try simp only[w,seval,Y]
      rw[ao];refine⟨_,rfl,?_⟩;refine⟨X,?_⟩;and_intros<;>first|rfl|(simp only[w,seval,Y]<;>rfl)
     ·cases O;try simp only[w,seval,Y]
      rw[ao];refine⟨_,rfl,?_⟩;refine⟨X,?_⟩;and_intros<;>first|rfl|(simp only[w,seval,Y]<;>rfl)
  ·dsimp only at hx O;obtain⟨rfl,hE⟩:=hx;cases O;try simp only[bf,aZ,bq,dD,dA,cI,cJ]
   exact hE
def dI (l:Option (D×Row)) (d:List D):=dR (ee (gf (eI .i64))) (fun x:(List Int)=>e7 x) (fun r:(List Int) =>.clean (.sl false false r.length (ae (eI .i64) r))) l d
theorem lZ:bN prog 77 dI:=bN.ig (mode := .clean) tok bt.none mixed func77 (by kernel_rfl) (fun _ _=>rfl) (fun _=>by kernel_rfl) fun p0 r O=>by
 replace O:e7 p0=some r:=O;apply aw rfl ntmps77 results77;simp only[im];unfold e7 at O;try simp only[w,seval]
 obtain⟨o4,al,O⟩:=ab O;refine ax (fun s t H e=>match s with|aa=>t 0=.sl false false p0.length (ae (eI .i64) p0)∧t 3=.int .i64 aa) (fun o x t H e=>match o with|Y=>x=.exit 0∧t 0=.sl false false p0.length (ae (eI .i64) p0)∧t 3=.int .i64 Y) al ?_ ?_ ?_
 ·and_intros<;>first|rfl|(simp only[w,seval]<;>rfl)
 ·rintro aa t H e Z c O;simp only[pz]at O;try simp only[w,seval,Z]
  apply sp bF O<;>intro _ O
  ·obtain⟨x6,an,O⟩:=ab O;have U:=cq (eI .i64) an;simp only[cF]at U;try simp only[w,seval,Z,U]
   apply sp ak O<;>intro _ O
   ·cases O;try simp only[w,seval,Z,U]
    apply jQ;and_intros<;>first|rfl|(simp only[w,seval,Z,U]<;>rfl)
   ·cases O;try simp only[w,seval,Z,U]
    apply ku;refine⟨rfl,?_⟩;and_intros<;>first|rfl|(simp only[w,seval,Z,U]<;>rfl)
  ·cases O;try simp only[w,seval,Z]
   apply ku;refine⟨rfl,?_⟩;and_intros<;>first|rfl|(simp only[w,seval,Z]<;>rfl)
 ·rintro x t H e hx;obtain⟨Y,rfl⟩:∃z,z=o4:=⟨_,rfl⟩;dsimp only at hx O;obtain⟨rfl,ao⟩:=hx;obtain⟨x8,aq,O⟩:=ab O;obtain⟨ar,au,av,ay,ad⟩:=yK (eI .i64) aq;simp only[cF]at ad;obtain⟨az,ah,O⟩:=ab O;obtain⟨X,ai,aj⟩:=vJ ah;replace X:=X.symm;subst X;cases O;try simp only[w,seval,ao,ar,au,av,ay,ad,ai,aj]
def dX (l:Option (D×Row)) (d:List D):=dR (gg (gf (eI .i64)) (ee (aI .i64))) (fun x:(List Int)×Int=>gJ x.1 x.2) (fun r:Int =>.clean (.int .i64 r)) l d
theorem nE:bN prog 80 dX:=bN.ig (mode := .clean) tok bt.none mixed func80 (by kernel_rfl) (fun _ _=>rfl) (fun _=>by kernel_rfl) fun⟨Y,Z⟩ r O=>by
 replace O:gJ Y Z=some r:=O;apply aw rfl ntmps80 results80;simp only[im];unfold gJ at O;try simp only[w,seval]
 apply sp ak O<;>intro _ O
 ·obtain⟨x2,X,O⟩:=ab O;have U:=cq (eI .i64) X;simp only[cF]at U;cases O;try simp only[w,seval,U]
 ·cases O;try simp only[w,seval]
def iG (l:Option (D×Row)) (d:List D):=dR (gg (gf (eI .i64)) (ee (gf (eI .i64)))) (fun x:(List Int)×(List Int)=>gK x.1 x.2) (fun r:(List Int) =>.clean (.sl false false r.length (ae (eI .i64) r))) l d
def oV:Env:=(Am.ext (Am.ext bk 77 false dI) 80 false dX)
theorem C4:bt prog oV:=((bt.none.add lZ false).add nE false)
theorem ba:type_of% (ai @w<|ai @Qd<|ai @dI.eq_1<|ai @RU<|ai @dX.eq_1<|@oV.eq_1):=⟨@w,@Qd,@dI.eq_1,@RU,@dX.eq_1,@oV.eq_1⟩
theorem sJ:bN prog 78 iG:=bN.ig (mode := .clean) tok C4 mixed func78 (by kernel_rfl) (fun _ _=>rfl) (fun _=>by kernel_rfl) fun⟨p0,p1⟩ r U=>by
 replace U:gK p0 p1=some r:=U;apply aw rfl ntmps78 results78;simp only[im];unfold gK at U;obtain⟨x1,aT,U⟩:=ab U;obtain⟨X,Y,Z,O,aa⟩:=mk_one (eI .i64) aT;simp only[cF]at O;try simp only[ba,seval,X,Y,Z,O,aa]
 obtain⟨aU,aI,U⟩:=ab U;refine ax (fun s t H e=>match s with|(an,aF)=>∃aq:Nat,t 0=.sl false false p0.length (ae (eI .i64) p0)∧t 1=.sl false false p1.length (ae (eI .i64) p1)∧t 5=.buf 5 aq 1 0 (aF).length∧t 6=.int .i64 an∧H 5=some ⟨aq,3,ae (eI .i64) aF,false,true,false⟩) (fun o x t H e=>match o with|ar=>x=.exit 0∧∃au:Nat,t 5=.buf 5 au 1 0 (ar).length∧H 5=some ⟨au,3,ae (eI .i64) ar,false,true,false⟩) aI ?_ ?_ ?_
 ·refine⟨1,?_⟩;and_intros<;>first|rfl|(simp only[ba,seval,X,Y,Z,O,aa]<;>rfl)
 ·rintro⟨an,aF⟩ t H e ⟨aq,Za⟩ c U;simp only[kA]at U;try simp only[ba,seval,X,Y,Z,O,aa,Za]
  apply sp ak U<;>intro _ U
  ·try simp only[ba,seval,X,Y,Z,O,aa,Za]
   obtain⟨aV,aJ,U⟩:=ab U;refine ax (fun s t H e=>match s with|(aG,aH,av)=>∃ay:Nat,t 0=.sl false false p0.length (ae (eI .i64) p0)∧t 1=.sl false false p1.length (ae (eI .i64) p1)∧t 5=.buf 5 ay 1 0 (av).length∧t 6=.int .i64 an∧t 7=.int .i64 aG∧t 8=.int .i64 aH∧H 5=some ⟨ay,3,ae (eI .i64) av,false,true,false⟩) (fun o x t H e=>match o with|az=>x=.exit 2∧∃ai:Nat,t 0=.sl false false p0.length (ae (eI .i64) p0)∧t 1=.sl false false p1.length (ae (eI .i64) p1)∧t 5=.buf 5 ai 1 0 (az).length∧t 6=.int .i64 an∧H 5=some ⟨ai,3,ae (eI .i64) az,false,true,false⟩) aJ ?_ ?_ ?_
   ·refine⟨aq,?_⟩;and_intros<;>first|rfl|(simp only[ba,seval,X,Y,Z,O,aa,Za]<;>rfl)
   ·rintro⟨aG,aH,av⟩ t H e ⟨ay,Ze⟩ c U;simp only[kB]at U;try simp only[ba,seval,X,Y,Z,O,aa,Ze]
    obtain⟨aW,aK,U⟩:=ab U;refine b4 0 (fun s t H e=>match s with|aA=>∃ah:Nat,t 0=.sl false false p0.length (ae (eI .i64) p0)∧t 1=.sl false false p1.length (ae (eI .i64) p1)∧t 5=.buf 5 ah 1 0 (av).length∧t 6=.int .i64 an∧t 7=.int .i64 aG∧t 8=.int .i64 aH∧t 29=.bool aA∧H 5=some ⟨ah,3,ae (eI .i64) av,false,true,false⟩) (fun s=>s=aW) ?_ ?_
    ·rintro aA t H e ⟨ah,al⟩ rfl;try dsimp only at U
     try simp only[ba,seval,X,Y,Z,O,aa,al]
     apply sp ak U<;>intro _ U
     ·obtain⟨aY,aB,U⟩:=ab U;have ad:=cq (eI .i64) aB;simp only[cF]at ad;obtain⟨aZ,aL,U⟩:=ab U;have aj:=cq (eI .i64) aL;simp only[cF]at aj;obtain⟨a1,aC,U⟩:=ab U;try simp only[ba,seval,X,Y,Z,O,aa,al,ad,aj,aC]
      refine cW (by kernel_rfl) ?_;obtain⟨aM,aN,U⟩:=ab U;have aO:=vO aN;have ad:=cq (eI .i64) aB;simp only[cF]at ad;have aE:=nI (eI .i64) (x':=aM) (fo:=0) (cs:=[.int .i64 aM]) aB rfl (Xp rfl);simp only[cF,Nat.add_zero]at aE;have aD:=aE;simp only[putCells,List.length_cons,List.length_nil,Wt,Nat.reduceAdd]at aD;obtain⟨a6,aP,U⟩:=ab U;have aQ:=pZ aP;cases U;try simp only[ba,seval,X,Y,Z,O,aa,al,ad,aj,aC,aO,ad,aE,aD,aQ]
      apply jQ;refine⟨ah,?_⟩;and_intros<;>first|rfl|(simp only[ba,seval,X,Y,Z,O,aa,al,ad,aj,aC,aO,ad,aE,aD,aQ]<;>rfl)
     ·cases U;try simp only[ba,seval,X,Y,Z,O,aa,al]
      apply ku;refine⟨rfl,⟨ah,?_⟩⟩;and_intros<;>first|rfl|(simp only[ba,seval,X,Y,Z,O,aa,al]<;>rfl)
    ·clear U;have U:=aK;try simp only[ba,seval,X,Y,Z,O,aa,Ze]
     apply sp bn U<;>intro _ U
     ·cases U;try simp only[ba,seval,X,Y,Z,O,aa,Ze]
      rw[ao];refine⟨_,rfl,?_⟩;refine⟨ay,?_⟩;and_intros<;>first|rfl|(simp only[ba,seval,X,Y,Z,O,aa,Ze]<;>rfl)
     ·cases U;try simp only[ba,seval,X,Y,Z,O,aa,Ze]
      rw[ao];refine⟨_,rfl,?_⟩;refine⟨ay,?_⟩;and_intros<;>first|rfl|(simp only[ba,seval,X,Y,Z,O,aa,Ze]<;>rfl)
   ·rintro x t H e hx;obtain⟨az,rfl⟩:∃z,z=aV:=⟨_,rfl⟩;dsimp only at hx U;obtain⟨rfl,⟨ai,aR⟩⟩:=hx;cases U;try simp only[ba,seval,X,Y,Z,O,aa,aR]
    apply jQ;refine⟨ai,?_⟩;and_intros<;>first|rfl|(simp only[ba,seval,X,Y,Z,O,aa,aR]<;>rfl)
  ·cases U;try simp only[ba,seval,X,Y,Z,O,aa,Za]
   apply ku;refine⟨rfl,⟨aq,?_⟩⟩;and_intros<;>first|rfl|(simp only[ba,seval,X,Y,Z,O,aa,Za]<;>rfl)
 ·rintro x t H e hx;obtain⟨ar,rfl⟩:∃z,z=aU:=⟨_,rfl⟩;dsimp only at hx U;obtain⟨rfl,⟨au,aX⟩⟩:=hx;obtain⟨a7,aS,U⟩:=ab U;cases U;try simp only[ba,seval,X,Y,Z,O,aa,aX,aS]
def iu (l:Option (D×Row)) (d:List D):=dR (gg (gf (eI .i64)) (ee (gf (eI .i64)))) (fun x:(List Int)×(List Int)=>lC x.1 x.2) (fun r:Bool =>.clean (.bool r)) l d
def ri:Env:=(Am.ext bk 80 false dX)
theorem Fm:bt prog ri:=(bt.none.add nE false)
theorem eT:type_of% (ai @w<|ai @RU<|ai @dX.eq_1<|@ri.eq_1):=⟨@w,@RU,@dX.eq_1,@ri.eq_1⟩
theorem uV:bN prog 60 iu:=bN.ig (mode := .clean) tok Fm mixed func60 (by kernel_rfl) (fun _ _=>rfl) (fun _=>by kernel_rfl) fun⟨p0,p1⟩ r O=>by
 replace O:lC p0 p1=some r:=O;apply aw rfl ntmps60 results60;simp only[im];unfold lC at O;try simp only[eT,seval]
 obtain⟨o5,aa,O⟩:=ab O;refine ax (fun s t H e=>match s with|Z=>t 0=.sl false false p0.length (ae (eI .i64) p0)∧t 1=.sl false false p1.length (ae (eI .i64) p1)∧t 5=.int .i64 Z) (fun o x t H e=>match o with|(.inl _)=>x=.exit 0|(.inr r)=>x=.ret∧fp .clean tab none [.tmp 4] ⟨t,EH H,e⟩=some (.clean (.bool r),none)) aa ?_ ?_ ?_
 ·and_intros<;>first|rfl|(simp only[eT,seval]<;>rfl)
 ·rintro Z t H e Y c O;simp only[l6]at O;try simp only[eT,seval,Y]
  apply sp ak O<;>intro _ O
  ·obtain⟨r7,U,O⟩:=ab O;obtain⟨r8,X,O⟩:=ab O;try simp only[eT,seval,Y,U,X]
   apply sp ak O<;>intro _ O
   ·cases O;try simp only[eT,seval,Y,U,X]
    refine DH ⟨rfl,?_⟩;try simp only[eT,seval,Y,U,X]
   ·cases O;try simp only[eT,seval,Y,U,X]
    apply jQ;and_intros<;>first|rfl|(simp only[eT,seval,Y,U,X]<;>rfl)
  ·cases O;try simp only[eT,seval,Y]
   apply ku;exact rfl
 ·rintro x t H e hx;rcases o5 with _|ra
  ·dsimp only at hx O;subst hx;cases O;try simp only[eT,seval]
  ·dsimp only at hx O;obtain⟨rfl,hE⟩:=hx;cases O;try simp only[bf,aZ,bq,dD,dA,cI,cJ]
   exact hE
def lR (l:Option (D×Row)) (d:List D):=dR (gg (gf (eI .i64)) (ee (gf (eI .i64)))) (fun x:(List Int)×(List Int)=>kK x.1 x.2) (fun r:(List Int) =>.clean (.sl false false r.length (ae (eI .i64) r))) l d
def oU:Env:=(Am.ext (Am.ext bk 77 false dI) 80 false dX)
theorem C3:bt prog oU:=((bt.none.add lZ false).add nE false)
theorem de:type_of% (ai @w<|ai @Qd<|ai @dI.eq_1<|ai @RU<|ai @dX.eq_1<|@oU.eq_1):=⟨@w,@Qd,@dI.eq_1,@RU,@dX.eq_1,@oU.eq_1⟩
theorem Dl:bN prog 79 lR:=bN.ig (mode := .clean) tok C3 mixed func79 (by kernel_rfl) (fun _ _=>rfl) (fun _=>by kernel_rfl) fun⟨p0,p1⟩ r O=>by
 replace O:kK p0 p1=some r:=O;apply aw rfl ntmps79 results79;simp only[im];unfold kK at O;try simp only[de,seval]
 obtain⟨o9,aC,O⟩:=ab O;refine ax (fun s t H e=>match s with|(au,av,ar)=>∃ah:Nat,t 0=.sl false false p0.length (ae (eI .i64) p0)∧t 1=.sl false false p1.length (ae (eI .i64) p1)∧t 5=.buf 5 ah 1 0 (ar).length∧t 6=.int .i64 au∧t 7=.int .i64 av∧H 5=some ⟨ah,3,ae (eI .i64) ar,false,true,false⟩) (fun o x t H e=>match o with|Y=>x=.exit 0∧∃Z:Nat,t 5=.buf 5 Z 1 0 (Y).length∧H 5=some ⟨Z,3,ae (eI .i64) Y,false,true,false⟩) aC ?_ ?_ ?_
 ·refine⟨1,?_⟩;and_intros<;>first|rfl|(simp only[de,seval]<;>rfl)
 ·rintro⟨au,av,ar⟩ t H e ⟨ah,Za⟩ c O;simp only[kz]at O;try simp only[de,seval,Za]
  apply sp ak O<;>intro _ O
  ·obtain⟨aE,ay,O⟩:=ab O;have U:=cq (eI .i64) ay;simp only[cF]at U;obtain⟨aF,X,O⟩:=ab O;try simp only[de,seval,Za,U,X]
   refine cW (by kernel_rfl) ?_;try simp only[de,seval,Za,U,X]
   apply sp ak O<;>intro _ O
   ·obtain⟨aG,az,O⟩:=ab O;obtain⟨ai,aa,aj,al⟩:=fT (eI .i64) az;simp only[cF]at aa;cases O;try simp only[de,seval,Za,U,X,ai,aa,aj,al]
    apply jQ;refine⟨e+1+1+1+1+1+1,?_⟩;and_intros<;>first|rfl|(simp only[de,seval,Za,U,X,ai,aa,aj,al]<;>rfl)
   ·obtain⟨aH,aA,O⟩:=ab O;obtain⟨an,ad,ao,aq⟩:=fT (eI .i64) aA;simp only[cF]at ad;cases O;try simp only[de,seval,Za,U,X,an,ad,ao,aq]
    apply jQ;refine⟨e+1+1+1+1,?_⟩;and_intros<;>first|rfl|(simp only[de,seval,Za,U,X,an,ad,ao,aq]<;>rfl)
  ·cases O;try simp only[de,seval,Za]
   apply ku;refine⟨rfl,⟨ah,?_⟩⟩;and_intros<;>first|rfl|(simp only[de,seval,Za]<;>rfl)
 ·rintro x t H e hx;obtain⟨Y,rfl⟩:∃z,z=o9:=⟨_,rfl⟩;dsimp only at hx O;obtain⟨rfl,⟨Z,aD⟩⟩:=hx;obtain⟨aI,aB,O⟩:=ab O;cases O;try simp only[de,seval,aD,aB]
def mT (l:Option (D×Row)) (d:List D):=dR (gg (gf (eI .i64)) (ee (gf (eI .i64)))) (fun x:(List Int)×(List Int)=>mM x.1 x.2) (fun r:(List Int)×(List Int) =>.clean (.tup [.sl false false r.1.length (ae (eI .i64) r.1),.sl false false r.2.length (ae (eI .i64) r.2)])) l d
theorem py (O:(List Int)) (U:(List Int)):iG none [.sl false false O.length (ae (eI .i64) O),.sl false false U.length (ae (eI .i64) U)]=(gK O U).map fun r:(List Int)=>(.clean (.sl false false r.length (ae (eI .i64) r)),none):=b6 _ _ _ (O,U)
theorem rH (O:(List Int)):dI none [.sl false false O.length (ae (eI .i64) O)]=(e7 O).map fun r:(List Int)=>(.clean (.sl false false r.length (ae (eI .i64) r)),none):=b6 _ _ _ (O)
def rl:Env:=(Am.keep 7 (Am.ext (Am.ext (Am.ext (Am.ext bk 60 false iu) 77 false dI) 78 false iG) 79 false lR))
theorem Fp:bt prog rl:=(bt.keep ((((bt.none.add uV false).add lZ false).add sJ false).add Dl false) 7)
theorem bY:type_of% (ai @w<|ai @y7<|ai @iu.eq_1<|ai @rH<|ai @py<|ai @lR.eq_1<|@rl.eq_1):=⟨@w,@y7,@iu.eq_1,@rH,@py,@lR.eq_1,@rl.eq_1⟩
theorem GQ:bN prog 57 mT:=bN.ig (mode := .clean) tok Fp mixed func57 (by kernel_rfl) (fun _ _=>rfl) (fun _=>by kernel_rfl) fun⟨p0,p1⟩ r O=>by
 replace O:mM p0 p1=some r:=O;apply aw rfl ntmps57 results57;simp only[im];unfold mM at O;obtain⟨x1,aY,O⟩:=ab O;obtain⟨ai,aj,al,Z,an⟩:=mk_one (eI .i64) aY;simp only[cF]at Z;try simp only[bY,seval,ai,aj,al,Z,an]
 obtain⟨aZ,aQ,O⟩:=ab O;refine ax (fun s t H e=>match s with|(aP,aG,au)=>∃az:Nat,t 0=.sl false false p0.length (ae (eI .i64) p0)∧t 1=.sl false false p1.length (ae (eI .i64) p1)∧t 6=.buf 6 az 1 0 (au).length∧t 7=.sl false false aP.length (ae (eI .i64) aP)∧t 8=.int .i64 aG∧H 6=some ⟨az,3,ae (eI .i64) au,false,true,false⟩) (fun o x t H e=>match o with|(aA,aB)=>x=.exit 0∧∃aC:Nat,t 6=.buf 6 aC 1 0 (aB).length∧t 7=.sl false false aA.length (ae (eI .i64) aA)∧H 6=some ⟨aC,3,ae (eI .i64) aB,false,true,false⟩) aQ ?_ ?_ ?_
 ·refine⟨1,?_⟩;and_intros<;>first|rfl|(simp only[bY,seval,ai,aj,al,Z,an]<;>rfl)
 ·rintro⟨aP,aG,au⟩ t H e ⟨az,Za⟩ c O;simp only[l7]at O;try simp only[bY,seval,ai,aj,al,Z,an,Za]
  apply sp ak O<;>intro _ O
  ·obtain⟨a8,aR,O⟩:=ab O;have U:=cq (eI .i64) aR;simp only[cF]at U;obtain⟨ba,aS,O⟩:=ab O;obtain⟨X,Y,aa,ad⟩:=Qi (eI .i64) aS;simp only[aK,cF,List.length_cons,Wt,Nat.reduceAdd]at X Y;obtain⟨aH,ah,O⟩:=ab O;try simp only[bY,seval,ai,aj,al,Z,an,Za,U,X,Y,aa,ad,ah]
   obtain⟨a1,aT,O⟩:=ab O;refine ax (fun s t H e=>match s with|(aU,aJ)=>∃ay:Nat,t 0=.sl false false p0.length (ae (eI .i64) p0)∧t 1=.sl false false p1.length (ae (eI .i64) p1)∧t 6=.buf 6 ay 1 0 (au).length∧t 7=.sl false false aH.length (ae (eI .i64) aH)∧t 8=.int .i64 aG∧t 9=.int .i64 aU∧t 10=.int .i64 aJ∧H 6=some ⟨ay,3,ae (eI .i64) au,false,true,false⟩) (fun o x t H e=>match o with|ao=>x=.exit 2∧∃av:Nat,t 0=.sl false false p0.length (ae (eI .i64) p0)∧t 1=.sl false false p1.length (ae (eI .i64) p1)∧t 6=.buf 6 av 1 0 (au).length∧t 7=.sl false false aH.length (ae (eI .i64) aH)∧t 8=.int .i64 aG∧t 9=.int .i64 ao∧H 6=some ⟨av,3,ae (eI .i64) au,false,true,false⟩) aT ?_ ?_ ?_
   ·refine⟨az,?_⟩;and_intros<;>first|rfl|(simp only[bY,seval,ai,aj,al,Z,an,Za,U,X,Y,aa,ad,ah]<;>rfl)
   ·rintro⟨aU,aJ⟩ t H e ⟨ay,Zc⟩ c O;simp only[j1]at O;try simp only[bY,seval,ai,aj,al,Z,an,U,X,Y,aa,ad,ah,Zc]
    apply sp ak O<;>intro _ O
    ·obtain⟨a6,aV,O⟩:=ab O;have aD:=pZ aV;have i46:=py p1 ([a6]);simp only[aK,cF,List.length_cons,List.length_nil,Wt,Nat.reduceAdd,XE]at i46;obtain⟨bb,aq,O⟩:=ab O;obtain⟨bc,ar,O⟩:=ab O;try simp only[bY,seval,ai,aj,al,Z,an,U,X,Y,aa,ad,ah,Zc,aD,i46,aq,ar]
     apply sp ak O<;>intro _ O
     ·cases O;try simp only[bY,seval,ai,aj,al,Z,an,U,X,Y,aa,ad,ah,Zc,aD,i46,aq,ar]
      apply jQ;refine⟨ay,?_⟩;and_intros<;>first|rfl|(simp only[bY,seval,ai,aj,al,Z,an,U,X,Y,aa,ad,ah,Zc,aD,i46,aq,ar]<;>rfl)
     ·cases O;try simp only[bY,seval,ai,aj,al,Z,an,U,X,Y,aa,ad,ah,Zc,aD,i46,aq,ar]
      apply jQ;refine⟨ay,?_⟩;and_intros<;>first|rfl|(simp only[bY,seval,ai,aj,al,Z,an,U,X,Y,aa,ad,ah,Zc,aD,i46,aq,ar]<;>rfl)
    ·cases O;try simp only[bY,seval,ai,aj,al,Z,an,U,X,Y,aa,ad,ah,Zc]
     apply ku;refine⟨rfl,⟨ay,?_⟩⟩;and_intros<;>first|rfl|(simp only[bY,seval,ai,aj,al,Z,an,U,X,Y,aa,ad,ah,Zc]<;>rfl)
   ·rintro x t H e hx;obtain⟨ao,rfl⟩:∃z,z=a1:=⟨_,rfl⟩;dsimp only at hx O;obtain⟨rfl,⟨av,aW⟩⟩:=hx;obtain⟨bd,aL,O⟩:=ab O;have aE:=cq (eI .i64) aL;simp only[cF]at aE;have aI:=nI (eI .i64) (x':=ao) (fo:=0) (cs:=[.int .i64 ao]) aL rfl (Xp rfl);simp only[cF,Nat.add_zero]at aI;have aF:=aI;simp only[putCells,List.length_cons,List.length_nil,Wt,Nat.reduceAdd]at aF;have i52:=rH ([ao]);simp only[aK,cF,List.length_cons,List.length_nil,Wt,Nat.reduceAdd,XE]at i52;obtain⟨bf,aM,O⟩:=ab O;obtain⟨bg,aN,O⟩:=ab O;obtain⟨bh,aO,O⟩:=ab O;cases O;try simp only[bY,seval,ai,aj,al,Z,an,U,X,Y,aa,ad,ah,aW,aE,aI,aF,i52,aM,aN,aO]
    apply jQ;refine⟨av,?_⟩;and_intros<;>first|rfl|(simp only[bY,seval,ai,aj,al,Z,an,U,X,Y,aa,ad,ah,aW,aE,aI,aF,i52,aM,aN,aO]<;>rfl)
  ·cases O;try simp only[bY,seval,ai,aj,al,Z,an,Za]
   apply ku;refine⟨rfl,⟨az,?_⟩⟩;and_intros<;>first|rfl|(simp only[bY,seval,ai,aj,al,Z,an,Za]<;>rfl)
 ·rintro x t H e hx;rcases aZ with⟨aA,aB⟩;dsimp only at hx O;obtain⟨rfl,⟨aC,a7⟩⟩:=hx;obtain⟨bj,aX,O⟩:=ab O;cases O;try simp only[bY,seval,ai,aj,al,Z,an,a7,aX]
def eM (l:Option (D×Row)) (d:List D):=dR (gg (aI .i64) (ee (gf (eI .i64)))) (fun x:Int×(List Int)=>jl x.1 x.2) (fun r:aH =>.clean (.agg [.int .i64 r.an,.sl false false r.aa.length (ae (eI .i64) r.aa)])) l d
def rj:Env:=(Am.ext bk 77 false dI)
theorem Fo:bt prog rj:=(bt.none.add lZ false)
theorem rM:type_of% (ai @w<|ai @Qd<|ai @dI.eq_1<|@rj.eq_1):=⟨@w,@Qd,@dI.eq_1,@rj.eq_1⟩
theorem pq:bN prog 58 eM:=bN.ig (mode := .clean) tok Fo mixed func58 (by kernel_rfl) (fun _ _=>rfl) (fun _=>by kernel_rfl) fun⟨X,Y⟩ r O=>by
 replace O:jl X Y=some r:=O;apply aw rfl ntmps58 results58;simp only[im];unfold jl at O;obtain⟨Z,U,O⟩:=ab O;try simp only[rM,seval,U]
 apply sp ak O<;>intro _ O
 ·cases O;try simp only[rM,seval,U]
 ·cases O;try simp only[rM,seval,U]
def pM (l:Option (D×Row)) (d:List D):=dR (gg (dm eF) (ee (dm eF))) (fun x:aH×aH=>qg x.1 x.2) (fun r:aH×Int =>.clean (.tup [.agg [.int .i64 r.1.an,.sl false false r.1.aa.length (ae (eI .i64) r.1.aa)],.int .i64 r.2])) l d
def tz:Env:=(Am.ext (Am.ext (Am.ext bk 40 false cH) 57 false mT) 58 false eM)
theorem IA:bt prog tz:=(((bt.none.add kv false).add GQ false).add pq false)
theorem da:type_of% (ai @w<|ai @BV<|ai @cH.eq_1<|ai @y7<|ai @mT.eq_1<|ai @MW<|ai @eM.eq_1<|@tz.eq_1):=⟨@w,@BV,@cH.eq_1,@y7,@mT.eq_1,@MW,@eM.eq_1,@tz.eq_1⟩
theorem IP:bN prog 41 pM:=bN.ig (mode := .clean) tok IA mixed func41 (by kernel_rfl) (fun _ _=>rfl) (fun _=>by kernel_rfl) fun⟨p0,p1⟩ r O=>by
 replace O:qg p0 p1=some r:=O;apply aw rfl ntmps41 results41;simp only[im];unfold qg at O;obtain⟨r1,U,O⟩:=ab O;try simp only[da,seval,U]
 obtain⟨o2,ay,O⟩:=ab O;refine b4 0 (fun s t H e=>match s with|Y=>∃Z:Nat,∃ad:Nat,∃X:Nat,t 2=.ptr 2 Z 0∧t 3=.ptr 3 ad 0∧t 4=.ptr 4 X 0∧t 17=.bool Y∧H 2=some ⟨Z,25,[.int .i64 p0.an,.sl false false p0.aa.length (ae (eI .i64) p0.aa)],false,false,false⟩∧H 3=some ⟨ad,25,[.int .i64 p1.an,.sl false false p1.aa.length (ae (eI .i64) p1.aa)],false,false,false⟩∧H 4=some ⟨X,25,[.int .i64 0,.sl true true 0 []],false,false,false⟩) (fun s=>s=o2) ?_ ?_
 ·rintro Y t H e ⟨Z,ad,X,al⟩ rfl;try dsimp only at O
  try simp only[da,seval,U,al]
  apply sp ak O<;>intro _ O
  ·cases O;try simp only[da,seval,U,al]
  ·try simp only[da,seval,U,al]
   obtain⟨o6,az,O⟩:=ab O;refine ax (fun s t H e=>match s with|(ar,au)=>∃ah:Nat,t 4=.ptr 4 ah 0∧t 6=.sl false false ar.length (ae (eI .i64) ar)∧t 7=.sl false false au.length (ae (eI .i64) au)∧H 4=some ⟨ah,25,[.int .i64 0,.sl true true 0 []],false,false,false⟩) (fun o x t H e=>match o with|ai=>x=.exit 0∧∃aj:Nat,t 4=.ptr 4 aj 0∧t 6=.sl false false ai.length (ae (eI .i64) ai)∧H 4=some ⟨aj,25,[.int .i64 0,.sl true true 0 []],false,false,false⟩) az ?_ ?_ ?_
   ·refine⟨X,?_⟩;and_intros<;>first|rfl|(simp only[da,seval,U,al]<;>rfl)
   ·rintro⟨ar,au⟩ t H e ⟨ah,Zb⟩ c O;simp only[lA]at O;try simp only[da,seval,U,Zb]
    apply sp ak O<;>intro _ O
    ·obtain⟨r8,av,O⟩:=ab O;cases O;try simp only[da,seval,U,Zb,av]
     apply jQ;refine⟨ah,?_⟩;and_intros<;>first|rfl|(simp only[da,seval,U,Zb,av]<;>rfl)
    ·cases O;try simp only[da,seval,U,Zb]
     apply ku;refine⟨rfl,⟨ah,?_⟩⟩;and_intros<;>first|rfl|(simp only[da,seval,U,Zb]<;>rfl)
   ·rintro x t H e hx;obtain⟨ai,rfl⟩:∃z,z=o6:=⟨_,rfl⟩;dsimp only at hx O;obtain⟨rfl,⟨aj,aA⟩⟩:=hx;obtain⟨r9,aB,O⟩:=ab O;cases O;try simp only[da,seval,U,aA,aB]
 ·clear O;have O:=ay;try simp only[da,seval,U]
  apply sp bn O<;>intro _ O
  ·cases O;try simp only[da,seval,U]
   rw[ao];refine⟨_,rfl,?_⟩;refine⟨0,0,0,?_⟩;and_intros<;>first|rfl|(simp only[da,seval,U]<;>rfl)
  ·obtain⟨aC,aq,O⟩:=ab O;cases O;try simp only[da,seval,U,aq]
   rw[ao];refine⟨_,rfl,?_⟩;refine⟨0,0,0,?_⟩;and_intros<;>first|rfl|(simp only[da,seval,U,aq]<;>rfl)
def rQ (l:Option (D×Row)) (d:List D):=dR (ee (aI .i64)) (fun x:Int=>tO x) (fun r:aH =>.clean (.agg [.int .i64 r.an,.sl false false r.aa.length (ae (eI .i64) r.aa)])) l d
def xu:Env:=(Am.ext bk 58 false eM)
theorem Md:bt prog xu:=(bt.none.add pq false)
theorem cX:type_of% (ai @w<|ai @MW<|ai @eM.eq_1<|@xu.eq_1):=⟨@w,@MW,@eM.eq_1,@xu.eq_1⟩
theorem Mv:bN prog 43 rQ:=bN.ig (mode := .clean) tok Md mixed func43 (by kernel_rfl) (fun _ _=>rfl) (fun _=>by kernel_rfl) fun p0 r O=>by
 replace O:tO p0=some r:=O;apply aw rfl ntmps43 results43;simp only[im];unfold tO at O;try simp only[cX,seval]
 apply sp ak O<;>intro _ O
 ·cases O;try simp only[cX,seval]
 ·try simp only[cX,seval]
  obtain⟨o2,aL,O⟩:=ab O;refine j7 0 (fun s t H e=>match s with|U=>∃X:Nat,t 0=.int .i64 p0∧t 2=.ptr 2 X 0∧t 3=.int .i64 U∧H 2=some ⟨X,25,[.int .i64 0,.sl true true 0 []],false,false,false⟩) (fun s=>s=o2) ?_ ?_
  ·rintro U t H e ⟨X,aA⟩ rfl;try dsimp only at O
   try simp only[cX,seval,aA]
   obtain⟨aM,aB,O⟩:=ab O;refine ax (fun s t H e=>match s with|(aC,az)=>∃Y:Nat,∃al:Nat,t 0=.int .i64 aC∧t 2=.ptr 2 Y 0∧t 3=.int .i64 U∧t 4=.buf 4 al 1 0 (az).length∧H 2=some ⟨Y,25,[.int .i64 0,.sl true true 0 []],false,false,false⟩∧H 4=some ⟨al,3,ae (eI .i64) az,false,true,false⟩) (fun o x t H e=>match o with|Z=>x=.exit 0∧∃aa:Nat,∃ad:Nat,t 2=.ptr 2 aa 0∧t 3=.int .i64 U∧t 4=.buf 4 ad 1 0 (Z).length∧H 2=some ⟨aa,25,[.int .i64 0,.sl true true 0 []],false,false,false⟩∧H 4=some ⟨ad,3,ae (eI .i64) Z,false,true,false⟩) aB ?_ ?_ ?_
   ·refine⟨X,e,?_⟩;and_intros<;>first|rfl|(simp only[cX,seval,aA]<;>rfl)
   ·rintro⟨aC,az⟩ t H e ⟨Y,al,Zb⟩ c O;simp only[qh]at O;try simp only[cX,seval,Zb]
    apply sp ak O<;>intro _ O
    ·obtain⟨aO,aD,O⟩:=ab O;have ah:=vO aD;try simp only[cX,seval,Zb,ah]
     apply sp ak O<;>intro _ O
     ·obtain⟨aP,aE,O⟩:=ab O;obtain⟨an,ai,aq,ar⟩:=fT (eI .i64) aE;simp only[cF]at ai;obtain⟨aQ,aF,O⟩:=ab O;have aG:=pZ aF;cases O;try simp only[cX,seval,Zb,ah,an,ai,aq,ar,aG]
      apply jQ;refine⟨Y,e+1+1+1+1,?_⟩;and_intros<;>first|rfl|(simp only[cX,seval,Zb,ah,an,ai,aq,ar,aG]<;>rfl)
     ·obtain⟨aR,aH,O⟩:=ab O;obtain⟨au,aj,av,ay⟩:=fT (eI .i64) aH;simp only[cF]at aj;obtain⟨aS,aI,O⟩:=ab O;have aJ:=pZ aI;cases O;try simp only[cX,seval,Zb,ah,au,aj,av,ay,aJ]
      apply jQ;refine⟨Y,e+1+1+1,?_⟩;and_intros<;>first|rfl|(simp only[cX,seval,Zb,ah,au,aj,av,ay,aJ]<;>rfl)
    ·cases O;try simp only[cX,seval,Zb]
     apply ku;refine⟨rfl,⟨Y,al,?_⟩⟩;and_intros<;>first|rfl|(simp only[cX,seval,Zb]<;>rfl)
   ·rintro x t H e hx;obtain⟨Z,rfl⟩:∃z,z=aM:=⟨_,rfl⟩;dsimp only at hx O;obtain⟨rfl,⟨aa,ad,aN⟩⟩:=hx;obtain⟨aT,aK,O⟩:=ab O;cases O;try simp only[cX,seval,aN,aK]
  ·clear O;have O:=aL;try simp only[cX,seval]
   apply sp ak O<;>intro _ O
   ·cases O;try simp only[cX,seval]
    rw[ao];refine⟨_,rfl,?_⟩;refine⟨0,?_⟩;and_intros<;>first|rfl|(simp only[cX,seval]<;>rfl)
   ·cases O;try simp only[cX,seval]
    rw[ao];refine⟨_,rfl,?_⟩;refine⟨0,?_⟩;and_intros<;>first|rfl|(simp only[cX,seval]<;>rfl)
def mS (l:Option (D×Row)) (d:List D):=dR (gg (dm eF) (ee (dm eF))) (fun x:aH×aH=>lB x.1 x.2) (fun r:Bool =>.clean (.bool r)) l d
theorem GP:bN prog 59 mS:=bN.ig (mode := .clean) tok bt.none mixed func59 (by kernel_rfl) (fun _ _=>rfl) (fun _=>by kernel_rfl) fun⟨p0,p1⟩ r O=>by
 replace O:lB p0 p1=some r:=O;apply aw rfl ntmps59 results59;simp only[im];unfold lB at O;try simp only[w,seval]
 obtain⟨o1,ar,O⟩:=ab O;refine b4 0 (fun s t H e=>match s with|ad=>∃Y:Nat,∃Z:Nat,t 2=.ptr 2 Y 0∧t 3=.ptr 3 Z 0∧t 19=.bool ad∧H 2=some ⟨Y,25,[.int .i64 p0.an,.sl false false p0.aa.length (ae (eI .i64) p0.aa)],false,false,false⟩∧H 3=some ⟨Z,25,[.int .i64 p1.an,.sl false false p1.aa.length (ae (eI .i64) p1.aa)],false,false,false⟩) (fun s=>s=o1) ?_ ?_
 ·rintro ad t H e ⟨Y,Z,ah⟩ rfl;try dsimp only at O
  try simp only[w,seval,ah]
  apply sp ak O<;>intro _ O
  ·cases O;try simp only[w,seval,ah]
  ·try simp only[w,seval,ah]
   obtain⟨o7,au,O⟩:=ab O;refine ax (fun s t H e=>match s with|al=>∃ai:Nat,∃aj:Nat,t 2=.ptr 2 ai 0∧t 3=.ptr 3 aj 0∧t 5=.int .i64 al∧H 2=some ⟨ai,25,[.int .i64 p0.an,.sl false false p0.aa.length (ae (eI .i64) p0.aa)],false,false,false⟩∧H 3=some ⟨aj,25,[.int .i64 p1.an,.sl false false p1.aa.length (ae (eI .i64) p1.aa)],false,false,false⟩) (fun o x t H e=>match o with|(.inl _)=>x=.exit 0|(.inr r)=>x=.ret∧fp .clean tab none [.tmp 4] ⟨t,EH H,e⟩=some (.clean (.bool r),none)) au ?_ ?_ ?_
   ·refine⟨Y,Z,?_⟩;and_intros<;>first|rfl|(simp only[w,seval,ah]<;>rfl)
   ·rintro al t H e ⟨ai,aj,Zb⟩ c O;simp only[l5]at O;try simp only[w,seval,Zb]
    apply sp ak O<;>intro _ O
    ·obtain⟨x9,av,O⟩:=ab O;have X:=cq (eI .i64) av;simp only[cF]at X;obtain⟨ay,aq,O⟩:=ab O;have U:=cq (eI .i64) aq;simp only[cF]at U;try simp only[w,seval,Zb,X,U]
     refine cW (by kernel_rfl) ?_;try simp only[w,seval,Zb,X,U]
     apply sp ak O<;>intro _ O
     ·cases O;try simp only[w,seval,Zb,X,U]
      refine DH ⟨rfl,?_⟩;try simp only[w,seval,Zb,X,U]
     ·cases O;try simp only[w,seval,Zb,X,U]
      apply jQ;refine⟨ai,aj,?_⟩;and_intros<;>first|rfl|(simp only[w,seval,Zb,X,U]<;>rfl)
    ·cases O;try simp only[w,seval,Zb]
     apply ku;exact rfl
   ·rintro x t H e hx;rcases o7 with _|rb
    ·dsimp only at hx O;subst hx;cases O;try simp only[w,seval]
    ·dsimp only at hx O;obtain⟨rfl,hE⟩:=hx;cases O;try simp only[bf,aZ,bq,dD,dA,cI,cJ]
     exact hE
 ·clear O;have O:=ar;try simp only[w,seval]
  apply sp bn O<;>intro _ O
  ·cases O;try simp only[w,seval]
   rw[ao];refine⟨_,rfl,?_⟩;refine⟨0,0,?_⟩;and_intros<;>first|rfl|(simp only[w,seval]<;>rfl)
  ·cases O;try simp only[w,seval]
   rw[ao];refine⟨_,rfl,?_⟩;refine⟨0,0,?_⟩;and_intros<;>first|rfl|(simp only[w,seval]<;>rfl)
def eL (l:Option (D×Row)) (d:List D):=dR (gg (dm eF) (ee (dm eF))) (fun x:aH×aH=>gn x.1 x.2) (fun r:Int =>.clean (.int .i64 r)) l d
def mi:Env:=(Am.ext (Am.ext (Am.ext bk 40 false cH) 59 false mS) 60 false iu)
theorem xy:bt prog mi:=(((bt.none.add kv false).add GP false).add uV false)
theorem aY:type_of% (ai @w<|ai @BV<|ai @cH.eq_1<|ai @vF<|ai @mS.eq_1<|ai @y7<|ai @iu.eq_1<|@mi.eq_1):=⟨@w,@BV,@cH.eq_1,@vF,@mS.eq_1,@y7,@iu.eq_1,@mi.eq_1⟩
theorem po:bN prog 42 eL:=bN.ig (mode := .clean) tok xy mixed func42 (by kernel_rfl) (fun _ _=>rfl) (fun _=>by kernel_rfl) fun⟨p0,p1⟩ r U=>by
 replace U:gn p0 p1=some r:=U;apply aw rfl ntmps42 results42;simp only[im];unfold gn at U;obtain⟨r1,O,U⟩:=ab U;try simp only[aY,seval,O]
 obtain⟨o2,al,U⟩:=ab U;refine b4 0 (fun s t H e=>match s with|Y=>∃Z:Nat,∃ad:Nat,t 2=.ptr 2 Z 0∧t 3=.ptr 3 ad 0∧t 17=.bool Y∧H 2=some ⟨Z,25,[.int .i64 p0.an,.sl false false p0.aa.length (ae (eI .i64) p0.aa)],false,false,false⟩∧H 3=some ⟨ad,25,[.int .i64 p1.an,.sl false false p1.aa.length (ae (eI .i64) p1.aa)],false,false,false⟩) (fun s=>s=o2) ?_ ?_
 ·rintro Y t H e ⟨Z,ad,X⟩ rfl;try dsimp only at U
  try simp only[aY,seval,O,X]
  apply sp ak U<;>intro _ U
  ·cases U;try simp only[aY,seval,O,X]
  ·try simp only[aY,seval,O,X]
   apply sp ak U<;>intro _ U
   ·try simp only[aY,seval,O,X]
    apply sp ak U<;>intro _ U
    ·cases U;try simp only[aY,seval,O,X]
    ·cases U;try simp only[aY,seval,O,X]
   ·obtain⟨r6,ai,U⟩:=ab U;try simp only[aY,seval,O,X,ai]
    refine cW (by kernel_rfl) ?_;try simp only[aY,seval,O,X,ai]
    apply sp ak U<;>intro _ U
    ·cases U;try simp only[aY,seval,O,X,ai]
    ·cases U;try simp only[aY,seval,O,X,ai]
 ·clear U;have U:=al;try simp only[aY,seval,O]
  apply sp bn U<;>intro _ U
  ·cases U;try simp only[aY,seval,O]
   rw[ao];refine⟨_,rfl,?_⟩;refine⟨0,0,?_⟩;and_intros<;>first|rfl|(simp only[aY,seval,O]<;>rfl)
  ·obtain⟨r9,ah,U⟩:=ab U;try simp only[aY,seval,O,ah]
   apply sp bn U<;>intro _ U
   ·cases U;try simp only[aY,seval,O,ah]
    rw[ao];refine⟨_,rfl,?_⟩;refine⟨0,0,?_⟩;and_intros<;>first|rfl|(simp only[aY,seval,O,ah]<;>rfl)
   ·obtain⟨aq,aj,U⟩:=ab U;cases U;try simp only[aY,seval,O,ah,aj]
    rw[ao];refine⟨_,rfl,?_⟩;refine⟨0,0,?_⟩;and_intros<;>first|rfl|(simp only[aY,seval,O,ah,aj]<;>rfl)
def dY (l:Option (D×Row)) (d:List D):=dR (ee (dm aC)) (fun x:au=>fN x) (fun r:Bool =>.clean (.bool r)) l d
def oW:Env:=(Am.ext (Am.ext (Am.ext (Am.ext bk 40 false cH) 41 false pM) 42 false eL) 43 false rQ)
theorem C5:bt prog oW:=((((bt.none.add kv false).add IP false).add po false).add Mv false)
theorem cL:type_of% (ai @w<|ai @BV<|ai @cH.eq_1<|ai @vF<|ai @pM.eq_1<|ai @eL.eq_1<|ai @K9<|ai @rQ.eq_1<|@oW.eq_1):=⟨@w,@BV,@cH.eq_1,@vF,@pM.eq_1,@eL.eq_1,@K9,@rQ.eq_1,@oW.eq_1⟩
theorem nF:bN prog 22 dY:=bN.ig (mode := .clean) tok C5 mixed func22 (by kernel_rfl) (fun _ _=>rfl) (fun _=>by kernel_rfl) fun p0 r O=>by
 replace O:fN p0=some r:=O;apply aw rfl ntmps22 results22;simp only[im];unfold fN at O;obtain⟨r1,U,O⟩:=ab O;try simp only[cL,seval,U]
 obtain⟨o2,al,O⟩:=ab O;refine b4 0 (fun s t H e=>match s with|X=>∃Y:Nat,t 1=.ptr 1 Y 0∧t 20=.bool X∧H 1=some ⟨Y,27,[.int .i64 p0.dQ.an,.sl false false p0.dQ.aa.length (ae (eI .i64) p0.dQ.aa),.int .i64 p0.dN.an,.sl false false p0.dN.aa.length (ae (eI .i64) p0.dN.aa)],false,false,false⟩) (fun s=>s=o2) ?_ ?_
 ·rintro X t H e ⟨Y,ad⟩ rfl;try dsimp only at O
  try simp only[cL,seval,U,ad]
  apply sp ak O<;>intro _ O
  ·cases O;try simp only[cL,seval,U,ad]
  ·obtain⟨r4,ah,O⟩:=ab O;obtain⟨r5,ai,O⟩:=ab O;obtain⟨r6,aj,O⟩:=ab O;try simp only[cL,seval,U,ad,ah,ai,aj]
   refine cW (by kernel_rfl) ?_;cases O;try simp only[cL,seval,U,ad,ah,ai,aj]
 ·clear O;have O:=al;try simp only[cL,seval,U]
  apply sp bn O<;>intro _ O
  ·cases O;try simp only[cL,seval,U]
   rw[ao];refine⟨_,rfl,?_⟩;refine⟨0,?_⟩;and_intros<;>first|rfl|(simp only[cL,seval,U]<;>rfl)
  ·obtain⟨r8,Z,O⟩:=ab O;try simp only[cL,seval,U,Z]
   apply sp bn O<;>intro _ O
   ·cases O;try simp only[cL,seval,U,Z]
    rw[ao];refine⟨_,rfl,?_⟩;refine⟨0,?_⟩;and_intros<;>first|rfl|(simp only[cL,seval,U,Z]<;>rfl)
   ·cases O;try simp only[cL,seval,U,Z]
    rw[ao];refine⟨_,rfl,?_⟩;refine⟨0,?_⟩;and_intros<;>first|rfl|(simp only[cL,seval,U,Z]<;>rfl)
def fZ (l:Option (D×Row)) (d:List D):=dR (ee (gf aC)) (fun x:(List au)=>e8 x) (fun r:Int =>.clean (.int .i64 r)) l d
def oY:Env:=(Am.ext bk 22 false dY)
theorem C7:bt prog oY:=(bt.none.add nF false)
theorem a6:type_of% (ai @w<|ai @sR<|ai @dY.eq_1<|@oY.eq_1):=⟨@w,@sR,@dY.eq_1,@oY.eq_1⟩
theorem sK:bN prog 13 fZ:=bN.ig (mode := .clean) tok C7 mixed func13 (by kernel_rfl) (fun _ _=>rfl) (fun _=>by kernel_rfl) fun p0 r O=>by
 replace O:e8 p0=some r:=O;apply aw rfl ntmps13 results13;simp only[im];unfold e8 at O;try simp only[a6,seval,-Int.reduceToNat]
 obtain⟨o5,an,O⟩:=ab O;refine ax (fun s t H e=>match s with|ad=>t 0=.sl false false p0.length (ae aC p0)∧t 3=.int .i64 ad) (fun o x t H e=>match o with|Z=>x=.exit 0∧t 0=.sl false false p0.length (ae aC p0)∧t 3=.int .i64 Z) an ?_ ?_ ?_
 ·and_intros<;>first|rfl|(simp only[a6,seval,-Int.reduceToNat]<;>rfl)
 ·rintro ad t H e Za c O;simp only[fv]at O;try simp only[a6,seval,-Int.reduceToNat,Za]
  apply sp bF O<;>intro _ O
  ·obtain⟨x7,ao,O⟩:=ab O;have q8:=kD ao;try simp only[a6,seval,-Int.reduceToNat,Za,q8]
   apply sp ak O<;>intro _ O
   ·cases O;try simp only[a6,seval,-Int.reduceToNat,Za,q8]
    apply jQ;and_intros<;>first|rfl|(simp only[a6,seval,-Int.reduceToNat,Za,q8]<;>rfl)
   ·cases O;try simp only[a6,seval,-Int.reduceToNat,Za,q8]
    apply ku;refine⟨rfl,?_⟩;and_intros<;>first|rfl|(simp only[a6,seval,-Int.reduceToNat,Za,q8]<;>rfl)
  ·cases O;try simp only[a6,seval,-Int.reduceToNat,Za]
   apply ku;refine⟨rfl,?_⟩;and_intros<;>first|rfl|(simp only[a6,seval,-Int.reduceToNat,Za]<;>rfl)
 ·rintro x t H e hx;obtain⟨Z,rfl⟩:∃z,z=o5:=⟨_,rfl⟩;dsimp only at hx O;obtain⟨rfl,aa⟩:=hx;obtain⟨au,ah,O⟩:=ab O;have U:=kD ah;try simp only[a6,seval,-Int.reduceToNat,aa,U]
  apply sp ak O<;>intro _ O
  ·cases O;try simp only[a6,seval,-Int.reduceToNat,aa,U]
  ·try simp only[a6,seval,-Int.reduceToNat,aa,U]
   obtain⟨aq,ai,O⟩:=ab O;refine ax (fun s t H e=>match s with|aj=>t 0=.sl false false p0.length (ae aC p0)∧t 3=.int .i64 Z∧t 4=.int .i64 aj) (fun o x t H e=>match o with|(.inl _)=>x=.exit 2∧t 3=.int .i64 Z|(.inr r)=>x=.ret∧fp .clean tab none [.tmp 2] ⟨t,EH H,e⟩=some (.clean (.int .i64 r),none)) ai ?_ ?_ ?_
   ·and_intros<;>first|rfl|(simp only[a6,seval,-Int.reduceToNat,aa,U]<;>rfl)
   ·rintro aj t H e Zb c O;simp only[kC]at O;try simp only[a6,seval,-Int.reduceToNat,U,Zb]
    apply sp ak O<;>intro _ O
    ·obtain⟨av,al,O⟩:=ab O;have X:=cq aC al;simp only[cF]at X;obtain⟨ay,Y,O⟩:=ab O;try simp only[a6,seval,-Int.reduceToNat,U,Zb,X,Y]
     apply sp ak O<;>intro _ O
     ·cases O;try simp only[a6,seval,-Int.reduceToNat,U,Zb,X,Y]
      refine DH ⟨rfl,?_⟩;try simp only[a6,seval,-Int.reduceToNat,U,Zb,X,Y]
     ·cases O;try simp only[a6,seval,-Int.reduceToNat,U,Zb,X,Y]
      apply jQ;and_intros<;>first|rfl|(simp only[a6,seval,-Int.reduceToNat,U,Zb,X,Y]<;>rfl)
    ·cases O;try simp only[a6,seval,-Int.reduceToNat,U,Zb]
     apply ku;refine⟨rfl,?_⟩;and_intros<;>first|rfl|(simp only[a6,seval,-Int.reduceToNat,U,Zb]<;>rfl)
   ·rintro x t H e hx;rcases aq with _|rb
    ·dsimp only at hx O;obtain⟨rfl,ar⟩:=hx;cases O;try simp only[a6,seval,-Int.reduceToNat,U,ar]
    ·dsimp only at hx O;obtain⟨rfl,hE⟩:=hx;cases O;try simp only[bf,aZ,bq,dD,dA,cI,cJ]
     exact hE
def pN (l:Option (D×Row)) (d:List D):=dR (gg (dm eF) (ee (dm eF))) (fun x:aH×aH=>kx x.1 x.2) (fun r:aH×Int =>.clean (.tup [.agg [.int .i64 r.1.an,.sl false false r.1.aa.length (ae (eI .i64) r.1.aa)],.int .i64 r.2])) l d
def tA:Env:=(Am.ext (Am.ext (Am.ext bk 40 false cH) 58 false eM) 78 false iG)
theorem IB:bt prog tA:=(((bt.none.add kv false).add pq false).add sJ false)
theorem fQ:type_of% (ai @w<|ai @BV<|ai @cH.eq_1<|ai @MW<|ai @eM.eq_1<|ai @y7<|ai @iG.eq_1<|@tA.eq_1):=⟨@w,@BV,@cH.eq_1,@MW,@eM.eq_1,@y7,@iG.eq_1,@tA.eq_1⟩
theorem IQ:bN prog 61 pN:=bN.ig (mode := .clean) tok IB mixed func61 (by kernel_rfl) (fun _ _=>rfl) (fun _=>by kernel_rfl) fun⟨p0,p1⟩ r O=>by
 replace O:kx p0 p1=some r:=O;apply aw rfl ntmps61 results61;simp only[im];unfold kx at O;obtain⟨r1,U,O⟩:=ab O;try simp only[fQ,seval,U]
 obtain⟨o2,aq,O⟩:=ab O;refine b4 0 (fun s t H e=>match s with|X=>∃Y:Nat,∃Z:Nat,∃ad:Nat,t 2=.ptr 2 Y 0∧t 3=.ptr 3 Z 0∧t 4=.ptr 4 ad 0∧t 13=.bool X∧H 2=some ⟨Y,25,[.int .i64 p0.an,.sl false false p0.aa.length (ae (eI .i64) p0.aa)],false,false,false⟩∧H 3=some ⟨Z,25,[.int .i64 p1.an,.sl false false p1.aa.length (ae (eI .i64) p1.aa)],false,false,false⟩∧H 4=some ⟨ad,25,[.int .i64 0,.sl true true 0 []],false,false,false⟩) (fun s=>s=o2) ?_ ?_
 ·rintro X t H e ⟨Y,Z,ad,ah⟩ rfl;try dsimp only at O
  try simp only[fQ,seval,U,ah]
  apply sp ak O<;>intro _ O
  ·cases O;try simp only[fQ,seval,U,ah]
  ·obtain⟨r4,ai,O⟩:=ab O;obtain⟨r5,aj,O⟩:=ab O;try simp only[fQ,seval,U,ah,ai,aj]
   refine cW (by kernel_rfl) ?_;cases O;try simp only[fQ,seval,U,ah,ai,aj]
 ·clear O;have O:=aq;try simp only[fQ,seval,U]
  apply sp bn O<;>intro _ O
  ·cases O;try simp only[fQ,seval,U]
   rw[ao];refine⟨_,rfl,?_⟩;refine⟨0,0,0,?_⟩;and_intros<;>first|rfl|(simp only[fQ,seval,U]<;>rfl)
  ·obtain⟨r7,al,O⟩:=ab O;cases O;try simp only[fQ,seval,U,al]
   rw[ao];refine⟨_,rfl,?_⟩;refine⟨0,0,0,?_⟩;and_intros<;>first|rfl|(simp only[fQ,seval,U,al]<;>rfl)
def jN (l:Option (D×Row)) (d:List D):=dR (gg (dm aC) (ee (dm aC))) (fun x:au×au=>iN x.1 x.2) (fun r:Int =>.clean (.int .i64 r)) l d
def mj:Env:=(Am.ext (Am.ext (Am.ext bk 22 false dY) 42 false eL) 61 false pN)
theorem xz:bt prog mj:=(((bt.none.add nF false).add po false).add IQ false)
theorem dz:type_of% (ai @w<|ai @sR<|ai @dY.eq_1<|ai @vF<|ai @eL.eq_1<|ai @pN.eq_1<|@mj.eq_1):=⟨@w,@sR,@dY.eq_1,@vF,@eL.eq_1,@pN.eq_1,@mj.eq_1⟩
theorem yk:bN prog 44 jN:=bN.ig (mode := .clean) tok xz mixed func44 (by kernel_rfl) (fun _ _=>rfl) (fun _=>by kernel_rfl) fun⟨p0,p1⟩ r O=>by
 replace O:iN p0 p1=some r:=O;apply aw rfl ntmps44 results44;simp only[im];unfold iN at O;obtain⟨r1,U,O⟩:=ab O;try simp only[dz,seval,U]
 obtain⟨o2,ai,O⟩:=ab O;refine b4 0 (fun s t H e=>match s with|X=>∃Y:Nat,∃Z:Nat,t 2=.ptr 2 Y 0∧t 3=.ptr 3 Z 0∧t 16=.bool X∧H 2=some ⟨Y,27,[.int .i64 p0.dQ.an,.sl false false p0.dQ.aa.length (ae (eI .i64) p0.dQ.aa),.int .i64 p0.dN.an,.sl false false p0.dN.aa.length (ae (eI .i64) p0.dN.aa)],false,false,false⟩∧H 3=some ⟨Z,27,[.int .i64 p1.dQ.an,.sl false false p1.dQ.aa.length (ae (eI .i64) p1.dQ.aa),.int .i64 p1.dN.an,.sl false false p1.dN.aa.length (ae (eI .i64) p1.dN.aa)],false,false,false⟩) (fun s=>s=o2) ?_ ?_
 ·rintro X t H e ⟨Y,Z,ad⟩ rfl;try dsimp only at O
  try simp only[dz,seval,U,ad]
  apply sp ak O<;>intro _ O
  ·cases O;try simp only[dz,seval,U,ad]
  ·obtain⟨r4,aj,O⟩:=ab O;obtain⟨r5,al,O⟩:=ab O;obtain⟨r6,aq,O⟩:=ab O;cases O;try simp only[dz,seval,U,ad,aj,al,aq]
 ·clear O;have O:=ai;try simp only[dz,seval,U]
  apply sp bn O<;>intro _ O
  ·cases O;try simp only[dz,seval,U]
   rw[ao];refine⟨_,rfl,?_⟩;refine⟨0,0,?_⟩;and_intros<;>first|rfl|(simp only[dz,seval,U]<;>rfl)
  ·obtain⟨r8,ah,O⟩:=ab O;cases O;try simp only[dz,seval,U,ah]
   rw[ao];refine⟨_,rfl,?_⟩;refine⟨0,0,?_⟩;and_intros<;>first|rfl|(simp only[dz,seval,U,ah]<;>rfl)
def jO (l:Option (D×Row)) (d:List D):=dR (gg (gf aC) (gg (dm aC) (ee (aI .i64)))) (fun x:(List au)×au×Int=>gu x.1 x.2.1 x.2.2) (fun r:Bool =>.clean (.bool r)) l d
theorem TN {β:Type} {F:(List au)×au×Int->Option β} {R:β->RK} (Z:(List au)) (X:Int) (O:(List Int)) (Y:Int) (U:(List Int)) (p2:Int):dR (gg (gf aC) (gg (dm aC) (ee (aI .i64)))) F R none [.sl false false Z.length (ae aC Z),.agg [.int .i64 X,.sl false false O.length (ae (eI .i64) O),.int .i64 Y,.sl false false U.length (ae (eI .i64) U)],.int .i64 p2]=(F (Z,(au.mk (aH.mk X O) (aH.mk Y U)),p2)).map fun r=>(R r,none):=b6 _ _ _ (Z,(au.mk (aH.mk X O) (aH.mk Y U)),p2)
def mm:Env:=(Am.ext bk 44 false jN)
theorem xB:bt prog mm:=(bt.none.add yk false)
theorem qT:type_of% (ai @w<|ai @QU<|ai @jN.eq_1<|@mm.eq_1):=⟨@w,@QU,@jN.eq_1,@mm.eq_1⟩
theorem yl:bN prog 23 jO:=bN.ig (mode := .clean) tok xB mixed func23 (by kernel_rfl) (fun _ _=>rfl) (fun _=>by kernel_rfl) fun⟨Z,p1,p2⟩ r O=>by
 replace O:gu Z p1 p2=some r:=O;apply aw rfl ntmps23 results23;simp only[im];unfold gu at O;obtain⟨x1,Y,O⟩:=ab O;have U:=cq aC Y;simp only[cF]at U;obtain⟨r2,X,O⟩:=ab O;try simp only[qT,seval,U,X]
 refine cW (by kernel_rfl) ?_;cases O;try simp only[qT,seval,U,X]
def mU (l:Option (D×Row)) (d:List D):=dR (ee (aI .i64)) (fun x:Int=>pA x) (fun r:(List Int) =>.clean (.sl false false r.length (ae (eI .i64) r))) l d
theorem GR:bN prog 25 mU:=bN.ig (mode := .clean) tok bt.none mixed func25 (by kernel_rfl) (fun _ _=>rfl) (fun _=>by kernel_rfl) fun p0 r O=>by
 replace O:pA p0=some r:=O;apply aw rfl ntmps25 results25;simp only[im];unfold pA at O;try simp only[w,seval,-Int.reduceToNat]
 obtain⟨o7,ao,O⟩:=ab O;refine ax (fun s t H e=>match s with|(al,aj)=>∃U:Nat,t 0=.int .i64 p0∧t 3=.buf 3 U 1 0 (aj).length∧t 4=.int .i64 al∧H 3=some ⟨U,3,ae (eI .i64) aj,false,true,false⟩) (fun o x t H e=>match o with|X=>x=.exit 0∧∃Y:Nat,t 3=.buf 3 Y 1 0 (X).length∧H 3=some ⟨Y,3,ae (eI .i64) X,false,true,false⟩) ao ?_ ?_ ?_
 ·refine⟨1,?_⟩;and_intros<;>first|rfl|(simp only[w,seval,-Int.reduceToNat]<;>rfl)
 ·rintro⟨al,aj⟩ t H e ⟨U,Za⟩ c O;simp only[uZ]at O;try simp only[w,seval,-Int.reduceToNat,Za]
  apply sp ak O<;>intro _ O
  ·obtain⟨x9,aq,O⟩:=ab O;have Z:=kE aq;try simp only[w,seval,-Int.reduceToNat,Za,Z]
   apply sp ak O<;>intro _ O
   ·obtain⟨au,an,O⟩:=ab O;obtain⟨ad,aa,ah,ai⟩:=fT (eI .i64) an;simp only[cF]at aa;cases O;try simp only[w,seval,-Int.reduceToNat,Za,Z,ad,aa,ah,ai]
    apply jQ;refine⟨e+1+1,?_⟩;and_intros<;>first|rfl|(simp only[w,seval,-Int.reduceToNat,Za,Z,ad,aa,ah,ai]<;>rfl)
   ·cases O;try simp only[w,seval,-Int.reduceToNat,Za,Z]
    apply jQ;refine⟨U,?_⟩;and_intros<;>first|rfl|(simp only[w,seval,-Int.reduceToNat,Za,Z]<;>rfl)
  ·cases O;try simp only[w,seval,-Int.reduceToNat,Za]
   apply ku;refine⟨rfl,⟨U,?_⟩⟩;and_intros<;>first|rfl|(simp only[w,seval,-Int.reduceToNat,Za]<;>rfl)
 ·rintro x t H e hx;obtain⟨X,rfl⟩:∃z,z=o7:=⟨_,rfl⟩;dsimp only at hx O;obtain⟨rfl,⟨Y,ar⟩⟩:=hx;cases O;try simp only[w,seval,-Int.reduceToNat,ar]
def s6 (l:Option (D×Row)) (d:List D):=dR (gg (gf (dp (eI .i64))) (ee (gf (eI .i64)))) (fun x:(List (List Int))×(List Int)=>nL x.1 x.2) (fun r:(List (List Int)) =>.clean (.sl false false r.length (ae (dp (eI .i64)) r))) l d
def tC:Env:=(Am.ext bk 26 false fm)
theorem ID:bt prog tC:=(bt.none.add qK false)
theorem bM:type_of% (ai @w<|ai @y7<|ai @fm.eq_1<|@tC.eq_1):=⟨@w,@y7,@fm.eq_1,@tC.eq_1⟩
theorem IU:bN prog 24 s6:=bN.ig (mode := .clean) tok ID mixed func24 (by kernel_rfl) (fun _ _=>rfl) (fun _=>by kernel_rfl) fun⟨p0,p1⟩ r O=>by
 replace O:nL p0 p1=some r:=O;apply aw rfl ntmps24 results24;simp only[im];unfold nL at O;try simp only[bM,seval]
 obtain⟨aV,aJ,O⟩:=ab O;refine ax (fun s t H e=>match s with|(aH,au,Z)=>∃X:Nat,t 0=.sl false false p0.length (ae (dp (eI .i64)) p0)∧t 1=.sl false false p1.length (ae (eI .i64) p1)∧t 5=.buf 5 X 1 0 (Z).length∧t 6=.bool aH∧t 7=.int .i64 au∧H 5=some ⟨X,23,ae (dp (eI .i64)) Z,false,true,false⟩) (fun o x t H e=>match o with|(av,aa)=>x=.exit 0∧∃ad:Nat,t 1=.sl false false p1.length (ae (eI .i64) p1)∧t 5=.buf 5 ad 1 0 (aa).length∧t 6=.bool av∧H 5=some ⟨ad,23,ae (dp (eI .i64)) aa,false,true,false⟩) aJ ?_ ?_ ?_
 ·refine⟨1,?_⟩;and_intros<;>first|rfl|(simp only[bM,seval]<;>rfl)
 ·rintro⟨aH,au,Z⟩ t H e ⟨X,Za⟩ c O;simp only[lE]at O;try simp only[bM,seval,Za]
  apply sp ak O<;>intro _ O
  ·try simp only[bM,seval,Za]
   obtain⟨aW,aK,O⟩:=ab O;refine b4 0 (fun s t H e=>match s with|ah=>∃U:Nat,t 0=.sl false false p0.length (ae (dp (eI .i64)) p0)∧t 1=.sl false false p1.length (ae (eI .i64) p1)∧t 5=.buf 5 U 1 0 (Z).length∧t 6=.bool aH∧t 7=.int .i64 au∧t 24=.bool ah∧H 5=some ⟨U,23,ae (dp (eI .i64)) Z,false,true,false⟩) (fun s=>s=aW) ?_ ?_
   ·rintro ah t H e ⟨U,Y⟩ rfl;try dsimp only at O
    try simp only[bM,seval,Y]
    obtain⟨aX,aL,O⟩:=ab O;refine j7 0 (fun s t H e=>match s with|(ay,ai)=>∃aj:Nat,t 0=.sl false false p0.length (ae (dp (eI .i64)) p0)∧t 1=.sl false false p1.length (ae (eI .i64) p1)∧t 5=.buf 5 aj 1 0 (ai).length∧t 6=.bool ay∧t 7=.int .i64 au∧H 5=some ⟨aj,23,ae (dp (eI .i64)) ai,false,true,false⟩) (fun s=>s=aX) ?_ ?_
    ·rintro⟨ay,ai⟩ t H e ⟨aj,aM⟩ rfl;try dsimp only at O
     obtain⟨aY,aN,O⟩:=ab O;have al:=cq (dp (eI .i64)) aN;simp only[cF]at al;obtain⟨aZ,aO,O⟩:=ab O;obtain⟨az,an,aA,aB⟩:=fT (dp (eI .i64)) aO;simp only[cF]at an;cases O;try simp only[bM,seval,aM,al,az,an,aA,aB]
     apply jQ;refine⟨e,?_⟩;and_intros<;>first|rfl|(simp only[bM,seval,aM,al,az,an,aA,aB]<;>rfl)
    ·clear O;have O:=aL;try simp only[bM,seval,Y]
     apply sp ak O<;>intro _ O
     ·obtain⟨a1,aP,O⟩:=ab O;obtain⟨aC,aq,aD,aE⟩:=fT (dp (eI .i64)) aP;simp only[cF]at aq;cases O;try simp only[bM,seval,Y,aC,aq,aD,aE]
      rw[ao];refine⟨_,rfl,?_⟩;refine⟨e,?_⟩;and_intros<;>first|rfl|(simp only[bM,seval,Y,aC,aq,aD,aE]<;>rfl)
     ·cases O;try simp only[bM,seval,Y]
      rw[ao];refine⟨_,rfl,?_⟩;refine⟨U,?_⟩;and_intros<;>first|rfl|(simp only[bM,seval,Y]<;>rfl)
   ·clear O;have O:=aK;try simp only[bM,seval,Za]
    apply sp bF O<;>intro _ O
    ·obtain⟨a6,aQ,O⟩:=ab O;have ar:=cq (dp (eI .i64)) aQ;simp only[cF]at ar;obtain⟨a7,aF,O⟩:=ab O;cases O;try simp only[bM,seval,Za,ar,aF]
     rw[ao];refine⟨_,rfl,?_⟩;refine⟨X,?_⟩;and_intros<;>first|rfl|(simp only[bM,seval,Za,ar,aF]<;>rfl)
    ·cases O;try simp only[bM,seval,Za]
     rw[ao];refine⟨_,rfl,?_⟩;refine⟨X,?_⟩;and_intros<;>first|rfl|(simp only[bM,seval,Za]<;>rfl)
  ·cases O;try simp only[bM,seval,Za]
   apply ku;refine⟨rfl,⟨X,?_⟩⟩;and_intros<;>first|rfl|(simp only[bM,seval,Za]<;>rfl)
 ·rintro x t H e hx;rcases aV with⟨av,aa⟩;dsimp only at hx O;obtain⟨rfl,⟨ad,aI⟩⟩:=hx;try simp only[bM,seval,aI]
  apply sp ak O<;>intro _ O
  ·obtain⟨a8,aR,O⟩:=ab O;obtain⟨aS,aG,aT,aU⟩:=fT (dp (eI .i64)) aR;simp only[cF]at aG;cases O;try simp only[bM,seval,aI,aS,aG,aT,aU]
  ·cases O;try simp only[bM,seval,aI]
def eN (l:Option (D×Row)) (d:List D):=dR (gg (gf aC) (ee (dm aC))) (fun x:(List au)×au=>dc x.1 x.2) (fun r:(List (List Int))×Int =>.clean (.tup [.sl false false r.1.length (ae (dp (eI .i64)) r.1),.int .i64 r.2])) l d
theorem BH (O:(List (List Int))) (U:(List Int)):s6 none [.sl false false O.length (ae (dp (eI .i64)) O),.sl false false U.length (ae (eI .i64) U)]=(nL O U).map fun r:(List (List Int))=>(.clean (.sl false false r.length (ae (dp (eI .i64)) r)),none):=b6 _ _ _ (O,U)
def ml:Env:=(Am.keep 7 (Am.ext (Am.ext (Am.ext (Am.ext (Am.ext bk 13 false fZ) 22 false dY) 23 false jO) 24 false s6) 25 false mU))
theorem xA:bt prog ml:=(bt.keep (((((bt.none.add sK false).add nF false).add yl false).add IU false).add GR false) 7)
theorem aA:type_of% (ai @w<|ai @MD<|ai @fZ.eq_1<|ai @sR<|ai @dY.eq_1<|ai @TN<|ai @jO.eq_1<|ai @BH<|ai @K9<|ai @mU.eq_1<|@ml.eq_1):=⟨@w,@MD,@fZ.eq_1,@sR,@dY.eq_1,@TN,@jO.eq_1,@BH,@K9,@mU.eq_1,@ml.eq_1⟩
theorem pr:bN prog 10 eN:=bN.ig (mode := .clean) tok xA mixed func10 (by kernel_rfl) (fun _ _=>rfl) (fun _=>by kernel_rfl) fun⟨p0,Z⟩ r U=>by
 replace U:dc p0 Z=some r:=U;apply aw rfl ntmps10 results10;simp only[im];unfold dc at U;obtain⟨r1,O,U⟩:=ab U;try simp only[aA,seval,-Int.reduceToNat,O]
 obtain⟨o2,aM,U⟩:=ab U;refine b4 0 (fun s t H e=>match s with|aq=>∃al:Nat,t 0=.sl false false p0.length (ae aC p0)∧t 3=.ptr 3 al 0∧t 6=.int .i64 r1∧t 19=.bool aq∧H 3=some ⟨al,27,[.int .i64 Z.dQ.an,.sl false false Z.dQ.aa.length (ae (eI .i64) Z.dQ.aa),.int .i64 Z.dN.an,.sl false false Z.dN.aa.length (ae (eI .i64) Z.dN.aa)],false,false,false⟩) (fun s=>s=o2) ?_ ?_
 ·rintro aq t H e ⟨al,av⟩ rfl;try dsimp only at U
  try simp only[aA,seval,-Int.reduceToNat,O,av]
  apply sp ak U<;>intro _ U
  ·cases U;try simp only[aA,seval,-Int.reduceToNat,O,av]
  ·try simp only[aA,seval,-Int.reduceToNat,O,av]
   obtain⟨aN,aI,U⟩:=ab U;refine ax (fun s t H e=>match s with|(ai,ay)=>∃az:Nat,t 0=.sl false false p0.length (ae aC p0)∧t 3=.ptr 3 az 0∧t 6=.int .i64 r1∧t 7=.sl false false ai.length (ae (dp (eI .i64)) ai)∧t 8=.int .i64 ay∧H 3=some ⟨az,27,[.int .i64 Z.dQ.an,.sl false false Z.dQ.aa.length (ae (eI .i64) Z.dQ.aa),.int .i64 Z.dN.an,.sl false false Z.dN.aa.length (ae (eI .i64) Z.dN.aa)],false,false,false⟩) (fun o x t H e=>match o with|ar=>x=.exit 0∧t 7=.sl false false ar.length (ae (dp (eI .i64)) ar)) aI ?_ ?_ ?_
   ·refine⟨al,?_⟩;and_intros<;>first|rfl|(simp only[aA,seval,-Int.reduceToNat,O,av]<;>rfl)
   ·rintro⟨ai,ay⟩ t H e ⟨az,Zb⟩ c U;simp only[gq]at U;obtain⟨aP,aJ,U⟩:=ab U;have Y:=kD aJ;try simp only[aA,seval,-Int.reduceToNat,O,Zb,Y]
    apply sp ak U<;>intro _ U
    ·obtain⟨aQ,X,U⟩:=ab U;try simp only[aA,seval,-Int.reduceToNat,O,Zb,Y,X]
     obtain⟨aO,aK,U⟩:=ab U;refine ax (fun s t H e=>match s with|(aL,aB)=>∃aj:Nat,t 0=.sl false false p0.length (ae aC p0)∧t 3=.ptr 3 aj 0∧t 6=.int .i64 r1∧t 7=.sl false false ai.length (ae (dp (eI .i64)) ai)∧t 8=.int .i64 ay∧t 9=.bool aL∧t 10=.int .i64 aB∧H 3=some ⟨aj,27,[.int .i64 Z.dQ.an,.sl false false Z.dQ.aa.length (ae (eI .i64) Z.dQ.aa),.int .i64 Z.dN.an,.sl false false Z.dN.aa.length (ae (eI .i64) Z.dN.aa)],false,false,false⟩) (fun o x t H e=>match o with|aD=>x=.exit 2∧∃ad:Nat,t 0=.sl false false p0.length (ae aC p0)∧t 3=.ptr 3 ad 0∧t 6=.int .i64 r1∧t 7=.sl false false ai.length (ae (dp (eI .i64)) ai)∧t 8=.int .i64 ay∧t 9=.bool aD∧H 3=some ⟨ad,27,[.int .i64 Z.dQ.an,.sl false false Z.dQ.aa.length (ae (eI .i64) Z.dQ.aa),.int .i64 Z.dN.an,.sl false false Z.dN.aa.length (ae (eI .i64) Z.dN.aa)],false,false,false⟩) aK ?_ ?_ ?_
     ·refine⟨az,?_⟩;and_intros<;>first|rfl|(simp only[aA,seval,-Int.reduceToNat,O,Zb,Y,X]<;>rfl)
     ·rintro⟨aL,aB⟩ t H e ⟨aj,Zd⟩ c U;simp only[gr]at U;try simp only[aA,seval,-Int.reduceToNat,O,Y,X,Zd]
      apply sp ak U<;>intro _ U
      ·try simp only[aA,seval,-Int.reduceToNat,O,Y,X,Zd]
       apply sp bF U<;>intro _ U
       ·obtain⟨aR,ah,U⟩:=ab U;try simp only[aA,seval,-Int.reduceToNat,O,Y,X,Zd,ah]
        apply sp ak U<;>intro _ U
        ·cases U;try simp only[aA,seval,-Int.reduceToNat,O,Y,X,Zd,ah]
         apply jQ;refine⟨aj,?_⟩;and_intros<;>first|rfl|(simp only[aA,seval,-Int.reduceToNat,O,Y,X,Zd,ah]<;>rfl)
        ·cases U;try simp only[aA,seval,-Int.reduceToNat,O,Y,X,Zd,ah]
         apply jQ;refine⟨aj,?_⟩;and_intros<;>first|rfl|(simp only[aA,seval,-Int.reduceToNat,O,Y,X,Zd,ah]<;>rfl)
       ·cases U;try simp only[aA,seval,-Int.reduceToNat,O,Y,X,Zd]
        apply jQ;refine⟨aj,?_⟩;and_intros<;>first|rfl|(simp only[aA,seval,-Int.reduceToNat,O,Y,X,Zd]<;>rfl)
      ·cases U;try simp only[aA,seval,-Int.reduceToNat,O,Y,X,Zd]
       apply ku;refine⟨rfl,⟨aj,?_⟩⟩;and_intros<;>first|rfl|(simp only[aA,seval,-Int.reduceToNat,O,Y,X,Zd]<;>rfl)
     ·rintro x t H e hx;obtain⟨aD,rfl⟩:∃z,z=aO:=⟨_,rfl⟩;dsimp only at hx U;obtain⟨rfl,⟨ad,au⟩⟩:=hx;try simp only[aA,seval,-Int.reduceToNat,O,Y,X,au]
      apply sp ak U<;>intro _ U
      ·obtain⟨aS,aE,U⟩:=ab U;obtain⟨aT,aF,U⟩:=ab U;cases U;try simp only[aA,seval,-Int.reduceToNat,O,Y,X,au,aE,aF]
       apply jQ;refine⟨ad,?_⟩;and_intros<;>first|rfl|(simp only[aA,seval,-Int.reduceToNat,O,Y,X,au,aE,aF]<;>rfl)
      ·cases U;try simp only[aA,seval,-Int.reduceToNat,O,Y,X,au]
       apply jQ;refine⟨ad,?_⟩;and_intros<;>first|rfl|(simp only[aA,seval,-Int.reduceToNat,O,Y,X,au]<;>rfl)
    ·cases U;try simp only[aA,seval,-Int.reduceToNat,O,Zb,Y]
     apply ku;refine⟨rfl,?_⟩;and_intros<;>first|rfl|(simp only[aA,seval,-Int.reduceToNat,O,Zb,Y]<;>rfl)
   ·rintro x t H e hx;obtain⟨ar,rfl⟩:∃z,z=aN:=⟨_,rfl⟩;dsimp only at hx U;obtain⟨rfl,aH⟩:=hx;try simp only[aA,seval,-Int.reduceToNat,O,aH]
    apply sp ak U<;>intro _ U
    ·cases U;try simp only[aA,seval,-Int.reduceToNat,O,aH]
    ·cases U;try simp only[aA,seval,-Int.reduceToNat,O,aH]
 ·clear U;have U:=aM;try simp only[aA,seval,-Int.reduceToNat,O]
  apply sp bn U<;>intro _ U
  ·cases U;try simp only[aA,seval,-Int.reduceToNat,O]
   rw[ao];refine⟨_,rfl,?_⟩;refine⟨0,?_⟩;and_intros<;>first|rfl|(simp only[aA,seval,-Int.reduceToNat,O]<;>rfl)
  ·obtain⟨aU,aG,U⟩:=ab U;cases U;try simp only[aA,seval,-Int.reduceToNat,O,aG]
   rw[ao];refine⟨_,rfl,?_⟩;refine⟨0,?_⟩;and_intros<;>first|rfl|(simp only[aA,seval,-Int.reduceToNat,O,aG]<;>rfl)
def iw (l:Option (D×Row)) (d:List D):=dR (gg (gf aC) (ee (dm aC))) (fun x:(List au)×au=>lD x.1 x.2) (fun r:(List (List Int))×Int =>.clean (.tup [.sl false false r.1.length (ae (dp (eI .i64)) r.1),.int .i64 r.2])) l d
def rn:Env:=(Am.ext bk 10 false eN)
theorem Fs:bt prog rn:=(bt.none.add pr false)
theorem cY:type_of% (ai @w<|ai @zu<|ai @eN.eq_1<|@rn.eq_1):=⟨@w,@zu,@eN.eq_1,@rn.eq_1⟩
theorem uW:bN prog 8 iw:=bN.ig (mode := .clean) tok Fs mixed func8 (by kernel_rfl) (fun _ _=>rfl) (fun _=>by kernel_rfl) fun⟨p0,p1⟩ r X=>by
 replace X:lD p0 p1=some r:=X;apply aw rfl ntmps8 results8;simp only[im];unfold lD at X;obtain⟨r1,U,X⟩:=ab X;try simp only[cY,seval,U]
 apply sp ak X<;>intro _ X
 ·cases X;try simp only[cY,seval,U]
 ·try simp only[cY,seval,U]
  obtain⟨o9,ay,X⟩:=ab X;refine ax (fun s t H e=>match s with|(au,ar)=>∃aa:Nat,t 6=.sl false false r1.1.length (ae (dp (eI .i64)) r1.1)∧t 8=.buf 8 aa 1 0 (ar).length∧t 9=.int .i64 au∧H 8=some ⟨aa,23,ae (dp (eI .i64)) ar,false,true,false⟩) (fun o x t H e=>match o with|ad=>x=.exit 0∧∃ah:Nat,t 8=.buf 8 ah 1 0 (ad).length∧H 8=some ⟨ah,23,ae (dp (eI .i64)) ad,false,true,false⟩) ay ?_ ?_ ?_
  ·refine⟨3,?_⟩;and_intros<;>first|rfl|(simp only[cY,seval,U]<;>rfl)
  ·rintro⟨au,ar⟩ t H e ⟨aa,Za⟩ c X;simp only[j2]at X;try simp only[cY,seval,U,Za]
   apply sp ak X<;>intro _ X
   ·obtain⟨aA,aj,X⟩:=ab X;have O:=cq (dp (eI .i64)) aj;simp only[cF]at O;obtain⟨aB,al,X⟩:=ab X;have Y:=cq (dp (eI .i64)) al;simp only[cF]at Y;have Z:=Te (dp (eI .i64)) al;simp only[cF]at Z;try simp only[cY,seval,U,Za,O,Y,Z]
    refine cW (by kernel_rfl) ?_;try simp only[cY,seval,U,Za,O,Y,Z]
    apply sp ak X<;>intro _ X
    ·have O:=cq (dp (eI .i64)) aj;simp only[cF]at O;obtain⟨aC,av,X⟩:=ab X;obtain⟨an,ai,ao,aq⟩:=fT (dp (eI .i64)) av;simp only[cF]at ai;cases X;try simp only[cY,seval,U,Za,O,Y,Z,O,an,ai,ao,aq]
     apply jQ;refine⟨e+1+1,?_⟩;and_intros<;>first|rfl|(simp only[cY,seval,U,Za,O,Y,Z,O,an,ai,ao,aq]<;>rfl)
    ·cases X;try simp only[cY,seval,U,Za,O,Y,Z]
     apply jQ;refine⟨aa,?_⟩;and_intros<;>first|rfl|(simp only[cY,seval,U,Za,O,Y,Z]<;>rfl)
   ·cases X;try simp only[cY,seval,U,Za]
    apply ku;refine⟨rfl,⟨aa,?_⟩⟩;and_intros<;>first|rfl|(simp only[cY,seval,U,Za]<;>rfl)
  ·rintro x t H e hx;obtain⟨ad,rfl⟩:∃z,z=o9:=⟨_,rfl⟩;dsimp only at hx X;obtain⟨rfl,⟨ah,az⟩⟩:=hx;cases X;try simp only[cY,seval,U,az]
def lS (l:Option (D×Row)) (d:List D):=dR (gg (gf aC) (gg (dm aC) (ee (gf (dp (eI .i64)))))) (fun x:(List au)×au×(List (List Int))=>kL x.1 x.2.1 x.2.2) (fun r:Bool =>.clean (.bool r)) l d
def oX:Env:=(Am.ext (Am.ext bk 8 false iw) 11 false eO)
theorem C6:bt prog oX:=((bt.none.add uW false).add pt false)
theorem pG:type_of% (ai @w<|ai @zu<|ai @iw.eq_1<|ai @ME<|ai @eO.eq_1<|@oX.eq_1):=⟨@w,@zu,@iw.eq_1,@ME,@eO.eq_1,@oX.eq_1⟩
theorem Dm:bN prog 15 lS:=bN.ig (mode := .clean) tok C6 mixed func15 (by kernel_rfl) (fun _ _=>rfl) (fun _=>by kernel_rfl) fun⟨Y,Z,p2⟩ r O=>by
 replace O:kL Y Z p2=some r:=O;apply aw rfl ntmps15 results15;simp only[im];unfold kL at O;obtain⟨r1,U,O⟩:=ab O;try simp only[pG,seval,U]
 apply sp bF O<;>intro _ O
 ·obtain⟨r3,X,O⟩:=ab O;cases O;try simp only[pG,seval,U,X]
 ·cases O;try simp only[pG,seval,U]
def rP (l:Option (D×Row)) (d:List D):=dR (gg (gf aC) (gg (dm aC) (ee (gf (dp (eI .i64)))))) (fun x:(List au)×au×(List (List Int))=>dK x.1 x.2.1 x.2.2) (fun r:Bool =>.clean (.bool r)) l d
def jb:Env:=(Am.ext (Am.ext (Am.ext (Am.ext (Am.ext (Am.ext (Am.ext (Am.ext (Am.ext (Am.ext (Am.ext (Am.ext bk 4 false lQ) 5 false pP) 6 false lP) 7 false cQ) 8 false iw) 9 false cg) 10 false eN) 11 false eO) 12 false cS) 13 false fZ) 14 false eW) 15 false lS)
theorem rp:bt prog jb:=((((((((((((bt.none.add Dk false).add IT false).add Dj false).add ji false).add uW false).add jh false).add pr false).add pt false).add kc false).add sK false).add oa false).add Dm false)
theorem aq:type_of% (ai @w<|ai @TK<|ai @lQ.eq_1<|ai @zu<|ai @pP.eq_1<|ai @TM<|ai @lP.eq_1<|ai @cQ.eq_1<|ai @iw.eq_1<|ai @cg.eq_1<|ai @eN.eq_1<|ai @ME<|ai @eO.eq_1<|ai @MD<|ai @cS.eq_1<|ai @fZ.eq_1<|ai @TJ<|ai @eW.eq_1<|ai @lS.eq_1<|@jb.eq_1):=⟨@w,@TK,@lQ.eq_1,@zu,@pP.eq_1,@TM,@lP.eq_1,@cQ.eq_1,@iw.eq_1,@cg.eq_1,@eN.eq_1,@ME,@eO.eq_1,@MD,@cS.eq_1,@fZ.eq_1,@TJ,@eW.eq_1,@lS.eq_1,@jb.eq_1⟩
theorem rB:bN prog 3 rP:=bN.ig (mode := .clean) tok rp mixed func3 (by kernel_rfl) (fun _ _=>rfl) (fun _=>by kernel_rfl) fun⟨p0,p1,p2⟩ r O=>by
 replace O:dK p0 p1 p2=some r:=O;apply aw rfl ntmps3 results3;simp only[im];unfold dK at O;obtain⟨r1,U,O⟩:=ab O;obtain⟨r2,X,O⟩:=ab O;try simp only[aq,seval,U,X]
 obtain⟨o3,aG,O⟩:=ab O;refine b4 0 (fun s t H e=>match s with|ay=>∃aj:Nat,t 0=.sl false false p0.length (ae aC p0)∧t 2=.sl false false p2.length (ae (dp (eI .i64)) p2)∧t 4=.ptr 4 aj 0∧t 7=.bool r1∧t 26=.bool ay∧H 4=some ⟨aj,27,[.int .i64 p1.dQ.an,.sl false false p1.dQ.aa.length (ae (eI .i64) p1.dQ.aa),.int .i64 p1.dN.an,.sl false false p1.dN.aa.length (ae (eI .i64) p1.dN.aa)],false,false,false⟩) (fun s=>s=o3) ?_ ?_
 ·rintro ay t H e ⟨aj,ai⟩ rfl;try dsimp only at O
  try simp only[aq,seval,U,X,ai]
  apply sp ak O<;>intro _ O
  ·cases O;try simp only[aq,seval,U,X,ai]
  ·obtain⟨r5,Y,O⟩:=ab O;obtain⟨r6,Z,O⟩:=ab O;obtain⟨r7,ad,O⟩:=ab O;obtain⟨r8,ah,O⟩:=ab O;try simp only[aq,seval,U,X,ai,Y,Z,ad,ah]
   obtain⟨o9,aH,O⟩:=ab O;refine b4 0 (fun s t H e=>match s with|az=>∃aA:Nat,t 0=.sl false false p0.length (ae aC p0)∧t 2=.sl false false p2.length (ae (dp (eI .i64)) p2)∧t 4=.ptr 4 aA 0∧t 7=.bool r1∧t 8=.sl false false r5.1.length (ae (dp (eI .i64)) r5.1)∧t 9=.int .i64 r5.2∧t 16=.bool az∧H 4=some ⟨aA,27,[.int .i64 p1.dQ.an,.sl false false p1.dQ.aa.length (ae (eI .i64) p1.dQ.aa),.int .i64 p1.dN.an,.sl false false p1.dN.aa.length (ae (eI .i64) p1.dN.aa)],false,false,false⟩) (fun s=>s=o9) ?_ ?_
   ·rintro az t H e ⟨aA,ar⟩ rfl;try dsimp only at O
    try simp only[aq,seval,U,X,Y,Z,ad,ah,ar]
    apply sp vS O<;>intro _ O
    ·try simp only[aq,seval,U,X,Y,Z,ad,ah,ar]
     apply sp vS O<;>intro _ O
     ·obtain⟨aI,au,O⟩:=ab O;obtain⟨aJ,av,O⟩:=ab O;try simp only[aq,seval,U,X,Y,Z,ad,ah,ar,au,av]
      apply sp vS O<;>intro _ O
      ·obtain⟨aK,aB,O⟩:=ab O;try simp only[aq,seval,U,X,Y,Z,ad,ah,ar,au,av,aB]
       refine cW (by kernel_rfl) ?_;cases O;try simp only[aq,seval,U,X,Y,Z,ad,ah,ar,au,av,aB]
      ·try simp only[aq,seval,U,X,Y,Z,ad,ah,ar,au,av]
       refine cW (by kernel_rfl) ?_;cases O;try simp only[aq,seval,U,X,Y,Z,ad,ah,ar,au,av]
     ·try simp only[aq,seval,U,X,Y,Z,ad,ah,ar]
      refine cW (by kernel_rfl) ?_;cases O;try simp only[aq,seval,U,X,Y,Z,ad,ah,ar]
    ·try simp only[aq,seval,U,X,Y,Z,ad,ah,ar]
     refine cW (by kernel_rfl) ?_;cases O;try simp only[aq,seval,U,X,Y,Z,ad,ah,ar]
   ·clear O;have O:=aH;try simp only[aq,seval,U,X,ai,Y,Z,ad,ah]
    apply sp bF O<;>intro _ O
    ·try simp only[aq,seval,U,X,ai,Y,Z,ad,ah]
     apply sp bF O<;>intro _ O
     ·obtain⟨aL,al,O⟩:=ab O;try simp only[aq,seval,U,X,ai,Y,Z,ad,ah,al]
      apply sp bF O<;>intro _ O
      ·obtain⟨aM,ax,O⟩:=ab O;try simp only[aq,seval,U,X,ai,Y,Z,ad,ah,al,ax]
       apply sp bF O<;>intro _ O
       ·obtain⟨aN,aD,O⟩:=ab O;obtain⟨aO,aE,O⟩:=ab O;cases O;try simp only[aq,seval,U,X,ai,Y,Z,ad,ah,al,ax,aD,aE]
        rw[ao];refine⟨_,rfl,?_⟩;refine⟨aj,?_⟩;and_intros<;>first|rfl|(simp only[aq,seval,U,X,ai,Y,Z,ad,ah,al,ax,aD,aE]<;>rfl)
       ·cases O;try simp only[aq,seval,U,X,ai,Y,Z,ad,ah,al,ax]
        rw[ao];refine⟨_,rfl,?_⟩;refine⟨aj,?_⟩;and_intros<;>first|rfl|(simp only[aq,seval,U,X,ai,Y,Z,ad,ah,al,ax]<;>rfl)
      ·cases O;try simp only[aq,seval,U,X,ai,Y,Z,ad,ah,al]
       rw[ao];refine⟨_,rfl,?_⟩;refine⟨aj,?_⟩;and_intros<;>first|rfl|(simp only[aq,seval,U,X,ai,Y,Z,ad,ah,al]<;>rfl)
     ·cases O;try simp only[aq,seval,U,X,ai,Y,Z,ad,ah]
      rw[ao];refine⟨_,rfl,?_⟩;refine⟨aj,?_⟩;and_intros<;>first|rfl|(simp only[aq,seval,U,X,ai,Y,Z,ad,ah]<;>rfl)
    ·cases O;try simp only[aq,seval,U,X,ai,Y,Z,ad,ah]
     rw[ao];refine⟨_,rfl,?_⟩;refine⟨aj,?_⟩;and_intros<;>first|rfl|(simp only[aq,seval,U,X,ai,Y,Z,ad,ah]<;>rfl)
 ·clear O;have O:=aG;try simp only[aq,seval,U,X]
  apply sp bn O<;>intro _ O
  ·cases O;try simp only[aq,seval,U,X]
   rw[ao];refine⟨_,rfl,?_⟩;refine⟨0,?_⟩;and_intros<;>first|rfl|(simp only[aq,seval,U,X]<;>rfl)
  ·obtain⟨aP,aF,O⟩:=ab O;cases O;try simp only[aq,seval,U,X,aF]
   rw[ao];refine⟨_,rfl,?_⟩;refine⟨0,?_⟩;and_intros<;>first|rfl|(simp only[aq,seval,U,X,aF]<;>rfl)
end Go.Proofs.Ytgnoaanebhmegaa.Am
namespace Go.Proofs.Ytgnoaanebhmegaa.Am
open Go.ChangeShapes Go.WideShapes Go.ChangeAt Go.RowKit Go.Proofs.Ytgnoaanebhmegaa.P
set_option maxRecDepth 100000
theorem Try.own:ownKnob Try.prog.godebug=none:=by kernel_rfl
theorem Try.laidOut:laidOutB prog=true:=by kernel_rfl
theorem Tx (n:Nat):Js tab (n+1) 3 (eI .i64) (fun x=>(Lit.int .i64 x).wf=true):=Vy Lw rfl rfl
theorem RM (n:Nat):Js tab (n+2) 23 (dp (eI .i64)) (fun x=>(x.length*8<=140737488351232∧∀y∈x,(Lit.int .i64 y).wf=true)):=SG Dy rfl rfl (by rw[Lw];rfl) (Tx n)
def Df (x:aH):Prop:=(Lit.int .i64 x.an).wf=true∧((x.aa.length*8<=140737488351232∧∀y∈x.aa,(Lit.int .i64 y).wf=true))
theorem RN (n:Nat):Js tab (n+3) 25 eF (fun x=>Df x):=Vb (g:=fun y=>aH.mk y.1 y.2) I8 rfl rfl (fun _=>rfl) (Tu (Tx (n+1)) rfl (Tt (RM n)))
def j0 (x:au):Prop:=Df x.dQ∧(Df x.dN)
theorem RO (n:Nat):Js tab (n+4) 27 aC (fun x=>j0 x):=Vb (g:=fun y=>au.mk y.1 y.2) yO rfl rfl (fun _=>rfl) (Tu (RN n) rfl (Tt (RN n)))
theorem Tv (n:Nat):Js tab (n+5) 22 (dp aC) (fun x=>(x.length*64<=140737488351232∧∀y∈x,j0 y)):=SG Dx rfl rfl (by rw[yO];rfl) (RO n)
theorem Tw (n:Nat):Js tab (n+3) 28 (dp (dp (eI .i64))) (fun x=>(x.length*24<=140737488351232∧∀y∈x,(y.length*8<=140737488351232∧∀z∈y,(Lit.int .i64 z).wf=true))):=SG Dz rfl rfl (by rw[Dy];rfl) (RM n)
theorem ow:M5 tab 6 [22,27,28] (gg (gf aC) (gg (dm aC) (ee (gf (dp (eI .i64)))))) (fun x=>(x.1.length*64<=140737488351232∧∀y∈x.1,j0 y)∧(j0 x.2.1∧((x.2.2.length*24<=140737488351232∧∀y∈x.2.2,(y.length*8<=140737488351232∧∀z∈y,(Lit.int .i64 z).wf=true))))):=(Ts (Tr Dx rfl (Tv 1)) (Ts (Vw yO rfl (RO 2)) (US (Tr Dz rfl (Tw 3)))))
theorem nA (law:∀(a0:(List au)) (X:au) (a2:(List (List Int))),((a0.length*64<=140737488351232∧∀y∈a0,j0 y))->(j0 X)->((a2.length*24<=140737488351232∧∀y∈a2,(y.length*8<=140737488351232∧∀z∈y,(Lit.int .i64 z).wf=true)))->P.dK a0 X a2=some true) (os:Os) (started:os.Started) (H:Type) (enc:TypeId×Value->H) :
  ReturnsInHanded {} Try.checked os 3 .any (Rows.targetTellsSpec.pre6 enc prog Try.f3 Rows.targetTellsRow.domain false) (Rows.targetTellsSpec.post enc prog Try.f3 false true false false):=by
 refine I0 (C:=Try.checked) (T:=tab) (tb:=4) (n:=6) tok Try.own started (by kernel_rfl) func3
  (ChangeSpec.witness6 (enc:=enc) (C:=Try.checked) false ⟨#[],#[.slice none 0 0,.agg #[.int .i64 0,.slice none 0 0,.int .i64 0,.slice none 0 0],.slice none 0 0],[]⟩ 8 (by kernel_rfl) (by kernel_rfl) (by kernel_rfl) (by kernel_rfl)) Try.laidOut (by kernel_rfl) rfl (by kernel_rfl) rfl (fun ds O =>?_) (fun Z Y hs =>?_)
 ·rw[Try.params3]at O
  match ds,O with
  | [d0,d1,d2],_=>exact⟨rfl,rfl,rfl⟩
 ·rw[Try.params3]at Y hs;exact Sv ow rB (fun x U=>law x.1 x.2.1 x.2.2 U.1 U.2.1 U.2.2) Z Y hs
theorem ov (law:∀(a0:(List au)) (O:au) (a2:(List (List Int))),((a0.length*64<=140737488351232∧∀y∈a0,j0 y))->(j0 O)->((a2.length*24<=140737488351232∧∀y∈a2,(y.length*8<=140737488351232∧∀z∈y,(Lit.int .i64 z).wf=true)))->P.dK a0 O a2=some true):Rows.TargetTellsSaid :=
 OpenClaim.holds_of_wide 3 Try.f3 rfl rfl rfl rfl rfl rfl rfl ⟨rfl,rfl,rfl,rfl,rfl⟩ rfl rfl rfl rfl rfl (by kernel_rfl) func3 (by kernel_rfl)
  (of_decide_eq_true (by kernel_rfl)) (by unfold Func.isWrapper;first|(rw[if_pos (by decide +kernel)];kernel_rfl)|(rw[if_neg (by decide +kernel)];exact⟨rfl,rfl⟩))
  (fun os started H enc _=>nA law os started H enc)
end Go.Proofs.Ytgnoaanebhmegaa.Am
namespace Go.Proofs.Ytgnoaanebhmegaa.P
open Go.RowKit
def az (n:Nat):List Int:=if h:n=0 then [] else ((n % 1048576:Nat):Int)::az (n / 1048576)
termination_by n
decreasing_by omega
def dv:List Int->Int
 | []=>0
 | d::l=>d+1048576*dv l
def Dg (l:List Int):Prop:=∀d∈l,0<=d∧d<1048576
def pw (i:Nat):Int:=1048576 ^ i
theorem l4:pw 0=1:=rfl
theorem ij (i:Nat):pw (i+1)=1048576*pw i:=by unfold pw;rw[Int.pow_succ,XJ]
theorem kd (i:Nat):0<pw i:=by unfold pw;exact Int.pow_pos (by decide)
theorem yu (i j:Nat):pw (i+j)=pw i*pw j:=by unfold pw;rw[Int.pow_add]
theorem qe {i j:Nat} (h:i<=j):pw i<=pw j:=by
 obtain⟨k,rfl⟩:=Nat.le.dest h;rw[yu];have h1:=kd i;have h2:=kd k
 calc pw i=pw i*1:=by rw[XK]
  _<=pw i*pw k:=XL (by omega) (by omega)
theorem bK:az 0=[]:=by rw[az];rfl
theorem jU {n:Nat} (h:n≠0):az n=((n % 1048576:Nat):Int)::az (n / 1048576):=by rw[az,dif_neg h]
theorem mF {n:Nat} : az n=[]↔n=0:=by
 constructor
 ·intro h;rcases VY n with O|O
  ·exact O
  ·rw[jU (by omega)]at h;cases h
 ·rintro rfl;exact bK
theorem aT:∀n:Nat,dv (az n)=n:=by
 intro n
 induction n using Nat.strongRecOn with
 | _ n U =>
  rcases VY n with O|O
  ·subst O;rw[bK];rfl
  ·rw[jU (by omega),dv,U (n / 1048576) (by omega)];omega
theorem bO:∀n:Nat,Dg (az n):=by
 intro n
 induction n using Nat.strongRecOn with
 | _ n X =>
  rcases VY n with U|U
  ·subst U;rw[bK];intro d O;cases O
  ·rw[jU (by omega)];intro d O;rcases VN.1 O with rfl|O
   ·omega
   ·exact X (n / 1048576) (by omega) d O
theorem Dg.nil:Dg []:=fun d O=>by cases O
theorem Dg.cons {d:Int} {l:List Int} (h:Dg (d::l)):(0<=d∧d<1048576)∧Dg l:=⟨h d Xb,fun x O=>h x (Xc _ O)⟩
theorem Dg.mk {d:Int} {l:List Int} (h:0<=d∧d<1048576) (U:Dg l):Dg (d::l):=fun x O=>by
 rcases VN.1 O with rfl|O
 ·exact h
 ·exact U x O
theorem Dg.append {l m:List Int} (h:Dg l) (hm:Dg m):Dg (l++m):=fun x O=>(WV.1 O).elim (h x) (hm x)
theorem Dg.take {l:List Int} (h:Dg l) (n:Nat):Dg (l.take n):=fun x O=>h x (Wq O)
theorem Dg.drop {l:List Int} (h:Dg l) (n:Nat):Dg (l.drop n):=fun x O=>h x (Wo O)
theorem Dg.rep (n:Nat):Dg (List.replicate n 0):=fun x O=>by rw[(List.mem_replicate.1 O).2];omega
theorem Dg.set {l:List Int} (h:Dg l) (i:Nat) {x:Int} (U:0<=x∧x<1048576):Dg (l.set i x):=fun y O=>by
 rcases List.mem_or_eq_of_mem_set O with O|rfl
 ·exact h y O
 ·exact U
theorem Dg.get {l:List Int} (h:Dg l) {i:Nat} (O:i<l.length):0<=l[i]∧l[i]<1048576:=h _ (VS O)
theorem bL:∀ {l:List Int},Dg l->0<=dv l
 | [],_=>Int.le_refl _
 | d::l,h=>by
  have h1:=h.cons;have:=bL h1.2;simp only[dv];omega
theorem kT:∀ {l:List Int},Dg l->dv l<pw l.length
 | [],_=>by simp[dv,l4]
 | d::l,h=>by
  have h1:=h.cons;have:=kT h1.2;simp only[dv,List.length_cons,ij];omega
theorem eu:∀l m:List Int,dv (l++m)=dv l+pw l.length*dv m
 | [],m=>by simp[dv,l4]
 | d::l,m=>by
  rw[Xy,dv,dv,eu l m,V6,ij,XM,XN];omega
theorem w7:∀n:Nat,dv (List.replicate n 0)=0
 | 0=>rfl
 | n+1=>by rw[WA,dv,w7 n];rfl
theorem dU {l:List Int} {i:Nat} (h:i<l.length):dv (l.take (i+1))=dv (l.take i)+pw i*l[i]:=by
 have e:l.take (i+1)=l.take i++[l[i]]:=by rw[XO];simp[h]
 rw[e,eu,VZ,WS (by omega)];simp[dv]
theorem fD (l:List Int) {i:Nat} (h:i<=l.length):dv l=dv (l.take i)+pw i*dv (l.drop i):=by
 have:=eu (l.take i) (l.drop i);rw[Xt,VZ,WS h]at this;exact this
theorem tj {l:List Int} {i:Nat} (h:i<l.length) (x:Int):dv (l.set i x)=dv l+pw i*(x-l[i]):=by
 induction l generalizing i with
 | nil=>simp at h
 | cons d l O =>
  cases i with
  | zero=>simp only[List.set_cons_zero,dv,l4,List.getElem_cons_zero];omega
  | succ i =>
   have:=O (i:=i) (by simpa using h);simp only[List.set_cons_succ,dv,this,ij,List.getElem_cons_succ,XM,XN];omega
theorem vM:∀ {l:List Int},Dg l->(∀h:l≠[],l.getLast h≠0)->az (dv l).toNat=l
 | [],_,_=>by simp[dv,bK]
 | d::l,h,O=>by
  have h1:=h.cons;have h2:=bL h1.2;have U:(dv (d::l)).toNat≠0:=by
   simp only[dv];intro h0;have X:d=0:=by omega
   have Z:dv l=0:=by omega
   cases l with
   | nil=>exact O (by simp) (by simpa using X)
   | cons e m =>
    have Y:=vM h1.2 (fun hh=>by have:=O (by simp);simpa using this);rw[Z]at Y;simp[bK]at Y
  rw[jU U];have e1:(dv (d::l)).toNat % 1048576=d.toNat:=by simp only[dv];omega
  have e2:(dv (d::l)).toNat / 1048576=(dv l).toNat:=by simp only[dv];omega
  rw[e1,e2];have X:(d.toNat:Int)=d:=by omega
  rw[X];cases l with
  | nil=>simp[dv,bK]
  | cons e m=>rw[vM h1.2 (fun hh=>by have:=O (by simp);simpa using this)]
theorem LX:∀(n:Nat) (h:az n≠[]),(az n).getLast h≠0:=by
 intro n
 induction n using Nat.strongRecOn with
 | _ n X =>
  intro h;have Y:n≠0:=fun U=>h (mF.2 U);have e:=jU Y
  by_cases hq:n / 1048576=0
  ·have:az n=[((n % 1048576:Nat):Int)]:=by rw[e,hq,bK]
   simp only[this,List.getLast_singleton];omega
  ·have O:az (n / 1048576)≠[]:=fun U=>hq (mF.1 U);have:=X (n / 1048576) (by omega) O;simp only[e];rw[List.getLast_cons O];exact this
theorem NX {a b:Nat} (h:az a=az b):a=b:=by
 have:=congrArg dv h;rw[aT,aT]at this;omega
theorem eE {n k:Nat} (h:(n:Int)<pw k):(az n).length<=k:=by
 induction k generalizing n with
 | zero =>
  rw[l4]at h;have:n=0:=by omega
  rw[this,bK];simp
 | succ k U =>
  by_cases O:n=0
  ·rw[O,bK];simp
  ·rw[jU O,V6];rw[ij]at h;have:=U (n:=n / 1048576) (by omega);omega
theorem dL (n:Nat):(n:Int)<pw (az n).length:=by
 have:=kT (bO n)
 rwa [aT]at this
theorem sa {n:Nat} (h:n≠0):pw ((az n).length-1)<=n∧0<(az n).length:=by
 induction n using Nat.strongRecOn with
 | _ n U =>
  rw[jU h,V6];refine⟨?_,by omega⟩
  by_cases O:n / 1048576=0
  ·rw[O,bK];simp[l4];omega
  ·obtain⟨h1,h2⟩:=U (n / 1048576) (by omega) O;have:(az (n / 1048576)).length+1-1=((az (n / 1048576)).length-1)+1:=by omega
   rw[this,ij];omega
theorem wc {x:Int} (h1 : -9223372036854775808<=x) (h2:x<9223372036854775808):gR .and .i64 x 1048575=x % 1048576:=by
 unfold gR;simp only;have O:(BitVec.ofInt IntKind.i64.bits x &&& BitVec.ofInt IntKind.i64.bits 1048575).toNat=((x % 18446744073709551616).toNat) % 1048576:=by
  rw[BitVec.toNat_and,BitVec.toNat_ofInt,BitVec.toNat_ofInt];have e:((1048575:Int) % ((2 ^ IntKind.i64.bits:Nat):Int)).toNat=2 ^ 20-1:=by decide
  rw[e,Nat.and_two_pow_sub_one_eq_mod];rfl
 rw[O,wrap64 (by omega) (by omega)];omega
theorem Po (x:Int):tR .i64 x 20=some (x / 1048576):=by
 unfold tR;rw[if_neg (by decide)];have e:(2:Int) ^ (min (Int.toNat 20) IntKind.i64.bits)=1048576:=by decide
 rw[e,Int.fdiv_eq_ediv_of_nonneg _ (by decide)]
theorem Pn {x:Int} (O:0<=x) (h:x<8796093022208):mN .i64 x 20=some (1048576*x):=by
 unfold mN;rw[if_neg (by decide)];have e:(2:Int) ^ (min (Int.toNat 20) IntKind.i64.bits)=1048576:=by decide
 rw[e,wrap64 (by omega) (by omega),XJ]
theorem IV {x y:Int} (Y:0<=x) (h:x<8796093022208) (Z:0<=y∧y<1048576):gR .or .i64 (1048576*x) y=1048576*x+y:=by
 unfold gR;simp only;have O:(BitVec.ofInt IntKind.i64.bits (1048576*x) ||| BitVec.ofInt IntKind.i64.bits y).toNat=1048576*x.toNat+y.toNat:=by
  rw[BitVec.toNat_or,BitVec.toNat_ofInt,BitVec.toNat_ofInt];have e:((2 ^ IntKind.i64.bits:Nat):Int)=18446744073709551616:=by decide
  rw[e];have U:((1048576*x) % 18446744073709551616).toNat=x.toNat <<< 20:=by rw[Nat.shiftLeft_eq];omega
  have X:(y % 18446744073709551616).toNat=y.toNat:=by omega
  rw[U,X,<- Nat.shiftLeft_add_eq_or_of_lt (by omega),Nat.shiftLeft_eq];omega
 rw[O,wrap64 (by omega) (by omega)];omega
theorem Tn {n:Nat} (h:n<=17592186044416):Qa 8 (n:Int) (n:Int) (0:Int)=some (List.replicate n 0):=by
 unfold Qa;rw[if_pos]
 ·simp
 ·have:(17592186044416:Int)<=maxLen:=by decide
  refine⟨by omega,by omega,by omega,?_⟩;simp only[Int.toNat_natCast];omega
theorem CB {l m:List Int} (h:l.length+m.length<=17592186044416):iX 8 l m=some (l++m):=by
 unfold iX;have:(17592186044416:Nat)<=maxLen:=by decide
 rw[if_pos ⟨by omega,by omega⟩]
theorem bA {σ ρ:Type} {body:σ->Option (σ⊕ρ)} (I:Nat->σ->Prop) (n:Nat) (Q:ρ->Prop) {s:σ} (X:I 0 s) (hn:n+1<FU)
  (O:∀i s,i<=n->I i s->(i<n∧∃U,body s=some (.inl U)∧I (i+1) U)∨(∃r,body s=some (.inr r)∧Q r)):∃r,aQ body s=some r∧Q r:=by
 have key:∀(k i:Nat) (s:σ),i<=n->n-i<k->I i s->∃r,kg body k s=some r∧Q r:=by
  intro k
  induction k with
  | zero=>intro i s _ h;omega
  | succ k Y =>
   intro i s Z hk X;rcases O i s Z X with⟨aa,U,h1,h2⟩|⟨r,h1,h2⟩
   ·obtain⟨r,h3,h4⟩:=Y (i+1) U (by omega) (by omega) h2;exact⟨r,by simp only[kg,h1];exact h3,h4⟩
   ·exact⟨r,by simp only[kg,h1],h2⟩
 exact key FU 0 s (VH _) (by omega) X
theorem K5 (i:Nat) (x:Int):pw (i+1)*x=pw i*(1048576*x):=by rw[ij,XJ 1048576 (pw i),XN]
theorem yv (i:Nat) (t:Int):pw i*(t % 1048576)+pw (i+1)*(t / 1048576)=pw i*t:=by
 rw[K5,<- XM];congr 1;omega
theorem e6 {n:Nat} (h:n<=17592186044416):n+1<FU:=by unfold FU;omega
abbrev Fit (l:List Int):Prop:=l.length<=17592186044416
theorem fG {x:Int} (h : -4611686018427387904<=x∧x<=4611686018427387904):IntKind.i64.wrap x=x:=wrap64 (by omega) (by omega)
theorem pf {α:Type} (o:Option α):(o.bind fun r=>some r)=o:=by cases o<;>rfl
theorem Cm {l:List Int} (Z:Fit l):∃r,aQ (iK l) (l.length:Int)=some r∧∃k:Nat,r=k∧k<=l.length∧(∀j (O:j<l.length),k<=j->l[j]=0)∧(∀h:0<k,∀hk:k-1<l.length,l[k-1]≠0):=by
 unfold Fit at Z;refine bA (I:=fun i s=>s=((l.length-i:Nat):Int)∧(∀j (O:j<l.length),l.length-i<=j->l[j]=0)) l.length _ ⟨rfl,fun j O h=>by omega⟩ (e6 Z) ?_;rintro i s hi ⟨rfl,U⟩;generalize hk:l.length-i=k at *;simp only[iK]
 by_cases h0:0<k
 ·have X:k-1<l.length:=by omega
  have e:IntKind.i64.wrap ((k:Int)-1)=((k-1:Nat):Int):=by rw[fG (by omega)];omega
  rw[if_pos (by simp;omega),e,bo X,Xe]
  by_cases hx:l[k-1]=0
  ·left;refine⟨by omega,_,by rw[if_pos (by simpa using hx)],by rw[show l.length-(i+1)=k-1 by omega],fun j O h =>?_⟩
   by_cases Y:j=k-1
   ·subst Y;exact hx
   ·exact U j O (by omega)
  ·right;exact⟨_,by rw[if_neg (by simpa using hx)],k,rfl,by omega,U,fun _ _=>hx⟩
 ·right;exact⟨_,by rw[if_neg (by simp;omega)],k,rfl,by omega,U,fun h=>absurd h h0⟩
theorem Of {l:List Int} {k:Nat} (O:∀j (X:j<l.length),k<=j->l[j]=0):dv (l.drop k)=0:=by
 have:l.drop k=List.replicate (l.drop k).length 0:=by
  refine List.eq_replicate_of_mem fun x U =>?_;obtain⟨i,Y,rfl⟩:=List.mem_iff_getElem.1 U;rw[List.getElem_drop];exact O _ _ (by omega)
 rw[this,w7]
theorem sX {l:List Int} (Y:Fit l) (Z:Dg l):dh l=some (az (dv l).toNat):=by
 obtain⟨r,h1,k,rfl,hk,hz,O⟩:=Cm Y;unfold dh;rw[h1,Xe,vQ hk,Xe];congr 1;have h2:dv l=dv (l.take k):=by rw[fD l hk,Of hz];omega
 rw[h2];refine (vM (Z.take k) fun U =>?_).symm;have X:0<k:=by
  rcases VY k with h|h
  ·subst h;simp at U
  ·exact h
 have:=O X (by omega);rw[List.getLast_eq_getElem];simp only[VZ,List.getElem_take,WS hk];exact this
theorem vR {l:List Int} {n:Nat} (O:Fit l) (U:Dg l) (X:dv l=n):dh l=some (az n):=by
 rw[sX O U,X];rfl
def gd (l:List Int) (i:Nat):Int:=if h:i<l.length then l[i] else 0
theorem Ku {l:List Int} (h:Dg l) (i:Nat):0<=gd l i∧gd l i<1048576:=by
 unfold gd;split
 ·exact h.get _
 ·omega
theorem su {l:List Int} (i:Nat):dv (l.take (i+1))=dv (l.take i)+pw i*gd l i:=by
 unfold gd;split
 ·exact dU _
 ·rw[W5 (by omega),W5 (by omega)];simp
theorem C0 {l:List Int} {i:Nat} (h:l.length<=i):dv (l.take i)=dv l:=by rw[W5 h]
theorem wO {l:List Int} (h:Fit l):ck l=some l:=by
 unfold ck;rw[CB (by simpa using h),Xo]
theorem Kv {l:List Int} {i:Nat} (h:i<l.length):gd l i=l[i]:=by unfold gd;rw[dif_pos h]
theorem Fi {l:List Int} {i:Nat} (h:l.length<=i):gd l i=0:=by unfold gd;rw[dif_neg (by omega)]
theorem gD {l:List Int} {i:Nat} (h:i<l.length):dv (l.drop i)=l[i]+1048576*dv (l.drop (i+1)):=by
 rw[XB h,dv]
theorem Qt {x d:Int} (h:0<=x) (O:0<d) (U:x<4611686018427387904):vf .i64 x d=some (x / d):=by
 unfold vf;rw[if_neg (by omega),Int.tdiv_eq_ediv_of_nonneg h,fG];have:=XP h (Int.le_of_lt O);have:=Int.ediv_le_self d h;omega
theorem SE {x d:Int} (h:0<=x) (O:0<d):zl .i64 x d=some (x % d):=by
 unfold zl;rw[if_neg (by omega),Int.tmod_eq_emod_of_nonneg h]
theorem I4 {a:List Int} {d:Int} (ha:Dg a) (X:0<d∧d<=1048576) (hf:Fit a) :
  ∃r,aQ (km a d) (0,IntKind.i64.wrap ((a.length:Int)-1),List.replicate a.length 0)=some r∧r.2.length=a.length∧Dg r.2∧(0<=r.1∧r.1<d)∧dv a=d*dv r.2+r.1:=by
 unfold Fit at hf;have e0:IntKind.i64.wrap ((a.length:Int)-1)=(a.length:Int)-1:=fG (by omega);rw[e0];refine bA (I:=fun i s=>s.2.1=((a.length-i:Nat):Int)-1∧s.2.2.length=a.length∧Dg s.2.2∧(0<=s.1∧s.1<d)∧dv (a.drop (a.length-i))=d*dv (s.2.2.drop (a.length-i))+s.1)
  a.length _ ⟨rfl,by simp,Dg.rep _,by simp;omega,by simp[dv]⟩ (e6 (by omega)) ?_
 rintro i ⟨r,s,l⟩ hi ⟨h1,Y,Z,hr,he⟩;simp only at h1 Y Z hr he;subst h1;generalize hk:a.length-i=k at *;simp only[km]
 by_cases h0:0<k
 ·left;have O:k-1<a.length:=by omega
  have U:k-1<l.length:=by omega
  have ek:((k:Int)-1)=((k-1:Nat):Int):=by omega
  have ga:=ha.get O;rw[ek,if_pos (by simp),Pn (by omega) (by omega),Xe,bo O,Xe,IV (by omega) (by omega) ga,Qt (by omega) X.1 (by omega),Xe,bo U,Xe,SE (by omega) X.1,Xe];have e1:IntKind.i64.wrap (((k-1:Nat):Int)-1)=((k-1:Nat):Int)-1:=fG (by omega);have aa:0<=1048576*r+a[k-1]:=by omega
  have ab:0<=(1048576*r+a[k-1]) / d:=XP aa (by omega);have ad:(1048576*r+a[k-1]) / d<1048576:=by
   apply XQ X.1;have:1048576*r<=1048576*(d-1):=XL (by omega) (by omega);omega
  have ae:=Int.emod_nonneg (1048576*r+a[k-1]) (show d≠0 by omega);have ah:=XR (1048576*r+a[k-1]) X.1;refine⟨by omega,_,rfl,by rw[e1,show a.length-(i+1)=k-1 by omega],by simpa using Y,Z.set _ ⟨ab,ad⟩,⟨ae,ah⟩,?_⟩;simp only[Int.toNat_natCast];rw[show a.length-(i+1)=k-1 by omega,gD O,gD (l:=l.set (k-1) _) (i:=k-1) (by simpa using U),show k-1+1=k by omega,List.getElem_set_self,List.drop_set_of_lt (by omega),he];have:=XS (1048576*r+a[k-1]) d;rw[XM,XM];have e3:d*(1048576*dv (l.drop k))=1048576*(d*dv (l.drop k)):=by rw[<- XN,XJ d,XN]
  rw[e3];omega
 ·right;have:k=0:=by omega
  subst this;refine⟨(r,l),by rw[if_neg (by simp)],Y,Z,hr,?_⟩;simpa using he
theorem Hj {a:List Int} {d:Int} (U:Dg a) (X:0<d∧d<=1048576) (O:Fit a):jz a d=some (az (dv a / d).toNat,dv a % d):=by
 obtain⟨⟨r,l⟩,h1,h2,h3,h4,h5⟩:=I4 U X O;unfold jz;rw[Tn O,Xe,h1,Xe];simp only at h2 h3 h4 h5 ⊢;rw[sX (by unfold Fit at *;omega) h3,Xe];have Y:dv a / d=dv l:=by
  rw[h5,XJ,Int.add_comm,Int.add_mul_ediv_right _ _ (by omega),Int.ediv_eq_zero_of_lt h4.1 h4.2];omega
 have Z:dv a % d=r:=by
  rw[h5,XJ,Int.add_comm,Int.add_mul_emod_self_right];exact Int.emod_eq_of_lt h4.1 h4.2
 rw[Y,Z]
theorem Ms {b l0:List Int} {x:Int} {i n:Nat} (hb:Dg b) (hx:0<=x∧x<1048576) (h0:Dg l0) (hn:l0.length=n) (hi:i+b.length<n) (hf:n<=17592186044416) (X:∀j (Y:j<l0.length),i+b.length<=j->l0[j]=0) :
  ∃r,aQ (ng b (i:Int) x) (0,0,l0)=some r∧r.2.length=n∧Dg r.2∧(0<=r.1∧r.1<1048576)∧(∀j (Y:j<r.2.length),i+b.length<=j->r.2[j]=0)∧dv r.2+pw (i+b.length)*r.1=dv l0+pw i*(x*dv b):=by
 refine bA (I:=fun k s=>s.2.1=(k:Int)∧s.2.2.length=n∧Dg s.2.2∧(0<=s.1∧s.1<1048576)∧(∀j (Y:j<s.2.2.length),i+b.length<=j->s.2.2[j]=0)∧dv s.2.2+pw (i+k)*s.1=dv l0+pw i*(x*dv (b.take k)))
  b.length _ ⟨rfl,hn,h0,by simp,X,by simp[dv]⟩ (e6 (by omega)) ?_
 rintro k ⟨c,s,l⟩ hk ⟨h1,hl,Z,hc,X,he⟩;simp only at h1 hl Z hc X he;subst h1;simp only[ng]
 by_cases O:k<b.length
 ·left;have U:i+k<l.length:=by omega
  have ei:IntKind.i64.wrap ((i:Int)+(k:Int))=((i+k:Nat):Int):=by rw[fG (by omega)];omega
  have gb:=hb.get O;have gl:=Z.get U;have ad:0<=x*b[k]:=XT hx.1 gb.1;have ae:x*b[k]<=1048575*1048575:=XU (by omega) (by omega) gb.1 (by omega);rw[if_pos (by simpa using O),bo O,Xe,ei,bo U,Xe,fG (x:=x*b[k]) (by omega),fG (x:=l[i+k]+x*b[k]) (by omega),fG (x:=l[i+k]+x*b[k]+c) (by omega),Po,Xe,wc (by omega) (by omega)];have e1:IntKind.i64.wrap ((k:Int)+1)=((k+1:Nat):Int):=by rw[fG (by omega)];omega
  refine⟨O,_,rfl,e1,by simpa using hl,Z.set _ (by omega),by simp only;omega,fun j Y aa =>?_,?_⟩
  ·simp only[Int.toNat_natCast]at Y ⊢;rw[XV (by omega)];exact X j (by simpa using Y) aa
  ·simp only[Int.toNat_natCast];rw[tj U,dU O];have hp:=yv (i+k) (l[i+k]+x*b[k]+c);rw[XM (pw (i+k)),XM (pw (i+k))]at hp;have e2:pw i*(x*(dv (b.take k)+pw k*b[k]))=pw i*(x*dv (b.take k))+pw (i+k)*(x*b[k]):=by
    rw[XM,XM,yu];congr 1;rw[XW x,<- XN]
   rw[e2,XX,show i+(k+1)=i+k+1 by omega];omega
 ·right;have ab:k=b.length:=by omega
  subst ab;refine⟨(c,l),by rw[if_neg (by simp)],hl,Z,hc,X,?_⟩;rw[he,XI]
theorem Mr {a b:List Int} (ha:Dg a) (hb:Dg b) (hf:a.length+b.length<=17592186044416) :
  ∃l,aQ (nf a b) (0,List.replicate (a.length+b.length) 0)=some l∧l.length=a.length+b.length∧Dg l∧dv l=dv a*dv b:=by
 refine bA (I:=fun i s=>s.1=(i:Int)∧s.2.length=a.length+b.length∧Dg s.2∧(∀j (X:j<s.2.length),i+b.length<=j->s.2[j]=0)∧dv s.2=dv (a.take i)*dv b)
  a.length _ ⟨rfl,by simp,Dg.rep _,fun j X _=>by simp,by simp[dv,w7]⟩ (e6 (by omega)) ?_
 rintro i ⟨s,l⟩ hi ⟨h1,Y,Z,hz,he⟩;simp only at h1 Y Z hz he;subst h1;simp only[nf]
 by_cases O:i<a.length
 ·left;have ga:=ha.get O;obtain⟨⟨c,m⟩,g1,g2,g3,g4,g5,g6⟩:=Ms (i:=i) (n:=a.length+b.length) hb ga Z Y (by omega) hf hz;rw[if_pos (by simpa using O),bo O,Xe,g1,Xe];simp only at g2 g3 g4 g5 g6 ⊢;have ei:IntKind.i64.wrap ((i:Int)+(b.length:Int))=((i+b.length:Nat):Int):=by rw[fG (by omega)];omega
  have U:i+b.length<m.length:=by omega
  rw[ei,bo U,Xe,g5 _ U (VG _),Int.zero_add,fG (x:=c) (by omega)];have e1:IntKind.i64.wrap ((i:Int)+1)=((i+1:Nat):Int):=by rw[fG (by omega)];omega
  refine⟨O,_,rfl,e1,by simpa using g2,g3.set _ g4,fun j X ab =>?_,?_⟩
  ·simp only[Int.toNat_natCast]at X ⊢;rw[XV (by omega)];exact g5 j (by simpa using X) (by omega)
  ·simp only[Int.toNat_natCast];rw[tj U,g5 _ U (VG _),Int.sub_zero,g6,he,dU O,XY,XN]
 ·right;have aa:i=a.length:=by omega
  subst aa;refine⟨l,by rw[if_neg (by simp)],Y,Z,?_⟩;rw[he,XI]
theorem mul_eq {a b:List Int} (U:Dg a) (X:Dg b) (O:a.length+b.length<=17592186044416):kl a b=some (az (dv a*dv b).toNat):=by
 obtain⟨l,h1,h2,h3,h4⟩:=Mr U X O;unfold kl;have e:IntKind.i64.wrap ((a.length:Int)+(b.length:Int))=((a.length+b.length:Nat):Int):=by rw[fG (by omega)];omega
 rw[e,Tn O,Xe,h1,Xe,pf,sX (by unfold Fit;omega) h3,h4]
def jo (x y:Int):Int:=if x<y then -1 else if y<x then 1 else 0
theorem Ia (x y:Int):ff x y=some (jo x y):=by
 unfold ff kG jo;simp only[bne_self_eq_false,Option.bind_some,Wg,if_false,decide_eq_true_eq];split
 ·rfl
 ·split<;>rfl
theorem Ew {a b:List Int} (X:Dg a) (Y:Dg b) (Z:Fit a) (hl:a.length=b.length):eB a b=some (jo (dv a) (dv b)):=by
 unfold Fit at Z;unfold eB;rw[if_neg (by simp;omega)];have e0:IntKind.i64.wrap ((a.length:Int)-1)=(a.length:Int)-1:=fG (by omega);rw[e0];have key:∃r,aQ (iY a b) ((a.length:Int)-1)=some r∧(match r with | .inl _=>jo (dv a) (dv b)=0 | .inr x=>x=jo (dv a) (dv b)):=by
  refine bA (I:=fun i s=>s=((a.length-i:Nat):Int)-1∧a.drop (a.length-i)=b.drop (a.length-i)) a.length _ ⟨rfl,?_⟩ (e6 Z) ?_
  ·rw[Xr (by omega),Xr (by omega)]
  rintro i s hi ⟨rfl,he⟩;generalize hk:a.length-i=k at *;simp only[iY]
  by_cases h0:0<k
  ·have h1:k-1<a.length:=by omega
   have h2:k-1<b.length:=by omega
   have ek:((k:Int)-1)=((k-1:Nat):Int):=by omega
   rw[ek,if_pos (by simp),bo h1,Xe,bo h2,Xe]
   by_cases U:a[k-1]=b[k-1]
   ·left;rw[if_neg (by simpa using U)];refine⟨by omega,_,rfl,by rw[fG (by omega)];omega,?_⟩;rw[show a.length-(i+1)=k-1 by omega,XB h1,XB h2,U,show k-1+1=k by omega,he]
   ·right;rw[if_pos (by simpa using U),Ia,Xe];refine⟨_,rfl,?_⟩;simp only;have ea:=fD a (i:=k) (by omega);have eb:=fD b (i:=k) (by omega);have ta:=dU h1;have tb:=dU h2;rw[show k-1+1=k by omega]at ta tb;have la:=kT (X.take (k-1));have lb:=kT (Y.take (k-1));rw[VZ,WS (by omega)]at la lb;have na:=bL (X.take (k-1));have nb:=bL (Y.take (k-1));have hp:=kd (k-1);rw[ta]at ea;rw[tb]at eb;rw[he]at ea;unfold jo;rcases Int.lt_or_gt_of_ne U with O|O
    ·have:pw (k-1)*a[k-1]+pw (k-1)<=pw (k-1)*b[k-1]:=by
      have:pw (k-1)*(a[k-1]+1)<=pw (k-1)*b[k-1]:=XL (by omega) (by omega)
      rwa [XM,XK]at this
     rw[if_pos O,if_pos (by omega)]
    ·have:pw (k-1)*b[k-1]+pw (k-1)<=pw (k-1)*a[k-1]:=by
      have:pw (k-1)*(b[k-1]+1)<=pw (k-1)*a[k-1]:=XL (by omega) (by omega)
      rwa [XM,XK]at this
     rw[if_neg (by omega),if_pos O,if_neg (by omega),if_pos (by omega)]
  ·right;have:k=0:=by omega
   subst this;refine⟨.inl (),by rw[if_neg (by simp)],?_⟩;simp only[W6]at he;simp[he,jo]
 obtain⟨r,h1,h2⟩:=key;rw[h1,Xe];cases r with
 | inl u=>simp only at h2 ⊢;rw[h2]
 | inr x=>simp only at h2 ⊢;rw[h2]
theorem oH {m n:Nat} (h:(az m).length<(az n).length):m<n:=by
 have h1:=dL m;have O:n≠0:=fun U=>by subst U;rw[bK]at h;simp at h
 have h2:=sa O;have h3:=qe (i:=(az m).length) (j:=(az n).length-1) (by omega);omega
theorem dy {m n:Nat} (h:m<=n):(az m).length<=(az n).length:=by
 rcases Wr (az n).length (az m).length with h1|h1
 ·have:=oH h1;omega
 ·exact h1
theorem wR {m n:Nat} (hm:Fit (az m)) (U:Fit (az n)):eB (az m) (az n)=some (jo m n):=by
 by_cases O:(az m).length=(az n).length
 ·rw[Ew (bO m) (bO n) hm O,aT,aT]
 ·unfold eB;rw[if_pos (by simp;omega),Ia,pf];unfold jo;rcases Nat.lt_or_gt_of_ne O with h|h
  ·have:=oH h;rw[if_pos (by omega),if_pos (by omega)]
  ·have:=oH h;rw[if_neg (by omega),if_pos (by omega),if_neg (by omega),if_pos (by omega)]
theorem Dv {u v:List Int} {g:Int} (hu:Dg u) (hv:Dg v) (hg:0<=g∧g<=1048576) (hf:Fit u) (hl:v.length<=u.length) :
  ∃r,aQ (hZ u v g) (0,0,u)=some r∧r.2.length=u.length∧Dg r.2∧(0<=r.1∧r.1<=1048576)∧dv r.2+g*dv v=dv u+pw u.length*r.1:=by
 unfold Fit at hf;refine bA (I:=fun i s=>s.2.1=(i:Int)∧s.2.2.length=u.length∧Dg s.2.2∧(∀j (hj:j<s.2.2.length) (Z:j<u.length),i<=j->s.2.2[j]=u[j])∧(0<=s.1∧s.1<=1048576)∧dv s.2.2+g*dv (v.take i)=dv u+pw i*s.1)
  u.length _ ⟨rfl,rfl,hu,fun j hj _ _=>rfl,by simp,by simp[dv]⟩ (e6 (by omega)) ?_
 rintro i ⟨c,s,l⟩ hi ⟨h1,Y,hd,hz,hc,he⟩;simp only at h1 Y hd hz hc he;subst h1;simp only[hZ]
 by_cases O:i<u.length
 ·left;have U:i<l.length:=by omega
  rw[if_pos (by simpa using O),bo U,Xe,hz i U O (VG _)];have ga:=hu.get O;have gb:=Ku hv i;have aa:0<=g*gd v i:=XT hg.1 gb.1;have ab:g*gd v i<=1048576*1048575:=XU (by omega) (by omega) gb.1 (by omega);have hT:(if decide ((i:Int)<(v.length:Int))=true then (P.idx v (i:Int)).bind fun ad=>some (IntKind.i64.wrap ((IntKind.i64.wrap (u[i]-c))-(IntKind.i64.wrap (g*ad)))) else some (IntKind.i64.wrap (u[i]-c)))=some (u[i]-c-g*gd v i):=by
   by_cases X:i<v.length
   ·rw[if_pos (by simpa using X),bo X,Xe];rw[Kv X]at gb aa ab ⊢;rw[fG (x:=u[i]-c) (by omega),fG (x:=g*v[i]) (by omega),fG (by omega)]
   ·rw[if_neg (by simpa using X),Fi (by omega),fG (by omega)];simp
  rw[hT,Xe,Po,Xe,wc (by omega) (by omega),fG (x:=0-_) (by omega)];have e1:IntKind.i64.wrap ((i:Int)+1)=((i+1:Nat):Int):=by rw[fG (by omega)];omega
  refine⟨O,_,rfl,e1,by simpa using Y,hd.set _ (by omega),fun j hj Z ah =>?_,by simp only;omega,?_⟩
  ·simp only[Int.toNat_natCast]at hj ⊢;rw[XV (by omega)];exact hz j (by simpa using hj) Z (by omega)
  ·simp only[Int.toNat_natCast];rw[tj U,hz i U O (VG _),su];have hp:=yv i (u[i]-c-g*gd v i);rw[XX (pw i),XX (pw i)]at hp;have e2:g*(dv (v.take i)+pw i*gd v i)=g*dv (v.take i)+pw i*(g*gd v i):=by rw[XM,XW]
   rw[e2,XX (pw i),XX (pw (i+1)),XZ];omega
 ·right;have ae:i=u.length:=by omega
  subst ae;refine⟨(c,l),by rw[if_neg (by simp)],Y,hd,hc,?_⟩;rw[C0 hl]at he;exact he
theorem Dw {u v:List Int} (hu:Dg u) (hv:Dg v) (hf:Fit u) (hl:v.length<=u.length) :
  ∃l,aQ (ia v u) (0,0,u)=some l∧l.length=u.length∧Dg l∧∃c,0<=c∧dv l+pw u.length*c=dv u+dv v:=by
 unfold Fit at hf;refine bA (I:=fun i s=>s.2.1=(i:Int)∧s.2.2.length=u.length∧Dg s.2.2∧(∀j (hj:j<s.2.2.length) (Z:j<u.length),i<=j->s.2.2[j]=u[j])∧(0<=s.1∧s.1<=1)∧dv s.2.2+pw i*s.1=dv u+dv (v.take i))
  u.length _ ⟨rfl,rfl,hu,fun j hj _ _=>rfl,by simp,by simp[dv]⟩ (e6 (by omega)) ?_
 rintro i ⟨c,s,l⟩ hi ⟨h1,Y,hd,hz,hc,he⟩;simp only at h1 Y hd hz hc he;subst h1;simp only[ia]
 by_cases O:i<u.length
 ·left;have U:i<l.length:=by omega
  rw[if_pos (by simpa using O),bo U,Xe,hz i U O (VG _)];have ga:=hu.get O;have gb:=Ku hv i;have hT:(if decide ((i:Int)<(v.length:Int))=true then (P.idx v (i:Int)).bind fun aa=>some (IntKind.i64.wrap ((IntKind.i64.wrap (c+u[i]))+aa)) else some (IntKind.i64.wrap (c+u[i])))=some (c+u[i]+gd v i):=by
   by_cases X:i<v.length
   ·rw[if_pos (by simpa using X),bo X,Xe];rw[Kv X]at gb ⊢;rw[fG (x:=c+u[i]) (by omega),fG (by omega)]
   ·rw[if_neg (by simpa using X),Fi (by omega),fG (by omega)];simp
  rw[hT,Xe,Po,Xe,wc (by omega) (by omega)];have e1:IntKind.i64.wrap ((i:Int)+1)=((i+1:Nat):Int):=by rw[fG (by omega)];omega
  refine⟨O,_,rfl,e1,by simpa using Y,hd.set _ (by omega),fun j hj Z ad =>?_,by simp only;omega,?_⟩
  ·simp only[Int.toNat_natCast]at hj ⊢;rw[XV (by omega)];exact hz j (by simpa using hj) Z (by omega)
  ·simp only[Int.toNat_natCast];rw[tj U,hz i U O (VG _),su];have hp:=yv i (c+u[i]+gd v i);rw[XM (pw i),XM (pw i)]at hp;rw[XX (pw i)];omega
 ·right;have ab:i=u.length:=by omega
  subst ab;refine⟨l,by rw[if_neg (by simp)],Y,hd,c,hc.1,?_⟩;rw[C0 hl]at he;exact he
theorem MC {u v:List Int} {g:Int} (hu:Dg u) (X:Dg v) (hf:Fit u) (hl:v.length<=u.length) (hV:0<dv v) (ah:dv u / dv v<=g) (ai:g<=dv u / dv v+1) (Y:g<=1048576) :
  ∃l,dS u v g=some (l,dv u / dv v)∧l.length=u.length∧Dg l∧dv l=dv u % dv v:=by
 have aj:0<=dv u / dv v:=XP (bL hu) (by omega);obtain⟨⟨c,l⟩,h1,h2,h3,h4,h5⟩:=Dv hu X ⟨by omega,Y⟩ hf hl;simp only at h2 h3 h4 h5;have hm:=XS (dv u) (dv v);have ak:=Int.emod_nonneg (dv u) (show dv v≠0 by omega);have al:=XR (dv u) hV;have Z:=kT h3;have an:=bL h3;rw[h2]at Z;have hp:=kd u.length;have ao:dv v<pw u.length:=Int.lt_of_lt_of_le (kT X) (qe hl);unfold dS kQ;rw[h1,Xe];simp only;rcases (show g=dv u / dv v∨g=dv u / dv v+1 by omega) with U|U
 ·have aa:g*dv v=dv v*(dv u / dv v):=by rw[U,XJ]
  have O:c=0:=by
   rcases (show c=0∨1<=c by omega) with h|h
   ·exact h
   ·have:pw u.length*1<=pw u.length*c:=XL h (by omega);omega
  subst O;rw[if_pos (by simp),Xe,if_pos (by simpa using h2)];exact⟨l,by rw[U],h2,h3,by rw[XZ]at h5;omega⟩
 ·have aa:g*dv v=dv v*(dv u / dv v)+dv v:=by rw[U,XY,X0,XJ]
  have O:c≠0:=by
   intro h;subst h;rw[XZ]at h5;omega
  obtain⟨m,g1,g2,g3,d,g4,g5⟩:=Dw h3 X (by unfold Fit at *;omega) (by omega);rw[if_neg (by simpa using O),g1,Xe,Xe,if_pos (by simp;omega)];refine⟨m,by rw[fG (by omega),U];simp,by omega,g3,?_⟩;rw[h2]at g5;have ab:=kT g3;have ae:=bL g3;rw[g2,h2]at ab;have ad:c=d:=by
   rcases XG c d with h|h|h
   ·have:pw u.length*(c+1)<=pw u.length*d:=XL (by omega) (by omega);rw[XM,XK]at this;omega
   ·exact h
   ·have:pw u.length*(d+1)<=pw u.length*c:=XL (by omega) (by omega);rw[XM,XK]at this;omega
  subst ad;omega
theorem IE {v u:List Int} {s13:Int} {v1 v2 O T V W:Int} {n:Nat} (hn:2<=n) (hlen:v.length=n) (ar:n<=17592186044416) (i:Nat) (hs:s13=i) (au:i+n<=17592186044416)
  (ab:P.idx v (((n-2:Nat)):Int)=some v2) (ad:P.idx u (((i+n-2:Nat)):Int)=some O)
  (b1:524288<=v1∧v1<1048576) (b2:0<=v2∧v2<1048576) (bw:0<=O∧O<1048576) (ae:0<=T) (av:T<1048576*1048576)
  (hV:pw (n-2)*(v1*1048576+v2)<=V∧V<pw (n-2)*(v1*1048576+v2+1)) (hW:pw (n-2)*(T*1048576+O)<=W∧W<pw (n-2)*(T*1048576+O+1)) (ah:W<1048576*V) :
  ∃g,aQ (nd v s13 u v1) (T / v1,T % v1)=some g∧W / V<=g∧g<=W / V+1∧g<=1048576:=by
 subst hs;have hp:=kd (n-2);have X:0<V:=by
  have:pw (n-2)*1<=pw (n-2)*(v1*1048576+v2):=XL (by omega) (by omega);omega
 have ai:0<=W:=by
  have:0<=pw (n-2)*(T*1048576+O):=XT (by omega) (by omega);omega
 have aw:0<=W / V:=XP ai (by omega);have ax:W / V<1048576:=XQ X ah;have hm:=XS T v1;have aj:=Int.emod_nonneg T (show v1≠0 by omega);have ay:=XR T (show 0<v1 by omega);have az:0<=T / v1:=XP ae (by omega);have ak:T / v1<=2097152:=by
  have:T / v1<2097153:=XQ (by omega) (by
   have:2097153*524288<=2097153*v1:=XL b1.1 (by omega);omega)
  omega
 have al:∀g r:Int,g*v1+r=T->W / V<=g->g*v2>r*1048576+O->W / V<=g-1:=by
  intro g r h1 h2 h3;have h4:W<g*V:=by
   have e1:g*(v1*1048576+v2)>=T*1048576+O+1:=by
    rw[<- h1];have:g*(v1*1048576+v2)=g*v1*1048576+g*v2:=by rw[XM,XN]
    rw[this,XY];omega
   have e2:pw (n-2)*(T*1048576+O+1)<=pw (n-2)*(g*(v1*1048576+v2)):=XL e1 (by omega);have e3:g*(pw (n-2)*(v1*1048576+v2))<=g*V:=XL hV.1 (by omega);have e4:pw (n-2)*(g*(v1*1048576+v2))=g*(pw (n-2)*(v1*1048576+v2)):=XW _ _ _;omega
  have:=XQ X h4;omega
 have hle:∀g r:Int,g*v1+r=T->0<=g->g<=1048576->g*v2<=r*1048576+O->g<=W / V+1:=by
  intro g r h1 h0 hB h3;have e1:g*(v1*1048576+v2)<=T*1048576+O:=by
   rw[<- h1];have:g*(v1*1048576+v2)=g*v1*1048576+g*v2:=by rw[XM,XN]
   rw[this,XY];omega
  have e2:g*V<=W+V:=by
   have f1:g*V<=g*(pw (n-2)*(v1*1048576+v2+1)):=XL (by omega) h0;have f2:g*(pw (n-2)*(v1*1048576+v2+1))=pw (n-2)*(g*(v1*1048576+v2))+pw (n-2)*g:=by
    rw[XW,XM g,XK,XM]
   have f3:pw (n-2)*(g*(v1*1048576+v2))<=pw (n-2)*(T*1048576+O):=XL e1 (by omega);have f4:pw (n-2)*g<=pw (n-2)*(v1*1048576+v2):=XL (by omega) (by omega);omega
  have e3:(g-1)*V<=W:=by rw[Int.sub_mul,X0];omega
  have:=Int.le_ediv_of_mul_le X e3;omega
 have Y:W / V<=T / v1:=by
  have e1:W<(T / v1+1)*V:=by
   have f1:T+1<=(T / v1+1)*v1:=by
    have:(T / v1+1)*v1=v1*(T / v1)+v1:=by rw[XY,X0,XJ]
    omega
   have f2:T*1048576+O+1<=(T / v1+1)*(v1*1048576+v2):=by
    have g1:(T+1)*1048576<=(T / v1+1)*v1*1048576:=X1 f1 (by omega);have g2:0<=(T / v1+1)*v2:=XT (by omega) b2.1;rw[XM,<- XN];omega
   have f3:pw (n-2)*(T*1048576+O+1)<=pw (n-2)*((T / v1+1)*(v1*1048576+v2)):=XL f2 (by omega);have f4:(T / v1+1)*(pw (n-2)*(v1*1048576+v2))<=(T / v1+1)*V:=XL hV.1 (by omega);have f5:pw (n-2)*((T / v1+1)*(v1*1048576+v2))=(T / v1+1)*(pw (n-2)*(v1*1048576+v2)):=XW _ _ _;omega
  have:=XQ X e1;omega
 refine pc (I:=fun (s:Int×Int)=>s.1*v1+s.2=T∧W / V<=s.1∧s.1<=2097152∧0<=s.2) (μ:=fun (s:Int×Int)=>s.1.toNat) _ ⟨?_,Y,ak,aj⟩ (by unfold FU;omega) ?_
 ·show T / v1*v1+T % v1=T;rw[XJ];exact hm
 rintro⟨g,r⟩ ⟨h1,h2,h3,h4⟩;simp only at h1 h2 h3 h4;have aA:0<=g*v1:=XT (by omega) (by omega);simp only[nd];have el:IntKind.i64.wrap ((v.length:Int)-2)=((n-2:Nat):Int):=by rw[hlen,fG (by omega)];omega
 have ei:IntKind.i64.wrap ((IntKind.i64.wrap ((i:Int)+(v.length:Int)))-2)=((i+n-2:Nat):Int):=by rw[hlen,fG (x:=(i:Int)+n) (by omega),fG (by omega)];omega
 rw[el,ei];have U:W / V<=g-1->∃Z:Int×Int,(some (Sum.inl (IntKind.i64.wrap (g-1),IntKind.i64.wrap (r+v1))):Option ((Int×Int)⊕Int))=some (.inl Z)∧(Z.1*v1+Z.2=T∧W / V<=Z.1∧Z.1<=2097152∧0<=Z.2)∧Z.1.toNat<g.toNat:=by
  intro an;refine⟨_,rfl,?_⟩;rw[fG (x:=g-1) (by omega),fG (x:=r+v1) (by omega)];simp only;refine⟨⟨by rw[Int.sub_mul,X0];omega,an,by omega,by omega⟩,by omega⟩
 by_cases aa:g>=1048576
 ·rw[if_pos (by simpa using aa),Xe,if_pos rfl];exact .inl (U (by omega))
 ·rw[if_neg (by simpa using aa)]
  by_cases hr:r<1048576
  ·have aq:0<=g*v2:=XT (by omega) b2.1;have ao:g*v2<=1048576*1048576:=XU (by omega) (by omega) b2.1 (by omega);rw[if_pos (by simpa using hr),ab,Xe,Pn h4 (by omega),Xe,ad,Xe,fG (x:=g*v2) (by omega),IV h4 (by omega) bw,Xe]
   by_cases ht:g*v2>1048576*r+O
   ·rw[if_pos (by simpa using ht)];exact .inl (U (al g r h1 h2 (by omega)))
   ·rw[if_neg (by simpa using ht)];exact .inr ⟨g,rfl,h2,hle g r h1 (by omega) (by omega) (by omega),by omega⟩
  ·rw[if_neg (by simpa using hr),Xe,if_neg (by simp)];refine .inr ⟨g,rfl,h2,hle g r h1 (by omega) (by omega) ?_,by omega⟩;have:g*v2<=1048575*1048575:=XU (by omega) (by omega) b2.1 (by omega);have:1048576*1048576<=r*1048576:=X1 (by omega) (by omega);omega
theorem SM {α:Type} {l:List α} {a b:Nat} (h:a<=b) (O:b<=l.length):zw l (a:Int) (b:Int)=some ((l.drop a).take (b-a)):=by
 unfold zw;rw[if_pos ⟨by omega,by omega,by omega⟩];simp
theorem Qv {l:List Int} {n:Nat} (Y:l.length=n) (Z:2<=n) (O:Dg l) :
  pw (n-2)*((l[n-1]'(by omega))*1048576+l[n-2]'(by omega))<=dv l∧dv l<pw (n-2)*((l[n-1]'(by omega))*1048576+l[n-2]'(by omega)+1):=by
 have e:=fD l (i:=n-2) (by omega);rw[gD (by omega),gD (i:=n-2+1) (by omega),Xr (by omega)]at e;have U:l[n-2+1]'(by omega)=l[n-1]'(by omega):=by congr 1;omega
 rw[U]at e;have h1:=bL (O.take (n-2));have h2:=kT (O.take (n-2));rw[VZ,WS (by omega)]at h2;simp only[dv]at e;have X:l[n-2]'(by omega)+1048576*(l[n-1]'(by omega)+1048576*0)=(l[n-1]'(by omega))*1048576+l[n-2]'(by omega):=by omega
 rw[X]at e;rw[XM (pw (n-2)) _ 1,XK];omega
theorem Qw {l:List Int} {n:Nat} (Z:l.length=n+1) (hn:2<=n) (O:Dg l) :
  pw (n-2)*((1048576*(l[n]'(by omega))+l[n-1]'(by omega))*1048576+l[n-2]'(by omega))<=dv l∧dv l<pw (n-2)*((1048576*(l[n]'(by omega))+l[n-1]'(by omega))*1048576+l[n-2]'(by omega)+1):=by
 have e:=fD l (i:=n-2) (by omega);rw[gD (by omega),gD (i:=n-2+1) (by omega),gD (i:=n-2+1+1) (by omega),Xr (by omega)]at e;have U:l[n-2+1]'(by omega)=l[n-1]'(by omega):=by congr 1;omega
 have X:l[n-2+1+1]'(by omega)=l[n]'(by omega):=by congr 1;omega
 rw[U,X]at e;have h1:=bL (O.take (n-2));have h2:=kT (O.take (n-2));rw[VZ,WS (by omega)]at h2;simp only[dv]at e;have Y:l[n-2]'(by omega)+1048576*(l[n-1]'(by omega)+1048576*(l[n]'(by omega)+1048576*0))=(1048576*(l[n]'(by omega))+l[n-1]'(by omega))*1048576+l[n-2]'(by omega):=by omega
 rw[Y]at e;rw[XM (pw (n-2)) _ 1,XK];omega
theorem NZ {v u0:List Int} {n m:Nat} (hv:Dg v) (O:v.length=n) (hn:2<=n) (an:524288<=v[n-1]'(by omega)) (hu:Dg u0) (ao:u0.length=m+n) (hf:m+n<=17592186044416) (X:dv (u0.drop m)<dv v) :
  ∃r,aQ (nc v) ((m:Int)-1,u0,List.replicate m 0)=some r∧r.1.length=m+n∧Dg r.1∧r.2.length=m∧Dg r.2∧dv r.1+dv v*dv r.2=dv u0∧dv r.1<dv v:=by
 have aq:=kT hv;rw[O]at aq;refine bA (I:=fun i s=>s.1=((m-i:Nat):Int)-1∧s.2.1.length=m+n∧Dg s.2.1∧s.2.2.length=m∧Dg s.2.2∧(∀j (hj:j<s.2.2.length),j<m-i->s.2.2[j]=0)∧dv s.2.1+dv v*dv s.2.2=dv u0∧dv (s.2.1.drop (m-i))<dv v)
  m _ ⟨rfl,ao,hu,by simp,Dg.rep _,fun j hj _=>by simp,by simp[w7],X⟩ (e6 (by omega)) ?_
 rintro i ⟨s,u,q⟩ hi ⟨h1,hl,U,Z,aa,hz,he,X⟩;simp only at h1 hl U Z aa hz he X;subst h1;generalize hk:m-i=k at *;simp only[nc]
 by_cases h0:0<k
 ·left;have ek:((k:Int)-1)=((k-1:Nat):Int):=by omega
  rw[ek,if_pos (by simp)];have e1:IntKind.i64.wrap (((k-1:Nat):Int)+(v.length:Int))=((k-1+n:Nat):Int):=by rw[O,fG (by omega)];omega
  have e2:IntKind.i64.wrap (((k-1+n:Nat):Int)-1)=((k-1+n-1:Nat):Int):=by rw[fG (by omega)];omega
  have e3:IntKind.i64.wrap ((v.length:Int)-1)=((n-1:Nat):Int):=by rw[O,fG (by omega)];omega
  have e4:IntKind.i64.wrap (((k-1+n:Nat):Int)+1)=((k-1+n+1:Nat):Int):=by rw[fG (by omega)];omega
  have e5:IntKind.i64.wrap (((k-1:Nat):Int)-1)=((k-1:Nat):Int)-1:=fG (by omega);rw[e1,e2,e3,e4,e5];have i1:k-1+n<u.length:=by omega
  have i2:k-1+n-1<u.length:=by omega
  have i3:k-1+n-2<u.length:=by omega
  have iv:n-1<v.length:=by omega
  have ae:n-2<v.length:=by omega
  have g1:=U.get i1;have g2:=U.get i2;have g3:=U.get i3;have gv:=hv.get iv;have ar:=hv.get ae;rw[bo i1,Xe,Pn g1.1 (by omega),Xe,bo i2,Xe,bo iv,Xe,IV g1.1 (by omega) g2,Qt (by omega) (by omega) (by omega),Xe,SE (by omega) (by omega),Xe,SM (by omega) (by omega),show k-1+n+1-(k-1)=n+1 by omega];generalize hw:(u.drop (k-1)).take (n+1)=w;have au:w.length=n+1:=by rw[<- hw,VZ,V0];omega
  have Y:Dg w:=by rw[<- hw];exact (U.drop _).take _
  have ab:∀j (hj:j<n+1),w[j]'(by omega)=u[k-1+j]'(by omega):=by
   intro j hj;subst hw;rw[List.getElem_take,List.getElem_drop]
  have ah:dv (u.drop (k+n))=0:=by
   have s1:=fD (u.drop k) (i:=n) (by rw[V0];omega);rw[Xs]at s1;have n1:=bL ((U.drop k).take n);have n2:=bL (U.drop (k+n));have hp:=kd n;rcases (show dv (u.drop (k+n))=0∨1<=dv (u.drop (k+n)) by omega) with h|h
   ·exact h
   ·have:pw n*1<=pw n*dv (u.drop (k+n)):=XL h (by omega);omega
  have hW:dv w=dv (u.drop (k-1)):=by
   have s1:=fD (u.drop (k-1)) (i:=n+1) (by rw[V0];omega);rw[Xs,show k-1+(n+1)=k+n by omega,ah,hw]at s1;omega
  have ay:dv w=u[k-1]+1048576*dv (u.drop k):=by
   rw[hW,gD (by omega),show k-1+1=k by omega]
  have gk:=U.get (show k-1<u.length by omega);have ai:dv w<1048576*dv v:=by omega
  have t2:=Qv O hn hv;have t3:=Qw au hn Y;rw[ab n (by omega),ab (n-1) (by omega),ab (n-2) (by omega)]at t3;have a1:u[k-1+(n-1)]'(by omega)=u[k-1+n-1]'(by omega):=by congr 1;omega
  have a2:u[k-1+(n-2)]'(by omega)=u[k-1+n-2]'(by omega):=by congr 1;omega
  rw[a1,a2]at t3;obtain⟨g,q1,q2,q3,q4⟩:=IE (s13:=((k-1:Nat):Int)) hn O (by omega) (k-1) rfl (by omega) (bo ae) (bo i3) ⟨an,gv.2⟩ ar g3 (T:=1048576*u[k-1+n]+u[k-1+n-1]) (by omega) (by omega) t2 t3 ai;rw[q1,Xe,Xe];have ad:0<dv v:=by
   have:=bL Y;omega
  obtain⟨l,r1,r2,r3,r4⟩:=MC Y hv (by unfold Fit;omega) (by omega) ad q2 q3 q4;have iq:k-1<q.length:=by omega
  rw[r1,Xe,bo iq,Xe];simp only;have av:0<=dv w / dv v:=XP (bL Y) (by omega);have aw:dv w / dv v<1048576:=XQ ad ai;have aj:=XR (dv w) ad;simp only[Int.toNat_natCast];have ak:dv (l++u.drop (k-1+n+1))=dv w % dv v:=by
   rw[eu,show k-1+n+1=k+n by omega,ah,r4];omega
  have al:(u.take (k-1)).length=k-1:=by rw[VZ];omega
  have ax:dv (u.take (k-1)++(l++u.drop (k-1+n+1)))=dv (u.take (k-1))+pw (k-1)*(dv w % dv v):=by rw[eu,al,ak]
  refine⟨by omega,_,rfl,by rw[show m-(i+1)=k-1 by omega],?_,(U.take _).append (r3.append (U.drop _)),by simpa using Z,aa.set _ ⟨av,aw⟩,fun j hj az =>?_,?_,?_⟩
  ·simp only[WN,VZ,V0];omega
  ·rw[XV (by omega)];exact hz j (by simpa using hj) (by omega)
  ·rw[ax,tj iq,hz _ iq (by omega),Int.sub_zero,XM];have s2:=fD u (i:=k-1) (by omega);rw[<- hW]at s2;have hm:=XS (dv w) (dv v);have:pw (k-1)*dv w=dv v*(pw (k-1)*(dv w / dv v))+pw (k-1)*(dv w % dv v):=by
    rw[XW,<- XM,hm]
   omega
  ·rw[show m-(i+1)=k-1 by omega,Xq,al,WR,W6,Xr (by omega),Xo,ak];exact aj
 ·right;have:k=0:=by omega
  subst this;refine⟨(u,q),by rw[if_neg (by simp)],hl,U,Z,aa,he,?_⟩;simpa using X
theorem I3 {v:List Int} {t:Int} {n:Nat} (U:v.length=n) (hn:0<n) (hf:n<=17592186044416) (X:v[n-1]'(by omega)=t) (h1:1<=t) (h2:t<1048576) :
  ∃s,aQ (mZ v) 1=some s∧∃j:Nat,s=2 ^ j∧j<=19∧524288<=t*s∧t*s<1048576:=by
 refine bA (I:=fun i s=>s=2 ^ i∧t*s<1048576) 20 _ ⟨rfl,by omega⟩ (by unfold FU;omega) ?_;rintro i s hi ⟨rfl,Y⟩;have hp:(0:Int)<2 ^ i:=Int.pow_pos (by decide);have Z:(2:Int) ^ i<=t*2 ^ i:=by
  have:1*(2:Int) ^ i<=t*2 ^ i:=X1 h1 (by omega);omega
 have O:i<=19:=by
  rcases Wr 19 i with h|h
  ·have hx:i=20:=by omega
   subst hx;omega
  ·exact h
 simp only[mZ];have e:IntKind.i64.wrap ((v.length:Int)-1)=((n-1:Nat):Int):=by rw[U,fG (by omega)];omega
 rw[e,bo (by omega),Xe,X,fG (x:=t*2 ^ i) (by omega)]
 by_cases h:t*2 ^ i<524288
 ·left;rw[if_pos (by simpa using h)];refine⟨by omega,_,rfl,by rw[fG (by omega),Int.pow_succ],?_⟩;rw[fG (by omega),<- XN];omega
 ·right;rw[if_neg (by simpa using h)];exact⟨_,rfl,i,rfl,O,by omega,Y⟩
theorem div_eq {m n:Nat} (hn:n≠0) (aR:(az m).length<=17592186043904) (aS:(az n).length<=17592186043904):pV (az m) (az n)=some (az (m / n),az (m % n)):=by
 unfold pV;rw[wR (by unfold Fit;omega) (by unfold Fit;omega),Xe]
 by_cases ai:m<n
 ·have:jo (m:Int) n<0:=by unfold jo;rw[if_pos (by omega)];decide
  rw[if_pos (by simpa using this),wO (by unfold Fit;omega),Xe,X2 ai,WB ai,bK]
 have:¬jo (m:Int) n<0:=by unfold jo;rw[if_neg (by omega)];split<;>decide
 rw[if_neg (by simpa using this)];obtain⟨aU,aV⟩:=sa hn;have aj:=dL n
 by_cases h1:(az n).length=1
 ·rw[if_pos (by simp;omega)];have aW:(n:Int)<1048576:=by rw[h1]at aj;simpa [pw] using aj
  have e:az n=[(n:Int)]:=by
   rw[jU hn,X2 (by omega),bK,WB (by omega)]
  have ei:P.idx (az n) 0=some (n:Int):=by rw[e];rfl
  rw[ei,Xe,Hj (bO m) ⟨by omega,by omega⟩ (by unfold Fit;omega),Xe,aT];have au:(m:Int) % n=((m % n:Nat):Int):=(Int.natCast_emod m n).symm;have av:((m:Int) / n).toNat=m / n:=by
   rw[<- Int.natCast_ediv];rfl
  have aX:m % n<n:=Wz _ (by omega);simp only[au,av];rw[vR (n:=m % n) (by simp[Fit]) (Dg.mk (by omega) Dg.nil) (by simp[dv]),Xe]
 ·rw[if_neg (by simp;omega)];generalize hN:(az n).length=N at *;have aw:2<=N:=by omega
  have ad:=bO n;have gt:=ad.get (show N-1<(az n).length by omega);generalize ht:(az n)[N-1]'(by omega)=t at gt;have O:=fD (az n) (i:=N-1) (by omega);rw[aT,gD (by omega),Xr (by omega),ht]at O;simp only[dv,XZ,Int.add_zero]at O;have ax:=bL (ad.take (N-1));have ay:=kT (ad.take (N-1));rw[VZ,WS (by omega)]at ay;have aY:=kd (N-1);have aA:1<=t:=by
   rcases (show t=0∨1<=t by omega) with h|h
   ·subst h;omega
   ·exact h
  obtain⟨s,aB,j,ak,hj,aC,ae⟩:=I3 hN (by omega) (by omega) ht aA gt.2;have aD:(2:Int) ^ j<=524288:=by
   have:∀j:Nat,j<=19->(2:Int) ^ j<=524288:=by decide
   exact this j hj
  have aE:(0:Int)<2 ^ j:=Int.pow_pos (by decide);have aF:(t+1)*s<=1048576:=by
   have aG:(1048576:Int)=2 ^ (20-j)*2 ^ j:=by rw[<- Int.pow_add,Nat.sub_add_cancel (by omega)];rfl
   rw[aG]at ae ⊢;rw[ak]at ae ⊢;have:t<2 ^ (20-j):=Int.lt_of_mul_lt_mul_right ae (by omega);exact X1 (by omega) (by omega)
  rw[<- ak]at aE aD;obtain⟨S,rfl⟩:∃S:Nat,s=S:=⟨s.toNat,by omega⟩;have al:Dg [(S:Int)]:=Dg.mk (by omega) Dg.nil;have Y:dv [(S:Int)]=S:=by simp[dv]
  rw[aB,Xe,mul_eq (bO m) al (by simp;omega),Xe,aT,Y];have em:((m:Int)*S).toNat=m*S:=by rw[<- WE];rfl
  have en:((n:Int)*S).toNat=n*S:=by rw[<- WE];rfl
  rw[em];have aZ:(az (m*S)).length<=(az m).length+1:=by
   apply eE;rw[ij,WE];have X:=dL m;have:(m:Int)*S<=m*1048576:=XL (by omega) (by omega);omega
  have hU:∃u,((if ((((az (m*S)++[0]).length:Int))==((az m).length:Int))=true then (iX 8 (az (m*S)++[0]) [0]).bind fun aH=>some aH else some (az (m*S)++[0]))=some u)∧Dg u∧dv u=(m*S:Nat)∧dv u<pw (u.length-1)∧(az (m*S)).length+1<=u.length∧u.length<=(az m).length+3:=by
   have d1:Dg (az (m*S)++[0]):=(bO _).append (Dg.mk (by omega) Dg.nil);have v1:dv (az (m*S)++[0])=(m*S:Nat):=by rw[eu,aT];simp[dv]
   have v2:=dL (m*S);split
   ·rw[CB (by simp;omega),Xe];refine⟨_,rfl,d1.append (Dg.mk (by omega) Dg.nil),by rw[eu,v1];simp[dv],?_,by simp,by simp;omega⟩;rw[eu,v1];simp only[dv,WN,List.length_cons,List.length_nil];have:=qe (i:=(az (m*S)).length) (j:=(az (m*S)).length+1) (by omega);rw[show (az (m*S)).length+(0+1)+(0+1)-1=(az (m*S)).length+1 by omega];omega
   ·refine⟨_,rfl,d1,v1,?_,by simp,by simp;omega⟩;rw[v1];simpa using v2
  obtain⟨u,aI,an,aJ,a6,a7,a8⟩:=hU;rw[CB (by simp;omega),Xe,mul_eq (bO n) al (by simp;omega),Xe,aT,Y,en,aI,Xe];have aQ:524288*pw (N-1)<=((n*S:Nat):Int):=by
   rw[WE,O,XY];have X:0<=dv ((az n).take (N-1))*S:=XT ax (by omega);have a2:pw (N-1)*524288<=pw (N-1)*(t*S):=XL aC (by omega);rw[XN];omega
  have ao:((n*S:Nat):Int)<pw N:=by
   have a0:pw N=1048576*pw (N-1):=by rw[<- ij];congr 1;omega
   rw[a0,WE,O];have X:(dv ((az n).take (N-1))+pw (N-1)*t+1)*S<=(pw (N-1)*(t+1))*S:=X1 (by rw[XM];omega) (by omega);have a2:pw (N-1)*((t+1)*S)<=pw (N-1)*1048576:=XL aF (by omega);rw[XN]at X;rw[XY _ 1,X0]at X;omega
  have aq:(az (n*S)).length=N:=by
   have X:=eE ao;rcases Wr (az (n*S)).length N with h|h
   ·have a2:=dL (n*S);have a3:=qe (i:=(az (n*S)).length) (j:=N-1) (by omega);omega
   ·omega
  have aK:524288<=(az (n*S))[N-1]'(by omega):=by
   have X:=fD (az (n*S)) (i:=N-1) (by omega);rw[aT,gD (by omega),Xr (by omega)]at X;simp only[dv,XZ,Int.add_zero]at X;have a2:=kT ((bO (n*S)).take (N-1));rw[VZ,WS (by omega)]at a2;have a3:pw (N-1)*524288<pw (N-1)*((az (n*S))[N-1]'(by omega)+1):=by rw[XM];omega
   have:=Int.lt_of_mul_lt_mul_left a3 (by omega);omega
  have hlen:N+1<=u.length:=by
   have:n*S<=m*S:=Ws _ (by omega);have:=dy this;omega
  obtain⟨M,hM⟩:∃M,u.length=M+N:=⟨u.length-N,by omega⟩;have e1:IntKind.i64.wrap ((u.length:Int)-((az (n*S)).length:Int))=(M:Int):=by rw[aq,hM,fG (by omega)];omega
  rw[e1,Tn (by omega),Xe,List.length_replicate,fG (x:=(M:Int)-1) (by omega)];have aL:dv (u.drop M)<dv (az (n*S)):=by
   rw[aT];have X:=fD u (i:=M) (by omega);have a2:=bL (an.take M);have a3:pw M*dv (u.drop M)<pw M*pw (N-1):=by
    rw[<- yu,show M+(N-1)=u.length-1 by omega];omega
   have:=Int.lt_of_mul_lt_mul_left a3 (by have:=kd M;omega);omega
  obtain⟨⟨U,Q⟩,r1,r2,r3,r4,r5,r6,r7⟩:=NZ (bO (n*S)) aq aw aK an hM (by omega) aL;simp only at r2 r3 r4 r5 r6 r7;rw[r1,Xe];simp only;rw[aT,aJ]at r6;rw[aT]at r7;have ba:=bL r3;have bb:=bL r5;have hS:0<S:=by omega
  have aM:0<n*S:=Nat.mul_pos (by omega) hS;obtain⟨Z,ah⟩:∃k:Nat,dv U=k:=⟨(dv U).toNat,by omega⟩;obtain⟨Q',ar⟩:∃k:Nat,dv Q=k:=⟨(dv Q).toNat,by omega⟩;rw[ah,ar]at r6;rw[ah]at r7;have aa:Z+n*S*Q'=m*S:=by
   have:((Z+n*S*Q':Nat):Int)=((m*S:Nat):Int):=by rw[Int.natCast_add,WE (n*S) Q'];exact r6
   omega
  have ab:Z<n*S:=by omega
  have aN:Q'=m / n:=by
   have:m*S / (n*S)=Q':=by
    rw[<- aa,Nat.add_mul_div_left _ _ aM,X2 ab,Wt]
   rw[<- this,Nat.mul_div_mul_right _ _ hS]
  have aO:Z=(m % n)*S:=by
   have:m*S % (n*S)=Z:=by rw[<- aa,Nat.add_mul_mod_self_left,WB ab]
   rw[<- this,Nat.mul_mod_mul_right]
  rw[vR (n:=Z) (by unfold Fit;omega) r3 ah,Xe];have aP:(az Z).length<=N:=eE (by omega);rw[Hj (bO Z) ⟨by omega,by omega⟩ (by unfold Fit;omega),Xe,vR (n:=Q') (by unfold Fit;omega) r5 ar,Xe,aT,aN,aO];have:((((m % n)*S:Nat):Int) / (S:Int)).toNat=m % n:=by
   rw[WE,Int.mul_ediv_cancel _ (by omega)];rfl
  rw[this]
def fc (x:Int):aH:=aH.mk x.sign (az x.natAbs)
def Ln (x:Int):Nat:=(az x.natAbs).length
def lK:Nat:=4398046511104
def gC:Nat:=17592186043904
theorem DK {n:Nat} (h:n<=lK):n<=gC:=VI h (by decide)
theorem xW:fc 0=aH.mk 0 []:=by unfold fc;rw[show (0:Int).natAbs=0 from rfl,bK];rfl
theorem QI {x y:Int} (h:fc x=fc y):x=y:=by
 unfold fc at h;simp only[aH.mk.injEq]at h;have:=NX h.2;have h1:=Int.sign_mul_natAbs x;have h2:=Int.sign_mul_natAbs y;rw[<- h1,<- h2,h.1,this]
theorem Q8 {x:Int} {k:Nat} (h:(x.natAbs:Int)<pw k):Ln x<=k:=eE h
theorem RG (x:Int):(x.natAbs:Int)<pw (Ln x):=dL _
theorem s7 (x y:Int):Ln (x*y)<=Ln x+Ln y:=by
 apply Q8;have h1:=RG x;have h2:=RG y;rw[Int.natAbs_mul,WE,yu];have O:=kd (Ln x)
 calc (x.natAbs:Int)*y.natAbs<=pw (Ln x)*y.natAbs:=X1 (by omega) (by omega)
  _<pw (Ln x)*pw (Ln y):=Int.mul_lt_mul_of_pos_left h2 O
theorem M3 {x:Int} (h:x.natAbs<1048576):Ln x<=1:=Q8 (by rw[ij,l4];omega)
instance (l:List Int):Decidable (Dg l):=by unfold Dg;infer_instance
def okB (b:aH):Bool:=decide (Dg b.aa)&&(match b.aa.getLast? with|none=>b.an==0|some d=>(b.an==1||b.an == -1)&&d != 0)
theorem nD {b:aH} : okB b=true↔∃x,b=fc x:=by
 obtain⟨s,l⟩:=b;unfold okB;simp only[Wh,decide_eq_true_eq];constructor
 ·rintro⟨Z,h⟩;cases X:l.getLast? with
  | none =>
   rw[X]at h;have:l=[]:=List.getLast?_eq_none_iff.1 X;subst this;exact⟨0,by rw[xW];simpa using h⟩
  | some d =>
   rw[X]at h;simp only[Wh,Xf,beq_iff_eq,bne_iff_ne]at h;have O:l≠[]:=by intro h0;subst h0;simp at X
   have U:∀h:l≠[],l.getLast h≠0:=by
    intro h';rw[X3 h']at X;cases X;exact h.2
   have e:=vM Z U;have h0:(dv l).toNat≠0:=by
    intro h0;rw[h0,bK]at e;exact O e.symm
   have hn:=bL Z;refine⟨s*dv l,?_⟩;unfold fc;rcases h.1 with rfl|rfl
   ·rw[X0,X4 (by omega)];have:(dv l).natAbs=(dv l).toNat:=by omega
    rw[this,e]
   ·rw[Int.neg_mul,X0,Int.sign_neg,X4 (by omega)];have:(-dv l).natAbs=(dv l).toNat:=by omega
    rw[this,e]
 ·rintro⟨x,Y⟩;unfold fc at Y;simp only[aH.mk.injEq]at Y;obtain⟨rfl,rfl⟩:=Y;refine⟨bO _,?_⟩
  by_cases h0:x=0
  ·subst h0;simp[bK]
  ·have O:az x.natAbs≠[]:=fun h=>h0 (by have:=mF.1 h;omega);rw[X3 O];have h1:=LX _ O;simp only[Wh,Xf,beq_iff_eq,bne_iff_ne];refine⟨?_,h1⟩;rcases XG x 0 with h|h|h
   ·right;exact X5 h
   ·exact absurd h h0
   ·left;exact X4 h
theorem Dd (x:Int):okB (fc x)=true:=nD.2 ⟨x,rfl⟩
theorem yB {b:aH} (hf:Fit b.aa):dn b=some (okB b):=by
 obtain⟨s,l⟩:=b;simp only[Fit]at hf;have key:∃r,aQ (kj ⟨s,l⟩) 0=some r∧(match r with | .inl _=>Dg l | .inr x=>x=false∧¬Dg l):=by
  refine bA (I:=fun i s=>s=(i:Int)∧Dg (l.take i)) l.length _ ⟨rfl,by simpa using Dg.nil⟩ (e6 hf) ?_;rintro i s hi ⟨rfl,Y⟩;simp only[kj]
  by_cases O:i<l.length
  ·rw[if_pos (by simpa using O),bo O,Xe]
   by_cases h1:l[i]<0
   ·right;exact⟨.inr false,by rw[if_pos (by simpa using h1)],rfl,fun Z=>by have:=Z.get O;omega⟩
   ·by_cases h2:l[i]>1048575
    ·right;exact⟨.inr false,by rw[if_neg (by simpa using h1),if_pos (by simpa using h2)],rfl,fun Z=>by have:=Z.get O;omega⟩
    ·left;refine⟨O,_,by rw[if_neg (by simpa using h1),if_neg (by simpa using h2)],by rw[fG (by omega)];omega,?_⟩;have e:l.take (i+1)=l.take i++[l[i]]:=by rw[XO];simp[O]
     rw[e];exact Y.append (Dg.mk (by omega) Dg.nil)
  ·right;have:i=l.length:=by omega
   subst this;rw[XI]at Y;exact⟨.inl (),by rw[if_neg (by simp)],Y⟩
 obtain⟨r,h1,h2⟩:=key;unfold dn okB;rw[h1,Xe];cases r with
 | inr x =>
  obtain⟨rfl,h⟩:=h2;simp[h]
 | inl u =>
  simp only at h2 ⊢;simp only[h2,decide_true,W8]
  by_cases X:l=[]
  ·subst X;simp
  ·have hp:0<l.length:=Xw.2 X;have e:IntKind.i64.wrap ((l.length:Int)-1)=((l.length-1:Nat):Int):=by rw[fG (by omega)];omega
   rw[if_neg (by simpa using X),e,bo (by omega),X3 X,List.getLast_eq_getElem];simp only[Option.bind_some]
   by_cases hs:s=1
   ·subst hs;simp
   ·rw[if_neg (by simpa using hs)]
    by_cases U:s = -1
    ·subst U;simp
    ·rw[if_neg (by simpa using U)];simp[hs,U]
theorem lF {x:Int} (h:Ln x<=17592186044416):dn (fc x)=some true:=by
 rw[yB (show Fit (fc x).aa from h),Dd]
theorem BW {s:Int} {l:List Int} (x:Int) (O:Fit l) (U:Dg l) (X:dv l=x.natAbs) (hs:x≠0->s=x.sign):eP s l=some (fc x):=by
 unfold eP;rw[vR O U X,Xe]
 by_cases h0:x=0
 ·subst h0;rw[show (0:Int).natAbs=0 from rfl,bK,xW];rfl
 ·have:az x.natAbs≠[]:=fun h=>h0 (by have:=mF.1 h;omega);rw[if_neg (by simpa using this),hs h0];rfl
theorem rU (b:aH):eA true b=some (b,0):=rfl
theorem qp (x:Int):x.sign = -1∨x.sign=0∨x.sign=1:=by
 rcases XG x 0 with h|h|h
 ·left;exact X5 h
 ·subst h;right;left;rfl
 ·right;right;exact X4 h
theorem fa (x:Int):x.sign=1∧x=x.natAbs∧0<x∨x.sign = -1∧x = -x.natAbs∧x<0∨x.sign=0∧x=0:=by
 rcases XG x 0 with h|h|h
 ·right;left;exact⟨X5 h,by omega,h⟩
 ·subst h;right;right;exact⟨rfl,rfl⟩
 ·left;exact⟨X4 h,by omega,h⟩
theorem Ck {x:Int} {s:Int} {n:Nat} (O:n=x.natAbs) (hs:x≠0->s=x.sign) (U:n≠0->(az n).length<=17592186044416):eP s (az n)=some (fc x):=by
 subst O;refine BW x ?_ (bO _) (aT _) hs;unfold Fit
 by_cases h:x.natAbs=0
 ·rw[h,bK];simp
 ·exact U h
theorem R5 {x y:Int} (hx:Ln x<=lK) (hy:Ln y<=lK):pU (fc x) (fc y)=some (fc (x*y),0):=by
 have hL:lK=4398046511104:=rfl;have Z:=s7 x y;unfold pU;rw[lF (by omega),Xe];simp only[W7,Wg,if_false];rw[lF (by omega),Xe,Xe];simp only[W7,Wg,if_false];have O:(fc x).aa=az x.natAbs:=rfl;have U:(fc y).aa=az y.natAbs:=rfl;have X:(fc x).an=x.sign:=rfl;have Y:(fc y).an=y.sign:=rfl;rw[O,U,X,Y];have fx:(az x.natAbs).length<=4398046511104:=by show Ln x<=_;omega
 have fy:(az y.natAbs).length<=4398046511104:=by show Ln y<=_;omega
 have hw:IntKind.i64.wrap (x.sign*y.sign)=(x*y).sign:=by
  rw[Int.sign_mul];apply fG;rcases qp x with h|h|h<;>rcases qp y with g|g|g<;>rw[h,g]<;>decide
 rw[hw,mul_eq (bO _) (bO _) (by omega),Xe,aT,aT];have hn:((x.natAbs:Int)*y.natAbs).toNat=(x*y).natAbs:=by rw[Int.natAbs_mul,<- WE];rfl
 rw[hn,Ck (x:=x*y) rfl (fun _=>rfl) (fun _=>by show Ln (x*y)<=_;omega),Xe,rU,Xe]
theorem HG {x y:Int} (O:Ln x<=lK) (U:Ln y<=lK):fu (fc x) (fc y)=some (fc (x*y)):=by
 unfold fu;rw[R5 O U];rfl
def lg (n:Nat):Nat:=if n=0 then 0 else n.log2+1
theorem RD {r x:Nat} (h:2*r<x):lg r<lg x:=by
 unfold lg;rw[if_neg (show x≠0 by omega)]
 by_cases O:r=0
 ·rw[if_pos O];omega
 ·rw[if_neg O];have h1:=Nat.log2_self_le O;have h2:=@Nat.lt_log2_self x;have:2 ^ (r.log2+1)<2 ^ (x.log2+1):=by rw[Nat.pow_succ];omega
  have:=(Nat.pow_lt_pow_iff_right (by decide:1<2)).1 this;omega
theorem KH {n k:Nat} (h:(n:Int)<pw k):lg n<=20*k:=by
 unfold lg
 by_cases O:n=0
 ·rw[if_pos O];omega
 ·rw[if_neg O];have:n<2 ^ (20*k):=by
   have:pw k=((2 ^ (20*k):Nat):Int):=by
    unfold pw;rw[Nat.pow_mul,Int.natCast_pow];rfl
   omega
  have:=(Nat.log2_lt O).2 this;omega
end Go.Proofs.Ytgnoaanebhmegaa.P
