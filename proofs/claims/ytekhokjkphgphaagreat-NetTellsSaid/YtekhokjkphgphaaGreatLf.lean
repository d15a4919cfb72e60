import Derived.Test.YtekhokjkphgphaaGreatLe
set_option linter.unusedSimpArgs false
set_option linter.unusedVariables false
set_option linter.defProp false
noncomputable section
open Go.Proofs.Tryz
namespace Go.Proofs.YtekhokjkphgphaaGreat.Am
open Go.RowKit Go.Proofs.YtekhokjkphgphaaGreat.P
set_option maxRecDepth 100000
set_option maxHeartbeats 4000000
def uM:bK prog 7 gm:=bK.fh (mode := .clean) tok Kw mixed func7 (by kernel_rfl) (fun _ _=>rfl) (fun _=>by kernel_rfl) fun b r a=>by
 replace a:mg b=some r:=a;apply aF rfl ntmps7 results7;simp only[fj];unfold mg at a;simp only[aJ,seval];obtain⟨o1,br,a⟩:=ab a;refine bq 0 (fun s t H e=>match s with|G=>∃l:Nat,t 1=.ptr 1 l 0∧t 27=.bool G∧H 1=some ⟨l,25,[.sl false false b.al.length (ae (eI .i64) b.al),.sl false false b.ao.length (ae bx b.ao)],false,false,false⟩) (fun s=>s=o1) ?_ ?_
 ·rintro G t H e ⟨l,aG⟩ rfl;try dsimp only at a
  simp only[aJ,seval,aG];apply sp aj a<;>intro _ a
  ·cases a;simp only[aJ,seval]
  ·simp only[aJ,seval,aG];obtain⟨o7,bs,a⟩:=ab a;refine ax (fun s t H e=>match s with|al=>∃I:Nat,t 1=.ptr 1 I 0∧t 29=.sl false false b.al.length (ae (eI .i64) b.al)∧t 30=.int .i64 (b.al.length:Int)∧t 31=.int .i64 al∧H 1=some ⟨I,25,[.sl false false b.al.length (ae (eI .i64) b.al),.sl false false b.ao.length (ae bx b.ao)],false,false,false⟩) (fun o x t H e=>match o with|(.inl _)=>x=.exit 0∧∃m:Nat,t 1=.ptr 1 m 0∧H 1=some ⟨m,25,[.sl false false b.al.length (ae (eI .i64) b.al),.sl false false b.ao.length (ae bx b.ao)],false,false,false⟩|(.inr r)=>x=.ret∧eB .clean tab none [.tmp 2,.tmp 3] ⟨t,EH H,e⟩=some (.clean (.tup [.int .i64 r.1,.int .i64 r.2]),none)) bs ?_ ?_ ?_
   ·refine⟨l,?_⟩;and_intros<;>first|rfl|(simp only[aJ,seval,aG]<;>rfl)
   ·rintro al t H e ⟨I,Zb⟩ c a;simp only[kq]at a;simp only[aJ,seval,Zb];apply sp aj a<;>intro _ a
    ·obtain⟨x9,bt,a⟩:=ab a;have aL:=bk (eI .i64) bt;simp only[bT]at aL;obtain⟨bI,aM,a⟩:=ab a;simp only[aJ,seval,Zb,aL,aM];apply sp aj a<;>intro _ a
     ·cases a;simp only[aJ,seval];refine lk ⟨rfl,?_⟩;simp only[aJ,seval]
     ·cases a;simp only[aJ,seval,Zb];apply eS;refine⟨I,?_⟩;and_intros<;>first|rfl|(simp only[aJ,seval,Zb]<;>rfl)
    ·cases a;simp only[aJ,seval];apply gC;refine⟨rfl,⟨I,?_,?_⟩⟩;all_goals ((simp only[aJ,seval,Zb]<;>rfl))
   ·rintro x t H e g;rcases o7 with _|rb
    ·dsimp only at g a;obtain⟨rfl,⟨m,aN⟩⟩:=g;obtain⟨bJ,an,a⟩:=ab a;obtain⟨aQ,aS,aT,ao,aU⟩:=mk_one (eI .i64) an;simp only[bT]at ao;obtain⟨bD,bE,bG,aW,bH⟩:=mk_one (eI .i64) an;simp only[bT]at aW;simp only[aJ,seval,aN,aQ,aS,aT,ao,aU];refine bu (by kernel_rfl) ?_;obtain⟨bw,aX,a⟩:=ab a;refine ax (fun s t H e=>match s with|(i,aH,k)=>∃J:Nat,∃K:Nat,∃L:Nat,t 1=.ptr 1 J 0∧t 6=.buf 6 K 1 0 (aH).length∧t 7=.buf 7 L 1 0 (k).length∧t 50=.sl false false b.ao.length (ae bx b.ao)∧t 51=.int .i64 (b.ao.length:Int)∧t 52=.int .i64 i∧H 1=some ⟨J,25,[.sl false false b.al.length (ae (eI .i64) b.al),.sl false false b.ao.length (ae bx b.ao)],false,false,false⟩∧H 6=some ⟨K,3,ae (eI .i64) aH,false,true,false⟩∧H 7=some ⟨L,3,ae (eI .i64) k,false,true,false⟩) (fun o x t H e=>match o with|(.inl (j,f))=>x=.exit 2∧∃n:Nat,∃p:Nat,∃q:Nat,t 1=.ptr 1 n 0∧t 6=.buf 6 p 1 0 (j).length∧t 7=.buf 7 q 1 0 (f).length∧H 1=some ⟨n,25,[.sl false false b.al.length (ae (eI .i64) b.al),.sl false false b.ao.length (ae bx b.ao)],false,false,false⟩∧H 6=some ⟨p,3,ae (eI .i64) j,false,true,false⟩∧H 7=some ⟨q,3,ae (eI .i64) f,false,true,false⟩|(.inr r)=>x=.ret∧eB .clean tab none [.tmp 2,.tmp 3] ⟨t,EH H,e⟩=some (.clean (.tup [.int .i64 r.1,.int .i64 r.2]),none)) aX ?_ ?_ ?_
     ·refine⟨m,e,e,?_⟩;and_intros<;>first|rfl|(simp only[aJ,seval,aN]<;>rfl)
     ·rintro⟨i,aH,k⟩ t H e ⟨J,K,L,Zc⟩ c a;simp only[jn]at a;simp only[aJ,seval,Zc];apply sp aj a<;>intro _ a
      ·obtain⟨d,aY,a⟩:=ab a;have aq:=bk bx aY;simp only[bT]at aq;obtain⟨bL,aZ,a⟩:=ab a;simp only[aJ,seval,Zc,aq,aZ];apply sp aj a<;>intro _ a
       ·cases a;simp only[aJ,seval];refine lk ⟨rfl,?_⟩;simp only[aJ,seval]
       ·simp only[aJ,seval];obtain⟨bz,a1,a⟩:=ab a;refine ax (fun s t H e=>match s with|(ar,aI)=>∃M:Nat,∃N:Nat,∃O:Nat,∃P:Nat,t 1=.ptr 1 M 0∧t 6=.buf 6 N 1 0 (aI).length∧t 7=.buf 7 O 1 0 (k).length∧t 9=.ptr 9 P 0∧t 50=.sl false false b.ao.length (ae bx b.ao)∧t 51=.int .i64 (b.ao.length:Int)∧t 52=.int .i64 i∧t 65=.sl false false d.aq.length (ae (eI .i64) d.aq)∧t 66=.int .i64 (d.aq.length:Int)∧t 67=.int .i64 ar∧H 1=some ⟨M,25,[.sl false false b.al.length (ae (eI .i64) b.al),.sl false false b.ao.length (ae bx b.ao)],false,false,false⟩∧H 6=some ⟨N,3,ae (eI .i64) aI,false,true,false⟩∧H 7=some ⟨O,3,ae (eI .i64) k,false,true,false⟩∧H 9=some ⟨P,60,[.sl false false d.an.ah.length (ae aR d.an.ah),.sl false false d.an.aB.length (ae b8 d.an.aB),.sl false false d.an.av.length (ae (hZ aD) d.an.av),.sl false false d.aL.length (ae dD d.aL),.sl false false d.aq.length (ae (eI .i64) d.aq)],false,false,false⟩) (fun o x t H e=>match o with|h=>x=.exit 4∧∃u:Nat,∃v:Nat,∃w:Nat,∃Q:Nat,t 1=.ptr 1 u 0∧t 6=.buf 6 v 1 0 (h).length∧t 7=.buf 7 w 1 0 (k).length∧t 9=.ptr 9 Q 0∧t 50=.sl false false b.ao.length (ae bx b.ao)∧t 51=.int .i64 (b.ao.length:Int)∧t 52=.int .i64 i∧H 1=some ⟨u,25,[.sl false false b.al.length (ae (eI .i64) b.al),.sl false false b.ao.length (ae bx b.ao)],false,false,false⟩∧H 6=some ⟨v,3,ae (eI .i64) h,false,true,false⟩∧H 7=some ⟨w,3,ae (eI .i64) k,false,true,false⟩∧H 9=some ⟨Q,60,[.sl false false d.an.ah.length (ae aR d.an.ah),.sl false false d.an.aB.length (ae b8 d.an.aB),.sl false false d.an.av.length (ae (hZ aD) d.an.av),.sl false false d.aL.length (ae dD d.aL),.sl false false d.aq.length (ae (eI .i64) d.aq)],false,false,false⟩) a1 ?_ ?_ ?_
        ·refine⟨J,K,L,e+1,?_⟩;and_intros<;>first|rfl|(simp only[aJ,seval,Zc]<;>rfl)
        ·rintro⟨ar,aI⟩ t H e ⟨M,N,O,P,Zf⟩ c a;simp only[kr]at a;simp only[aJ,seval,Zf];apply sp aj a<;>intro _ a
         ·obtain⟨bM,a6,a⟩:=ab a;have av:=bk (eI .i64) a6;simp only[bT]at av;obtain⟨a7,R,a⟩:=ab a;have y:=bk (eI .i64) R;simp only[bT]at y;have y:=bk (eI .i64) R;simp only[bT]at y;have a8:=fN (eI .i64) (x':=IntKind.i64.wrap (a7+1)) (fo:=0) (cs:=[.int .i64 (IntKind.i64.wrap (a7+1))]) R rfl (agG rfl);simp only[bT,Nat.add_zero]at a8;have aw:=a8;simp only[putCells,List.length_cons,List.length_nil,afH]at aw;cases a;simp only[aJ,seval,Zf,av,y,aw];apply eS;refine⟨M,N,O,P,?_⟩;and_intros<;>first|rfl|(simp only[aJ,seval,Zf]<;>rfl)
         ·cases a;simp only[aJ,seval];apply gC;refine⟨rfl,⟨M,N,O,P,?_,?_,?_,?_,?_,?_,?_,?_,?_,?_,?_⟩⟩;all_goals ((simp only[aJ,seval,Zf]<;>rfl))
        ·rintro x t H e g;obtain⟨h,rfl⟩:∃z,z=bz:=⟨_,rfl⟩;dsimp only at g a;obtain⟨rfl,⟨u,v,w,Q,ba⟩⟩:=g;simp only[aJ,seval,ba];obtain⟨bA,bb,a⟩:=ab a;refine ax (fun s t H e=>match s with|(ay,aK)=>∃S:Nat,∃T:Nat,∃U:Nat,t 1=.ptr 1 S 0∧t 6=.buf 6 T 1 0 (h).length∧t 7=.buf 7 U 1 0 (aK).length∧t 50=.sl false false b.ao.length (ae bx b.ao)∧t 51=.int .i64 (b.ao.length:Int)∧t 52=.int .i64 i∧t 79=.sl false false d.aL.length (ae dD d.aL)∧t 80=.int .i64 (d.aL.length:Int)∧t 81=.int .i64 ay∧H 1=some ⟨S,25,[.sl false false b.al.length (ae (eI .i64) b.al),.sl false false b.ao.length (ae bx b.ao)],false,false,false⟩∧H 6=some ⟨T,3,ae (eI .i64) h,false,true,false⟩∧H 7=some ⟨U,3,ae (eI .i64) aK,false,true,false⟩) (fun o x t H e=>match o with|V=>x=.exit 6∧∃A:Nat,∃B:Nat,∃C:Nat,t 1=.ptr 1 A 0∧t 6=.buf 6 B 1 0 (h).length∧t 7=.buf 7 C 1 0 (V).length∧t 50=.sl false false b.ao.length (ae bx b.ao)∧t 51=.int .i64 (b.ao.length:Int)∧t 52=.int .i64 i∧H 1=some ⟨A,25,[.sl false false b.al.length (ae (eI .i64) b.al),.sl false false b.ao.length (ae bx b.ao)],false,false,false⟩∧H 6=some ⟨B,3,ae (eI .i64) h,false,true,false⟩∧H 7=some ⟨C,3,ae (eI .i64) V,false,true,false⟩) bb ?_ ?_ ?_
         ·refine⟨u,v,w,?_⟩;and_intros<;>first|rfl|(simp only[aJ,seval,ba]<;>rfl)
         ·rintro⟨ay,aK⟩ t H e ⟨S,T,U,Zg⟩ c a;simp only[ku]at a;simp only[aJ,seval,Zg];apply sp aj a<;>intro _ a
          ·obtain⟨ad,bc,a⟩:=ab a;have az:=bk dD bc;simp only[bT]at az;obtain⟨ag,W,a⟩:=ab a;have D:=bk (eI .i64) W;simp only[bT]at D;have D:=bk (eI .i64) W;simp only[bT]at D;have bd:=fN (eI .i64) (x':=(if 1099511627777<(IntKind.i64.wrap (ag+ad.a7)) then 1099511627777 else IntKind.i64.wrap (ag+ad.a7))) (fo:=0) (cs:=[.int .i64 (if 1099511627777<(IntKind.i64.wrap (ag+ad.a7)) then 1099511627777 else IntKind.i64.wrap (ag+ad.a7))]) W rfl (agG rfl);simp only[bT,Nat.add_zero]at bd;have aA:=bd;simp only[putCells,List.length_cons,List.length_nil,afH]at aA;simp only[aJ,seval,Zg,az,D,aA];refine bu (by kernel_rfl) ?_;cases a;apply eS;refine⟨S,T,U,?_⟩;and_intros<;>first|rfl|(simp only[aJ,seval,Zg]<;>rfl)
          ·cases a;simp only[aJ,seval];apply gC;refine⟨rfl,⟨S,T,U,?_,?_,?_,?_,?_,?_,?_,?_,?_⟩⟩;all_goals ((simp only[aJ,seval,Zg]<;>rfl))
         ·rintro x t H e g;obtain⟨V,rfl⟩:∃z,z=bA:=⟨_,rfl⟩;dsimp only at g a;obtain⟨rfl,⟨A,B,C,bf⟩⟩:=g;cases a;simp only[aJ,seval,bf];apply eS;refine⟨A,B,C,?_⟩;and_intros<;>first|rfl|(simp only[aJ,seval,bf]<;>rfl)
      ·cases a;simp only[aJ,seval];apply gC;refine⟨rfl,⟨J,K,L,?_,?_,?_,?_,?_,?_⟩⟩;all_goals ((simp only[aJ,seval,Zc]<;>rfl))
     ·rintro x t H e g;rcases bw with⟨j,f⟩|rc
      ·dsimp only at g a;obtain⟨rfl,⟨n,p,q,bh⟩⟩:=g;simp only[aJ,seval,bh];obtain⟨bB,bj,a⟩:=ab a;refine ax (fun s t H e=>match s with|X=>∃Y:Nat,∃ah:Nat,∃Z:Nat,t 1=.ptr 1 Y 0∧t 7=.buf 7 Z 1 0 (f).length∧t 100=.buf 6 ah 1 0 (j).length∧t 101=.int .i64 ((j).length:Int)∧t 102=.int .i64 X∧H 1=some ⟨Y,25,[.sl false false b.al.length (ae (eI .i64) b.al),.sl false false b.ao.length (ae bx b.ao)],false,false,false⟩∧H 6=some ⟨ah,3,ae (eI .i64) j,false,true,false⟩∧H 7=some ⟨Z,3,ae (eI .i64) f,false,true,false⟩) (fun o x t H e=>match o with|(.inl _)=>x=.exit 8∧∃E:Nat,∃F:Nat,t 1=.ptr 1 E 0∧t 7=.buf 7 F 1 0 (f).length∧H 1=some ⟨E,25,[.sl false false b.al.length (ae (eI .i64) b.al),.sl false false b.ao.length (ae bx b.ao)],false,false,false⟩∧H 7=some ⟨F,3,ae (eI .i64) f,false,true,false⟩|(.inr r)=>x=.ret∧eB .clean tab none [.tmp 2,.tmp 3] ⟨t,EH H,e⟩=some (.clean (.tup [.int .i64 r.1,.int .i64 r.2]),none)) bj ?_ ?_ ?_
       ·refine⟨n,p,q,?_⟩;and_intros<;>first|rfl|(simp only[aJ,seval,bh]<;>rfl)
       ·rintro X t H e ⟨Y,ah,Z,Zh⟩ c a;simp only[kv]at a;simp only[aJ,seval,Zh];apply sp aj a<;>intro _ a
        ·obtain⟨bN,bl,a⟩:=ab a;have aB:=bk (eI .i64) bl;simp only[bT]at aB;simp only[aJ,seval,Zh,aB];apply sp aj a<;>intro _ a
         ·cases a;simp only[aJ,seval];refine lk ⟨rfl,?_⟩;simp only[aJ,seval]
         ·simp only[aJ,seval];apply sp aj a<;>intro _ a
          ·cases a;simp only[aJ,seval];refine lk ⟨rfl,?_⟩;simp only[aJ,seval]
          ·cases a;simp only[aJ,seval,Zh];apply eS;refine⟨Y,ah,Z,?_⟩;and_intros<;>first|rfl|(simp only[aJ,seval,Zh]<;>rfl)
        ·cases a;simp only[aJ,seval];apply gC;refine⟨rfl,⟨Y,Z,?_,?_,?_,?_⟩⟩;all_goals ((simp only[aJ,seval,Zh]<;>rfl))
       ·rintro x t H e g;rcases bB with _|rh
        ·dsimp only at g a;obtain⟨rfl,⟨E,F,bm⟩⟩:=g;simp only[aJ,seval,bm];obtain⟨bC,bn,a⟩:=ab a;refine ax (fun s t H e=>match s with|aa=>∃ai:Nat,∃ak:Nat,t 1=.ptr 1 ai 0∧t 116=.buf 7 ak 1 0 (f).length∧t 117=.int .i64 ((f).length:Int)∧t 118=.int .i64 aa∧H 1=some ⟨ai,25,[.sl false false b.al.length (ae (eI .i64) b.al),.sl false false b.ao.length (ae bx b.ao)],false,false,false⟩∧H 7=some ⟨ak,3,ae (eI .i64) f,false,true,false⟩) (fun o x t H e=>match o with|(.inl _)=>x=.exit 11|(.inr r)=>x=.ret∧eB .clean tab none [.tmp 2,.tmp 3] ⟨t,EH H,e⟩=some (.clean (.tup [.int .i64 r.1,.int .i64 r.2]),none)) bn ?_ ?_ ?_
         ·refine⟨E,F,?_⟩;and_intros<;>first|rfl|(simp only[aJ,seval,bm]<;>rfl)
         ·rintro aa t H e ⟨ai,ak,Zi⟩ c a;simp only[kx]at a;simp only[aJ,seval,Zi];apply sp aj a<;>intro _ a
          ·obtain⟨bO,bo,a⟩:=ab a;have aC:=bk (eI .i64) bo;simp only[bT]at aC;obtain⟨bP,bp,a⟩:=ab a;have aE:=bk (eI .i64) bp;simp only[bT]at aE;simp only[aJ,seval,Zi,aC,aE];apply sp aj a<;>intro _ a
           ·cases a;simp only[aJ,seval];refine lk ⟨rfl,?_⟩;simp only[aJ,seval]
           ·cases a;simp only[aJ,seval,Zi];apply eS;refine⟨ai,ak,?_⟩;and_intros<;>first|rfl|(simp only[aJ,seval,Zi]<;>rfl)
          ·cases a;simp only[aJ,seval];apply gC;exact rfl
         ·rintro x t H e g;rcases bC with _|ri
          ·dsimp only at g a;subst g;cases a;simp only[aJ,seval]
          ·dsimp only at g a;obtain⟨rfl,hE⟩:=g;cases a;simp only[aP,aV,bS,bV];exact hE
        ·dsimp only at g a;obtain⟨rfl,hE⟩:=g;cases a;simp only[aP,aV,bS,bV];exact hE
      ·dsimp only at g a;obtain⟨rfl,hE⟩:=g;cases a;simp only[aP,aV,bS,bV];exact hE
    ·dsimp only at g a;obtain⟨rfl,hE⟩:=g;cases a;simp only[aP,aV,bS,bV];exact hE
 ·clear a;have a:=br;simp only[aJ,seval];apply sp aO a<;>intro _ a
  ·cases a;simp only[aJ,seval];rw[au];refine⟨_,rfl,?_⟩;refine⟨0,?_,?_,?_⟩;all_goals (rfl)
  ·cases a;simp only[aJ,seval];rw[au];refine⟨_,rfl,?_⟩;refine⟨0,?_,?_,?_⟩;all_goals (rfl)
def xe (l:Option (D×Row)) (d:List D):=di (fl (aI .i64) (dc (aI .i64))) (fun x:Int×Int=>xC x.1 x.2) (fun r:aw×Int =>.clean (.tup [.agg [.int .i64 r.1.bR.ak,.sl false false r.1.bR.aa.length (ae (eI .i64) r.1.bR.aa),.int .i64 r.1.bN.ak,.sl false false r.1.bN.aa.length (ae (eI .i64) r.1.bN.aa)],.int .i64 r.2])) l d
def A8:Env:=(Am.ext (Am.ext bl 87 false il) 88 false qE)
def QH:bG prog A8:=((bG.none.add wJ false).add Jd false)
def Vl:=ai @w<|ai @xS<|ai @il.eq_1<|ai @zA<|ai @qE.eq_1<|@A8.eq_1
def Ra:bK prog 58 xe:=bK.fh (mode := .clean) tok QH mixed func58 (by kernel_rfl) (fun _ _=>rfl) (fun _=>by kernel_rfl) fun⟨e,f⟩ r a=>by
 replace a:xC e f=some r:=a;apply aF rfl ntmps58 results58;simp only[fj];unfold xC at a;obtain⟨g,b,a⟩:=ab a;obtain⟨h,c,a⟩:=ab a;obtain⟨i,d,a⟩:=ab a;cases a;simp only[Vl,seval,b,c,d]
def tQ (l:Option (D×Row)) (d:List D):=di (fl (bo aD) (dc (bo aD))) (fun x:aw×aw=>tr x.1 x.2) (fun r:aw×Int =>.clean (.tup [.agg [.int .i64 r.1.bR.ak,.sl false false r.1.bR.aa.length (ae (eI .i64) r.1.bR.aa),.int .i64 r.1.bN.ak,.sl false false r.1.bN.aa.length (ae (eI .i64) r.1.bN.aa)],.int .i64 r.2])) l d
def yQ:Env:=(Am.ext (Am.ext (Am.ext bl 39 false b6) 87 false il) 89 false fu)
def Ng:bG prog yQ:=(((bG.none.add iF false).add wJ false).add s4 false)
def l7:=ai @w<|ai @s7<|ai @b6.eq_1<|ai @xS<|ai @il.eq_1<|ai @fu.eq_1<|@yQ.eq_1
def Oq:bK prog 59 tQ:=bK.fh (mode := .clean) tok Ng mixed func59 (by kernel_rfl) (fun _ _=>rfl) (fun _=>by kernel_rfl) fun⟨g,h⟩ r a=>by
 replace a:tr g h=some r:=a;apply aF rfl ntmps59 results59;simp only[fj];unfold tr at a;obtain⟨q,j,a⟩:=ab a;simp only[l7,seval,j];obtain⟨p,k,a⟩:=ab a;refine bq 0 (fun s t H e=>match s with|b=>∃c:Nat,∃d:Nat,∃f:Nat,t 2=.ptr 2 c 0∧t 3=.ptr 3 d 0∧t 4=.ptr 4 f 0∧t 13=.bool b∧H 2=some ⟨c,42,[.int .i64 g.bR.ak,.sl false false g.bR.aa.length (ae (eI .i64) g.bR.aa),.int .i64 g.bN.ak,.sl false false g.bN.aa.length (ae (eI .i64) g.bN.aa)],false,false,false⟩∧H 3=some ⟨d,42,[.int .i64 h.bR.ak,.sl false false h.bR.aa.length (ae (eI .i64) h.bR.aa),.int .i64 h.bN.ak,.sl false false h.bN.aa.length (ae (eI .i64) h.bN.aa)],false,false,false⟩∧H 4=some ⟨f,42,[.int .i64 0,.sl true true 0 [],.int .i64 0,.sl true true 0 []],false,false,false⟩) (fun s=>s=p) ?_ ?_
 ·rintro b t H e ⟨c,d,f,i⟩ rfl;try dsimp only at a
  simp only[l7,seval,i];apply sp aj a<;>intro _ a
  ·cases a;simp only[l7,seval,i]
  ·obtain⟨u,l,a⟩:=ab a;obtain⟨v,m,a⟩:=ab a;obtain⟨w,n,a⟩:=ab a;simp only[l7,seval,i,l,m,n];refine bu (by kernel_rfl) ?_;cases a;simp only[seval]
 ·clear a;have a:=k;simp only[l7,seval];apply sp aO a<;>intro _ a
  ·cases a;simp only[l7,seval];rw[au];refine⟨_,rfl,?_⟩;refine⟨0,0,0,?_,?_,?_,?_,?_,?_,?_⟩;all_goals (rfl)
  ·obtain⟨x,o,a⟩:=ab a;cases a;simp only[l7,seval,o];rw[au];refine⟨_,rfl,?_⟩;refine⟨0,0,0,?_,?_,?_,?_,?_,?_,?_⟩;all_goals (rfl)
def pA:=mkM 67 (bo aD) (fl (oL (eI .i64)) (dc (bo bx))) (fun (l:(List ((Int×Int)×aw))) (x:(List Int)×bF)=>iE l x.1 x.2) (fun r:Unit =>.clean (.tup []))
def Dc (f:(List ((Int×Int)×aw))) (g:(List Int)) (a:(List fK)) (b:(List uf)) (c:(List (List aw))) (d:(List fv)) (e:(List Int)):pA (some (.mp 0 0,⟨0,67,[.mpc (eu f) (gh (bo aD) f)],false,true,true⟩)) [.sl false false g.length (ae (eI .i64) g),.agg [.sl false false a.length (ae aR a),.sl false false b.length (ae b8 b),.sl false false c.length (ae (hZ aD) c),.sl false false d.length (ae dD d),.sl false false e.length (ae (eI .i64) e)]]=(iE f g (bF.mk (cJ.mk a b c) d e)).map fun r=>(.clean (.tup []),some ⟨0,67,[.mpc (eu r.1) (gh (bo aD) r.1)],false,true,true⟩):=aa9 _ _ _ _ _ f (g,(bF.mk (cJ.mk a b c) d e))
def lK:Env:=(Am.ext (Am.ext (Am.ext (Am.ext bl 40 false dC) 58 false xe) 59 false tQ) 60 false nD)
def Bp:bG prog lK:=((((bG.none.add mS false).add Ra false).add Oq false).add FV false)
def aY:=ai @w<|ai @s7<|ai @dC.eq_1<|ai @TA<|ai @xe.eq_1<|ai @lz<|ai @tQ.eq_1<|ai @nD.eq_1<|@lK.eq_1
def C6 (p0:(List ((Int×Int)×aw))) (u:(List Int)) (a:bF) (r:(List ((Int×Int)×aw))×(Unit)) (b:iE p0 u a=some r):kT .clean tab lK FU Tryz.f33 (some (.mp 0 0,⟨0,67,[.mpc (eu p0) (gh (bo aD) p0)],false,true,true⟩)) [.sl false false u.length (ae (eI .i64) u),.agg [.sl false false a.an.ah.length (ae aR a.an.ah),.sl false false a.an.aB.length (ae b8 a.an.aB),.sl false false a.an.av.length (ae (hZ aD) a.an.av),.sl false false a.aL.length (ae dD a.aL),.sl false false a.aq.length (ae (eI .i64) a.aq)]]=some (.clean (.tup []),some ⟨0,67,[.mpc (eu r.1) (gh (bo aD) r.1)],false,true,true⟩):=by
 apply PJ rfl ntmps33 results33;unfold iE at b;simp only[aY,seval];obtain⟨ao,R,b⟩:=ab b;refine ax (fun s t H e=>match s with|(f,O)=>∃v:Nat,t 0=.mp 0 0∧t 1=.sl false false u.length (ae (eI .i64) u)∧t 5=.ptr 5 v 0∧t 20=.sl false false a.an.ah.length (ae aR a.an.ah)∧t 21=.int .i64 (a.an.ah.length:Int)∧t 22=.int .i64 f∧H 0=some ⟨0,67,[.mpc (eu O) (gh (bo aD) O)],false,true,true⟩∧H 5=some ⟨v,60,[.sl false false a.an.ah.length (ae aR a.an.ah),.sl false false a.an.aB.length (ae b8 a.an.aB),.sl false false a.an.av.length (ae (hZ aD) a.an.av),.sl false false a.aL.length (ae dD a.aL),.sl false false a.aq.length (ae (eI .i64) a.aq)],false,false,false⟩) (fun o x t H e=>match o with|w=>x=.exit 0∧t 0=.mp 0 0∧H 0=some ⟨0,67,[.mpc (eu w) (gh (bo aD) w)],false,true,true⟩) R ?_ ?_ ?_
 ·refine⟨1,?_,?_,?_,?_,?_,?_,?_,?_⟩;all_goals (rfl)
 ·rintro⟨f,O⟩ t H e ⟨v,P⟩ c b;simp only[iT]at b;simp only[aY,seval,P];apply sp aj b<;>intro _ b
  ·obtain⟨ay,S,b⟩:=ab b;have l:=bk aR S;simp only[bT]at l;simp only[aY,seval,P,l];apply sp aj b<;>intro _ b
   ·cases b;simp only[aY,seval,P];apply eS;refine⟨v,?_⟩;and_intros<;>first|rfl|(simp only[aY,seval,P]<;>rfl)
   ·obtain⟨E,T,b⟩:=ab b;have G:=bk dD T;simp only[bT]at G;obtain⟨az,U,b⟩:=ab b;have I:=bk (eI .i64) U;simp only[bT]at I;obtain⟨d,V,b⟩:=ab b;simp only[aY,seval,P,G,I,V];refine bu (by kernel_rfl) ?_;obtain⟨aq,W,b⟩:=ab b;refine ax (fun s t H e=>match s with|(m,y)=>∃q:Nat,∃A:Nat,∃B:Nat,t 0=.mp 0 0∧t 1=.sl false false u.length (ae (eI .i64) u)∧t 5=.ptr 5 q 0∧t 6=.int .i64 f∧t 8=.ptr 8 A 0∧t 9=.ptr 9 B 0∧t 20=.sl false false a.an.ah.length (ae aR a.an.ah)∧t 21=.int .i64 (a.an.ah.length:Int)∧t 22=.int .i64 f∧t 49=.sl false false a.an.aB.length (ae b8 a.an.aB)∧t 50=.int .i64 (a.an.aB.length:Int)∧t 51=.int .i64 m∧H 0=some ⟨0,67,[.mpc (eu y) (gh (bo aD) y)],false,true,true⟩∧H 5=some ⟨q,60,[.sl false false a.an.ah.length (ae aR a.an.ah),.sl false false a.an.aB.length (ae b8 a.an.aB),.sl false false a.an.av.length (ae (hZ aD) a.an.av),.sl false false a.aL.length (ae dD a.aL),.sl false false a.aq.length (ae (eI .i64) a.aq)],false,false,false⟩∧H 8=some ⟨A,65,[.int .i64 E.b7,.int .i64 E.a7],false,false,false⟩∧H 9=some ⟨B,42,[.int .i64 d.1.bR.ak,.sl false false d.1.bR.aa.length (ae (eI .i64) d.1.bR.aa),.int .i64 d.1.bN.ak,.sl false false d.1.bN.aa.length (ae (eI .i64) d.1.bN.aa)],false,false,false⟩) (fun o x t H e=>match o with|C=>x=.exit 2∧∃n:Nat,t 0=.mp 0 0∧t 1=.sl false false u.length (ae (eI .i64) u)∧t 5=.ptr 5 n 0∧t 20=.sl false false a.an.ah.length (ae aR a.an.ah)∧t 21=.int .i64 (a.an.ah.length:Int)∧t 22=.int .i64 f∧H 0=some ⟨0,67,[.mpc (eu C) (gh (bo aD) C)],false,true,true⟩∧H 5=some ⟨n,60,[.sl false false a.an.ah.length (ae aR a.an.ah),.sl false false a.an.aB.length (ae b8 a.an.aB),.sl false false a.an.av.length (ae (hZ aD) a.an.av),.sl false false a.aL.length (ae dD a.aL),.sl false false a.aq.length (ae (eI .i64) a.aq)],false,false,false⟩) W ?_ ?_ ?_
    ·refine⟨v,e+1+1+1,e+1+1+1+1,?_⟩;and_intros<;>first|rfl|(simp only[aY,seval,P]<;>rfl)
    ·rintro⟨m,y⟩ t H e ⟨q,A,B,Q⟩ c b;simp only[gE]at b;simp only[aY,seval,Q];apply sp aj b<;>intro _ b
     ·obtain⟨F,X,b⟩:=ab b;have p:=bk b8 X;simp only[bT]at p;simp only[aY,seval,Q,p];obtain⟨ar,Y,b⟩:=ab b;refine bq 0 (fun s t H e=>match s with|D=>∃g:Nat,∃h:Nat,∃i:Nat,∃k:Nat,t 0=.mp 0 0∧t 1=.sl false false u.length (ae (eI .i64) u)∧t 5=.ptr 5 g 0∧t 6=.int .i64 f∧t 8=.ptr 8 h 0∧t 9=.ptr 9 i 0∧t 11=.int .i64 m∧t 12=.ptr 12 k 0∧t 20=.sl false false a.an.ah.length (ae aR a.an.ah)∧t 21=.int .i64 (a.an.ah.length:Int)∧t 22=.int .i64 f∧t 49=.sl false false a.an.aB.length (ae b8 a.an.aB)∧t 50=.int .i64 (a.an.aB.length:Int)∧t 51=.int .i64 m∧t 71=.bool D∧H 0=some ⟨0,67,[.mpc (eu y) (gh (bo aD) y)],false,true,true⟩∧H 5=some ⟨g,60,[.sl false false a.an.ah.length (ae aR a.an.ah),.sl false false a.an.aB.length (ae b8 a.an.aB),.sl false false a.an.av.length (ae (hZ aD) a.an.av),.sl false false a.aL.length (ae dD a.aL),.sl false false a.aq.length (ae (eI .i64) a.aq)],false,false,false⟩∧H 8=some ⟨h,65,[.int .i64 E.b7,.int .i64 E.a7],false,false,false⟩∧H 9=some ⟨i,42,[.int .i64 d.1.bR.ak,.sl false false d.1.bR.aa.length (ae (eI .i64) d.1.bR.aa),.int .i64 d.1.bN.ak,.sl false false d.1.bN.aa.length (ae (eI .i64) d.1.bN.aa)],false,false,false⟩∧H 12=some ⟨k,87,[.int .i64 F.ba,.int .i64 F.aZ,.int .i64 F.a7,.str F.Ko],false,false,false⟩) (fun s=>s=ar) ?_ ?_
      ·rintro D t H e ⟨g,h,i,k,j⟩ rfl;try dsimp only at b
       simp only[aY,seval,j];apply sp aj b<;>intro _ b
       ·cases b;simp only[aY,seval,j];apply eS;refine⟨g,h,i,?_⟩;and_intros<;>first|rfl|(simp only[aY,seval,j]<;>rfl)
       ·obtain⟨aA,Z,b⟩:=ab b;have J:=bk (eI .i64) Z;simp only[bT]at J;simp only[aY,seval,p,j,J];refine bu (by kernel_rfl) ?_;obtain⟨aB,aa,b⟩:=ab b;have K:=bk (hZ aD) aa;simp only[bT]at K;obtain⟨aC,ad,b⟩:=ab b;have L:=bk aD ad;simp only[bT]at L;obtain⟨aE,ag,b⟩:=ab b;simp only[aY,seval,l,j,K,L,ag];refine bu (by kernel_rfl) ?_;apply sp aj b<;>intro _ b
        ·obtain⟨aF,ah,b⟩:=ab b;cases b;simp only[aY,seval,j,ah];apply eS;refine⟨g,h,i,?_⟩;and_intros<;>first|rfl|(simp only[aY,seval,j]<;>rfl)
        ·cases b;simp only[aY,seval,j];apply eS;refine⟨g,h,i,?_⟩;and_intros<;>first|rfl|(simp only[aY,seval,j]<;>rfl)
      ·clear b;have b:=Y;simp only[aY,seval];apply sp aO b<;>intro _ b
       ·cases b;simp only[aY,seval];rw[au];refine⟨_,rfl,?_⟩;refine⟨q,A,B,e+1,?_⟩;and_intros<;>first|rfl|(simp only[aY,seval,Q]<;>rfl)
       ·obtain⟨aG,ai,b⟩:=ab b;have M:=bk (hZ aD) ai;simp only[bT]at M;obtain⟨aH,ak,b⟩:=ab b;have N:=bk aD ak;simp only[bT]at N;obtain⟨aI,al,b⟩:=ab b;cases b;simp only[aY,seval,l,Q,p,M,N,al];rw[au];refine⟨_,rfl,?_⟩;refine⟨q,A,B,e+1,?_⟩;and_intros<;>first|rfl|(simp only[aY,seval,Q]<;>rfl)
     ·cases b;simp only[aY,seval];apply gC;refine⟨rfl,⟨q,?_,?_,?_,?_,?_,?_,?_,?_⟩⟩;all_goals ((simp only[aY,seval,Q]<;>rfl))
    ·rintro x t H e hx;obtain⟨C,rfl⟩:∃z,z=aq:=⟨_,rfl⟩;dsimp only at hx b;obtain⟨rfl,⟨n,an⟩⟩:=hx;cases b;simp only[aY,seval,an];apply eS;refine⟨n,?_⟩;and_intros<;>first|rfl|(simp only[aY,seval,an]<;>rfl)
  ·cases b;simp only[aY,seval];apply gC;refine⟨rfl,⟨?_,?_⟩⟩;all_goals ((simp only[aY,seval,P]<;>rfl))
 ·rintro x t H e hx;obtain⟨w,rfl⟩:∃z,z=ao:=⟨_,rfl⟩;dsimp only at hx b;obtain⟨rfl,av⟩:=hx;cases b;simp only[aY,seval,av]
def Bz:bK prog 33 pA:=bK.W6 tok Bp mixed func33 (by kernel_rfl) ⟨by kernel_rfl,by kernel_rfl⟩ (fun _=>agG (by kernel_rfl)) (fun l x a r h=>C6 l x.1 x.2 (a,r) h)
def pO (l:Option (D×Row)) (d:List D):=di (fl (bo bc) (dc (bo bc))) (fun x:bD×bD=>nU x.1 x.2) (fun r:Int =>.clean (.int .i64 r)) l d
def acS {β:Type} {F:bD×bD->Option β} {R:β->RK} (e:Int) (f:Int) (g:Int) (a:(List Int)) (h:Int) (b:(List Int)) (i:Int) (j:Int) (k:Int) (c:(List Int)) (l:Int) (d:(List Int)):di (fl (bo bc) (dc (bo bc))) F R none [.agg [.int .i64 e,.int .i64 f,.int .i64 g,.sl false false a.length (ae (eI .i64) a),.int .i64 h,.sl false false b.length (ae (eI .i64) b)],.agg [.int .i64 i,.int .i64 j,.int .i64 k,.sl false false c.length (ae (eI .i64) c),.int .i64 l,.sl false false d.length (ae (eI .i64) d)]]=(F ((bD.mk e f (aw.mk (aG.mk g a) (aG.mk h b))),(bD.mk i j (aw.mk (aG.mk k c) (aG.mk l d))))).map fun r=>(R r,none):=cB _ _ _ ((bD.mk e f (aw.mk (aG.mk g a) (aG.mk h b))),(bD.mk i j (aw.mk (aG.mk k c) (aG.mk l d))))
def uF:Env:=(Am.ext (Am.ext bl 63 false zC) 64 false eR)
def Hd:bG prog uF:=((bG.none.add Je false).add rv false)
def LN:=ai @w<|ai @TA<|ai @eR.eq_1<|@uF.eq_1
def Hk:bK prog 35 pO:=bK.fh (mode := .clean) tok Hd mixed func35 (by kernel_rfl) (fun _ _=>rfl) (fun _=>by kernel_rfl) fun⟨f,g⟩ r a=>by
 replace a:nU f g=some r:=a;apply aF rfl ntmps35 results35;simp only[fj];unfold nU at a;obtain⟨h,b,a⟩:=ab a;obtain⟨i,c,a⟩:=ab a;have e:=OP ([h,i]);simp only[bP,bT,List.length_cons,afH,Nat.reduceAdd]at e;obtain⟨j,d,a⟩:=ab a;simp only[LN,seval,b,c,e,d];refine bu (by kernel_rfl) ?_;cases a;simp only[seval]
def qG (l:Option (D×Row)) (d:List D):=di (dc (bo jk)) (fun x:bg=>s3 x) (fun r:cA×Int =>.clean (.tup [.agg [.int .i64 r.1.aq,.sl false false r.1.az.length (ae bc r.1.az)],.int .i64 r.2])) l d
def z8:Env:=(Am.vv 9 (50,6,1) (Am.ext (Am.ext bl 7 false gm) 33 true pA))
def Uo:bG prog z8:=(bG.vv ((bG.none.add uM false).add Bz true) 9 (50,6,1))
def jC:=ai @w<|ai @EL<|ai @Pc<|ai @gm.eq_1<|@z8.eq_1
def W9 (f:bg) (r:cA×Int) (a:s3 f=some r):RY tab z8 FU 5 Tryz.f9 [.agg [.sl false false f.al.length (ae (eI .i64) f.al),.sl false false f.ao.length (ae bx f.ao)]] (yN tab Tryz.f9.results.toList (.clean (.tup [.agg [.int .i64 r.1.aq,.sl false false r.1.az.length (ae bc r.1.az)],.int .i64 r.2]),none) (abX r)):=by
 apply Vh rfl ntmps9 results9;simp only[Kq,Kr];unfold s3 at a;obtain⟨G,y,a⟩:=ab a;simp only[jC,seval,y];apply sp aj a<;>intro _ a
 ·cases a;simp only[jC,seval]
 ·simp only[jC,seval];obtain⟨E,A,a⟩:=ab a;refine ax (fun s t H e=>match s with|(n,h)=>∃j:Nat,∃k:Nat,∃g:Nat,t 1=.ptr 1 j 0∧t 2=.ptr 2 k 0∧t 6=.mp 21 g∧t 23=.sl false false f.ao.length (ae bx f.ao)∧t 24=.int .i64 (f.ao.length:Int)∧t 25=.int .i64 n∧H 1=some ⟨j,25,[.sl false false f.al.length (ae (eI .i64) f.al),.sl false false f.ao.length (ae bx f.ao)],false,false,false⟩∧H 2=some ⟨k,28,[.int .i64 0,.sl true true 0 []],false,false,false⟩∧H 21=some ⟨g,67,[.mpc (eu h) (gh (bo aD) h)],false,true,true⟩) (fun o x t H e=>match o with|b=>x=.exit 0∧∃l:Nat,∃i:Nat,∃d:Nat,t 1=.ptr 1 l 0∧t 2=.ptr 2 i 0∧t 6=.mp 21 d∧H 1=some ⟨l,25,[.sl false false f.al.length (ae (eI .i64) f.al),.sl false false f.ao.length (ae bx f.ao)],false,false,false⟩∧H 2=some ⟨i,28,[.int .i64 0,.sl true true 0 []],false,false,false⟩∧H 21=some ⟨d,67,[.mpc (eu b) (gh (bo aD) b)],false,true,true⟩) A ?_ ?_ ?_
  ·refine⟨0,0,3,?_,?_,?_,?_,?_,?_,?_,?_,?_⟩;all_goals (rfl)
  ·rintro⟨n,h⟩ t H e ⟨j,k,g,w⟩ c a;simp only[qv]at a;simp only[jC,seval,w];apply sp aj a<;>intro _ a
   ·obtain⟨p,B,a⟩:=ab a;have q:=bk bx B;simp only[bT]at q;have C:=Dc h f.al p.an.ah p.an.aB p.an.av p.aL p.aq;obtain⟨F,u,a⟩:=ab a;cases a;simp only[jC,seval,w,q,C,u];apply eS;refine⟨j,k,g,?_⟩;and_intros<;>first|rfl|(simp only[jC,seval,w]<;>rfl)
   ·cases a;simp only[jC,seval];apply gC;refine⟨rfl,⟨j,k,g,?_,?_,?_,?_,?_,?_⟩⟩;all_goals ((simp only[jC,seval,w]<;>rfl))
  ·rintro x t H e D;obtain⟨b,rfl⟩:∃z,z=E:=⟨_,rfl⟩;dsimp only at D a;obtain⟨rfl,⟨l,i,d,m⟩⟩:=D;simp only[jC,seval,m];apply sp aj a<;>intro _ a
   ·cases a;simp only[jC,seval,m]
   ·have v:bump (4*(e+1)+2) (e+1)=some (4*(e+1)+3):=L7 rfl;simp only[jC,seval,m,v];rw[G9];refine⟨b,(f.al.length:Int),d,e+1,i,(4*(e+1)+3),?_,?_,?_,?_,?_,?_,by omega,a⟩;all_goals first|rfl|(simp only[jC,seval,m]<;>rfl)
def Jf:bK prog 9 qG:=bK.front tok Uo mixed func9 rfl (by kernel_rfl) ⟨by kernel_rfl,by kernel_rfl⟩ (fun _=>agG (by kernel_rfl)) (agG (by kernel_rfl)) (fun x r h=>W9 x r h) (fun r=>Xj r)
def oA (l:Option (D×Row)) (d:List D):=di (fl (bo dN) (dc (bo dN))) (fun x:aG×aG=>kd x.1 x.2) (fun r:Bool =>.clean (.bool r)) l d
def F1:bK prog 46 oA:=bK.fh (mode := .clean) tok bG.none mixed func46 (by kernel_rfl) (fun _ _=>rfl) (fun _=>by kernel_rfl) fun⟨j,k⟩ r a=>by
 replace a:kd j k=some r:=a;apply aF rfl ntmps46 results46;simp only[fj];unfold kd at a;simp only[w,seval];obtain⟨A,v,a⟩:=ab a;refine bq 0 (fun s t H e=>match s with|f=>∃b:Nat,∃d:Nat,t 2=.ptr 2 b 0∧t 3=.ptr 3 d 0∧t 19=.bool f∧H 2=some ⟨b,40,[.int .i64 j.ak,.sl false false j.aa.length (ae (eI .i64) j.aa)],false,false,false⟩∧H 3=some ⟨d,40,[.int .i64 k.ak,.sl false false k.aa.length (ae (eI .i64) k.aa)],false,false,false⟩) (fun s=>s=A) ?_ ?_
 ·rintro f t H e ⟨b,d,l⟩ rfl;try dsimp only at a
  simp only[w,seval,l];apply sp aj a<;>intro _ a
  ·cases a;simp only[w,seval]
  ·simp only[w,seval];obtain⟨B,y,a⟩:=ab a;refine ax (fun s t H e=>match s with|m=>∃g:Nat,∃h:Nat,t 2=.ptr 2 g 0∧t 3=.ptr 3 h 0∧t 5=.int .i64 m∧H 2=some ⟨g,40,[.int .i64 j.ak,.sl false false j.aa.length (ae (eI .i64) j.aa)],false,false,false⟩∧H 3=some ⟨h,40,[.int .i64 k.ak,.sl false false k.aa.length (ae (eI .i64) k.aa)],false,false,false⟩) (fun o x t H e=>match o with|(.inl _)=>x=.exit 0|(.inr r)=>x=.ret∧eB .clean tab none [.tmp 4] ⟨t,EH H,e⟩=some (.clean (.bool r),none)) y ?_ ?_ ?_
   ·refine⟨b,d,?_⟩;and_intros<;>first|rfl|(simp only[w,seval,l]<;>rfl)
   ·rintro m t H e ⟨g,h,q⟩ c a;simp only[mV]at a;simp only[w,seval,q];apply sp aj a<;>intro _ a
    ·obtain⟨E,z,a⟩:=ab a;have n:=bk (eI .i64) z;simp only[bT]at n;obtain⟨C,p,a⟩:=ab a;have i:=bk (eI .i64) p;simp only[bT]at i;simp only[w,seval,q,n,i];refine bu (by kernel_rfl) ?_;apply sp aj a<;>intro _ a
     ·cases a;simp only[w,seval];refine lk ⟨rfl,?_⟩;simp only[w,seval]
     ·cases a;simp only[w,seval,q];apply eS;refine⟨g,h,?_⟩;and_intros<;>first|rfl|(simp only[w,seval,q]<;>rfl)
    ·cases a;simp only[w,seval];apply gC;exact rfl
   ·rintro x t H e u;rcases B with _|F
    ·dsimp only at u a;subst u;cases a;simp only[w,seval]
    ·dsimp only at u a;obtain⟨rfl,D⟩:=u;cases a;simp only[aP,aV,bS,bV];exact D
 ·clear a;have a:=v;simp only[w,seval];apply sp aO a<;>intro _ a
  ·cases a;simp only[w,seval];rw[au];refine⟨_,rfl,?_⟩;refine⟨0,0,?_,?_,?_,?_,?_⟩;all_goals (rfl)
  ·cases a;simp only[w,seval];rw[au];refine⟨_,rfl,?_⟩;refine⟨0,0,?_,?_,?_,?_,?_⟩;all_goals (rfl)
def iy (l:Option (D×Row)) (d:List D):=di (fl (bo aD) (dc (bo aD))) (fun x:aw×aw=>jz x.1 x.2) (fun r:Bool =>.clean (.bool r)) l d
def y5:Env:=(Am.ext bl 46 false oA)
def Nt:bG prog y5:=(bG.none.add F1 false)
def zx:=ai @w<|ai @xS<|ai @oA.eq_1<|@y5.eq_1
def wO:bK prog 14 iy:=bK.fh (mode := .clean) tok Nt mixed func14 (by kernel_rfl) (fun _ _=>rfl) (fun _=>by kernel_rfl) fun⟨d,e⟩ r a=>by
 replace a:jz d e=some r:=a;apply aF rfl ntmps14 results14;simp only[fj];unfold jz at a;obtain⟨f,b,a⟩:=ab a;simp only[zx,seval,b];apply sp dH a<;>intro _ a
 ·obtain⟨g,c,a⟩:=ab a;cases a;simp only[zx,seval,c]
 ·cases a;simp only[zx,seval]
def nK (l:Option (D×Row)) (d:List D):=di (fl (bo lr) (dc (bo lr))) (fun x:cA×cA=>nc x.1 x.2) (fun r:Bool =>.clean (.bool r)) l d
def acT {β:Type} {F:cA×cA->Option β} {R:β->RK} (c:Int) (a:(List bD)) (d:Int) (b:(List bD)):di (fl (bo lr) (dc (bo lr))) F R none [.agg [.int .i64 c,.sl false false a.length (ae bc a)],.agg [.int .i64 d,.sl false false b.length (ae bc b)]]=(F ((cA.mk c a),(cA.mk d b))).map fun r=>(R r,none):=cB _ _ _ ((cA.mk c a),(cA.mk d b))
def y8:Env:=(Am.ext bl 14 false iy)
def Nw:bG prog y8:=(bG.none.add wO false)
def cD:=ai @w<|ai @lz<|ai @iy.eq_1<|@y8.eq_1
def CD:bK prog 11 nK:=bK.fh (mode := .clean) tok Nw mixed func11 (by kernel_rfl) (fun _ _=>rfl) (fun _=>by kernel_rfl) fun⟨m,n⟩ r a=>by
 replace a:nc m n=some r:=a;apply aF rfl ntmps11 results11;simp only[fj];unfold nc at a;simp only[cD,seval];obtain⟨B,z,a⟩:=ab a;refine bq 0 (fun s t H e=>match s with|h=>∃f:Nat,∃g:Nat,t 2=.ptr 2 f 0∧t 3=.ptr 3 g 0∧t 19=.bool h∧H 2=some ⟨f,28,[.int .i64 m.aq,.sl false false m.az.length (ae bc m.az)],false,false,false⟩∧H 3=some ⟨g,28,[.int .i64 n.aq,.sl false false n.az.length (ae bc n.az)],false,false,false⟩) (fun s=>s=B) ?_ ?_
 ·rintro h t H e ⟨f,g,q⟩ rfl;try dsimp only at a
  simp only[cD,seval,q];apply sp aj a<;>intro _ a
  ·cases a;simp only[cD,seval]
  ·simp only[cD,seval];obtain⟨A,u,a⟩:=ab a;refine ax (fun s t H e=>match s with|v=>∃k:Nat,∃l:Nat,t 2=.ptr 2 k 0∧t 3=.ptr 3 l 0∧t 5=.int .i64 v∧H 2=some ⟨k,28,[.int .i64 m.aq,.sl false false m.az.length (ae bc m.az)],false,false,false⟩∧H 3=some ⟨l,28,[.int .i64 n.aq,.sl false false n.az.length (ae bc n.az)],false,false,false⟩) (fun o x t H e=>match o with|(.inl _)=>x=.exit 0|(.inr r)=>x=.ret∧eB .clean tab none [.tmp 4] ⟨t,EH H,e⟩=some (.clean (.bool r),none)) u ?_ ?_ ?_
   ·refine⟨f,g,?_⟩;and_intros<;>first|rfl|(simp only[cD,seval,q]<;>rfl)
   ·rintro v t H e ⟨k,l,p⟩ c a;simp only[sB]at a;simp only[cD,seval,p];apply sp aj a<;>intro _ a
    ·obtain⟨C,i,a⟩:=ab a;have b:=bk bc i;simp only[bT]at b;obtain⟨D,j,a⟩:=ab a;have d:=bk bc j;simp only[bT]at d;simp only[cD,seval,p,b,d];apply sp jb a<;>intro _ a
     ·simp only[cD,seval];refine bu (by kernel_rfl) ?_;cases a;refine lk ⟨rfl,?_⟩;simp only[cD,seval]
     ·have b:=bk bc i;simp only[bT]at b;have d:=bk bc j;simp only[bT]at d;simp only[cD,seval,p,b,d];apply sp jb a<;>intro _ a
      ·simp only[cD,seval];refine bu (by kernel_rfl) ?_;cases a;refine lk ⟨rfl,?_⟩;simp only[cD,seval]
      ·have b:=bk bc i;simp only[bT]at b;have d:=bk bc j;simp only[bT]at d;obtain⟨E,w,a⟩:=ab a;simp only[cD,seval,p,b,d,w];refine bu (by kernel_rfl) ?_;apply sp aj a<;>intro _ a
       ·cases a;simp only[cD,seval];refine lk ⟨rfl,?_⟩;simp only[cD,seval]
       ·cases a;simp only[cD,seval,p];apply eS;refine⟨k,l,?_⟩;and_intros<;>first|rfl|(simp only[cD,seval,p]<;>rfl)
    ·cases a;simp only[cD,seval];apply gC;exact rfl
   ·rintro x t H e y;rcases A with _|G
    ·dsimp only at y a;subst y;cases a;simp only[cD,seval]
    ·dsimp only at y a;obtain⟨rfl,F⟩:=y;cases a;simp only[aP,aV,bS,bV];exact F
 ·clear a;have a:=z;simp only[cD,seval];apply sp aO a<;>intro _ a
  ·cases a;simp only[cD,seval];rw[au];refine⟨_,rfl,?_⟩;refine⟨0,0,?_,?_,?_,?_,?_⟩;all_goals (rfl)
  ·cases a;simp only[cD,seval];rw[au];refine⟨_,rfl,?_⟩;refine⟨0,0,?_,?_,?_,?_,?_⟩;all_goals (rfl)
def tR (l:Option (D×Row)) (d:List D):=di (fl (bo aD) (dc (bo aD))) (fun x:aw×aw=>tu x.1 x.2) (fun r:aw×Int =>.clean (.tup [.agg [.int .i64 r.1.bR.ak,.sl false false r.1.bR.aa.length (ae (eI .i64) r.1.bR.aa),.int .i64 r.1.bN.ak,.sl false false r.1.bN.aa.length (ae (eI .i64) r.1.bN.aa)],.int .i64 r.2])) l d
def yS:Env:=(Am.ext (Am.ext (Am.ext bl 39 false b6) 90 false lQ) 108 false nA)
def Ni:bG prog yS:=(((bG.none.add iF false).add Cy false).add FM false)
def l8:=ai @w<|ai @s7<|ai @b6.eq_1<|ai @lz<|ai @lQ.eq_1<|ai @tO<|ai @nA.eq_1<|@yS.eq_1
def Ot:bK prog 72 tR:=bK.fh (mode := .clean) tok Ni mixed func72 (by kernel_rfl) (fun _ _=>rfl) (fun _=>by kernel_rfl) fun⟨g,h⟩ r a=>by
 replace a:tu g h=some r:=a;apply aF rfl ntmps72 results72;simp only[fj];unfold tu at a;obtain⟨p,j,a⟩:=ab a;simp only[l8,seval,j];obtain⟨o,k,a⟩:=ab a;refine bq 0 (fun s t H e=>match s with|b=>∃c:Nat,∃d:Nat,∃f:Nat,t 2=.ptr 2 c 0∧t 3=.ptr 3 d 0∧t 4=.ptr 4 f 0∧t 13=.bool b∧H 2=some ⟨c,42,[.int .i64 g.bR.ak,.sl false false g.bR.aa.length (ae (eI .i64) g.bR.aa),.int .i64 g.bN.ak,.sl false false g.bN.aa.length (ae (eI .i64) g.bN.aa)],false,false,false⟩∧H 3=some ⟨d,42,[.int .i64 h.bR.ak,.sl false false h.bR.aa.length (ae (eI .i64) h.bR.aa),.int .i64 h.bN.ak,.sl false false h.bN.aa.length (ae (eI .i64) h.bN.aa)],false,false,false⟩∧H 4=some ⟨f,42,[.int .i64 0,.sl true true 0 [],.int .i64 0,.sl true true 0 []],false,false,false⟩) (fun s=>s=o) ?_ ?_
 ·rintro b t H e ⟨c,d,f,i⟩ rfl;try dsimp only at a
  simp only[l8,seval,i];apply sp aj a<;>intro _ a
  ·cases a;simp only[l8,seval,i]
  ·obtain⟨q,l,a⟩:=ab a;obtain⟨u,m,a⟩:=ab a;simp only[l8,seval,i,l,m];refine bu (by kernel_rfl) ?_;cases a;simp only[seval]
 ·clear a;have a:=k;simp only[l8,seval];apply sp aO a<;>intro _ a
  ·cases a;simp only[l8,seval];rw[au];refine⟨_,rfl,?_⟩;refine⟨0,0,0,?_,?_,?_,?_,?_,?_,?_⟩;all_goals (rfl)
  ·obtain⟨v,n,a⟩:=ab a;cases a;simp only[l8,seval,n];rw[au];refine⟨_,rfl,?_⟩;refine⟨0,0,0,?_,?_,?_,?_,?_,?_,?_⟩;all_goals (rfl)
def gp (l:Option (D×Row)) (d:List D):=di (dc (bo lr)) (fun x:cA=>mj x) (fun r:(List aw) =>.clean (.sl false false r.length (ae aD r))) l d
def vx {β:Type} {F:cA->Option β} {R:β->RK} (b:Int) (a:(List bD)):di (dc (bo lr)) F R none [.agg [.int .i64 b,.sl false false a.length (ae bc a)]]=(F ((cA.mk b a))).map fun r=>(R r,none):=cB _ _ _ ((cA.mk b a))
def wk:Env:=(Am.ext (Am.ext bl 71 false lR) 72 false tR)
def Kz:bG prog wk:=((bG.none.add Cz false).add Ot false)
def dW:=ai @w<|ai @zA<|ai @lR.eq_1<|ai @lz<|ai @tR.eq_1<|@wk.eq_1
def uO:bK prog 42 gp:=bK.fh (mode := .clean) tok Kz mixed func42 (by kernel_rfl) (fun _ _=>rfl) (fun _=>by kernel_rfl) fun p r a=>by
 replace a:mj p=some r:=a;apply aF rfl ntmps42 results42;simp only[fj];unfold mj at a;obtain⟨Z,Q,a⟩:=ab a;obtain⟨R,S,T,F,U⟩:=mk_one aD Q;simp only[bT]at F;simp only[dW,seval,R,S,T,F,U];obtain⟨o7,V,a⟩:=ab a;refine ax (fun s t H e=>match s with|(q,C)=>∃g:Nat,∃h:Nat,t 1=.ptr 1 g 0∧t 3=.buf 3 h 4 0 (C).length∧t 11=.int .i64 ((Z).length:Int)∧t 12=.int .i64 q∧H 1=some ⟨g,28,[.int .i64 p.aq,.sl false false p.az.length (ae bc p.az)],false,false,false⟩∧H 3=some ⟨h,42,ae aD C,false,true,false⟩) (fun o x t H e=>match o with|i=>x=.exit 0∧∃j:Nat,∃d:Nat,t 1=.ptr 1 j 0∧t 3=.buf 3 d 4 0 (i).length∧H 1=some ⟨j,28,[.int .i64 p.aq,.sl false false p.az.length (ae bc p.az)],false,false,false⟩∧H 3=some ⟨d,42,ae aD i,false,true,false⟩) V ?_ ?_ ?_
 ·refine⟨0,1,?_,?_,?_,?_,?_,?_⟩;all_goals (rfl)
 ·rintro⟨q,C⟩ t H e ⟨g,h,O⟩ c a;simp only[mO]at a;simp only[dW,seval,O];apply sp aj a<;>intro _ a
  ·obtain⟨D,W,a⟩:=ab a;obtain⟨aa,u,a⟩:=ab a;have v:=bk aD u;simp only[bT]at v;have G:=fN aD (x':=D) (fo:=0) (cs:=[.int .i64 D.bR.ak,.sl false false D.bR.aa.length (ae (eI .i64) D.bR.aa),.int .i64 D.bN.ak,.sl false false D.bN.aa.length (ae (eI .i64) D.bN.aa)]) u rfl (agG rfl);simp only[bT,Nat.add_zero]at G;have w:=G;simp only[putCells,List.length_cons,List.length_nil,afH,Nat.reduceAdd]at w;cases a;simp only[dW,seval,O,W,v,w];apply eS;refine⟨g,h,?_⟩;and_intros<;>first|rfl|(simp only[dW,seval,O]<;>rfl)
  ·cases a;simp only[dW,seval];apply gC;refine⟨rfl,⟨g,h,?_,?_,?_,?_⟩⟩;all_goals ((simp only[dW,seval,O]<;>rfl))
 ·rintro x t H e I;obtain⟨i,rfl⟩:∃z,z=o7:=⟨_,rfl⟩;dsimp only at I a;obtain⟨rfl,⟨j,d,J⟩⟩:=I;simp only[dW,seval,J];obtain⟨X,K,a⟩:=ab a;refine ax (fun s t H e=>match s with|(y,E)=>∃k:Nat,t 3=.buf 3 k 4 0 (E).length∧t 21=.sl false false p.az.length (ae bc p.az)∧t 22=.int .i64 (p.az.length:Int)∧t 23=.int .i64 y∧H 3=some ⟨k,42,ae aD E,false,true,false⟩) (fun o x t H e=>match o with|l=>x=.exit 2∧∃m:Nat,t 3=.buf 3 m 4 0 (l).length∧H 3=some ⟨m,42,ae aD l,false,true,false⟩) K ?_ ?_ ?_
  ·refine⟨d,?_⟩;and_intros<;>first|rfl|(simp only[dW,seval,J]<;>rfl)
  ·rintro⟨y,E⟩ t H e ⟨k,P⟩ c a;simp only[mP]at a;simp only[dW,seval,P];apply sp aj a<;>intro _ a
   ·obtain⟨ad,L,a⟩:=ab a;have A:=bk bc L;simp only[bT]at A;obtain⟨ag,n,a⟩:=ab a;have f:=bk aD n;simp only[bT]at f;obtain⟨b,M,a⟩:=ab a;have f:=bk aD n;simp only[bT]at f;have N:=fN aD (x':=b.1) (fo:=0) (cs:=[.int .i64 b.1.bR.ak,.sl false false b.1.bR.aa.length (ae (eI .i64) b.1.bR.aa),.int .i64 b.1.bN.ak,.sl false false b.1.bN.aa.length (ae (eI .i64) b.1.bN.aa)]) n rfl (agG rfl);simp only[bT,Nat.add_zero]at N;have B:=N;simp only[putCells,List.length_cons,List.length_nil,afH,Nat.reduceAdd]at B;simp only[dW,seval,P,A,M,f,B];refine bu (by kernel_rfl) ?_;cases a;apply eS;refine⟨k,?_⟩;and_intros<;>first|rfl|(simp only[dW,seval,P]<;>rfl)
   ·cases a;simp only[dW,seval];apply gC;refine⟨rfl,⟨k,?_,?_⟩⟩;all_goals ((simp only[dW,seval,P]<;>rfl))
  ·rintro x t H e I;obtain⟨l,rfl⟩:∃z,z=X:=⟨_,rfl⟩;dsimp only at I a;obtain⟨rfl,⟨m,Y⟩⟩:=I;cases a;simp only[dW,seval,Y]
def ow (l:Option (D×Row)) (d:List D):=di (dc (bo aD)) (fun x:aw=>oW x) (fun r:Bool =>.clean (.bool r)) l d
def sS:Env:=(Am.ext bl 40 false dC)
def EX:bG prog sS:=(bG.none.add mS false)
def HB:=ai @w<|ai @s7<|ai @dC.eq_1<|@sS.eq_1
def FT:bK prog 43 ow:=bK.fh (mode := .clean) tok EX mixed func43 (by kernel_rfl) (fun _ _=>rfl) (fun _=>by kernel_rfl) fun c r a=>by
 replace a:oW c=some r:=a;apply aF rfl ntmps43 results43;simp only[fj];unfold oW at a;obtain⟨d,b,a⟩:=ab a;cases a;simp only[HB,seval,b]
def dP (l:Option (D×Row)) (d:List D):=di (fl (oL aD) (dc (aFn 43))) (fun x:(List aw)×Unit=>dw x.1) (fun r:Int =>.clean (.int .i64 r)) l d
def Zm {β:Type} {F:(List aw)×Unit->Option β} {R:β->RK} (a:(List aw)):di (fl (oL aD) (dc (aFn 43))) F R none [.sl false false a.length (ae aD a),.fn 43]=(F (a,())).map fun r=>(R r,none):=cB _ _ _ (a,())
def ff:Env:=(Am.ext bl 43 false ow)
def ns:bG prog ff:=(bG.none.add FT false)
def bE:=ai @w<|ai @s7<|ai @ow.eq_1<|@ff.eq_1
def nt:bK prog 70 dP:=bK.fh (mode := .clean) tok ns mixed func70 (by kernel_rfl) (fun _ _=>rfl) (fun _=>by kernel_rfl) fun⟨f,_⟩ r a=>by
 replace a:dw f=some r:=a;apply aF rfl ntmps70 results70;simp only[fj];unfold dw at a;simp only[bE,seval];obtain⟨l,i,a⟩:=ab a;refine ax (fun s t H e=>match s with|b=>t 0=.sl false false f.length (ae aD f)∧t 1=.fn 43∧t 7=.int .i64 (f.length:Int)∧t 8=.int .i64 b) (fun o x t H e=>match o with|(.inl _)=>x=.exit 0|(.inr r)=>x=.ret∧eB .clean tab none [.tmp 4] ⟨t,EH H,e⟩=some (.clean (.int .i64 r),none)) i ?_ ?_ ?_
 ·refine⟨?_,?_,?_,?_⟩;all_goals (rfl)
 ·rintro b t H e g c a;simp only[dK]at a;simp only[bE,seval,g];apply sp aj a<;>intro _ a
  ·obtain⟨n,j,a⟩:=ab a;have d:=bk aD j;simp only[bT]at d;obtain⟨p,k,a⟩:=ab a;simp only[bE,seval,g,d,k];apply sp aj a<;>intro _ a
   ·cases a;simp only[bE,seval];refine lk ⟨rfl,?_⟩;simp only[bE,seval]
   ·cases a;simp only[bE,seval,g];apply eS;and_intros<;>first|rfl|(simp only[bE,seval,g]<;>rfl)
  ·cases a;simp only[bE,seval];apply gC;exact rfl
 ·rintro x t H e h;rcases l with _|q
  ·dsimp only at h a;subst h;cases a;simp only[bE,seval]
  ·dsimp only at h a;obtain⟨rfl,m⟩:=h;cases a;simp only[aP,aV,bS,bV];exact m
def dx (l:Option (D×Row)) (d:List D):=di (fl (oL aD) (dc (aFn 43))) (fun x:(List aw)×Unit=>cq x.1) (fun r:Bool =>.clean (.bool r)) l d
def eN:Env:=(Am.ext bl 70 false dP)
def lW:bG prog eN:=(bG.none.add nt false)
def mA:=ai @w<|ai @Zm<|ai @dP.eq_1<|@eN.eq_1
def lY:bK prog 41 dx:=bK.fh (mode := .clean) tok lW mixed func41 (by kernel_rfl) (fun _ _=>rfl) (fun _=>by kernel_rfl) fun⟨c,_⟩ r a=>by
 replace a:cq c=some r:=a;apply aF rfl ntmps41 results41;simp only[fj];unfold cq at a;obtain⟨d,b,a⟩:=ab a;cases a;simp only[mA,seval,b]
def eE (l:Option (D×Row)) (d:List D):=di (dc (bo lr)) (fun x:cA=>kC x) (fun r:Bool =>.clean (.bool r)) l d
def wh:Env:=(Am.ext (Am.ext (Am.ext (Am.ext (Am.ext (Am.ext bl 27 false ct) 35 false pO) 39 false b6) 40 false dC) 41 false dx) 42 false gp)
def Ky:bG prog wh:=((((((bG.none.add jH false).add Hk false).add iF false).add mS false).add lY false).add uO false)
def bs:=ai @w<|ai @tH<|ai @ct.eq_1<|ai @acS<|ai @pO.eq_1<|ai @s7<|ai @b6.eq_1<|ai @dC.eq_1<|ai @Zm<|ai @dx.eq_1<|ai @vx<|ai @gp.eq_1<|@wh.eq_1
def qe:bK prog 12 eE:=bK.fh (mode := .clean) tok Ky mixed func12 (by kernel_rfl) (fun _ _=>rfl) (fun _=>by kernel_rfl) fun b r a=>by
 replace a:kC b=some r:=a;apply aF rfl ntmps12 results12;simp only[fj];unfold kC at a;obtain⟨Z,K,a⟩:=ab a;simp only[bs,seval,K];obtain⟨P,L,a⟩:=ab a;refine bq 0 (fun s t H e=>match s with|k=>∃i:Nat,t 1=.ptr 1 i 0∧t 14=.bool k∧H 1=some ⟨i,28,[.int .i64 b.aq,.sl false false b.az.length (ae bc b.az)],false,false,false⟩) (fun s=>s=P) ?_ ?_
 ·rintro k t H e ⟨i,v⟩ rfl;try dsimp only at a
  simp only[bs,seval,v];apply sp aj a<;>intro _ a
  ·cases a;simp only[bs,seval]
  ·simp only[bs,seval,v];obtain⟨M,w,a⟩:=ab a;refine ax (fun s t H e=>match s with|j=>∃d:Nat,t 1=.ptr 1 d 0∧t 16=.sl false false b.az.length (ae bc b.az)∧t 17=.int .i64 (b.az.length:Int)∧t 18=.int .i64 j∧H 1=some ⟨d,28,[.int .i64 b.aq,.sl false false b.az.length (ae bc b.az)],false,false,false⟩) (fun o x t H e=>match o with|(.inl _)=>x=.exit 0∧∃l:Nat,t 1=.ptr 1 l 0∧H 1=some ⟨l,28,[.int .i64 b.aq,.sl false false b.az.length (ae bc b.az)],false,false,false⟩|(.inr r)=>x=.ret∧eB .clean tab none [.tmp 2] ⟨t,EH H,e⟩=some (.clean (.bool r),none)) w ?_ ?_ ?_
   ·refine⟨i,?_⟩;and_intros<;>first|rfl|(simp only[bs,seval,v]<;>rfl)
   ·rintro j t H e ⟨d,p⟩ c a;simp only[mN]at a;simp only[bs,seval,p];apply sp aj a<;>intro _ a
    ·obtain⟨f,y,a⟩:=ab a;have q:=bk bc y;simp only[bT]at q;obtain⟨Q,z,a⟩:=ab a;simp only[bs,seval,p,q,z];obtain⟨N,A,a⟩:=ab a;refine bq 0 (fun s t H e=>match s with|m=>∃g:Nat,∃n:Nat,t 1=.ptr 1 g 0∧t 3=.int .i64 j∧t 4=.ptr 4 n 0∧t 16=.sl false false b.az.length (ae bc b.az)∧t 17=.int .i64 (b.az.length:Int)∧t 18=.int .i64 j∧t 50=.bool m∧H 1=some ⟨g,28,[.int .i64 b.aq,.sl false false b.az.length (ae bc b.az)],false,false,false⟩∧H 4=some ⟨n,50,[.int .i64 f.bI,.int .i64 f.fU,.int .i64 f.bJ.bR.ak,.sl false false f.bJ.bR.aa.length (ae (eI .i64) f.bJ.bR.aa),.int .i64 f.bJ.bN.ak,.sl false false f.bJ.bN.aa.length (ae (eI .i64) f.bJ.bN.aa)],false,false,false⟩) (fun s=>s=N) ?_ ?_
     ·rintro m t H e ⟨g,n,h⟩ rfl;try dsimp only at a
      simp only[bs,seval,h];apply sp aj a<;>intro _ a
      ·cases a;simp only[bs,seval];refine lk ⟨rfl,?_⟩;simp only[bs,seval]
      ·simp only[bs,seval,h];apply sp xV a<;>intro _ a
       ·obtain⟨R,B,a⟩:=ab a;have u:=bk bc B;simp only[bT]at u;obtain⟨S,C,a⟩:=ab a;simp only[bs,seval,h,u,C];refine bu (by kernel_rfl) ?_;apply sp aj a<;>intro _ a
        ·cases a;simp only[bs,seval];refine lk ⟨rfl,?_⟩;simp only[bs,seval]
        ·cases a;simp only[bs,seval,h];apply eS;refine⟨g,?_⟩;and_intros<;>first|rfl|(simp only[bs,seval,h]<;>rfl)
       ·simp only[bs,seval,h];refine bu (by kernel_rfl) ?_;cases a;apply eS;refine⟨g,?_⟩;and_intros<;>first|rfl|(simp only[bs,seval,h]<;>rfl)
     ·clear a;have a:=A;simp only[bs,seval];apply sp aO a<;>intro _ a
      ·cases a;simp only[bs,seval];rw[au];refine⟨_,rfl,?_⟩;refine⟨d,e+1,?_⟩;and_intros<;>first|rfl|(simp only[bs,seval,p]<;>rfl)
      ·obtain⟨T,D,a⟩:=ab a;simp only[bs,seval,p,D];apply sp aO a<;>intro _ a
       ·cases a;simp only[bs,seval];rw[au];refine⟨_,rfl,?_⟩;refine⟨d,e+1,?_⟩;and_intros<;>first|rfl|(simp only[bs,seval,p]<;>rfl)
       ·obtain⟨U,E,a⟩:=ab a;simp only[bs,seval,E];apply sp aO a<;>intro _ a
        ·cases a;simp only[bs,seval];rw[au];refine⟨_,rfl,?_⟩;refine⟨d,e+1,?_⟩;and_intros<;>first|rfl|(simp only[bs,seval,p]<;>rfl)
        ·obtain⟨V,F,a⟩:=ab a;cases a;simp only[bs,seval,F];rw[au];refine⟨_,rfl,?_⟩;refine⟨d,e+1,?_⟩;and_intros<;>first|rfl|(simp only[bs,seval,p]<;>rfl)
    ·cases a;simp only[bs,seval];apply gC;refine⟨rfl,⟨d,?_,?_⟩⟩;all_goals ((simp only[bs,seval,p]<;>rfl))
   ·rintro x t H e J;rcases M with _|rb
    ·dsimp only at J a;obtain⟨rfl,⟨l,O⟩⟩:=J;obtain⟨W,G,a⟩:=ab a;obtain⟨X,I,a⟩:=ab a;cases a;simp only[bs,seval,O,G,I]
    ·dsimp only at J a;obtain⟨rfl,Y⟩:=J;cases a;simp only[aP,aV,bS,bV];exact Y
 ·clear a;have a:=L;simp only[bs,seval];apply sp aO a<;>intro _ a
  ·cases a;simp only[bs,seval];rw[au];refine⟨_,rfl,?_⟩;refine⟨0,?_,?_,?_⟩;all_goals (rfl)
  ·cases a;simp only[bs,seval];rw[au];refine⟨_,rfl,?_⟩;refine⟨0,?_,?_,?_⟩;all_goals (rfl)
def gn (l:Option (D×Row)) (d:List D):=di (dc (bo lr)) (fun x:cA=>gD x) (fun r:(List Int) =>.clean (.sl false false r.length (ae (eI .i64) r))) l d
def wg:Env:=(Am.vv 18 (3,1,0) (Am.ext (Am.ext (Am.ext bl 12 false eE) 40 false dC) 42 false gp))
def Kx:bG prog wg:=(bG.vv (((bG.none.add qe false).add mS false).add uO false) 18 (3,1,0))
def bj:=ai @w<|ai @vx<|ai @eE.eq_1<|ai @s7<|ai @dC.eq_1<|ai @gp.eq_1<|@wg.eq_1
def uN:bK prog 18 gn:=bK.fh (mode := .clean) tok Kx mixed func18 (by kernel_rfl) (fun _ _=>rfl) (fun _=>by kernel_rfl) fun p0 r a=>by
 replace a:gD p0=some r:=a;apply aF rfl ntmps18 results18;simp only[fj];unfold gD at a;obtain⟨r1,a6,a⟩:=ab a;simp only[bj,seval,-Int.reduceToNat,a6];apply sp aj a<;>intro _ a
 ·cases a;simp only[bj,seval,-Int.reduceToNat]
 ·obtain⟨x3,b8,a⟩:=ab a;have a7:=YS (E:=(PS (eI .i64))) (ty':=3) (s:=1) (f:=0) (k := .i64) Lm (by rfl) rfl rfl rfl rfl rfl b8;obtain⟨Y,dk,dm,dn,dp⟩:=mk_one (PS (eI .i64)) b8;simp only[bj,seval,-Int.reduceToNat,a7,Y];obtain⟨c9,b9,a⟩:=ab a;refine ax (fun s t H e=>match s with|(bm,Z)=>∃aa:Nat,∃A:Nat,∃l:Nat,t 1=.ptr 1 aa 0∧t 3=.buf 18 A 1 0 (Z).length∧t 20=.sl false false p0.az.length (ae bc p0.az)∧t 21=.int .i64 (p0.az.length:Int)∧t 22=.int .i64 bm∧H 1=some ⟨aa,28,[.int .i64 p0.aq,.sl false false p0.az.length (ae bc p0.az)],false,false,false⟩∧H 18=some ⟨A,22,[.nr 3 1 l (ae (PS (eI .i64)) Z)],false,true,true⟩∧l<=4*e) (fun o x t H e=>match o with|b=>x=.exit 0∧∃ad:Nat,∃p:Nat,∃h:Nat,t 1=.ptr 1 ad 0∧t 3=.buf 18 p 1 0 (b).length∧H 1=some ⟨ad,28,[.int .i64 p0.aq,.sl false false p0.az.length (ae bc p0.az)],false,false,false⟩∧H 18=some ⟨p,22,[.nr 3 1 h (ae (PS (eI .i64)) b)],false,true,true⟩∧h<=4*e) b9 ?_ ?_ ?_
  ·refine⟨0,2,4*(2)+2,?_,?_,?_,?_,?_,?_,?_,?_⟩;all_goals (first|rfl|omega|(simp only[bj,seval,-Int.reduceToNat,a6,a7,Y]<;>rfl))
  ·rintro⟨bm,Z⟩ t H e ⟨aa,A,l,Za⟩ c a;simp only[ky]at a;simp only[bj,seval,-Int.reduceToNat,Za];apply sp aj a<;>intro _ a
   ·obtain⟨dq,ca,a⟩:=ab a;have bn:=bk bc ca;simp only[bT]at bn;obtain⟨dr,F,a⟩:=ab a;have G:=bk (PS (eI .i64)) F;simp only[bT]at G;obtain⟨bR,cb,a⟩:=ab a;obtain⟨cc,bo,cd,cf⟩:=fY (eI .i64) cb;simp only[bT]at bo;have G:=bk (PS (eI .i64)) F;simp only[bT]at G;have cg:=Xw (PS (eI .i64)) (x':=bR) 0 .und (.nx bR.length (ae (eI .i64) bR)) F rfl (agG rfl);have bp:=Y3 (PS (eI .i64)) 0 .und F (agG rfl);simp only[bT,Nat.add_zero]at cg bp;have bq:=cg;simp only[putCells,List.length_cons,List.length_nil,afH]at bq;have ag:=bp;simp only[putCells,List.length_cons,List.length_nil,afH]at ag;have ch:bump l (e+1+1)=some (4*(e+1+1)+1):=J6 (by omega);simp only[bj,seval,-Int.reduceToNat,Za,bn,cc,bo,cd,cf,G,bq,ag,ch];refine bu (by kernel_rfl) ?_;cases a;apply eS;refine⟨aa,A,4*(e+1+1)+1,?_,?_,?_,?_,?_,?_,?_,?_⟩;all_goals (first|rfl|omega|(simp only[bj,seval,-Int.reduceToNat,Za]<;>rfl))
   ·cases a;simp only[bj,seval,-Int.reduceToNat];apply gC;refine⟨rfl,⟨aa,A,l,?_,?_,?_,?_,?_⟩⟩;all_goals (first|rfl|omega|(simp only[bj,seval,-Int.reduceToNat,Za]<;>rfl))
  ·rintro x t H e hx;obtain⟨b,rfl⟩:∃z,z=c9:=⟨_,rfl⟩;dsimp only at hx a;obtain⟨rfl,⟨ad,p,h,cj⟩⟩:=hx;obtain⟨ds,ck,a⟩:=ab a;obtain⟨br,ah,ai,I,ak⟩:=mk_one (eI .i64) ck;simp only[bT]at I;obtain⟨bS,al,a⟩:=ab a;simp only[bj,seval,-Int.reduceToNat,Y,cj,ah,ai,I,ak,al];obtain⟨da,cm,a⟩:=ab a;refine ax (fun s t H e=>match s with|(bs,bU,bV)=>∃W:Nat,∃an:Nat,∃m:Nat,∃g:Nat,∃ao:Nat,∃aq:List D,t 3=.buf 18 m 1 0 (b).length∧t 6=.buf 6 W 1 0 (bU).length∧t 7=.buf 7 an 1 ao (bV).length∧t 44=.sl false false bS.length (ae aD bS)∧t 45=.int .i64 (bS.length:Int)∧t 46=.int .i64 bs∧H 6=some ⟨W,3,ae (eI .i64) bU,false,true,false⟩∧H 7=some ⟨an,3,aq,false,true,false⟩∧H 18=some ⟨m,22,[.nr 3 1 g (ae (PS (eI .i64)) b)],false,true,true⟩∧g<=4*e∧vr (eI .i64) aq ao bV) (fun o x t H e=>match o with|(ar,au)=>x=.exit 2∧∃J:Nat,∃K:Nat,∃q:Nat,∃i:Nat,∃L:Nat,∃M:List D,t 3=.buf 18 q 1 0 (b).length∧t 6=.buf 6 J 1 0 (ar).length∧t 7=.buf 7 K 1 L (au).length∧H 6=some ⟨J,3,ae (eI .i64) ar,false,true,false⟩∧H 7=some ⟨K,3,M,false,true,false⟩∧H 18=some ⟨q,22,[.nr 3 1 i (ae (PS (eI .i64)) b)],false,true,true⟩∧i<=4*e∧vr (eI .i64) M L au) cm ?_ ?_ ?_
   ·refine⟨e,e+1,p,h,0,(ae (eI .i64) ([])),?_,?_,?_,?_,?_,?_,?_,?_,?_,?_,(vr.self (eI .i64) ([]))⟩;all_goals (first|rfl|omega|(simp only[bj,seval,-Int.reduceToNat,cj]<;>rfl))
   ·rintro⟨bs,bU,bV⟩ t H e ⟨W,an,m,g,ao,aq,bW,av,bX,aw,ay,N,db,cn,bt,dc,a8⟩ c a;simp only[kz]at a;have az:=a8.fit;have aA:=a8.eq;simp only[bT]at az aA;simp only[bj,seval,-Int.reduceToNat,ay,N];apply sp aj a<;>intro _ a
    ·obtain⟨dt,cp,a⟩:=ab a;have aB:=bk aD cp;simp only[bT]at aB;obtain⟨du,bw,a⟩:=ab a;have aC:=bk (eI .i64) bw;simp only[bT]at aC;have cq:=fN (eI .i64) (x':=(-1)) (fo:=0) (cs:=[.int .i64 (-1)]) bw rfl (agG rfl);simp only[bT,Nat.add_zero]at cq;have bx:=cq;simp only[putCells,List.length_cons,List.length_nil,afH]at bx;obtain⟨dv,cr,a⟩:=ab a;simp only[bj,seval,-Int.reduceToNat,av,aw,N,db,aB,aC,bx,cr];apply sp aj a<;>intro _ a
     ·obtain⟨dw,bz,a⟩:=ab a;have ct:=bk (eI .i64) bz;simp only[bT,agW]at ct;have cu:=fN (eI .i64) (x':=0) (fo:=0) (cs:=[.int .i64 0]) bz rfl (agG rfl);simp only[bT,Nat.add_zero]at cu;have bA:=cu;simp only[putCells,List.length_cons,List.length_nil,afH]at bA;obtain⟨cv,cw,a⟩:=ab a;obtain⟨cx,bB,cy,cz⟩:=fY (eI .i64) cw;simp only[bT]at bB;cases a;simp only[bj,seval,-Int.reduceToNat,av,bX,N,cn,az,aA,aB,aC,bA,cx,bB,cy,cz];apply eS;refine⟨W,e+1+1+1+1+1,m,g,0,(ae (eI .i64) cv),?_,?_,?_,?_,?_,?_,?_,?_,?_,?_,(vr.self (eI .i64) cv)⟩;all_goals (first|rfl|omega|(simp only[bj,seval,-Int.reduceToNat,bW,av,aw,ay,bt]<;>rfl))
     ·cases a;simp only[bj,seval,-Int.reduceToNat,N];apply eS;refine⟨W,an,m,g,ao,aq,?_,?_,?_,?_,?_,?_,?_,?_,?_,?_,a8⟩;all_goals (first|rfl|omega|(simp only[bj,seval,-Int.reduceToNat,bW,av,bX,aw,ay,cn,bt]<;>rfl))
    ·cases a;simp only[bj,seval,-Int.reduceToNat];apply gC;refine⟨rfl,⟨W,an,m,g,ao,aq,?_,?_,?_,?_,?_,?_,?_,a8⟩⟩;all_goals (first|rfl|omega|(simp only[bj,seval,-Int.reduceToNat,bW,av,bX]<;>rfl))
   ·rintro x t H e hx;rcases da with⟨ar,au⟩;dsimp only at hx a;obtain⟨rfl,⟨J,K,q,i,L,M,cA,cB,cC,cD,cE,bY,ba,aE⟩⟩:=hx;have u:=aE.fit;have v:=aE.eq;simp only[bT]at u v;simp only[bj,seval,-Int.reduceToNat];obtain⟨dd,cF,a⟩:=ab a;refine ax (fun s t H e=>match s with|(bZ,b1)=>∃aG:Nat,∃b2:Nat,∃O:Nat,∃w:Nat,∃bb:Nat,∃bd:List D,t 3=.buf 18 O 1 0 (b).length∧t 6=.buf 6 aG 1 0 (bZ).length∧t 7=.buf 7 b2 1 bb (b1).length∧H 6=some ⟨aG,3,ae (eI .i64) bZ,false,true,false⟩∧H 7=some ⟨b2,3,bd,false,true,false⟩∧H 18=some ⟨O,22,[.nr 3 1 w (ae (PS (eI .i64)) b)],false,true,true⟩∧w<=4*e∧vr (eI .i64) bd bb b1) (fun o x t H e=>match o with|aH=>x=.exit 4∧∃aI:Nat,t 6=.buf 6 aI 1 0 (aH).length∧H 6=some ⟨aI,3,ae (eI .i64) aH,false,true,false⟩) cF ?_ ?_ ?_
    ·refine⟨J,K,q,i,L,M,?_,?_,?_,?_,?_,?_,?_,aE⟩;all_goals (first|rfl|omega|(simp only[bj,seval,-Int.reduceToNat,a6,a7,Y,br,ah,ai,I,ak,al,cA,cB,cC,cD,cE,bY,ba,u,v]<;>rfl))
    ·rintro⟨bZ,b1⟩ t H e ⟨aG,b2,O,w,bb,bd,cG,cH,cI,cJ,cK,bC,de,bf⟩ c a;simp only[kA]at a;have aJ:=bf.fit;have aK:=bf.eq;simp only[bT]at aJ aK;simp only[bj,seval,-Int.reduceToNat,cI,cK];apply sp aj a<;>intro _ a
     ·obtain⟨cL,bD,a⟩:=ab a;have bE:=KI bD;obtain⟨aL,cM,aM⟩:=bf.idx bD;simp only[bT]at aM aL;obtain⟨dx,bG,a⟩:=ab a;obtain⟨bH,cN,bI,aN,bJ⟩:=XK (eI .i64) bG;simp only[bT]at bJ;have cO:=vr.tail bf bG;obtain⟨cP,cQ,a⟩:=ab a;have B:=bk (PS (eI .i64)) cQ;simp only[bT]at B;simp only[bj,seval,-Int.reduceToNat,cG,cI,cK,bC,bE,aM,aL,bH,bI,B];obtain⟨df,cR,a⟩:=ab a;refine ax (fun s t H e=>match s with|(bL,b3,b4)=>∃X:Nat,∃aO:Nat,∃n:Nat,∃d:Nat,∃aP:Nat,∃aQ:List D,t 3=.buf 18 n 1 0 (b).length∧t 6=.buf 6 X 1 0 (b3).length∧t 7=.buf 7 aO 1 aP (b4).length∧t 10=.int .i64 cL∧t 76=.buf (NK 18 ((cL:Int).toNat*1)) d 1 0 (cP).length∧t 77=.int .i64 ((cP).length:Int)∧t 78=.int .i64 bL∧H 6=some ⟨X,3,ae (eI .i64) b3,false,true,false⟩∧H 7=some ⟨aO,3,aQ,false,true,false⟩∧H 18=some ⟨n,22,[.nr 3 1 d (ae (PS (eI .i64)) b)],false,true,true⟩∧d<=4*e∧vr (eI .i64) aQ aP b4) (fun o x t H e=>match o with|(aR,aS)=>x=.exit 6∧∃P:Nat,∃Q:Nat,∃y:Nat,∃j:Nat,∃R:Nat,∃S:List D,t 3=.buf 18 y 1 0 (b).length∧t 6=.buf 6 P 1 0 (aR).length∧t 7=.buf 7 Q 1 R (aS).length∧H 6=some ⟨P,3,ae (eI .i64) aR,false,true,false⟩∧H 7=some ⟨Q,3,S,false,true,false⟩∧H 18=some ⟨y,22,[.nr 3 1 j (ae (PS (eI .i64)) b)],false,true,true⟩∧j<=4*e∧vr (eI .i64) S R aS) cR ?_ ?_ ?_
      ·refine⟨aG,e+1+1,O,w,(bb+(1:Int).toNat*1),(bd),?_,?_,?_,?_,?_,?_,?_,?_,?_,?_,?_,cO⟩;all_goals (first|rfl|omega|(simp only[bj,seval,-Int.reduceToNat,cG,cH,cJ,bC,aN]<;>rfl))
      ·rintro⟨bL,b3,b4⟩ t H e ⟨X,aO,n,d,aP,aQ,b5,aT,b6,aU,aV,aW,T,cS,dh,bM,di,bh⟩ c a;simp only[kB]at a;have aX:=bh.fit;have aY:=bh.eq;simp only[bT]at aX aY;simp only[bj,seval,-Int.reduceToNat,aW,T];apply sp aj a<;>intro _ a
       ·obtain⟨dy,cT,a⟩:=ab a;have bN:=bk (eI .i64) cT;simp only[bT]at bN;obtain⟨dz,aZ,a⟩:=ab a;have C:=bk (eI .i64) aZ;simp only[bT]at C;simp only[bj,seval,-Int.reduceToNat,B,aT,aV,T,cS,bM,bN,C];apply sp aj a<;>intro _ a
        ·obtain⟨cU,cV,a⟩:=ab a;have bO:=bk (eI .i64) cV;simp only[bT]at bO;have C:=bk (eI .i64) aZ;simp only[bT]at C;have cW:=fN (eI .i64) (x':=IntKind.i64.wrap (cU+1)) (fo:=0) (cs:=[.int .i64 (IntKind.i64.wrap (cU+1))]) aZ rfl (agG rfl);simp only[bT,Nat.add_zero]at cW;have bP:=cW;simp only[putCells,List.length_cons,List.length_nil,afH]at bP;obtain⟨cX,cY,a⟩:=ab a;obtain⟨cZ,bQ,c0,c3⟩:=fY (eI .i64) cY;simp only[bT]at bQ;cases a;simp only[bj,seval,-Int.reduceToNat,B,aT,b6,aU,T,cS,dh,aX,aY,bO,C,bP,cZ,bQ,c0,c3];apply eS;refine⟨X,e+1+1+1+1,n,d,0,(ae (eI .i64) cX),?_,?_,?_,?_,?_,?_,?_,?_,?_,?_,?_,(vr.self (eI .i64) cX)⟩;all_goals (first|rfl|omega|(simp only[bj,seval,-Int.reduceToNat,b5,aT,aU,aV,aW,bM]<;>rfl))
        ·cases a;simp only[bj,seval,-Int.reduceToNat,T];apply eS;refine⟨X,aO,n,d,aP,aQ,?_,?_,?_,?_,?_,?_,?_,?_,?_,?_,?_,bh⟩;all_goals (first|rfl|omega|(simp only[bj,seval,-Int.reduceToNat,b5,aT,b6,aU,aV,aW]<;>rfl))
       ·cases a;simp only[bj,seval,-Int.reduceToNat];apply gC;refine⟨rfl,⟨X,aO,n,d,aP,aQ,?_,?_,?_,?_,?_,?_,?_,bh⟩⟩;all_goals (first|rfl|omega|(simp only[bj,seval,-Int.reduceToNat,b5,aT,b6]<;>rfl))
      ·rintro x t H e hx;rcases df with⟨aR,aS⟩;dsimp only at hx a;obtain⟨rfl,⟨P,Q,y,j,R,S,c4,c5,c6,c7,c8,b7,bl,a1⟩⟩:=hx;have U:=a1.fit;have V:=a1.eq;simp only[bT]at U V;cases a;simp only[bj,seval,-Int.reduceToNat];apply eS;refine⟨P,Q,y,j,R,S,?_,?_,?_,?_,?_,?_,?_,a1⟩;all_goals (first|rfl|omega|(simp only[bj,seval,-Int.reduceToNat,a6,a7,Y,br,ah,ai,I,ak,al,u,v,aJ,aK,bE,aM,aL,bH,cN,bI,bJ,B,aN,aN,c4,c5,c6,c7,c8,b7,bl,U,V]<;>rfl))
     ·cases a;simp only[bj,seval,-Int.reduceToNat];apply gC;refine⟨rfl,⟨aG,?_,?_⟩⟩;all_goals ((simp only[bj,seval,-Int.reduceToNat,cH,cJ]<;>rfl))
    ·rintro x t H e hx;obtain⟨aH,rfl⟩:∃z,z=dd:=⟨_,rfl⟩;dsimp only at hx a;obtain⟨rfl,⟨aI,dj⟩⟩:=hx;cases a;simp only[bj,seval,-Int.reduceToNat,dj]
def iN (l:Option (D×Row)) (d:List D):=di (fl (oL (eI .i64)) (dc (oL (eI .i64)))) (fun x:(List Int)×(List Int)=>e7 x.1 x.2) (fun r:Bool =>.clean (.bool r)) l d
def vc:bK prog 17 iN:=bK.fh (mode := .clean) tok bG.none mixed func17 (by kernel_rfl) (fun _ _=>rfl) (fun _=>by kernel_rfl) fun⟨i,j⟩ r a=>by
 replace a:e7 i j=some r:=a;apply aF rfl ntmps17 results17;simp only[fj];unfold e7 at a;simp only[w,seval];apply sp aj a<;>intro _ a
 ·cases a;simp only[w,seval]
 ·simp only[w,seval];obtain⟨n,k,a⟩:=ab a;refine ax (fun s t H e=>match s with|b=>t 0=.sl false false i.length (ae (eI .i64) i)∧t 1=.sl false false j.length (ae (eI .i64) j)∧t 5=.int .i64 b) (fun o x t H e=>match o with|(.inl _)=>x=.exit 0|(.inr r)=>x=.ret∧eB .clean tab none [.tmp 4] ⟨t,EH H,e⟩=some (.clean (.bool r),none)) k ?_ ?_ ?_
  ·refine⟨?_,?_,?_⟩;all_goals (rfl)
  ·rintro b t H e g c a;simp only[lO]at a;simp only[w,seval,g];apply sp aj a<;>intro _ a
   ·obtain⟨q,l,a⟩:=ab a;have d:=bk (eI .i64) l;simp only[bT]at d;obtain⟨u,m,a⟩:=ab a;have f:=bk (eI .i64) m;simp only[bT]at f;simp only[w,seval,g,d,f];refine bu (by kernel_rfl) ?_;apply sp aj a<;>intro _ a
    ·cases a;simp only[w,seval];refine lk ⟨rfl,?_⟩;simp only[w,seval]
    ·cases a;simp only[w,seval,g];apply eS;and_intros<;>first|rfl|(simp only[w,seval,g]<;>rfl)
   ·cases a;simp only[w,seval];apply gC;exact rfl
  ·rintro x t H e h;rcases n with _|v
   ·dsimp only at h a;subst h;cases a;simp only[w,seval]
   ·dsimp only at h a;obtain⟨rfl,p⟩:=h;cases a;simp only[aP,aV,bS,bV];exact p
def lS (l:Option (D×Row)) (d:List D):=di (fl (bo lr) (dc (aI .i64))) (fun x:cA×Int=>lx x.1 x.2) (fun r:aw =>.clean (.agg [.int .i64 r.bR.ak,.sl false false r.bR.aa.length (ae (eI .i64) r.bR.aa),.int .i64 r.bN.ak,.sl false false r.bN.aa.length (ae (eI .i64) r.bN.aa)])) l d
def Hs {β:Type} {F:cA×Int->Option β} {R:β->RK} (b:Int) (a:(List bD)) (c:Int):di (fl (bo lr) (dc (aI .i64))) F R none [.agg [.int .i64 b,.sl false false a.length (ae bc a)],.int .i64 c]=(F ((cA.mk b a),c)).map fun r=>(R r,none):=cB _ _ _ ((cA.mk b a),c)
def yW:Env:=(Am.ext (Am.ext (Am.ext bl 12 false eE) 27 false ct) 42 false gp)
def Nn:bG prog yW:=(((bG.none.add qe false).add jH false).add uO false)
def rI:=ai @w<|ai @vx<|ai @eE.eq_1<|ai @tH<|ai @ct.eq_1<|ai @gp.eq_1<|@yW.eq_1
def CA:bK prog 15 lS:=bK.fh (mode := .clean) tok Nn mixed func15 (by kernel_rfl) (fun _ _=>rfl) (fun _=>by kernel_rfl) fun⟨g,h⟩ r a=>by
 replace a:lx g h=some r:=a;apply aF rfl ntmps15 results15;simp only[fj];unfold lx at a;obtain⟨i,c,a⟩:=ab a;simp only[rI,seval,c];apply sp aO a<;>intro _ a
 ·cases a;simp only[rI,seval]
 ·obtain⟨j,d,a⟩:=ab a;simp only[rI,seval,d];apply sp aj a<;>intro _ a
  ·cases a;simp only[rI,seval]
  ·obtain⟨k,e,a⟩:=ab a;obtain⟨l,f,a⟩:=ab a;have b:=bk aD f;simp only[bT]at b;cases a;simp only[rI,seval,e,b]
def im (l:Option (D×Row)) (d:List D):=di (dc (bo lr)) (fun x:cA=>ib x) (fun r:(List Int) =>.clean (.sl false false r.length (ae (eI .i64) r))) l d
def sT:Env:=(Am.ext bl 18 false gn)
def EY:bG prog sT:=(bG.none.add uN false)
def eT:=ai @w<|ai @vx<|ai @gn.eq_1<|@sT.eq_1
def wK:bK prog 20 im:=bK.fh (mode := .clean) tok EY mixed func20 (by kernel_rfl) (fun _ _=>rfl) (fun _=>by kernel_rfl) fun B r a=>by
 replace a:ib B=some r:=a;apply aF rfl ntmps20 results20;simp only[fj];unfold ib at a;obtain⟨q,u,a⟩:=ab a;simp only[eT,seval,u];obtain⟨C,v,a⟩:=ab a;refine ax (fun s t H e=>match s with|(j,h)=>∃b:Nat,t 3=.buf 3 b 1 0 (h).length∧t 7=.sl false false q.length (ae (eI .i64) q)∧t 8=.int .i64 (q.length:Int)∧t 9=.int .i64 j∧H 3=some ⟨b,3,ae (eI .i64) h,false,true,false⟩) (fun o x t H e=>match o with|d=>x=.exit 0∧∃f:Nat,t 3=.buf 3 f 1 0 (d).length∧H 3=some ⟨f,3,ae (eI .i64) d,false,true,false⟩) v ?_ ?_ ?_
 ·refine⟨1,?_,?_,?_,?_,?_⟩;all_goals (rfl)
 ·rintro⟨j,h⟩ t H e ⟨b,i⟩ c a;simp only[gN]at a;simp only[eT,seval,i];apply sp aj a<;>intro _ a
  ·obtain⟨E,w,a⟩:=ab a;have k:=bk (eI .i64) w;simp only[bT]at k;simp only[eT,seval,i,k];apply sp aj a<;>intro _ a
   ·obtain⟨D,l,a⟩:=ab a;obtain⟨m,g,n,p⟩:=fY (eI .i64) l;simp only[bT]at g;cases a;simp only[eT,seval,i,m,g,n,p];apply eS;refine⟨e+1+1+1,?_⟩;and_intros<;>first|rfl|(simp only[eT,seval,i]<;>rfl)
   ·cases a;simp only[eT,seval,i];apply eS;refine⟨b,?_⟩;and_intros<;>first|rfl|(simp only[eT,seval,i]<;>rfl)
  ·cases a;simp only[eT,seval];apply gC;refine⟨rfl,⟨b,?_,?_⟩⟩;all_goals ((simp only[eT,seval,i]<;>rfl))
 ·rintro x t H e A;obtain⟨d,rfl⟩:∃z,z=C:=⟨_,rfl⟩;dsimp only at A a;obtain⟨rfl,⟨f,y⟩⟩:=A;cases a;simp only[eT,seval,y]
def tU (l:Option (D×Row)) (d:List D):=di (as0) (fun x:Unit=>wF) (fun r:Bool =>.clean (.bool r)) l d
def Rn (c:Int) (a:(List bD)) (d:Int) (b:(List bD)):nK none [.agg [.int .i64 c,.sl false false a.length (ae bc a)],.agg [.int .i64 d,.sl false false b.length (ae bc b)]]=(nc (cA.mk c a) (cA.mk d b)).map fun r:Bool=>(.clean (.bool r),none):=cB _ _ _ ((cA.mk c a),(cA.mk d b))
def rA (a:(List Int)) (b:(List Int)):iN none [.sl false false a.length (ae (eI .i64) a),.sl false false b.length (ae (eI .i64) b)]=(e7 a b).map fun r:Bool=>(.clean (.bool r),none):=cB _ _ _ (a,b)
def yV:Env:=(Am.ext (Am.ext (Am.ext (Am.ext (Am.ext (Am.ext (Am.ext (Am.ext (Am.ext (Am.ext (Am.ext (Am.ext bl 7 false gm) 9 false qG) 11 false nK) 12 false eE) 14 false iy) 15 false lS) 17 false iN) 18 false gn) 20 false im) 22 false ov) 23 false tT) 24 false cF)
def Nl:bG prog yV:=((((((((((((bG.none.add uM false).add Jf false).add CD false).add qe false).add wO false).add CA false).add vc false).add uN false).add wK false).add FR false).add Ov false).add j9 false)
def cL:=ai @w<|ai @Pc<|ai @gm.eq_1<|ai @qG.eq_1<|ai @vx<|ai @eE.eq_1<|ai @lz<|ai @iy.eq_1<|ai @Hs<|ai @lS.eq_1<|ai @gn.eq_1<|ai @im.eq_1<|ai @acO<|ai @ov.eq_1<|ai @sh8<|ai @tT.eq_1<|ai @zA<|ai @cF.eq_1<|@yV.eq_1
def Ow:bK prog 4 tU:=bK.fh (mode := .clean) tok Nl mixed func4 (by kernel_rfl) (fun _ _=>rfl) (fun _=>by kernel_rfl) fun _ r a=>by
 replace a:wF=some r:=a;apply aF rfl ntmps4 results4;simp only[fj];unfold wF at a;obtain⟨I,c,a⟩:=ab a;obtain⟨T,w,a⟩:=ab a;obtain⟨J,x,a⟩:=ab a;simp only[cL,seval,c,w,x];obtain⟨K,y,a⟩:=ab a;refine bq 0 (fun s t H e=>match s with|b=>t 41=.bool b) (fun s=>s=K) ?_ ?_
 ·rintro b t H e z rfl;try dsimp only at a
  simp only[cL,seval,z];apply sp aj a<;>intro _ a
  ·cases a;simp only[cL,seval]
  ·obtain⟨U,A,a⟩:=ab a;obtain⟨V,B,a⟩:=ab a;obtain⟨W,C,a⟩:=ab a;obtain⟨X,D,a⟩:=ab a;obtain⟨L,d,a⟩:=ab a;simp only[cL,seval,c,A,B,C,D,d];apply sp dH a<;>intro _ a
   ·obtain⟨E,f,a⟩:=ab a;have g:=rA E ([(-1),(-1)]);simp only[bP,bT,List.length_cons,afH,Nat.reduceAdd]at g;obtain⟨M,h,a⟩:=ab a;simp only[cL,seval,f,g,h];apply sp dH a<;>intro _ a
    ·obtain⟨F,i,a⟩:=ab a;have j:=rA F ([0,1]);simp only[bP,bT,List.length_cons,afH,Nat.reduceAdd]at j;obtain⟨N,k,a⟩:=ab a;simp only[cL,seval,i,j,k];apply sp dH a<;>intro _ a
     ·simp only[cL,seval];apply sp dH a<;>intro _ a
      ·simp only[cL,seval];apply sp dH a<;>intro _ a
       ·obtain⟨O,l,a⟩:=ab a;cases a;simp only[cL,seval,l]
       ·cases a;simp only[cL,seval]
      ·cases a;simp only[cL,seval]
     ·cases a;simp only[cL,seval]
    ·cases a;simp only[cL,seval]
   ·cases a;simp only[cL,seval]
 ·clear a;have a:=y;simp only[cL,seval];apply sp aO a<;>intro _ a
  ·cases a;simp only[cL,seval];rw[au];refine⟨_,rfl,?_⟩;refine ?_;all_goals (rfl)
  ·have m:=Rn J.1.aq J.1.az 2 ([(bD.mk 0 1 I),(bD.mk 1 0 I)]);simp only[bP,bT,List.length_cons,afH,Nat.reduceAdd]at m;obtain⟨P,n,a⟩:=ab a;simp only[cL,seval,m,n];apply sp aO a<;>intro _ a
   ·cases a;simp only[cL,seval];rw[au];refine⟨_,rfl,?_⟩;refine ?_;all_goals (rfl)
   ·obtain⟨G,o,a⟩:=ab a;have p:=rA G ([0,0]);simp only[bP,bT,List.length_cons,afH,Nat.reduceAdd]at p;obtain⟨Q,q,a⟩:=ab a;simp only[cL,seval,o,p,q];apply sp aO a<;>intro _ a
    ·cases a;simp only[cL,seval];rw[au];refine⟨_,rfl,?_⟩;refine ?_;all_goals (rfl)
    ·obtain⟨R,u,a⟩:=ab a;obtain⟨S,v,a⟩:=ab a;cases a;simp only[cL,seval,c,u,v];rw[au];refine⟨_,rfl,?_⟩;refine ?_;all_goals (rfl)
def nI (l:Option (D×Row)) (d:List D):=di (fl (bo aD) (dc (aI .i64))) (fun x:aw×Int=>uV x.1 x.2) (fun r:Bool =>.clean (.bool r)) l d
def Zn {β:Type} {F:aw×Int->Option β} {R:β->RK} (c:Int) (a:(List Int)) (d:Int) (b:(List Int)) (e:Int):di (fl (bo aD) (dc (aI .i64))) F R none [.agg [.int .i64 c,.sl false false a.length (ae (eI .i64) a),.int .i64 d,.sl false false b.length (ae (eI .i64) b)],.int .i64 e]=(F ((aw.mk (aG.mk c a) (aG.mk d b)),e)).map fun r=>(R r,none):=cB _ _ _ ((aw.mk (aG.mk c a) (aG.mk d b)),e)
def F0:bK prog 26 nI:=bK.fh (mode := .clean) tok bG.none mixed func26 (by kernel_rfl) (fun _ _=>rfl) (fun _=>by kernel_rfl) fun⟨b,c⟩ r a=>by
 replace a:uV b c=some r:=a;apply aF rfl ntmps26 results26;simp only[fj];unfold uV at a;simp only[w,seval];apply sp dH a<;>intro _ a
 ·cases a;simp only[w,seval]
 ·cases a;simp only[w,seval]
def oB (l:Option (D×Row)) (d:List D):=di (dc (bo qO)) (fun x:cJ=>ke x) (fun r:Bool =>.clean (.bool r)) l d
def sX:Env:=(Am.ext bl 26 false nI)
def E3:bG prog sX:=(bG.none.add F0 false)
def bm:=ai @w<|ai @Zn<|ai @nI.eq_1<|@sX.eq_1
def F3:bK prog 25 oB:=bK.fh (mode := .clean) tok E3 mixed func25 (by kernel_rfl) (fun _ _=>rfl) (fun _=>by kernel_rfl) fun d r a=>by
 replace a:ke d=some r:=a;apply aF rfl ntmps25 results25;simp only[fj];unfold ke at a;simp only[bm,seval];obtain⟨G,C,a⟩:=ab a;refine bq 0 (fun s t H e=>match s with|h=>∃f:Nat,t 1=.ptr 1 f 0∧t 20=.bool h∧H 1=some ⟨f,57,[.sl false false d.ah.length (ae aR d.ah),.sl false false d.aB.length (ae b8 d.aB),.sl false false d.av.length (ae (hZ aD) d.av)],false,false,false⟩) (fun s=>s=G) ?_ ?_
 ·rintro h t H e ⟨f,p⟩ rfl;try dsimp only at a
  simp only[bm,seval,p];apply sp aj a<;>intro _ a
  ·cases a;simp only[bm,seval]
  ·simp only[bm,seval];obtain⟨D,q,a⟩:=ab a;refine ax (fun s t H e=>match s with|k=>∃l:Nat,t 1=.ptr 1 l 0∧t 3=.int .i64 k∧H 1=some ⟨l,57,[.sl false false d.ah.length (ae aR d.ah),.sl false false d.aB.length (ae b8 d.aB),.sl false false d.av.length (ae (hZ aD) d.av)],false,false,false⟩) (fun o x t H e=>match o with|(.inl _)=>x=.exit 0|(.inr r)=>x=.ret∧eB .clean tab none [.tmp 2] ⟨t,EH H,e⟩=some (.clean (.bool r),none)) q ?_ ?_ ?_
   ·refine⟨f,?_⟩;and_intros<;>first|rfl|(simp only[bm,seval,p]<;>rfl)
   ·rintro k t H e ⟨l,E⟩ c a;simp only[mW]at a;simp only[bm,seval,E];apply sp aj a<;>intro _ a
    ·obtain⟨I,i,a⟩:=ab a;have b:=bk (hZ aD) i;simp only[bT]at b;simp only[bm,seval,E,b];apply sp aj a<;>intro _ a
     ·cases a;simp only[bm,seval];refine lk ⟨rfl,?_⟩;simp only[bm,seval]
     ·simp only[bm,seval];obtain⟨F,u,a⟩:=ab a;refine ax (fun s t H e=>match s with|v=>∃j:Nat,t 1=.ptr 1 j 0∧t 3=.int .i64 k∧t 4=.int .i64 v∧H 1=some ⟨j,57,[.sl false false d.ah.length (ae aR d.ah),.sl false false d.aB.length (ae b8 d.aB),.sl false false d.av.length (ae (hZ aD) d.av)],false,false,false⟩) (fun o x t H e=>match o with|(.inl _)=>x=.exit 2∧∃g:Nat,t 1=.ptr 1 g 0∧t 3=.int .i64 k∧H 1=some ⟨g,57,[.sl false false d.ah.length (ae aR d.ah),.sl false false d.aB.length (ae b8 d.aB),.sl false false d.av.length (ae (hZ aD) d.av)],false,false,false⟩|(.inr r)=>x=.ret∧eB .clean tab none [.tmp 2] ⟨t,EH H,e⟩=some (.clean (.bool r),none)) u ?_ ?_ ?_
      ·refine⟨l,?_⟩;and_intros<;>first|rfl|(simp only[bm,seval,E]<;>rfl)
      ·rintro v t H e ⟨j,w⟩ c a;simp only[eo]at a;have b:=bk (hZ aD) i;simp only[bT]at b;simp only[bm,seval,w,b];apply sp aj a<;>intro _ a
       ·have b:=bk (hZ aD) i;simp only[bT]at b;obtain⟨J,y,a⟩:=ab a;have n:=bk aD y;simp only[bT]at n;obtain⟨K,z,a⟩:=ab a;simp only[bm,seval,w,b,n,z];apply sp aj a<;>intro _ a
        ·cases a;simp only[bm,seval];refine lk ⟨rfl,?_⟩;simp only[bm,seval]
        ·cases a;simp only[bm,seval,w];apply eS;refine⟨j,?_⟩;and_intros<;>first|rfl|(simp only[bm,seval,w]<;>rfl)
       ·cases a;simp only[bm,seval];apply gC;refine⟨rfl,⟨j,?_,?_,?_⟩⟩;all_goals ((simp only[bm,seval,w]<;>rfl))
      ·rintro x t H e m;rcases F with _|rd
       ·dsimp only at m a;obtain⟨rfl,⟨g,A⟩⟩:=m;cases a;simp only[bm,seval,A];apply eS;refine⟨g,?_⟩;and_intros<;>first|rfl|(simp only[bm,seval,A]<;>rfl)
       ·dsimp only at m a;obtain⟨rfl,B⟩:=m;cases a;simp only[aP,aV,bS];apply lk;first|exact⟨rfl,B⟩|(simp only[bm,seval]at B;exact⟨rfl,B⟩)
    ·cases a;simp only[bm,seval];apply gC;exact rfl
   ·rintro x t H e m;rcases D with _|L
    ·dsimp only at m a;subst m;cases a;simp only[bm,seval]
    ·dsimp only at m a;obtain⟨rfl,B⟩:=m;cases a;simp only[aP,aV,bS,bV];exact B
 ·clear a;have a:=C;simp only[bm,seval];apply sp aO a<;>intro _ a
  ·cases a;simp only[bm,seval];rw[au];refine⟨_,rfl,?_⟩;refine⟨0,?_,?_,?_⟩;all_goals (rfl)
  ·simp only[bm,seval];apply sp aO a<;>intro _ a
   ·cases a;simp only[bm,seval];rw[au];refine⟨_,rfl,?_⟩;refine⟨0,?_,?_,?_⟩;all_goals (rfl)
   ·cases a;simp only[bm,seval];rw[au];refine⟨_,rfl,?_⟩;refine⟨0,?_,?_,?_⟩;all_goals (rfl)
def xj (l:Option (D×Row)) (d:List D):=di (dc (bo jk)) (fun x:bg=>xL x) (fun r:Bool =>.clean (.bool r)) l d
def Bl:Env:=(Am.ext bl 25 false oB)
def QU:bG prog Bl:=(bG.none.add F3 false)
def dm:=ai @w<|ai @UW<|ai @oB.eq_1<|@Bl.eq_1
def Rg:bK prog 5 xj:=bK.fh (mode := .clean) tok QU mixed func5 (by kernel_rfl) (fun _ _=>rfl) (fun _=>by kernel_rfl) fun h r a=>by
 replace a:xL h=some r:=a;apply aF rfl ntmps5 results5;simp only[fj];unfold xL at a;simp only[dm,seval];obtain⟨u,p,a⟩:=ab a;refine bq 0 (fun s t H e=>match s with|f=>∃d:Nat,t 1=.ptr 1 d 0∧t 13=.bool f∧H 1=some ⟨d,25,[.sl false false h.al.length (ae (eI .i64) h.al),.sl false false h.ao.length (ae bx h.ao)],false,false,false⟩) (fun s=>s=u) ?_ ?_
 ·rintro f t H e ⟨d,k⟩ rfl;try dsimp only at a
  simp only[dm,seval,k];apply sp aj a<;>intro _ a
  ·cases a;simp only[dm,seval]
  ·simp only[dm,seval];obtain⟨v,q,a⟩:=ab a;refine ax (fun s t H e=>match s with|l=>∃i:Nat,t 1=.ptr 1 i 0∧t 3=.int .i64 l∧H 1=some ⟨i,25,[.sl false false h.al.length (ae (eI .i64) h.al),.sl false false h.ao.length (ae bx h.ao)],false,false,false⟩) (fun o x t H e=>match o with|(.inl _)=>x=.exit 0|(.inr r)=>x=.ret∧eB .clean tab none [.tmp 2] ⟨t,EH H,e⟩=some (.clean (.bool r),none)) q ?_ ?_ ?_
   ·refine⟨d,?_⟩;and_intros<;>first|rfl|(simp only[dm,seval,k]<;>rfl)
   ·rintro l t H e ⟨i,j⟩ c a;simp only[uX]at a;simp only[dm,seval,j];apply sp aj a<;>intro _ a
    ·obtain⟨w,g,a⟩:=ab a;have b:=bk bx g;simp only[bT]at b;obtain⟨y,m,a⟩:=ab a;simp only[dm,seval,j,b,m];apply sp aO a<;>intro _ a
     ·cases a;simp only[dm,seval];refine lk ⟨rfl,?_⟩;simp only[dm,seval]
     ·have b:=bk bx g;simp only[bT]at b;simp only[dm,seval,j,b];apply sp aO a<;>intro _ a
      ·cases a;simp only[dm,seval];refine lk ⟨rfl,?_⟩;simp only[dm,seval]
      ·have b:=bk bx g;simp only[bT]at b;simp only[dm,seval,j,b];apply sp aj a<;>intro _ a
       ·cases a;simp only[dm,seval];refine lk ⟨rfl,?_⟩;simp only[dm,seval]
       ·cases a;simp only[dm,seval,j];apply eS;refine⟨i,?_⟩;and_intros<;>first|rfl|(simp only[dm,seval,j]<;>rfl)
    ·cases a;simp only[dm,seval];apply gC;exact rfl
   ·rintro x t H e n;rcases v with _|A
    ·dsimp only at n a;subst n;cases a;simp only[dm,seval]
    ·dsimp only at n a;obtain⟨rfl,z⟩:=n;cases a;simp only[aP,aV,bS,bV];exact z
 ·clear a;have a:=p;simp only[dm,seval];apply sp aO a<;>intro _ a
  ·cases a;simp only[dm,seval];rw[au];refine⟨_,rfl,?_⟩;refine⟨0,?_,?_,?_⟩;all_goals (rfl)
  ·cases a;simp only[dm,seval];rw[au];refine⟨_,rfl,?_⟩;refine⟨0,?_,?_,?_⟩;all_goals (rfl)
def pR (l:Option (D×Row)) (d:List D):=di (dc (bo lr)) (fun x:cA=>n5 x) (fun r:Bool =>.clean (.bool r)) l d
def uI:Env:=(Am.ext bl 26 false nI)
def Hg:bG prog uI:=(bG.none.add F0 false)
def ch:=ai @w<|ai @Zn<|ai @nI.eq_1<|@uI.eq_1
def Hn:bK prog 6 pR:=bK.fh (mode := .clean) tok Hg mixed func6 (by kernel_rfl) (fun _ _=>rfl) (fun _=>by kernel_rfl) fun i r a=>by
 replace a:n5 i=some r:=a;apply aF rfl ntmps6 results6;simp only[fj];unfold n5 at a;simp only[ch,seval];obtain⟨w,u,a⟩:=ab a;refine ax (fun s t H e=>match s with|l=>∃d:Nat,t 1=.ptr 1 d 0∧t 3=.int .i64 l∧H 1=some ⟨d,28,[.int .i64 i.aq,.sl false false i.az.length (ae bc i.az)],false,false,false⟩) (fun o x t H e=>match o with|(.inl _)=>x=.exit 0∧∃f:Nat,t 1=.ptr 1 f 0∧H 1=some ⟨f,28,[.int .i64 i.aq,.sl false false i.az.length (ae bc i.az)],false,false,false⟩|(.inr r)=>x=.ret∧eB .clean tab none [.tmp 2] ⟨t,EH H,e⟩=some (.clean (.bool r),none)) u ?_ ?_ ?_
 ·refine⟨0,?_,?_,?_⟩;all_goals (rfl)
 ·rintro l t H e ⟨d,p⟩ c a;simp only[oH]at a;simp only[ch,seval,p];obtain⟨y,v,a⟩:=ab a;refine bq 0 (fun s t H e=>match s with|g=>∃b:Nat,t 1=.ptr 1 b 0∧t 3=.int .i64 l∧t 12=.bool g∧H 1=some ⟨b,28,[.int .i64 i.aq,.sl false false i.az.length (ae bc i.az)],false,false,false⟩) (fun s=>s=y) ?_ ?_
  ·rintro g t H e ⟨b,h⟩ rfl;try dsimp only at a
   simp only[ch,seval,h];apply sp aj a<;>intro _ a
   ·obtain⟨z,m,a⟩:=ab a;have k:=bk bc m;simp only[bT]at k;obtain⟨A,n,a⟩:=ab a;simp only[ch,seval,h,k,n];apply sp aj a<;>intro _ a
    ·cases a;simp only[ch,seval];refine lk ⟨rfl,?_⟩;simp only[ch,seval]
    ·cases a;simp only[ch,seval,h];apply eS;refine⟨b,?_⟩;and_intros<;>first|rfl|(simp only[ch,seval,h]<;>rfl)
   ·cases a;simp only[ch,seval];apply gC;refine⟨rfl,⟨b,?_,?_⟩⟩;all_goals ((simp only[ch,seval,h]<;>rfl))
  ·clear a;have a:=v;simp only[ch,seval];apply sp dH a<;>intro _ a
   ·cases a;simp only[ch,seval,p];rw[au];refine⟨_,rfl,?_⟩;refine⟨d,?_⟩;and_intros<;>first|rfl|(simp only[ch,seval,p]<;>rfl)
   ·cases a;simp only[ch,seval];rw[au];refine⟨_,rfl,?_⟩;refine⟨d,?_⟩;and_intros<;>first|rfl|(simp only[ch,seval,p]<;>rfl)
 ·rintro x t H e q;rcases w with _|C
  ·dsimp only at q a;obtain⟨rfl,⟨f,j⟩⟩:=q;simp only[ch,seval,j];apply sp aO a<;>intro _ a
   ·cases a;simp only[ch,seval,j]
   ·simp only[ch,seval,j];apply sp dH a<;>intro _ a
    ·cases a;simp only[ch,seval,j]
    ·cases a;simp only[ch,seval]
  ·dsimp only at q a;obtain⟨rfl,B⟩:=q;cases a;simp only[aP,aV,bS,bV];exact B
def iO (l:Option (D×Row)) (d:List D):=di (fl (aI .i64) (fl (aI .i64) (dc (aI .i64)))) (fun x:Int×Int×Int=>nf x.1 x.2.1 x.2.2) (fun r:Bool =>.clean (.bool r)) l d
def xG:bK prog 29 iO:=bK.fh (mode := .clean) tok bG.none mixed func29 (by kernel_rfl) (fun _ _=>rfl) (fun _=>by kernel_rfl) fun⟨b,c,d⟩ r a=>by
 replace a:nf b c d=some r:=a;apply aF rfl ntmps29 results29;simp only[fj];unfold nf at a;simp only[w,seval];apply sp dH a<;>intro _ a
 ·cases a;simp only[w,seval]
 ·cases a;simp only[w,seval]
def fe (l:Option (D×Row)) (d:List D):=di (dc (bo aD)) (fun x:aw=>jA x) (fun r:Int =>.clean (.int .i64 r)) l d
def y6:Env:=(Am.ext bl 44 false cm)
def Nu:bG prog y6:=(bG.none.add jo false)
def zy:=ai @w<|ai @s7<|ai @cm.eq_1<|@y6.eq_1
def si:bK prog 38 fe:=bK.fh (mode := .clean) tok Nu mixed func38 (by kernel_rfl) (fun _ _=>rfl) (fun _=>by kernel_rfl) fun c r a=>by
 replace a:jA c=some r:=a;apply aF rfl ntmps38 results38;simp only[fj];unfold jA at a;obtain⟨d,b,a⟩:=ab a;simp only[zy,seval,b];apply sp aj a<;>intro _ a
 ·cases a;simp only[zy,seval]
 ·cases a;simp only[zy,seval]
def iw (l:Option (D×Row)) (d:List D):=di (fl (bo aD) (dc (bo aD))) (fun x:aw×aw=>kc x.1 x.2) (fun r:Int =>.clean (.int .i64 r)) l d
def sW:Env:=(Am.ext (Am.ext (Am.ext bl 44 false cm) 75 false ir) 77 false gA)
def E2:bG prog sW:=(((bG.none.add jo false).add wL false).add uP false)
def iG:=ai @w<|ai @s7<|ai @cm.eq_1<|ai @xS<|ai @ir.eq_1<|ai @gA.eq_1<|@sW.eq_1
def wN:bK prog 120 iw:=bK.fh (mode := .clean) tok E2 mixed func120 (by kernel_rfl) (fun _ _=>rfl) (fun _=>by kernel_rfl) fun⟨f,g⟩ r a=>by
 replace a:kc f g=some r:=a;apply aF rfl ntmps120 results120;simp only[fj];unfold kc at a;obtain⟨p,i,a⟩:=ab a;simp only[iG,seval,i];obtain⟨o,j,a⟩:=ab a;refine bq 0 (fun s t H e=>match s with|b=>∃c:Nat,∃d:Nat,t 2=.ptr 2 c 0∧t 3=.ptr 3 d 0∧t 16=.bool b∧H 2=some ⟨c,42,[.int .i64 f.bR.ak,.sl false false f.bR.aa.length (ae (eI .i64) f.bR.aa),.int .i64 f.bN.ak,.sl false false f.bN.aa.length (ae (eI .i64) f.bN.aa)],false,false,false⟩∧H 3=some ⟨d,42,[.int .i64 g.bR.ak,.sl false false g.bR.aa.length (ae (eI .i64) g.bR.aa),.int .i64 g.bN.ak,.sl false false g.bN.aa.length (ae (eI .i64) g.bN.aa)],false,false,false⟩) (fun s=>s=o) ?_ ?_
 ·rintro b t H e ⟨c,d,h⟩ rfl;try dsimp only at a
  simp only[iG,seval,h];apply sp aj a<;>intro _ a
  ·cases a;simp only[iG,seval]
  ·obtain⟨q,k,a⟩:=ab a;obtain⟨u,l,a⟩:=ab a;obtain⟨v,m,a⟩:=ab a;cases a;simp only[iG,seval,h,k,l,m]
 ·clear a;have a:=j;simp only[iG,seval];apply sp aO a<;>intro _ a
  ·cases a;simp only[iG,seval];rw[au];refine⟨_,rfl,?_⟩;refine⟨0,0,?_,?_,?_,?_,?_⟩;all_goals (rfl)
  ·obtain⟨w,n,a⟩:=ab a;cases a;simp only[iG,seval,n];rw[au];refine⟨_,rfl,?_⟩;refine⟨0,0,?_,?_,?_,?_,?_⟩;all_goals (rfl)
def rT (l:Option (D×Row)) (d:List D):=di (dc (bo aD)) (fun x:aw=>qA x) (fun r:Bool =>.clean (.bool r)) l d
def wA:Env:=(Am.ext (Am.ext (Am.ext (Am.ext bl 24 false cF) 38 false fe) 44 false cm) 120 false iw)
def KH:bG prog wA:=((((bG.none.add j9 false).add si false).add jo false).add wN false)
def pz:=ai @w<|ai @zA<|ai @cF.eq_1<|ai @s7<|ai @fe.eq_1<|ai @cm.eq_1<|ai @lz<|ai @iw.eq_1<|@wA.eq_1
def KY:bK prog 85 rT:=bK.fh (mode := .clean) tok KH mixed func85 (by kernel_rfl) (fun _ _=>rfl) (fun _=>by kernel_rfl) fun f r a=>by
 replace a:qA f=some r:=a;apply aF rfl ntmps85 results85;simp only[fj];unfold qA at a;obtain⟨g,b,a⟩:=ab a;simp only[pz,seval,b];apply sp xV a<;>intro _ a
 ·obtain⟨h,c,a⟩:=ab a;simp only[pz,seval,c];apply sp xV a<;>intro _ a
  ·obtain⟨i,d,a⟩:=ab a;obtain⟨j,e,a⟩:=ab a;simp only[pz,seval,d,e];refine bu (by kernel_rfl) ?_;cases a;simp only[seval]
  ·simp only[pz,seval];refine bu (by kernel_rfl) ?_;cases a;simp only[seval]
 ·simp only[pz,seval];refine bu (by kernel_rfl) ?_;cases a;simp only[seval]
def xh (l:Option (D×Row)) (d:List D):=di (fl (bo aD) (dc (bo aD))) (fun x:aw×aw=>xJ x.1 x.2) (fun r:aw×Int =>.clean (.tup [.agg [.int .i64 r.1.bR.ak,.sl false false r.1.bR.aa.length (ae (eI .i64) r.1.bR.aa),.int .i64 r.1.bN.ak,.sl false false r.1.bN.aa.length (ae (eI .i64) r.1.bN.aa)],.int .i64 r.2])) l d
def Bg:Env:=(Am.ext (Am.ext (Am.ext (Am.ext bl 44 false cm) 77 false gA) 79 false gB) 102 false nE)
def QP:bG prog Bg:=((((bG.none.add jo false).add uP false).add uR false).add FX false)
def oh:=ai @w<|ai @s7<|ai @cm.eq_1<|ai @xS<|ai @gA.eq_1<|ai @gB.eq_1<|ai @nE.eq_1<|@Bg.eq_1
def Re:bK prog 65 xh:=bK.fh (mode := .clean) tok QP mixed func65 (by kernel_rfl) (fun _ _=>rfl) (fun _=>by kernel_rfl) fun⟨g,h⟩ r a=>by
 replace a:xJ g h=some r:=a;apply aF rfl ntmps65 results65;simp only[fj];unfold xJ at a;obtain⟨w,k,a⟩:=ab a;simp only[oh,seval,k];obtain⟨u,l,a⟩:=ab a;refine bq 0 (fun s t H e=>match s with|b=>∃c:Nat,∃d:Nat,∃f:Nat,t 2=.ptr 2 c 0∧t 3=.ptr 3 d 0∧t 4=.ptr 4 f 0∧t 21=.bool b∧H 2=some ⟨c,42,[.int .i64 g.bR.ak,.sl false false g.bR.aa.length (ae (eI .i64) g.bR.aa),.int .i64 g.bN.ak,.sl false false g.bN.aa.length (ae (eI .i64) g.bN.aa)],false,false,false⟩∧H 3=some ⟨d,42,[.int .i64 h.bR.ak,.sl false false h.bR.aa.length (ae (eI .i64) h.bR.aa),.int .i64 h.bN.ak,.sl false false h.bN.aa.length (ae (eI .i64) h.bN.aa)],false,false,false⟩∧H 4=some ⟨f,42,[.int .i64 0,.sl true true 0 [],.int .i64 0,.sl true true 0 []],false,false,false⟩) (fun s=>s=u) ?_ ?_
 ·rintro b t H e ⟨c,d,f,i⟩ rfl;try dsimp only at a
  simp only[oh,seval,i];apply sp aj a<;>intro _ a
  ·cases a;simp only[oh,seval,i]
  ·obtain⟨x,m,a⟩:=ab a;obtain⟨y,n,a⟩:=ab a;obtain⟨z,o,a⟩:=ab a;obtain⟨A,p,a⟩:=ab a;obtain⟨B,q,a⟩:=ab a;cases a;simp only[oh,seval,i,m,n,o,p,q]
 ·clear a;have a:=l;simp only[oh,seval];apply sp aO a<;>intro _ a
  ·cases a;simp only[oh,seval];rw[au];refine⟨_,rfl,?_⟩;refine⟨0,0,0,?_,?_,?_,?_,?_,?_,?_⟩;all_goals (rfl)
  ·obtain⟨v,j,a⟩:=ab a;cases a;simp only[oh,seval,j];rw[au];refine⟨_,rfl,?_⟩;refine⟨0,0,0,?_,?_,?_,?_,?_,?_,?_⟩;all_goals (rfl)
def jD (l:Option (D×Row)) (d:List D):=di (fl (bo aD) (dc (bo aD))) (fun x:aw×aw=>nd x.1 x.2) (fun r:aw =>.clean (.agg [.int .i64 r.bR.ak,.sl false false r.bR.aa.length (ae (eI .i64) r.bR.aa),.int .i64 r.bN.ak,.sl false false r.bN.aa.length (ae (eI .i64) r.bN.aa)])) l d
def Bm:Env:=(Am.ext bl 65 false xh)
def QV:bG prog Bm:=(bG.none.add Re false)
def Vo:=ai @w<|ai @lz<|ai @xh.eq_1<|@Bm.eq_1
def zh:bK prog 36 jD:=bK.fh (mode := .clean) tok QV mixed func36 (by kernel_rfl) (fun _ _=>rfl) (fun _=>by kernel_rfl) fun⟨c,d⟩ r a=>by
 replace a:nd c d=some r:=a;apply aF rfl ntmps36 results36;simp only[fj];unfold nd at a;obtain⟨e,b,a⟩:=ab a;cases a;simp only[Vo,seval,b]
def xk (l:Option (D×Row)) (d:List D):=di (dc (bo aD)) (fun x:aw=>xM x) (fun r:Bool =>.clean (.bool r)) l d
def Bn:Env:=(Am.ext (Am.ext bl 24 false cF) 120 false iw)
def QW:bG prog Bn:=((bG.none.add j9 false).add wN false)
def Vp:=ai @w<|ai @zA<|ai @cF.eq_1<|ai @lz<|ai @iw.eq_1<|@Bn.eq_1
def Rh:bK prog 86 xk:=bK.fh (mode := .clean) tok QW mixed func86 (by kernel_rfl) (fun _ _=>rfl) (fun _=>by kernel_rfl) fun d r a=>by
 replace a:xM d=some r:=a;apply aF rfl ntmps86 results86;simp only[fj];unfold xM at a;obtain⟨e,b,a⟩:=ab a;obtain⟨f,c,a⟩:=ab a;simp only[Vp,seval,b,c];refine bu (by kernel_rfl) ?_;cases a;simp only[seval]
def lE (l:Option (D×Row)) (d:List D):=di (dc (bo qO)) (fun x:cJ=>jI x) (fun r:Bool =>.clean (.bool r)) l d
def pE:Env:=(Am.ext (Am.ext (Am.ext (Am.ext bl 24 false cF) 36 false jD) 85 false rT) 86 false xk)
def Br:bG prog pE:=((((bG.none.add j9 false).add zh false).add KY false).add Rh false)
def ay:=ai @w<|ai @zA<|ai @cF.eq_1<|ai @lz<|ai @jD.eq_1<|ai @s7<|ai @rT.eq_1<|ai @xk.eq_1<|@pE.eq_1
def BC:bK prog 55 lE:=bK.fh (mode := .clean) tok Br mixed func55 (by kernel_rfl) (fun _ _=>rfl) (fun _=>by kernel_rfl) fun b r a=>by
 replace a:jI b=some r:=a;apply aF rfl ntmps55 results55;simp only[fj];unfold jI at a;simp only[ay,seval];obtain⟨o1,ai,a⟩:=ab a;refine bq 0 (fun s t H e=>match s with|y=>∃n:Nat,t 1=.ptr 1 n 0∧t 26=.bool y∧H 1=some ⟨n,57,[.sl false false b.ah.length (ae aR b.ah),.sl false false b.aB.length (ae b8 b.aB),.sl false false b.av.length (ae (hZ aD) b.av)],false,false,false⟩) (fun s=>s=o1) ?_ ?_
 ·rintro y t H e ⟨n,S⟩ rfl;try dsimp only at a
  simp only[ay,seval,S];apply sp aj a<;>intro _ a
  ·cases a;simp only[ay,seval]
  ·simp only[ay,seval];obtain⟨o8,ak,a⟩:=ab a;refine ax (fun s t H e=>match s with|T=>∃z:Nat,t 1=.ptr 1 z 0∧t 3=.int .i64 T∧H 1=some ⟨z,57,[.sl false false b.ah.length (ae aR b.ah),.sl false false b.aB.length (ae b8 b.aB),.sl false false b.av.length (ae (hZ aD) b.av)],false,false,false⟩) (fun o x t H e=>match o with|(.inl _)=>x=.exit 0∧∃p:Nat,t 1=.ptr 1 p 0∧H 1=some ⟨p,57,[.sl false false b.ah.length (ae aR b.ah),.sl false false b.aB.length (ae b8 b.aB),.sl false false b.av.length (ae (hZ aD) b.av)],false,false,false⟩|(.inr r)=>x=.ret∧eB .clean tab none [.tmp 2] ⟨t,EH H,e⟩=some (.clean (.bool r),none)) ak ?_ ?_ ?_
   ·refine⟨n,?_⟩;and_intros<;>first|rfl|(simp only[ay,seval,S]<;>rfl)
   ·rintro T t H e ⟨z,Q⟩ c a;simp only[iV]at a;simp only[ay,seval,Q];apply sp aj a<;>intro _ a
    ·obtain⟨av,A,a⟩:=ab a;have f:=bk aR A;simp only[bT]at f;simp only[ay,seval,Q,f];apply sp aO a<;>intro _ a
     ·cases a;simp only[ay,seval];refine lk ⟨rfl,?_⟩;simp only[ay,seval]
     ·have f:=bk aR A;simp only[bT]at f;simp only[ay,seval,Q,f];apply sp aO a<;>intro _ a
      ·cases a;simp only[ay,seval];refine lk ⟨rfl,?_⟩;simp only[ay,seval]
      ·have f:=bk aR A;simp only[bT]at f;simp only[ay,seval,Q,f];apply sp aj a<;>intro _ a
       ·cases a;simp only[ay,seval];refine lk ⟨rfl,?_⟩;simp only[ay,seval]
       ·cases a;simp only[ay,seval,Q];apply eS;refine⟨z,?_⟩;and_intros<;>first|rfl|(simp only[ay,seval,Q]<;>rfl)
    ·cases a;simp only[ay,seval];apply gC;refine⟨rfl,⟨z,?_,?_⟩⟩;all_goals ((simp only[ay,seval,Q]<;>rfl))
   ·rintro x t H e g;rcases o8 with _|rb
    ·dsimp only at g a;obtain⟨rfl,⟨p,al⟩⟩:=g;simp only[ay,seval];obtain⟨an,U,a⟩:=ab a;refine ax (fun s t H e=>match s with|V=>∃B:Nat,t 1=.ptr 1 B 0∧t 4=.int .i64 V∧H 1=some ⟨B,57,[.sl false false b.ah.length (ae aR b.ah),.sl false false b.aB.length (ae b8 b.aB),.sl false false b.av.length (ae (hZ aD) b.av)],false,false,false⟩) (fun o x t H e=>match o with|(.inl _)=>x=.exit 2∧∃q:Nat,t 1=.ptr 1 q 0∧H 1=some ⟨q,57,[.sl false false b.ah.length (ae aR b.ah),.sl false false b.aB.length (ae b8 b.aB),.sl false false b.av.length (ae (hZ aD) b.av)],false,false,false⟩|(.inr r)=>x=.ret∧eB .clean tab none [.tmp 2] ⟨t,EH H,e⟩=some (.clean (.bool r),none)) U ?_ ?_ ?_
     ·refine⟨p,?_⟩;and_intros<;>first|rfl|(simp only[ay,seval,al]<;>rfl)
     ·rintro V t H e ⟨B,M⟩ c a;simp only[iW]at a;simp only[ay,seval,M];apply sp aj a<;>intro _ a
      ·obtain⟨aw,C,a⟩:=ab a;have d:=bk b8 C;simp only[bT]at d;simp only[ay,seval,M,d];apply sp jb a<;>intro _ a
       ·simp only[ay,seval];refine bu (by kernel_rfl) ?_;cases a;refine lk ⟨rfl,?_⟩;simp only[ay,seval]
       ·have d:=bk b8 C;simp only[bT]at d;simp only[ay,seval,M,d];apply sp jb a<;>intro _ a
        ·simp only[ay,seval];refine bu (by kernel_rfl) ?_;cases a;refine lk ⟨rfl,?_⟩;simp only[ay,seval]
        ·have d:=bk b8 C;simp only[bT]at d;simp only[ay,seval,M,d];apply sp jb a<;>intro _ a
         ·simp only[ay,seval];refine bu (by kernel_rfl) ?_;cases a;refine lk ⟨rfl,?_⟩;simp only[ay,seval]
         ·obtain⟨az,W,a⟩:=ab a;have N:=bk (hZ aD) W;simp only[bT]at N;simp only[ay,seval,M,d,N];refine bu (by kernel_rfl) ?_;apply sp aj a<;>intro _ a
          ·cases a;simp only[ay,seval];refine lk ⟨rfl,?_⟩;simp only[ay,seval]
          ·cases a;simp only[ay,seval,M];apply eS;refine⟨B,?_⟩;and_intros<;>first|rfl|(simp only[ay,seval,M]<;>rfl)
      ·cases a;simp only[ay,seval];apply gC;refine⟨rfl,⟨B,?_,?_⟩⟩;all_goals ((simp only[ay,seval,M]<;>rfl))
     ·rintro x t H e g;rcases an with _|rc
      ·dsimp only at g a;obtain⟨rfl,⟨q,ao⟩⟩:=g;simp only[ay,seval];obtain⟨aq,X,a⟩:=ab a;refine ax (fun s t H e=>match s with|J=>∃K:Nat,t 1=.ptr 1 K 0∧t 5=.int .i64 J∧H 1=some ⟨K,57,[.sl false false b.ah.length (ae aR b.ah),.sl false false b.aB.length (ae b8 b.aB),.sl false false b.av.length (ae (hZ aD) b.av)],false,false,false⟩) (fun o x t H e=>match o with|(.inl _)=>x=.exit 4|(.inr r)=>x=.ret∧eB .clean tab none [.tmp 2] ⟨t,EH H,e⟩=some (.clean (.bool r),none)) X ?_ ?_ ?_
       ·refine⟨q,?_⟩;and_intros<;>first|rfl|(simp only[ay,seval,ao]<;>rfl)
       ·rintro J t H e ⟨K,Zd⟩ c a;simp only[iX]at a;simp only[ay,seval,Zd];apply sp aj a<;>intro _ a
        ·obtain⟨aA,Y,a⟩:=ab a;simp only[ay,seval,Y];obtain⟨ar,Z,a⟩:=ab a;refine ax (fun s t H e=>match s with|(aa,D,l,E,m)=>∃F:Nat,∃G:Nat,t 1=.ptr 1 F 0∧t 5=.int .i64 J∧t 6=.ptr 6 G 0∧t 7=.int .i64 aa∧H 1=some ⟨F,57,[.sl false false b.ah.length (ae aR b.ah),.sl false false b.aB.length (ae b8 b.aB),.sl false false b.av.length (ae (hZ aD) b.av)],false,false,false⟩∧H 6=some ⟨G,42,[.int .i64 D,.sl false false l.length (ae (eI .i64) l),.int .i64 E,.sl false false m.length (ae (eI .i64) m)],false,false,false⟩) (fun o x t H e=>match o with|(.inl (u,h,v,i))=>x=.exit 6∧∃w:Nat,∃I:Nat,t 1=.ptr 1 w 0∧t 5=.int .i64 J∧t 6=.ptr 6 I 0∧H 1=some ⟨w,57,[.sl false false b.ah.length (ae aR b.ah),.sl false false b.aB.length (ae b8 b.aB),.sl false false b.av.length (ae (hZ aD) b.av)],false,false,false⟩∧H 6=some ⟨I,42,[.int .i64 u,.sl false false h.length (ae (eI .i64) h),.int .i64 v,.sl false false i.length (ae (eI .i64) i)],false,false,false⟩|(.inr r)=>x=.ret∧eB .clean tab none [.tmp 2] ⟨t,EH H,e⟩=some (.clean (.bool r),none)) Z ?_ ?_ ?_
         ·refine⟨K,e+1,?_⟩;and_intros<;>first|rfl|(simp only[ay,seval,Zd]<;>rfl)
         ·rintro⟨aa,D,l,E,m⟩ t H e ⟨F,G,Zf⟩ c a;simp only[iY]at a;simp only[ay,seval,Zf];apply sp aj a<;>intro _ a
          ·obtain⟨aB,O,a⟩:=ab a;have j:=bk (hZ aD) O;simp only[bT]at j;obtain⟨aC,P,a⟩:=ab a;have k:=bk aD P;simp only[bT]at k;obtain⟨aE,ad,a⟩:=ab a;simp only[ay,seval,Zf,j,k,ad];apply sp aj a<;>intro _ a
           ·cases a;simp only[ay,seval];refine lk ⟨rfl,?_⟩;simp only[ay,seval]
           ·have j:=bk (hZ aD) O;simp only[bT]at j;have k:=bk aD P;simp only[bT]at k;obtain⟨aG,ag,a⟩:=ab a;simp only[ay,seval,Zf,j,k,ag];refine bu (by kernel_rfl) ?_;cases a;apply eS;refine⟨F,G,?_⟩;and_intros<;>first|rfl|(simp only[ay,seval,Zf]<;>rfl)
          ·cases a;simp only[ay,seval];apply gC;refine⟨rfl,⟨F,G,?_,?_,?_,?_,?_⟩⟩;all_goals ((simp only[ay,seval,Zf]<;>rfl))
         ·rintro x t H e g;rcases ar with⟨u,h,v,i⟩|rf
          ·dsimp only at g a;obtain⟨rfl,⟨w,I,R⟩⟩:=g;obtain⟨aH,ah,a⟩:=ab a;simp only[ay,seval,R,ah];apply sp aj a<;>intro _ a
           ·cases a;simp only[ay,seval];refine lk ⟨rfl,?_⟩;simp only[ay,seval]
           ·cases a;simp only[ay,seval,R];apply eS;refine⟨w,?_⟩;and_intros<;>first|rfl|(simp only[ay,seval,R]<;>rfl)
          ·dsimp only at g a;obtain⟨rfl,L⟩:=g;cases a;simp only[aP,aV,bS];apply lk;first|exact⟨rfl,L⟩|(simp only[ay,seval]at L;exact⟨rfl,L⟩)
        ·cases a;simp only[ay,seval];apply gC;exact rfl
       ·rintro x t H e g;rcases aq with _|rd
        ·dsimp only at g a;subst g;cases a;simp only[ay,seval]
        ·dsimp only at g a;obtain⟨rfl,L⟩:=g;cases a;simp only[aP,aV,bS,bV];exact L
      ·dsimp only at g a;obtain⟨rfl,L⟩:=g;cases a;simp only[aP,aV,bS,bV];exact L
    ·dsimp only at g a;obtain⟨rfl,L⟩:=g;cases a;simp only[aP,aV,bS,bV];exact L
 ·clear a;have a:=ai;simp only[ay,seval];apply sp aO a<;>intro _ a
  ·cases a;simp only[ay,seval];rw[au];refine⟨_,rfl,?_⟩;refine⟨0,?_,?_,?_⟩;all_goals (rfl)
  ·simp only[ay,seval];apply sp aO a<;>intro _ a
   ·cases a;simp only[ay,seval];rw[au];refine⟨_,rfl,?_⟩;refine⟨0,?_,?_,?_⟩;all_goals (rfl)
   ·cases a;simp only[ay,seval];rw[au];refine⟨_,rfl,?_⟩;refine⟨0,?_,?_,?_⟩;all_goals (rfl)
def ji (l:Option (D×Row)) (d:List D):=di (fl (bo qO) (fl (aI .i64) (dc (aI .i64)))) (fun x:cJ×Int×Int=>kf x.1 x.2.1 x.2.2) (fun r:Int =>.clean (.int .i64 r)) l d
def Zo {β:Type} {F:cJ×Int×Int->Option β} {R:β->RK} (a:(List fK)) (b:(List uf)) (c:(List (List aw))) (d:Int) (e:Int):di (fl (bo qO) (fl (aI .i64) (dc (aI .i64)))) F R none [.agg [.sl false false a.length (ae aR a),.sl false false b.length (ae b8 b),.sl false false c.length (ae (hZ aD) c)],.int .i64 d,.int .i64 e]=(F ((cJ.mk a b c),d,e)).map fun r=>(R r,none):=cB _ _ _ ((cJ.mk a b c),d,e)
def yv:bK prog 56 ji:=bK.fh (mode := .clean) tok bG.none mixed func56 (by kernel_rfl) (fun _ _=>rfl) (fun _=>by kernel_rfl) fun⟨d,u,v⟩ r a=>by
 replace a:kf d u v=some r:=a;apply aF rfl ntmps56 results56;simp only[fj];unfold kf at a;simp only[w,seval];obtain⟨B,y,a⟩:=ab a;refine ax (fun s t H e=>match s with|(k,l)=>∃g:Nat,t 1=.int .i64 u∧t 2=.int .i64 v∧t 3=.ptr 3 g 0∧t 7=.int .i64 k∧t 8=.int .i64 l∧H 3=some ⟨g,57,[.sl false false d.ah.length (ae aR d.ah),.sl false false d.aB.length (ae b8 d.aB),.sl false false d.av.length (ae (hZ aD) d.av)],false,false,false⟩) (fun o x t H e=>match o with|(.inl j)=>x=.exit 0∧t 7=.int .i64 j|(.inr r)=>x=.ret∧eB .clean tab none [.tmp 6] ⟨t,EH H,e⟩=some (.clean (.int .i64 r),none)) y ?_ ?_ ?_
 ·refine⟨0,?_,?_,?_,?_,?_,?_⟩;all_goals (rfl)
 ·rintro⟨k,l⟩ t H e ⟨g,m⟩ c a;simp only[ly]at a;simp only[w,seval,m];apply sp aj a<;>intro _ a
  ·obtain⟨D,n,a⟩:=ab a;have h:=bk aR n;simp only[bT]at h;simp only[w,seval,m,h];obtain⟨z,p,a⟩:=ab a;refine bq 0 (fun s t H e=>match s with|i=>∃b:Nat,t 1=.int .i64 u∧t 2=.int .i64 v∧t 3=.ptr 3 b 0∧t 7=.int .i64 k∧t 8=.int .i64 l∧t 33=.bool i∧H 3=some ⟨b,57,[.sl false false d.ah.length (ae aR d.ah),.sl false false d.aB.length (ae b8 d.aB),.sl false false d.av.length (ae (hZ aD) d.av)],false,false,false⟩) (fun s=>s=z) ?_ ?_
   ·rintro i t H e ⟨b,f⟩ rfl;try dsimp only at a
    simp only[w,seval,f];apply sp aj a<;>intro _ a
    ·simp only[w,seval,f];apply sp aj a<;>intro _ a
     ·cases a;simp only[w,seval];refine lk ⟨rfl,?_⟩;simp only[w,seval]
     ·cases a;simp only[w,seval,f];apply eS;refine⟨b,?_⟩;and_intros<;>first|rfl|(simp only[w,seval,f]<;>rfl)
    ·cases a;simp only[w,seval,f];apply eS;refine⟨b,?_⟩;and_intros<;>first|rfl|(simp only[w,seval,f]<;>rfl)
   ·clear a;have a:=p;simp only[w,seval];apply sp dH a<;>intro _ a
    ·have h:=bk aR n;simp only[bT]at h;cases a;simp only[w,seval,m,h];rw[au];refine⟨_,rfl,?_⟩;refine⟨g,?_⟩;and_intros<;>first|rfl|(simp only[w,seval,m]<;>rfl)
    ·cases a;simp only[w,seval];rw[au];refine⟨_,rfl,?_⟩;refine⟨g,?_⟩;and_intros<;>first|rfl|(simp only[w,seval,m]<;>rfl)
  ·cases a;simp only[w,seval];apply gC;refine⟨rfl,?_⟩;all_goals ((simp only[w,seval,m]<;>rfl))
 ·rintro x t H e q;rcases B with j|E
  ·dsimp only at q a;obtain⟨rfl,A⟩:=q;cases a;simp only[w,seval,A]
  ·dsimp only at q a;obtain⟨rfl,C⟩:=q;cases a;simp only[aP,aV,bS,bV];exact C
def lU (l:Option (D×Row)) (d:List D):=di (fl (bo qO) (dc (aI .i64))) (fun x:cJ×Int=>pj x.1 x.2) (fun r:Int =>.clean (.int .i64 r)) l d
def Zp {β:Type} {F:cJ×Int->Option β} {R:β->RK} (a:(List fK)) (b:(List uf)) (c:(List (List aw))) (d:Int):di (fl (bo qO) (dc (aI .i64))) F R none [.agg [.sl false false a.length (ae aR a),.sl false false b.length (ae b8 b),.sl false false c.length (ae (hZ aD) c)],.int .i64 d]=(F ((cJ.mk a b c),d)).map fun r=>(R r,none):=cB _ _ _ ((cJ.mk a b c),d)
def CE:bK prog 57 lU:=bK.fh (mode := .clean) tok bG.none mixed func57 (by kernel_rfl) (fun _ _=>rfl) (fun _=>by kernel_rfl) fun⟨d,u⟩ r a=>by
 replace a:pj d u=some r:=a;apply aF rfl ntmps57 results57;simp only[fj];unfold pj at a;simp only[w,seval];obtain⟨A,v,a⟩:=ab a;refine ax (fun s t H e=>match s with|(k,l)=>∃g:Nat,t 1=.int .i64 u∧t 2=.ptr 2 g 0∧t 5=.int .i64 k∧t 6=.int .i64 l∧H 2=some ⟨g,57,[.sl false false d.ah.length (ae aR d.ah),.sl false false d.aB.length (ae b8 d.aB),.sl false false d.av.length (ae (hZ aD) d.av)],false,false,false⟩) (fun o x t H e=>match o with|(.inl j)=>x=.exit 0∧t 5=.int .i64 j|(.inr r)=>x=.ret∧eB .clean tab none [.tmp 4] ⟨t,EH H,e⟩=some (.clean (.int .i64 r),none)) v ?_ ?_ ?_
 ·refine⟨0,?_,?_,?_,?_,?_⟩;all_goals (rfl)
 ·rintro⟨k,l⟩ t H e ⟨g,m⟩ c a;simp only[pk]at a;simp only[w,seval,m];apply sp aj a<;>intro _ a
  ·obtain⟨C,n,a⟩:=ab a;have h:=bk b8 n;simp only[bT]at h;simp only[w,seval,m,h];obtain⟨y,p,a⟩:=ab a;refine bq 0 (fun s t H e=>match s with|i=>∃b:Nat,t 1=.int .i64 u∧t 2=.ptr 2 b 0∧t 5=.int .i64 k∧t 6=.int .i64 l∧t 30=.bool i∧H 2=some ⟨b,57,[.sl false false d.ah.length (ae aR d.ah),.sl false false d.aB.length (ae b8 d.aB),.sl false false d.av.length (ae (hZ aD) d.av)],false,false,false⟩) (fun s=>s=y) ?_ ?_
   ·rintro i t H e ⟨b,f⟩ rfl;try dsimp only at a
    simp only[w,seval,f];apply sp aj a<;>intro _ a
    ·simp only[w,seval,f];apply sp aj a<;>intro _ a
     ·cases a;simp only[w,seval];refine lk ⟨rfl,?_⟩;simp only[w,seval]
     ·cases a;simp only[w,seval,f];apply eS;refine⟨b,?_⟩;and_intros<;>first|rfl|(simp only[w,seval,f]<;>rfl)
    ·cases a;simp only[w,seval,f];apply eS;refine⟨b,?_⟩;and_intros<;>first|rfl|(simp only[w,seval,f]<;>rfl)
   ·clear a;have a:=p;simp only[w,seval];apply sp dH a<;>intro _ a
    ·have h:=bk b8 n;simp only[bT]at h;cases a;simp only[w,seval,m,h];rw[au];refine⟨_,rfl,?_⟩;refine⟨g,?_⟩;and_intros<;>first|rfl|(simp only[w,seval,m]<;>rfl)
    ·cases a;simp only[w,seval];rw[au];refine⟨_,rfl,?_⟩;refine⟨g,?_⟩;and_intros<;>first|rfl|(simp only[w,seval,m]<;>rfl)
  ·cases a;simp only[w,seval];apply gC;refine⟨rfl,?_⟩;all_goals ((simp only[w,seval,m]<;>rfl))
 ·rintro x t H e q;rcases A with j|D
  ·dsimp only at q a;obtain⟨rfl,z⟩:=q;cases a;simp only[w,seval,z]
  ·dsimp only at q a;obtain⟨rfl,B⟩:=q;cases a;simp only[aP,aV,bS,bV];exact B
def tZ (l:Option (D×Row)) (d:List D):=di (fl (bo bx) (dc (aI .i64))) (fun x:bF×Int=>tG x.1 x.2) (fun r:Bool =>.clean (.bool r)) l d
def y9:Env:=(Am.ext (Am.ext (Am.ext (Am.ext bl 29 false iO) 55 false lE) 56 false ji) 57 false lU)
def Nx:bG prog y9:=((((bG.none.add xG false).add BC false).add yv false).add CE false)
def aQ:=ai @w<|ai @tH<|ai @iO.eq_1<|ai @UW<|ai @lE.eq_1<|ai @Zo<|ai @ji.eq_1<|ai @Zp<|ai @lU.eq_1<|@y9.eq_1
def OB:bK prog 30 tZ:=bK.fh (mode := .clean) tok Nx mixed func30 (by kernel_rfl) (fun _ _=>rfl) (fun _=>by kernel_rfl) fun⟨b,q⟩ r a=>by
 replace a:tG b q=some r:=a;apply aF rfl ntmps30 results30;simp only[fj];unfold tG at a;obtain⟨r1,aa,a⟩:=ab a;simp only[aQ,seval,aa];apply sp aj a<;>intro _ a
 ·cases a;simp only[aQ,seval]
 ·simp only[aQ,seval];obtain⟨o6,ad,a⟩:=ab a;refine ax (fun s t H e=>match s with|(G,I)=>∃l:Nat,t 1=.int .i64 q∧t 2=.ptr 2 l 0∧t 5=.int .i64 G∧t 6=.int .i64 I∧H 2=some ⟨l,60,[.sl false false b.an.ah.length (ae aR b.an.ah),.sl false false b.an.aB.length (ae b8 b.an.aB),.sl false false b.an.av.length (ae (hZ aD) b.an.av),.sl false false b.aL.length (ae dD b.aL),.sl false false b.aq.length (ae (eI .i64) b.aq)],false,false,false⟩) (fun o x t H e=>match o with|h=>x=.exit 0∧∃i:Nat,t 1=.int .i64 q∧t 2=.ptr 2 i 0∧t 5=.int .i64 h∧H 2=some ⟨i,60,[.sl false false b.an.ah.length (ae aR b.an.ah),.sl false false b.an.aB.length (ae b8 b.an.aB),.sl false false b.an.av.length (ae (hZ aD) b.an.av),.sl false false b.aL.length (ae dD b.aL),.sl false false b.aq.length (ae (eI .i64) b.aq)],false,false,false⟩) ad ?_ ?_ ?_
  ·refine⟨0,?_,?_,?_,?_,?_⟩;all_goals (rfl)
  ·rintro⟨G,I⟩ t H e ⟨l,D⟩ c a;simp only[sC]at a;simp only[aQ,seval,D];apply sp aj a<;>intro _ a
   ·obtain⟨x8,ag,a⟩:=ab a;have J:=bk aR ag;simp only[bT]at J;simp only[aQ,seval,D,J];apply sp aj a<;>intro _ a
    ·cases a;simp only[aQ,seval,D];apply eS;refine⟨l,?_⟩;and_intros<;>first|rfl|(simp only[aQ,seval,D]<;>rfl)
    ·cases a;simp only[aQ,seval,D];apply eS;refine⟨l,?_⟩;and_intros<;>first|rfl|(simp only[aQ,seval,D]<;>rfl)
   ·cases a;simp only[aQ,seval];apply gC;refine⟨rfl,⟨l,?_,?_,?_,?_⟩⟩;all_goals ((simp only[aQ,seval,D]<;>rfl))
  ·rintro x t H e g;obtain⟨h,rfl⟩:∃z,z=o6:=⟨_,rfl⟩;dsimp only at g a;obtain⟨rfl,⟨i,ah⟩⟩:=g;simp only[aQ,seval];obtain⟨ai,K,a⟩:=ab a;refine ax (fun s t H e=>match s with|(L,M)=>∃m:Nat,t 1=.int .i64 q∧t 2=.ptr 2 m 0∧t 5=.int .i64 h∧t 7=.int .i64 L∧t 8=.int .i64 M∧H 2=some ⟨m,60,[.sl false false b.an.ah.length (ae aR b.an.ah),.sl false false b.an.aB.length (ae b8 b.an.aB),.sl false false b.an.av.length (ae (hZ aD) b.an.av),.sl false false b.aL.length (ae dD b.aL),.sl false false b.aq.length (ae (eI .i64) b.aq)],false,false,false⟩) (fun o x t H e=>match o with|w=>x=.exit 2∧∃d:Nat,t 1=.int .i64 q∧t 2=.ptr 2 d 0∧t 5=.int .i64 h∧t 7=.int .i64 w∧H 2=some ⟨d,60,[.sl false false b.an.ah.length (ae aR b.an.ah),.sl false false b.an.aB.length (ae b8 b.an.aB),.sl false false b.an.av.length (ae (hZ aD) b.an.av),.sl false false b.aL.length (ae dD b.aL),.sl false false b.aq.length (ae (eI .i64) b.aq)],false,false,false⟩) K ?_ ?_ ?_
   ·refine⟨i,?_⟩;and_intros<;>first|rfl|(simp only[aQ,seval,ah]<;>rfl)
   ·rintro⟨L,M⟩ t H e ⟨m,E⟩ c a;simp only[sD]at a;simp only[aQ,seval,E];apply sp aj a<;>intro _ a
    ·obtain⟨aq,N,a⟩:=ab a;have y:=bk b8 N;simp only[bT]at y;simp only[aQ,seval,E,y];apply sp aj a<;>intro _ a
     ·cases a;simp only[aQ,seval,E];apply eS;refine⟨m,?_⟩;and_intros<;>first|rfl|(simp only[aQ,seval,E]<;>rfl)
     ·cases a;simp only[aQ,seval,E];apply eS;refine⟨m,?_⟩;and_intros<;>first|rfl|(simp only[aQ,seval,E]<;>rfl)
    ·cases a;simp only[aQ,seval];apply gC;refine⟨rfl,⟨m,?_,?_,?_,?_,?_⟩⟩;all_goals ((simp only[aQ,seval,E]<;>rfl))
   ·rintro x t H e g;obtain⟨w,rfl⟩:∃z,z=ai:=⟨_,rfl⟩;dsimp only at g a;obtain⟨rfl,⟨d,u⟩⟩:=g;simp only[aQ,seval,u];obtain⟨ak,O,a⟩:=ab a;refine bq 0 (fun s t H e=>match s with|n=>∃j:Nat,t 1=.int .i64 q∧t 2=.ptr 2 j 0∧t 62=.bool n∧H 2=some ⟨j,60,[.sl false false b.an.ah.length (ae aR b.an.ah),.sl false false b.an.aB.length (ae b8 b.an.aB),.sl false false b.an.av.length (ae (hZ aD) b.an.av),.sl false false b.aL.length (ae dD b.aL),.sl false false b.aq.length (ae (eI .i64) b.aq)],false,false,false⟩) (fun s=>s=ak) ?_ ?_
    ·rintro n t H e ⟨j,P⟩ rfl;try dsimp only at a
     simp only[aQ,seval,P];apply sp aj a<;>intro _ a
     ·cases a;simp only[aQ,seval]
     ·simp only[aQ,seval];obtain⟨al,Q,a⟩:=ab a;refine ax (fun s t H e=>match s with|R=>∃p:Nat,t 1=.int .i64 q∧t 2=.ptr 2 p 0∧t 9=.int .i64 R∧H 2=some ⟨p,60,[.sl false false b.an.ah.length (ae aR b.an.ah),.sl false false b.an.aB.length (ae b8 b.an.aB),.sl false false b.an.av.length (ae (hZ aD) b.an.av),.sl false false b.aL.length (ae dD b.aL),.sl false false b.aq.length (ae (eI .i64) b.aq)],false,false,false⟩) (fun o x t H e=>match o with|(.inl _)=>x=.exit 4∧∃k:Nat,t 1=.int .i64 q∧t 2=.ptr 2 k 0∧H 2=some ⟨k,60,[.sl false false b.an.ah.length (ae aR b.an.ah),.sl false false b.an.aB.length (ae b8 b.an.aB),.sl false false b.an.av.length (ae (hZ aD) b.an.av),.sl false false b.aL.length (ae dD b.aL),.sl false false b.aq.length (ae (eI .i64) b.aq)],false,false,false⟩|(.inr r)=>x=.ret∧eB .clean tab none [.tmp 4] ⟨t,EH H,e⟩=some (.clean (.bool r),none)) Q ?_ ?_ ?_
      ·refine⟨j,?_⟩;and_intros<;>first|rfl|(simp only[aQ,seval,P]<;>rfl)
      ·rintro R t H e ⟨p,F⟩ c a;simp only[pf]at a;simp only[aQ,seval,F];apply sp aj a<;>intro _ a
       ·obtain⟨ar,A,a⟩:=ab a;have f:=bk dD A;simp only[bT]at f;obtain⟨av,S,a⟩:=ab a;simp only[aQ,seval,F,f,S];apply sp aO a<;>intro _ a
        ·cases a;simp only[aQ,seval];refine lk ⟨rfl,?_⟩;simp only[aQ,seval]
        ·have f:=bk dD A;simp only[bT]at f;obtain⟨aw,T,a⟩:=ab a;simp only[aQ,seval,F,f,T];apply sp aO a<;>intro _ a
         ·cases a;simp only[aQ,seval];refine lk ⟨rfl,?_⟩;simp only[aQ,seval]
         ·obtain⟨ay,U,a⟩:=ab a;simp only[aQ,seval,F,U];apply sp aj a<;>intro _ a
          ·cases a;simp only[aQ,seval];refine lk ⟨rfl,?_⟩;simp only[aQ,seval]
          ·cases a;simp only[aQ,seval,F];apply eS;refine⟨p,?_⟩;and_intros<;>first|rfl|(simp only[aQ,seval,F]<;>rfl)
       ·cases a;simp only[aQ,seval];apply gC;refine⟨rfl,⟨p,?_,?_,?_⟩⟩;all_goals ((simp only[aQ,seval,F]<;>rfl))
      ·rintro x t H e g;rcases al with _|rd
       ·dsimp only at g a;obtain⟨rfl,⟨k,an⟩⟩:=g;simp only[aQ,seval];obtain⟨ao,V,a⟩:=ab a;refine ax (fun s t H e=>match s with|B=>∃v:Nat,t 1=.int .i64 q∧t 2=.ptr 2 v 0∧t 10=.int .i64 B∧H 2=some ⟨v,60,[.sl false false b.an.ah.length (ae aR b.an.ah),.sl false false b.an.aB.length (ae b8 b.an.aB),.sl false false b.an.av.length (ae (hZ aD) b.an.av),.sl false false b.aL.length (ae dD b.aL),.sl false false b.aq.length (ae (eI .i64) b.aq)],false,false,false⟩) (fun o x t H e=>match o with|(.inl _)=>x=.exit 6|(.inr r)=>x=.ret∧eB .clean tab none [.tmp 4] ⟨t,EH H,e⟩=some (.clean (.bool r),none)) V ?_ ?_ ?_
        ·refine⟨k,?_⟩;and_intros<;>first|rfl|(simp only[aQ,seval,an]<;>rfl)
        ·rintro B t H e ⟨v,W⟩ c a;simp only[pg]at a;simp only[aQ,seval,W];apply sp aj a<;>intro _ a
         ·obtain⟨az,X,a⟩:=ab a;have C:=bk (eI .i64) X;simp only[bT]at C;obtain⟨aA,Y,a⟩:=ab a;simp only[aQ,seval,W,C,Y];apply sp aO a<;>intro _ a
          ·cases a;simp only[aQ,seval];refine lk ⟨rfl,?_⟩;simp only[aQ,seval]
          ·obtain⟨aB,Z,a⟩:=ab a;simp only[aQ,seval,W,Z];apply sp aj a<;>intro _ a
           ·cases a;simp only[aQ,seval];refine lk ⟨rfl,?_⟩;simp only[aQ,seval]
           ·cases a;simp only[aQ,seval,W];apply eS;refine⟨v,?_⟩;and_intros<;>first|rfl|(simp only[aQ,seval,W]<;>rfl)
         ·cases a;simp only[aQ,seval];apply gC;exact rfl
        ·rintro x t H e g;rcases ao with _|re
         ·dsimp only at g a;subst g;cases a;simp only[aQ,seval]
         ·dsimp only at g a;obtain⟨rfl,hE⟩:=g;cases a;simp only[aP,aV,bS,bV];exact hE
       ·dsimp only at g a;obtain⟨rfl,hE⟩:=g;cases a;simp only[aP,aV,bS,bV];exact hE
    ·clear a;have a:=O;simp only[aQ,seval];apply sp aO a<;>intro _ a
     ·cases a;simp only[aQ,seval];rw[au];refine⟨_,rfl,?_⟩;refine⟨d,?_⟩;and_intros<;>first|rfl|(simp only[aQ,seval,u]<;>rfl)
     ·cases a;simp only[aQ,seval,u];rw[au];refine⟨_,rfl,?_⟩;refine⟨d,?_⟩;and_intros<;>first|rfl|(simp only[aQ,seval,u]<;>rfl)
def rU (l:Option (D×Row)) (d:List D):=di (fl (bo jk) (dc (aI .i64))) (fun x:bg×Int=>qB x.1 x.2) (fun r:Int =>.clean (.int .i64 r)) l d
def acU {β:Type} {F:bg×Int->Option β} {R:β->RK} (a:(List Int)) (b:(List bF)) (c:Int):di (fl (bo jk) (dc (aI .i64))) F R none [.agg [.sl false false a.length (ae (eI .i64) a),.sl false false b.length (ae bx b)],.int .i64 c]=(F ((bg.mk a b),c)).map fun r=>(R r,none):=cB _ _ _ ((bg.mk a b),c)
def KZ:bK prog 31 rU:=bK.fh (mode := .clean) tok bG.none mixed func31 (by kernel_rfl) (fun _ _=>rfl) (fun _=>by kernel_rfl) fun⟨f,D⟩ r a=>by
 replace a:qB f D=some r:=a;apply aF rfl ntmps31 results31;simp only[fj];unfold qB at a;simp only[w,seval];obtain⟨E,p,a⟩:=ab a;refine ax (fun s t H e=>match s with|(q,h)=>∃i:Nat,t 1=.int .i64 D∧t 2=.ptr 2 i 0∧t 5=.int .i64 q∧t 6=.int .i64 h∧H 2=some ⟨i,25,[.sl false false f.al.length (ae (eI .i64) f.al),.sl false false f.ao.length (ae bx f.ao)],false,false,false⟩) (fun o x t H e=>match o with|j=>x=.exit 0∧t 5=.int .i64 j) p ?_ ?_ ?_
 ·refine⟨0,?_,?_,?_,?_,?_⟩;all_goals (rfl)
 ·rintro⟨q,h⟩ t H e ⟨i,F⟩ c a;simp only[nh]at a;simp only[w,seval,F];apply sp aj a<;>intro _ a
  ·simp only[w,seval];obtain⟨G,u,a⟩:=ab a;refine ax (fun s t H e=>match s with|(v,y)=>∃g:Nat,t 1=.int .i64 D∧t 2=.ptr 2 g 0∧t 5=.int .i64 v∧t 6=.int .i64 h∧t 7=.int .i64 y∧H 2=some ⟨g,25,[.sl false false f.al.length (ae (eI .i64) f.al),.sl false false f.ao.length (ae bx f.ao)],false,false,false⟩) (fun o x t H e=>match o with|k=>x=.exit 2∧∃d:Nat,t 1=.int .i64 D∧t 2=.ptr 2 d 0∧t 5=.int .i64 k∧t 6=.int .i64 h∧H 2=some ⟨d,25,[.sl false false f.al.length (ae (eI .i64) f.al),.sl false false f.ao.length (ae bx f.ao)],false,false,false⟩) u ?_ ?_ ?_
   ·refine⟨i,?_⟩;and_intros<;>first|rfl|(simp only[w,seval,F]<;>rfl)
   ·rintro⟨v,y⟩ t H e ⟨g,n⟩ c a;simp only[kN]at a;obtain⟨J,l,a⟩:=ab a;have b:=bk bx l;simp only[bT]at b;simp only[w,seval,n,b];apply sp aj a<;>intro _ a
    ·have b:=bk bx l;simp only[bT]at b;obtain⟨K,A,a⟩:=ab a;have m:=bk (eI .i64) A;simp only[bT]at m;simp only[w,seval,n,b,m];apply sp aj a<;>intro _ a
     ·cases a;simp only[w,seval,n];apply eS;refine⟨g,?_⟩;and_intros<;>first|rfl|(simp only[w,seval,n]<;>rfl)
     ·cases a;simp only[w,seval,n];apply eS;refine⟨g,?_⟩;and_intros<;>first|rfl|(simp only[w,seval,n]<;>rfl)
    ·cases a;simp only[w,seval];apply gC;refine⟨rfl,⟨g,?_,?_,?_,?_,?_⟩⟩;all_goals ((simp only[w,seval,n]<;>rfl))
   ·rintro x t H e B;obtain⟨k,rfl⟩:∃z,z=G:=⟨_,rfl⟩;dsimp only at B a;obtain⟨rfl,⟨d,C⟩⟩:=B;cases a;simp only[w,seval,C];apply eS;refine⟨d,?_⟩;and_intros<;>first|rfl|(simp only[w,seval,C]<;>rfl)
  ·cases a;simp only[w,seval];apply gC;refine⟨rfl,?_⟩;all_goals ((simp only[w,seval,F]<;>rfl))
 ·rintro x t H e B;obtain⟨j,rfl⟩:∃z,z=E:=⟨_,rfl⟩;dsimp only at B a;obtain⟨rfl,I⟩:=B;cases a;simp only[w,seval,I]
def tY (l:Option (D×Row)) (d:List D):=di (fl (bo jk) (dc (aI .i64))) (fun x:bg×Int=>tF x.1 x.2) (fun r:Int =>.clean (.int .i64 r)) l d
def OA:bK prog 32 tY:=bK.fh (mode := .clean) tok bG.none mixed func32 (by kernel_rfl) (fun _ _=>rfl) (fun _=>by kernel_rfl) fun⟨g,D⟩ r a=>by
 replace a:tF g D=some r:=a;apply aF rfl ntmps32 results32;simp only[fj];unfold tF at a;simp only[w,seval];obtain⟨E,q,a⟩:=ab a;refine ax (fun s t H e=>match s with|(u,j)=>∃k:Nat,t 1=.int .i64 D∧t 2=.ptr 2 k 0∧t 5=.int .i64 u∧t 6=.int .i64 j∧H 2=some ⟨k,25,[.sl false false g.al.length (ae (eI .i64) g.al),.sl false false g.ao.length (ae bx g.ao)],false,false,false⟩) (fun o x t H e=>match o with|l=>x=.exit 0∧t 5=.int .i64 l) q ?_ ?_ ?_
 ·refine⟨0,?_,?_,?_,?_,?_⟩;all_goals (rfl)
 ·rintro⟨u,j⟩ t H e ⟨k,F⟩ c a;simp only[pe]at a;simp only[w,seval,F];apply sp aj a<;>intro _ a
  ·simp only[w,seval];obtain⟨G,v,a⟩:=ab a;refine ax (fun s t H e=>match s with|(y,A)=>∃h:Nat,t 1=.int .i64 D∧t 2=.ptr 2 h 0∧t 5=.int .i64 y∧t 6=.int .i64 j∧t 7=.int .i64 A∧H 2=some ⟨h,25,[.sl false false g.al.length (ae (eI .i64) g.al),.sl false false g.ao.length (ae bx g.ao)],false,false,false⟩) (fun o x t H e=>match o with|m=>x=.exit 2∧∃f:Nat,t 1=.int .i64 D∧t 2=.ptr 2 f 0∧t 5=.int .i64 m∧t 6=.int .i64 j∧H 2=some ⟨f,25,[.sl false false g.al.length (ae (eI .i64) g.al),.sl false false g.ao.length (ae bx g.ao)],false,false,false⟩) v ?_ ?_ ?_
   ·refine⟨k,?_⟩;and_intros<;>first|rfl|(simp only[w,seval,F]<;>rfl)
   ·rintro⟨y,A⟩ t H e ⟨h,p⟩ c a;simp only[mo]at a;obtain⟨J,i,a⟩:=ab a;have b:=bk bx i;simp only[bT]at b;simp only[w,seval,p,b];apply sp aj a<;>intro _ a
    ·have b:=bk bx i;simp only[bT]at b;obtain⟨K,n,a⟩:=ab a;have d:=bk dD n;simp only[bT]at d;simp only[w,seval,p,b,d];apply sp aj a<;>intro _ a
     ·have b:=bk bx i;simp only[bT]at b;have d:=bk dD n;simp only[bT]at d;cases a;simp only[w,seval,p,b,d];apply eS;refine⟨h,?_⟩;and_intros<;>first|rfl|(simp only[w,seval,p]<;>rfl)
     ·cases a;simp only[w,seval,p];apply eS;refine⟨h,?_⟩;and_intros<;>first|rfl|(simp only[w,seval,p]<;>rfl)
    ·cases a;simp only[w,seval];apply gC;refine⟨rfl,⟨h,?_,?_,?_,?_,?_⟩⟩;all_goals ((simp only[w,seval,p]<;>rfl))
   ·rintro x t H e B;obtain⟨m,rfl⟩:∃z,z=G:=⟨_,rfl⟩;dsimp only at B a;obtain⟨rfl,⟨f,C⟩⟩:=B;cases a;simp only[w,seval,C];apply eS;refine⟨f,?_⟩;and_intros<;>first|rfl|(simp only[w,seval,C]<;>rfl)
  ·cases a;simp only[w,seval];apply gC;refine⟨rfl,?_⟩;all_goals ((simp only[w,seval,F]<;>rfl))
 ·rintro x t H e B;obtain⟨l,rfl⟩:∃z,z=E:=⟨_,rfl⟩;dsimp only at B a;obtain⟨rfl,I⟩:=B;cases a;simp only[w,seval,I]
def jT (l:Option (D×Row)) (d:List D):=di (dc (bo jk)) (fun x:bg=>nZ x) (fun r:Int×Int =>.clean (.tup [.int .i64 r.1,.int .i64 r.2])) l d
def wx:Env:=(Am.ext (Am.ext (Am.ext (Am.ext bl 29 false iO) 30 false tZ) 31 false rU) 32 false tY)
def KE:bG prog wx:=((((bG.none.add xG false).add OB false).add KZ false).add OA false)
def aT:=ai @w<|ai @tH<|ai @iO.eq_1<|ai @Zl<|ai @tZ.eq_1<|ai @acU<|ai @rU.eq_1<|ai @tY.eq_1<|@wx.eq_1
def Al:bK prog 8 jT:=bK.fh (mode := .clean) tok KE mixed func8 (by kernel_rfl) (fun _ _=>rfl) (fun _=>by kernel_rfl) fun b r a=>by
 replace a:nZ b=some r:=a;apply aF rfl ntmps8 results8;simp only[fj];unfold nZ at a;simp only[aT,seval];obtain⟨Z,Q,a⟩:=ab a;refine bq 0 (fun s t H e=>match s with|j=>∃f:Nat,t 1=.ptr 1 f 0∧t 18=.bool j∧H 1=some ⟨f,25,[.sl false false b.al.length (ae (eI .i64) b.al),.sl false false b.ao.length (ae bx b.ao)],false,false,false⟩) (fun s=>s=Z) ?_ ?_
 ·rintro j t H e ⟨f,z⟩ rfl;try dsimp only at a
  simp only[aT,seval,z];apply sp aj a<;>intro _ a
  ·cases a;simp only[aT,seval]
  ·simp only[aT,seval];obtain⟨o7,R,a⟩:=ab a;refine ax (fun s t H e=>match s with|A=>∃k:Nat,t 1=.ptr 1 k 0∧t 4=.int .i64 A∧H 1=some ⟨k,25,[.sl false false b.al.length (ae (eI .i64) b.al),.sl false false b.ao.length (ae bx b.ao)],false,false,false⟩) (fun o x t H e=>match o with|(.inl _)=>x=.exit 0∧∃g:Nat,t 1=.ptr 1 g 0∧H 1=some ⟨g,25,[.sl false false b.al.length (ae (eI .i64) b.al),.sl false false b.ao.length (ae bx b.ao)],false,false,false⟩|(.inr r)=>x=.ret∧eB .clean tab none [.tmp 2,.tmp 3] ⟨t,EH H,e⟩=some (.clean (.tup [.int .i64 r.1,.int .i64 r.2]),none)) R ?_ ?_ ?_
   ·refine⟨f,?_⟩;and_intros<;>first|rfl|(simp only[aT,seval,z]<;>rfl)
   ·rintro A t H e ⟨k,w⟩ c a;simp only[kH]at a;simp only[aT,seval,w];apply sp aj a<;>intro _ a
    ·obtain⟨x9,S,a⟩:=ab a;have B:=bk (eI .i64) S;simp only[bT]at B;obtain⟨aa,C,a⟩:=ab a;simp only[aT,seval,w,B,C];apply sp aj a<;>intro _ a
     ·cases a;simp only[aT,seval,w];refine lk ⟨rfl,?_⟩;simp only[aT,seval]
     ·cases a;simp only[aT,seval,w];apply eS;refine⟨k,?_⟩;and_intros<;>first|rfl|(simp only[aT,seval,w]<;>rfl)
    ·cases a;simp only[aT,seval];apply gC;refine⟨rfl,⟨k,?_,?_⟩⟩;all_goals ((simp only[aT,seval,w]<;>rfl))
   ·rintro x t H e d;rcases o7 with _|rb
    ·dsimp only at d a;obtain⟨rfl,⟨g,T⟩⟩:=d;simp only[aT,seval];obtain⟨U,D,a⟩:=ab a;refine ax (fun s t H e=>match s with|E=>∃l:Nat,t 1=.ptr 1 l 0∧t 5=.int .i64 E∧H 1=some ⟨l,25,[.sl false false b.al.length (ae (eI .i64) b.al),.sl false false b.ao.length (ae bx b.ao)],false,false,false⟩) (fun o x t H e=>match o with|(.inl _)=>x=.exit 2∧∃h:Nat,t 1=.ptr 1 h 0∧H 1=some ⟨h,25,[.sl false false b.al.length (ae (eI .i64) b.al),.sl false false b.ao.length (ae bx b.ao)],false,false,false⟩|(.inr r)=>x=.ret∧eB .clean tab none [.tmp 2,.tmp 3] ⟨t,EH H,e⟩=some (.clean (.tup [.int .i64 r.1,.int .i64 r.2]),none)) D ?_ ?_ ?_
     ·refine⟨g,?_⟩;and_intros<;>first|rfl|(simp only[aT,seval,T]<;>rfl)
     ·rintro E t H e ⟨l,y⟩ c a;simp only[kI]at a;simp only[aT,seval,y];apply sp aj a<;>intro _ a
      ·obtain⟨ad,F,a⟩:=ab a;have p:=bk bx F;simp only[bT]at p;obtain⟨ag,G,a⟩:=ab a;simp only[aT,seval,y,p,G];refine bu (by kernel_rfl) ?_;apply sp aj a<;>intro _ a
       ·cases a;simp only[aT,seval,y];refine lk ⟨rfl,?_⟩;simp only[aT,seval]
       ·cases a;simp only[aT,seval,y];apply eS;refine⟨l,?_⟩;and_intros<;>first|rfl|(simp only[aT,seval,y]<;>rfl)
      ·cases a;simp only[aT,seval];apply gC;refine⟨rfl,⟨l,?_,?_⟩⟩;all_goals ((simp only[aT,seval,y]<;>rfl))
     ·rintro x t H e d;rcases U with _|rc
      ·dsimp only at d a;obtain⟨rfl,⟨h,V⟩⟩:=d;simp only[aT,seval];obtain⟨W,I,a⟩:=ab a;refine ax (fun s t H e=>match s with|J=>∃m:Nat,t 1=.ptr 1 m 0∧t 6=.int .i64 J∧H 1=some ⟨m,25,[.sl false false b.al.length (ae (eI .i64) b.al),.sl false false b.ao.length (ae bx b.ao)],false,false,false⟩) (fun o x t H e=>match o with|(.inl _)=>x=.exit 4∧∃i:Nat,t 1=.ptr 1 i 0∧H 1=some ⟨i,25,[.sl false false b.al.length (ae (eI .i64) b.al),.sl false false b.ao.length (ae bx b.ao)],false,false,false⟩|(.inr r)=>x=.ret∧eB .clean tab none [.tmp 2,.tmp 3] ⟨t,EH H,e⟩=some (.clean (.tup [.int .i64 r.1,.int .i64 r.2]),none)) I ?_ ?_ ?_
       ·refine⟨h,?_⟩;and_intros<;>first|rfl|(simp only[aT,seval,V]<;>rfl)
       ·rintro J t H e ⟨m,u⟩ c a;simp only[kJ]at a;simp only[aT,seval,u];apply sp aj a<;>intro _ a
        ·obtain⟨ah,K,a⟩:=ab a;simp only[aT,seval,u,K];apply sp aj a<;>intro _ a
         ·cases a;simp only[aT,seval,u];refine lk ⟨rfl,?_⟩;simp only[aT,seval]
         ·simp only[aT,seval];apply sp aj a<;>intro _ a
          ·cases a;simp only[aT,seval,u];refine lk ⟨rfl,?_⟩;simp only[aT,seval]
          ·cases a;simp only[aT,seval,u];apply eS;refine⟨m,?_⟩;and_intros<;>first|rfl|(simp only[aT,seval,u]<;>rfl)
        ·cases a;simp only[aT,seval];apply gC;refine⟨rfl,⟨m,?_,?_⟩⟩;all_goals ((simp only[aT,seval,u]<;>rfl))
       ·rintro x t H e d;rcases W with _|rd
        ·dsimp only at d a;obtain⟨rfl,⟨i,X⟩⟩:=d;simp only[aT,seval];obtain⟨Y,L,a⟩:=ab a;refine ax (fun s t H e=>match s with|M=>∃n:Nat,t 1=.ptr 1 n 0∧t 8=.int .i64 M∧H 1=some ⟨n,25,[.sl false false b.al.length (ae (eI .i64) b.al),.sl false false b.ao.length (ae bx b.ao)],false,false,false⟩) (fun o x t H e=>match o with|(.inl _)=>x=.exit 6|(.inr r)=>x=.ret∧eB .clean tab none [.tmp 2,.tmp 3] ⟨t,EH H,e⟩=some (.clean (.tup [.int .i64 r.1,.int .i64 r.2]),none)) L ?_ ?_ ?_
         ·refine⟨i,?_⟩;and_intros<;>first|rfl|(simp only[aT,seval,X]<;>rfl)
         ·rintro M t H e ⟨n,N⟩ c a;simp only[kK]at a;simp only[aT,seval,N];apply sp aj a<;>intro _ a
          ·obtain⟨ai,O,a⟩:=ab a;obtain⟨ak,P,a⟩:=ab a;have q:=bk (eI .i64) P;simp only[bT]at q;simp only[aT,seval,N,O,q];refine bu (by kernel_rfl) ?_;apply sp aj a<;>intro _ a
           ·cases a;simp only[aT,seval,N];refine lk ⟨rfl,?_⟩;simp only[aT,seval]
           ·cases a;simp only[aT,seval,N];apply eS;refine⟨n,?_⟩;and_intros<;>first|rfl|(simp only[aT,seval,N]<;>rfl)
          ·cases a;simp only[aT,seval];apply gC;exact rfl
         ·rintro x t H e d;rcases Y with _|re
          ·dsimp only at d a;subst d;cases a;simp only[aT,seval]
          ·dsimp only at d a;obtain⟨rfl,v⟩:=d;cases a;simp only[aP,aV,bS,bV];exact v
        ·dsimp only at d a;obtain⟨rfl,v⟩:=d;cases a;simp only[aP,aV,bS,bV];exact v
      ·dsimp only at d a;obtain⟨rfl,v⟩:=d;cases a;simp only[aP,aV,bS,bV];exact v
    ·dsimp only at d a;obtain⟨rfl,v⟩:=d;cases a;simp only[aP,aV,bS,bV];exact v
 ·clear a;have a:=Q;simp only[aT,seval];apply sp aO a<;>intro _ a
  ·cases a;simp only[aT,seval];rw[au];refine⟨_,rfl,?_⟩;refine⟨0,?_,?_,?_⟩;all_goals (rfl)
  ·cases a;simp only[aT,seval];rw[au];refine⟨_,rfl,?_⟩;refine⟨0,?_,?_,?_⟩;all_goals (rfl)
def xi (l:Option (D×Row)) (d:List D):=di (fl (bo aD) (dc (bo aD))) (fun x:aw×aw=>xK x.1 x.2) (fun r:aw×Int =>.clean (.tup [.agg [.int .i64 r.1.bR.ak,.sl false false r.1.bR.aa.length (ae (eI .i64) r.1.bR.aa),.int .i64 r.1.bN.ak,.sl false false r.1.bN.aa.length (ae (eI .i64) r.1.bN.aa)],.int .i64 r.2])) l d
def Bi:Env:=(Am.ext (Am.ext (Am.ext bl 44 false cm) 77 false gA) 79 false gB)
def QR:bG prog Bi:=(((bG.none.add jo false).add uP false).add uR false)
def oo:=ai @w<|ai @s7<|ai @cm.eq_1<|ai @xS<|ai @gA.eq_1<|ai @gB.eq_1<|@Bi.eq_1
def Rf:bK prog 66 xi:=bK.fh (mode := .clean) tok QR mixed func66 (by kernel_rfl) (fun _ _=>rfl) (fun _=>by kernel_rfl) fun⟨g,h⟩ r a=>by
 replace a:xK g h=some r:=a;apply aF rfl ntmps66 results66;simp only[fj];unfold xK at a;obtain⟨q,j,a⟩:=ab a;simp only[oo,seval,j];obtain⟨p,k,a⟩:=ab a;refine bq 0 (fun s t H e=>match s with|b=>∃c:Nat,∃d:Nat,∃f:Nat,t 2=.ptr 2 c 0∧t 3=.ptr 3 d 0∧t 4=.ptr 4 f 0∧t 17=.bool b∧H 2=some ⟨c,42,[.int .i64 g.bR.ak,.sl false false g.bR.aa.length (ae (eI .i64) g.bR.aa),.int .i64 g.bN.ak,.sl false false g.bN.aa.length (ae (eI .i64) g.bN.aa)],false,false,false⟩∧H 3=some ⟨d,42,[.int .i64 h.bR.ak,.sl false false h.bR.aa.length (ae (eI .i64) h.bR.aa),.int .i64 h.bN.ak,.sl false false h.bN.aa.length (ae (eI .i64) h.bN.aa)],false,false,false⟩∧H 4=some ⟨f,42,[.int .i64 0,.sl true true 0 [],.int .i64 0,.sl true true 0 []],false,false,false⟩) (fun s=>s=p) ?_ ?_
 ·rintro b t H e ⟨c,d,f,i⟩ rfl;try dsimp only at a
  simp only[oo,seval,i];apply sp aj a<;>intro _ a
  ·cases a;simp only[oo,seval,i]
  ·obtain⟨u,l,a⟩:=ab a;obtain⟨v,m,a⟩:=ab a;obtain⟨w,n,a⟩:=ab a;cases a;simp only[oo,seval,i,l,m,n]
 ·clear a;have a:=k;simp only[oo,seval];apply sp aO a<;>intro _ a
  ·cases a;simp only[oo,seval];rw[au];refine⟨_,rfl,?_⟩;refine⟨0,0,0,?_,?_,?_,?_,?_,?_,?_⟩;all_goals (rfl)
  ·obtain⟨x,o,a⟩:=ab a;cases a;simp only[oo,seval,o];rw[au];refine⟨_,rfl,?_⟩;refine⟨0,0,0,?_,?_,?_,?_,?_,?_,?_⟩;all_goals (rfl)
def ua (l:Option (D×Row)) (d:List D):=di (fl (bo jk) (fl (bo bx) (fl (aI .i64) (dc (aI .i64))))) (fun x:bg×bF×Int×Int=>rD x.1 x.2.1 x.2.2.1 x.2.2.2) (fun r:aw =>.clean (.agg [.int .i64 r.bR.ak,.sl false false r.bR.aa.length (ae (eI .i64) r.bR.aa),.int .i64 r.bN.ak,.sl false false r.bN.aa.length (ae (eI .i64) r.bN.aa)])) l d
def acV {β:Type} {F:bg×bF×Int×Int->Option β} {R:β->RK} (a:(List Int)) (b:(List bF)) (c:(List fK)) (d:(List uf)) (e:(List (List aw))) (f:(List fv)) (g:(List Int)) (h:Int) (i:Int):di (fl (bo jk) (fl (bo bx) (fl (aI .i64) (dc (aI .i64))))) F R none [.agg [.sl false false a.length (ae (eI .i64) a),.sl false false b.length (ae bx b)],.agg [.sl false false c.length (ae aR c),.sl false false d.length (ae b8 d),.sl false false e.length (ae (hZ aD) e),.sl false false f.length (ae dD f),.sl false false g.length (ae (eI .i64) g)],.int .i64 h,.int .i64 i]=(F ((bg.mk a b),(bF.mk (cJ.mk c d e) f g),h,i)).map fun r=>(R r,none):=cB _ _ _ ((bg.mk a b),(bF.mk (cJ.mk c d e) f g),h,i)
def zb:Env:=(Am.ext (Am.ext (Am.ext (Am.ext (Am.ext (Am.ext bl 24 false cF) 36 false jD) 48 false lp) 56 false ji) 57 false lU) 66 false xi)
def Nz:bG prog zb:=((((((bG.none.add j9 false).add zh false).add BB false).add yv false).add CE false).add Rf false)
def ck:=ai @w<|ai @zA<|ai @cF.eq_1<|ai @lz<|ai @jD.eq_1<|ai @TA<|ai @lp.eq_1<|ai @Zo<|ai @ji.eq_1<|ai @Zp<|ai @lU.eq_1<|ai @xi.eq_1<|@zb.eq_1
def OC:bK prog 37 ua:=bK.fh (mode := .clean) tok Nz mixed func37 (by kernel_rfl) (fun _ _=>rfl) (fun _=>by kernel_rfl) fun⟨k,b,p2,p3⟩ r a=>by
 replace a:rD k b p2 p3=some r:=a;apply aF rfl ntmps37 results37;simp only[fj];unfold rD at a;obtain⟨r1,aB,a⟩:=ab a;simp only[ck,seval,aB];obtain⟨aC,ah,a⟩:=ab a;refine ax (fun s t H e=>match s with|(l,O,v,P,w)=>∃W:Nat,∃X:Nat,∃Q:Nat,∃R:Nat,t 2=.int .i64 p2∧t 3=.int .i64 p3∧t 4=.ptr 4 W 0∧t 5=.ptr 5 X 0∧t 8=.ptr 8 Q 0∧t 9=.ptr 9 R 0∧t 10=.int .i64 l∧H 4=some ⟨W,25,[.sl false false k.al.length (ae (eI .i64) k.al),.sl false false k.ao.length (ae bx k.ao)],false,false,false⟩∧H 5=some ⟨X,60,[.sl false false b.an.ah.length (ae aR b.an.ah),.sl false false b.an.aB.length (ae b8 b.an.aB),.sl false false b.an.av.length (ae (hZ aD) b.an.av),.sl false false b.aL.length (ae dD b.aL),.sl false false b.aq.length (ae (eI .i64) b.aq)],false,false,false⟩∧H 8=some ⟨Q,42,[.int .i64 0,.sl true true 0 [],.int .i64 0,.sl true true 0 []],false,false,false⟩∧H 9=some ⟨R,42,[.int .i64 O,.sl false false v.length (ae (eI .i64) v),.int .i64 P,.sl false false w.length (ae (eI .i64) w)],false,false,false⟩) (fun o x t H e=>match o with|(B,g,C,h)=>x=.exit 0∧∃S:Nat,∃T:Nat,t 8=.ptr 8 S 0∧t 9=.ptr 9 T 0∧H 8=some ⟨S,42,[.int .i64 0,.sl true true 0 [],.int .i64 0,.sl true true 0 []],false,false,false⟩∧H 9=some ⟨T,42,[.int .i64 B,.sl false false g.length (ae (eI .i64) g),.int .i64 C,.sl false false h.length (ae (eI .i64) h)],false,false,false⟩) ah ?_ ?_ ?_
 ·refine⟨0,0,0,1,?_,?_,?_,?_,?_,?_,?_,?_,?_,?_,?_⟩;all_goals (rfl)
 ·rintro⟨l,O,v,P,w⟩ t H e ⟨W,X,Q,R,Za⟩ c a;simp only[po]at a;simp only[ck,seval,Za];apply sp aj a<;>intro _ a
  ·simp only[ck,seval];obtain⟨aE,ai,a⟩:=ab a;refine ax (fun s t H e=>match s with|(U,y,d,z,f)=>∃K:Nat,∃L:Nat,∃M:Nat,∃N:Nat,t 2=.int .i64 p2∧t 3=.int .i64 p3∧t 4=.ptr 4 K 0∧t 5=.ptr 5 L 0∧t 8=.ptr 8 M 0∧t 9=.ptr 9 N 0∧t 10=.int .i64 l∧t 11=.int .i64 U∧H 4=some ⟨K,25,[.sl false false k.al.length (ae (eI .i64) k.al),.sl false false k.ao.length (ae bx k.ao)],false,false,false⟩∧H 5=some ⟨L,60,[.sl false false b.an.ah.length (ae aR b.an.ah),.sl false false b.an.aB.length (ae b8 b.an.aB),.sl false false b.an.av.length (ae (hZ aD) b.an.av),.sl false false b.aL.length (ae dD b.aL),.sl false false b.aq.length (ae (eI .i64) b.aq)],false,false,false⟩∧H 8=some ⟨M,42,[.int .i64 0,.sl true true 0 [],.int .i64 0,.sl true true 0 []],false,false,false⟩∧H 9=some ⟨N,42,[.int .i64 y,.sl false false d.length (ae (eI .i64) d),.int .i64 z,.sl false false f.length (ae (eI .i64) f)],false,false,false⟩) (fun o x t H e=>match o with|(D,i,E,j)=>x=.exit 2∧∃F:Nat,∃G:Nat,∃I:Nat,∃J:Nat,t 2=.int .i64 p2∧t 3=.int .i64 p3∧t 4=.ptr 4 F 0∧t 5=.ptr 5 G 0∧t 8=.ptr 8 I 0∧t 9=.ptr 9 J 0∧t 10=.int .i64 l∧H 4=some ⟨F,25,[.sl false false k.al.length (ae (eI .i64) k.al),.sl false false k.ao.length (ae bx k.ao)],false,false,false⟩∧H 5=some ⟨G,60,[.sl false false b.an.ah.length (ae aR b.an.ah),.sl false false b.an.aB.length (ae b8 b.an.aB),.sl false false b.an.av.length (ae (hZ aD) b.an.av),.sl false false b.aL.length (ae dD b.aL),.sl false false b.aq.length (ae (eI .i64) b.aq)],false,false,false⟩∧H 8=some ⟨I,42,[.int .i64 0,.sl true true 0 [],.int .i64 0,.sl true true 0 []],false,false,false⟩∧H 9=some ⟨J,42,[.int .i64 D,.sl false false i.length (ae (eI .i64) i),.int .i64 E,.sl false false j.length (ae (eI .i64) j)],false,false,false⟩) ai ?_ ?_ ?_
   ·refine⟨W,X,Q,R,?_⟩;and_intros<;>first|rfl|(simp only[ck,seval,Za]<;>rfl)
   ·rintro⟨U,y,d,z,f⟩ t H e ⟨K,L,M,N,Ze⟩ c a;simp only[pq]at a;simp only[ck,seval,Ze];apply sp aj a<;>intro _ a
    ·obtain⟨aI,Y,a⟩:=ab a;have m:=bk dD Y;simp only[bT]at m;simp only[ck,seval,Ze,m];obtain⟨aG,ak,a⟩:=ab a;refine bq 0 (fun s t H e=>match s with|V=>∃n:Nat,∃p:Nat,∃q:Nat,∃u:Nat,t 2=.int .i64 p2∧t 3=.int .i64 p3∧t 4=.ptr 4 n 0∧t 5=.ptr 5 p 0∧t 8=.ptr 8 q 0∧t 9=.ptr 9 u 0∧t 10=.int .i64 l∧t 11=.int .i64 U∧t 47=.bool V∧H 4=some ⟨n,25,[.sl false false k.al.length (ae (eI .i64) k.al),.sl false false k.ao.length (ae bx k.ao)],false,false,false⟩∧H 5=some ⟨p,60,[.sl false false b.an.ah.length (ae aR b.an.ah),.sl false false b.an.aB.length (ae b8 b.an.aB),.sl false false b.an.av.length (ae (hZ aD) b.an.av),.sl false false b.aL.length (ae dD b.aL),.sl false false b.aq.length (ae (eI .i64) b.aq)],false,false,false⟩∧H 8=some ⟨q,42,[.int .i64 0,.sl true true 0 [],.int .i64 0,.sl true true 0 []],false,false,false⟩∧H 9=some ⟨u,42,[.int .i64 y,.sl false false d.length (ae (eI .i64) d),.int .i64 z,.sl false false f.length (ae (eI .i64) f)],false,false,false⟩) (fun s=>s=aG) ?_ ?_
     ·rintro V t H e ⟨n,p,q,u,A⟩ rfl;try dsimp only at a
      simp only[ck,seval,A];apply sp aj a<;>intro _ a
      ·have m:=bk dD Y;simp only[bT]at m;obtain⟨aJ,al,a⟩:=ab a;have Z:=bk (eI .i64) al;simp only[bT]at Z;obtain⟨aK,an,a⟩:=ab a;simp only[ck,seval,A,m,Z,an];refine bu (by kernel_rfl) ?_;obtain⟨aL,ao,a⟩:=ab a;obtain⟨aM,aq,a⟩:=ab a;have aa:=bk (hZ aD) aq;simp only[bT]at aa;obtain⟨aN,ar,a⟩:=ab a;obtain⟨aO,av,a⟩:=ab a;have ad:=bk aD av;simp only[bT]at ad;obtain⟨aP,aw,a⟩:=ab a;simp only[ck,seval,A,ao,aa,ar,ad,aw];refine bu (by kernel_rfl) ?_;obtain⟨aQ,ay,a⟩:=ab a;cases a;simp only[ck,seval,A,ay];apply eS;refine⟨n,p,q,u,?_⟩;and_intros<;>first|rfl|(simp only[ck,seval,A]<;>rfl)
      ·cases a;simp only[ck,seval,A];apply eS;refine⟨n,p,q,u,?_⟩;and_intros<;>first|rfl|(simp only[ck,seval,A]<;>rfl)
     ·clear a;have a:=ak;simp only[ck,seval];apply sp dH a<;>intro _ a
      ·obtain⟨aS,az,a⟩:=ab a;have ag:=bk (eI .i64) az;simp only[bT]at ag;cases a;simp only[ck,seval,Ze,ag];rw[au];refine⟨_,rfl,?_⟩;refine⟨K,L,M,N,?_⟩;and_intros<;>first|rfl|(simp only[ck,seval,Ze]<;>rfl)
      ·cases a;simp only[ck,seval];rw[au];refine⟨_,rfl,?_⟩;refine⟨K,L,M,N,?_⟩;and_intros<;>first|rfl|(simp only[ck,seval,Ze]<;>rfl)
    ·cases a;simp only[ck,seval];apply gC;refine⟨rfl,⟨K,L,M,N,?_,?_,?_,?_,?_,?_,?_,?_,?_,?_,?_⟩⟩;all_goals ((simp only[ck,seval,Ze]<;>rfl))
   ·rintro x t H e hx;rcases aE with⟨D,i,E,j⟩;dsimp only at hx a;obtain⟨rfl,⟨F,G,I,J,aA⟩⟩:=hx;cases a;simp only[ck,seval,aA];apply eS;refine⟨F,G,I,J,?_⟩;and_intros<;>first|rfl|(simp only[ck,seval,aA]<;>rfl)
  ·cases a;simp only[ck,seval];apply gC;refine⟨rfl,⟨Q,R,?_,?_,?_,?_⟩⟩;all_goals ((simp only[ck,seval,Za]<;>rfl))
 ·rintro x t H e hx;rcases aC with⟨B,g,C,h⟩;dsimp only at hx a;obtain⟨rfl,⟨S,T,aH⟩⟩:=hx;cases a;simp only[ck,seval,aH]
def zD (l:Option (D×Row)) (d:List D):=di (dc (bo jk)) (fun x:bg=>zn x) (fun r:cA×Int =>.clean (.tup [.agg [.int .i64 r.1.aq,.sl false false r.1.az.length (ae bc r.1.az)],.int .i64 r.2])) l d
def ES:Env:=(Am.vv 6 (50,6,1) (Am.ext (Am.ext (Am.ext (Am.ext (Am.ext bl 8 false jT) 24 false cF) 36 false jD) 37 false ua) 38 false fe))
def Ur:bG prog ES:=(bG.vv (((((bG.none.add Al false).add j9 false).add zh false).add OC false).add si false) 6 (50,6,1))
def cI:=ai @w<|ai @Pc<|ai @jT.eq_1<|ai @zA<|ai @cF.eq_1<|ai @lz<|ai @jD.eq_1<|ai @acV<|ai @ua.eq_1<|ai @s7<|ai @fe.eq_1<|@ES.eq_1
def UK:bK prog 10 zD:=bK.fh (mode := .clean) tok Ur mixed func10 (by kernel_rfl) (fun _ _=>rfl) (fun _=>by kernel_rfl) fun d r a=>by
 replace a:zn d=some r:=a;apply aF rfl ntmps10 results10;simp only[fj];unfold zn at a;obtain⟨r1,ah,a⟩:=ab a;simp only[cI,seval,ah];apply sp aj a<;>intro _ a
 ·cases a;simp only[cI,seval]
 ·have ai:bump (4*(3)+2) (3)=some (4*(3)+3):=L7 rfl;simp only[cI,seval,ai];obtain⟨aD,ak,a⟩:=ab a;refine ax (fun s t H e=>match s with|(G,v)=>∃X:Nat,∃I:Nat,∃J:Nat,∃l:Nat,t 1=.ptr 1 X 0∧t 2=.ptr 2 I 0∧t 6=.ptr 6 J 0∧t 7=.int .i64 G∧H 1=some ⟨X,25,[.sl false false d.al.length (ae (eI .i64) d.al),.sl false false d.ao.length (ae bx d.ao)],false,false,false⟩∧H 2=some ⟨I,28,[.int .i64 0,.sl true true 0 []],false,false,false⟩∧H 6=some ⟨J,28,[.nr 50 6 l [.int .i64 (d.al.length:Int),.nx (v).length (ae bc v)]],false,false,true⟩∧l<=4*e) (fun o x t H e=>match o with|g=>x=.exit 0∧∃K:Nat,∃L:Nat,∃w:Nat,t 2=.ptr 2 K 0∧t 6=.ptr 6 L 0∧H 2=some ⟨K,28,[.int .i64 0,.sl true true 0 []],false,false,false⟩∧H 6=some ⟨L,28,[.nr 50 6 w [.int .i64 (d.al.length:Int),.nx (g).length (ae bc g)]],false,false,true⟩∧w<=4*e) ak ?_ ?_ ?_
  ·refine⟨0,0,3,4*(3)+3,?_,?_,?_,?_,?_,?_,?_,?_⟩;all_goals (first|rfl|omega|(simp only[cI,seval,ah,ai]<;>rfl))
  ·rintro⟨G,v⟩ t H e ⟨X,I,J,l,Za⟩ c a;simp only[qy]at a;simp only[cI,seval,Za];apply sp aj a<;>intro _ a
   ·simp only[cI,seval];obtain⟨aE,al,a⟩:=ab a;refine ax (fun s t H e=>match s with|(Y,b)=>∃M:Nat,∃N:Nat,∃O:Nat,∃m:Nat,t 1=.ptr 1 M 0∧t 2=.ptr 2 N 0∧t 6=.ptr 6 O 0∧t 7=.int .i64 G∧t 8=.int .i64 Y∧H 1=some ⟨M,25,[.sl false false d.al.length (ae (eI .i64) d.al),.sl false false d.ao.length (ae bx d.ao)],false,false,false⟩∧H 2=some ⟨N,28,[.int .i64 0,.sl true true 0 []],false,false,false⟩∧H 6=some ⟨O,28,[.nr 50 6 m [.int .i64 (d.al.length:Int),.nx (b).length (ae bc b)]],false,false,true⟩∧m<=4*e) (fun o x t H e=>match o with|h=>x=.exit 2∧∃B:Nat,∃C:Nat,∃D:Nat,∃i:Nat,t 1=.ptr 1 B 0∧t 2=.ptr 2 C 0∧t 6=.ptr 6 D 0∧t 7=.int .i64 G∧H 1=some ⟨B,25,[.sl false false d.al.length (ae (eI .i64) d.al),.sl false false d.ao.length (ae bx d.ao)],false,false,false⟩∧H 2=some ⟨C,28,[.int .i64 0,.sl true true 0 []],false,false,false⟩∧H 6=some ⟨D,28,[.nr 50 6 i [.int .i64 (d.al.length:Int),.nx (h).length (ae bc h)]],false,false,true⟩∧i<=4*e) al ?_ ?_ ?_
    ·refine⟨X,I,J,l,?_,?_,?_,?_,?_,?_,?_,?_,?_⟩;all_goals (first|rfl|omega|(simp only[cI,seval,Za]<;>rfl))
    ·rintro⟨Y,b⟩ t H e ⟨M,N,O,m,Ze⟩ c a;simp only[qz]at a;simp only[cI,seval,Ze];apply sp aj a<;>intro _ a
     ·obtain⟨aH,an,a⟩:=ab a;simp only[cI,seval,an];obtain⟨aG,ao,a⟩:=ab a;refine ax (fun s t H e=>match s with|(Z,P,y,Q,A)=>∃R:Nat,∃S:Nat,∃T:Nat,∃U:Nat,∃n:Nat,t 1=.ptr 1 R 0∧t 2=.ptr 2 S 0∧t 6=.ptr 6 T 0∧t 7=.int .i64 G∧t 8=.int .i64 Y∧t 9=.ptr 9 U 0∧t 10=.int .i64 Z∧H 1=some ⟨R,25,[.sl false false d.al.length (ae (eI .i64) d.al),.sl false false d.ao.length (ae bx d.ao)],false,false,false⟩∧H 2=some ⟨S,28,[.int .i64 0,.sl true true 0 []],false,false,false⟩∧H 6=some ⟨T,28,[.nr 50 6 n [.int .i64 (d.al.length:Int),.nx (b).length (ae bc b)]],false,false,true⟩∧H 9=some ⟨U,42,[.int .i64 P,.sl false false y.length (ae (eI .i64) y),.int .i64 Q,.sl false false A.length (ae (eI .i64) A)],false,false,false⟩∧n<=4*e) (fun o x t H e=>match o with|(E,j,F,k)=>x=.exit 4∧∃p:Nat,∃q:Nat,∃u:Nat,∃V:Nat,∃f:Nat,t 1=.ptr 1 p 0∧t 2=.ptr 2 q 0∧t 6=.ptr 6 u 0∧t 7=.int .i64 G∧t 8=.int .i64 Y∧t 9=.ptr 9 V 0∧H 1=some ⟨p,25,[.sl false false d.al.length (ae (eI .i64) d.al),.sl false false d.ao.length (ae bx d.ao)],false,false,false⟩∧H 2=some ⟨q,28,[.int .i64 0,.sl true true 0 []],false,false,false⟩∧H 6=some ⟨u,28,[.nr 50 6 f [.int .i64 (d.al.length:Int),.nx (b).length (ae bc b)]],false,false,true⟩∧H 9=some ⟨V,42,[.int .i64 E,.sl false false j.length (ae (eI .i64) j),.int .i64 F,.sl false false k.length (ae (eI .i64) k)],false,false,false⟩∧f<=4*e) ao ?_ ?_ ?_
      ·refine⟨M,N,O,e+1,m,?_,?_,?_,?_,?_,?_,?_,?_,?_,?_,?_,?_⟩;all_goals (first|rfl|omega|(simp only[cI,seval,Ze]<;>rfl))
      ·rintro⟨Z,P,y,Q,A⟩ t H e ⟨R,S,T,U,n,Zg⟩ c a;simp only[tE]at a;simp only[cI,seval,Zg];apply sp aj a<;>intro _ a
       ·obtain⟨aI,aq,a⟩:=ab a;have aa:=bk bx aq;simp only[bT]at aa;obtain⟨aJ,ar,a⟩:=ab a;obtain⟨aK,au,a⟩:=ab a;simp only[cI,seval,Zg,aa,ar,au];refine bu (by kernel_rfl) ?_;cases a;apply eS;refine⟨R,S,T,U,n,?_,?_,?_,?_,?_,?_,?_,?_,?_,?_,?_,?_⟩;all_goals (first|rfl|omega|(simp only[cI,seval,Zg]<;>rfl))
       ·cases a;simp only[cI,seval];apply gC;refine⟨rfl,⟨R,S,T,U,n,?_,?_,?_,?_,?_,?_,?_,?_,?_,?_,?_⟩⟩;all_goals (first|rfl|omega|(simp only[cI,seval,Zg]<;>rfl))
      ·rintro x t H e hx;rcases aG with⟨E,j,F,k⟩;dsimp only at hx a;obtain⟨rfl,⟨p,q,u,V,f,W⟩⟩:=hx;obtain⟨aL,av,a⟩:=ab a;simp only[cI,seval,W,av];apply sp aj a<;>intro _ a
       ·obtain⟨aM,aw,a⟩:=ab a;obtain⟨ay,ad,az,aA⟩:=fY bc aw;simp only[bT]at ad;have aB:bump f (e+1)=some (4*(e+1)+1):=J6 (by omega);cases a;simp only[cI,seval,W,ay,ad,az,aA,aB];apply eS;refine⟨p,q,u,4*(e+1)+1,?_,?_,?_,?_,?_,?_,?_,?_,?_⟩;all_goals (first|rfl|omega|(simp only[cI,seval,W]<;>rfl))
       ·cases a;simp only[cI,seval,W];apply eS;refine⟨p,q,u,f,?_,?_,?_,?_,?_,?_,?_,?_,?_⟩;all_goals (first|rfl|omega|(simp only[cI,seval,W]<;>rfl))
     ·cases a;simp only[cI,seval];apply gC;refine⟨rfl,⟨M,N,O,m,?_,?_,?_,?_,?_,?_,?_,?_⟩⟩;all_goals (first|rfl|omega|(simp only[cI,seval,Ze]<;>rfl))
    ·rintro x t H e hx;obtain⟨h,rfl⟩:∃z,z=aE:=⟨_,rfl⟩;dsimp only at hx a;obtain⟨rfl,⟨B,C,D,i,aC⟩⟩:=hx;cases a;simp only[cI,seval,aC];apply eS;refine⟨B,C,D,i,?_,?_,?_,?_,?_,?_,?_,?_⟩;all_goals (first|rfl|omega|(simp only[cI,seval,aC]<;>rfl))
   ·cases a;simp only[cI,seval];apply gC;refine⟨rfl,⟨I,J,l,?_,?_,?_,?_,?_⟩⟩;all_goals (first|rfl|omega|(simp only[cI,seval,Za]<;>rfl))
  ·rintro x t H e hx;obtain⟨g,rfl⟩:∃z,z=aD:=⟨_,rfl⟩;dsimp only at hx a;obtain⟨rfl,⟨K,L,w,ag⟩⟩:=hx;simp only[cI,seval,ag];apply sp aj a<;>intro _ a
   ·cases a;simp only[cI,seval,ag]
   ·cases a;simp only[cI,seval,ag]
def iz (l:Option (D×Row)) (d:List D):=di (fl (bo lr) (dc (aI .i64))) (fun x:cA×Int=>ng x.1 x.2) (fun r:aw =>.clean (.agg [.int .i64 r.bR.ak,.sl false false r.bR.aa.length (ae (eI .i64) r.bR.aa),.int .i64 r.bN.ak,.sl false false r.bN.aa.length (ae (eI .i64) r.bN.aa)])) l d
def za:Env:=(Am.ext (Am.ext bl 24 false cF) 47 false nJ)
def Ny:bG prog za:=((bG.none.add j9 false).add F2 false)
def iH:=ai @w<|ai @zA<|ai @cF.eq_1<|ai @lz<|ai @nJ.eq_1<|@za.eq_1
def wP:bK prog 45 iz:=bK.fh (mode := .clean) tok Ny mixed func45 (by kernel_rfl) (fun _ _=>rfl) (fun _=>by kernel_rfl) fun⟨A,E⟩ r a=>by
 replace a:ng A E=some r:=a;apply aF rfl ntmps45 results45;simp only[fj];unfold ng at a;obtain⟨J,B,a⟩:=ab a;simp only[iH,seval,B];obtain⟨G,C,a⟩:=ab a;refine ax (fun s t H e=>match s with|(w,l,f,m,g)=>∃n:Nat,∃j:Nat,∃k:Nat,t 1=.int .i64 E∧t 2=.ptr 2 n 0∧t 4=.ptr 4 j 0∧t 5=.ptr 5 k 0∧t 6=.int .i64 w∧H 2=some ⟨n,28,[.int .i64 A.aq,.sl false false A.az.length (ae bc A.az)],false,false,false⟩∧H 4=some ⟨j,42,[.int .i64 0,.sl true true 0 [],.int .i64 0,.sl true true 0 []],false,false,false⟩∧H 5=some ⟨k,42,[.int .i64 l,.sl false false f.length (ae (eI .i64) f),.int .i64 m,.sl false false g.length (ae (eI .i64) g)],false,false,false⟩) (fun o x t H e=>match o with|(h,b,i,d)=>x=.exit 0∧∃p:Nat,∃q:Nat,t 4=.ptr 4 p 0∧t 5=.ptr 5 q 0∧H 4=some ⟨p,42,[.int .i64 0,.sl true true 0 [],.int .i64 0,.sl true true 0 []],false,false,false⟩∧H 5=some ⟨q,42,[.int .i64 h,.sl false false b.length (ae (eI .i64) b),.int .i64 i,.sl false false d.length (ae (eI .i64) d)],false,false,false⟩) C ?_ ?_ ?_
 ·refine⟨0,0,1,?_,?_,?_,?_,?_,?_,?_,?_⟩;all_goals (rfl)
 ·rintro⟨w,l,f,m,g⟩ t H e ⟨n,j,k,v⟩ c a;simp only[pn]at a;simp only[iH,seval,v];apply sp aj a<;>intro _ a
  ·obtain⟨K,y,a⟩:=ab a;have u:=bk bc y;simp only[bT]at u;simp only[iH,seval,v,u];apply sp aj a<;>intro _ a
   ·have u:=bk bc y;simp only[bT]at u;obtain⟨I,z,a⟩:=ab a;simp only[iH,seval,v,u,z];refine bu (by kernel_rfl) ?_;cases a;apply eS;refine⟨n,j,k,?_⟩;and_intros<;>first|rfl|(simp only[iH,seval,v]<;>rfl)
   ·cases a;simp only[iH,seval,v];apply eS;refine⟨n,j,k,?_⟩;and_intros<;>first|rfl|(simp only[iH,seval,v]<;>rfl)
  ·cases a;simp only[iH,seval];apply gC;refine⟨rfl,⟨j,k,?_,?_,?_,?_⟩⟩;all_goals ((simp only[iH,seval,v]<;>rfl))
 ·rintro x t H e F;rcases G with⟨h,b,i,d⟩;dsimp only at F a;obtain⟨rfl,⟨p,q,D⟩⟩:=F;cases a;simp only[iH,seval,D]
def gr (l:Option (D×Row)) (d:List D):=di (dc (bo lr)) (fun x:cA=>mn x) (fun r:Bool =>.clean (.bool r)) l d
def wz:Env:=(Am.ext (Am.ext (Am.ext (Am.ext bl 29 false iO) 38 false fe) 44 false cm) 45 false iz)
def KG:bG prog wz:=((((bG.none.add xG false).add si false).add jo false).add wP false)
def aS:=ai @w<|ai @tH<|ai @iO.eq_1<|ai @s7<|ai @fe.eq_1<|ai @cm.eq_1<|ai @Hs<|ai @iz.eq_1<|@wz.eq_1
def uS:bK prog 13 gr:=bK.fh (mode := .clean) tok KG mixed func13 (by kernel_rfl) (fun _ _=>rfl) (fun _=>by kernel_rfl) fun h r a=>by
 replace a:mn h=some r:=a;apply aF rfl ntmps13 results13;simp only[fj];unfold mn at a;obtain⟨r1,P,a⟩:=ab a;simp only[aS,seval,P];obtain⟨W,Q,a⟩:=ab a;refine bq 0 (fun s t H e=>match s with|k=>∃i:Nat,t 1=.ptr 1 i 0∧t 16=.bool k∧H 1=some ⟨i,28,[.int .i64 h.aq,.sl false false h.az.length (ae bc h.az)],false,false,false⟩) (fun s=>s=W) ?_ ?_
 ·rintro k t H e ⟨i,z⟩ rfl;try dsimp only at a
  simp only[aS,seval,z];apply sp aj a<;>intro _ a
  ·cases a;simp only[aS,seval]
  ·simp only[aS,seval];obtain⟨R,A,a⟩:=ab a;refine ax (fun s t H e=>match s with|y=>∃f:Nat,t 1=.ptr 1 f 0∧t 3=.int .i64 y∧H 1=some ⟨f,28,[.int .i64 h.aq,.sl false false h.az.length (ae bc h.az)],false,false,false⟩) (fun o x t H e=>match o with|(.inl _)=>x=.exit 0∧∃j:Nat,t 1=.ptr 1 j 0∧H 1=some ⟨j,28,[.int .i64 h.aq,.sl false false h.az.length (ae bc h.az)],false,false,false⟩|(.inr r)=>x=.ret∧eB .clean tab none [.tmp 2] ⟨t,EH H,e⟩=some (.clean (.bool r),none)) A ?_ ?_ ?_
   ·refine⟨i,?_⟩;and_intros<;>first|rfl|(simp only[aS,seval,z]<;>rfl)
   ·rintro y t H e ⟨f,q⟩ c a;simp only[mY]at a;simp only[aS,seval,q];apply sp aj a<;>intro _ a
    ·obtain⟨g,B,a⟩:=ab a;have u:=bk bc B;simp only[bT]at u;obtain⟨X,C,a⟩:=ab a;simp only[aS,seval,q,u,C];obtain⟨S,D,a⟩:=ab a;refine bq 0 (fun s t H e=>match s with|l=>∃d:Nat,∃m:Nat,t 1=.ptr 1 d 0∧t 3=.int .i64 y∧t 4=.ptr 4 m 0∧t 56=.bool l∧H 1=some ⟨d,28,[.int .i64 h.aq,.sl false false h.az.length (ae bc h.az)],false,false,false⟩∧H 4=some ⟨m,50,[.int .i64 g.bI,.int .i64 g.fU,.int .i64 g.bJ.bR.ak,.sl false false g.bJ.bR.aa.length (ae (eI .i64) g.bJ.bR.aa),.int .i64 g.bJ.bN.ak,.sl false false g.bJ.bN.aa.length (ae (eI .i64) g.bJ.bN.aa)],false,false,false⟩) (fun s=>s=S) ?_ ?_
     ·rintro l t H e ⟨d,m,b⟩ rfl;try dsimp only at a
      simp only[aS,seval,b];apply sp aj a<;>intro _ a
      ·cases a;simp only[aS,seval];refine lk ⟨rfl,?_⟩;simp only[aS,seval]
      ·simp only[aS,seval,b];apply sp aj a<;>intro _ a
       ·obtain⟨Y,E,a⟩:=ab a;have v:=bk bc E;simp only[bT]at v;simp only[aS,seval,b,v];apply sp aO a<;>intro _ a
        ·cases a;simp only[aS,seval];refine lk ⟨rfl,?_⟩;simp only[aS,seval]
        ·simp only[aS,seval,b];apply sp dH a<;>intro _ a
         ·simp only[aS,seval,b];apply sp aj a<;>intro _ a
          ·cases a;simp only[aS,seval];refine lk ⟨rfl,?_⟩;simp only[aS,seval]
          ·cases a;simp only[aS,seval,b];apply eS;refine⟨d,?_⟩;and_intros<;>first|rfl|(simp only[aS,seval,b]<;>rfl)
         ·cases a;simp only[aS,seval,b];apply eS;refine⟨d,?_⟩;and_intros<;>first|rfl|(simp only[aS,seval,b]<;>rfl)
       ·cases a;simp only[aS,seval,b];apply eS;refine⟨d,?_⟩;and_intros<;>first|rfl|(simp only[aS,seval,b]<;>rfl)
     ·clear a;have a:=D;simp only[aS,seval];apply sp aO a<;>intro _ a
      ·cases a;simp only[aS,seval];rw[au];refine⟨_,rfl,?_⟩;refine⟨f,e+1,?_⟩;and_intros<;>first|rfl|(simp only[aS,seval,q]<;>rfl)
      ·obtain⟨Z,F,a⟩:=ab a;simp only[aS,seval,q,F];apply sp aO a<;>intro _ a
       ·cases a;simp only[aS,seval];rw[au];refine⟨_,rfl,?_⟩;refine⟨f,e+1,?_⟩;and_intros<;>first|rfl|(simp only[aS,seval,q]<;>rfl)
       ·obtain⟨aa,G,a⟩:=ab a;simp only[aS,seval,G];apply sp aO a<;>intro _ a
        ·cases a;simp only[aS,seval];rw[au];refine⟨_,rfl,?_⟩;refine⟨f,e+1,?_⟩;and_intros<;>first|rfl|(simp only[aS,seval,q]<;>rfl)
        ·obtain⟨ad,I,a⟩:=ab a;cases a;simp only[aS,seval,I];rw[au];refine⟨_,rfl,?_⟩;refine⟨f,e+1,?_⟩;and_intros<;>first|rfl|(simp only[aS,seval,q]<;>rfl)
    ·cases a;simp only[aS,seval];apply gC;refine⟨rfl,⟨f,?_,?_⟩⟩;all_goals ((simp only[aS,seval,q]<;>rfl))
   ·rintro x t H e n;rcases R with _|rb
    ·dsimp only at n a;obtain⟨rfl,⟨j,T⟩⟩:=n;simp only[aS,seval];obtain⟨U,J,a⟩:=ab a;refine ax (fun s t H e=>match s with|K=>∃p:Nat,t 1=.ptr 1 p 0∧t 6=.int .i64 K∧H 1=some ⟨p,28,[.int .i64 h.aq,.sl false false h.az.length (ae bc h.az)],false,false,false⟩) (fun o x t H e=>match o with|(.inl _)=>x=.exit 2|(.inr r)=>x=.ret∧eB .clean tab none [.tmp 2] ⟨t,EH H,e⟩=some (.clean (.bool r),none)) J ?_ ?_ ?_
     ·refine⟨j,?_⟩;and_intros<;>first|rfl|(simp only[aS,seval,T]<;>rfl)
     ·rintro K t H e ⟨p,O⟩ c a;simp only[mZ]at a;simp only[aS,seval,O];apply sp aj a<;>intro _ a
      ·obtain⟨ag,L,a⟩:=ab a;have w:=bk bc L;simp only[bT]at w;obtain⟨ah,M,a⟩:=ab a;obtain⟨ai,N,a⟩:=ab a;simp only[aS,seval,O,w,M,N];refine bu (by kernel_rfl) ?_;apply sp aj a<;>intro _ a
       ·cases a;simp only[aS,seval];refine lk ⟨rfl,?_⟩;simp only[aS,seval]
       ·cases a;simp only[aS,seval,O];apply eS;refine⟨p,?_⟩;and_intros<;>first|rfl|(simp only[aS,seval,O]<;>rfl)
      ·cases a;simp only[aS,seval];apply gC;exact rfl
     ·rintro x t H e n;rcases U with _|re
      ·dsimp only at n a;subst n;cases a;simp only[aS,seval]
      ·dsimp only at n a;obtain⟨rfl,V⟩:=n;cases a;simp only[aP,aV,bS,bV];exact V
    ·dsimp only at n a;obtain⟨rfl,V⟩:=n;cases a;simp only[aP,aV,bS,bV];exact V
 ·clear a;have a:=Q;simp only[aS,seval];apply sp aO a<;>intro _ a
  ·cases a;simp only[aS,seval];rw[au];refine⟨_,rfl,?_⟩;refine⟨0,?_,?_,?_⟩;all_goals (rfl)
  ·cases a;simp only[aS,seval];rw[au];refine⟨_,rfl,?_⟩;refine⟨0,?_,?_,?_⟩;all_goals (rfl)
def tX (l:Option (D×Row)) (d:List D):=di (fl (bo lr) (dc (aI .i64))) (fun x:cA×Int=>pc x.1 x.2) (fun r:aw =>.clean (.agg [.int .i64 r.bR.ak,.sl false false r.bR.aa.length (ae (eI .i64) r.bR.aa),.int .i64 r.bN.ak,.sl false false r.bN.aa.length (ae (eI .i64) r.bN.aa)])) l d
def y7:Env:=(Am.ext (Am.ext (Am.ext bl 13 false gr) 29 false iO) 45 false iz)
def Nv:bG prog y7:=(((bG.none.add uS false).add xG false).add wP false)
def rJ:=ai @w<|ai @vx<|ai @gr.eq_1<|ai @tH<|ai @iO.eq_1<|ai @Hs<|ai @iz.eq_1<|@y7.eq_1
def Oz:bK prog 16 tX:=bK.fh (mode := .clean) tok Nv mixed func16 (by kernel_rfl) (fun _ _=>rfl) (fun _=>by kernel_rfl) fun⟨e,f⟩ r a=>by
 replace a:pc e f=some r:=a;apply aF rfl ntmps16 results16;simp only[fj];unfold pc at a;obtain⟨g,b,a⟩:=ab a;simp only[rJ,seval,b];apply sp aO a<;>intro _ a
 ·cases a;simp only[rJ,seval]
 ·obtain⟨h,c,a⟩:=ab a;simp only[rJ,seval,c];apply sp aj a<;>intro _ a
  ·cases a;simp only[rJ,seval]
  ·obtain⟨i,d,a⟩:=ab a;cases a;simp only[rJ,seval,d]
def jU (l:Option (D×Row)) (d:List D):=di (dc (bo lr)) (fun x:cA=>iZ x) (fun r:(List Int) =>.clean (.sl false false r.length (ae (eI .i64) r))) l d
def wy:Env:=(Am.ext (Am.ext (Am.ext bl 13 false gr) 38 false fe) 45 false iz)
def KF:bG prog wy:=(((bG.none.add uS false).add si false).add wP false)
def bt:=ai @w<|ai @vx<|ai @gr.eq_1<|ai @s7<|ai @fe.eq_1<|ai @Hs<|ai @iz.eq_1<|@wy.eq_1
def An:bK prog 19 jU:=bK.fh (mode := .clean) tok KF mixed func19 (by kernel_rfl) (fun _ _=>rfl) (fun _=>by kernel_rfl) fun b r a=>by
 replace a:iZ b=some r:=a;apply aF rfl ntmps19 results19;simp only[fj];unfold iZ at a;obtain⟨r1,ay,a⟩:=ab a;simp only[bt,seval,ay];apply sp aj a<;>intro _ a
 ·cases a;simp only[bt,seval]
 ·simp only[bt,seval];obtain⟨az,U,a⟩:=ab a;refine ax (fun s t H e=>match s with|(V,P)=>∃n:Nat,∃G:Nat,t 1=.ptr 1 n 0∧t 3=.buf 3 G 1 0 (P).length∧t 4=.int .i64 V∧H 1=some ⟨n,28,[.int .i64 b.aq,.sl false false b.az.length (ae bc b.az)],false,false,false⟩∧H 3=some ⟨G,3,ae (eI .i64) P,false,true,false⟩) (fun o x t H e=>match o with|u=>x=.exit 0∧∃j:Nat,∃k:Nat,t 1=.ptr 1 j 0∧t 3=.buf 3 k 1 0 (u).length∧H 1=some ⟨j,28,[.int .i64 b.aq,.sl false false b.az.length (ae bc b.az)],false,false,false⟩∧H 3=some ⟨k,3,ae (eI .i64) u,false,true,false⟩) U ?_ ?_ ?_
  ·refine⟨0,2,?_,?_,?_,?_,?_⟩;all_goals (rfl)
  ·rintro⟨V,P⟩ t H e ⟨n,G,Q⟩ c a;simp only[kL]at a;simp only[bt,seval,Q];apply sp aj a<;>intro _ a
   ·obtain⟨aG,W,a⟩:=ab a;obtain⟨aH,X,a⟩:=ab a;simp only[bt,seval,Q,W,X];apply sp aj a<;>intro _ a
    ·obtain⟨aI,Y,a⟩:=ab a;obtain⟨Z,J,aa,ad⟩:=fY (eI .i64) Y;simp only[bT]at J;cases a;simp only[bt,seval,Q,Z,J,aa,ad];apply eS;refine⟨n,e+1+1+1+1,?_⟩;and_intros<;>first|rfl|(simp only[bt,seval,Q]<;>rfl)
    ·obtain⟨aJ,ag,a⟩:=ab a;obtain⟨ah,K,ai,ak⟩:=fY (eI .i64) ag;simp only[bT]at K;cases a;simp only[bt,seval,Q,ah,K,ai,ak];apply eS;refine⟨n,e+1+1+1,?_⟩;and_intros<;>first|rfl|(simp only[bt,seval,Q]<;>rfl)
   ·cases a;simp only[bt,seval];apply gC;refine⟨rfl,⟨n,G,?_,?_,?_,?_⟩⟩;all_goals ((simp only[bt,seval,Q]<;>rfl))
  ·rintro x t H e L;obtain⟨u,rfl⟩:∃z,z=az:=⟨_,rfl⟩;dsimp only at L a;obtain⟨rfl,⟨j,k,aA⟩⟩:=L;simp only[bt,seval];obtain⟨aB,al,a⟩:=ab a;refine ax (fun s t H e=>match s with|(i,R)=>∃I:Nat,∃v:Nat,t 1=.ptr 1 I 0∧t 3=.buf 3 v 1 0 (R).length∧t 6=.int .i64 i∧H 1=some ⟨I,28,[.int .i64 b.aq,.sl false false b.az.length (ae bc b.az)],false,false,false⟩∧H 3=some ⟨v,3,ae (eI .i64) R,false,true,false⟩) (fun o x t H e=>match o with|w=>x=.exit 2∧∃y:Nat,t 3=.buf 3 y 1 0 (w).length∧H 3=some ⟨y,3,ae (eI .i64) w,false,true,false⟩) al ?_ ?_ ?_
   ·refine⟨j,k,?_⟩;and_intros<;>first|rfl|(simp only[bt,seval,aA]<;>rfl)
   ·rintro⟨i,R⟩ t H e ⟨I,v,Zb⟩ c a;simp only[mX]at a;simp only[bt,seval,Zb];apply sp aj a<;>intro _ a
    ·simp only[bt,seval];obtain⟨aC,an,a⟩:=ab a;refine ax (fun s t H e=>match s with|(S,A)=>∃p:Nat,∃q:Nat,t 1=.ptr 1 p 0∧t 3=.buf 3 q 1 0 (A).length∧t 6=.int .i64 i∧t 7=.int .i64 S∧H 1=some ⟨p,28,[.int .i64 b.aq,.sl false false b.az.length (ae bc b.az)],false,false,false⟩∧H 3=some ⟨q,3,ae (eI .i64) A,false,true,false⟩) (fun o x t H e=>match o with|B=>x=.exit 4∧∃l:Nat,∃m:Nat,t 1=.ptr 1 l 0∧t 3=.buf 3 m 1 0 (B).length∧t 6=.int .i64 i∧H 1=some ⟨l,28,[.int .i64 b.aq,.sl false false b.az.length (ae bc b.az)],false,false,false⟩∧H 3=some ⟨m,3,ae (eI .i64) B,false,true,false⟩) an ?_ ?_ ?_
     ·refine⟨I,v,?_⟩;and_intros<;>first|rfl|(simp only[bt,seval,Zb]<;>rfl)
     ·rintro⟨S,A⟩ t H e ⟨p,q,T⟩ c a;simp only[kM]at a;simp only[bt,seval,T];apply sp aj a<;>intro _ a
      ·obtain⟨d,ao,a⟩:=ab a;have M:=bk bc ao;simp only[bT]at M;obtain⟨aK,C,a⟩:=ab a;have f:=bk (eI .i64) C;simp only[bT]at f;simp only[bt,seval,T,M,f];obtain⟨aD,aq,a⟩:=ab a;refine bq 0 (fun s t H e=>match s with|D=>∃g:Nat,∃h:Nat,∃E:Nat,t 1=.ptr 1 g 0∧t 3=.buf 3 h 1 0 (A).length∧t 6=.int .i64 i∧t 7=.int .i64 S∧t 8=.ptr 8 E 0∧t 60=.bool D∧H 1=some ⟨g,28,[.int .i64 b.aq,.sl false false b.az.length (ae bc b.az)],false,false,false⟩∧H 3=some ⟨h,3,ae (eI .i64) A,false,true,false⟩∧H 8=some ⟨E,50,[.int .i64 d.bI,.int .i64 d.fU,.int .i64 d.bJ.bR.ak,.sl false false d.bJ.bR.aa.length (ae (eI .i64) d.bJ.bR.aa),.int .i64 d.bJ.bN.ak,.sl false false d.bJ.bN.aa.length (ae (eI .i64) d.bJ.bN.aa)],false,false,false⟩) (fun s=>s=aD) ?_ ?_
       ·rintro D t H e ⟨g,h,E,F⟩ rfl;try dsimp only at a
        simp only[bt,seval,F];apply sp aj a<;>intro _ a
        ·have f:=bk (eI .i64) C;simp only[bT]at f;have ar:=fN (eI .i64) (x':=i) (fo:=0) (cs:=[.int .i64 i]) C rfl (agG rfl);simp only[bT,Nat.add_zero]at ar;have N:=ar;simp only[putCells,List.length_cons,List.length_nil,afH]at N;cases a;simp only[bt,seval,F,f,N];apply eS;refine⟨g,h,?_⟩;and_intros<;>first|rfl|(simp only[bt,seval,F]<;>rfl)
        ·cases a;simp only[bt,seval,F];apply eS;refine⟨g,h,?_⟩;and_intros<;>first|rfl|(simp only[bt,seval,F]<;>rfl)
       ·clear a;have a:=aq;simp only[bt,seval];apply sp dH a<;>intro _ a
        ·obtain⟨aL,av,a⟩:=ab a;have O:=bk (eI .i64) av;simp only[bT]at O;cases a;simp only[bt,seval,T,O];rw[au];refine⟨_,rfl,?_⟩;refine⟨p,q,e+1,?_⟩;and_intros<;>first|rfl|(simp only[bt,seval,T]<;>rfl)
        ·cases a;simp only[bt,seval];rw[au];refine⟨_,rfl,?_⟩;refine⟨p,q,e+1,?_⟩;and_intros<;>first|rfl|(simp only[bt,seval,T]<;>rfl)
      ·cases a;simp only[bt,seval];apply gC;refine⟨rfl,⟨p,q,?_,?_,?_,?_,?_⟩⟩;all_goals ((simp only[bt,seval,T]<;>rfl))
     ·rintro x t H e L;obtain⟨B,rfl⟩:∃z,z=aC:=⟨_,rfl⟩;dsimp only at L a;obtain⟨rfl,⟨l,m,aw⟩⟩:=L;cases a;simp only[bt,seval,aw];apply eS;refine⟨l,m,?_⟩;and_intros<;>first|rfl|(simp only[bt,seval,aw]<;>rfl)
    ·cases a;simp only[bt,seval];apply gC;refine⟨rfl,⟨v,?_,?_⟩⟩;all_goals ((simp only[bt,seval,Zb]<;>rfl))
   ·rintro x t H e L;obtain⟨w,rfl⟩:∃z,z=aB:=⟨_,rfl⟩;dsimp only at L a;obtain⟨rfl,⟨y,aE⟩⟩:=L;cases a;simp only[bt,seval,aE]
def oC (l:Option (D×Row)) (d:List D):=di (dc (bo lr)) (fun x:cA=>jg x) (fun r:(List Int) =>.clean (.sl false false r.length (ae (eI .i64) r))) l d
def sY:Env:=(Am.ext bl 19 false jU)
def E4:bG prog sY:=(bG.none.add An false)
def eV:=ai @w<|ai @vx<|ai @jU.eq_1<|@sY.eq_1
def F4:bK prog 21 oC:=bK.fh (mode := .clean) tok E4 mixed func21 (by kernel_rfl) (fun _ _=>rfl) (fun _=>by kernel_rfl) fun B r a=>by
 replace a:jg B=some r:=a;apply aF rfl ntmps21 results21;simp only[fj];unfold jg at a;obtain⟨y,q,a⟩:=ab a;simp only[eV,seval,q];obtain⟨C,u,a⟩:=ab a;refine ax (fun s t H e=>match s with|(j,h)=>∃b:Nat,t 3=.sl false false y.length (ae (eI .i64) y)∧t 4=.buf 4 b 1 0 (h).length∧t 5=.int .i64 j∧H 4=some ⟨b,3,ae (eI .i64) h,false,true,false⟩) (fun o x t H e=>match o with|d=>x=.exit 0∧∃f:Nat,t 4=.buf 4 f 1 0 (d).length∧H 4=some ⟨f,3,ae (eI .i64) d,false,true,false⟩) u ?_ ?_ ?_
 ·refine⟨2,?_,?_,?_,?_⟩;all_goals (rfl)
 ·rintro⟨j,h⟩ t H e ⟨b,i⟩ c a;simp only[gO]at a;simp only[eV,seval,i];apply sp aj a<;>intro _ a
  ·obtain⟨E,v,a⟩:=ab a;have k:=bk (eI .i64) v;simp only[bT]at k;simp only[eV,seval,i,k];apply sp aj a<;>intro _ a
   ·obtain⟨D,l,a⟩:=ab a;obtain⟨m,g,n,p⟩:=fY (eI .i64) l;simp only[bT]at g;cases a;simp only[eV,seval,i,m,g,n,p];apply eS;refine⟨e+1+1,?_⟩;and_intros<;>first|rfl|(simp only[eV,seval,i]<;>rfl)
   ·cases a;simp only[eV,seval,i];apply eS;refine⟨b,?_⟩;and_intros<;>first|rfl|(simp only[eV,seval,i]<;>rfl)
  ·cases a;simp only[eV,seval];apply gC;refine⟨rfl,⟨b,?_,?_⟩⟩;all_goals ((simp only[eV,seval,i]<;>rfl))
 ·rintro x t H e A;obtain⟨d,rfl⟩:∃z,z=C:=⟨_,rfl⟩;dsimp only at A a;obtain⟨rfl,⟨f,w⟩⟩:=A;cases a;simp only[eV,seval,w]
def DG (l:Option (D×Row)) (d:List D):=di (fl (bo jk) (fl (bo lr) (dc (aI .i64)))) (fun x:bg×cA×Int=>jm x.1 x.2.1 x.2.2) (fun r:Bool =>.clean (.bool r)) l d
def rj:Env:=(Am.ext (Am.ext (Am.ext (Am.ext (Am.ext (Am.ext (Am.ext (Am.ext (Am.ext (Am.ext (Am.ext (Am.ext (Am.ext (Am.ext (Am.ext (Am.ext (Am.ext (Am.ext bl 4 false tU) 5 false xj) 6 false pR) 7 false gm) 8 false jT) 9 false qG) 10 false zD) 11 false nK) 12 false eE) 13 false gr) 14 false iy) 15 false lS) 16 false tX) 17 false iN) 18 false gn) 19 false jU) 20 false im) 21 false oC)
def C4:bG prog rj:=((((((((((((((((((bG.none.add Ow false).add Rg false).add Hn false).add uM false).add Al false).add Jf false).add UK false).add CD false).add qe false).add uS false).add wO false).add CA false).add Oz false).add vc false).add uN false).add An false).add wK false).add F4 false)
def a8:=ai @w<|ai @sh8<|ai @tU.eq_1<|ai @Pc<|ai @xj.eq_1<|ai @vx<|ai @pR.eq_1<|ai @gm.eq_1<|ai @jT.eq_1<|ai @qG.eq_1<|ai @zD.eq_1<|ai @acT<|ai @nK.eq_1<|ai @eE.eq_1<|ai @gr.eq_1<|ai @lz<|ai @iy.eq_1<|ai @Hs<|ai @lS.eq_1<|ai @tX.eq_1<|ai @CM<|ai @iN.eq_1<|ai @gn.eq_1<|ai @jU.eq_1<|ai @im.eq_1<|ai @oC.eq_1<|@rj.eq_1
def C9:bK prog 3 DG:=bK.fh (mode := .clean) tok C4 mixed func3 (by kernel_rfl) (fun _ _=>rfl) (fun _=>by kernel_rfl) fun⟨k,j,K⟩ r a=>by
 replace a:jm k j K=some r:=a;apply aF rfl ntmps3 results3;simp only[fj];unfold jm at a;obtain⟨L,B,a⟩:=ab a;obtain⟨r2,C,a⟩:=ab a;simp only[a8,seval,B,C];obtain⟨M,D,a⟩:=ab a;refine bq 0 (fun s t H e=>match s with|d=>∃f:Nat,∃b:Nat,t 2=.int .i64 K∧t 3=.ptr 3 f 0∧t 4=.ptr 4 b 0∧t 7=.bool L∧t 24=.bool d∧H 3=some ⟨f,25,[.sl false false k.al.length (ae (eI .i64) k.al),.sl false false k.ao.length (ae bx k.ao)],false,false,false⟩∧H 4=some ⟨b,28,[.int .i64 j.aq,.sl false false j.az.length (ae bc j.az)],false,false,false⟩) (fun s=>s=M) ?_ ?_
 ·rintro d t H e ⟨f,b,c⟩ rfl;try dsimp only at a
  simp only[a8,seval,c];apply sp aj a<;>intro _ a
  ·cases a;simp only[a8,seval,c]
  ·obtain⟨r5,E,a⟩:=ab a;obtain⟨r6,F,a⟩:=ab a;obtain⟨r7,G,a⟩:=ab a;obtain⟨r8,I,a⟩:=ab a;simp only[a8,seval,c,E,F,G,I];obtain⟨N,J,a⟩:=ab a;refine PB 0 (fun s t H e=>match s with|g=>∃h:Nat,t 4=.ptr 4 h 0∧t 7=.bool L∧t 81=.bool g∧H 4=some ⟨h,28,[.int .i64 j.aq,.sl false false j.az.length (ae bc j.az)],false,false,false⟩) (fun s=>s=N) ?_ ?_
   ·rintro g t H e ⟨h,i⟩ rfl;try dsimp only at a
    simp only[a8,seval,i];apply sp aj a<;>intro _ a
    ·cases a;simp only[a8,seval]
    ·simp only[a8,seval,i];apply sp xV a<;>intro _ a
     ·obtain⟨O,l,a⟩:=ab a;obtain⟨P,m,a⟩:=ab a;obtain⟨Q,n,a⟩:=ab a;simp only[a8,seval,i,l,m,n];apply sp xV a<;>intro _ a
      ·obtain⟨R,o,a⟩:=ab a;obtain⟨S,p,a⟩:=ab a;obtain⟨T,q,a⟩:=ab a;simp only[a8,seval,i,o,p,q];refine bu (by kernel_rfl) ?_;cases a;simp only[seval]
      ·simp only[a8,seval];refine bu (by kernel_rfl) ?_;cases a;simp only[seval]
     ·simp only[a8,seval];refine bu (by kernel_rfl) ?_;cases a;simp only[seval]
   ·clear a;have a:=J;simp only[a8,seval];apply sp jb a<;>intro _ a
    ·simp only[a8,seval];refine bu (by kernel_rfl) ?_;cases a;rw[au];refine⟨_,rfl,?_⟩;refine⟨b,?_⟩;and_intros<;>first|rfl|(simp only[a8,seval,c]<;>rfl)
    ·simp only[a8,seval];apply sp jb a<;>intro _ a
     ·simp only[a8,seval];refine bu (by kernel_rfl) ?_;cases a;rw[au];refine⟨_,rfl,?_⟩;refine⟨b,?_⟩;and_intros<;>first|rfl|(simp only[a8,seval,c]<;>rfl)
     ·simp only[a8,seval];apply sp jb a<;>intro _ a
      ·simp only[a8,seval];refine bu (by kernel_rfl) ?_;cases a;rw[au];refine⟨_,rfl,?_⟩;refine⟨b,?_⟩;and_intros<;>first|rfl|(simp only[a8,seval,c]<;>rfl)
      ·obtain⟨U,u,a⟩:=ab a;simp only[a8,seval,u];apply sp jb a<;>intro _ a
       ·simp only[a8,seval];refine bu (by kernel_rfl) ?_;cases a;rw[au];refine⟨_,rfl,?_⟩;refine⟨b,?_⟩;and_intros<;>first|rfl|(simp only[a8,seval,c]<;>rfl)
       ·obtain⟨V,v,a⟩:=ab a;obtain⟨W,w,a⟩:=ab a;simp only[a8,seval,c,v,w];apply sp jb a<;>intro _ a
        ·simp only[a8,seval];refine bu (by kernel_rfl) ?_;cases a;rw[au];refine⟨_,rfl,?_⟩;refine⟨b,?_⟩;and_intros<;>first|rfl|(simp only[a8,seval,c]<;>rfl)
        ·obtain⟨X,x,a⟩:=ab a;obtain⟨Y,y,a⟩:=ab a;obtain⟨Z,z,a⟩:=ab a;simp only[a8,seval,c,x,y,z];refine bu (by kernel_rfl) ?_;cases a;rw[au];refine⟨_,rfl,?_⟩;refine⟨b,?_⟩;and_intros<;>first|rfl|(simp only[a8,seval,c]<;>rfl)
 ·clear a;have a:=D;simp only[a8,seval];apply sp aO a<;>intro _ a
  ·cases a;simp only[a8,seval];rw[au];refine⟨_,rfl,?_⟩;refine⟨0,0,?_,?_,?_,?_,?_,?_,?_⟩;all_goals (rfl)
  ·obtain⟨aa,A,a⟩:=ab a;cases a;simp only[a8,seval,A];rw[au];refine⟨_,rfl,?_⟩;refine⟨0,0,?_,?_,?_,?_,?_,?_,?_⟩;all_goals (rfl)
end Go.Proofs.YtekhokjkphgphaaGreat.Am
namespace Go.Proofs.YtekhokjkphgphaaGreat.Am
open Go.ChangeShapes Go.WideShapes Go.ChangeAt Go.RowKit Go.Proofs.YtekhokjkphgphaaGreat.P
set_option maxRecDepth 100000
def Tryz.own:ownKnob Tryz.prog.godebug=none:=by kernel_rfl
def Tryz.laidOut:laidOutB prog=true:=by kernel_rfl
def BE (n:Nat):AG tab (n+1) 3 (eI .i64) (fun x=>(Lit.int .i64 x).wf=true):=opI Pw rfl rfl
def Xr (n:Nat):AG tab (n+2) 22 (hZ (eI .i64)) (fun x=>(x.length*8<=140737488351232∧∀y∈x,(Lit.int .i64 y).wf=true)):=OF Lm rfl rfl (by rw[Pw];rfl) (BE n)
def zg (x:fK):Prop:=(Lit.int .i64 x.ba).wf=true∧((Lit.int .i64 x.aZ).wf=true∧((Lit.int .i64 x.a7).wf=true))
def acG (n:Nat):AG tab (n+2) 85 aR (fun x=>zg x):=Yi (g:=fun y=>fK.mk y.1 y.2.1 y.2.2) Lv rfl rfl (fun _=>rfl) (yd (BE n) rfl (yd (BE n) rfl (Ho (BE n))))
def acy (n:Nat):AG tab (n+3) 53 (hZ aR) (fun x=>(x.length*24<=140737488351232∧∀y∈x,zg y)):=OF RB rfl rfl (by rw[Lv];rfl) (acG n)
def aeh (n:Nat):AG tab (n+1) 9 aaO (fun x=>x.size<=140737488351232):=acr XY rfl rfl
def KT (x:uf):Prop:=(Lit.int .i64 x.ba).wf=true∧((Lit.int .i64 x.aZ).wf=true∧((Lit.int .i64 x.a7).wf=true∧(x.Ko.size<=140737488351232)))
def acH (n:Nat):AG tab (n+2) 87 b8 (fun x=>KT x):=Yi (g:=fun y=>uf.mk y.1 y.2.1 y.2.2.1 y.2.2.2) Lw rfl rfl (fun _=>rfl) (yd (BE n) rfl (yd (BE n) rfl (yd (BE n) rfl (Ho (aeh n)))))
def acz (n:Nat):AG tab (n+3) 54 (hZ b8) (fun x=>(x.length*40<=140737488351232∧∀y∈x,KT y)):=OF RD rfl rfl (by rw[Lw];rfl) (acH n)
def KS (x:aG):Prop:=(Lit.int .i64 x.ak).wf=true∧((x.aa.length*8<=140737488351232∧∀y∈x.aa,(Lit.int .i64 y).wf=true))
def aan (n:Nat):AG tab (n+3) 40 dN (fun x=>KS x):=Yi (g:=fun y=>aG.mk y.1 y.2) RA rfl rfl (fun _=>rfl) (yd (BE (n+1)) rfl (Ho (Xr n)))
def wI (x:aw):Prop:=KS x.bR∧(KS x.bN)
def aao (n:Nat):AG tab (n+4) 42 aD (fun x=>wI x):=Yi (g:=fun y=>aw.mk y.1 y.2) Lq rfl rfl (fun _=>rfl) (yd (aan n) rfl (Ho (aan n)))
def acF (n:Nat):AG tab (n+5) 78 (hZ aD) (fun x=>(x.length*64<=140737488351232∧∀y∈x,wI y)):=OF Lu rfl rfl (by rw[Lq];rfl) (aao n)
def acA (n:Nat):AG tab (n+6) 55 (hZ (hZ aD)) (fun x=>(x.length*24<=140737488351232∧∀y∈x,(y.length*64<=140737488351232∧∀z∈y,wI z))):=OF RE rfl rfl (by rw[Lu];rfl) (acF n)
def Oo (x:cJ):Prop:=(x.ah.length*24<=140737488351232∧∀y∈x.ah,zg y)∧((x.aB.length*40<=140737488351232∧∀y∈x.aB,KT y)∧((x.av.length*24<=140737488351232∧∀y∈x.av,(y.length*64<=140737488351232∧∀z∈y,wI z))))
def acB (n:Nat):AG tab (n+7) 57 qO (fun x=>Oo x):=Yi (g:=fun y=>cJ.mk y.1 y.2.1 y.2.2) RF rfl rfl (fun _=>rfl) (yd (acy (n+3)) rfl (yd (acz (n+3)) rfl (Ho (acA n))))
def KU (x:fv):Prop:=(Lit.int .i64 x.b7).wf=true∧((Lit.int .i64 x.a7).wf=true)
def acE (n:Nat):AG tab (n+2) 65 dD (fun x=>KU x):=Yi (g:=fun y=>fv.mk y.1 y.2) Lt rfl rfl (fun _=>rfl) (yd (BE n) rfl (Ho (BE n)))
def acC (n:Nat):AG tab (n+3) 58 (hZ dD) (fun x=>(x.length*16<=140737488351232∧∀y∈x,KU y)):=OF RG rfl rfl (by rw[Lt];rfl) (acE n)
def FI (x:bF):Prop:=Oo x.an∧((x.aL.length*16<=140737488351232∧∀y∈x.aL,KU y)∧((x.aq.length*8<=140737488351232∧∀y∈x.aq,(Lit.int .i64 y).wf=true)))
def acD (n:Nat):AG tab (n+8) 60 bx (fun x=>FI x):=Yi (g:=fun y=>bF.mk y.1 y.2.1 y.2.2) Ls rfl rfl (fun _=>rfl) (yd (acB n) rfl (yd (acC (n+4)) rfl (Ho (Xr (n+5)))))
def acs (n:Nat):AG tab (n+9) 23 (hZ bx) (fun x=>(x.length*120<=140737488351232∧∀y∈x,FI y)):=OF Ry rfl rfl (by rw[Ls];rfl) (acD n)
def xF (x:bg):Prop:=(x.al.length*8<=140737488351232∧∀y∈x.al,(Lit.int .i64 y).wf=true)∧((x.ao.length*120<=140737488351232∧∀y∈x.ao,FI y))
def acu (n:Nat):AG tab (n+10) 25 jk (fun x=>xF x):=Yi (g:=fun y=>bg.mk y.1 y.2) Lo rfl rfl (fun _=>rfl) (yd (Xr (n+7)) rfl (Ho (acs n)))
def FJ (x:bD):Prop:=(Lit.int .i64 x.bI).wf=true∧((Lit.int .i64 x.fU).wf=true∧(wI x.bJ))
def acx (n:Nat):AG tab (n+5) 50 bc (fun x=>FJ x):=Yi (g:=fun y=>bD.mk y.1 y.2.1 y.2.2) Lr rfl rfl (fun _=>rfl) (yd (BE (n+3)) rfl (yd (BE (n+3)) rfl (Ho (aao n))))
def acv (n:Nat):AG tab (n+6) 26 (hZ bc) (fun x=>(x.length*80<=140737488351232∧∀y∈x,FJ y)):=OF Rz rfl rfl (by rw[Lr];rfl) (acx n)
def Du (x:cA):Prop:=(Lit.int .i64 x.aq).wf=true∧((x.az.length*80<=140737488351232∧∀y∈x.az,FJ y))
def acw (n:Nat):AG tab (n+7) 28 lr (fun x=>Du x):=Yi (g:=fun y=>cA.mk y.1 y.2) Lp rfl rfl (fun _=>rfl) (yd (BE (n+5)) rfl (Ho (acv n)))
def zi:VA tab 11 [25,28,3] (fl (bo jk) (fl (bo lr) (dc (aI .i64)))) (fun x=>xF x.1∧(Du x.2.1∧((Lit.int .i64 x.2.2).wf=true))):=(acp (oaS Lo rfl (acu 1)) (acp (oaS Lp rfl (acw 4)) (aef (oaI Pw rfl))))
def yc (law:∀(e:bg) (f:cA) (g:Int),(xF e)->(Du f)->((Lit.int .i64 g).wf=true)->P.jm e f g=some true) (h:Os) (a:h.Started) (H:Type) (b:TypeId×Value->H) :
  ReturnsInHanded {} Tryz.checked h 3 .any (Rows.netTellsSpec.pre6 b prog Tryz.f3 Rows.netTellsRow.domain false) (Rows.netTellsSpec.post b prog Tryz.f3 false true false false):=by
 refine Rs (C:=Tryz.checked) (T:=tab) (tb:=4) (n:=11) tok Tryz.own a (by kernel_rfl) func3
  (ChangeSpec.witness6 (enc:=b) (C:=Tryz.checked) false ⟨#[],#[.agg #[.slice none 0 0,.slice none 0 0],.agg #[.int .i64 0,.slice none 0 0],.int .i64 0],[]⟩ 8 (by kernel_rfl) (by kernel_rfl) (by kernel_rfl) (by kernel_rfl)) Tryz.laidOut (by kernel_rfl) rfl (by kernel_rfl) rfl (fun k c =>?_) (fun l i j =>?_)
 ·rw[Tryz.params3]at c
  match k,c with
  | [d0,d1,d2],_=>exact⟨rfl,rfl,rfl⟩
 ·rw[Tryz.params3]at i j;exact aa1 zi C9 (fun x d=>law x.1 x.2.1 x.2.2 d.1 d.2.1 d.2.2) l i j
def zc (b:∀(d:bg) (e:cA) (f:Int),(xF d)->(Du e)->((Lit.int .i64 f).wf=true)->P.jm d e f=some true):Rows.NetTellsSaid :=
 OpenClaim.holds_of_wide 3 Tryz.f3 rfl rfl rfl rfl rfl rfl rfl ⟨rfl,rfl,rfl,rfl,rfl⟩ rfl rfl rfl rfl rfl (by kernel_rfl) func3 (by kernel_rfl)
  (of_decide_eq_true (by kernel_rfl)) (by unfold Func.isWrapper;first|(rw[if_pos (by decide +kernel)];kernel_rfl)|(rw[if_neg (by decide +kernel)];exact⟨rfl,rfl⟩))
  (fun g a H c _=>yc b g a H c)
end Go.Proofs.YtekhokjkphgphaaGreat.Am
namespace Go.Proofs.YtekhokjkphgphaaGreat.P
open Go.RowKit
def aU (n:Nat):List Int:=if h:n=0 then [] else ((n % 1048576:Nat):Int)::aU (n / 1048576)
termination_by n
decreasing_by omega
def dv:List Int->Int
 | []=>0
 | d::l=>d+1048576*dv l
def Dg (l:List Int):Prop:=∀d∈l,0<=d∧d<1048576
def pw (i:Nat):Int:=1048576 ^ i
def oG:pw 0=1:=rfl
def iL (i:Nat):pw (i+1)=1048576*pw i:=by unfold pw;omega
def nX (i:Nat):0<pw i:=by unfold pw;exact Int.pow_pos (by decide)
def Ge (i j:Nat):pw (i+j)=pw i*pw j:=by unfold pw;rw[Int.pow_add]
def sn {i j:Nat} (h:i<=j):pw i<=pw j:=by
 obtain⟨k,rfl⟩:=Nat.le.dest h;rw[Ge];have a:=nX i;have b:=nX k
 calc pw i=pw i*1:=by rw[Int.mul_one]
  _<=pw i*pw k:=ag7 (by omega) (by omega)
def cN:aU 0=[]:=by rw[aU];rfl
def oO {n:Nat} (h:n≠0):aU n=((n % 1048576:Nat):Int)::aU (n / 1048576):=by rw[aU,dif_neg h]
def tn {n:Nat} : aU n=[]↔n=0:=by
 constructor
 ·intro h;rcases afe n with a|a
  ·exact a
  ·rw[oO (by omega)]at h;cases h
 ·rintro rfl;exact cN
def bh:∀n:Nat,dv (aU n)=n:=by
 intro n
 induction n using Nat.strongRecOn with
 | _ n b =>
  rcases afe n with a|a
  ·subst a;rw[cN];rfl
  ·rw[oO (by omega),dv,b (n / 1048576) (by omega)];omega
def bW:∀n:Nat,Dg (aU n):=by
 intro n
 induction n using Nat.strongRecOn with
 | _ n c =>
  rcases afe n with b|b
  ·subst b;rw[cN];intro d a;cases a
  ·rw[oO (by omega)];intro d a;rcases ae3.1 a with rfl|a
   ·omega
   ·exact c (n / 1048576) (by omega) d a
def Dg.nil:Dg []:=fun d a=>by cases a
def Dg.cons {d:Int} {l:List Int} (h:Dg (d::l)):(0<=d∧d<1048576)∧Dg l:=⟨h d ags,fun x a=>h x (agt _ a)⟩
def Dg.mk {d:Int} {l:List Int} (h:0<=d∧d<1048576) (b:Dg l):Dg (d::l):=fun x a=>by
 rcases ae3.1 a with rfl|a
 ·exact h
 ·exact b x a
def Dg.append {l m:List Int} (h:Dg l) (a:Dg m):Dg (l++m):=fun x b=>(agr.1 b).elim (h x) (a x)
def Dg.take {l:List Int} (h:Dg l) (n:Nat):Dg (l.take n):=fun x a=>h x (afD a)
def Dg.drop {l:List Int} (h:Dg l) (n:Nat):Dg (l.drop n):=fun x a=>h x (afB a)
def Dg.rep (n:Nat):Dg (List.replicate n 0):=fun x a=>by simp_all
def Dg.set {l:List Int} (h:Dg l) (i:Nat) {x:Int} (b:0<=x∧x<1048576):Dg (l.set i x):=fun y a=>by
 rcases List.mem_or_eq_of_mem_set a with a|rfl
 ·exact h y a
 ·exact b
def Dg.get {l:List Int} (h:Dg l) {i:Nat} (a:i<l.length):0<=l[i]∧l[i]<1048576:=h _ (ae8 a)
def cT:∀ {l:List Int},Dg l->0<=dv l
 | [],_=>Int.le_refl _
 | d::l,h=>by
  have a:=h.cons;have:=cT a.2;simp only[dv];omega
def pJ:∀ {l:List Int},Dg l->dv l<pw l.length
 | [],_=>by simp[dv,oG]
 | d::l,h=>by
  have a:=h.cons;have:=pJ a.2;simp only[dv,List.length_cons,iL];omega
def fM:∀l m:List Int,dv (l++m)=dv l+pw l.length*dv m
 | [],m=>by simp[dv,oG]
 | d::l,m=>by
  rw[agP,dv,dv,fM l m,afm,iL,ag8,ag9];omega
def AR:∀n:Nat,dv (List.replicate n 0)=0
 | 0=>rfl
 | n+1=>by rw[afP,dv,AR n];rfl
def gg {l:List Int} {i:Nat} (h:i<l.length):dv (l.take (i+1))=dv (l.take i)+pw i*l[i]:=by
 have e:l.take (i+1)=l.take i++[l[i]]:=by simp_all
 rw[e,fM,aff,agX (by omega)];simp[dv]
def jv (l:List Int) {i:Nat} (h:i<=l.length):dv l=dv (l.take i)+pw i*dv (l.drop i):=by
 have:=fM (l.take i) (l.drop i);simp_all
def uz {l:List Int} {i:Nat} (h:i<l.length) (x:Int):dv (l.set i x)=dv l+pw i*(x-l[i]):=by
 induction l generalizing i with
 | nil=>simp at h
 | cons d l a =>
  cases i with
  | zero=>simp only[List.set_cons_zero,dv,oG,List.getElem_cons_zero];omega
  | succ i =>
   have:=a (i:=i) (by simpa using h);simp only[List.set_cons_succ,dv,this,iL,List.getElem_cons_succ,ag8,ag9];omega
def Dp:∀ {l:List Int},Dg l->(∀h:l≠[],l.getLast h≠0)->aU (dv l).toNat=l
 | [],_,_=>by simp[dv,cN]
 | d::l,h,n=>by
  have a:=h.cons;have o:=cT a.2;have b:(dv (d::l)).toNat≠0:=by
   simp only[dv];intro p;have c:d=0:=by omega
   have g:dv l=0:=by omega
   cases l with
   | nil=>simp_all
   | cons e m =>
    have f:=Dp a.2 (fun i=>by simp_all);rw[g]at f;simp[cN]at f
  rw[oO b];have j:(dv (d::l)).toNat % 1048576=d.toNat:=by simp only[dv];omega
  have k:(dv (d::l)).toNat / 1048576=(dv l).toNat:=by simp only[dv];omega
  rw[j,k];have c:(d.toNat:Int)=d:=by omega
  rw[c];cases l with
  | nil=>simp[dv,cN]
  | cons e m=>rw[Dp a.2 (fun i=>by simp_all)]
def T9:∀(n:Nat) (h:aU n≠[]),(aU n).getLast h≠0:=by
 intro n
 induction n using Nat.strongRecOn with
 | _ n d =>
  intro h;have b:n≠0:=fun a=>h (tn.2 a);have e:=oO b
  by_cases hq:n / 1048576=0
  ·have:aU n=[((n % 1048576:Nat):Int)]:=by rw[e,hq,cN]
   grind
  ·have c:aU (n / 1048576)≠[]:=fun a=>hq (tn.1 a);grind
def Wg {a b:Nat} (h:aU a=aU b):a=b:=by
 have:=congrArg dv h;rw[bh,bh]at this;omega
def gZ {n k:Nat} (h:(n:Int)<pw k):(aU n).length<=k:=by
 induction k generalizing n with
 | zero =>
  rw[oG]at h;have:n=0:=by omega
  rw[this,cN];simp
 | succ k b =>
  by_cases a:n=0
  ·rw[a,cN];simp
  ·rw[oO a,afm];rw[iL]at h;grind
def fT (n:Nat):(n:Int)<pw (aU n).length:=by
 have:=pJ (bW n)
 rwa [bh]at this
def zO {n:Nat} (h:n≠0):pw ((aU n).length-1)<=n∧0<(aU n).length:=by
 induction n using Nat.strongRecOn with
 | _ n b =>
  rw[oO h,afm];refine⟨?_,by omega⟩
  by_cases a:n / 1048576=0
  ·rw[a,cN];simp[oG];omega
  ·obtain⟨c,d⟩:=b (n / 1048576) (by omega) a;have:(aU (n / 1048576)).length+1-1=((aU (n / 1048576)).length-1)+1:=by omega
   rw[this,iL];omega
def vF {x:Int} (b : -9223372036854775808<=x) (c:x<9223372036854775808):kW .and .i64 x 1048575=x % 1048576:=by
 unfold kW;simp only;have a:(BitVec.ofInt IntKind.i64.bits x &&& BitVec.ofInt IntKind.i64.bits 1048575).toNat=((x % 18446744073709551616).toNat) % 1048576:=by
  rw[BitVec.toNat_and,BitVec.toNat_ofInt,BitVec.toNat_ofInt];have e:((1048575:Int) % ((2 ^ IntKind.i64.bits:Nat):Int)).toNat=2 ^ 20-1:=by decide
  rw[e,aha];rfl
 rw[a,wrap64 (by omega) (by omega)];omega
def Yp {x:Int} (b : -9223372036854775808<=x) (c:x<9223372036854775808):kW .and .i64 x 1=x % 2:=by
 unfold kW;simp only;have a:(BitVec.ofInt IntKind.i64.bits x &&& BitVec.ofInt IntKind.i64.bits 1).toNat=((x % 18446744073709551616).toNat) % 2:=by
  rw[BitVec.toNat_and,BitVec.toNat_ofInt,BitVec.toNat_ofInt];have e:((1:Int) % ((2 ^ IntKind.i64.bits:Nat):Int)).toNat=2 ^ 1-1:=by decide
  rw[e,aha];rfl
 rw[a,wrap64 (by omega) (by omega)];omega
def Pe (x:Int):De .i64 x 20=some (x / 1048576):=by
 unfold De;rw[if_neg (by decide)];have e:(2:Int) ^ (min (Int.toNat 20) IntKind.i64.bits)=1048576:=by decide
 grind
def XH {x:Int} (a:0<=x) (h:x<8796093022208):Ht .i64 x 20=some (1048576*x):=by
 unfold Ht;rw[if_neg (by decide)];have e:(2:Int) ^ (min (Int.toNat 20) IntKind.i64.bits)=1048576:=by decide
 rw[e,wrap64 (by omega) (by omega),Int.mul_comm]
def Ri {x y:Int} (d:0<=x) (h:x<8796093022208) (f:0<=y∧y<1048576):kW .or .i64 (1048576*x) y=1048576*x+y:=by
 unfold kW;simp only;have a:(BitVec.ofInt IntKind.i64.bits (1048576*x) ||| BitVec.ofInt IntKind.i64.bits y).toNat=1048576*x.toNat+y.toNat:=by
  rw[BitVec.toNat_or,BitVec.toNat_ofInt,BitVec.toNat_ofInt];have e:((2 ^ IntKind.i64.bits:Nat):Int)=18446744073709551616:=by decide
  rw[e];have b:((1048576*x) % 18446744073709551616).toNat=x.toNat <<< 20:=by omega
  have c:(y % 18446744073709551616).toNat=y.toNat:=by omega
  rw[b,c,<- Nat.shiftLeft_add_eq_or_of_lt (by omega),Nat.shiftLeft_eq];omega
 rw[a,wrap64 (by omega) (by omega)];omega
def mk0 {n:Nat} (h:n<=17592186044416):IZ 8 (n:Int) (n:Int) (0:Int)=some (List.replicate n 0):=by
 unfold IZ;rw[if_pos]
 ·simp
 ·have:(17592186044416:Int)<=maxLen:=by decide
  omega
def te {l m:List Int} (h:l.length+m.length<=17592186044416):kV 8 l m=some (l++m):=by
 unfold kV;have:(17592186044416:Nat)<=maxLen:=by decide
 grind
def cn {σ ρ:Type} {body:σ->Option (σ⊕ρ)} (I:Nat->σ->Prop) (n:Nat) (Q:ρ->Prop) {s:σ} (c:I 0 s) (m:n+1<FU)
  (a:∀i s,i<=n->I i s->(i<n∧∃b,body s=some (.inl b)∧I (i+1) b)∨(∃r,body s=some (.inr r)∧Q r)):∃r,aK body s=some r∧Q r:=by
 have key:∀(k i:Nat) (s:σ),i<=n->n-i<k->I i s->∃r,pL body k s=some r∧Q r:=by
  intro k
  induction k with
  | zero=>omega
  | succ k f =>
   intro i s g o c;rcases a i s g c with⟨h,b,d,e⟩|⟨r,d,e⟩
   ·obtain⟨r,j,l⟩:=f (i+1) b (by omega) (by omega) e;exact⟨r,by simp only[pL,d];exact j,l⟩
   ·exact⟨r,by simp only[pL,d],e⟩
 exact key FU 0 s (aeY _) (by omega) c
def Tt (i:Nat) (x:Int):pw (i+1)*x=pw i*(1048576*x):=by rw[iL,Int.mul_comm 1048576 (pw i),ag9]
def uT (i:Nat) (t:Int):pw i*(t % 1048576)+pw (i+1)*(t / 1048576)=pw i*t:=by
 rw[Tt,<- ag8];congr 1;omega
def gM {n:Nat} (h:n<=17592186044416):n+1<FU:=by unfold FU;omega
abbrev Fit (l:List Int):Prop:=l.length<=17592186044416
def fW {x:Int} (h : -4611686018427387904<=x∧x<=4611686018427387904):IntKind.i64.wrap x=x:=wrap64 (by omega) (by omega)
def mR {α:Type} (o:Option α):(o.bind fun r=>some r)=o:=by cases o<;>rfl
def JQ {l:List Int} (b:Fit l):∃r,aK (me l) (l.length:Int)=some r∧∃k:Nat,r=k∧k<=l.length∧(∀j (c:j<l.length),k<=j->l[j]=0)∧(∀h:0<k,∀d:k-1<l.length,l[k-1]≠0):=by
 unfold Fit at b;refine cn (I:=fun i s=>s=((l.length-i:Nat):Int)∧(∀j (c:j<l.length),l.length-i<=j->l[j]=0)) l.length _ ⟨rfl,fun j c h=>by omega⟩ (gM b) ?_;rintro i s m ⟨rfl,f⟩;generalize d:l.length-i=k at *;simp only[me]
 by_cases g:0<k
 ·have a:k-1<l.length:=by omega
  have e:IntKind.i64.wrap ((k:Int)-1)=((k-1:Nat):Int):=by rw[fW (by omega)];omega
  rw[if_pos (by simp;omega),e,cu a,agv]
  by_cases n:l[k-1]=0
  ·left;grind
  grind
 ·right;exact⟨_,by simp_all,k,rfl,by omega,f,fun h=>absurd h g⟩
def Wz {l:List Int} {k:Nat} (b:∀j (c:j<l.length),k<=j->l[j]=0):dv (l.drop k)=0:=by
 have:l.drop k=List.replicate (l.drop k).length 0:=by
  refine List.eq_replicate_of_mem fun x a =>?_;obtain⟨i,d,rfl⟩:=List.mem_iff_getElem.1 a;simp_all
 rw[this,AR]
def u5 {l:List Int} (c:Fit l) (d:Dg l):ee l=some (aU (dv l).toNat):=by
 obtain⟨r,e,k,rfl,b,f,a⟩:=JQ c;unfold ee;rw[e,agv,Lf b,agv];congr 1;have g:dv l=dv (l.take k):=by rw[jv l b,Wz f];omega
 rw[g];refine (Dp (d.take k) fun h =>?_).symm;grind
def DC {l:List Int} {n:Nat} (a:Fit l) (b:Dg l) (c:dv l=n):ee l=some (aU n):=by
 rw[u5 a b,c];rfl
def gd (l:List Int) (i:Nat):Int:=if h:i<l.length then l[i] else 0
def Cp {l:List Int} (h:Dg l) (i:Nat):0<=gd l i∧gd l i<1048576:=by
 unfold gd;split
 ·exact h.get _
 ·omega
def oD {l:List Int} (i:Nat):dv (l.take (i+1))=dv (l.take i)+pw i*gd l i:=by
 unfold gd;split
 ·exact gg _
 ·rw[agj (by omega),agj (by omega)];simp
def wB {l:List Int} {i:Nat} (h:l.length<=i):dv (l.take i)=dv l:=by rw[agj h]
def VJ {a b:List Int} (w:Dg a) (y:Dg b) (D:a.length<17592186044416) (g:b.length<=a.length) :
  ∃r,aK (qK a b) (0,0,List.replicate (a.length+1) 0)=some r∧r.2.length=a.length+1∧Dg r.2∧(∀j (f:j<r.2.length),a.length<=j->r.2[j]=0)∧(0<=r.1∧r.1<=1)∧dv r.2+pw a.length*r.1=dv a+dv b:=by
 refine cn (I:=fun i s=>s.2.1=(i:Int)∧s.2.2.length=a.length+1∧Dg s.2.2∧(∀j (f:j<s.2.2.length),i<=j->s.2.2[j]=0)∧(0<=s.1∧s.1<=1)∧dv s.2.2+pw i*s.1=dv (a.take i)+dv (b.take i))
  a.length _ ⟨rfl,by simp,Dg.rep _,fun j f _=>by simp,by simp,by simp[AR,dv]⟩ (gM (by omega)) ?_
 rintro i ⟨c,s,l⟩ E ⟨t,k,m,hz,u,v⟩;simp only at t k m hz u v;subst t;simp only[qK]
 by_cases d:i<a.length
 ·left;rw[if_pos (by simpa using d),cu d,agv];have F:=w.get d;have z:=Cp y i;have A:(if decide ((i:Int)<(b.length:Int))=true then (P.idx b (i:Int)).bind fun n=>some (IntKind.i64.wrap ((IntKind.i64.wrap (c+a[i]))+n)) else some (IntKind.i64.wrap (c+a[i])))=some (c+a[i]+gd b i):=by
   by_cases e:i<b.length
   ·rw[if_pos (by simpa using e),cu e,agv];have:gd b i=b[i]:=by unfold gd;rw[dif_pos e]
    rw[this]at z ⊢;rw[fW (x:=c+a[i]) (by omega),fW (by omega)]
   ·rw[if_neg (by simpa using e)];have:gd b i=0:=by unfold gd;rw[dif_neg e]
    rw[this,fW (by omega)];simp
  rw[A,agv,cu (by omega),agv,Pe,agv,vF (by omega) (by omega)];have o:l[i]=0:=hz i (by omega) (aeX _);have B:IntKind.i64.wrap ((i:Int)+1)=((i+1:Nat):Int):=by rw[fW (by omega)];omega
  refine⟨d,_,rfl,B,by simpa using k,m.set _ (by omega),fun j f C =>?_,by simp only;omega,?_⟩
  ·grind
  ·simp only[Int.toNat_natCast];rw[uz (by omega),o,oD,oD];have p:gd a i=a[i]:=by unfold gd;rw[dif_pos d]
   rw[p];have G:=uT i (c+a[i]+gd b i);grind
 ·right;have q:i=a.length:=by omega
  subst q;refine⟨_,by rw[if_neg (by simp)],k,m,fun j f h=>hz j f h,u,?_⟩;rw[v,wB (aeX _),wB g]
def add_eq {a b:List Int} (k:Dg a) (m:Dg b) (g:a.length<17592186044416) (s:b.length<17592186044416):rX a b=some (aU (dv a+dv b).toNat):=by
 have n:∀ {a b:List Int},Dg a->Dg b->a.length<17592186044416->b.length<=a.length ->
   ((IZ 8 (IntKind.i64.wrap ((a.length:Int)+1)) (IntKind.i64.wrap ((a.length:Int)+1)) 0).bind fun t =>
    (aK (qK a b) (0,0,t)).bind fun q=>match q with
    | (h,d) =>
     (P.idx d (a.length:Int)).bind fun u =>
     (ee (d.set ((a.length:Int)).toNat h)).bind fun i =>
     some i)=some (aU (dv a+dv b).toNat):=by
  intro a b k m g j;have e:IntKind.i64.wrap ((a.length:Int)+1)=((a.length+1:Nat):Int):=by rw[fW (by omega)];omega
  rw[e,mk0 (by omega),agv];obtain⟨⟨c,l⟩,v,w,o,p,x,r⟩:=VJ k m g j;rw[v];simp only[Option.bind_some]at w o p x r ⊢;have f:a.length<l.length:=by omega
  rw[cu f,agv,afW,mR];have y:dv (l.set a.length c)=dv a+dv b:=by
   rw[uz f,p _ f (aeX _),Int.sub_zero,r]
  rw[u5 (by simp[Fit];omega) (o.set _ (by omega)),y]
 unfold rX;grind
def vN {l:List Int} (h:Fit l):du l=some l:=by
 unfold du;rw[te (by simpa using h),agF]
def Nc {l:List Int} {i:Nat} (h:i<l.length):gd l i=l[i]:=by unfold gd;rw[dif_pos h]
def Cq {l:List Int} {i:Nat} (h:l.length<=i):gd l i=0:=by unfold gd;grind
def XT {a b:List Int} (t:Dg a) (w:Dg b) (y:Fit a) (m:b.length<=a.length) (z:dv b<=dv a) :
  ∃l,aK (ur b a) (0,0,a)=some l∧l.length=a.length∧Dg l∧dv l=dv a-dv b:=by
 unfold Fit at y;refine cn (I:=fun i s=>s.2.1=(i:Int)∧s.2.2.length=a.length∧Dg s.2.2∧(∀j (u:j<s.2.2.length) (n:j<a.length),i<=j->s.2.2[j]=a[j])∧(0<=s.1∧s.1<=1)∧dv s.2.2+dv (b.take i)=dv a+pw i*s.1)
  a.length _ ⟨rfl,rfl,t,fun j u _ _=>rfl,by simp,by simp[dv]⟩ (gM (by omega)) ?_
 rintro i ⟨c,s,l⟩ G ⟨g,h,k,o,A,v⟩;simp only at g h k o A v;subst g;simp only[ur]
 by_cases d:i<a.length
 ·left;have e:i<l.length:=by omega
  rw[if_pos (by simpa using d),cu e,agv,o i e d (aeX _)];have H:=t.get d;have B:=Cp w i;have C:(if decide ((i:Int)<(b.length:Int))=true then (P.idx b (i:Int)).bind fun p=>some (IntKind.i64.wrap ((IntKind.i64.wrap (a[i]-c))-p)) else some (IntKind.i64.wrap (a[i]-c)))=some (a[i]-c-gd b i):=by
   by_cases f:i<b.length
   ·rw[if_pos (by simpa using f),cu f,agv];rw[Nc f]at B ⊢;rw[fW (x:=a[i]-c) (by omega),fW (by omega)]
   ·rw[if_neg (by simpa using f),Cq (by omega),fW (by omega)];simp
  rw[C,agv,Pe,agv,vF (by omega) (by omega),Yp (by omega) (by omega)];have D:IntKind.i64.wrap ((i:Int)+1)=((i+1:Nat):Int):=by rw[fW (by omega)];omega
  refine⟨d,_,rfl,D,by simpa using h,k.set _ (by omega),fun j u n E =>?_,by simp only;omega,?_⟩
  ·grind
  ·simp only[Int.toNat_natCast];rw[uz e,o i e d (aeX _),oD];have J:=uT i (a[i]-c-gd b i);have F:(a[i]-c-gd b i) / 1048576 % 2 = - ((a[i]-c-gd b i) / 1048576):=by omega
   grind
 ·right;have q:i=a.length:=by omega
  subst q;refine⟨l,by simp_all,h,k,?_⟩;rw[wB m]at v;have g:=pJ k;rw[h]at g;have r:c=0:=by
   grind
  subst r;omega
def sub_eq {a b:List Int} (f:Dg a) (g:Dg b) (e:Fit a) (c:b.length<=a.length) (d:dv b<=dv a):rY a b=some (aU (dv a-dv b).toNat):=by
 obtain⟨l,h,k,i,j⟩:=XT f g e c d;unfold rY;rw[vN e,agv,h,agv,mR,u5 (by omega) i,j]
def kn {l:List Int} {i:Nat} (h:i<l.length):dv (l.drop i)=l[i]+1048576*dv (l.drop (i+1)):=by
 rw[agS h,dv]
def Wj {x d:Int} (h:0<=x) (a:0<d) (b:x<4611686018427387904):AO .i64 x d=some (x / d):=by
 unfold AO;rw[if_neg (by omega),Int.tdiv_eq_ediv_of_nonneg h,fW];have:=ahb h (Int.le_of_lt a);have:=Int.ediv_le_self d h;omega
def YV {x d:Int} (h:0<=x) (a:0<d):Fu .i64 x d=some (x % d):=by
 unfold Fu;grind
def Rv {a:List Int} {d:Int} (t:Dg a) (e:0<d∧d<=1048576) (u:Fit a) :
  ∃r,aK (pY a d) (0,IntKind.i64.wrap ((a.length:Int)-1),List.replicate a.length 0)=some r∧r.2.length=a.length∧Dg r.2∧(0<=r.1∧r.1<d)∧dv a=d*dv r.2+r.1:=by
 unfold Fit at u;have v:IntKind.i64.wrap ((a.length:Int)-1)=(a.length:Int)-1:=fW (by omega);rw[v];refine cn (I:=fun i s=>s.2.1=((a.length-i:Nat):Int)-1∧s.2.2.length=a.length∧Dg s.2.2∧(0<=s.1∧s.1<d)∧dv (a.drop (a.length-i))=d*dv (s.2.2.drop (a.length-i))+s.1)
  a.length _ ⟨rfl,by simp,Dg.rep _,by simp;omega,by simp[dv]⟩ (gM (by omega)) ?_
 rintro i ⟨r,s,l⟩ z ⟨n,o,p,w,q⟩;simp only at n o p w q;subst n;generalize A:a.length-i=k at *;simp only[pY]
 by_cases B:0<k
 ·left;have b:k-1<a.length:=by omega
  have c:k-1<l.length:=by omega
  have x:((k:Int)-1)=((k-1:Nat):Int):=by omega
  have y:=t.get b;rw[x,if_pos (by simp),XH (by omega) (by omega),agv,cu b,agv,Ri (by omega) (by omega) y,Wj (by omega) e.1 (by omega),agv,cu c,agv,YV (by omega) e.1,agv];have C:IntKind.i64.wrap (((k-1:Nat):Int)-1)=((k-1:Nat):Int)-1:=fW (by omega);have f:0<=1048576*r+a[k-1]:=by omega
  have g:0<=(1048576*r+a[k-1]) / d:=ahb f (by omega);have h:(1048576*r+a[k-1]) / d<1048576:=by
   apply ahc e.1;omega
  have j:=Int.emod_nonneg (1048576*r+a[k-1]) (show d≠0 by omega);have m:=ahd (1048576*r+a[k-1]) e.1;refine⟨by omega,_,rfl,by grind,by simpa using o,p.set _ ⟨g,h⟩,⟨j,m⟩,?_⟩;simp only[Int.toNat_natCast];rw[show a.length-(i+1)=k-1 by omega,kn b,kn (l:=l.set (k-1) _) (i:=k-1) (by simpa using c),show k-1+1=k by omega,List.getElem_set_self,List.drop_set_of_lt (by omega),q];have:=ahe (1048576*r+a[k-1]) d;grind
 simp_all
def Pd {a:List Int} {d:Int} (g:Dg a) (h:0<d∧d<=1048576) (e:Fit a):nN a d=some (aU (dv a / d).toNat,dv a % d):=by
 obtain⟨⟨r,l⟩,i,j,f,b,c⟩:=Rv g h e;unfold nN;rw[mk0 e,agv,i,agv];simp only at j f b c ⊢;rw[u5 (by omega) f,agv];have k:dv a / d=dv l:=by
  rw[c,Int.mul_comm,Int.add_comm,Int.add_mul_ediv_right _ _ (by omega),Int.ediv_eq_zero_of_lt b.1 b.2];omega
 have m:dv a % d=r:=by
  rw[c,Int.mul_comm,Int.add_comm,Int.add_mul_emod_self_right];exact Int.emod_eq_of_lt b.1 b.2
 rw[k,m]
def UI {b l0:List Int} {x:Int} {i n:Nat} (p:Dg b) (q:0<=x∧x<1048576) (t:Dg l0) (u:l0.length=n) (F:i+b.length<n) (G:n<=17592186044416) (e:∀j (f:j<l0.length),i+b.length<=j->l0[j]=0) :
  ∃r,aK (uq b (i:Int) x) (0,0,l0)=some r∧r.2.length=n∧Dg r.2∧(0<=r.1∧r.1<1048576)∧(∀j (f:j<r.2.length),i+b.length<=j->r.2[j]=0)∧dv r.2+pw (i+b.length)*r.1=dv l0+pw i*(x*dv b):=by
 refine cn (I:=fun k s=>s.2.1=(k:Int)∧s.2.2.length=n∧Dg s.2.2∧(0<=s.1∧s.1<1048576)∧(∀j (f:j<s.2.2.length),i+b.length<=j->s.2.2[j]=0)∧dv s.2.2+pw (i+k)*s.1=dv l0+pw i*(x*dv (b.take k)))
  b.length _ ⟨rfl,u,t,by simp,e,by simp[dv]⟩ (gM (by omega)) ?_
 rintro k ⟨c,s,l⟩ H ⟨h,m,g,v,e,w⟩;simp only at h m g v e w;subst h;simp only[uq]
 by_cases a:k<b.length
 ·left;have d:i+k<l.length:=by omega
  have y:IntKind.i64.wrap ((i:Int)+(k:Int))=((i+k:Nat):Int):=by rw[fW (by omega)];omega
  have o:=p.get a;have J:=g.get d;have z:0<=x*b[k]:=ahf q.1 o.1;have A:x*b[k]<=1048575*1048575:=ahg (by omega) (by omega) o.1 (by omega);rw[if_pos (by simpa using a),cu a,agv,y,cu d,agv,fW (x:=x*b[k]) (by omega),fW (x:=l[i+k]+x*b[k]) (by omega),fW (x:=l[i+k]+x*b[k]+c) (by omega),Pe,agv,vF (by omega) (by omega)];have B:IntKind.i64.wrap ((k:Int)+1)=((k+1:Nat):Int):=by rw[fW (by omega)];omega
  refine⟨a,_,rfl,B,by simpa using m,g.set _ (by omega),by simp only;omega,fun j f C =>?_,?_⟩
  ·grind
  ·simp only[Int.toNat_natCast];rw[uz d,gg a];have D:=uT (i+k) (l[i+k]+x*b[k]+c);rw[ag8 (pw (i+k)),ag8 (pw (i+k))]at D;have K:pw i*(x*(dv (b.take k)+pw k*b[k]))=pw i*(x*dv (b.take k))+pw (i+k)*(x*b[k]):=by
    rw[ag8,ag8,Ge];grind
   grind
 ·right;have E:k=b.length:=by omega
  simp_all
def UH {a b:List Int} (w:Dg a) (y:Dg b) (z:a.length+b.length<=17592186044416) :
  ∃l,aK (uo a b) (0,List.replicate (a.length+b.length) 0)=some l∧l.length=a.length+b.length∧Dg l∧dv l=dv a*dv b:=by
 refine cn (I:=fun i s=>s.1=(i:Int)∧s.2.length=a.length+b.length∧Dg s.2∧(∀j (g:j<s.2.length),i+b.length<=j->s.2[j]=0)∧dv s.2=dv (a.take i)*dv b)
  a.length _ ⟨rfl,by simp,Dg.rep _,fun j g _=>by simp,by simp[dv,AR]⟩ (gM (by omega)) ?_
 rintro i ⟨s,l⟩ F ⟨h,k,o,p,q⟩;simp only at h k o p q;subst h;simp only[uo]
 by_cases d:i<a.length
 ·left;have A:=w.get d;obtain⟨⟨c,m⟩,B,r,t,u,f,v⟩:=UI (i:=i) (n:=a.length+b.length) y A o k (by omega) z p;rw[if_pos (by simpa using d),cu d,agv,B,agv];simp only at r t u f v ⊢;have C:IntKind.i64.wrap ((i:Int)+(b.length:Int))=((i+b.length:Nat):Int):=by rw[fW (by omega)];omega
  have e:i+b.length<m.length:=by omega
  rw[C,cu e,agv,f _ e (aeX _),Int.zero_add,fW (x:=c) (by omega)];have D:IntKind.i64.wrap ((i:Int)+1)=((i+1:Nat):Int):=by rw[fW (by omega)];omega
  refine⟨d,_,rfl,D,by simpa using r,t.set _ u,fun j g E =>?_,?_⟩
  ·grind
  ·simp only[Int.toNat_natCast];rw[uz e,f _ e (aeX _),Int.sub_zero,v,q,gg d,Int.add_mul,ag9]
 grind
def mul_eq {a b:List Int} (d:Dg a) (f:Dg b) (c:a.length+b.length<=17592186044416):pX a b=some (aU (dv a*dv b).toNat):=by
 obtain⟨l,g,j,h,i⟩:=UH d f c;unfold pX;have e:IntKind.i64.wrap ((a.length:Int)+(b.length:Int))=((a.length+b.length:Nat):Int):=by rw[fW (by omega)];omega
 rw[e,mk0 c,agv,g,agv,mR,u5 (by unfold Fit;omega) h,i]
def kX (x y:Int):Int:=if x<y then -1 else if y<x then 1 else 0
def Ec (x y:Int):gw x y=some (kX x y):=by
 unfold gw qt kX;grind
def MA {a b:List Int} (h:Dg a) (j:Dg b) (l:Fit a) (w:a.length=b.length):gu a b=some (kX (dv a) (dv b)):=by
 unfold Fit at l;unfold gu;rw[if_neg (by simp;omega)];have p:IntKind.i64.wrap ((a.length:Int)-1)=(a.length:Int)-1:=fW (by omega);rw[p];have key:∃r,aK (mF a b) ((a.length:Int)-1)=some r∧(match r with | .inl _=>kX (dv a) (dv b)=0 | .inr x=>x=kX (dv a) (dv b)):=by
  refine cn (I:=fun i s=>s=((a.length-i:Nat):Int)-1∧a.drop (a.length-i)=b.drop (a.length-i)) a.length _ ⟨rfl,?_⟩ (gM l) ?_
  ·simp_all
  rintro i s y ⟨rfl,c⟩;generalize z:a.length-i=k at *;simp only[mF]
  by_cases A:0<k
  ·have e:k-1<a.length:=by omega
   have f:k-1<b.length:=by omega
   have q:((k:Int)-1)=((k-1:Nat):Int):=by omega
   rw[q,if_pos (by simp),cu e,agv,cu f,agv]
   by_cases d:a[k-1]=b[k-1]
   ·left;rw[if_neg (by simpa using d)];refine⟨by omega,_,rfl,by rw[fW (by omega)];omega,?_⟩;rw[show a.length-(i+1)=k-1 by omega,agS e,agS f,d,show k-1+1=k by omega,c]
   ·right;rw[if_pos (by simpa using d),Ec,agv];refine⟨_,rfl,?_⟩;simp only;have m:=jv a (i:=k) (by omega);have t:=jv b (i:=k) (by omega);have n:=gg e;have o:=gg f;rw[show k-1+1=k by omega]at n o;have u:=pJ (h.take (k-1));have v:=pJ (j.take (k-1));rw[aff,agX (by omega)]at u v;have B:=cT (h.take (k-1));have C:=cT (j.take (k-1));have D:=nX (k-1);rw[n]at m;rw[o]at t;rw[c]at m;unfold kX;rcases Int.lt_or_gt_of_ne d with g|g
    ·have:pw (k-1)*a[k-1]+pw (k-1)<=pw (k-1)*b[k-1]:=by
      have:pw (k-1)*(a[k-1]+1)<=pw (k-1)*b[k-1]:=ag7 (by omega) (by omega);grind
     omega
    ·have:pw (k-1)*b[k-1]+pw (k-1)<=pw (k-1)*a[k-1]:=by
      have:pw (k-1)*(b[k-1]+1)<=pw (k-1)*a[k-1]:=ag7 (by omega) (by omega);grind
     omega
  ·right;have:k=0:=by omega
   subst this;refine⟨.inl (),by simp_all,?_⟩;simp only[agk]at c;simp[c,kX]
 grind
def vP {m n:Nat} (h:(aU m).length<(aU n).length):m<n:=by
 have c:=fT m;have a:n≠0:=fun b=>by subst b;rw[cN]at h;simp at h
 have d:=zO a;have e:=sn (i:=(aU m).length) (j:=(aU n).length-1) (by omega);omega
def cj {m n:Nat} (h:m<=n):(aU m).length<=(aU n).length:=by
 rcases afE (aU n).length (aU m).length with h1|h1
 ·have:=vP h1;omega
 ·exact h1
def yG {m n:Nat} (b:Fit (aU m)) (c:Fit (aU n)):gu (aU m) (aU n)=some (kX m n):=by
 by_cases a:(aU m).length=(aU n).length
 ·rw[MA (bW m) (bW n) b a,bh,bh]
 ·unfold gu;rw[if_pos (by simp;omega),Ec,mR];unfold kX;rcases Nat.lt_or_gt_of_ne a with h|h
  ·have:=vP h;simp_all
  ·have:=vP h;grind
def Ld {u v:List Int} {g:Int} (w:Dg u) (B:Dg v) (C:0<=g∧g<=1048576) (D:Fit u) (E:v.length<=u.length) :
  ∃r,aK (lF u v g) (0,0,u)=some r∧r.2.length=u.length∧Dg r.2∧(0<=r.1∧r.1<=1048576)∧dv r.2+g*dv v=dv u+pw u.length*r.1:=by
 unfold Fit at D;refine cn (I:=fun i s=>s.2.1=(i:Int)∧s.2.2.length=u.length∧Dg s.2.2∧(∀j (y:j<s.2.2.length) (f:j<u.length),i<=j->s.2.2[j]=u[j])∧(0<=s.1∧s.1<=1048576)∧dv s.2.2+g*dv (v.take i)=dv u+pw i*s.1)
  u.length _ ⟨rfl,rfl,w,fun j y _ _=>rfl,by simp,by simp[dv]⟩ (gM (by omega)) ?_
 rintro i ⟨c,s,l⟩ J ⟨z,e,h,k,A,m⟩;simp only at z e h k A m;subst z;simp only[lF]
 by_cases a:i<u.length
 ·left;have b:i<l.length:=by omega
  rw[if_pos (by simpa using a),cu b,agv,k i b a (aeX _)];have K:=w.get a;have n:=Cp B i;have o:0<=g*gd v i:=ahf C.1 n.1;have p:g*gd v i<=1048576*1048575:=ahg (by omega) (by omega) n.1 (by omega);have F:(if decide ((i:Int)<(v.length:Int))=true then (P.idx v (i:Int)).bind fun q=>some (IntKind.i64.wrap ((IntKind.i64.wrap (u[i]-c))-(IntKind.i64.wrap (g*q)))) else some (IntKind.i64.wrap (u[i]-c)))=some (u[i]-c-g*gd v i):=by
   by_cases d:i<v.length
   ·rw[if_pos (by simpa using d),cu d,agv];rw[Nc d]at n o p ⊢;rw[fW (x:=u[i]-c) (by omega),fW (x:=g*v[i]) (by omega),fW (by omega)]
   ·rw[if_neg (by simpa using d),Cq (by omega),fW (by omega)];simp
  rw[F,agv,Pe,agv,vF (by omega) (by omega),fW (x:=0-_) (by omega)];have G:IntKind.i64.wrap ((i:Int)+1)=((i+1:Nat):Int):=by rw[fW (by omega)];omega
  refine⟨a,_,rfl,G,by simpa using e,h.set _ (by omega),fun j y f H =>?_,by simp only;omega,?_⟩
  ·grind
  ·simp only[Int.toNat_natCast];rw[uz b,k i b a (aeX _),oD];have L:=uT i (u[i]-c-g*gd v i);grind
 ·right;have t:i=u.length:=by omega
  subst t;refine⟨(c,l),by simp_all,e,h,A,?_⟩;rw[wB E]at m;exact m
def Le {u v:List Int} (o:Dg u) (t:Dg v) (w:Fit u) (y:v.length<=u.length) :
  ∃l,aK (lG v u) (0,0,u)=some l∧l.length=u.length∧Dg l∧∃c,0<=c∧dv l+pw u.length*c=dv u+dv v:=by
 unfold Fit at w;refine cn (I:=fun i s=>s.2.1=(i:Int)∧s.2.2.length=u.length∧Dg s.2.2∧(∀j (p:j<s.2.2.length) (f:j<u.length),i<=j->s.2.2[j]=u[j])∧(0<=s.1∧s.1<=1)∧dv s.2.2+pw i*s.1=dv u+dv (v.take i))
  u.length _ ⟨rfl,rfl,o,fun j p _ _=>rfl,by simp,by simp[dv]⟩ (gM (by omega)) ?_
 rintro i ⟨c,s,l⟩ D ⟨q,e,g,h,r,k⟩;simp only at q e g h r k;subst q;simp only[lG]
 by_cases a:i<u.length
 ·left;have b:i<l.length:=by omega
  rw[if_pos (by simpa using a),cu b,agv,h i b a (aeX _)];have E:=o.get a;have z:=Cp t i;have A:(if decide ((i:Int)<(v.length:Int))=true then (P.idx v (i:Int)).bind fun m=>some (IntKind.i64.wrap ((IntKind.i64.wrap (c+u[i]))+m)) else some (IntKind.i64.wrap (c+u[i])))=some (c+u[i]+gd v i):=by
   by_cases d:i<v.length
   ·rw[if_pos (by simpa using d),cu d,agv];rw[Nc d]at z ⊢;rw[fW (x:=c+u[i]) (by omega),fW (by omega)]
   ·rw[if_neg (by simpa using d),Cq (by omega),fW (by omega)];simp
  rw[A,agv,Pe,agv,vF (by omega) (by omega)];have B:IntKind.i64.wrap ((i:Int)+1)=((i+1:Nat):Int):=by rw[fW (by omega)];omega
  refine⟨a,_,rfl,B,by simpa using e,g.set _ (by omega),fun j p f C =>?_,by simp only;omega,?_⟩
  ·grind
  ·simp only[Int.toNat_natCast];rw[uz b,h i b a (aeX _),oD];have F:=uT i (c+u[i]+gd v i);grind
 ·right;have n:i=u.length:=by omega
  subst n;refine⟨l,by simp_all,e,g,c,r.1,?_⟩;rw[wB y]at k;exact k
def UU {u v:List Int} {g:Int} (q:Dg u) (f:Dg v) (w:Fit u) (r:v.length<=u.length) (x:0<dv v) (y:dv u / dv v<=g) (z:g<=dv u / dv v+1) (i:g<=1048576) :
  ∃l,fZ u v g=some (l,dv u / dv v)∧l.length=u.length∧Dg l∧dv l=dv u % dv v:=by
 have A:0<=dv u / dv v:=ahb (cT q) (by omega);obtain⟨⟨c,l⟩,B,b,e,C,D⟩:=Ld q f ⟨by omega,i⟩ w r;simp only at b e C D;have L:=ahe (dv u) (dv v);have E:=Int.emod_nonneg (dv u) (show dv v≠0 by omega);have F:=ahd (dv u) x;have j:=pJ e;have G:=cT e;rw[b]at j;have M:=nX u.length;have H:dv v<pw u.length:=Int.lt_of_lt_of_le (pJ f) (sn r);unfold fZ qL;rw[B,agv];simp only;rcases (show g=dv u / dv v∨g=dv u / dv v+1 by omega) with s|s
 ·have k:g*dv v=dv v*(dv u / dv v):=by grind
  have a:c=0:=by
   rcases (show c=0∨1<=c by omega) with h|h
   ·exact h
   ·have:pw u.length*1<=pw u.length*c:=ag7 h (by omega);omega
  grind
 ·have k:g*dv v=dv v*(dv u / dv v)+dv v:=by grind
  have a:c≠0:=by
   grind
  obtain⟨m,I,J,n,d,N,K⟩:=Le e f (by omega) (by omega);rw[if_neg (by simpa using a),I,agv,agv,if_pos (by simp;omega)];refine⟨m,by rw[fW (by omega),s];simp,by omega,n,?_⟩;rw[b]at K;have o:=pJ n;have t:=cT n;rw[J,b]at o;have p:c=d:=by
   rcases Int.lt_trichotomy c d with h|h|h
   ·have:pw u.length*(c+1)<=pw u.length*d:=ag7 (by omega) (by omega);grind
   ·exact h
   ·have:pw u.length*(d+1)<=pw u.length*c:=ag7 (by omega) (by omega);grind
  subst p;omega
end Go.Proofs.YtekhokjkphgphaaGreat.P
