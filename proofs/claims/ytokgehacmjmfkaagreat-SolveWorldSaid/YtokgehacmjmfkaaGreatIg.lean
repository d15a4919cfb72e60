import Derived.Test.YtokgehacmjmfkaaGreatIf
set_option linter.unusedSimpArgs false
set_option linter.unusedVariables false
set_option linter.defProp false
noncomputable section
open Go.Proofs.Tryz
namespace Go.Proofs.YtokgehacmjmfkaaGreat.Am
open Go.RowKit P
variable (l:Option (D×Row)) (d:List D)
set_option maxRecDepth 100000
set_option maxHeartbeats 4000000
def Mv:bZ prog 22 sN:=dT L1 func22 (by kernel_rfl) (fun _ _=>rfl) (fun _=>by kernel_rfl) ntmps22 results22 rfl fun b r a=>by
 simp only[hZ]at a⊢;unfold q9 at a;simp only[aM,seval];obtain⟨o1,bn,a⟩:=ah a;refine bS 0 (fun s t H e=>match s with|G=>∃l:Nat,t 1=.ptr 1 l 0∧t 27=.bool G∧H 1=some ⟨l,25,[.sl false false b.av.length (ae (eI .i64) b.av),.sl false false b.aD.length (ae dp b.aD)],false,false,false⟩) (fun s=>s=o1) ?_ ?_
 ·rintro G t H e ⟨l,aF⟩ rfl;try dsimp only at a
  simp only[aM,seval,aF];apply sp an a<;>intro _ a
  ·cases a;simp only[aM,seval]
  ·simp only[aM,seval,aF];obtain⟨o7,bo,a⟩:=ah a;refine aA (fun s t H e=>match s with|ak=>∃I:Nat,t 1=.ptr 1 I 0∧t 29=.sl false false b.av.length (ae (eI .i64) b.av)∧t 30=.int .i64 (b.av.length:Int)∧t 31=.int .i64 ak∧H 1=some ⟨I,25,[.sl false false b.av.length (ae (eI .i64) b.av),.sl false false b.aD.length (ae dp b.aD)],false,false,false⟩) (fun o x t H e=>match o with|(.inl _)=>x=.exit 0∧∃m:Nat,t 1=.ptr 1 m 0∧H 1=some ⟨m,25,[.sl false false b.av.length (ae (eI .i64) b.av),.sl false false b.aD.length (ae dp b.aD)],false,false,false⟩|(.inr r)=>x=.ret∧gi .clean tab none [.tmp 2,.tmp 3] ⟨t,EH H,e⟩=some (.clean (.tup [.int .i64 r.1,.int .i64 r.2]),none)) bo ?_ ?_ ?_
   ·refine⟨l,?_⟩;and_intros<;>first|rfl|(simp only[aM,seval,aF]<;>rfl)
   ·rintro ak t H e ⟨I,Zb⟩ c a;simp only[lz]at a;simp only[aM,seval,Zb];apply sp an a<;>intro _ a
    ·obtain⟨x9,bp,a⟩:=ah a;have aK:=bz (eI .i64) bp;simp only[bM]at aK;obtain⟨bD,aL,a⟩:=ah a;simp only[aM,seval,Zb,aK,aL];apply sp an a<;>intro _ a
     ·cases a;simp only[aM,seval];refine tQ ⟨rfl,?_⟩;simp only[aM,seval]
     ·cases a;simp only[aM,seval,Zb];apply iG;refine⟨I,?_⟩;and_intros<;>first|rfl|(simp only[aM,seval,Zb]<;>rfl)
    ·cases a;simp only[aM,seval];apply jG;refine⟨rfl,⟨I,?_,?_⟩⟩;all_goals ((simp only[aM,seval,Zb]<;>rfl))
   ·rintro x t H e g;rcases o7 with _|rb
    ·dsimp only at g a;obtain⟨rfl,⟨m,aN⟩⟩:=g;obtain⟨bE,al,a⟩:=ah a;obtain⟨aO,aP,aQ,ao,aR⟩:=mk_one (eI .i64) al;simp only[bM]at ao;obtain⟨bx,bA,bB,aS,bC⟩:=mk_one (eI .i64) al;simp only[bM]at aS;simp only[aM,seval,aN,aO,aP,aQ,ao,aR];refine bu (by kernel_rfl) ?_;obtain⟨bq,aT,a⟩:=ah a;refine aA (fun s t H e=>match s with|(i,aG,k)=>∃J:Nat,∃K:Nat,∃L:Nat,t 1=.ptr 1 J 0∧t 6=.buf 6 K 1 0 (aG).length∧t 7=.buf 7 L 1 0 (k).length∧t 50=.sl false false b.aD.length (ae dp b.aD)∧t 51=.int .i64 (b.aD.length:Int)∧t 52=.int .i64 i∧H 1=some ⟨J,25,[.sl false false b.av.length (ae (eI .i64) b.av),.sl false false b.aD.length (ae dp b.aD)],false,false,false⟩∧H 6=some ⟨K,3,ae (eI .i64) aG,false,true,false⟩∧H 7=some ⟨L,3,ae (eI .i64) k,false,true,false⟩) (fun o x t H e=>match o with|(.inl (j,f))=>x=.exit 2∧∃n:Nat,∃p:Nat,∃q:Nat,t 1=.ptr 1 n 0∧t 6=.buf 6 p 1 0 (j).length∧t 7=.buf 7 q 1 0 (f).length∧H 1=some ⟨n,25,[.sl false false b.av.length (ae (eI .i64) b.av),.sl false false b.aD.length (ae dp b.aD)],false,false,false⟩∧H 6=some ⟨p,3,ae (eI .i64) j,false,true,false⟩∧H 7=some ⟨q,3,ae (eI .i64) f,false,true,false⟩|(.inr r)=>x=.ret∧gi .clean tab none [.tmp 2,.tmp 3] ⟨t,EH H,e⟩=some (.clean (.tup [.int .i64 r.1,.int .i64 r.2]),none)) aT ?_ ?_ ?_
     ·refine⟨m,e,e,?_⟩;and_intros<;>first|rfl|(simp only[aM,seval,aN]<;>rfl)
     ·rintro⟨i,aG,k⟩ t H e ⟨J,K,L,Zc⟩ c a;simp only[jU]at a;simp only[aM,seval,Zc];apply sp an a<;>intro _ a
      ·obtain⟨d,aU,a⟩:=ah a;have aq:=bz dp aU;simp only[bM]at aq;obtain⟨bF,aV,a⟩:=ah a;simp only[aM,seval,Zc,aq,aV];apply sp an a<;>intro _ a
       ·cases a;simp only[aM,seval];refine tQ ⟨rfl,?_⟩;simp only[aM,seval]
       ·simp only[aM,seval];obtain⟨br,aW,a⟩:=ah a;refine aA (fun s t H e=>match s with|(ar,aH)=>∃M:Nat,∃N:Nat,∃O:Nat,∃P:Nat,t 1=.ptr 1 M 0∧t 6=.buf 6 N 1 0 (aH).length∧t 7=.buf 7 O 1 0 (k).length∧t 9=.ptr 9 P 0∧t 50=.sl false false b.aD.length (ae dp b.aD)∧t 51=.int .i64 (b.aD.length:Int)∧t 52=.int .i64 i∧t 65=.sl false false d.aC.length (ae (eI .i64) d.aC)∧t 66=.int .i64 (d.aC.length:Int)∧t 67=.int .i64 ar∧H 1=some ⟨M,25,[.sl false false b.av.length (ae (eI .i64) b.av),.sl false false b.aD.length (ae dp b.aD)],false,false,false⟩∧H 6=some ⟨N,3,ae (eI .i64) aH,false,true,false⟩∧H 7=some ⟨O,3,ae (eI .i64) k,false,true,false⟩∧H 9=some ⟨P,63,[.sl false false d.ay.aq.length (ae bN d.ay.aq),.sl false false d.ay.aO.length (ae fC d.ay.aO),.sl false false d.ay.aL.length (ae (nM au) d.ay.aL),.sl false false d.a8.length (ae ig d.a8),.sl false false d.aC.length (ae (eI .i64) d.aC)],false,false,false⟩) (fun o x t H e=>match o with|h=>x=.exit 4∧∃u:Nat,∃v:Nat,∃w:Nat,∃Q:Nat,t 1=.ptr 1 u 0∧t 6=.buf 6 v 1 0 (h).length∧t 7=.buf 7 w 1 0 (k).length∧t 9=.ptr 9 Q 0∧t 50=.sl false false b.aD.length (ae dp b.aD)∧t 51=.int .i64 (b.aD.length:Int)∧t 52=.int .i64 i∧H 1=some ⟨u,25,[.sl false false b.av.length (ae (eI .i64) b.av),.sl false false b.aD.length (ae dp b.aD)],false,false,false⟩∧H 6=some ⟨v,3,ae (eI .i64) h,false,true,false⟩∧H 7=some ⟨w,3,ae (eI .i64) k,false,true,false⟩∧H 9=some ⟨Q,63,[.sl false false d.ay.aq.length (ae bN d.ay.aq),.sl false false d.ay.aO.length (ae fC d.ay.aO),.sl false false d.ay.aL.length (ae (nM au) d.ay.aL),.sl false false d.a8.length (ae ig d.a8),.sl false false d.aC.length (ae (eI .i64) d.aC)],false,false,false⟩) aW ?_ ?_ ?_
        ·refine⟨J,K,L,e+1,?_⟩;and_intros<;>first|rfl|(simp only[aM,seval,Zc]<;>rfl)
        ·rintro⟨ar,aH⟩ t H e ⟨M,N,O,P,Zf⟩ c a;simp only[lA]at a;simp only[aM,seval,Zf];apply sp an a<;>intro _ a
         ·obtain⟨bG,aY,a⟩:=ah a;have av:=bz (eI .i64) aY;simp only[bM]at av;obtain⟨a1,R,a⟩:=ah a;have y:=bz (eI .i64) R;simp only[bM]at y;have y:=bz (eI .i64) R;simp only[bM]at y;have a6:=fE (eI .i64) (x':=IntKind.i64.wrap (a1+1)) (fo:=0) (cs:=[.int .i64 (IntKind.i64.wrap (a1+1))]) R rfl (aki rfl);simp only[bM,Nat.add_zero]at a6;have ax:=a6;simp only[putCells,List.length_cons,List.length_nil,ajf]at ax;cases a;simp only[aM,seval,Zf,av,y,ax];apply iG;refine⟨M,N,O,P,?_⟩;and_intros<;>first|rfl|(simp only[aM,seval,Zf]<;>rfl)
         ·cases a;simp only[aM,seval];apply jG;refine⟨rfl,⟨M,N,O,P,?_,?_,?_,?_,?_,?_,?_,?_,?_,?_,?_⟩⟩;all_goals ((simp only[aM,seval,Zf]<;>rfl))
        ·rintro x t H e g;obtain⟨h,rfl⟩:∃z,z=br:=⟨_,rfl⟩;dsimp only at g a;obtain⟨rfl,⟨u,v,w,Q,a7⟩⟩:=g;simp only[aM,seval,a7];obtain⟨bs,a8,a⟩:=ah a;refine aA (fun s t H e=>match s with|(ay,aI)=>∃S:Nat,∃T:Nat,∃U:Nat,t 1=.ptr 1 S 0∧t 6=.buf 6 T 1 0 (h).length∧t 7=.buf 7 U 1 0 (aI).length∧t 50=.sl false false b.aD.length (ae dp b.aD)∧t 51=.int .i64 (b.aD.length:Int)∧t 52=.int .i64 i∧t 79=.sl false false d.a8.length (ae ig d.a8)∧t 80=.int .i64 (d.a8.length:Int)∧t 81=.int .i64 ay∧H 1=some ⟨S,25,[.sl false false b.av.length (ae (eI .i64) b.av),.sl false false b.aD.length (ae dp b.aD)],false,false,false⟩∧H 6=some ⟨T,3,ae (eI .i64) h,false,true,false⟩∧H 7=some ⟨U,3,ae (eI .i64) aI,false,true,false⟩) (fun o x t H e=>match o with|V=>x=.exit 6∧∃A:Nat,∃B:Nat,∃C:Nat,t 1=.ptr 1 A 0∧t 6=.buf 6 B 1 0 (h).length∧t 7=.buf 7 C 1 0 (V).length∧t 50=.sl false false b.aD.length (ae dp b.aD)∧t 51=.int .i64 (b.aD.length:Int)∧t 52=.int .i64 i∧H 1=some ⟨A,25,[.sl false false b.av.length (ae (eI .i64) b.av),.sl false false b.aD.length (ae dp b.aD)],false,false,false⟩∧H 6=some ⟨B,3,ae (eI .i64) h,false,true,false⟩∧H 7=some ⟨C,3,ae (eI .i64) V,false,true,false⟩) a8 ?_ ?_ ?_
         ·refine⟨u,v,w,?_⟩;and_intros<;>first|rfl|(simp only[aM,seval,a7]<;>rfl)
         ·rintro⟨ay,aI⟩ t H e ⟨S,T,U,Zg⟩ c a;simp only[lB]at a;simp only[aM,seval,Zg];apply sp an a<;>intro _ a
          ·obtain⟨ab,bb,a⟩:=ah a;have az:=bz ig bb;simp only[bM]at az;obtain⟨ad,W,a⟩:=ah a;have D:=bz (eI .i64) W;simp only[bM]at D;have D:=bz (eI .i64) W;simp only[bM]at D;have bc:=fE (eI .i64) (x':=(if 1099511627777<(IntKind.i64.wrap (ad+ab.aT)) then 1099511627777 else IntKind.i64.wrap (ad+ab.aT))) (fo:=0) (cs:=[.int .i64 (if 1099511627777<(IntKind.i64.wrap (ad+ab.aT)) then 1099511627777 else IntKind.i64.wrap (ad+ab.aT))]) W rfl (aki rfl);simp only[bM,Nat.add_zero]at bc;have aB:=bc;simp only[putCells,List.length_cons,List.length_nil,ajf]at aB;simp only[aM,seval,Zg,az,D,aB];refine bu (by kernel_rfl) ?_;cases a;apply iG;refine⟨S,T,U,?_⟩;and_intros<;>first|rfl|(simp only[aM,seval,Zg]<;>rfl)
          ·cases a;simp only[aM,seval];apply jG;refine⟨rfl,⟨S,T,U,?_,?_,?_,?_,?_,?_,?_,?_,?_⟩⟩;all_goals ((simp only[aM,seval,Zg]<;>rfl))
         ·rintro x t H e g;obtain⟨V,rfl⟩:∃z,z=bs:=⟨_,rfl⟩;dsimp only at g a;obtain⟨rfl,⟨A,B,C,bd⟩⟩:=g;cases a;simp only[aM,seval,bd];apply iG;refine⟨A,B,C,?_⟩;and_intros<;>first|rfl|(simp only[aM,seval,bd]<;>rfl)
      ·cases a;simp only[aM,seval];apply jG;refine⟨rfl,⟨J,K,L,?_,?_,?_,?_,?_,?_⟩⟩;all_goals ((simp only[aM,seval,Zc]<;>rfl))
     ·rintro x t H e g;rcases bq with⟨j,f⟩|rc
      ·dsimp only at g a;obtain⟨rfl,⟨n,p,q,bf⟩⟩:=g;simp only[aM,seval,bf];obtain⟨bt,bg,a⟩:=ah a;refine aA (fun s t H e=>match s with|X=>∃Y:Nat,∃ag:Nat,∃Z:Nat,t 1=.ptr 1 Y 0∧t 7=.buf 7 Z 1 0 (f).length∧t 100=.buf 6 ag 1 0 (j).length∧t 101=.int .i64 ((j).length:Int)∧t 102=.int .i64 X∧H 1=some ⟨Y,25,[.sl false false b.av.length (ae (eI .i64) b.av),.sl false false b.aD.length (ae dp b.aD)],false,false,false⟩∧H 6=some ⟨ag,3,ae (eI .i64) j,false,true,false⟩∧H 7=some ⟨Z,3,ae (eI .i64) f,false,true,false⟩) (fun o x t H e=>match o with|(.inl _)=>x=.exit 8∧∃E:Nat,∃F:Nat,t 1=.ptr 1 E 0∧t 7=.buf 7 F 1 0 (f).length∧H 1=some ⟨E,25,[.sl false false b.av.length (ae (eI .i64) b.av),.sl false false b.aD.length (ae dp b.aD)],false,false,false⟩∧H 7=some ⟨F,3,ae (eI .i64) f,false,true,false⟩|(.inr r)=>x=.ret∧gi .clean tab none [.tmp 2,.tmp 3] ⟨t,EH H,e⟩=some (.clean (.tup [.int .i64 r.1,.int .i64 r.2]),none)) bg ?_ ?_ ?_
       ·refine⟨n,p,q,?_⟩;and_intros<;>first|rfl|(simp only[aM,seval,bf]<;>rfl)
       ·rintro X t H e ⟨Y,ag,Z,Zh⟩ c a;simp only[lC]at a;simp only[aM,seval,Zh];apply sp an a<;>intro _ a
        ·obtain⟨bH,bh,a⟩:=ah a;have aC:=bz (eI .i64) bh;simp only[bM]at aC;simp only[aM,seval,Zh,aC];apply sp an a<;>intro _ a
         ·cases a;simp only[aM,seval];refine tQ ⟨rfl,?_⟩;simp only[aM,seval]
         ·simp only[aM,seval];apply sp an a<;>intro _ a
          ·cases a;simp only[aM,seval];refine tQ ⟨rfl,?_⟩;simp only[aM,seval]
          ·cases a;simp only[aM,seval,Zh];apply iG;refine⟨Y,ag,Z,?_⟩;and_intros<;>first|rfl|(simp only[aM,seval,Zh]<;>rfl)
        ·cases a;simp only[aM,seval];apply jG;refine⟨rfl,⟨Y,Z,?_,?_,?_,?_⟩⟩;all_goals ((simp only[aM,seval,Zh]<;>rfl))
       ·rintro x t H e g;rcases bt with _|rh
        ·dsimp only at g a;obtain⟨rfl,⟨E,F,bj⟩⟩:=g;simp only[aM,seval,bj];obtain⟨bw,bk,a⟩:=ah a;refine aA (fun s t H e=>match s with|aa=>∃ai:Nat,∃aj:Nat,t 1=.ptr 1 ai 0∧t 116=.buf 7 aj 1 0 (f).length∧t 117=.int .i64 ((f).length:Int)∧t 118=.int .i64 aa∧H 1=some ⟨ai,25,[.sl false false b.av.length (ae (eI .i64) b.av),.sl false false b.aD.length (ae dp b.aD)],false,false,false⟩∧H 7=some ⟨aj,3,ae (eI .i64) f,false,true,false⟩) (fun o x t H e=>match o with|(.inl _)=>x=.exit 11|(.inr r)=>x=.ret∧gi .clean tab none [.tmp 2,.tmp 3] ⟨t,EH H,e⟩=some (.clean (.tup [.int .i64 r.1,.int .i64 r.2]),none)) bk ?_ ?_ ?_
         ·refine⟨E,F,?_⟩;and_intros<;>first|rfl|(simp only[aM,seval,bj]<;>rfl)
         ·rintro aa t H e ⟨ai,aj,Zi⟩ c a;simp only[lD]at a;simp only[aM,seval,Zi];apply sp an a<;>intro _ a
          ·obtain⟨bI,bl,a⟩:=ah a;have aD:=bz (eI .i64) bl;simp only[bM]at aD;obtain⟨bJ,bm,a⟩:=ah a;have aE:=bz (eI .i64) bm;simp only[bM]at aE;simp only[aM,seval,Zi,aD,aE];apply sp an a<;>intro _ a
           ·cases a;simp only[aM,seval];refine tQ ⟨rfl,?_⟩;simp only[aM,seval]
           ·cases a;simp only[aM,seval,Zi];apply iG;refine⟨ai,aj,?_⟩;and_intros<;>first|rfl|(simp only[aM,seval,Zi]<;>rfl)
          ·cases a;simp only[aM,seval];apply jG;exact rfl
         ·rintro x t H e g;rcases bw with _|ri
          ·dsimp only at g a;subst g;cases a;simp only[aM,seval]
          ·dsimp only at g a;obtain⟨rfl,hE⟩:=g;cases a;simp only[aX,ba,cv,cA];exact hE
        ·dsimp only at g a;obtain⟨rfl,hE⟩:=g;cases a;simp only[aX,ba,cv,cA];exact hE
      ·dsimp only at g a;obtain⟨rfl,hE⟩:=g;cases a;simp only[aX,ba,cv,cA];exact hE
    ·dsimp only at g a;obtain⟨rfl,hE⟩:=g;cases a;simp only[aX,ba,cv,cA];exact hE
 ·clear a;have a:=bn;simp only[aM,seval];apply sp aZ a<;>intro _ a
  ·cases a;simp only[aM,seval];rw[aw];refine⟨_,rfl,?_⟩;refine⟨0,?_,?_,?_⟩;all_goals (rfl)
  ·cases a;simp only[aM,seval];rw[aw];refine⟨_,rfl,?_⟩;refine⟨0,?_,?_,?_⟩;all_goals (rfl)
def yd:=dN (fK (aI .i64) (dy (aI .i64))) (fun x:Int×Int=>yA x.1 x.2) (fun r:al×Int =>.clean (.tup [.agg [.int .i64 r.1.bK.ak,.sl false false r.1.bK.aa.length (ae (eI .i64) r.1.bK.aa),.int .i64 r.1.bL.ak,.sl false false r.1.bL.aa.length (ae (eI .i64) r.1.bL.aa)],.int .i64 r.2])) l d
def Cc:Env:=(Am.ext (Am.ext bf 39 false ib) 60 false ru)
def SU:bI prog Cc:=((bI.none.add te false).add Ku false)
def X8:=ai @w<|ai @sh6<|ai @ib.eq_1<|ai @sh2<|ai @ru.eq_1<|@Cc.eq_1
def Ti:bZ prog 45 yd:=dT SU func45 (by kernel_rfl) (fun _ _=>rfl) (fun _=>by kernel_rfl) ntmps45 results45 rfl fun⟨e,f⟩ r a=>by
 simp only[hZ]at a⊢;unfold yA at a;obtain⟨g,b,a⟩:=ah a;obtain⟨h,c,a⟩:=ah a;obtain⟨i,d,a⟩:=ah a;cases a;simp only[X8,seval,b,c,d]
def p5:=jT 67 (bJ au) (fK (jZ (eI .i64)) (dy (bJ dp))) (fun (l:(List ((Int×Int)×al))) (x:(List Int)×ck)=>jo l x.1 x.2) (fun r:Unit =>.clean (.tup []))
def Ee (f:(List ((Int×Int)×al))) (g:(List Int)) (a:(List jQ)) (b:(List D1)) (c:(List (List al))) (d:(List ic)) (e:(List Int)):p5 (some (.mp 0 0,⟨0,67,[.mpc (eR f) (gJ (bJ au) f)],false,true,true⟩)) [.sl false false g.length (ae (eI .i64) g),.agg [.sl false false a.length (ae bN a),.sl false false b.length (ae fC b),.sl false false c.length (ae (nM au) c),.sl false false d.length (ae ig d),.sl false false e.length (ae (eI .i64) e)]]=(jo f g (ck.mk (gN.mk a b c) d e)).map fun r=>(.clean (.tup []),some ⟨0,67,[.mpc (eR r.1) (gJ (bJ au) r.1)],false,true,true⟩):=aev _ _ _ _ _ f (g,(ck.mk (gN.mk a b c) d e))
def mA:Env:=(Am.ext (Am.ext (Am.ext (Am.ext bf 11 false dS) 13 false jj) 45 false yd) 46 false tZ)
def Cl:bI prog mA:=((((bI.none.add lL false).add xz false).add Ti false).add GV false)
def aV:=ai @w<|ai @Ri<|ai @dS.eq_1<|ai @Rj<|ai @jj.eq_1<|ai @sh7<|ai @yd.eq_1<|ai @tZ.eq_1<|@mA.eq_1
def Ea (p0:(List ((Int×Int)×al))) (u:(List Int)) (a:ck) (r:(List ((Int×Int)×al))×(Unit)) (b:jo p0 u a=some r):lT .clean tab mA FU Tryz.f23 (some (.mp 0 0,⟨0,67,[.mpc (eR p0) (gJ (bJ au) p0)],false,true,true⟩)) [.sl false false u.length (ae (eI .i64) u),.agg [.sl false false a.ay.aq.length (ae bN a.ay.aq),.sl false false a.ay.aO.length (ae fC a.ay.aO),.sl false false a.ay.aL.length (ae (nM au) a.ay.aL),.sl false false a.a8.length (ae ig a.a8),.sl false false a.aC.length (ae (eI .i64) a.aC)]]=some (.clean (.tup []),some ⟨0,67,[.mpc (eR r.1) (gJ (bJ au) r.1)],false,true,true⟩):=by
 apply RS rfl ntmps23 results23;unfold jo at b;simp only[aV,seval];obtain⟨aq,R,b⟩:=ah b;refine aA (fun s t H e=>match s with|(f,O)=>∃v:Nat,t 0=.mp 0 0∧t 1=.sl false false u.length (ae (eI .i64) u)∧t 5=.ptr 5 v 0∧t 20=.sl false false a.ay.aq.length (ae bN a.ay.aq)∧t 21=.int .i64 (a.ay.aq.length:Int)∧t 22=.int .i64 f∧H 0=some ⟨0,67,[.mpc (eR O) (gJ (bJ au) O)],false,true,true⟩∧H 5=some ⟨v,63,[.sl false false a.ay.aq.length (ae bN a.ay.aq),.sl false false a.ay.aO.length (ae fC a.ay.aO),.sl false false a.ay.aL.length (ae (nM au) a.ay.aL),.sl false false a.a8.length (ae ig a.a8),.sl false false a.aC.length (ae (eI .i64) a.aC)],false,false,false⟩) (fun o x t H e=>match o with|w=>x=.exit 0∧t 0=.mp 0 0∧H 0=some ⟨0,67,[.mpc (eR w) (gJ (bJ au) w)],false,true,true⟩) R ?_ ?_ ?_
 ·refine⟨1,?_,?_,?_,?_,?_,?_,?_,?_⟩;all_goals (rfl)
 ·rintro⟨f,O⟩ t H e ⟨v,P⟩ c b;simp only[jC]at b;simp only[aV,seval,P];apply sp an b<;>intro _ b
  ·obtain⟨ay,S,b⟩:=ah b;have l:=bz bN S;simp only[bM]at l;simp only[aV,seval,P,l];apply sp an b<;>intro _ b
   ·cases b;simp only[aV,seval,P];apply iG;refine⟨v,?_⟩;and_intros<;>first|rfl|(simp only[aV,seval,P]<;>rfl)
   ·obtain⟨E,T,b⟩:=ah b;have G:=bz ig T;simp only[bM]at G;obtain⟨az,U,b⟩:=ah b;have I:=bz (eI .i64) U;simp only[bM]at I;obtain⟨d,V,b⟩:=ah b;simp only[aV,seval,P,G,I,V];refine bu (by kernel_rfl) ?_;obtain⟨ar,W,b⟩:=ah b;refine aA (fun s t H e=>match s with|(m,y)=>∃q:Nat,∃A:Nat,∃B:Nat,t 0=.mp 0 0∧t 1=.sl false false u.length (ae (eI .i64) u)∧t 5=.ptr 5 q 0∧t 6=.int .i64 f∧t 8=.ptr 8 A 0∧t 9=.ptr 9 B 0∧t 20=.sl false false a.ay.aq.length (ae bN a.ay.aq)∧t 21=.int .i64 (a.ay.aq.length:Int)∧t 22=.int .i64 f∧t 49=.sl false false a.ay.aO.length (ae fC a.ay.aO)∧t 50=.int .i64 (a.ay.aO.length:Int)∧t 51=.int .i64 m∧H 0=some ⟨0,67,[.mpc (eR y) (gJ (bJ au) y)],false,true,true⟩∧H 5=some ⟨q,63,[.sl false false a.ay.aq.length (ae bN a.ay.aq),.sl false false a.ay.aO.length (ae fC a.ay.aO),.sl false false a.ay.aL.length (ae (nM au) a.ay.aL),.sl false false a.a8.length (ae ig a.a8),.sl false false a.aC.length (ae (eI .i64) a.aC)],false,false,false⟩∧H 8=some ⟨A,97,[.int .i64 E.cm,.int .i64 E.aT],false,false,false⟩∧H 9=some ⟨B,41,[.int .i64 d.1.bK.ak,.sl false false d.1.bK.aa.length (ae (eI .i64) d.1.bK.aa),.int .i64 d.1.bL.ak,.sl false false d.1.bL.aa.length (ae (eI .i64) d.1.bL.aa)],false,false,false⟩) (fun o x t H e=>match o with|C=>x=.exit 2∧∃n:Nat,t 0=.mp 0 0∧t 1=.sl false false u.length (ae (eI .i64) u)∧t 5=.ptr 5 n 0∧t 20=.sl false false a.ay.aq.length (ae bN a.ay.aq)∧t 21=.int .i64 (a.ay.aq.length:Int)∧t 22=.int .i64 f∧H 0=some ⟨0,67,[.mpc (eR C) (gJ (bJ au) C)],false,true,true⟩∧H 5=some ⟨n,63,[.sl false false a.ay.aq.length (ae bN a.ay.aq),.sl false false a.ay.aO.length (ae fC a.ay.aO),.sl false false a.ay.aL.length (ae (nM au) a.ay.aL),.sl false false a.a8.length (ae ig a.a8),.sl false false a.aC.length (ae (eI .i64) a.aC)],false,false,false⟩) W ?_ ?_ ?_
    ·refine⟨v,e+1+1+1,e+1+1+1+1,?_⟩;and_intros<;>first|rfl|(simp only[aV,seval,P]<;>rfl)
    ·rintro⟨m,y⟩ t H e ⟨q,A,B,Q⟩ c b;simp only[gW]at b;simp only[aV,seval,Q];apply sp an b<;>intro _ b
     ·obtain⟨F,X,b⟩:=ah b;have p:=bz fC X;simp only[bM]at p;simp only[aV,seval,Q,p];obtain⟨av,Y,b⟩:=ah b;refine bS 0 (fun s t H e=>match s with|D=>∃g:Nat,∃h:Nat,∃i:Nat,∃k:Nat,t 0=.mp 0 0∧t 1=.sl false false u.length (ae (eI .i64) u)∧t 5=.ptr 5 g 0∧t 6=.int .i64 f∧t 8=.ptr 8 h 0∧t 9=.ptr 9 i 0∧t 11=.int .i64 m∧t 12=.ptr 12 k 0∧t 20=.sl false false a.ay.aq.length (ae bN a.ay.aq)∧t 21=.int .i64 (a.ay.aq.length:Int)∧t 22=.int .i64 f∧t 49=.sl false false a.ay.aO.length (ae fC a.ay.aO)∧t 50=.int .i64 (a.ay.aO.length:Int)∧t 51=.int .i64 m∧t 71=.bool D∧H 0=some ⟨0,67,[.mpc (eR y) (gJ (bJ au) y)],false,true,true⟩∧H 5=some ⟨g,63,[.sl false false a.ay.aq.length (ae bN a.ay.aq),.sl false false a.ay.aO.length (ae fC a.ay.aO),.sl false false a.ay.aL.length (ae (nM au) a.ay.aL),.sl false false a.a8.length (ae ig a.a8),.sl false false a.aC.length (ae (eI .i64) a.aC)],false,false,false⟩∧H 8=some ⟨h,97,[.int .i64 E.cm,.int .i64 E.aT],false,false,false⟩∧H 9=some ⟨i,41,[.int .i64 d.1.bK.ak,.sl false false d.1.bK.aa.length (ae (eI .i64) d.1.bK.aa),.int .i64 d.1.bL.ak,.sl false false d.1.bL.aa.length (ae (eI .i64) d.1.bL.aa)],false,false,false⟩∧H 12=some ⟨k,101,[.int .i64 F.bG,.int .i64 F.aY,.int .i64 F.aT,.str F.LS],false,false,false⟩) (fun s=>s=av) ?_ ?_
      ·rintro D t H e ⟨g,h,i,k,j⟩ rfl;try dsimp only at b
       simp only[aV,seval,j];apply sp an b<;>intro _ b
       ·cases b;simp only[aV,seval,j];apply iG;refine⟨g,h,i,?_⟩;and_intros<;>first|rfl|(simp only[aV,seval,j]<;>rfl)
       ·obtain⟨aB,Z,b⟩:=ah b;have J:=bz (eI .i64) Z;simp only[bM]at J;simp only[aV,seval,p,j,J];refine bu (by kernel_rfl) ?_;obtain⟨aC,aa,b⟩:=ah b;have K:=bz (nM au) aa;simp only[bM]at K;obtain⟨aD,ab,b⟩:=ah b;have L:=bz au ab;simp only[bM]at L;obtain⟨aE,ad,b⟩:=ah b;simp only[aV,seval,l,j,K,L,ad];refine bu (by kernel_rfl) ?_;apply sp an b<;>intro _ b
        ·obtain⟨aF,ag,b⟩:=ah b;cases b;simp only[aV,seval,j,ag];apply iG;refine⟨g,h,i,?_⟩;and_intros<;>first|rfl|(simp only[aV,seval,j]<;>rfl)
        ·cases b;simp only[aV,seval,j];apply iG;refine⟨g,h,i,?_⟩;and_intros<;>first|rfl|(simp only[aV,seval,j]<;>rfl)
      ·clear b;have b:=Y;simp only[aV,seval];apply sp aZ b<;>intro _ b
       ·cases b;simp only[aV,seval];rw[aw];refine⟨_,rfl,?_⟩;refine⟨q,A,B,e+1,?_⟩;and_intros<;>first|rfl|(simp only[aV,seval,Q]<;>rfl)
       ·obtain⟨aG,ai,b⟩:=ah b;have M:=bz (nM au) ai;simp only[bM]at M;obtain⟨aH,aj,b⟩:=ah b;have N:=bz au aj;simp only[bM]at N;obtain⟨aI,ak,b⟩:=ah b;cases b;simp only[aV,seval,l,Q,p,M,N,ak];rw[aw];refine⟨_,rfl,?_⟩;refine⟨q,A,B,e+1,?_⟩;and_intros<;>first|rfl|(simp only[aV,seval,Q]<;>rfl)
     ·cases b;simp only[aV,seval];apply jG;refine⟨rfl,⟨q,?_,?_,?_,?_,?_,?_,?_,?_⟩⟩;all_goals ((simp only[aV,seval,Q]<;>rfl))
    ·rintro x t H e hx;obtain⟨C,rfl⟩:∃z,z=ar:=⟨_,rfl⟩;dsimp only at hx b;obtain⟨rfl,⟨n,ao⟩⟩:=hx;cases b;simp only[aV,seval,ao];apply iG;refine⟨n,?_⟩;and_intros<;>first|rfl|(simp only[aV,seval,ao]<;>rfl)
  ·cases b;simp only[aV,seval];apply jG;refine⟨rfl,⟨?_,?_⟩⟩;all_goals ((simp only[aV,seval,P]<;>rfl))
 ·rintro x t H e hx;obtain⟨w,rfl⟩:∃z,z=aq:=⟨_,rfl⟩;dsimp only at hx b;obtain⟨rfl,ax⟩:=hx;cases b;simp only[aV,seval,ax]
def Cx:bZ prog 23 p5:=bZ.aac tok Cl mixed func23 (by kernel_rfl) ⟨by kernel_rfl,by kernel_rfl⟩ (fun _=>aki (by kernel_rfl)) (fun l x a r h=>Ea l x.1 x.2 (a,r) h)
def AA:=dN (dy (bJ sW)) (fun x:ct=>Cw x) (fun r:dE×Int =>.clean (.tup [.agg [.int .i64 r.1.aC,.sl false false r.1.aP.length (ae bP r.1.aP)],.int .i64 r.2])) l d
def A3:Env:=(Am.wA 9 (50,6,1) (Am.ext (Am.ext bf 22 false sN) 23 true p5))
def W8:bI prog A3:=(bI.wA ((bI.none.add Mv false).add Cx true) 9 (50,6,1))
def kh:=ai @w<|ai @FO<|ai @acJ<|ai @sN.eq_1<|@A3.eq_1
def aag (f:ct) (r:dE×Int) (a:Cw f=some r):T9 tab A3 FU 5 Tryz.f7 [.agg [.sl false false f.av.length (ae (eI .i64) f.av),.sl false false f.aD.length (ae dp f.aD)]] (zH tab Tryz.f7.results.toList (.clean (.tup [.agg [.int .i64 r.1.aC,.sl false false r.1.aP.length (ae bP r.1.aP)],.int .i64 r.2]),none) (afl r)):=by
 apply X4 rfl ntmps7 results7;simp only[LV,LW];unfold Cw at a;obtain⟨G,y,a⟩:=ah a;simp only[kh,seval,y];apply sp an a<;>intro _ a
 ·cases a;simp only[kh,seval]
 ·simp only[kh,seval];obtain⟨E,A,a⟩:=ah a;refine aA (fun s t H e=>match s with|(n,h)=>∃j:Nat,∃k:Nat,∃g:Nat,t 1=.ptr 1 j 0∧t 2=.ptr 2 k 0∧t 6=.mp 21 g∧t 23=.sl false false f.aD.length (ae dp f.aD)∧t 24=.int .i64 (f.aD.length:Int)∧t 25=.int .i64 n∧H 1=some ⟨j,25,[.sl false false f.av.length (ae (eI .i64) f.av),.sl false false f.aD.length (ae dp f.aD)],false,false,false⟩∧H 2=some ⟨k,32,[.int .i64 0,.sl true true 0 []],false,false,false⟩∧H 21=some ⟨g,67,[.mpc (eR h) (gJ (bJ au) h)],false,true,true⟩) (fun o x t H e=>match o with|b=>x=.exit 0∧∃l:Nat,∃i:Nat,∃d:Nat,t 1=.ptr 1 l 0∧t 2=.ptr 2 i 0∧t 6=.mp 21 d∧H 1=some ⟨l,25,[.sl false false f.av.length (ae (eI .i64) f.av),.sl false false f.aD.length (ae dp f.aD)],false,false,false⟩∧H 2=some ⟨i,32,[.int .i64 0,.sl true true 0 []],false,false,false⟩∧H 21=some ⟨d,67,[.mpc (eR b) (gJ (bJ au) b)],false,true,true⟩) A ?_ ?_ ?_
  ·refine⟨0,0,3,?_,?_,?_,?_,?_,?_,?_,?_,?_⟩;all_goals (rfl)
  ·rintro⟨n,h⟩ t H e ⟨j,k,g,w⟩ c a;simp only[rf]at a;simp only[kh,seval,w];apply sp an a<;>intro _ a
   ·obtain⟨p,B,a⟩:=ah a;have q:=bz dp B;simp only[bM]at q;have C:=Ee h f.av p.ay.aq p.ay.aO p.ay.aL p.a8 p.aC;obtain⟨F,u,a⟩:=ah a;cases a;simp only[kh,seval,w,q,C,u];apply iG;refine⟨j,k,g,?_⟩;and_intros<;>first|rfl|(simp only[kh,seval,w]<;>rfl)
   ·cases a;simp only[kh,seval];apply jG;refine⟨rfl,⟨j,k,g,?_,?_,?_,?_,?_,?_⟩⟩;all_goals ((simp only[kh,seval,w]<;>rfl))
  ·rintro x t H e D;obtain⟨b,rfl⟩:∃z,z=E:=⟨_,rfl⟩;dsimp only at D a;obtain⟨rfl,⟨l,i,d,m⟩⟩:=D;simp only[kh,seval,m];apply sp an a<;>intro _ a
   ·cases a;simp only[kh,seval,m]
   ·have v:bump (4*(e+1)+2) (e+1)=some (4*(e+1)+3):=YO rfl;simp only[kh,seval,m,v];rw[H8];refine⟨b,(f.av.length:Int),d,e+1,i,(4*(e+1)+3),?_,?_,?_,?_,?_,?_,by omega,a⟩;all_goals first|rfl|(simp only[kh,seval,m]<;>rfl)
def Xy:bZ prog 7 AA:=bZ.front tok W8 mixed func7 rfl (by kernel_rfl) ⟨by kernel_rfl,by kernel_rfl⟩ (fun _=>aki (by kernel_rfl)) (aki (by kernel_rfl)) (fun x r h=>aag x r h) (fun r=>aaq r)
def uN:=dN (fK (bJ fl) (dy (bJ fl))) (fun x:aF×aF=>xI x.1 x.2) (fun r:Bool =>.clean (.bool r)) l d
def QB:bZ prog 101 uN:=dT bI.none func101 (by kernel_rfl) (fun _ _=>rfl) (fun _=>by kernel_rfl) ntmps101 results101 rfl fun⟨j,k⟩ r a=>by
 simp only[hZ]at a⊢;unfold xI at a;simp only[w,seval];obtain⟨A,v,a⟩:=ah a;refine bS 0 (fun s t H e=>match s with|f=>∃b:Nat,∃d:Nat,t 2=.ptr 2 b 0∧t 3=.ptr 3 d 0∧t 19=.bool f∧H 2=some ⟨b,39,[.int .i64 j.ak,.sl false false j.aa.length (ae (eI .i64) j.aa)],false,false,false⟩∧H 3=some ⟨d,39,[.int .i64 k.ak,.sl false false k.aa.length (ae (eI .i64) k.aa)],false,false,false⟩) (fun s=>s=A) ?_ ?_
 ·rintro f t H e ⟨b,d,l⟩ rfl;try dsimp only at a
  simp only[w,seval,l];apply sp an a<;>intro _ a
  ·cases a;simp only[w,seval]
  ·simp only[w,seval];obtain⟨B,y,a⟩:=ah a;refine aA (fun s t H e=>match s with|m=>∃g:Nat,∃h:Nat,t 2=.ptr 2 g 0∧t 3=.ptr 3 h 0∧t 5=.int .i64 m∧H 2=some ⟨g,39,[.int .i64 j.ak,.sl false false j.aa.length (ae (eI .i64) j.aa)],false,false,false⟩∧H 3=some ⟨h,39,[.int .i64 k.ak,.sl false false k.aa.length (ae (eI .i64) k.aa)],false,false,false⟩) (fun o x t H e=>match o with|(.inl _)=>x=.exit 0|(.inr r)=>x=.ret∧gi .clean tab none [.tmp 4] ⟨t,EH H,e⟩=some (.clean (.bool r),none)) y ?_ ?_ ?_
   ·refine⟨b,d,?_⟩;and_intros<;>first|rfl|(simp only[w,seval,l]<;>rfl)
   ·rintro m t H e ⟨g,h,q⟩ c a;simp only[DM]at a;simp only[w,seval,q];apply sp an a<;>intro _ a
    ·obtain⟨E,z,a⟩:=ah a;have n:=bz (eI .i64) z;simp only[bM]at n;obtain⟨C,p,a⟩:=ah a;have i:=bz (eI .i64) p;simp only[bM]at i;simp only[w,seval,q,n,i];refine bu (by kernel_rfl) ?_;apply sp an a<;>intro _ a
     ·cases a;simp only[w,seval];refine tQ ⟨rfl,?_⟩;simp only[w,seval]
     ·cases a;simp only[w,seval,q];apply iG;refine⟨g,h,?_⟩;and_intros<;>first|rfl|(simp only[w,seval,q]<;>rfl)
    ·cases a;simp only[w,seval];apply jG;exact rfl
   ·rintro x t H e u;rcases B with _|F
    ·dsimp only at u a;subst u;cases a;simp only[w,seval]
    ·dsimp only at u a;obtain⟨rfl,D⟩:=u;cases a;simp only[aX,ba,cv,cA];exact D
 ·clear a;have a:=v;simp only[w,seval];apply sp aZ a<;>intro _ a
  ·cases a;simp only[w,seval];rw[aw];refine⟨_,rfl,?_⟩;refine⟨0,0,?_,?_,?_,?_,?_⟩;all_goals (rfl)
  ·cases a;simp only[w,seval];rw[aw];refine⟨_,rfl,?_⟩;refine⟨0,0,?_,?_,?_,?_,?_⟩;all_goals (rfl)
def pj:=dN (fK (bJ fl) (dy (bJ fl))) (fun x:aF×aF=>np x.1 x.2) (fun r:Int =>.clean (.int .i64 r)) l d
def tK:Env:=(Am.ext (Am.ext (Am.ext bf 61 false fZ) 101 false uN) 102 false mH)
def F1:bI prog tK:=(((bI.none.add lM false).add QB false).add DI false)
def cU:=ai @w<|ai @sh3<|ai @fZ.eq_1<|ai @sh6<|ai @uN.eq_1<|ai @sh5<|ai @mH.eq_1<|@tK.eq_1
def GX:bZ prog 63 pj:=dT F1 func63 (by kernel_rfl) (fun _ _=>rfl) (fun _=>by kernel_rfl) ntmps63 results63 rfl fun⟨h,i⟩ r a=>by
 simp only[hZ]at a⊢;unfold np at a;obtain⟨p,j,a⟩:=ah a;simp only[cU,seval,j];obtain⟨n,k,a⟩:=ah a;refine bS 0 (fun s t H e=>match s with|b=>∃c:Nat,∃d:Nat,t 2=.ptr 2 c 0∧t 3=.ptr 3 d 0∧t 17=.bool b∧H 2=some ⟨c,39,[.int .i64 h.ak,.sl false false h.aa.length (ae (eI .i64) h.aa)],false,false,false⟩∧H 3=some ⟨d,39,[.int .i64 i.ak,.sl false false i.aa.length (ae (eI .i64) i.aa)],false,false,false⟩) (fun s=>s=n) ?_ ?_
 ·rintro b t H e ⟨c,d,f⟩ rfl;try dsimp only at a
  simp only[cU,seval,f];apply sp an a<;>intro _ a
  ·cases a;simp only[cU,seval]
  ·simp only[cU,seval,f];apply sp an a<;>intro _ a
   ·simp only[cU,seval,f];apply sp an a<;>intro _ a
    ·cases a;simp only[cU,seval]
    ·cases a;simp only[cU,seval]
   ·obtain⟨q,l,a⟩:=ah a;simp only[cU,seval,f,l];refine bu (by kernel_rfl) ?_;apply sp an a<;>intro _ a
    ·cases a;simp only[cU,seval]
    ·cases a;simp only[cU,seval]
 ·clear a;have a:=k;simp only[cU,seval];apply sp aZ a<;>intro _ a
  ·cases a;simp only[cU,seval];rw[aw];refine⟨_,rfl,?_⟩;refine⟨0,0,?_,?_,?_,?_,?_⟩;all_goals (rfl)
  ·obtain⟨u,m,a⟩:=ah a;simp only[cU,seval,m];apply sp aZ a<;>intro _ a
   ·cases a;simp only[cU,seval];rw[aw];refine⟨_,rfl,?_⟩;refine⟨0,0,?_,?_,?_,?_,?_⟩;all_goals (rfl)
   ·obtain⟨o,g,a⟩:=ah a;cases a;simp only[cU,seval,g];rw[aw];refine⟨_,rfl,?_⟩;refine⟨0,0,?_,?_,?_,?_,?_⟩;all_goals (rfl)
def sQ:=dN (dy (bJ au)) (fun x:al=>rl x) (fun r:Bool =>.clean (.bool r)) l d
def xp:Env:=(Am.ext (Am.ext (Am.ext (Am.ext bf 61 false fZ) 62 false oE) 63 false pj) 64 false rz)
def L8:bI prog xp:=((((bI.none.add lM false).add GY false).add GX false).add Kw false)
def jg:=ai @w<|ai @sh3<|ai @fZ.eq_1<|ai @sh6<|ai @oE.eq_1<|ai @pj.eq_1<|ai @sh2<|ai @rz.eq_1<|@xp.eq_1
def Mz:bZ prog 34 sQ:=dT L8 func34 (by kernel_rfl) (fun _ _=>rfl) (fun _=>by kernel_rfl) ntmps34 results34 rfl fun d r a=>by
 simp only[hZ]at a⊢;unfold rl at a;obtain⟨n,g,a⟩:=ah a;simp only[jg,seval,g];obtain⟨m,h,a⟩:=ah a;refine bS 0 (fun s t H e=>match s with|b=>∃c:Nat,t 1=.ptr 1 c 0∧t 20=.bool b∧H 1=some ⟨c,41,[.int .i64 d.bK.ak,.sl false false d.bK.aa.length (ae (eI .i64) d.bK.aa),.int .i64 d.bL.ak,.sl false false d.bL.aa.length (ae (eI .i64) d.bL.aa)],false,false,false⟩) (fun s=>s=m) ?_ ?_
 ·rintro b t H e ⟨c,f⟩ rfl;try dsimp only at a
  simp only[jg,seval,f];apply sp an a<;>intro _ a
  ·cases a;simp only[jg,seval]
  ·obtain⟨o,i,a⟩:=ah a;obtain⟨p,j,a⟩:=ah a;obtain⟨q,k,a⟩:=ah a;simp only[jg,seval,f,i,j,k];refine bu (by kernel_rfl) ?_;cases a;simp only[seval]
 ·clear a;have a:=h;simp only[jg,seval];apply sp aZ a<;>intro _ a
  ·cases a;simp only[jg,seval];rw[aw];refine⟨_,rfl,?_⟩;refine⟨0,?_,?_,?_⟩;all_goals (rfl)
  ·obtain⟨u,l,a⟩:=ah a;simp only[jg,seval,l];apply sp aZ a<;>intro _ a
   ·cases a;simp only[jg,seval];rw[aw];refine⟨_,rfl,?_⟩;refine⟨0,?_,?_,?_⟩;all_goals (rfl)
   ·cases a;simp only[jg,seval];rw[aw];refine⟨_,rfl,?_⟩;refine⟨0,?_,?_,?_⟩;all_goals (rfl)
def po:=dN (fK (jZ au) (dy (aI .i64))) (fun x:(List al)×Int=>nt x.1 x.2) (fun r:Bool =>.clean (.bool r)) l d
def tM:Env:=(Am.ext bf 34 false sQ)
def F3:bI prog tM:=(bI.none.add Mz false)
def fu:=ai @w<|ai @Ri<|ai @sQ.eq_1<|@tM.eq_1
def G3:bZ prog 9 po:=dT F3 func9 (by kernel_rfl) (fun _ _=>rfl) (fun _=>by kernel_rfl) ntmps9 results9 rfl fun⟨b,i⟩ r a=>by
 simp only[hZ]at a⊢;unfold nt at a;simp only[fu,seval];obtain⟨n,j,a⟩:=ah a;refine aA (fun s t H e=>match s with|d=>t 0=.sl false false b.length (ae au b)∧t 1=.int .i64 i∧t 5=.int .i64 d) (fun o x t H e=>match o with|(.inl _)=>x=.exit 0∧t 0=.sl false false b.length (ae au b)∧t 1=.int .i64 i|(.inr r)=>x=.ret∧gi .clean tab none [.tmp 4] ⟨t,EH H,e⟩=some (.clean (.bool r),none)) j ?_ ?_ ?_
 ·refine⟨?_,?_,?_⟩;all_goals (rfl)
 ·rintro d t H e f c a;simp only[oo]at a;simp only[fu,seval,f];apply sp an a<;>intro _ a
  ·obtain⟨q,k,a⟩:=ah a;have g:=bz au k;simp only[bM]at g;obtain⟨u,l,a⟩:=ah a;simp only[fu,seval,f,g,l];apply sp an a<;>intro _ a
   ·cases a;simp only[fu,seval];refine tQ ⟨rfl,?_⟩;simp only[fu,seval]
   ·cases a;simp only[fu,seval,f];apply iG;and_intros<;>first|rfl|(simp only[fu,seval,f]<;>rfl)
  ·cases a;simp only[fu,seval];apply jG;refine⟨rfl,⟨?_,?_⟩⟩;all_goals ((simp only[fu,seval,f]<;>rfl))
 ·rintro x t H e h;rcases n with _|v
  ·dsimp only at h a;obtain⟨rfl,m⟩:=h;cases a;simp only[fu,seval,m]
  ·dsimp only at h a;obtain⟨rfl,p⟩:=h;cases a;simp only[aX,ba,cv,cA];exact p
def uL:=dN (fK (bJ rI) (dy (aI .i64))) (fun x:dE×Int=>se x.1 x.2) (fun r:al =>.clean (.agg [.int .i64 r.bK.ak,.sl false false r.bK.aa.length (ae (eI .i64) r.bK.aa),.int .i64 r.bL.ak,.sl false false r.bL.aa.length (ae (eI .i64) r.bL.aa)])) l d
def agn {β:Type} {F:dE×Int->Option β} {R:β->RK} (b:Int) (a:(List bV)) (c:Int):dN (fK (bJ rI) (dy (aI .i64))) F R none [.agg [.int .i64 b,.sl false false a.length (ae bP a)],.int .i64 c]=(F ((dE.mk b a),c)).map fun r=>(R r,none):=cn _ _ _ ((dE.mk b a),c)
def zS:Env:=(Am.ext (Am.ext (Am.ext bf 26 false iQ) 40 false ef) 41 false gM)
def O7:bI prog zS:=(((bI.none.add qM false).add kn false).add vB false)
def sC:=ai @w<|ai @XI<|ai @iQ.eq_1<|ai @sh9<|ai @ef.eq_1<|ai @gM.eq_1<|@zS.eq_1
def Qz:bZ prog 14 uL:=dT O7 func14 (by kernel_rfl) (fun _ _=>rfl) (fun _=>by kernel_rfl) ntmps14 results14 rfl fun⟨g,h⟩ r a=>by
 simp only[hZ]at a⊢;unfold se at a;obtain⟨i,c,a⟩:=ah a;simp only[sC,seval,c];apply sp aZ a<;>intro _ a
 ·cases a;simp only[sC,seval]
 ·obtain⟨j,d,a⟩:=ah a;simp only[sC,seval,d];apply sp an a<;>intro _ a
  ·cases a;simp only[sC,seval]
  ·obtain⟨k,e,a⟩:=ah a;obtain⟨l,f,a⟩:=ah a;have b:=bz au f;simp only[bM]at b;cases a;simp only[sC,seval,e,b]
def BL:=dN (fK (bJ sW) (dy (jZ au))) (fun x:ct×(List al)=>ir x.1 x.2) (fun r:Bool =>.clean (.bool r)) l d
def oQ:Env:=(Am.ext (Am.ext (Am.ext (Am.ext (Am.ext (Am.ext (Am.ext (Am.ext (Am.ext (Am.ext (Am.ext (Am.ext bf 4 false sM) 5 false yh) 6 false yi) 7 false AA) 8 false jO) 9 false po) 10 false oG) 11 false dS) 12 false fM) 13 false jj) 14 false uL) 15 false eH)
def A4:bI prog oQ:=((((((((((((bI.none.add Mu false).add To false).add Tp false).add Xy false).add xB false).add G3 false).add G0 false).add lL false).add td false).add xz false).add Qz false).add qe false)
def aB:=ai @w<|ai @age<|ai @sM.eq_1<|ai @acJ<|ai @yh.eq_1<|ai @acG<|ai @yi.eq_1<|ai @AA.eq_1<|ai @acH<|ai @jO.eq_1<|ai @po.eq_1<|ai @sh2<|ai @oG.eq_1<|ai @Ri<|ai @dS.eq_1<|ai @Rj<|ai @fM.eq_1<|ai @jj.eq_1<|ai @agn<|ai @uL.eq_1<|ai @eH.eq_1<|@oQ.eq_1
def Bj:bZ prog 3 BL:=dT A4 func3 (by kernel_rfl) (fun _ _=>rfl) (fun _=>by kernel_rfl) ntmps3 results3 rfl fun⟨R,z⟩ r a=>by
 simp only[hZ]at a⊢;unfold ir at a;obtain⟨O,ak,a⟩:=ah a;obtain⟨r2,al,a⟩:=ah a;simp only[aB,seval,ak,al];obtain⟨o3,ao,a⟩:=ah a;refine bS 0 (fun s t H e=>match s with|A=>∃B:Nat,t 1=.sl false false z.length (ae au z)∧t 2=.ptr 2 B 0∧t 5=.bool O∧t 23=.bool A∧H 2=some ⟨B,25,[.sl false false R.av.length (ae (eI .i64) R.av),.sl false false R.aD.length (ae dp R.aD)],false,false,false⟩) (fun s=>s=o3) ?_ ?_
 ·rintro A t H e ⟨B,f⟩ rfl;try dsimp only at a
  simp only[aB,seval,f];apply sp an a<;>intro _ a
  ·cases a;simp only[aB,seval,f]
  ·obtain⟨y,aq,a⟩:=ah a;simp only[aB,seval,f,aq];apply sp an a<;>intro _ a
   ·cases a;simp only[aB,seval,f]
   ·obtain⟨G,ar,a⟩:=ah a;simp only[aB,seval,f,ar];apply sp an a<;>intro _ a
    ·simp only[aB,seval,f];obtain⟨o9,av,a⟩:=ah a;refine bS 0 (fun s t H e=>match s with|I=>t 4=.bool I) (fun s=>s=o9) ?_ ?_
     ·rintro I t H e ax rfl;try dsimp only at a
      cases a;simp only[aB,seval,ax]
     ·clear a;have a:=av;simp only[aB,seval];apply sp fG a<;>intro _ a
      ·simp only[aB,seval];apply sp aZ a<;>intro _ a
       ·cases a;simp only[aB,seval];rw[aw];refine⟨_,rfl,?_⟩;refine ?_;all_goals (rfl)
       ·obtain⟨aF,S,a⟩:=ah a;cases a;simp only[aB,seval,f,S];rw[aw];refine⟨_,rfl,?_⟩;refine ?_;all_goals (rfl)
      ·cases a;simp only[aB,seval];rw[aw];refine⟨_,rfl,?_⟩;refine ?_;all_goals (rfl)
    ·simp only[aB,seval,f];obtain⟨ay,T,a⟩:=ah a;refine bS 0 (fun s t H e=>match s with|C=>∃n:Nat,t 1=.sl false false z.length (ae au z)∧t 5=.bool O∧t 6=.ptr 6 n 0∧t 8=.sl false false G.1.length (ae au G.1)∧t 66=.bool C∧H 6=some ⟨n,32,[.int .i64 y.1.aC,.sl false false y.1.aP.length (ae bP y.1.aP)],false,false,false⟩) (fun s=>s=ay) ?_ ?_
     ·rintro C t H e ⟨n,U⟩ rfl;try dsimp only at a
      simp only[aB,seval,U];apply sp an a<;>intro _ a
      ·cases a;simp only[aB,seval]
      ·obtain⟨aG,V,a⟩:=ah a;simp only[aB,seval,V];obtain⟨az,W,a⟩:=ah a;refine aA (fun s t H e=>match s with|(J,p,i,q,j)=>∃D:Nat,∃l:Nat,t 1=.sl false false z.length (ae au z)∧t 5=.bool O∧t 6=.ptr 6 D 0∧t 8=.sl false false G.1.length (ae au G.1)∧t 10=.ptr 10 l 0∧t 11=.int .i64 J∧H 6=some ⟨D,32,[.int .i64 y.1.aC,.sl false false y.1.aP.length (ae bP y.1.aP)],false,false,false⟩∧H 10=some ⟨l,41,[.int .i64 p,.sl false false i.length (ae (eI .i64) i),.int .i64 q,.sl false false j.length (ae (eI .i64) j)],false,false,false⟩) (fun o x t H e=>match o with|(.inl (g,b,h,d))=>x=.exit 0∧∃u:Nat,∃k:Nat,t 1=.sl false false z.length (ae au z)∧t 5=.bool O∧t 6=.ptr 6 u 0∧t 8=.sl false false G.1.length (ae au G.1)∧t 10=.ptr 10 k 0∧H 6=some ⟨u,32,[.int .i64 y.1.aC,.sl false false y.1.aP.length (ae bP y.1.aP)],false,false,false⟩∧H 10=some ⟨k,41,[.int .i64 g,.sl false false b.length (ae (eI .i64) b),.int .i64 h,.sl false false d.length (ae (eI .i64) d)],false,false,false⟩|(.inr r)=>x=.ret∧gi .clean tab none [.tmp 4] ⟨t,EH H,e⟩=some (.clean (.bool r),none)) W ?_ ?_ ?_
       ·refine⟨n,e,?_⟩;and_intros<;>first|rfl|(simp only[aB,seval,U]<;>rfl)
       ·rintro⟨J,p,i,q,j⟩ t H e ⟨D,l,P⟩ c a;simp only[kJ]at a;simp only[aB,seval,P];apply sp an a<;>intro _ a
        ·obtain⟨aH,K,a⟩:=ah a;have m:=bz au K;simp only[bM]at m;obtain⟨aI,X,a⟩:=ah a;simp only[aB,seval,P,m,X];apply sp an a<;>intro _ a
         ·cases a;simp only[aB,seval,P];refine tQ ⟨rfl,?_⟩;simp only[aB,seval]
         ·have m:=bz au K;simp only[bM]at m;obtain⟨aK,Y,a⟩:=ah a;simp only[aB,seval,P,m,Y];refine bu (by kernel_rfl) ?_;cases a;apply iG;refine⟨D,l,?_⟩;and_intros<;>first|rfl|(simp only[aB,seval,P]<;>rfl)
        ·cases a;simp only[aB,seval];apply jG;refine⟨rfl,⟨D,l,?_,?_,?_,?_,?_,?_,?_⟩⟩;all_goals ((simp only[aB,seval,P]<;>rfl))
       ·rintro x t H e E;rcases az with⟨g,b,h,d⟩|rd
        ·dsimp only at E a;obtain⟨rfl,⟨u,k,aC⟩⟩:=E;simp only[aB,seval];obtain⟨aD,Z,a⟩:=ah a;refine aA (fun s t H e=>match s with|L=>∃F:Nat,∃v:Nat,t 1=.sl false false z.length (ae au z)∧t 5=.bool O∧t 6=.ptr 6 F 0∧t 8=.sl false false G.1.length (ae au G.1)∧t 10=.ptr 10 v 0∧t 12=.int .i64 L∧H 6=some ⟨F,32,[.int .i64 y.1.aC,.sl false false y.1.aP.length (ae bP y.1.aP)],false,false,false⟩∧H 10=some ⟨v,41,[.int .i64 g,.sl false false b.length (ae (eI .i64) b),.int .i64 h,.sl false false d.length (ae (eI .i64) d)],false,false,false⟩) (fun o x t H e=>match o with|(.inl _)=>x=.exit 2∧t 5=.bool O|(.inr r)=>x=.ret∧gi .clean tab none [.tmp 4] ⟨t,EH H,e⟩=some (.clean (.bool r),none)) Z ?_ ?_ ?_
         ·refine⟨u,k,?_⟩;and_intros<;>first|rfl|(simp only[aB,seval,aC]<;>rfl)
         ·rintro L t H e ⟨F,v,Q⟩ c a;simp only[kK]at a;simp only[aB,seval,Q];apply sp an a<;>intro _ a
          ·obtain⟨aL,aa,a⟩:=ah a;obtain⟨aM,M,a⟩:=ah a;have w:=bz au M;simp only[bM]at w;obtain⟨aN,ab,a⟩:=ah a;simp only[aB,seval,Q,aa,w,ab];refine bu (by kernel_rfl) ?_;have w:=bz au M;simp only[bM]at w;obtain⟨aO,ad,a⟩:=ah a;have N:=bz au ad;simp only[bM]at N;obtain⟨aP,ag,a⟩:=ah a;simp only[aB,seval,N,ag];apply sp Bz a<;>intro _ a
           ·simp only[aB,seval];refine bu (by kernel_rfl) ?_;cases a;refine tQ ⟨rfl,?_⟩;simp only[aB,seval]
           ·obtain⟨aQ,ai,a⟩:=ah a;simp only[aB,seval,Q,ai];refine bu (by kernel_rfl) ?_;apply sp an a<;>intro _ a
            ·cases a;simp only[aB,seval];refine tQ ⟨rfl,?_⟩;simp only[aB,seval]
            ·cases a;simp only[aB,seval,Q];apply iG;refine⟨F,v,?_⟩;and_intros<;>first|rfl|(simp only[aB,seval,Q]<;>rfl)
          ·cases a;simp only[aB,seval];apply jG;refine⟨rfl,?_⟩;all_goals ((simp only[aB,seval,Q]<;>rfl))
         ·rintro x t H e E;rcases aD with _|re
          ·dsimp only at E a;obtain⟨rfl,aE⟩:=E;cases a;simp only[aB,seval,aE]
          ·dsimp only at E a;obtain⟨rfl,hE⟩:=E;cases a;simp only[aX,ba,cv,cA];exact hE
        ·dsimp only at E a;obtain⟨rfl,hE⟩:=E;cases a;simp only[aX,ba,cv,cA];exact hE
     ·clear a;have a:=T;simp only[aB,seval];apply sp aZ a<;>intro _ a
      ·cases a;simp only[aB,seval];rw[aw];refine⟨_,rfl,?_⟩;refine⟨e,?_⟩;and_intros<;>first|rfl|(simp only[aB,seval,f]<;>rfl)
      ·cases a;simp only[aB,seval,f];rw[aw];refine⟨_,rfl,?_⟩;refine⟨e,?_⟩;and_intros<;>first|rfl|(simp only[aB,seval,f]<;>rfl)
 ·clear a;have a:=ao;simp only[aB,seval];apply sp aZ a<;>intro _ a
  ·cases a;simp only[aB,seval];rw[aw];refine⟨_,rfl,?_⟩;refine⟨0,?_,?_,?_,?_,?_⟩;all_goals (rfl)
  ·obtain⟨aR,aj,a⟩:=ah a;cases a;simp only[aB,seval,aj];rw[aw];refine⟨_,rfl,?_⟩;refine⟨0,?_,?_,?_,?_,?_⟩;all_goals (rfl)
end Go.Proofs.YtokgehacmjmfkaaGreat.Am
namespace Go.Proofs.YtokgehacmjmfkaaGreat.Am
open Go.ChangeShapes Go.WideShapes Go.ChangeAt Go.RowKit Go.Proofs.YtokgehacmjmfkaaGreat.P
set_option maxRecDepth 100000
def Tryz.own:ownKnob Tryz.prog.godebug=none:=by kernel_rfl
def Tryz.laidOut:laidOutB prog=true:=by kernel_rfl
def Ip (n:Nat):C0 tab (n+1) 3 (eI .i64) (fun x=>(Lit.int .i64 x).wf=true):=opI Wi rfl rfl
def aax (n:Nat):C0 tab (n+2) 22 (nM (eI .i64)) (fun x=>(x.length*8<=140737488351232∧∀y∈x,(Lit.int .i64 y).wf=true)):=Tq MX rfl rfl (by rw[Wi];rfl) (Ip n)
def Af (x:jQ):Prop:=(Lit.int .i64 x.bG).wf=true∧((Lit.int .i64 x.aY).wf=true∧((Lit.int .i64 x.aT).wf=true))
def afY (n:Nat):C0 tab (n+2) 99 bN (fun x=>Af x):=opS (g:=fun y=>jQ.mk y.1 y.2.1 y.2.2) M4 rfl rfl (fun _=>rfl) (CA (Ip n) rfl (CA (Ip n) rfl (QH (Ip n))))
def afR (n:Nat):C0 tab (n+3) 56 (nM bN) (fun x=>(x.length*24<=140737488351232∧∀y∈x,Af y)):=Tq TN rfl rfl (by rw[M4];rfl) (afY n)
def ahK (n:Nat):C0 tab (n+1) 9 aec (fun x=>x.size<=140737488351232):=afN abb rfl rfl
def Mq (x:D1):Prop:=(Lit.int .i64 x.bG).wf=true∧((Lit.int .i64 x.aY).wf=true∧((Lit.int .i64 x.aT).wf=true∧(x.LS.size<=140737488351232)))
def aeC (n:Nat):C0 tab (n+2) 101 fC (fun x=>Mq x):=opS (g:=fun y=>D1.mk y.1 y.2.1 y.2.2.1 y.2.2.2) Eu rfl rfl (fun _=>rfl) (CA (Ip n) rfl (CA (Ip n) rfl (CA (Ip n) rfl (QH (ahK n)))))
def afS (n:Nat):C0 tab (n+3) 57 (nM fC) (fun x=>(x.length*40<=140737488351232∧∀y∈x,Mq y)):=Tq TO rfl rfl (by rw[Eu];rfl) (aeC n)
def Mp (x:aF):Prop:=(Lit.int .i64 x.ak).wf=true∧((x.aa.length*8<=140737488351232∧∀y∈x.aa,(Lit.int .i64 y).wf=true))
def adM (n:Nat):C0 tab (n+3) 39 fl (fun x=>Mp x):=opS (g:=fun y=>aF.mk y.1 y.2) TM rfl rfl (fun _=>rfl) (CA (Ip (n+1)) rfl (QH (aax n)))
def sf (x:al):Prop:=Mp x.bK∧(Mp x.bL)
def afQ (n:Nat):C0 tab (n+4) 41 au (fun x=>sf x):=opS (g:=fun y=>al.mk y.1 y.2) MZ rfl rfl (fun _=>rfl) (CA (adM n) rfl (QH (adM n)))
def adL (n:Nat):C0 tab (n+5) 26 (nM au) (fun x=>(x.length*64<=140737488351232∧∀y∈x,sf y)):=Tq HC rfl rfl (by rw[MZ];rfl) (afQ n)
def afT (n:Nat):C0 tab (n+6) 58 (nM (nM au)) (fun x=>(x.length*24<=140737488351232∧∀y∈x,(y.length*64<=140737488351232∧∀z∈y,sf z))):=Tq TP rfl rfl (by rw[HC];rfl) (adL n)
def Qu (x:gN):Prop:=(x.aq.length*24<=140737488351232∧∀y∈x.aq,Af y)∧((x.aO.length*40<=140737488351232∧∀y∈x.aO,Mq y)∧((x.aL.length*24<=140737488351232∧∀y∈x.aL,(y.length*64<=140737488351232∧∀z∈y,sf z))))
def afU (n:Nat):C0 tab (n+7) 60 BW (fun x=>Qu x):=opS (g:=fun y=>gN.mk y.1 y.2.1 y.2.2) TQ rfl rfl (fun _=>rfl) (CA (afR (n+3)) rfl (CA (afS (n+3)) rfl (QH (afT n))))
def Mr (x:ic):Prop:=(Lit.int .i64 x.cm).wf=true∧((Lit.int .i64 x.aT).wf=true)
def afX (n:Nat):C0 tab (n+2) 97 ig (fun x=>Mr x):=opS (g:=fun y=>ic.mk y.1 y.2) M3 rfl rfl (fun _=>rfl) (CA (Ip n) rfl (QH (Ip n)))
def afV (n:Nat):C0 tab (n+3) 61 (nM ig) (fun x=>(x.length*16<=140737488351232∧∀y∈x,Mr y)):=Tq TR rfl rfl (by rw[M3];rfl) (afX n)
def GK (x:ck):Prop:=Qu x.ay∧((x.a8.length*16<=140737488351232∧∀y∈x.a8,Mr y)∧((x.aC.length*8<=140737488351232∧∀y∈x.aC,(Lit.int .i64 y).wf=true)))
def afW (n:Nat):C0 tab (n+8) 63 dp (fun x=>GK x):=opS (g:=fun y=>ck.mk y.1 y.2.1 y.2.2) M0 rfl rfl (fun _=>rfl) (CA (afU n) rfl (CA (afV (n+4)) rfl (QH (aax (n+5)))))
def afO (n:Nat):C0 tab (n+9) 23 (nM dp) (fun x=>(x.length*120<=140737488351232∧∀y∈x,GK y)):=Tq TL rfl rfl (by rw[M0];rfl) (afW n)
def yD (x:ct):Prop:=(x.av.length*8<=140737488351232∧∀y∈x.av,(Lit.int .i64 y).wf=true)∧((x.aD.length*120<=140737488351232∧∀y∈x.aD,GK y))
def afP (n:Nat):C0 tab (n+10) 25 sW (fun x=>yD x):=opS (g:=fun y=>ct.mk y.1 y.2) MY rfl rfl (fun _=>rfl) (CA (aax (n+7)) rfl (QH (afO n)))
def xC:Yp tab 11 [25,26] (fK (bJ sW) (dy (jZ au))) (fun x=>yD x.1∧((x.2.length*64<=140737488351232∧∀y∈x.2,sf y))):=(ahJ (oaS MY rfl (afP 1)) (ahI (ahH HC rfl (adL 6))))
def wy (law:∀(e:ct) (d:(List al)),(yD e)->((d.length*64<=140737488351232∧∀y∈d,sf y))->P.ir e d=some true) (f:Os) (a:f.Started) (H:Type) (b:TypeId×Value->H) :
  ReturnsInHanded {} Tryz.checked f 3 .any (Rows.solveWorldSpec.pre6 b prog Tryz.f3 Rows.solveWorldRow.domain false) (Rows.solveWorldSpec.post b prog Tryz.f3 false true false false):=by
 refine TA (C:=Tryz.checked) (T:=tab) (tb:=4) (n:=11) tok Tryz.own a (by kernel_rfl) func3
  (ChangeSpec.witness6 (enc:=b) (C:=Tryz.checked) false ⟨#[],#[.agg #[.slice none 0 0,.slice none 0 0],.slice none 0 0],[]⟩ 8 (by kernel_rfl) (by kernel_rfl) (by kernel_rfl) (by kernel_rfl)) Tryz.laidOut (by kernel_rfl) rfl (by kernel_rfl) rfl (fun j c =>?_) (fun k g h =>?_)
 ·rw[Tryz.params3]at c
  match j,c with
  | [d0,d1],_=>exact⟨rfl,rfl,rfl⟩
 ·rw[Tryz.params3]at g h;exact aen xC Bj (fun x i=>law x.1 x.2 i.1 i.2) k g h
def xr (b:∀(e:ct) (c:(List al)),(yD e)->((c.length*64<=140737488351232∧∀y∈c,sf y))->P.ir e c=some true):Rows.SolveWorldSaid :=
 OpenClaim.holds_of_wide 3 Tryz.f3 rfl rfl rfl rfl rfl rfl rfl ⟨rfl,rfl,rfl,rfl,rfl⟩ rfl rfl rfl rfl rfl (by kernel_rfl) func3 (by kernel_rfl)
  (of_decide_eq_true (by kernel_rfl)) (by unfold Func.isWrapper;first|(rw[if_pos (by decide +kernel)];kernel_rfl)|(rw[if_neg (by decide +kernel)];exact⟨rfl,rfl⟩))
  (fun f a H d _=>wy b f a H d)
end Go.Proofs.YtokgehacmjmfkaaGreat.Am
namespace Go.Proofs.YtokgehacmjmfkaaGreat.P
open Go.RowKit
open IntKind (i64)
def aQ (n:Nat):List Int:=if h:n=0 then [] else ((n % 1048576:Nat):Int)::aQ (n / 1048576)
termination_by n
decreasing_by omega
def dv:List Int->Int
 | []=>0
 | d::l=>d+1048576*dv l
def Dg (l:List Int):Prop:=∀d∈l,0<=d∧d<1048576
def pw (i:Nat):Int:=1048576 ^ i
def py:pw 0=1:=rfl
def js (i:Nat):pw (i+1)=1048576*pw i:=by unfold pw;rw[Int.pow_succ,akL]
def oW (i:Nat):0<pw i:=by unfold pw;exact Int.pow_pos (by decide)
def Hc (i j:Nat):pw (i+j)=pw i*pw j:=by unfold pw;rw[Int.pow_add]
def tj {i j:Nat} (h:i<=j):pw i<=pw j:=by
 obtain⟨k,rfl⟩:=Nat.le.dest h;rw[Hc];have a:=oW i;have b:=oW k
 calc pw i=pw i*1:=by rw[akM]
  _<=pw i*pw k:=akN (by omega) (by omega)
def cW:aQ 0=[]:=by rw[aQ];rfl
def pF {n:Nat} (h:n≠0):aQ n=((n % 1048576:Nat):Int)::aQ (n / 1048576):=by rw[aQ,dif_neg h]
def uf {n:Nat} : aQ n=[]↔n=0:=by
 constructor
 ·intro h;rcases aiJ n with a|a
  ·exact a
  ·rw[pF (by omega)]at h;cases h
 ·rintro rfl;exact cW
def bD:∀n:Nat,dv (aQ n)=n:=by
 intro n
 induction n using Nat.strongRecOn with
 | _ n b =>
  rcases aiJ n with a|a
  ·subst a;rw[cW];rfl
  ·rw[pF (by omega),dv,b (n / 1048576) (by omega)];omega
def cD:∀n:Nat,Dg (aQ n):=by
 intro n
 induction n using Nat.strongRecOn with
 | _ n c =>
  rcases aiJ n with b|b
  ·subst b;rw[cW];intro d a;cases a
  ·rw[pF (by omega)];intro d a;rcases aiy.1 a with rfl|a
   ·omega
   ·exact c (n / 1048576) (by omega) d a
def Dg.nil:Dg []:=fun d a=>by cases a
def Dg.cons {d:Int} {l:List Int} (h:Dg (d::l)):(0<=d∧d<1048576)∧Dg l:=⟨h d aj2,fun x a=>h x (aj3 _ a)⟩
def Dg.mk {d:Int} {l:List Int} (h:0<=d∧d<1048576) (b:Dg l):Dg (d::l):=fun x a=>by
 rcases aiy.1 a with rfl|a
 ·exact h
 ·exact b x a
def Dg.append {l m:List Int} (h:Dg l) (a:Dg m):Dg (l++m):=fun x b=>(ajI.1 b).elim (h x) (a x)
def Dg.take {l:List Int} (h:Dg l) (n:Nat):Dg (l.take n):=fun x a=>h x (ajb a)
def Dg.drop {l:List Int} (h:Dg l) (n:Nat):Dg (l.drop n):=fun x a=>h x (ai9 a)
def Dg.rep (n:Nat):Dg (List.replicate n 0):=fun x a=>by rw[(List.mem_replicate.1 a).2];omega
def Dg.set {l:List Int} (h:Dg l) (i:Nat) {x:Int} (b:0<=x∧x<1048576):Dg (l.set i x):=fun y a=>by
 rcases List.mem_or_eq_of_mem_set a with a|rfl
 ·exact h y a
 ·exact b
def Dg.get {l:List Int} (h:Dg l) {i:Nat} (a:i<l.length):0<=l[i]∧l[i]<1048576:=h _ (aiD a)
def df:∀ {l:List Int},Dg l->0<=dv l
 | [],_=>Int.le_refl _
 | d::l,h=>by
  have a:=h.cons;have:=df a.2;simp only[dv];omega
def ql:∀ {l:List Int},Dg l->dv l<pw l.length
 | [],_=>by simp[dv,py]
 | d::l,h=>by
  have a:=h.cons;have:=ql a.2;simp only[dv,List.length_cons,js];omega
def gV:∀l m:List Int,dv (l++m)=dv l+pw l.length*dv m
 | [],m=>by simp[dv,py]
 | d::l,m=>by
  rw[aks,dv,dv,gV l m,aiR,js,akO,akP];omega
def BU:∀n:Nat,dv (List.replicate n 0)=0
 | 0=>rfl
 | n+1=>by rw[ajn,dv,BU n];rfl
def gH {l:List Int} {i:Nat} (h:i<l.length):dv (l.take (i+1))=dv (l.take i)+pw i*l[i]:=by
 have e:l.take (i+1)=l.take i++[l[i]]:=by rw[akQ];simp[h]
 rw[e,gV,aiK,ajF (by omega)];simp[dv]
def ka (l:List Int) {i:Nat} (h:i<=l.length):dv l=dv (l.take i)+pw i*dv (l.drop i):=by
 have:=gV (l.take i) (l.drop i);rw[akn,aiK,ajF h]at this;exact this
def vd {l:List Int} {i:Nat} (h:i<l.length) (x:Int):dv (l.set i x)=dv l+pw i*(x-l[i]):=by
 induction l generalizing i with
 | nil=>simp at h
 | cons d l a =>
  cases i with
  | zero=>simp only[List.set_cons_zero,dv,py,List.getElem_cons_zero];omega
  | succ i =>
   have:=a (i:=i) (by simpa using h);simp only[List.set_cons_succ,dv,this,js,List.getElem_cons_succ,akO,akP];omega
def Ek:∀ {l:List Int},Dg l->(∀h:l≠[],l.getLast h≠0)->aQ (dv l).toNat=l
 | [],_,_=>by simp[dv,cW]
 | d::l,h,a=>by
  have b:=h.cons;have o:=df b.2;have c:(dv (d::l)).toNat≠0:=by
   simp only[dv];intro p;have f:d=0:=by omega
   have i:dv l=0:=by omega
   cases l with
   | nil=>exact a (by simp) (by simpa using f)
   | cons e m =>
    have g:=Ek b.2 (fun j=>by have:=a (by simp);simpa using this);rw[i]at g;simp[cW]at g
  rw[pF c];have k:(dv (d::l)).toNat % 1048576=d.toNat:=by simp only[dv];omega
  have n:(dv (d::l)).toNat / 1048576=(dv l).toNat:=by simp only[dv];omega
  rw[k,n];have f:(d.toNat:Int)=d:=by omega
  rw[f];cases l with
  | nil=>simp[dv,cW]
  | cons e m=>rw[Ek b.2 (fun j=>by have:=a (by simp);simpa using this)]
def WL:∀(n:Nat) (h:aQ n≠[]),(aQ n).getLast h≠0:=by
 intro n
 induction n using Nat.strongRecOn with
 | _ n c =>
  intro h;have d:n≠0:=fun b=>h (uf.2 b);have e:=pF d
  by_cases hq:n / 1048576=0
  ·have:aQ n=[((n % 1048576:Nat):Int)]:=by rw[e,hq,cW]
   simp only[this,List.getLast_singleton];omega
  ·have a:aQ (n / 1048576)≠[]:=fun b=>hq (uf.1 b);have:=c (n / 1048576) (by omega) a;simp only[e];rw[List.getLast_cons a];exact this
def Y7 {a b:Nat} (h:aQ a=aQ b):a=b:=by
 have:=congrArg dv h;rw[bD,bD]at this;omega
def iW {n k:Nat} (h:(n:Int)<pw k):(aQ n).length<=k:=by
 induction k generalizing n with
 | zero =>
  rw[py]at h;have:n=0:=by omega
  rw[this,cW];simp
 | succ k b =>
  by_cases a:n=0
  ·rw[a,cW];simp
  ·rw[pF a,aiR];rw[js]at h;have:=b (n:=n / 1048576) (by omega);omega
def gB (n:Nat):(n:Int)<pw (aQ n).length:=by
 have:=ql (cD n)
 rwa [bD]at this
def AO {n:Nat} (h:n≠0):pw ((aQ n).length-1)<=n∧0<(aQ n).length:=by
 induction n using Nat.strongRecOn with
 | _ n b =>
  rw[pF h,aiR];refine⟨?_,by omega⟩
  by_cases a:n / 1048576=0
  ·rw[a,cW];simp[py];omega
  ·obtain⟨c,d⟩:=b (n / 1048576) (by omega) a;have:(aQ (n / 1048576)).length+1-1=((aQ (n / 1048576)).length-1)+1:=by omega
   rw[this,js];omega
def wL {x:Int} (b : -9223372036854775808<=x) (c:x<9223372036854775808):ma .and .i64 x 1048575=x % 1048576:=by
 unfold ma;simp only;have a:(BitVec.ofInt i64.bits x &&& BitVec.ofInt i64.bits 1048575).toNat=((x % 18446744073709551616).toNat) % 1048576:=by
  rw[BitVec.toNat_and,BitVec.toNat_ofInt,BitVec.toNat_ofInt];have e:((1048575:Int) % ((2 ^ i64.bits:Nat):Int)).toNat=2 ^ 20-1:=by decide
  rw[e,akR];rfl
 rw[a,wrap64 (by omega) (by omega)];omega
def abJ {x:Int} (b : -9223372036854775808<=x) (c:x<9223372036854775808):ma .and .i64 x 1=x % 2:=by
 unfold ma;simp only;have a:(BitVec.ofInt i64.bits x &&& BitVec.ofInt i64.bits 1).toNat=((x % 18446744073709551616).toNat) % 2:=by
  rw[BitVec.toNat_and,BitVec.toNat_ofInt,BitVec.toNat_ofInt];have e:((1:Int) % ((2 ^ i64.bits:Nat):Int)).toNat=2 ^ 1-1:=by decide
  rw[e,akR];rfl
 rw[a,wrap64 (by omega) (by omega)];omega
def Rl (x:Int):Aq .i64 x 20=some (x / 1048576):=by
 unfold Aq;rw[if_neg (by decide)];have e:(2:Int) ^ (min (Int.toNat 20) i64.bits)=1048576:=by decide
 rw[e,akS _ (by decide)]
def aaJ {x:Int} (a:0<=x) (h:x<8796093022208):Iu .i64 x 20=some (1048576*x):=by
 unfold Iu;rw[if_neg (by decide)];have e:(2:Int) ^ (min (Int.toNat 20) i64.bits)=1048576:=by decide
 rw[e,wrap64 (by omega) (by omega),akL]
def Tr {x y:Int} (d:0<=x) (h:x<8796093022208) (f:0<=y∧y<1048576):ma .or .i64 (1048576*x) y=1048576*x+y:=by
 unfold ma;simp only;have a:(BitVec.ofInt i64.bits (1048576*x) ||| BitVec.ofInt i64.bits y).toNat=1048576*x.toNat+y.toNat:=by
  rw[BitVec.toNat_or,BitVec.toNat_ofInt,BitVec.toNat_ofInt];have e:((2 ^ i64.bits:Nat):Int)=18446744073709551616:=by decide
  rw[e];have b:((1048576*x) % 18446744073709551616).toNat=x.toNat <<< 20:=by rw[Nat.shiftLeft_eq];omega
  have c:(y % 18446744073709551616).toNat=y.toNat:=by omega
  rw[b,c,<- Nat.shiftLeft_add_eq_or_of_lt (by omega),Nat.shiftLeft_eq];omega
 rw[a,wrap64 (by omega) (by omega)];omega
def mk0 {n:Nat} (h:n<=17592186044416):Gt 8 (n:Int) (n:Int) (0:Int)=some (List.replicate n 0):=by
 unfold Gt;rw[if_pos]
 ·simp
 ·have:(17592186044416:Int)<=maxLen:=by decide
  refine⟨by omega,by omega,by omega,?_⟩;simp only[Int.toNat_natCast];omega
def yU {l m:List Int} (h:l.length+m.length<=17592186044416):mK 8 l m=some (l++m):=by
 unfold mK;have:(17592186044416:Nat)<=maxLen:=by decide
 rw[if_pos ⟨by omega,by omega⟩]
def cO {σ ρ:Type} {body:σ->Option (σ⊕ρ)} (I:Nat->σ->Prop) (n:Nat) (Q:ρ->Prop) {s:σ} (c:I 0 s) (o:n+1<FU)
  (a:∀i s,i<=n->I i s->(i<n∧∃b,body s=some (.inl b)∧I (i+1) b)∨(∃r,body s=some (.inr r)∧Q r)):∃r,aS body s=some r∧Q r:=by
 have key:∀(k i:Nat) (s:σ),i<=n->n-i<k->I i s->∃r,qn body k s=some r∧Q r:=by
  intro k
  induction k with
  | zero=>intro i s _ h;omega
  | succ k f =>
   intro i s g p c;rcases a i s g c with⟨j,b,d,e⟩|⟨r,d,e⟩
   ·obtain⟨r,l,m⟩:=f (i+1) b (by omega) (by omega) e;exact⟨r,by simp only[qn,d];exact l,m⟩
   ·exact⟨r,by simp only[qn,d],e⟩
 exact key FU 0 s (ais _) (by omega) c
def VT (i:Nat) (x:Int):pw (i+1)*x=pw i*(1048576*x):=by rw[js,akL 1048576 (pw i),akP]
def xE (i:Nat) (t:Int):pw i*(t % 1048576)+pw (i+1)*(t / 1048576)=pw i*t:=by
 rw[VT,<- akO];congr 1;omega
def jz {n:Nat} (h:n<=17592186044416):n+1<FU:=by unfold FU;omega
abbrev Fit (l:List Int):Prop:=l.length<=17592186044416
def iH {x:Int} (h : -4611686018427387904<=x∧x<=4611686018427387904):i64.wrap x=x:=wrap64 (by omega) (by omega)
def pR {α:Type} (o:Option α):(o.bind fun r=>some r)=o:=by cases o<;>rfl
def La {l:List Int} (f:Fit l):∃r,aS (mZ l) (l.length:Int)=some r∧∃k:Nat,r=k∧k<=l.length∧(∀j (a:j<l.length),k<=j->l[j]=0)∧(∀h:0<k,∀g:k-1<l.length,l[k-1]≠0):=by
 unfold Fit at f;refine cO (I:=fun i s=>s=((l.length-i:Nat):Int)∧(∀j (a:j<l.length),l.length-i<=j->l[j]=0)) l.length _ ⟨rfl,fun j a h=>by omega⟩ (jz f) ?_;rintro i s n ⟨rfl,b⟩;generalize g:l.length-i=k at *;simp only[mZ]
 by_cases m:0<k
 ·have c:k-1<l.length:=by omega
  have e:i64.wrap ((k:Int)-1)=((k-1:Nat):Int):=by rw[iH (by omega)];omega
  rw[if_pos (by simp;omega),e,cu c,aj5]
  by_cases hx:l[k-1]=0
  ·left;refine⟨by omega,_,by rw[if_pos (by simpa using hx)],by rw[show l.length-(i+1)=k-1 by omega],fun j a h =>?_⟩
   by_cases d:j=k-1
   ·subst d;exact hx
   ·exact b j a (by omega)
  ·right;exact⟨_,by rw[if_neg (by simpa using hx)],k,rfl,by omega,b,fun _ _=>hx⟩
 ·right;exact⟨_,by rw[if_neg (by simp;omega)],k,rfl,by omega,b,fun h=>absurd h m⟩
def Zy {l:List Int} {k:Nat} (a:∀j (c:j<l.length),k<=j->l[j]=0):dv (l.drop k)=0:=by
 have:l.drop k=List.replicate (l.drop k).length 0:=by
  refine List.eq_replicate_of_mem fun x b =>?_;obtain⟨i,d,rfl⟩:=List.mem_iff_getElem.1 b;rw[List.getElem_drop];exact a _ _ (by omega)
 rw[this,BU]
def vR {l:List Int} (e:Fit l) (f:Dg l):eK l=some (aQ (dv l).toNat):=by
 obtain⟨r,g,k,rfl,b,i,a⟩:=La e;unfold eK;rw[g,aj5,MN b,aj5];congr 1;have j:dv l=dv (l.take k):=by rw[ka l b,Zy i];omega
 rw[j];refine (Ek (f.take k) fun c =>?_).symm;have d:0<k:=by
  rcases aiJ k with h|h
  ·subst h;simp at c
  ·exact h
 have:=a d (by omega);rw[List.getLast_eq_getElem];simp only[aiK,List.getElem_take,ajF b];exact this
def Ev {l:List Int} {n:Nat} (a:Fit l) (b:Dg l) (c:dv l=n):eK l=some (aQ n):=by
 rw[vR a b,c];rfl
def gd (l:List Int) (i:Nat):Int:=if h:i<l.length then l[i] else 0
def JW {l:List Int} (h:Dg l) (i:Nat):0<=gd l i∧gd l i<1048576:=by
 unfold gd;split
 ·exact h.get _
 ·omega
def sZ {l:List Int} (i:Nat):dv (l.take (i+1))=dv (l.take i)+pw i*gd l i:=by
 unfold gd;split
 ·exact gH _
 ·rw[ajU (by omega),ajU (by omega)];simp
def z7 {l:List Int} {i:Nat} (h:l.length<=i):dv (l.take i)=dv l:=by rw[ajU h]
def Yy {a b:List Int} (w:Dg a) (y:Dg b) (E:a.length<17592186044416) (g:b.length<=a.length) :
  ∃r,aS (rE a b) (0,0,List.replicate (a.length+1) 0)=some r∧r.2.length=a.length+1∧Dg r.2∧(∀j (f:j<r.2.length),a.length<=j->r.2[j]=0)∧(0<=r.1∧r.1<=1)∧dv r.2+pw a.length*r.1=dv a+dv b:=by
 refine cO (I:=fun i s=>s.2.1=(i:Int)∧s.2.2.length=a.length+1∧Dg s.2.2∧(∀j (f:j<s.2.2.length),i<=j->s.2.2[j]=0)∧(0<=s.1∧s.1<=1)∧dv s.2.2+pw i*s.1=dv (a.take i)+dv (b.take i))
  a.length _ ⟨rfl,by simp,Dg.rep _,fun j f _=>by simp,by simp,by simp[BU,dv]⟩ (jz (by omega)) ?_
 rintro i ⟨c,s,l⟩ F ⟨t,k,m,hz,u,v⟩;simp only at t k m hz u v;subst t;simp only[rE]
 by_cases d:i<a.length
 ·left;rw[if_pos (by simpa using d),cu d,aj5];have G:=w.get d;have z:=JW y i;have A:(if decide ((i:Int)<(b.length:Int))=true then (P.idx b (i:Int)).bind fun n=>some (i64.wrap ((i64.wrap (c+a[i]))+n)) else some (i64.wrap (c+a[i])))=some (c+a[i]+gd b i):=by
   by_cases e:i<b.length
   ·rw[if_pos (by simpa using e),cu e,aj5];have:gd b i=b[i]:=by unfold gd;rw[dif_pos e]
    rw[this]at z ⊢;rw[iH (x:=c+a[i]) (by omega),iH (by omega)]
   ·rw[if_neg (by simpa using e)];have:gd b i=0:=by unfold gd;rw[dif_neg e]
    rw[this,iH (by omega)];simp
  rw[A,aj5,cu (by omega),aj5,Rl,aj5,wL (by omega) (by omega)];have o:l[i]=0:=hz i (by omega) (air _);have B:i64.wrap ((i:Int)+1)=((i+1:Nat):Int):=by rw[iH (by omega)];omega
  refine⟨d,_,rfl,B,by simpa using k,m.set _ (by omega),fun j f C =>?_,by simp only;omega,?_⟩
  ·simp only[Int.toNat_natCast]at f ⊢;rw[akT (by omega)];exact hz j (by simpa using f) (by omega)
  ·simp only[Int.toNat_natCast];rw[vd (by omega),o,sZ,sZ];have p:gd a i=a[i]:=by unfold gd;rw[dif_pos d]
   rw[p];have D:=xE i (c+a[i]+gd b i);rw[akO,akO]at D;rw[Int.sub_zero];omega
 ·right;have q:i=a.length:=by omega
  subst q;refine⟨_,by rw[if_neg (by simp)],k,m,fun j f h=>hz j f h,u,?_⟩;rw[v,z7 (air _),z7 g]
def add_eq {a b:List Int} (k:Dg a) (m:Dg b) (g:a.length<17592186044416) (n:b.length<17592186044416):sS a b=some (aQ (dv a+dv b).toNat):=by
 have d:∀ {a b:List Int},Dg a->Dg b->a.length<17592186044416->b.length<=a.length ->
   ((Gt 8 (i64.wrap ((a.length:Int)+1)) (i64.wrap ((a.length:Int)+1)) 0).bind fun u =>
    (aS (rE a b) (0,0,u)).bind fun q=>match q with
    | (j,f) =>
     (P.idx f (a.length:Int)).bind fun v =>
     (eK (f.set ((a.length:Int)).toNat j)).bind fun o =>
     some o)=some (aQ (dv a+dv b).toNat):=by
  intro a b k m g p;have e:i64.wrap ((a.length:Int)+1)=((a.length+1:Nat):Int):=by rw[iH (by omega)];omega
  rw[e,mk0 (by omega),aj5];obtain⟨⟨c,l⟩,w,x,r,s,y,t⟩:=Yy k m g p;rw[w];simp only[Option.bind_some]at x r s y t ⊢;have i:a.length<l.length:=by omega
  rw[cu i,aj5,ajs,pR];have z:dv (l.set a.length c)=dv a+dv b:=by
   rw[vd i,s _ i (air _),Int.sub_zero,t]
  rw[vR (by simp[Fit];omega) (r.set _ (by omega)),z]
 unfold sS
 by_cases h:a.length<b.length
 ·rw[if_pos (by simpa using h),aj5,Int.add_comm];exact d m k n (by omega)
 ·rw[if_neg (by simpa using h),aj5];exact d k m g (by omega)
def wS {l:List Int} (h:Fit l):dA l=some l:=by
 unfold dA;rw[yU (by simpa using h),akh]
def OW {l:List Int} {i:Nat} (h:i<l.length):gd l i=l[i]:=by unfold gd;rw[dif_pos h]
def JX {l:List Int} {i:Nat} (h:l.length<=i):gd l i=0:=by unfold gd;rw[dif_neg (by omega)]
def aaX {a b:List Int} (w:Dg a) (z:Dg b) (A:Fit a) (q:b.length<=a.length) (B:dv b<=dv a) :
  ∃l,aS (u6 b a) (0,0,a)=some l∧l.length=a.length∧Dg l∧dv l=dv a-dv b:=by
 unfold Fit at A;refine cO (I:=fun i s=>s.2.1=(i:Int)∧s.2.2.length=a.length∧Dg s.2.2∧(∀j (k:j<s.2.2.length) (g:j<a.length),i<=j->s.2.2[j]=a[j])∧(0<=s.1∧s.1<=1)∧dv s.2.2+dv (b.take i)=dv a+pw i*s.1)
  a.length _ ⟨rfl,rfl,w,fun j k _ _=>rfl,by simp,by simp[dv]⟩ (jz (by omega)) ?_
 rintro i ⟨c,s,l⟩ J ⟨m,n,o,p,C,y⟩;simp only at m n o p C y;subst m;simp only[u6]
 by_cases d:i<a.length
 ·left;have e:i<l.length:=by omega
  rw[if_pos (by simpa using d),cu e,aj5,p i e d (air _)];have K:=w.get d;have D:=JW z i;have E:(if decide ((i:Int)<(b.length:Int))=true then (P.idx b (i:Int)).bind fun r=>some (i64.wrap ((i64.wrap (a[i]-c))-r)) else some (i64.wrap (a[i]-c)))=some (a[i]-c-gd b i):=by
   by_cases f:i<b.length
   ·rw[if_pos (by simpa using f),cu f,aj5];rw[OW f]at D ⊢;rw[iH (x:=a[i]-c) (by omega),iH (by omega)]
   ·rw[if_neg (by simpa using f),JX (by omega),iH (by omega)];simp
  rw[E,aj5,Rl,aj5,wL (by omega) (by omega),abJ (by omega) (by omega)];have F:i64.wrap ((i:Int)+1)=((i+1:Nat):Int):=by rw[iH (by omega)];omega
  refine⟨d,_,rfl,F,by simpa using n,o.set _ (by omega),fun j k g G =>?_,by simp only;omega,?_⟩
  ·simp only[Int.toNat_natCast]at k ⊢;rw[akT (by omega)];exact p j (by simpa using k) g (by omega)
  ·simp only[Int.toNat_natCast];rw[vd e,p i e d (air _),sZ];have H:=xE i (a[i]-c-gd b i);have t:(a[i]-c-gd b i) / 1048576 % 2 = - ((a[i]-c-gd b i) / 1048576):=by omega
   rw[t,Int.mul_neg];rw[akU,akU]at H;rw[akU];omega
 ·right;have u:i=a.length:=by omega
  subst u;refine⟨l,by rw[if_neg (by simp)],n,o,?_⟩;rw[z7 q]at y;have m:=ql o;rw[n]at m;have v:c=0:=by
   rcases (show c=0∨c=1 by omega) with h|h
   ·exact h
   ·subst h;omega
  subst v;omega
def sub_eq {a b:List Int} (f:Dg a) (g:Dg b) (e:Fit a) (c:b.length<=a.length) (d:dv b<=dv a):sU a b=some (aQ (dv a-dv b).toNat):=by
 obtain⟨l,h,k,i,j⟩:=aaX f g e c d;unfold sU;rw[wS e,aj5,h,aj5,pR,vR (by unfold Fit at *;omega) i,j]
def lq {l:List Int} {i:Nat} (h:i<l.length):dv (l.drop i)=l[i]+1048576*dv (l.drop (i+1)):=by
 rw[akw h,dv]
def abX {x d:Int} (h:0<=x) (a:0<d) (b:x<4611686018427387904):BR .i64 x d=some (x / d):=by
 unfold BR;rw[if_neg (by omega),Int.tdiv_eq_ediv_of_nonneg h,iH];have:=akV h (Int.le_of_lt a);have:=Int.ediv_le_self d h;omega
def aex {x d:Int} (h:0<=x) (a:0<d):Gw .i64 x d=some (x % d):=by
 unfold Gw;rw[if_neg (by omega),Int.tmod_eq_emod_of_nonneg h]
def TE {a:List Int} {d:Int} (u:Dg a) (e:0<d∧d<=1048576) (v:Fit a) :
  ∃r,aS (qD a d) (0,i64.wrap ((a.length:Int)-1),List.replicate a.length 0)=some r∧r.2.length=a.length∧Dg r.2∧(0<=r.1∧r.1<d)∧dv a=d*dv r.2+r.1:=by
 unfold Fit at v;have w:i64.wrap ((a.length:Int)-1)=(a.length:Int)-1:=iH (by omega);rw[w];refine cO (I:=fun i s=>s.2.1=((a.length-i:Nat):Int)-1∧s.2.2.length=a.length∧Dg s.2.2∧(0<=s.1∧s.1<d)∧dv (a.drop (a.length-i))=d*dv (s.2.2.drop (a.length-i))+s.1)
  a.length _ ⟨rfl,by simp,Dg.rep _,by simp;omega,by simp[dv]⟩ (jz (by omega)) ?_
 rintro i ⟨r,s,l⟩ B ⟨q,f,g,t,h⟩;simp only at q f g t h;subst q;generalize C:a.length-i=k at *;simp only[qD]
 by_cases D:0<k
 ·left;have b:k-1<a.length:=by omega
  have c:k-1<l.length:=by omega
  have x:((k:Int)-1)=((k-1:Nat):Int):=by omega
  have y:=u.get b;rw[x,if_pos (by simp),aaJ (by omega) (by omega),aj5,cu b,aj5,Tr (by omega) (by omega) y,abX (by omega) e.1 (by omega),aj5,cu c,aj5,aex (by omega) e.1,aj5];have z:i64.wrap (((k-1:Nat):Int)-1)=((k-1:Nat):Int)-1:=iH (by omega);have j:0<=1048576*r+a[k-1]:=by omega
  have m:0<=(1048576*r+a[k-1]) / d:=akV j (by omega);have n:(1048576*r+a[k-1]) / d<1048576:=by
   apply akW e.1;have:1048576*r<=1048576*(d-1):=akN (by omega) (by omega);omega
  have o:=Int.emod_nonneg (1048576*r+a[k-1]) (show d≠0 by omega);have p:=akX (1048576*r+a[k-1]) e.1;refine⟨by omega,_,rfl,by rw[z,show a.length-(i+1)=k-1 by omega],by simpa using f,g.set _ ⟨m,n⟩,⟨o,p⟩,?_⟩;simp only[Int.toNat_natCast];rw[show a.length-(i+1)=k-1 by omega,lq b,lq (l:=l.set (k-1) _) (i:=k-1) (by simpa using c),show k-1+1=k by omega,List.getElem_set_self,List.drop_set_of_lt (by omega),h];have:=akY (1048576*r+a[k-1]) d;rw[akO,akO];have A:d*(1048576*dv (l.drop k))=1048576*(d*dv (l.drop k)):=by rw[<- akP,akL d,akP]
  rw[A];omega
 ·right;have:k=0:=by omega
  subst this;refine⟨(r,l),by rw[if_neg (by simp)],f,g,t,?_⟩;simpa using h
def Rk {a:List Int} {d:Int} (g:Dg a) (h:0<d∧d<=1048576) (e:Fit a):oJ a d=some (aQ (dv a / d).toNat,dv a % d):=by
 obtain⟨⟨r,l⟩,i,j,f,b,c⟩:=TE g h e;unfold oJ;rw[mk0 e,aj5,i,aj5];simp only at j f b c ⊢;rw[vR (by unfold Fit at *;omega) f,aj5];have k:dv a / d=dv l:=by
  rw[c,akL,Int.add_comm,Int.add_mul_ediv_right _ _ (by omega),Int.ediv_eq_zero_of_lt b.1 b.2];omega
 have m:dv a % d=r:=by
  rw[c,akL,Int.add_comm,Int.add_mul_emod_self_right];exact Int.emod_eq_of_lt b.1 b.2
 rw[k,m]
def Xv {b l0:List Int} {x:Int} {i n:Nat} (v:Dg b) (w:0<=x∧x<1048576) (y:Dg l0) (z:l0.length=n) (G:i+b.length<n) (H:n<=17592186044416) (e:∀j (f:j<l0.length),i+b.length<=j->l0[j]=0) :
  ∃r,aS (u5 b (i:Int) x) (0,0,l0)=some r∧r.2.length=n∧Dg r.2∧(0<=r.1∧r.1<1048576)∧(∀j (f:j<r.2.length),i+b.length<=j->r.2[j]=0)∧dv r.2+pw (i+b.length)*r.1=dv l0+pw i*(x*dv b):=by
 refine cO (I:=fun k s=>s.2.1=(k:Int)∧s.2.2.length=n∧Dg s.2.2∧(0<=s.1∧s.1<1048576)∧(∀j (f:j<s.2.2.length),i+b.length<=j->s.2.2[j]=0)∧dv s.2.2+pw (i+k)*s.1=dv l0+pw i*(x*dv (b.take k)))
  b.length _ ⟨rfl,z,y,by simp,e,by simp[dv]⟩ (jz (by omega)) ?_
 rintro k ⟨c,s,l⟩ J ⟨p,h,g,q,e,t⟩;simp only at p h g q e t;subst p;simp only[u5]
 by_cases a:k<b.length
 ·left;have d:i+k<l.length:=by omega
  have A:i64.wrap ((i:Int)+(k:Int))=((i+k:Nat):Int):=by rw[iH (by omega)];omega
  have u:=v.get a;have K:=g.get d;have B:0<=x*b[k]:=akZ w.1 u.1;have C:x*b[k]<=1048575*1048575:=ak0 (by omega) (by omega) u.1 (by omega);rw[if_pos (by simpa using a),cu a,aj5,A,cu d,aj5,iH (x:=x*b[k]) (by omega),iH (x:=l[i+k]+x*b[k]) (by omega),iH (x:=l[i+k]+x*b[k]+c) (by omega),Rl,aj5,wL (by omega) (by omega)];have D:i64.wrap ((k:Int)+1)=((k+1:Nat):Int):=by rw[iH (by omega)];omega
  refine⟨a,_,rfl,D,by simpa using h,g.set _ (by omega),by simp only;omega,fun j f m =>?_,?_⟩
  ·simp only[Int.toNat_natCast]at f ⊢;rw[akT (by omega)];exact e j (by simpa using f) m
  ·simp only[Int.toNat_natCast];rw[vd d,gH a];have E:=xE (i+k) (l[i+k]+x*b[k]+c);rw[akO (pw (i+k)),akO (pw (i+k))]at E;have F:pw i*(x*(dv (b.take k)+pw k*b[k]))=pw i*(x*dv (b.take k))+pw (i+k)*(x*b[k]):=by
    rw[akO,akO,Hc];congr 1;rw[ak1 x,<- akP]
   rw[F,akU,show i+(k+1)=i+k+1 by omega];omega
 ·right;have o:k=b.length:=by omega
  subst o;refine⟨(c,l),by rw[if_neg (by simp)],h,g,q,e,?_⟩;rw[t,akD]
def Xu {a b:List Int} (y:Dg a) (z:Dg b) (A:a.length+b.length<=17592186044416) :
  ∃l,aS (u4 a b) (0,List.replicate (a.length+b.length) 0)=some l∧l.length=a.length+b.length∧Dg l∧dv l=dv a*dv b:=by
 refine cO (I:=fun i s=>s.1=(i:Int)∧s.2.length=a.length+b.length∧Dg s.2∧(∀j (f:j<s.2.length),i+b.length<=j->s.2[j]=0)∧dv s.2=dv (a.take i)*dv b)
  a.length _ ⟨rfl,by simp,Dg.rep _,fun j f _=>by simp,by simp[dv,BU]⟩ (jz (by omega)) ?_
 rintro i ⟨s,l⟩ G ⟨q,h,k,r,o⟩;simp only at q h k r o;subst q;simp only[u4]
 by_cases d:i<a.length
 ·left;have B:=y.get d;obtain⟨⟨c,m⟩,C,t,u,v,g,w⟩:=Xv (i:=i) (n:=a.length+b.length) z B k h (by omega) A r;rw[if_pos (by simpa using d),cu d,aj5,C,aj5];simp only at t u v g w ⊢;have D:i64.wrap ((i:Int)+(b.length:Int))=((i+b.length:Nat):Int):=by rw[iH (by omega)];omega
  have e:i+b.length<m.length:=by omega
  rw[D,cu e,aj5,g _ e (air _),Int.zero_add,iH (x:=c) (by omega)];have E:i64.wrap ((i:Int)+1)=((i+1:Nat):Int):=by rw[iH (by omega)];omega
  refine⟨d,_,rfl,E,by simpa using t,u.set _ v,fun j f F =>?_,?_⟩
  ·simp only[Int.toNat_natCast]at f ⊢;rw[akT (by omega)];exact g j (by simpa using f) (by omega)
  ·simp only[Int.toNat_natCast];rw[vd e,g _ e (air _),Int.sub_zero,w,o,gH d,ak2,akP]
 ·right;have p:i=a.length:=by omega
  subst p;refine⟨l,by rw[if_neg (by simp)],h,k,?_⟩;rw[o,akD]
def mul_eq {a b:List Int} (d:Dg a) (f:Dg b) (c:a.length+b.length<=17592186044416):qC a b=some (aQ (dv a*dv b).toNat):=by
 obtain⟨l,g,j,h,i⟩:=Xu d f c;unfold qC;have e:i64.wrap ((a.length:Int)+(b.length:Int))=((a.length+b.length:Nat):Int):=by rw[iH (by omega)];omega
 rw[e,mk0 c,aj5,g,aj5,pR,vR (by unfold Fit;omega) h,i]
def jI (x y:Int):Int:=if x<y then -1 else if y<x then 1 else 0
def BQ (x y:Int):gg x y=some (jI x y):=by
 unfold gg qX jI;simp only[bne_self_eq_false,Option.bind_some,ai1,if_false,decide_eq_true_eq];split
 ·rfl
 ·split<;>rfl
def N7 {a b:List Int} (h:Dg a) (j:Dg b) (l:Fit a) (y:a.length=b.length):gO a b=some (jI (dv a) (dv b)):=by
 unfold Fit at l;unfold gO;rw[if_neg (by simp;omega)];have p:i64.wrap ((a.length:Int)-1)=(a.length:Int)-1:=iH (by omega);rw[p];have key:∃r,aS (nJ a b) ((a.length:Int)-1)=some r∧(match r with | .inl _=>jI (dv a) (dv b)=0 | .inr x=>x=jI (dv a) (dv b)):=by
  refine cO (I:=fun i s=>s=((a.length-i:Nat):Int)-1∧a.drop (a.length-i)=b.drop (a.length-i)) a.length _ ⟨rfl,?_⟩ (jz l) ?_
  ·rw[akk (by omega),akk (by omega)]
  rintro i s z ⟨rfl,f⟩;generalize A:a.length-i=k at *;simp only[nJ]
  by_cases B:0<k
  ·have e:k-1<a.length:=by omega
   have c:k-1<b.length:=by omega
   have q:((k:Int)-1)=((k-1:Nat):Int):=by omega
   rw[q,if_pos (by simp),cu e,aj5,cu c,aj5]
   by_cases g:a[k-1]=b[k-1]
   ·left;rw[if_neg (by simpa using g)];refine⟨by omega,_,rfl,by rw[iH (by omega)];omega,?_⟩;rw[show a.length-(i+1)=k-1 by omega,akw e,akw c,g,show k-1+1=k by omega,f]
   ·right;rw[if_pos (by simpa using g),BQ,aj5];refine⟨_,rfl,?_⟩;simp only;have m:=ka a (i:=k) (by omega);have t:=ka b (i:=k) (by omega);have n:=gH e;have o:=gH c;rw[show k-1+1=k by omega]at n o;have v:=ql (h.take (k-1));have w:=ql (j.take (k-1));rw[aiK,ajF (by omega)]at v w;have C:=df (h.take (k-1));have D:=df (j.take (k-1));have E:=oW (k-1);rw[n]at m;rw[o]at t;rw[f]at m;unfold jI;rcases Int.lt_or_gt_of_ne g with d|d
    ·have:pw (k-1)*a[k-1]+pw (k-1)<=pw (k-1)*b[k-1]:=by
      have:pw (k-1)*(a[k-1]+1)<=pw (k-1)*b[k-1]:=akN (by omega) (by omega)
      rwa [akO,akM]at this
     rw[if_pos d,if_pos (by omega)]
    ·have:pw (k-1)*b[k-1]+pw (k-1)<=pw (k-1)*a[k-1]:=by
      have:pw (k-1)*(b[k-1]+1)<=pw (k-1)*a[k-1]:=akN (by omega) (by omega)
      rwa [akO,akM]at this
     rw[if_neg (by omega),if_pos d,if_neg (by omega),if_pos (by omega)]
  ·right;have:k=0:=by omega
   subst this;refine⟨.inl (),by rw[if_neg (by simp)],?_⟩;simp only[ajV]at f;simp[f,jI]
 obtain⟨r,e,c⟩:=key;rw[e,aj5];cases r with
 | inl u=>simp only at c ⊢;rw[c]
 | inr x=>simp only at c ⊢;rw[c]
def wU {m n:Nat} (h:(aQ m).length<(aQ n).length):m<n:=by
 have c:=gB m;have a:n≠0:=fun b=>by subst b;rw[cW]at h;simp at h
 have d:=AO a;have e:=tj (i:=(aQ m).length) (j:=(aQ n).length-1) (by omega);omega
def cJ {m n:Nat} (h:m<=n):(aQ m).length<=(aQ n).length:=by
 rcases ajc (aQ n).length (aQ m).length with h1|h1
 ·have:=wU h1;omega
 ·exact h1
def zw {m n:Nat} (b:Fit (aQ m)) (c:Fit (aQ n)):gO (aQ m) (aQ n)=some (jI m n):=by
 by_cases a:(aQ m).length=(aQ n).length
 ·rw[N7 (cD m) (cD n) b a,bD,bD]
 ·unfold gO;rw[if_pos (by simp;omega),BQ,pR];unfold jI;rcases Nat.lt_or_gt_of_ne a with h|h
  ·have:=wU h;rw[if_pos (by omega),if_pos (by omega)]
  ·have:=wU h;rw[if_neg (by omega),if_pos (by omega),if_neg (by omega),if_pos (by omega)]
def ML {u v:List Int} {g:Int} (y:Dg u) (B:Dg v) (C:0<=g∧g<=1048576) (D:Fit u) (E:v.length<=u.length) :
  ∃r,aS (mv u v g) (0,0,u)=some r∧r.2.length=u.length∧Dg r.2∧(0<=r.1∧r.1<=1048576)∧dv r.2+g*dv v=dv u+pw u.length*r.1:=by
 unfold Fit at D;refine cO (I:=fun i s=>s.2.1=(i:Int)∧s.2.2.length=u.length∧Dg s.2.2∧(∀j (h:j<s.2.2.length) (f:j<u.length),i<=j->s.2.2[j]=u[j])∧(0<=s.1∧s.1<=1048576)∧dv s.2.2+g*dv (v.take i)=dv u+pw i*s.1)
  u.length _ ⟨rfl,rfl,y,fun j h _ _=>rfl,by simp,by simp[dv]⟩ (jz (by omega)) ?_
 rintro i ⟨c,s,l⟩ L ⟨z,e,m,k,A,n⟩;simp only at z e m k A n;subst z;simp only[mv]
 by_cases a:i<u.length
 ·left;have b:i<l.length:=by omega
  rw[if_pos (by simpa using a),cu b,aj5,k i b a (air _)];have M:=y.get a;have o:=JW B i;have p:0<=g*gd v i:=akZ C.1 o.1;have q:g*gd v i<=1048576*1048575:=ak0 (by omega) (by omega) o.1 (by omega);have F:(if decide ((i:Int)<(v.length:Int))=true then (P.idx v (i:Int)).bind fun t=>some (i64.wrap ((i64.wrap (u[i]-c))-(i64.wrap (g*t)))) else some (i64.wrap (u[i]-c)))=some (u[i]-c-g*gd v i):=by
   by_cases d:i<v.length
   ·rw[if_pos (by simpa using d),cu d,aj5];rw[OW d]at o p q ⊢;rw[iH (x:=u[i]-c) (by omega),iH (x:=g*v[i]) (by omega),iH (by omega)]
   ·rw[if_neg (by simpa using d),JX (by omega),iH (by omega)];simp
  rw[F,aj5,Rl,aj5,wL (by omega) (by omega),iH (x:=0-_) (by omega)];have G:i64.wrap ((i:Int)+1)=((i+1:Nat):Int):=by rw[iH (by omega)];omega
  refine⟨a,_,rfl,G,by simpa using e,m.set _ (by omega),fun j h f H =>?_,by simp only;omega,?_⟩
  ·simp only[Int.toNat_natCast]at h ⊢;rw[akT (by omega)];exact k j (by simpa using h) f (by omega)
  ·simp only[Int.toNat_natCast];rw[vd b,k i b a (air _),sZ];have J:=xE i (u[i]-c-g*gd v i);rw[akU (pw i),akU (pw i)]at J;have K:g*(dv (v.take i)+pw i*gd v i)=g*dv (v.take i)+pw i*(g*gd v i):=by rw[akO,ak1]
   rw[K,akU (pw i),akU (pw (i+1)),ak3];omega
 ·right;have w:i=u.length:=by omega
  subst w;refine⟨(c,l),by rw[if_neg (by simp)],e,m,A,?_⟩;rw[z7 E]at n;exact n
def MM {u v:List Int} (p:Dg u) (t:Dg v) (w:Fit u) (y:v.length<=u.length) :
  ∃l,aS (mw v u) (0,0,u)=some l∧l.length=u.length∧Dg l∧∃c,0<=c∧dv l+pw u.length*c=dv u+dv v:=by
 unfold Fit at w;refine cO (I:=fun i s=>s.2.1=(i:Int)∧s.2.2.length=u.length∧Dg s.2.2∧(∀j (g:j<s.2.2.length) (f:j<u.length),i<=j->s.2.2[j]=u[j])∧(0<=s.1∧s.1<=1)∧dv s.2.2+pw i*s.1=dv u+dv (v.take i))
  u.length _ ⟨rfl,rfl,p,fun j g _ _=>rfl,by simp,by simp[dv]⟩ (jz (by omega)) ?_
 rintro i ⟨c,s,l⟩ E ⟨q,e,k,h,r,m⟩;simp only at q e k h r m;subst q;simp only[mw]
 by_cases a:i<u.length
 ·left;have b:i<l.length:=by omega
  rw[if_pos (by simpa using a),cu b,aj5,h i b a (air _)];have F:=p.get a;have z:=JW t i;have A:(if decide ((i:Int)<(v.length:Int))=true then (P.idx v (i:Int)).bind fun n=>some (i64.wrap ((i64.wrap (c+u[i]))+n)) else some (i64.wrap (c+u[i])))=some (c+u[i]+gd v i):=by
   by_cases d:i<v.length
   ·rw[if_pos (by simpa using d),cu d,aj5];rw[OW d]at z ⊢;rw[iH (x:=c+u[i]) (by omega),iH (by omega)]
   ·rw[if_neg (by simpa using d),JX (by omega),iH (by omega)];simp
  rw[A,aj5,Rl,aj5,wL (by omega) (by omega)];have B:i64.wrap ((i:Int)+1)=((i+1:Nat):Int):=by rw[iH (by omega)];omega
  refine⟨a,_,rfl,B,by simpa using e,k.set _ (by omega),fun j g f C =>?_,by simp only;omega,?_⟩
  ·simp only[Int.toNat_natCast]at g ⊢;rw[akT (by omega)];exact h j (by simpa using g) f (by omega)
  ·simp only[Int.toNat_natCast];rw[vd b,h i b a (air _),sZ];have D:=xE i (c+u[i]+gd v i);rw[akO (pw i),akO (pw i)]at D;rw[akU (pw i)];omega
 ·right;have o:i=u.length:=by omega
  subst o;refine⟨l,by rw[if_neg (by simp)],e,k,c,r.1,?_⟩;rw[z7 y]at m;exact m
def XH {u v:List Int} {g:Int} (s:Dg u) (i:Dg v) (x:Fit u) (t:v.length<=u.length) (y:0<dv v) (z:dv u / dv v<=g) (A:g<=dv u / dv v+1) (j:g<=1048576) :
  ∃l,gG u v g=some (l,dv u / dv v)∧l.length=u.length∧Dg l∧dv l=dv u % dv v:=by
 have B:0<=dv u / dv v:=akV (df s) (by omega);obtain⟨⟨c,l⟩,C,b,e,D,k⟩:=ML s i ⟨by omega,j⟩ x t;simp only at b e D k;have L:=akY (dv u) (dv v);have E:=Int.emod_nonneg (dv u) (show dv v≠0 by omega);have F:=akX (dv u) y;have n:=ql e;have G:=df e;rw[b]at n;have M:=oW u.length;have H:dv v<pw u.length:=Int.lt_of_lt_of_le (ql i) (tj t);unfold gG rF;rw[C,aj5];simp only;rcases (show g=dv u / dv v∨g=dv u / dv v+1 by omega) with f|f
 ·have o:g*dv v=dv v*(dv u / dv v):=by rw[f,akL]
  have a:c=0:=by
   rcases (show c=0∨1<=c by omega) with h|h
   ·exact h
   ·have:pw u.length*1<=pw u.length*c:=akN h (by omega);omega
  subst a;rw[if_pos (by simp),aj5,if_pos (by simpa using b)];exact⟨l,by rw[f],b,e,by rw[ak3]at k;omega⟩
 ·have o:g*dv v=dv v*(dv u / dv v)+dv v:=by rw[f,ak2,ak4,akL]
  have a:c≠0:=by
   intro h;subst h;rw[ak3]at k;omega
  obtain⟨m,I,J,p,d,N,K⟩:=MM e i (by unfold Fit at *;omega) (by omega);rw[if_neg (by simpa using a),I,aj5,aj5,if_pos (by simp;omega)];refine⟨m,by rw[iH (by omega),f];simp,by omega,p,?_⟩;rw[b]at K;have q:=ql p;have w:=df p;rw[J,b]at q;have r:c=d:=by
   rcases akG c d with h|h|h
   ·have:pw u.length*(c+1)<=pw u.length*d:=akN (by omega) (by omega);rw[akO,akM]at this;omega
   ·exact h
   ·have:pw u.length*(d+1)<=pw u.length*c:=akN (by omega) (by omega);rw[akO,akM]at this;omega
  subst r;omega
def S5 {v u:List Int} {s13:Int} {a b c T V W:Int} {n:Nat} (hn:2<=n) (f:v.length=n) (O:n<=17592186044416) (i:Nat) (Q:s13=i) (R:i+n<=17592186044416)
  (w:P.idx v (((n-2:Nat)):Int)=some b) (y:P.idx u (((i+n-2:Nat)):Int)=some c)
  (S:524288<=a∧a<1048576) (t:0<=b∧b<1048576) (U:0<=c∧c<1048576) (z:0<=T) (X:T<1048576*1048576)
  (J:pw (n-2)*(a*1048576+b)<=V∧V<pw (n-2)*(a*1048576+b+1)) (hW:pw (n-2)*(T*1048576+c)<=W∧W<pw (n-2)*(T*1048576+c+1)) (A:W<1048576*V) :
  ∃g,aS (u3 v s13 u a) (T / a,T % a)=some g∧W / V<=g∧g<=W / V+1∧g<=1048576:=by
 subst Q;have hp:=oW (n-2);have e:0<V:=by
  have:pw (n-2)*1<=pw (n-2)*(a*1048576+b):=akN (by omega) (by omega);omega
 have B:0<=W:=by
  have:0<=pw (n-2)*(T*1048576+c):=akZ (by omega) (by omega);omega
 have Y:0<=W / V:=akV B (by omega);have Z:W / V<1048576:=akW e A;have hm:=akY T a;have C:=Int.emod_nonneg T (show a≠0 by omega);have aa:=akX T (show 0<a by omega);have ab:0<=T / a:=akV z (by omega);have D:T / a<=2097152:=by
  have:T / a<2097153:=akW (by omega) (by
   have:2097153*524288<=2097153*a:=akN S.1 (by omega);omega)
  omega
 have E:∀g r:Int,g*a+r=T->W / V<=g->g*b>r*1048576+c->W / V<=g-1:=by
  intro g r h l F;have m:W<g*V:=by
   have o:g*(a*1048576+b)>=T*1048576+c+1:=by
    rw[<- h];have:g*(a*1048576+b)=g*a*1048576+g*b:=by rw[akO,akP]
    rw[this,ak2];omega
   have e2:pw (n-2)*(T*1048576+c+1)<=pw (n-2)*(g*(a*1048576+b)):=akN o (by omega);have K:g*(pw (n-2)*(a*1048576+b))<=g*V:=akN J.1 (by omega);have e4:pw (n-2)*(g*(a*1048576+b))=g*(pw (n-2)*(a*1048576+b)):=ak1 _ _ _;omega
  have:=akW e m;omega
 have p:∀g r:Int,g*a+r=T->0<=g->g<=1048576->g*b<=r*1048576+c->g<=W / V+1:=by
  intro g r h h0 hB F;have o:g*(a*1048576+b)<=T*1048576+c:=by
   rw[<- h];have:g*(a*1048576+b)=g*a*1048576+g*b:=by rw[akO,akP]
   rw[this,ak2];omega
  have e2:g*V<=W+V:=by
   have f1:g*V<=g*(pw (n-2)*(a*1048576+b+1)):=akN (by omega) h0;have f2:g*(pw (n-2)*(a*1048576+b+1))=pw (n-2)*(g*(a*1048576+b))+pw (n-2)*g:=by
    rw[ak1,akO g,akM,akO]
   have f3:pw (n-2)*(g*(a*1048576+b))<=pw (n-2)*(T*1048576+c):=akN o (by omega);have f4:pw (n-2)*g<=pw (n-2)*(a*1048576+b):=akN (by omega) (by omega);omega
  have K:(g-1)*V<=W:=by rw[Int.sub_mul,ak4];omega
  have:=Int.le_ediv_of_mul_le e K;omega
 have j:W / V<=T / a:=by
  have o:W<(T / a+1)*V:=by
   have f1:T+1<=(T / a+1)*a:=by
    have:(T / a+1)*a=a*(T / a)+a:=by rw[ak2,ak4,akL]
    omega
   have f2:T*1048576+c+1<=(T / a+1)*(a*1048576+b):=by
    have g1:(T+1)*1048576<=(T / a+1)*a*1048576:=ak5 f1 (by omega);have g2:0<=(T / a+1)*b:=akZ (by omega) t.1;rw[akO,<- akP];omega
   have f3:pw (n-2)*(T*1048576+c+1)<=pw (n-2)*((T / a+1)*(a*1048576+b)):=akN f2 (by omega);have f4:(T / a+1)*(pw (n-2)*(a*1048576+b))<=(T / a+1)*V:=akN J.1 (by omega);have f5:pw (n-2)*((T / a+1)*(a*1048576+b))=(T / a+1)*(pw (n-2)*(a*1048576+b)):=ak1 _ _ _;omega
  have:=akW e o;omega
 refine sa (I:=fun (s:Int×Int)=>s.1*a+s.2=T∧W / V<=s.1∧s.1<=2097152∧0<=s.2) (μ:=fun (s:Int×Int)=>s.1.toNat) _ ⟨?_,j,D,C⟩ (by unfold FU;omega) ?_
 ·show T / a*a+T % a=T;rw[akL];exact hm
 rintro⟨g,r⟩ ⟨h,l,F,m⟩;simp only at h l F m;have ad:0<=g*a:=akZ (by omega) (by omega);simp only[u3];have el:i64.wrap ((v.length:Int)-2)=((n-2:Nat):Int):=by rw[f,iH (by omega)];omega
 have ei:i64.wrap ((i64.wrap ((i:Int)+(v.length:Int)))-2)=((i+n-2:Nat):Int):=by rw[f,iH (x:=(i:Int)+n) (by omega),iH (by omega)];omega
 rw[el,ei];have d:W / V<=g-1->∃k:Int×Int,(some (Sum.inl (i64.wrap (g-1),i64.wrap (r+a))):Option ((Int×Int)⊕Int))=some (.inl k)∧(k.1*a+k.2=T∧W / V<=k.1∧k.1<=2097152∧0<=k.2)∧k.1.toNat<g.toNat:=by
  intro G;refine⟨_,rfl,?_⟩;rw[iH (x:=g-1) (by omega),iH (x:=r+a) (by omega)];simp only;refine⟨⟨by rw[Int.sub_mul,ak4];omega,G,by omega,by omega⟩,by omega⟩
 by_cases q:g>=1048576
 ·rw[if_pos (by simpa using q),aj5,if_pos rfl];exact .inl (d (by omega))
 ·rw[if_neg (by simpa using q)]
  by_cases L:r<1048576
  ·have M:0<=g*b:=akZ (by omega) t.1;have H:g*b<=1048576*1048576:=ak0 (by omega) (by omega) t.1 (by omega);rw[if_pos (by simpa using L),w,aj5,aaJ m (by omega),aj5,y,aj5,iH (x:=g*b) (by omega),Tr m (by omega) U,aj5]
   by_cases N:g*b>1048576*r+c
   ·rw[if_pos (by simpa using N)];exact .inl (d (E g r h l (by omega)))
   ·rw[if_neg (by simpa using N)];exact .inr ⟨g,rfl,l,p g r h (by omega) (by omega) (by omega),by omega⟩
  ·rw[if_neg (by simpa using L),aj5,if_neg (by simp)];refine .inr ⟨g,rfl,l,p g r h (by omega) (by omega) ?_,by omega⟩;have:g*b<=1048575*1048575:=ak0 (by omega) (by omega) t.1 (by omega);have:1048576*1048576<=r*1048576:=ak5 (by omega) (by omega);omega
def aeN {α:Type} {l:List α} {a b:Nat} (h:a<=b) (c:b<=l.length):Eg l (a:Int) (b:Int)=some ((l.drop a).take (b-a)):=by
 unfold Eg;rw[if_pos ⟨by omega,by omega,by omega⟩];simp
def abZ {l:List Int} {n:Nat} (f:l.length=n) (g:2<=n) (a:Dg l) :
  pw (n-2)*((l[n-1]'(by omega))*1048576+l[n-2]'(by omega))<=dv l∧dv l<pw (n-2)*((l[n-1]'(by omega))*1048576+l[n-2]'(by omega)+1):=by
 have e:=ka l (i:=n-2) (by omega);rw[lq (by omega),lq (i:=n-2+1) (by omega),akk (by omega)]at e;have b:l[n-2+1]'(by omega)=l[n-1]'(by omega):=by congr 1;omega
 rw[b]at e;have h:=df (a.take (n-2));have c:=ql (a.take (n-2));rw[aiK,ajF (by omega)]at c;simp only[dv]at e;have d:l[n-2]'(by omega)+1048576*(l[n-1]'(by omega)+1048576*0)=(l[n-1]'(by omega))*1048576+l[n-2]'(by omega):=by omega
 rw[d]at e;rw[akO (pw (n-2)) _ 1,akM];omega
def ab0 {l:List Int} {n:Nat} (g:l.length=n+1) (h:2<=n) (a:Dg l) :
  pw (n-2)*((1048576*(l[n]'(by omega))+l[n-1]'(by omega))*1048576+l[n-2]'(by omega))<=dv l∧dv l<pw (n-2)*((1048576*(l[n]'(by omega))+l[n-1]'(by omega))*1048576+l[n-2]'(by omega)+1):=by
 have e:=ka l (i:=n-2) (by omega);rw[lq (by omega),lq (i:=n-2+1) (by omega),lq (i:=n-2+1+1) (by omega),akk (by omega)]at e;have b:l[n-2+1]'(by omega)=l[n-1]'(by omega):=by congr 1;omega
 have c:l[n-2+1+1]'(by omega)=l[n]'(by omega):=by congr 1;omega
 rw[b,c]at e;have j:=df (a.take (n-2));have d:=ql (a.take (n-2));rw[aiK,ajF (by omega)]at d;simp only[dv]at e;have f:l[n-2]'(by omega)+1048576*(l[n-1]'(by omega)+1048576*(l[n]'(by omega)+1048576*0))=(1048576*(l[n]'(by omega))+l[n-1]'(by omega))*1048576+l[n-2]'(by omega):=by omega
 rw[f]at e;rw[akO (pw (n-2)) _ 1,akM];omega
def Y9 {v t:List Int} {n m:Nat} (x:Dg v) (a:v.length=n) (G:2<=n) (H:524288<=v[n-1]'(by omega)) (hu:Dg t) (J:t.length=m+n) (hf:m+n<=17592186044416) (c:dv (t.drop m)<dv v) :
  ∃r,aS (uZ v) ((m:Int)-1,t,List.replicate m 0)=some r∧r.1.length=m+n∧Dg r.1∧r.2.length=m∧Dg r.2∧dv r.1+dv v*dv r.2=dv t∧dv r.1<dv v:=by
 have K:=ql x;rw[a]at K;refine cO (I:=fun i s=>s.1=((m-i:Nat):Int)-1∧s.2.1.length=m+n∧Dg s.2.1∧s.2.2.length=m∧Dg s.2.2∧(∀j (y:j<s.2.2.length),j<m-i->s.2.2[j]=0)∧dv s.2.1+dv v*dv s.2.2=dv t∧dv (s.2.1.drop (m-i))<dv v)
  m _ ⟨rfl,J,hu,by simp,Dg.rep _,fun j y _=>by simp,by simp[BU],c⟩ (jz (by omega)) ?_
 rintro i ⟨s,u,q⟩ hi ⟨U,V,b,e,f,L,W,c⟩;simp only at U V b e f L W c;subst U;generalize hk:m-i=k at *;simp only[uZ]
 by_cases h0:0<k
 ·left;have ek:((k:Int)-1)=((k-1:Nat):Int):=by omega
  rw[ek,if_pos (by simp)];have e1:i64.wrap (((k-1:Nat):Int)+(v.length:Int))=((k-1+n:Nat):Int):=by rw[a,iH (by omega)];omega
  have e2:i64.wrap (((k-1+n:Nat):Int)-1)=((k-1+n-1:Nat):Int):=by rw[iH (by omega)];omega
  have e3:i64.wrap ((v.length:Int)-1)=((n-1:Nat):Int):=by rw[a,iH (by omega)];omega
  have e4:i64.wrap (((k-1+n:Nat):Int)+1)=((k-1+n+1:Nat):Int):=by rw[iH (by omega)];omega
  have e5:i64.wrap (((k-1:Nat):Int)-1)=((k-1:Nat):Int)-1:=iH (by omega);rw[e1,e2,e3,e4,e5];have X:k-1+n<u.length:=by omega
  have Y:k-1+n-1<u.length:=by omega
  have Z:k-1+n-2<u.length:=by omega
  have iv:n-1<v.length:=by omega
  have z:n-2<v.length:=by omega
  have g1:=b.get X;have g2:=b.get Y;have g3:=b.get Z;have gv:=x.get iv;have M:=x.get z;rw[cu X,aj5,aaJ g1.1 (by omega),aj5,cu Y,aj5,cu iv,aj5,Tr g1.1 (by omega) g2,abX (by omega) (by omega) (by omega),aj5,aex (by omega) (by omega),aj5,aeN (by omega) (by omega),show k-1+n+1-(k-1)=n+1 by omega];generalize F:(u.drop (k-1)).take (n+1)=w;have N:w.length=n+1:=by rw[<- F,aiK,aiL];omega
  have d:Dg w:=by rw[<- F];exact (b.drop _).take _
  have o:∀j (y:j<n+1),w[j]'(by omega)=u[k-1+j]'(by omega):=by
   intro j y;subst F;rw[List.getElem_take,List.getElem_drop]
  have A:dv (u.drop (k+n))=0:=by
   have O:=ka (u.drop k) (i:=n) (by rw[aiL];omega);rw[akm]at O;have n1:=df ((b.drop k).take n);have n2:=df (b.drop (k+n));have hp:=oW n;rcases (show dv (u.drop (k+n))=0∨1<=dv (u.drop (k+n)) by omega) with h|h
   ·exact h
   ·have:pw n*1<=pw n*dv (u.drop (k+n)):=akN h (by omega);omega
  have hW:dv w=dv (u.drop (k-1)):=by
   have O:=ka (u.drop (k-1)) (i:=n+1) (by rw[aiL];omega);rw[akm,show k-1+(n+1)=k+n by omega,A,F]at O;omega
  have aa:dv w=u[k-1]+1048576*dv (u.drop k):=by
   rw[hW,lq (by omega),show k-1+1=k by omega]
  have gk:=b.get (show k-1<u.length by omega);have B:dv w<1048576*dv v:=by omega
  have t2:=abZ a G x;have t3:=ab0 N G d;rw[o n (by omega),o (n-1) (by omega),o (n-2) (by omega)]at t3;have a1:u[k-1+(n-1)]'(by omega)=u[k-1+n-1]'(by omega):=by congr 1;omega
  have a2:u[k-1+(n-2)]'(by omega)=u[k-1+n-2]'(by omega):=by congr 1;omega
  rw[a1,a2]at t3;obtain⟨g,q1,q2,q3,q4⟩:=S5 (s13:=((k-1:Nat):Int)) G a (by omega) (k-1) rfl (by omega) (cu z) (cu Z) ⟨H,gv.2⟩ M g3 (T:=1048576*u[k-1+n]+u[k-1+n-1]) (by omega) (by omega) t2 t3 B;rw[q1,aj5,aj5];have p:0<dv v:=by
   have:=df d;omega
  obtain⟨l,r1,r2,r3,r4⟩:=XH d x (by unfold Fit;omega) (by omega) p q2 q3 q4;have P:k-1<q.length:=by omega
  rw[r1,aj5,cu P,aj5];simp only;have Q:0<=dv w / dv v:=akV (df d) (by omega);have R:dv w / dv v<1048576:=akW p B;have C:=akX (dv w) p;simp only[Int.toNat_natCast];have D:dv (l++u.drop (k-1+n+1))=dv w % dv v:=by
   rw[gV,show k-1+n+1=k+n by omega,A,r4];omega
  have E:(u.take (k-1)).length=k-1:=by rw[aiK];omega
  have S:dv (u.take (k-1)++(l++u.drop (k-1+n+1)))=dv (u.take (k-1))+pw (k-1)*(dv w % dv v):=by rw[gV,E,D]
  refine⟨by omega,_,rfl,by rw[show m-(i+1)=k-1 by omega],?_,(b.take _).append (r3.append (b.drop _)),by simpa using e,f.set _ ⟨Q,R⟩,fun j y ab =>?_,?_,?_⟩
  ·simp only[ajB,aiK,aiL];omega
  ·rw[akT (by omega)];exact L j (by simpa using y) (by omega)
  ·rw[S,vd P,L _ P (by omega),Int.sub_zero,akO];have s2:=ka u (i:=k-1) (by omega);rw[<- hW]at s2;have hm:=akY (dv w) (dv v);have:pw (k-1)*dv w=dv v*(pw (k-1)*(dv w / dv v))+pw (k-1)*(dv w % dv v):=by
    rw[ak1,<- akO,hm]
   omega
  ·rw[show m-(i+1)=k-1 by omega,akj,E,ajD,ajV,akk (by omega),akh,D];exact C
 ·right;have:k=0:=by omega
  subst this;refine⟨(u,q),by rw[if_neg (by simp)],V,b,e,f,W,?_⟩;simpa using c
def TD {v:List Int} {t:Int} {n:Nat} (b:v.length=n) (l:0<n) (m:n<=17592186044416) (c:v[n-1]'(by omega)=t) (d:1<=t) (o:t<1048576) :
  ∃s,aS (uY v) 1=some s∧∃j:Nat,s=2 ^ j∧j<=19∧524288<=t*s∧t*s<1048576:=by
 refine cO (I:=fun i s=>s=2 ^ i∧t*s<1048576) 20 _ ⟨rfl,by omega⟩ (by unfold FU;omega) ?_;rintro i s p ⟨rfl,f⟩;have q:(0:Int)<2 ^ i:=Int.pow_pos (by decide);have g:(2:Int) ^ i<=t*2 ^ i:=by
  have:1*(2:Int) ^ i<=t*2 ^ i:=ak5 d (by omega);omega
 have a:i<=19:=by
  rcases ajc 19 i with h|h
  ·have k:i=20:=by omega
   subst k;omega
  ·exact h
 simp only[uY];have e:i64.wrap ((v.length:Int)-1)=((n-1:Nat):Int):=by rw[b,iH (by omega)];omega
 rw[e,cu (by omega),aj5,c,iH (x:=t*2 ^ i) (by omega)]
 by_cases h:t*2 ^ i<524288
 ·left;rw[if_pos (by simpa using h)];refine⟨by omega,_,rfl,by rw[iH (by omega),Int.pow_succ],?_⟩;rw[iH (by omega),<- akP];omega
 ·right;rw[if_neg (by simpa using h)];exact⟨_,rfl,i,rfl,a,by omega,f⟩
def div_eq {m n:Nat} (hn:n≠0) (an:(aQ m).length<=17592186043904) (ao:(aQ n).length<=17592186043904):uX (aQ m) (aQ n)=some (aQ (m / n),aQ (m % n)):=by
 unfold uX;rw[zw (by unfold Fit;omega) (by unfold Fit;omega),aj5]
 by_cases r:m<n
 ·have:jI (m:Int) n<0:=by unfold jI;rw[if_pos (by omega)];decide
  rw[if_pos (by simpa using this),wS (by unfold Fit;omega),aj5,ak6 r,ajo r,cW]
 have:¬jI (m:Int) n<0:=by unfold jI;rw[if_neg (by omega)];split<;>decide
 rw[if_neg (by simpa using this)];obtain⟨aq,ar⟩:=AO hn;have v:=gB n
 by_cases h1:(aQ n).length=1
 ·rw[if_pos (by simp;omega)];have au:(n:Int)<1048576:=by rw[h1]at v;simpa [pw] using v
  have e:aQ n=[(n:Int)]:=by
   rw[pF hn,ak6 (by omega),cW,ajo (by omega)]
  have ei:P.idx (aQ n) 0=some (n:Int):=by rw[e];rfl
  rw[ei,aj5,Rk (cD m) ⟨by omega,by omega⟩ (by unfold Fit;omega),aj5,bD];have H:(m:Int) % n=((m % n:Nat):Int):=(Int.natCast_emod m n).symm;have I:((m:Int) / n).toNat=m / n:=by
   rw[<- Int.natCast_ediv];rfl
  have av:m % n<n:=ajm _ (by omega);simp only[H,I];rw[Ev (n:=m % n) (by simp[Fit]) (Dg.mk (by omega) Dg.nil) (by simp[dv]),aj5]
 ·rw[if_neg (by simp;omega)];generalize hN:(aQ n).length=N at *;have J:2<=N:=by omega
  have l:=cD n;have gt:=l.get (show N-1<(aQ n).length by omega);generalize ht:(aQ n)[N-1]'(by omega)=t at gt;have a:=ka (aQ n) (i:=N-1) (by omega);rw[bD,lq (by omega),akk (by omega),ht]at a;simp only[dv,ak3,ak7]at a;have K:=df (l.take (N-1));have L:=ql (l.take (N-1));rw[aiK,ajF (by omega)]at L;have aw:=oW (N-1);have O:1<=t:=by
   rcases (show t=0∨1<=t by omega) with h|h
   ·subst h;omega
   ·exact h
  obtain⟨s,R,j,w,hj,T,o⟩:=TD hN (by omega) (by omega) ht O gt.2;have V:(2:Int) ^ j<=524288:=by
   have:∀j:Nat,j<=19->(2:Int) ^ j<=524288:=by decide
   exact this j hj
  have W:(0:Int)<2 ^ j:=Int.pow_pos (by decide);have X:(t+1)*s<=1048576:=by
   have Y:(1048576:Int)=2 ^ (20-j)*2 ^ j:=by rw[<- Int.pow_add,Nat.sub_add_cancel (by omega)];rfl
   rw[Y]at o ⊢;rw[w]at o ⊢;have:t<2 ^ (20-j):=Int.lt_of_mul_lt_mul_right o (by omega);exact ak5 (by omega) (by omega)
  rw[<- w]at W V;obtain⟨S,rfl⟩:∃S:Nat,s=S:=⟨s.toNat,by omega⟩;have y:Dg [(S:Int)]:=Dg.mk (by omega) Dg.nil;have c:dv [(S:Int)]=S:=by simp[dv]
  rw[R,aj5,mul_eq (cD m) y (by simp;omega),aj5,bD,c];have em:((m:Int)*S).toNat=m*S:=by rw[<- ajr];rfl
  have en:((n:Int)*S).toNat=n*S:=by rw[<- ajr];rfl
  rw[em];have ax:(aQ (m*S)).length<=(aQ m).length+1:=by
   apply iW;rw[js,ajr];have b:=gB m;have:(m:Int)*S<=m*1048576:=akN (by omega) (by omega);omega
  have hU:∃u,((if ((((aQ (m*S)++[0]).length:Int))==((aQ m).length:Int))=true then (mK 8 (aQ (m*S)++[0]) [0]).bind fun Z=>some Z else some (aQ (m*S)++[0]))=some u)∧Dg u∧dv u=(m*S:Nat)∧dv u<pw (u.length-1)∧(aQ (m*S)).length+1<=u.length∧u.length<=(aQ m).length+3:=by
   have d1:Dg (aQ (m*S)++[0]):=(cD _).append (Dg.mk (by omega) Dg.nil);have E:dv (aQ (m*S)++[0])=(m*S:Nat):=by rw[gV,bD];simp[dv]
   have v2:=gB (m*S);split
   ·rw[yU (by simp;omega),aj5];refine⟨_,rfl,d1.append (Dg.mk (by omega) Dg.nil),by rw[gV,E];simp[dv],?_,by simp,by simp;omega⟩;rw[gV,E];simp only[dv,ajB,List.length_cons,List.length_nil];have:=tj (i:=(aQ (m*S)).length) (j:=(aQ (m*S)).length+1) (by omega);rw[show (aQ (m*S)).length+(0+1)+(0+1)-1=(aQ (m*S)).length+1 by omega];omega
   ·refine⟨_,rfl,d1,E,?_,by simp,by simp;omega⟩;rw[E];simpa using v2
  obtain⟨u,aa,z,ab,ay,az,aA⟩:=hU;rw[yU (by simp;omega),aj5,mul_eq (cD n) y (by simp;omega),aj5,bD,c,en,aa,aj5];have ak:524288*pw (N-1)<=((n*S:Nat):Int):=by
   rw[ajr,a,ak2];have b:0<=dv ((aQ n).take (N-1))*S:=akZ K (by omega);have A:pw (N-1)*524288<=pw (N-1)*(t*S):=akN T (by omega);rw[akP];omega
  have B:((n*S:Nat):Int)<pw N:=by
   have a0:pw N=1048576*pw (N-1):=by rw[<- js];congr 1;omega
   rw[a0,ajr,a];have b:(dv ((aQ n).take (N-1))+pw (N-1)*t+1)*S<=(pw (N-1)*(t+1))*S:=ak5 (by rw[akO];omega) (by omega);have A:pw (N-1)*((t+1)*S)<=pw (N-1)*1048576:=akN X (by omega);rw[akP]at b;rw[ak2 _ 1,ak4]at b;omega
  have C:(aQ (n*S)).length=N:=by
   have b:=iW B;rcases ajc (aQ (n*S)).length N with h|h
   ·have A:=gB (n*S);have F:=tj (i:=(aQ (n*S)).length) (j:=N-1) (by omega);omega
   ·omega
  have ad:524288<=(aQ (n*S))[N-1]'(by omega):=by
   have b:=ka (aQ (n*S)) (i:=N-1) (by omega);rw[bD,lq (by omega),akk (by omega)]at b;simp only[dv,ak3,ak7]at b;have A:=ql ((cD (n*S)).take (N-1));rw[aiK,ajF (by omega)]at A;have F:pw (N-1)*524288<pw (N-1)*((aQ (n*S))[N-1]'(by omega)+1):=by rw[akO];omega
   have:=Int.lt_of_mul_lt_mul_left F (by omega);omega
  have al:N+1<=u.length:=by
   have:n*S<=m*S:=ajd _ (by omega);have:=cJ this;omega
  obtain⟨M,hM⟩:∃M,u.length=M+N:=⟨u.length-N,by omega⟩;have e1:i64.wrap ((u.length:Int)-((aQ (n*S)).length:Int))=(M:Int):=by rw[C,hM,iH (by omega)];omega
  rw[e1,mk0 (by omega),aj5,List.length_replicate,iH (x:=(M:Int)-1) (by omega)];have ae:dv (u.drop M)<dv (aQ (n*S)):=by
   rw[bD];have b:=ka u (i:=M) (by omega);have A:=df (z.take M);have F:pw M*dv (u.drop M)<pw M*pw (N-1):=by
    rw[<- Hc,show M+(N-1)=u.length-1 by omega];omega
   have:=Int.lt_of_mul_lt_mul_left F (by have:=oW M;omega);omega
  obtain⟨⟨U,Q⟩,r1,r2,r3,r4,r5,G,r7⟩:=Y9 (cD (n*S)) C J ad z hM (by omega) ae;simp only at r2 r3 r4 r5 G r7;rw[r1,aj5];simp only;rw[bD,ab]at G;rw[bD]at r7;have aB:=df r3;have aC:=df r5;have hS:0<S:=by omega
  have ag:0<n*S:=akH (by omega) hS;obtain⟨d,p⟩:∃k:Nat,dv U=k:=⟨(dv U).toNat,by omega⟩;obtain⟨q,D⟩:∃k:Nat,dv Q=k:=⟨(dv Q).toNat,by omega⟩;rw[p,D]at G;rw[p]at r7;have f:d+n*S*q=m*S:=by
   have:((d+n*S*q:Nat):Int)=((m*S:Nat):Int):=by rw[Int.natCast_add,ajr (n*S) q];exact G
   omega
  have g:d<n*S:=by omega
  have ah:q=m / n:=by
   have:m*S / (n*S)=q:=by
    rw[<- f,Nat.add_mul_div_left _ _ ag,ak6 g,ajf]
   rw[<- this,Nat.mul_div_mul_right _ _ hS]
  have ai:d=(m % n)*S:=by
   have:m*S % (n*S)=d:=by rw[<- f,Nat.add_mul_mod_self_left,ajo g]
   rw[<- this,Nat.mul_mod_mul_right]
  rw[Ev (n:=d) (by unfold Fit;omega) r3 p,aj5];have aj:(aQ d).length<=N:=iW (by omega);rw[Rk (cD d) ⟨by omega,by omega⟩ (by unfold Fit;omega),aj5,Ev (n:=q) (by unfold Fit;omega) r5 D,aj5,bD,ah,ai];have:((((m % n)*S:Nat):Int) / (S:Int)).toNat=m % n:=by
   rw[ajr,Int.mul_ediv_cancel _ (by omega)];rfl
  rw[this]
def eB (x:Int):aF:=aF.mk x.sign (aQ x.natAbs)
def Ln (x:Int):Nat:=(aQ x.natAbs).length
def er:Nat:=4398046511104
def kv:Nat:=17592186043904
def ua {n:Nat} (h:n<=er):n<=kv:=ait h (by decide)
def Gs:eB 0=aF.mk 0 []:=by unfold eB;rw[show (0:Int).natAbs=0 from rfl,cW];rfl
def Mj {x y:Int} (h:eB x=eB y):x=y:=by
 unfold eB at h;simp only[aF.mk.injEq]at h;have:=Y7 h.2;have a:=Int.sign_mul_natAbs x;have b:=Int.sign_mul_natAbs y;rw[<- a,<- b,h.1,this]
def Np {x:Int} {k:Nat} (h:(x.natAbs:Int)<pw k):Ln x<=k:=iW h
def Vx (x:Int):(x.natAbs:Int)<pw (Ln x):=gB _
def Uo {x y:Int} (h:x.natAbs<=y.natAbs):Ln x<=Ln y:=cJ h
def EC (x:Int):Ln (-x)=Ln x:=by unfold Ln;rw[Int.natAbs_neg]
def R6 (x y:Int):Ln (x+y)<=max (Ln x) (Ln y)+1:=by
 apply Np;have a:=Vx x;have b:=Vx y;have c:=tj (i:=Ln x) (j:=max (Ln x) (Ln y)) (by omega);have d:=tj (i:=Ln y) (j:=max (Ln x) (Ln y)) (by omega);have e:=Int.natAbs_add_le x y;rw[js];omega
def kO (x y:Int):Ln (x*y)<=Ln x+Ln y:=by
 apply Np;have c:=Vx x;have a:=Vx y;rw[ak8,ajr,Hc];have b:=oW (Ln x)
 calc (x.natAbs:Int)*y.natAbs<=pw (Ln x)*y.natAbs:=ak5 (by omega) (by omega)
  _<pw (Ln x)*pw (Ln y):=Int.mul_lt_mul_of_pos_left a b
def ED {x:Int} (h:x.natAbs<1048576):Ln x<=1:=Np (by rw[js,py];omega)
instance (l:List Int):Decidable (Dg l):=by unfold Dg;infer_instance
def okB (b:aF):Bool:=decide (Dg b.aa)&&(match b.aa.getLast? with|none=>b.ak==0|some d=>(b.ak==1||b.ak == -1)&&d != 0)
def vA {b:aF} : okB b=true↔∃x,b=eB x:=by
 obtain⟨s,l⟩:=b;unfold okB;simp only[ai2,decide_eq_true_eq];constructor
 ·rintro⟨i,h⟩;cases f:l.getLast? with
  | none =>
   rw[f]at h;have:l=[]:=List.getLast?_eq_none_iff.1 f;subst this;exact⟨0,by rw[Gs];simpa using h⟩
  | some d =>
   rw[f]at h;simp only[ai2,aj6,beq_iff_eq,bne_iff_ne]at h;have a:l≠[]:=by intro h0;subst h0;simp at f
   have c:∀h:l≠[],l.getLast h≠0:=by
    intro j;rw[ak9 j]at f;cases f;exact h.2
   have e:=Ek i c;have h0:(dv l).toNat≠0:=by
    intro h0;rw[h0,cW]at e;exact a e.symm
   have m:=df i;refine⟨s*dv l,?_⟩;unfold eB;rcases h.1 with rfl|rfl
   ·rw[ak4,ala (by omega)];have:(dv l).natAbs=(dv l).toNat:=by omega
    rw[this,e]
   ·rw[Int.neg_mul,ak4,Int.sign_neg,ala (by omega)];have:(-dv l).natAbs=(dv l).toNat:=by omega
    rw[this,e]
 ·rintro⟨x,g⟩;unfold eB at g;simp only[aF.mk.injEq]at g;obtain⟨rfl,rfl⟩:=g;refine⟨cD _,?_⟩
  by_cases h0:x=0
  ·subst h0;simp[cW]
  ·have a:aQ x.natAbs≠[]:=fun h=>h0 (by have:=uf.1 h;omega);rw[ak9 a];have k:=WL _ a;simp only[ai2,aj6,beq_iff_eq,bne_iff_ne];refine⟨?_,k⟩;rcases akG x 0 with h|h|h
   ·right;exact alb h
   ·exact absurd h h0
   ·left;exact ala h
def Mn (x:Int):okB (eB x)=true:=vA.2 ⟨x,rfl⟩
def Hk {b:aF} (n:Fit b.aa):dr b=some (okB b):=by
 obtain⟨s,l⟩:=b;simp only[Fit]at n;have key:∃r,aS (qB ⟨s,l⟩) 0=some r∧(match r with | .inl _=>Dg l | .inr x=>x=false∧¬Dg l):=by
  refine cO (I:=fun i s=>s=(i:Int)∧Dg (l.take i)) l.length _ ⟨rfl,by simpa using Dg.nil⟩ (jz n) ?_;rintro i s o ⟨rfl,j⟩;simp only[qB]
  by_cases a:i<l.length
  ·rw[if_pos (by simpa using a),cu a,aj5]
   by_cases f:l[i]<0
   ·right;exact⟨.inr false,by rw[if_pos (by simpa using f)],rfl,fun k=>by have:=k.get a;omega⟩
   ·by_cases d:l[i]>1048575
    ·right;exact⟨.inr false,by rw[if_neg (by simpa using f),if_pos (by simpa using d)],rfl,fun k=>by have:=k.get a;omega⟩
    ·left;refine⟨a,_,by rw[if_neg (by simpa using f),if_neg (by simpa using d)],by rw[iH (by omega)];omega,?_⟩;have e:l.take (i+1)=l.take i++[l[i]]:=by rw[akQ];simp[a]
     rw[e];exact j.append (Dg.mk (by omega) Dg.nil)
  ·right;have:i=l.length:=by omega
   subst this;rw[akD]at j;exact⟨.inl (),by rw[if_neg (by simp)],j⟩
 obtain⟨r,f,d⟩:=key;unfold dr okB;rw[f,aj5];cases r with
 | inr x =>
  obtain⟨rfl,h⟩:=d;simp[h]
 | inl u =>
  simp only at d ⊢;simp only[d,decide_true,ajX]
  by_cases g:l=[]
  ·subst g;simp
  ·have p:0<l.length:=akq.2 g;have e:i64.wrap ((l.length:Int)-1)=((l.length-1:Nat):Int):=by rw[iH (by omega)];omega
   rw[if_neg (by simpa using g),e,cu (by omega),ak9 g,List.getLast_eq_getElem];simp only[Option.bind_some]
   by_cases m:s=1
   ·subst m;simp
   ·rw[if_neg (by simpa using m)]
    by_cases c:s = -1
    ·subst c;simp
    ·rw[if_neg (by simpa using c)];simp[m,c]
def jd {x:Int} (h:Ln x<=17592186044416):dr (eB x)=some true:=by
 rw[Hk (show Fit (eB x).aa from h),Mn]
def uz {s:Int} {l:List Int} (x:Int) (a:Fit l) (b:Dg l) (c:dv l=x.natAbs) (d:x≠0->s=x.sign):dz s l=some (eB x):=by
 unfold dz;rw[Ev a b c,aj5]
 by_cases h0:x=0
 ·subst h0;rw[show (0:Int).natAbs=0 from rfl,cW,Gs];rfl
 ·have:aQ x.natAbs≠[]:=fun h=>h0 (by have:=uf.1 h;omega);rw[if_neg (by simpa using this),d h0];rfl
def nK (b:aF):eY true b=some (b,0):=rfl
def pz (x:Int):x.sign = -1∨x.sign=0∨x.sign=1:=by
 rcases akG x 0 with h|h|h
 ·left;exact alb h
 ·subst h;right;left;rfl
 ·right;right;exact ala h
def R7 {x:Int} (h:Ln x<=er):qA (eB x)=some (eB (-x)):=by
 unfold qA;have b:er=4398046511104:=rfl;rw[jd (by omega),aj5];simp only[ajW,ai1,if_false];have a:Fit (eB x).aa:=by unfold Fit;show Ln x<=_;omega
 rw[wS a,aj5,uz (-x) a (cD _) (by show dv (aQ _)=_;rw[bD,Int.natAbs_neg]),aj5];intro c;show i64.wrap (0-x.sign)=_;rw[iH (by have:=pz x;omega),Int.sign_neg,Int.zero_sub]
def ac2 (s t:Int):wT [s,t]=some (if s≠0 then s else t):=by
 have key:∃r,aS (yw [s,t]) 0=some r∧(match r with | .inl _=>s=0∧t=0 | .inr x=>x=if s≠0 then s else t):=by
  refine cO (I:=fun i j=>j=(i:Int)∧(1<=i->s=0)∧(2<=i->t=0)) 2 _ ⟨rfl,by omega,by omega⟩ (by unfold FU;omega) ?_;rintro i j c ⟨rfl,b,a⟩;simp only[yw];rcases (show i=0∨i=1∨i=2 by omega) with rfl|rfl|rfl
  ·rw[if_pos (by simp)];show _∨∃r,((some s).bind _=_)∧_;rw[show P.idx [s,t] ((0:Nat):Int)=some s from rfl,aj5]
   by_cases hs:s=0
   ·left;exact⟨by omega,_,by rw[if_neg (by simpa using hs)],by rw[iH (by omega)];rfl,fun _=>hs,by omega⟩
   ·right;exact⟨_,by rw[if_pos (by simpa using hs)],by simp[hs]⟩
  ·have hs:=b (by omega);rw[if_pos (by simp),show P.idx [s,t] ((1:Nat):Int)=some t from rfl,aj5]
   by_cases ht:t=0
   ·left;exact⟨by omega,_,by rw[if_neg (by simpa using ht)],by rw[iH (by omega)];rfl,fun _=>hs,fun _=>ht⟩
   ·right;exact⟨_,by rw[if_pos (by simpa using ht)],by simp[hs]⟩
  ·right;exact⟨.inl (),by rw[if_neg (by simp)],b (by omega),a (by omega)⟩
 obtain⟨r,b,a⟩:=key;unfold wT;rw[b,aj5];cases r with
 | inl u=>simp only at a ⊢;rw[if_neg (by simp[a.1]),a.2]
 | inr x=>simp only at a ⊢;rw[a]
def fF (x:Int):x.sign=1∧x=x.natAbs∧0<x∨x.sign = -1∧x = -x.natAbs∧x<0∨x.sign=0∧x=0:=by
 rcases akG x 0 with h|h|h
 ·right;left;exact⟨alb h,by omega,h⟩
 ·subst h;right;right;exact⟨rfl,rfl⟩
 ·left;exact⟨ala h,by omega,h⟩
def rn {x:Int} {s:Int} {n:Nat} (a:n=x.natAbs) (b:x≠0->s=x.sign) (c:n≠0->(aQ n).length<=17592186044416):dz s (aQ n)=some (eB x):=by
 subst a;refine uz x ?_ (cD _) (bD _) b;unfold Fit
 by_cases h:x.natAbs=0
 ·rw[h,cW];simp
 ·exact c h
def adZ {x y:Int} (v:Ln x<=er) (w:Ln y<=er):yo (eB x) (eB y)=some (eB (x+y),0):=by
 have z:er=4398046511104:=rfl;have r:=R6 x y;unfold yo;rw[jd (by omega),aj5];simp only[ajW,ai1,if_false];rw[jd (by omega),aj5,aj5];simp only[ajW,ai1,if_false];show (if decide (i64.wrap (x.sign*y.sign)>=0)=true then _ else _)=_;have k:(eB x).aa=aQ x.natAbs:=rfl;have l:(eB y).aa=aQ y.natAbs:=rfl;have m:(eB x).ak=x.sign:=rfl;have n:(eB y).ak=y.sign:=rfl;rw[k,l,m,n];have A:(aQ x.natAbs).length<=4398046511104:=by show Ln x<=_;omega
 have B:(aQ y.natAbs).length<=4398046511104:=by show Ln y<=_;omega
 have o:=fF x;have p:=fF y;have s:i64.wrap (x.sign*y.sign)=x.sign*y.sign:=by
  apply iH;rcases pz x with h|h|h<;>rcases pz y with g|g|g<;>rw[h,g]<;>decide
 rw[s]
 by_cases f:x.sign*y.sign>=0
 ·rw[if_pos (by simpa using f),ac2,aj5,add_eq (cD _) (cD _) (by omega) (by omega),aj5,bD,bD];have t:((x.natAbs:Int)+y.natAbs).toNat=(x+y).natAbs:=by
   rcases o with⟨a,b,c⟩|⟨a,b,c⟩|⟨a,b⟩<;>rcases p with⟨d,e,i⟩|⟨d,e,i⟩|⟨d,e⟩<;>first|omega|(rw[a,d]at f;exact absurd f (by decide))
  rw[t,rn (x:=x+y) rfl ?_ (fun _=>by show Ln (x+y)<=_;omega),aj5,nK,aj5];intro q;rcases o with⟨a,b,c⟩|⟨a,b,c⟩|⟨a,b⟩<;>rcases p with⟨d,e,i⟩|⟨d,e,i⟩|⟨d,e⟩<;>(try (rw[a,d]at f;exact absurd f (by decide)))<;>rw[a,d]
  ·rw[if_pos (by decide),ala (by omega)]
  ·rw[if_pos (by decide),ala (by omega)]
  ·rw[if_pos (by decide),alb (by omega)]
  ·rw[if_pos (by decide),alb (by omega)]
  ·rw[if_neg (by decide),ala (by omega)]
  ·rw[if_neg (by decide),alb (by omega)]
  ·omega
 ·rw[if_neg (by simpa using f),zw (by unfold Fit;omega) (by unfold Fit;omega),aj5];have j:x.sign=1∧y.sign = -1∧0<x∧y<0∨x.sign = -1∧y.sign=1∧x<0∧0<y:=by
   rcases o with⟨a,b,c⟩|⟨a,b,c⟩|⟨a,b⟩<;>rcases p with⟨d,e,i⟩|⟨d,e,i⟩|⟨d,e⟩<;>first|exact .inl ⟨a,d,c,i⟩|exact .inr ⟨a,d,c,i⟩|(rw[a,d]at f;exact absurd (by decide) f)
  by_cases u:x.natAbs<y.natAbs
  ·have:jI (x.natAbs:Int) y.natAbs<0:=by unfold jI;rw[if_pos (by omega)];decide
   rw[if_pos (by simpa using this),sub_eq (cD _) (cD _) (by unfold Fit;omega) (cJ (by omega)) (by rw[bD,bD];omega),aj5,bD,bD];rw[rn (x:=x+y) (by omega) ?_ (fun _=>by rw[show ((y.natAbs:Int)-x.natAbs).toNat=(x+y).natAbs by omega];show Ln (x+y)<=_;omega),aj5,nK,aj5];intro q;rcases j with⟨a,d,b,e⟩|⟨a,d,b,e⟩
   ·rw[d,alb (by omega)]
   ·rw[d,ala (by omega)]
  ·have:¬jI (x.natAbs:Int) y.natAbs<0:=by unfold jI;rw[if_neg (by omega)];split<;>decide
   rw[if_neg (by simpa using this),sub_eq (cD _) (cD _) (by unfold Fit;omega) (cJ (by omega)) (by rw[bD,bD];omega),aj5,bD,bD];rw[rn (x:=x+y) (by omega) ?_ (fun _=>by rw[show ((x.natAbs:Int)-y.natAbs).toNat=(x+y).natAbs by omega];show Ln (x+y)<=_;omega),aj5,nK,aj5];intro q;rcases j with⟨a,d,b,e⟩|⟨a,d,b,e⟩
   ·rw[a,ala (by omega)]
   ·rw[a,alb (by omega)]
def ad0 {x y:Int} (j:Ln x<=er) (k:Ln y<=er):yr (eB x) (eB y)=some (eB (x*y),0):=by
 have l:er=4398046511104:=rfl;have e:=kO x y;unfold yr;rw[jd (by omega),aj5];simp only[ajW,ai1,if_false];rw[jd (by omega),aj5,aj5];simp only[ajW,ai1,if_false];have a:(eB x).aa=aQ x.natAbs:=rfl;have b:(eB y).aa=aQ y.natAbs:=rfl;have c:(eB x).ak=x.sign:=rfl;have d:(eB y).ak=y.sign:=rfl;rw[a,b,c,d];have m:(aQ x.natAbs).length<=4398046511104:=by show Ln x<=_;omega
 have n:(aQ y.natAbs).length<=4398046511104:=by show Ln y<=_;omega
 have f:i64.wrap (x.sign*y.sign)=(x*y).sign:=by
  rw[Int.sign_mul];apply iH;rcases pz x with h|h|h<;>rcases pz y with g|g|g<;>rw[h,g]<;>decide
 rw[f,mul_eq (cD _) (cD _) (by omega),aj5,bD,bD];have i:((x.natAbs:Int)*y.natAbs).toNat=(x*y).natAbs:=by rw[ak8,<- ajr];rfl
 rw[i,rn (x:=x*y) rfl (fun _=>rfl) (fun _=>by show Ln (x*y)<=_;omega),aj5,nK,aj5]
def ou {x y:Int} (a:Ln x<=er) (b:Ln y<=er):cB (eB x) (eB y)=some (eB (x*y)):=by
 unfold cB;rw[ad0 a b];rfl
def Yf {x y:Int} (o:Ln x<=er) (p:Ln y<=er) (g:0<y) (k:y∣x):qz (eB x) (eB y)=some (eB (x / y),eB 0,0):=by
 have q:er=4398046511104:=rfl;unfold qz;rw[jd (by omega),aj5];simp only[ajW,ai1,if_false];rw[jd (by omega),aj5,aj5];simp only[ajW,ai1,if_false];have a:(eB x).aa=aQ x.natAbs:=rfl;have b:(eB y).aa=aQ y.natAbs:=rfl;have c:(eB x).ak=x.sign:=rfl;have d:(eB y).ak=1:=ala g;rw[a,b,c,d];have r:(aQ x.natAbs).length<=4398046511104:=by show Ln x<=_;omega
 have s:(aQ y.natAbs).length<=4398046511104:=by show Ln y<=_;omega
 have l:=cJ (Nat.div_le_self x.natAbs y.natAbs);obtain⟨z,rfl⟩:=k;have e:y*z / y=z:=Int.mul_ediv_cancel_left _ (by omega);have i:(y*z).natAbs=y.natAbs*z.natAbs:=ak8 _ _;have j:(y*z).natAbs / y.natAbs=z.natAbs:=by rw[i,Nat.mul_div_cancel_left _ (by omega)]
 have m:(y*z).natAbs % y.natAbs=0:=by rw[i,Nat.mul_mod_right]
 have f:(y*z).sign=z.sign:=by rw[Int.sign_mul,ala g,ak4]
 rw[if_neg (by decide),div_eq (by omega) (by omega) (by omega),aj5,akM,f,iH (x:=z.sign) (by have:=pz z;omega),e,j,m,cW];rw[j]at l;have n:(if decide (z.sign<0)=true then some (decide ((([]:List Int).length:Int)>0)) else some false)=some false:=by split<;>rfl
 simp only[n,Option.bind_some,ai1,if_false];rw[rn (x:=z) rfl (fun _=>rfl) (fun _=>by omega),aj5];have:dz z.sign []=some (eB 0):=uz 0 (by simp[Fit]) Dg.nil rfl (fun h=>absurd rfl h);rw[this,aj5]
def lg (n:Nat):Nat:=if n=0 then 0 else n.log2+1
def adC {r x:Nat} (h:2*r<x):lg r<lg x:=by
 unfold lg;rw[if_neg (show x≠0 by omega)]
 by_cases a:r=0
 ·rw[if_pos a];omega
 ·rw[if_neg a];have b:=Nat.log2_self_le a;have c:=@Nat.lt_log2_self x;have:2 ^ (r.log2+1)<2 ^ (x.log2+1):=by rw[Nat.pow_succ];omega
  have:=(Nat.pow_lt_pow_iff_right (by decide:1<2)).1 this;omega
def Vu {n k:Nat} (h:(n:Int)<pw k):lg n<=20*k:=by
 unfold lg
 by_cases a:n=0
 ·rw[if_pos a];omega
 ·rw[if_neg a];have:n<2 ^ (20*k):=by
   have:pw k=((2 ^ (20*k):Nat):Int):=by
    unfold pw;rw[Nat.pow_mul,Int.natCast_pow];rfl
   omega
  have:=(Nat.log2_lt a).2 this;omega
def ZQ {a b:Nat} (j:(aQ a).length<=kv) (k:(aQ b).length<=kv):aS rD (aQ a,aQ b)=some (aQ (Nat.gcd a b)):=by
 have q:kv=17592186043904:=rfl;have key:∃r,aS rD (aQ a,aQ b)=some r∧r=aQ (Nat.gcd a b):=by
  have t:=Vu (gB a);have u:=Vu (gB b)
  let c:List Int->Nat:=fun l=>(dv l).toNat
  have d:∀n,c (aQ n)=n:=fun n=>by show (dv (aQ n)).toNat=n;rw[bD];rfl
  refine sa (I:=fun (s:List Int×List Int)=>∃x y,s=(aQ x,aQ y)∧Nat.gcd x y=Nat.gcd a b∧(aQ x).length<=kv∧(aQ y).length<=kv)
   (μ:=fun (s:List Int×List Int)=>lg (c s.1)+lg (c s.2)+(if c s.1<c s.2 then 1 else 0)) _ ⟨a,b,rfl,rfl,j,k⟩ (by simp only[d];unfold FU;split<;>omega) ?_
  rintro _ ⟨x,y,rfl,g,v,m⟩;simp only[rD]
  by_cases h0:y=0
  ·right;subst h0;refine⟨_,by rw[cW,if_neg (by simp)],?_⟩;rw[<- g,alc]
  ·left;have f:0<(aQ y).length:=akq.2 (fun h=>h0 (uf.1 h));rw[if_pos (by simpa using f),div_eq h0 (by omega) (by omega),aj5];have o:=ajm x (ald h0);refine⟨_,rfl,⟨y,x % y,rfl,?_,m,?_⟩,?_⟩
   ·rw[<- g,Nat.gcd_comm y,<- Nat.gcd_rec,Nat.gcd_comm]
   ·have:=cJ (Nat.mod_le x y);omega
   ·simp only[d];rw[if_neg (by omega)]
    by_cases e:x<y
    ·rw[if_pos e,ajo e];omega
    ·rw[if_neg e];have:lg (x % y)<lg x:=by
      apply adC;have i:=akI x y;have p:1<=x / y:=(Nat.one_le_div_iff (by omega)).2 (by omega);have w:y*1<=y*(x / y):=Nat.mul_le_mul_left _ p;omega
     omega
 obtain⟨r,i,rfl⟩:=key;exact i
def Yh {x y:Int} (e:Ln x<=kv) (f:Ln y<=kv):sR (eB x) (eB y)=some (eB (Int.gcd x y),0):=by
 have g:kv=17592186043904:=rfl;unfold sR;rw[jd (by omega),aj5];simp only[ajW,ai1,if_false];rw[jd (by omega),aj5,aj5];simp only[ajW,ai1,if_false];have a:(eB x).aa=aQ x.natAbs:=rfl;have b:(eB y).aa=aQ y.natAbs:=rfl;rw[a,b];have d:(aQ x.natAbs).length<=17592186043904:=by show Ln x<=_;omega
 have i:(aQ y.natAbs).length<=17592186043904:=by show Ln y<=_;omega
 have j:(aQ (Nat.gcd x.natAbs y.natAbs)).length<=17592186043904:=by
  by_cases h:y.natAbs=0
  ·rw[h,alc];exact d
  ·have:=cJ (ale x.natAbs (ald h));omega
 rw[wS (by unfold Fit;omega),aj5,ZQ (by omega) (by omega),aj5,wS (by unfold Fit;omega),aj5];have c:Nat.gcd x.natAbs y.natAbs=((Int.gcd x y:Nat):Int).natAbs:=rfl;rw[rn (x:=(Int.gcd x y:Int)) c ?_ (fun _=>by omega),aj5,nK,aj5];intro h;rw[ala (by omega)]
def R1 {x y:Int} (n:Ln x<=er) (o:Ln y<=er):mY (eB x) (eB y)=some (jI x y):=by
 have p:er=4398046511104:=rfl;unfold mY;rw[jd (by omega),aj5];simp only[ajW,ai1,if_false];rw[jd (by omega),aj5,aj5];simp only[ajW,ai1,if_false];have f:(eB x).aa=aQ x.natAbs:=rfl;have g:(eB y).aa=aQ y.natAbs:=rfl;have i:(eB x).ak=x.sign:=rfl;have j:(eB y).ak=y.sign:=rfl;rw[f,g,i,j];have q:(aQ x.natAbs).length<=4398046511104:=by show Ln x<=_;omega
 have r:(aQ y.natAbs).length<=4398046511104:=by show Ln y<=_;omega
 by_cases h:x.sign=y.sign
 ·rw[if_neg (by simpa using h),zw (by unfold Fit;omega) (by unfold Fit;omega),aj5];have m:∀s:Int,s = -1∨s=0∨s=1->∀c:Int,c = -1∨c=0∨c=1->i64.wrap (s*c)=s*c:=by
   rintro s (rfl|rfl|rfl) c (rfl|rfl|rfl)<;>exact iH (by decide)
  have k:∀a b:Int,jI a b = -1∨jI a b=0∨jI a b=1:=by
   intro a b;unfold jI;split
   ·simp
   ·split<;>simp
  rw[m _ (pz x) _ (k _ _)];congr 1;unfold jI;rcases fF x with⟨a,b,c⟩|⟨a,b,c⟩|⟨a,b⟩<;>rcases fF y with⟨d,e,l⟩|⟨d,e,l⟩|⟨d,e⟩<;>(try (rw[a,d]at h;exact absurd h (by decide)))<;>rw[a]<;>split<;>(try split)<;>(try split)<;>(try split)<;>omega
 ·rw[if_pos (by simpa using h),BQ,aj5];congr 1;unfold jI;rcases fF x with⟨a,b,c⟩|⟨a,b,c⟩|⟨a,b⟩<;>rcases fF y with⟨d,e,l⟩|⟨d,e,l⟩|⟨d,e⟩<;>(try (exact absurd (a.trans d.symm) h))<;>rw[a,d]<;>split<;>(try split)<;>(try split)<;>(try split)<;>omega
def Wr (x:Int):IntKind.u64.wrap x=x % 18446744073709551616:=by
 unfold IntKind.wrap;simp only[IntKind.bits,IntKind.signed,akA,ai1,if_false];rfl
def wu {x:Int} (h:0<=x∧x<18446744073709551616):IntKind.u64.wrap x=x:=by rw[Wr];omega
def WA {x:Int} (h:0<=x∧x<18446744073709551616):ma .and .u64 x 1048575=x % 1048576:=by
 unfold ma;simp only;have a:(BitVec.ofInt IntKind.u64.bits x &&& BitVec.ofInt IntKind.u64.bits 1048575).toNat=((x % 18446744073709551616).toNat) % 1048576:=by
  rw[BitVec.toNat_and,BitVec.toNat_ofInt,BitVec.toNat_ofInt];have e:((1048575:Int) % ((2 ^ IntKind.u64.bits:Nat):Int)).toNat=2 ^ 20-1:=by decide
  rw[e,akR];rfl
 rw[a,wu (by omega)];omega
def aeL (x:Int):Aq .u64 x 20=some (x / 1048576):=by
 unfold Aq;rw[if_neg (by decide)];have e:(2:Int) ^ (min (Int.toNat 20) IntKind.u64.bits)=1048576:=by decide
 rw[e,akS _ (by decide)]
def pw4:pw 4=1208925819614629174706176:=by decide
def acy {n:Nat} (o:n<18446744073709551616):∃l,aS yt ((n:Int),[])=some l∧Dg l∧dv l=n∧l.length<=5:=by
 refine sa (I:=fun (s:Int×List Int)=>0<=s.1∧Dg s.2∧dv s.2+pw s.2.length*s.1=n∧s.2.length<=5∧(s.1=0∨s.2.length<5)) (μ:=fun (s:Int×List Int)=>s.1.toNat) _ ⟨by simp,Dg.nil,by simp[dv,py],by simp,by simp⟩ (by simp only[Int.toNat_natCast];unfold FU;omega) ?_;rintro⟨u,l⟩ ⟨b,a,c,d,e⟩;simp only at b a c d e;have p:=oW l.length;have f:=df a;have q:u<=n:=by
  have:1*u<=pw l.length*u:=ak5 (by omega) b;omega
 simp only[yt]
 by_cases g:u>0
 ·left;have i:l.length<5:=by omega
  have j:l.length<4:=by
   rcases ajc l.length 4 with h|h
   ·exact h
   ·have k:l.length=4:=by omega
    rw[k,pw4]at c;omega
  have m:i64.wrap (u % 1048576)=u % 1048576:=iH (by omega);rw[if_pos (by simpa using g),WA ⟨b,by omega⟩,m,yU (by simp;omega),aj5,aeL,aj5];refine⟨_,rfl,⟨by simp only;omega,a.append (Dg.mk (by omega) Dg.nil),?_,by simp;omega,by right;simp;omega⟩,by simp only;omega⟩;simp only[gV,dv,ajB,List.length_cons,List.length_nil,ak3,ak7,ajf];have:=xE l.length u;omega
 ·right;have:u=0:=by omega
  subst this;refine⟨l,by rw[if_neg (by simp)],a,?_,d⟩;rw[ak3]at c;omega
def Up {x:Int} (h : -9223372036854775808<=x∧x<9223372036854775808):uW x=some (eB x):=by
 have b:(if decide (x<0)=true then some ((-1:Int),IntKind.u64.wrap (0-(IntKind.u64.wrap x))) else some (1,IntKind.u64.wrap x))=some (if x<0 then -1 else 1,((x.natAbs:Nat):Int)):=by
  by_cases a:x<0
  ·rw[if_pos (by simpa using a),if_pos a,Wr,Wr];congr 2;omega
  ·rw[if_neg (by simpa using a),if_neg a,Wr];congr 2;omega
 obtain⟨l,c,d,e,f⟩:=acy (n:=x.natAbs) (by omega);unfold uW;rw[b,aj5];simp only;rw[c,aj5,pR];refine uz x (by unfold Fit;omega) d e (fun g =>?_);split
 ·rw[alb (by omega)]
 ·rw[ala (by omega)]
def ahN {d:Int} {i:Nat} (a:i<=3) (c:0<=d∧d<1048576) (b:i=3->d<=8):Iu .u64 (IntKind.u64.wrap d) (i64.wrap (20*(i:Int)))=some (pw i*d):=by
 rw[wu (by omega),iH (by omega)];unfold Iu;rw[if_neg (by omega)];have e:(2:Int) ^ (min (20*(i:Int)).toNat IntKind.u64.bits)=pw i:=by
  have:∀i:Nat,i<=3->(2:Int) ^ (min (20*(i:Int)).toNat IntKind.u64.bits)=pw i:=by decide
  exact this i a
 rw[e,wu,akL];rcases (show i=0∨i=1∨i=2∨i=3 by omega) with rfl|rfl|rfl|rfl
 ·rw[show pw 0=1 by decide];omega
 ·rw[show pw 1=1048576 by decide];omega
 ·rw[show pw 2=1099511627776 by decide];omega
 ·rw[show pw 3=1152921504606846976 by decide];have:=b rfl;omega
def afZ {u d:Int} {i:Nat} (c:i<=3) (l:0<=u∧u<pw i) (f:0<=d∧pw i*d<9223372036854775809):ma .or .u64 u (pw i*d)=u+pw i*d:=by
 have m:=oW i;have b:0<=pw i*d:=akZ (by omega) f.1;have a:pw i=((2 ^ (20*i):Nat):Int):=by unfold pw;rw[Nat.pow_mul,Int.natCast_pow];rfl
 have g:pw i<=1152921504606846976:=by
  have:=tj c
  rwa [show pw 3=1152921504606846976 by decide]at this
 unfold ma;simp only;have h:(BitVec.ofInt IntKind.u64.bits u ||| BitVec.ofInt IntKind.u64.bits (pw i*d)).toNat=(u+pw i*d).toNat:=by
  rw[BitVec.toNat_or,BitVec.toNat_ofInt,BitVec.toNat_ofInt];have e:((2 ^ IntKind.u64.bits:Nat):Int)=18446744073709551616:=by decide
  rw[e];have j:(u % 18446744073709551616).toNat=u.toNat:=by omega
  have k:((pw i*d) % 18446744073709551616).toNat=d.toNat <<< (20*i):=by
   rw[Nat.shiftLeft_eq,Int.emod_eq_of_lt b (by omega),a];have:d=(d.toNat:Int):=by omega
   rw[this,<- ajr,ajs,ajs,ajq]
  rw[j,k,Nat.or_comm,<- Nat.shiftLeft_add_eq_or_of_lt (by omega),Nat.shiftLeft_eq];have:pw i*d=((d.toNat*2 ^ (20*i):Nat):Int):=by
   rw[a,ajr,akL];congr 1;omega
  omega
 rw[h,wu (by omega)];omega
def aeB {g:Nat} (h:(aQ g).length<=kv):ui (eB g)=some (decide (g=1)):=by
 have C:kv=17592186043904:=rfl;have e:(eB (g:Int)).aa=aQ g:=rfl;have l:Ln (g:Int)=(aQ g).length:=rfl;unfold ui;have b:g=1->(aQ g).length<=4:=by
  rintro rfl;exact ait (iW (k:=1) (by decide)) (by decide)
 suffices t:∃r,yp (eB g)=some r∧((if r.2=true then some (r.1==1) else some false)=some (decide (g=1))) by
  obtain⟨r,d,c⟩:=t;rw[d,aj5,c]
 unfold yp;rw[jd (by rw[l];omega),aj5];simp only[ajW,ai1,if_false,Option.bind_some,e]
 by_cases D:(aQ g).length>4
 ·rw[if_pos (by simp;omega)];refine⟨_,rfl,?_⟩;have:g≠1:=fun v=>by have:=b v;omega
  simp[this]
 rw[if_neg (by simp;omega)];have key:∃r,aS (uV (eB g)) (0,0)=some r∧(match r with | .inl u=>u=(g:Int) | .inr x=>x=(0,false)∧g≠1):=by
  refine cO (I:=fun i s=>s.2=(i:Int)∧s.1=dv ((aQ g).take i)) (aQ g).length _ ⟨rfl,rfl⟩ (jz (by omega)) ?_;rintro i ⟨u,s⟩ w ⟨d,c⟩;simp only at d c;subst d c;simp only[uV,e];have f:=(cD g).take i;have m:=df f;have j:=ql f;rw[aiK,ajF w]at j
  by_cases a:i<(aQ g).length
  ·have gd:=(cD g).get a;rw[if_pos (by simpa using a),cu a,aj5];have y:(if ((i:Int)==3)=true then some (decide ((aQ g)[i]>8)) else some false)=some (decide (i=3∧(aQ g)[i]>8)):=by
    by_cases p:i=3
    ·subst p;simp
    ·rw[if_neg (by simp;omega)];simp[p]
   rw[y,aj5]
   by_cases q:i=3∧(aQ g)[i]>8
   ·right;rw[if_pos (by simpa using q)];refine⟨.inr (0,false),rfl,rfl,?_⟩;rintro rfl;have:=iW (n:=1) (k:=1) (by decide);omega
   ·left;rw[if_neg (by simpa using q),ahN (by omega) gd (by omega),aj5];have z:pw i*(aQ g)[i]<9223372036854775809:=by
     rcases (show i=0∨i=1∨i=2∨i=3 by omega) with h|h|h|h
     ·have:pw i=1:=by rw[h];decide
      rw[this];omega
     ·have:pw i=1048576:=by rw[h];decide
      rw[this];omega
     ·have:pw i=1099511627776:=by rw[h];decide
      rw[this];omega
     ·have:pw i=1152921504606846976:=by rw[h];decide
      rw[this];omega
    rw[afZ (by omega) ⟨m,j⟩ ⟨gd.1,z⟩];exact⟨a,_,rfl,by rw[iH (by omega)];omega,by rw[gH a]⟩
  ·right;have:i=(aQ g).length:=by omega
   subst this;exact⟨.inl (dv ((aQ g).take (aQ g).length)),by rw[if_neg (by simp)],by rw[akD,bD]⟩
 obtain⟨r,d,c⟩:=key;rw[d,aj5];cases r with
 | inr x=>obtain⟨rfl,h⟩:=c;exact⟨_,rfl,by simp[h]⟩
 | inl u =>
  simp only at c;subst c;have A:(eB (g:Int)).ak=(g:Int).sign:=rfl;have B:¬(g:Int).sign<0:=by have:=fF (g:Int);omega
  simp only[A];rw[if_neg (by simp),aj5,if_neg (by simp),if_pos (by simp)]
  by_cases o:(g:Int)<9223372036854775808
  ·rw[if_pos (by simpa using o)];refine⟨_,rfl,?_⟩;simp only[if_true];rw[wrap64 (by omega) o];congr 1
   by_cases h:g=1
   ·subst h;rfl
   ·have:¬((g:Int)=1):=by omega
    simp[h,this]
  ·rw[if_neg (by simpa using o)];have:g≠1:=by omega
   exact⟨_,rfl,by simp[this]⟩
def cj (q:Rat):al:=al.mk (eB q.num) (eB q.den)
def LF (q:Rat):Nat:=max (Ln q.num) (Ln q.den)
def Bd {p q:Rat} (h:cj p=cj q):p=q:=by
 unfold cj at h;simp only[al.mk.injEq]at h;have a:=Mj h.1;have b:=Mj h.2;exact Rat.ext a (by omega)
def okF (f:al):Bool:=okB f.bK&&okB f.bL&&(f.bL.ak==1)&&decide (Nat.gcd (dv f.bK.aa).toNat (dv f.bL.aa).toNat=1)
def Bi {f:al} : okF f=true↔∃q,f=cj q:=by
 obtain⟨p,q⟩:=f;unfold okF;simp only[ai2,beq_iff_eq,decide_eq_true_eq];constructor
 ·rintro⟨⟨⟨i,j⟩,k⟩,h⟩;obtain⟨x,rfl⟩:=vA.1 i;obtain⟨y,rfl⟩:=vA.1 j;have l:0<y:=by
   have:y.sign=1:=k;rcases fF y with⟨a,b,c⟩|⟨a,b,c⟩|⟨a,b⟩<;>omega
  have d:(dv (eB x).aa).toNat=x.natAbs:=by show (dv (aQ _)).toNat=_;rw[bD];rfl
  have e:(dv (eB y).aa).toNat=y.natAbs:=by show (dv (aQ _)).toNat=_;rw[bD];rfl
  rw[d,e]at h;refine⟨⟨x,y.natAbs,by omega,h⟩,?_⟩;unfold cj;simp only;congr 2;omega
 ·rintro⟨q,g⟩;unfold cj at g;simp only[al.mk.injEq]at g;obtain⟨rfl,rfl⟩:=g;have m:=q.den_pos;refine⟨⟨⟨Mn _,Mn _⟩,ala (by omega)⟩,?_⟩;have d:(dv (eB q.num).aa).toNat=q.num.natAbs:=by show (dv (aQ _)).toNat=_;rw[bD];rfl
  have e:(dv (eB (q.den:Int)).aa).toNat=q.den:=by show (dv (aQ _)).toNat=_;rw[bD];rfl
  rw[d,e];exact q.reduced
def Mo (q:Rat):okF (cj q)=true:=Bi.2 ⟨q,rfl⟩
def Nn (f:al):Prop:=f.bK.aa.length<=kv∧f.bL.aa.length<=kv
def abG {q:Rat} (h:LF q<=er):Nn (cj q):=by
 unfold LF at h;exact⟨ua (show Ln q.num<=_ by omega),ua (show Ln q.den<=_ by omega)⟩
def AD {f:al} (e:Nn f):cQ f=some (okF f):=by
 have l:kv=17592186043904:=rfl;obtain⟨p,q⟩:=f;simp only[Nn]at e;unfold cQ okF;rw[Hk (show Fit p.aa by unfold Fit;omega),aj5]
 by_cases g:okB p=true
 ·simp only[g,ajW,ai1,if_false,ajX];rw[Hk (show Fit q.aa by unfold Fit;omega),aj5]
  by_cases h:okB q=true
  ·simp only[h,ajW,ai1,if_false,ajX,Option.bind_some]
   by_cases d:q.ak=1
   ·rw[if_neg (by simp[d])];obtain⟨x,rfl⟩:=vA.1 g;obtain⟨y,rfl⟩:=vA.1 h;rw[Yh e.1 e.2,aj5];simp only[beq_self_eq_true,if_true];have i:(dv (eB x).aa).toNat=x.natAbs:=by show (dv (aQ _)).toNat=_;rw[bD];rfl
    have j:(dv (eB y).aa).toNat=y.natAbs:=by show (dv (aQ _)).toNat=_;rw[bD];rfl
    rw[aeB,aj5,i,j]
    ·rw[d];rfl
    ·have k:0<y.natAbs:=by
      have:y.sign=1:=d;rcases fF y with⟨a,b,c⟩|⟨a,b,c⟩|⟨a,b⟩<;>omega
     have:=cJ (ale x.natAbs k);have m:(aQ y.natAbs).length<=kv:=e.2;show (aQ (Nat.gcd x.natAbs y.natAbs)).length<=_;omega
   ·rw[if_pos (by simpa using d)];simp[d]
  ·simp only[h,alf,if_true,Option.bind_some,akA]
 ·simp only[g,alf,if_true,Option.bind_some,akA]
def kP {q:Rat} (h:LF q<=er):cQ (cj q)=some true:=by rw[AD (abG h),Mo]
def Lq {p q:Int} (f:Ln p<=er) (e:Ln q<=er) (h:q≠0):nQ (eB p) (eB q)=some (cj (Rat.divInt p q),0):=by
 have n:er=4398046511104:=rfl;have d:∀ {p q:Int},Ln p<=er->Ln q<=er->0<q ->
   ((sR (eB p) (eB q)).bind fun j=>(qz (eB p) j.1).bind fun k=>(qz (eB q) j.1).bind fun l=>some ((al.mk k.1 l.1),(0:Int)))=some (cj (Rat.divInt p q),0):=by
  intro p q f e h;have o:0<Int.gcd p q:=Int.gcd_pos_of_ne_zero_right _ (by omega);have g:Ln (Int.gcd p q:Int)<=er:=by
   have:=cJ (ale p.natAbs (show 0<q.natAbs by omega));show (aQ (Nat.gcd p.natAbs q.natAbs)).length<=_;have r:(aQ q.natAbs).length<=er:=e;omega
  rw[Yh (ua f) (ua e),aj5];simp only;rw[Yf f g (by omega) (Int.gcd_dvd_left ..),aj5,Yf e g (by omega) (Int.gcd_dvd_right ..),aj5];have m:((q.natAbs / Int.gcd p q:Nat):Int)=q / (Int.gcd p q:Int):=by
   rw[Int.natCast_ediv];congr 1;omega
  unfold cj;rw[Rat.num_divInt,Rat.den_divInt,if_neg (by omega),ala h,ak4,Int.gcd_comm q p,m]
 unfold nQ;rw[jd (by omega),aj5];simp only[ajW,ai1,if_false];rw[jd (by omega),aj5,aj5];simp only[ajW,ai1,if_false];have i:(eB q).ak=q.sign:=rfl;rw[i];rcases fF q with⟨a,b,c⟩|⟨a,b,c⟩|⟨a,b⟩
 ·rw[if_neg (by rw[a];decide),if_neg (by rw[a];decide),aj5];exact d f e c
 ·rw[if_neg (by rw[a];decide),if_pos (by rw[a];decide),R7 f,aj5,R7 e,aj5,aj5];have:=d (p := -p) (q := -q) (by rw[EC];exact f) (by rw[EC];exact e) (by omega);rw[Rat.neg_divInt_neg]at this;exact this
 ·exact absurd b h
def mJ (q:Rat):Ln q.num<=LF q:=by unfold LF;omega
def nH (q:Rat):Ln q.den<=LF q:=by unfold LF;omega
def yl {p q:Int} (d:q≠0):LF (Rat.divInt p q)<=max (Ln p) (Ln q):=by
 have g:0<Int.gcd q p:=Int.gcd_pos_of_ne_zero_left _ d;have h:Ln (Rat.divInt p q).num<=Ln p:=by
  apply Uo;rw[Rat.num_divInt];obtain⟨z,e⟩:(Int.gcd q p:Int)∣q.sign*p:=Int.dvd_mul_of_dvd_right (Int.gcd_dvd_right ..);rw[e,Int.mul_ediv_cancel_left _ (by omega)];have f:(q.sign*p).natAbs=p.natAbs:=by
   rw[ak8];have:q.sign.natAbs=1:=by
    rcases fF q with⟨a,b,c⟩|⟨a,b,c⟩|⟨a,b⟩
    ·rw[a];rfl
    ·rw[a];rfl
    ·exact absurd b d
   rw[this,Nat.one_mul]
  rw[<- f,e,ak8];exact Nat.le_mul_of_pos_left _ (by omega)
 have f:Ln ((Rat.divInt p q).den:Int)<=Ln q:=by
  apply Uo;rw[Rat.den_divInt,if_neg d];exact Nat.div_le_self _ _
 unfold LF;omega
def Ug {a b:Rat} (h:LF a+LF b+1<=er):me (cj a) (cj b)=some (cj (a+b),0):=by
 have d:=mJ a;have e:=mJ b;have d1:=nH a;have d2:=nH b;have f:=kO a.num b.den;have g:=kO b.num a.den;have i:=kO a.den b.den;have j:=R6 (a.num*b.den) (b.num*a.den);unfold me;rw[kP (by omega),aj5];simp only[ajW,ai1,if_false];rw[kP (by omega),aj5,aj5];simp only[ajW,ai1,if_false];show (cB (eB a.num) (eB b.den)).bind _=_;rw[ou (by omega) (by omega),aj5];show (cB (eB b.num) (eB a.den)).bind _=_;rw[ou (by omega) (by omega),aj5,adZ (by omega) (by omega),aj5];show (cB (eB a.den) (eB b.den)).bind _=_;have c:(a.den:Int)*b.den≠0:=by
  rw[<- ajr];have:=akH a.den_pos b.den_pos;omega
 rw[ou (by omega) (by omega),aj5,Lq (by omega) (by omega) c,aj5];rw[Rat.add_def',<- Rat.divInt_ofNat,ajr]
def wJ (a b:Rat):LF (a+b)<=LF a+LF b+1:=by
 have d:=mJ a;have e:=mJ b;have d1:=nH a;have d2:=nH b;have f:=kO a.num b.den;have g:=kO b.num a.den;have h:=kO a.den b.den;have i:=R6 (a.num*b.den) (b.num*a.den);have c:(a.den:Int)*b.den≠0:=by
  rw[<- ajr];have:=akH a.den_pos b.den_pos;omega
 rw[Rat.add_def',<- Rat.divInt_ofNat,ajr];have:=yl (p:=a.num*b.den+b.num*a.den) c;omega
def Yl (a:Rat):LF (-a)=LF a:=by unfold LF;rw[Rat.neg_num,Rat.neg_den,EC]
def R5 (a b:Rat):LF (a-b)<=LF a+LF b+1:=by
 rw[Rat.sub_eq_add_neg];have:=wJ a (-b);rw[Yl]at this;exact this
def ac7 {a b:Rat} (h:LF a+LF b+1<=er):rT (cj a) (cj b)=some (cj (a-b),0):=by
 unfold rT;rw[kP (by omega),aj5];simp only[ajW,ai1,if_false];rw[kP (by omega),aj5,aj5];simp only[ajW,ai1,if_false];show (qA (eB b.num)).bind _=_;have c:=mJ b;rw[R7 (by omega),aj5];have e:al.mk (eB (-b.num)) (cj b).bL=cj (-b):=by unfold cj;rw[Rat.neg_num,Rat.neg_den]
 rw[e,Ug (by rw[Yl];exact h),aj5,Rat.sub_eq_add_neg]
def Yn {a b:Rat} (h:LF a+LF b<=er):pJ (cj a) (cj b)=some (cj (a*b),0):=by
 have d:=mJ a;have e:=mJ b;have d1:=nH a;have d2:=nH b;have f:=kO a.num b.num;have g:=kO a.den b.den;unfold pJ;rw[kP (by omega),aj5];simp only[ajW,ai1,if_false];rw[kP (by omega),aj5,aj5];simp only[ajW,ai1,if_false];show (cB (eB a.num) (eB b.num)).bind _=_;rw[ou (by omega) (by omega),aj5];show (cB (eB a.den) (eB b.den)).bind _=_;have c:(a.den:Int)*b.den≠0:=by
  rw[<- ajr];have:=akH a.den_pos b.den_pos;omega
 rw[ou (by omega) (by omega),aj5,Lq (by omega) (by omega) c,aj5];rw[Rat.mul_def',<- Rat.divInt_ofNat,ajr]
def wK (a b:Rat):LF (a*b)<=LF a+LF b:=by
 have d:=mJ a;have e:=mJ b;have d1:=nH a;have d2:=nH b;have f:=kO a.num b.num;have g:=kO a.den b.den;have c:(a.den:Int)*b.den≠0:=by
  rw[<- ajr];have:=akH a.den_pos b.den_pos;omega
 rw[Rat.mul_def',<- Rat.divInt_ofNat,ajr];have:=yl (p:=a.num*b.num) c;omega
def Fc (a b:Rat):a / b=Rat.divInt (a.num*b.den) (a.den*b.num):=by
 rw[Rat.div_def,Rat.inv_def]
 conv=>lhs;rw[<- Rat.num_divInt_den a]
 rw[Rat.divInt_mul_divInt]
def aff {a b:Rat} (h:LF a+LF b<=er) (h0:b≠0):pI (cj a) (cj b)=some (cj (a / b),0):=by
 have j:=mJ a;have k:=mJ b;have d1:=nH a;have d2:=nH b;have l:=kO a.num b.den;have m:=kO a.den b.num;have f:b.num≠0:=fun g=>h0 (Rat.num_eq_zero.1 g);unfold pI;rw[kP (by omega),aj5];simp only[ajW,ai1,if_false];rw[kP (by omega),aj5,aj5];simp only[ajW,ai1,if_false];have i:(cj b).bK.ak=b.num.sign:=rfl;have e:b.num.sign≠0:=by rcases fF b.num with⟨a,b,c⟩|⟨a,b,c⟩|⟨a,b⟩<;>omega
 rw[i,if_neg (by simpa using e)];show (cB (eB a.num) (eB b.den)).bind _=_;rw[ou (by omega) (by omega),aj5];show (cB (eB a.den) (eB b.num)).bind _=_;have d:(a.den:Int)*b.num≠0:=Int.mul_ne_zero (by have:=a.den_pos;omega) f;rw[ou (by omega) (by omega),aj5,Lq (by omega) (by omega) d,aj5,Fc]
def Yk {a b:Rat} (h0:b≠0):LF (a / b)<=LF a+LF b:=by
 have f:=mJ a;have g:=mJ b;have d1:=nH a;have d2:=nH b;have h:=kO a.num b.den;have i:=kO a.den b.num;have d:b.num≠0:=fun e=>h0 (Rat.num_eq_zero.1 e);have c:(a.den:Int)*b.num≠0:=Int.mul_ne_zero (by have:=a.den_pos;omega) d;rw[Fc];have:=yl (p:=a.num*b.den) c;omega
def Yj {n:Int} (h : -9223372036854775808<=n∧n<9223372036854775808):gC n=some (cj n):=by
 unfold gC;rw[Up h,aj5,Up (by decide),aj5];unfold cj;rw[Rat.num_intCast,Rat.den_intCast];rfl
def BM {n:Int} (h:n.natAbs<1048576):LF (n:Rat)<=1:=by
 unfold LF;rw[Rat.num_intCast,Rat.den_intCast];have a:=ED h;have b:=ED (x:=((1:Nat):Int)) (by decide);omega
def BN {a:Rat} (h:LF a<=er):iM (cj a)=some a.num.sign:=by
 unfold iM;rw[kP h,aj5];rfl
def Fa (a b:Rat):Int:=if a<b then -1 else if b<a then 1 else 0
def abU (a b:Rat):jI (a.num*b.den) (b.num*a.den)=Fa a b:=by
 unfold jI Fa;simp only[Rat.lt_iff]
def BK {a b:Rat} (h:LF a+LF b<=er):fD (cj a) (cj b)=some (Fa a b):=by
 have c:=mJ a;have d:=mJ b;have d1:=nH a;have d2:=nH b;have e:=kO a.num b.den;have f:=kO b.num a.den;unfold fD;rw[kP (by omega),aj5];simp only[ajW,ai1,if_false];rw[kP (by omega),aj5,aj5];simp only[ajW,ai1,if_false];show (cB (eB a.num) (eB b.den)).bind _=_;rw[ou (by omega) (by omega),aj5];show (cB (eB b.num) (eB a.den)).bind _=_;rw[ou (by omega) (by omega),aj5,R1 (by omega) (by omega),aj5,abU]
def Wl {l:List Int} (a:Fit l) (d:Dg l):jc l=some (aQ (dv l).toNat):=by
 have h:=vR a d;obtain⟨r,b,k,rfl,c,_⟩:=La a;unfold eK at h;unfold jc;have e:xK l=mZ l:=rfl;rw[b,aj5,MN c,aj5]at h;rw[e,b,aj5,MN c,aj5,yU (by unfold Fit at a;simp;omega),aj5];exact h
def HG {l:List Int} {n:Nat} (a:Fit l) (b:Dg l) (c:dv l=n):jc l=some (aQ n):=by
 rw[Wl a b,c];rfl
def El {s:Int} {l:List Int} (x:Int) (a:Fit l) (b:Dg l) (c:dv l=x.natAbs) (d:x≠0->s=x.sign):jb s l=some (eB x):=by
 have h:=uz x a b c d;unfold dz at h;rw[vR a b]at h;unfold jb;rw[Wl a b];exact h
def Gl {x:Int} {s:Int} {n:Nat} (a:n=x.natAbs) (b:x≠0->s=x.sign) (c:n≠0->(aQ n).length<=17592186044416):jb s (aQ n)=some (eB x):=by
 subst a;refine El x ?_ (cD _) (bD _) b;unfold Fit
 by_cases h:x.natAbs=0
 ·rw[h,cW];simp
 ·exact c h
def Q1 {s:Int} {l:List Int} (f:Fit l):∃r,aS (qQ ⟨s,l⟩) 0=some r∧(match r with | .inl _=>Dg l | .inr x=>x=false∧¬Dg l):=by
 refine cO (I:=fun i s=>s=(i:Int)∧Dg (l.take i)) l.length _ ⟨rfl,by simpa using Dg.nil⟩ (jz f) ?_;unfold Fit at f;rintro i s h ⟨rfl,b⟩;simp only[qQ]
 by_cases a:i<l.length
 ·rw[if_pos (by simpa using a),cu a,aj5]
  by_cases c:l[i]<0
  ·right;exact⟨.inr false,by rw[if_pos (by simpa using c)],rfl,fun d=>by have:=d.get a;omega⟩
  ·by_cases g:l[i]>=1048576
   ·right;exact⟨.inr false,by rw[if_neg (by simpa using c),if_pos (by simpa using g)],rfl,fun d=>by have:=d.get a;omega⟩
   ·left;refine⟨a,_,by rw[if_neg (by simpa using c),if_neg (by simpa using g)],by rw[iH (by omega)];omega,?_⟩;have e:l.take (i+1)=l.take i++[l[i]]:=by rw[akQ];simp[a]
    rw[e];exact b.append (Dg.mk (by omega) Dg.nil)
 ·right;have:i=l.length:=by omega
  subst this;rw[akD]at b;exact⟨.inl (),by rw[if_neg (by simp)],b⟩
def Tz {b:aF} (j:Fit b.aa):eZ b=some (okB b):=by
 obtain⟨s,l⟩:=b;simp only[Fit]at j;obtain⟨r,c,a⟩:=Q1 (s:=s) (l:=l) j;unfold eZ okB;rw[c,aj5];cases r with
 | inr x =>
  obtain⟨rfl,h⟩:=a;simp[h]
 | inl u =>
  simp only at a ⊢;simp only[a,decide_true,ajX]
  by_cases g:l=[]
  ·subst g
   by_cases d:s=0
   ·subst d;simp
   ·have:(s==0)=false:=by simpa using d
    simp only[List.length_nil,List.getLast?_nil,this];split<;>(try split)<;>simp
  ·have m:0<l.length:=akq.2 g;have e:i64.wrap ((l.length:Int)-1)=((l.length-1:Nat):Int):=by rw[iH (by omega)];omega
   have i:((l.length:Int)==0)=false:=by simpa using g
   rw[e,cu (by omega),ak9 g,List.getLast_eq_getElem,i];simp only[Option.bind_some,ai1,if_false]
   by_cases k:s < -1
   ·rw[if_pos (by simpa using k)];have c:(s==1)=false:=by simp;omega
    have a:(s == -1)=false:=by simp;omega
    simp[c,a]
   ·rw[if_neg (by simpa using k)]
    by_cases f:s>1
    ·rw[if_pos (by simpa using f)];have c:(s==1)=false:=by simp;omega
     have a:(s == -1)=false:=by simp;omega
     simp[c,a]
    ·rw[if_neg (by simpa using f)];rcases (show s = -1∨s=0∨s=1 by omega) with rfl|rfl|rfl<;>simp
def lN {x:Int} (h:Ln x<=17592186044416):eZ (eB x)=some true:=by
 rw[Tz (show Fit (eB x).aa from h),Mn]
def AN (l:List Int) (i:Nat):jD l (i:Int)=some (gd l i):=by
 unfold jD
 by_cases h:i<l.length
 ·rw[if_pos (by simpa using h),cu h,aj5,OW h]
 ·rw[if_neg (by simpa using h),JX (by omega)]
def RE {a b l0:List Int} {i n:Nat} (z:Dg a) (A:Dg b) (m:i<a.length) (B:Dg l0) (C:l0.length=n) (P:i+b.length<n) (Q:n<=17592186044416) (hz:∀j (d:j<l0.length),i+b.length<=j->l0[j]=0) :
  ∃l,aS (qU a b (i:Int)) (0,0,l0)=some l∧l.length=n∧Dg l∧(∀j (d:j<l.length),i+b.length<j->l[j]=0)∧dv l=dv l0+pw i*(a[i]*dv b):=by
 have D:=z.get m;refine cO (I:=fun k s=>s.2.1=(k:Int)∧s.2.2.length=n∧Dg s.2.2∧(0<=s.1∧s.1<1048576)∧(∀j (d:j<s.2.2.length),i+b.length<=j->i+k<=j->s.2.2[j]=0)∧(k=b.length+1->s.1=0)∧dv s.2.2+pw (i+k)*s.1=dv l0+pw i*(a[i]*dv (b.take k)))
  (b.length+1) _ ⟨rfl,C,B,by simp,fun j d h _=>hz j d h,by omega,by simp[dv]⟩ (jz (by omega)) ?_
 rintro k ⟨c,s,l⟩ R ⟨u,q,p,E,hz,f,v⟩;simp only at u q p E hz f v;subst u;simp only[qU];have F:(if decide ((k:Int)<(b.length:Int))=true then some true else some (decide (c>0)))=some (decide (k<b.length∨c>0)):=by
  by_cases h:k<b.length
  ·rw[if_pos (by simpa using h)];simp[h]
  ·rw[if_neg (by simpa using h)];simp[h]
 rw[F,aj5]
 by_cases g:k<b.length∨c>0
 ·left;have o:k<=b.length:=by
   rcases g with h|h
   ·omega
   ·rcases ajc b.length k with h'|h'
    ·have:=f (by omega);omega
    ·exact h'
  have e:i+k<l.length:=by omega
  have G:i64.wrap ((i:Int)+(k:Int))=((i+k:Nat):Int):=by rw[iH (by omega)];omega
  have w:=JW A k;have S:=p.get e;have H:0<=a[i]*gd b k:=akZ D.1 w.1;have J:a[i]*gd b k<=1048575*1048575:=ak0 (by omega) (by omega) w.1 (by omega);rw[if_pos (by simpa using g),G,cu e,aj5,cu m,aj5,AN,aj5,iH (x:=a[i]*gd b k) (by omega),iH (x:=l[i+k]+a[i]*gd b k) (by omega),iH (x:=l[i+k]+a[i]*gd b k+c) (by omega),aex (by omega) (by omega),aj5,abX (by omega) (by omega) (by omega),aj5];have K:i64.wrap ((k:Int)+1)=((k+1:Nat):Int):=by rw[iH (by omega)];omega
  refine⟨by omega,_,rfl,K,by simpa using q,p.set _ (by omega),by simp only;omega,fun j d r y =>?_,fun L =>?_,?_⟩
  ·simp only[Int.toNat_natCast]at d ⊢;rw[akT (by omega)];exact hz j (by simpa using d) r (by omega)
  ·have M:k=b.length:=by omega
   simp only;rw[JX (by omega),ak3,hz _ e (by omega) (air _)];omega
  ·simp only[Int.toNat_natCast];rw[vd e,sZ];have N:=xE (i+k) (l[i+k]+a[i]*gd b k+c);rw[akO (pw (i+k)),akO (pw (i+k))]at N;have O:pw i*(a[i]*(dv (b.take k)+pw k*gd b k))=pw i*(a[i]*dv (b.take k))+pw (i+k)*(a[i]*gd b k):=by
    rw[akO,akO,Hc];congr 1;rw[ak1 a[i],<- akP]
   rw[O,akU,show i+(k+1)=i+k+1 by omega];omega
 ·right;have o:b.length<=k:=by omega
  have t:c=0:=by omega
  subst t;refine⟨l,by rw[if_neg (by simpa using g)],q,p,fun j d h=>hz j d (by omega) (by omega),?_⟩;rw[z7 o,ak3]at v;omega
def abg {a b:List Int} (r:Dg a) (t:Dg b) (p:a.length+b.length<=17592186044416):ns a b=some (aQ (dv a*dv b).toNat):=by
 have key:∃l,aS (qT a b) (0,List.replicate (a.length+b.length) 0)=some l∧l.length=a.length+b.length∧Dg l∧dv l=dv a*dv b:=by
  refine cO (I:=fun i s=>s.1=(i:Int)∧s.2.length=a.length+b.length∧Dg s.2∧(∀j (f:j<s.2.length),i+b.length<=j->s.2[j]=0)∧dv s.2=dv (a.take i)*dv b)
   a.length _ ⟨rfl,by simp,Dg.rep _,fun j f _=>by simp,by simp[dv,BU]⟩ (jz (by omega)) ?_
  rintro i ⟨s,l⟩ C ⟨d,g,h,q,k⟩;simp only at d g h q k;subst d;simp only[qT]
  by_cases c:i<a.length
  ·left;obtain⟨m,u,v,w,g4,x⟩:=RE (i:=i) (n:=a.length+b.length) r t c h g (by omega) p q;rw[if_pos (by simpa using c),u,aj5];have y:i64.wrap ((i:Int)+1)=((i+1:Nat):Int):=by rw[iH (by omega)];omega
   refine⟨c,_,rfl,y,v,w,fun j f z=>g4 j f (by omega),?_⟩;rw[x,k,gH c,ak2,akP]
  ·right;have o:i=a.length:=by omega
   subst o;refine⟨l,by rw[if_neg (by simp)],g,h,?_⟩;rw[k,akD]
 obtain⟨l,d,D,A,B⟩:=key;unfold ns;have e:i64.wrap ((a.length:Int)+(b.length:Int))=((a.length+b.length:Nat):Int):=by rw[iH (by omega)];omega
 rw[e,mk0 p,aj5,d,aj5,pR,Wl (by unfold Fit;omega) A,B]
def Jr (l:List Int) (i:Nat):dv l=dv (l.take i)+pw i*dv (l.drop i):=by
 by_cases h:i<=l.length
 ·exact ka l h
 ·rw[ajU (by omega),akk (by omega)];simp[dv]
def zy (l:List Int) (i:Nat):dv (l.drop i)=gd l i+1048576*dv (l.drop (i+1)):=by
 by_cases h:i<l.length
 ·rw[lq h,OW h]
 ·rw[akk (by omega),akk (by omega),JX (by omega)];simp[dv]
def Fp {l:List Int} (h:Dg l) (i:Nat):0<=dv (l.take i)∧dv (l.take i)<pw i:=by
 have a:=ql (h.take i);have b:=tj (show (l.take i).length<=i by rw[aiK];omega);exact⟨df (h.take i),by omega⟩
def Zx {a b:List Int} (c:Dg a) (d:Dg b) {k:Nat} (h:dv (a.drop (k+1))=dv (b.drop (k+1))) (e:gd a k<gd b k):dv a<dv b:=by
 have f:=Jr a k;have g:=Jr b k;rw[zy]at f g;have i:=Fp c k;have j:=Fp d k;have l:=oW k;have:pw k*(gd a k+1048576*dv (a.drop (k+1))+1)<=pw k*(gd b k+1048576*dv (b.drop (k+1))):=akN (by omega) (by omega);rw[akO _ _ 1,akM]at this;omega
def adB {a b:List Int} (l:Dg a) (n:Dg b) (f:Fit a) (g:Fit b):so a b=some (decide (dv a<dv b)):=by
 unfold Fit at f g;generalize p:max a.length b.length=m;have em:(if (b.length:Int)>(a.length:Int) then (b.length:Int) else (a.length:Int))=(m:Int):=by split<;>omega
 have key:∃r,aS (tp a b) ((m:Int)-1)=some r∧(match r with | .inl _=>¬dv a<dv b | .inr x=>x=decide (dv a<dv b)):=by
  refine cO (I:=fun i s=>s=((m-i:Nat):Int)-1∧dv (a.drop (m-i))=dv (b.drop (m-i))) m _ ⟨rfl,?_⟩ (jz (by omega)) ?_
  ·rw[akk (by omega),akk (by omega)]
  rintro i s q ⟨rfl,d⟩;generalize t:m-i=k at *;simp only[tp]
  by_cases v:0<k
  ·have o:((k:Int)-1)=((k-1:Nat):Int):=by omega
   rw[o,if_pos (by simp),AN,aj5,AN,aj5];rw[show k=k-1+1 by omega]at d
   by_cases e:gd a (k-1)=gd b (k-1)
   ·left;rw[if_neg (by simpa using e)];refine⟨by omega,_,rfl,by rw[iH (by omega)];omega,?_⟩;rw[show m-(i+1)=k-1 by omega,zy,zy b,e,d]
   ·right;rw[if_pos (by simpa using e)];refine⟨.inr (decide (gd a (k-1)<gd b (k-1))),rfl,?_⟩;rcases Int.lt_or_gt_of_ne e with h|h
    ·have:=Zx l n d h;simp[h,this]
    ·have:=Zx n l d.symm h;have j:¬gd a (k-1)<gd b (k-1):=by omega
     have c:¬dv a<dv b:=by omega
     simp[j,c]
  ·right;have:k=0:=by omega
   subst this;refine⟨.inl (),by rw[if_neg (by simp)],?_⟩;simp only[ajV]at d;omega
 obtain⟨r,j,c⟩:=key;unfold so;rw[em,iH (x:=(m:Int)-1) (by omega),j,aj5];cases r with
 | inl u=>simp only at c ⊢;simp[c]
 | inr x=>simp only at c ⊢;rw[c]
def aet {a b:List Int} (q:Dg a) (r:Dg b) (t:Fit a) (j:b.length<=a.length) (u:dv b<=dv a):oX a b=some (aQ (dv a-dv b).toNat):=by
 unfold Fit at t;have key:∃l,aS (qS a b) (0,0,[])=some l∧l.length=a.length∧Dg l∧dv l=dv a-dv b:=by
  refine cO (I:=fun i s=>s.2.1=(i:Int)∧s.2.2.length=i∧Dg s.2.2∧(0<=s.1∧s.1<=1)∧dv s.2.2+dv (b.take i)=dv (a.take i)+pw i*s.1)
   a.length _ ⟨rfl,rfl,Dg.nil,by simp,by simp[dv]⟩ (jz (by omega)) ?_
  rintro i ⟨c,s,l⟩ z ⟨f,e,g,v,n⟩;simp only at f e g v n;subst f;simp only[qS]
  by_cases d:i<a.length
  ·left;have A:=q.get d;have B:=JW r i;rw[if_pos (by simpa using d),cu d,aj5,AN,aj5,iH (x:=a[i]-gd b i) (by omega),iH (x:=a[i]-gd b i-c) (by omega)];have o:i64.wrap ((i:Int)+1)=((i+1:Nat):Int):=by rw[iH (by omega)];omega
   by_cases p:a[i]-gd b i-c<0
   ·rw[if_pos (by simpa using p),iH (by omega),yU (by simp;omega),aj5];refine⟨d,_,rfl,o,by simp[e],g.append (Dg.mk (by omega) Dg.nil),by simp,?_⟩;simp only;rw[gV,sZ,gH d,e,VT];simp only[dv,ak3,ak7,akM];rw[akO,akU,akU];omega
   ·rw[if_neg (by simpa using p),yU (by simp;omega),aj5];refine⟨d,_,rfl,o,by simp[e],g.append (Dg.mk (by omega) Dg.nil),by simp,?_⟩;simp only;rw[gV,sZ,gH d,e];simp only[dv,ak3,ak7];rw[akU,akU];omega
  ·right;have k:i=a.length:=by omega
   subst k;refine⟨l,by rw[if_neg (by simp)],e,g,?_⟩;rw[z7 j,akD]at n;have f:=ql g;rw[e]at f;have m:c=0:=by
    rcases (show c=0∨c=1 by omega) with h|h
    ·exact h
    ·subst h;omega
   subst m;omega
 obtain⟨l,f,C,w,y⟩:=key;unfold oX;rw[f,aj5,pR,Wl (by unfold Fit;omega) w,y]
def QN {n R:Nat} (o:n≠0) (g:(aQ n).length<=17592186043904) (h:(aQ R).length<=17592186043906) (i:R<1048576*n):aS (pU (aQ n) (aQ R)) (0,1048576)=some ((R / n:Nat):Int):=by
 have key:∃r,aS (pU (aQ n) (aQ R)) (0,1048576)=some r∧r=((R / n:Nat):Int):=by
  refine sa (I:=fun (s:Int×Int)=>∃a b:Nat,s=((a:Int),(b:Int))∧a<b∧b<=1048576∧a*n<=R∧R<b*n) (μ:=fun (s:Int×Int)=>(s.2-s.1).toNat) _ ⟨0,1048576,rfl,by omega,by omega,by omega,i⟩ (by simp only;unfold FU;omega) ?_;rintro _ ⟨a,b,rfl,d,p,e,f⟩;simp only[pU];rw[iH (x:=(b:Int)-a) (by omega)]
  by_cases c:(b:Int)-a>1
  ·left;have em:((a:Int)+b) / 2=(((a+b) / 2:Nat):Int):=by omega
   have j:Dg [(((a+b) / 2:Nat):Int)]:=Dg.mk (by omega) Dg.nil;have k:dv (aQ n)*dv [(((a+b) / 2:Nat):Int)]=((n*((a+b) / 2):Nat):Int):=by rw[bD,ajr];simp[dv]
   rw[if_pos (by simpa using c),iH (x:=(a:Int)+b) (by omega),abX (by omega) (by omega) (by omega),aj5,em,abg (cD n) j (by simp;omega),aj5,k,ajs];have l:(aQ (n*((a+b) / 2))).length<=17592186043905:=by
    have:((n*((a+b) / 2):Nat):Int)<pw ((aQ n).length+1):=by
     rw[js,ajr];have q:=gB n;have:(n:Int)*((a+b) / 2:Nat)<=n*1048576:=akN (by omega) (by omega);omega
    have:=iW this;omega
   rw[adB (cD R) (cD _) (by unfold Fit;omega) (by unfold Fit;omega),aj5,bD,bD]
   by_cases m:R<n*((a+b) / 2)
   ·rw[if_pos (decide_eq_true (by omega))];refine⟨_,rfl,⟨a,(a+b) / 2,rfl,by omega,by omega,e,by rw[ajq];exact m⟩,by simp only;omega⟩
   ·rw[if_neg (by rw[decide_eq_true_eq];omega)];refine⟨_,rfl,⟨(a+b) / 2,b,rfl,by omega,by omega,by rw[ajq];omega,f⟩,by simp only;omega⟩
  ·right;refine⟨_,by rw[if_neg (by simpa using c)],?_⟩;have:b=a+1:=by omega
   subst this;congr 1;have:R / n=a:=by
    apply Nat.div_eq_of_lt_le
    ·exact e
    ·exact f
   exact this.symm
 obtain⟨r,d,rfl⟩:=key;exact d
def adN {m n:Nat} (G:n≠0) (H:(aQ m).length<=17592186043904) (p:(aQ n).length<=17592186043904):sr (aQ m) (aQ n)=some (aQ (m / n),aQ (m % n)):=by
 generalize B:aQ m=a at *;have q:Dg a:=by rw[<- B];exact cD m
 have key:∃r,aS (tq a (aQ n)) ([],(a.length:Int)-1,List.replicate a.length 0)=some r∧r.2.length=a.length∧Dg r.2∧∃R:Nat,r.1=aQ R∧R<n∧dv a=n*dv r.2+R:=by
  refine cO (I:=fun i s=>s.2.1=((a.length-i:Nat):Int)-1∧s.2.2.length=a.length∧Dg s.2.2∧∃R:Nat,s.1=aQ R∧R<n∧dv (a.drop (a.length-i))=n*dv (s.2.2.drop (a.length-i))+R)
   a.length _ ⟨rfl,by simp,Dg.rep _,0,cW.symm,by omega,by simp[dv]⟩ (jz (by omega)) ?_
  rintro i ⟨r,s,l⟩ U ⟨g,t,u,R,h,J,v⟩;simp only at g t u h v;subst g h;generalize V:a.length-i=k at *;simp only[tq]
  by_cases W:0<k
  ·left;have b:k-1<a.length:=by omega
   have d:k-1<l.length:=by omega
   have K:((k:Int)-1)=((k-1:Nat):Int):=by omega
   have L:=q.get b;have M:=cJ (show R<=n by omega);have w:Dg ([a[k-1]]++aQ R):=(Dg.mk L Dg.nil).append (cD R);obtain⟨X,Y⟩:∃X:Nat,a[k-1]+1048576*(R:Int)=X:=⟨(a[k-1]+1048576*(R:Int)).toNat,by omega⟩;have e:X<1048576*n:=by omega
   have y:(aQ X).length<=17592186043906:=by
    have:(X:Int)<pw ((aQ n).length+1):=by
     rw[js];have Z:=gB n;omega
    have:=iW this;omega
   rw[K,if_pos (by simp),cu b,aj5,yU (by simp;omega),aj5,HG (n:=X) (by unfold Fit;simp;omega) w (by rw[gV,bD];simp only[dv,List.length_cons,List.length_nil];rw[show pw (0+1)=1048576 by decide];omega),aj5,QN G p y e,aj5,cu d,aj5];have hq:X / n<1048576:=akp (by rw[ajq];exact e);have N:(0:Int)<=((X / n:Nat):Int):=Int.natCast_nonneg _;rw[HG (n:=X / n) (by simp[Fit]) (Dg.mk (by omega) Dg.nil) (by simp[dv]),aj5];have O:(aQ (X / n)).length<=1:=iW (by rw[js,py];omega);have c:(dv (aQ n)*dv (aQ (X / n))).toNat=n*(X / n):=by rw[bD,bD,<- ajr];rfl
   rw[abg (cD _) (cD _) (by omega),aj5,c];have z:n*(X / n)<=X:=Nat.mul_div_le X n;rw[aet (cD _) (cD _) (by unfold Fit;omega) (cJ z) (by rw[bD,bD];omega),aj5,bD,bD];have f:((X:Int)-(n*(X / n):Nat)).toNat=X % n:=by
    have:=akI X n;omega
   rw[f];have A:i64.wrap (((k-1:Nat):Int)-1)=((k-1:Nat):Int)-1:=iH (by omega);refine⟨by omega,_,rfl,by rw[A,show a.length-(i+1)=k-1 by omega],by simpa using t,u.set _ (by omega),X % n,rfl,ajm _ (by omega),?_⟩;simp only[Int.toNat_natCast];rw[show a.length-(i+1)=k-1 by omega,lq b,lq (l:=l.set (k-1) _) (i:=k-1) (by simpa using d),show k-1+1=k by omega,List.getElem_set_self,List.drop_set_of_lt (by omega),v,akO,akO];have j:=akI X n;have P:(n:Int)*(1048576*dv (l.drop k))=1048576*(n*dv (l.drop k)):=ak1 _ _ _;rw[P,<- ajr n (X / n)];omega
  ·right;have:k=0:=by omega
   subst this;refine⟨(aQ R,l),by rw[if_neg (by simp)],t,u,R,rfl,J,?_⟩;simpa using v
 obtain⟨⟨r,l⟩,g,h,j,R,C,D,o⟩:=key;simp only at h j C o;unfold sr;rw[mk0 (by omega),aj5,iH (x:=(a.length:Int)-1) (by omega),g,aj5];simp only;rw[<- B,bD]at o;have S:=df j;obtain⟨Q,E⟩:∃Q:Nat,dv l=Q:=⟨(dv l).toNat,by omega⟩;rw[E]at o;have F:m=n*Q+R:=by
  have:((m:Nat):Int)=((n*Q+R:Nat):Int):=by rw[Int.natCast_add,ajr];exact o
  omega
 have A:m / n=Q:=by rw[F,Nat.mul_add_div (by omega),ak6 D,ai0]
 have T:m % n=R:=by rw[F,Nat.mul_add_mod,ajo D]
 rw[HG (n:=Q) (by unfold Fit;omega) j E,aj5,C,A,T]
def W6 {a b:Nat} (j:(aQ a).length<=kv) (k:(aQ b).length<=kv):aS sn (aQ a,aQ b)=some (aQ (Nat.gcd a b)):=by
 have q:kv=17592186043904:=rfl;have key:∃r,aS sn (aQ a,aQ b)=some r∧r=aQ (Nat.gcd a b):=by
  have t:=Vu (gB a);have u:=Vu (gB b)
  let c:List Int->Nat:=fun l=>(dv l).toNat
  have d:∀n,c (aQ n)=n:=fun n=>by show (dv (aQ n)).toNat=n;rw[bD];rfl
  refine sa (I:=fun (s:List Int×List Int)=>∃x y,s=(aQ x,aQ y)∧Nat.gcd x y=Nat.gcd a b∧(aQ x).length<=kv∧(aQ y).length<=kv)
   (μ:=fun (s:List Int×List Int)=>lg (c s.1)+lg (c s.2)+(if c s.1<c s.2 then 1 else 0)) _ ⟨a,b,rfl,rfl,j,k⟩ (by simp only[d];unfold FU;split<;>omega) ?_
  rintro _ ⟨x,y,rfl,g,v,m⟩;simp only[sn]
  by_cases h0:y=0
  ·right;subst h0;refine⟨_,by rw[cW,if_neg (by simp)],?_⟩;rw[<- g,alc]
  ·left;have f:0<(aQ y).length:=akq.2 (fun h=>h0 (uf.1 h));rw[if_pos (by simpa using f),adN h0 (by omega) (by omega),aj5];have o:=ajm x (ald h0);refine⟨_,rfl,⟨y,x % y,rfl,?_,m,?_⟩,?_⟩
   ·rw[<- g,Nat.gcd_comm y,<- Nat.gcd_rec,Nat.gcd_comm]
   ·have:=cJ (Nat.mod_le x y);omega
   ·simp only[d];rw[if_neg (by omega)]
    by_cases e:x<y
    ·rw[if_pos e,ajo e];omega
    ·rw[if_neg e];have:lg (x % y)<lg x:=by
      apply adC;have i:=akI x y;have p:1<=x / y:=(Nat.one_le_div_iff (by omega)).2 (by omega);have w:y*1<=y*(x / y):=Nat.mul_le_mul_left _ p;omega
     omega
 obtain⟨r,i,rfl⟩:=key;exact i
def afg {x y:Int} (e:Ln x<=kv) (f:Ln y<=kv):tn (eB x) (eB y)=some (eB (Int.gcd x y),0):=by
 have g:kv=17592186043904:=rfl;unfold tn;rw[lN (by omega),aj5];simp only[ajW,ai1,if_false];rw[lN (by omega),aj5,aj5];simp only[ajW,ai1,if_false];have a:(eB x).aa=aQ x.natAbs:=rfl;have b:(eB y).aa=aQ y.natAbs:=rfl;rw[a,b];have d:(aQ x.natAbs).length<=17592186043904:=by show Ln x<=_;omega
 have i:(aQ y.natAbs).length<=17592186043904:=by show Ln y<=_;omega
 have j:(aQ (Nat.gcd x.natAbs y.natAbs)).length<=17592186043904:=by
  by_cases h:y.natAbs=0
  ·rw[h,alc];exact d
  ·have:=cJ (ale x.natAbs (ald h));omega
 have c:Nat.gcd x.natAbs y.natAbs=((Int.gcd x y:Nat):Int).natAbs:=rfl;rw[W6 (by omega) (by omega),aj5,Gl (x:=(Int.gcd x y:Int)) c ?_ (fun _=>by omega),aj5];intro h;rw[ala (by omega)]
def afe {x y:Int} (o:Ln x<=er) (p:Ln y<=er) (g:0<y) (k:y∣x):qP (eB x) (eB y)=some (eB (x / y),eB 0,0):=by
 have q:er=4398046511104:=rfl;unfold qP;rw[lN (by omega),aj5];simp only[ajW,ai1,if_false];rw[lN (by omega),aj5,aj5];simp only[ajW,ai1,if_false];have a:(eB x).aa=aQ x.natAbs:=rfl;have b:(eB y).aa=aQ y.natAbs:=rfl;have c:(eB x).ak=x.sign:=rfl;have d:(eB y).ak=1:=ala g;rw[a,b,c,d];have r:(aQ x.natAbs).length<=4398046511104:=by show Ln x<=_;omega
 have s:(aQ y.natAbs).length<=4398046511104:=by show Ln y<=_;omega
 have l:=cJ (Nat.div_le_self x.natAbs y.natAbs);obtain⟨z,rfl⟩:=k;have e:y*z / y=z:=Int.mul_ediv_cancel_left _ (by omega);have i:(y*z).natAbs=y.natAbs*z.natAbs:=ak8 _ _;have j:(y*z).natAbs / y.natAbs=z.natAbs:=by rw[i,Nat.mul_div_cancel_left _ (by omega)]
 have m:(y*z).natAbs % y.natAbs=0:=by rw[i,Nat.mul_mod_right]
 have f:(y*z).sign=z.sign:=by rw[Int.sign_mul,ala g,ak4]
 rw[if_neg (by decide),adN (by omega) (by omega) (by omega),aj5,akM,f,iH (x:=z.sign) (by have:=pz z;omega),e,j,m,cW];rw[j]at l;have n:(if decide (z.sign>=0)=true then some true else some ((([]:List Int).length:Int)==0))=some true:=by split<;>rfl
 simp only[n,Option.bind_some,if_true];rw[Gl (x:=z) rfl (fun _=>rfl) (fun _=>by omega),aj5];have:jb z.sign []=some (eB 0):=El 0 (by simp[Fit]) Dg.nil rfl (fun h=>absurd rfl h);rw[this,aj5]
def afk {x:Int} (h:Ln x<=er):vF (eB x)=some (eB (-x)):=by
 unfold vF;have b:er=4398046511104:=rfl;rw[lN (by omega),aj5];simp only[ajW,ai1,if_false];have a:Fit (eB x).aa:=by unfold Fit;show Ln x<=_;omega
 rw[El (-x) a (cD _) (by show dv (aQ _)=_;rw[bD,Int.natAbs_neg]),aj5];intro c;show i64.wrap (0-x.sign)=_;rw[iH (by have:=pz x;omega),Int.sign_neg,Int.zero_sub]
def aas {x:Int} (r : -9223372036854775808<=x∧x<9223372036854775808):∃l,aS yE (x,[])=some l∧Dg l∧dv l=x.natAbs∧l.length<=5:=by
 refine sa (I:=fun (s:Int×List Int)=>Dg s.2∧dv s.2+pw s.2.length*s.1.natAbs=x.natAbs∧s.2.length<=5∧(s.1=0∨s.2.length<5)) (μ:=fun (s:Int×List Int)=>s.1.natAbs) _ ⟨Dg.nil,by simp[dv,py],by simp,by simp⟩ (by simp only;unfold FU;omega) ?_;rintro⟨u,l⟩ ⟨c,e,f,i⟩;simp only at c e f i;have t:=oW l.length;have j:=df c;have v:(u.natAbs:Int)<=x.natAbs:=by
  have:1*(u.natAbs:Int)<=pw l.length*u.natAbs:=ak5 (by omega) (by omega);omega
 simp only[yE]
 by_cases k:u≠0
 ·left;have m:l.length<4:=by
   rcases ajc l.length 4 with h|h
   ·exact h
   ·have n:l.length=4:=by omega
    rw[n,pw4]at e;omega
  have o:Gw .i64 u 1048576=some (u.tmod 1048576):=by unfold Gw;rw[if_neg (by decide)]
  have g:BR .i64 u 1048576=some (u.tdiv 1048576):=by
   unfold BR;have:(u.tdiv 1048576).natAbs=u.natAbs / 1048576:=Int.natAbs_tdiv u 1048576;rw[if_neg (by decide),iH (by omega)]
  have w:(u.tmod 1048576).natAbs=u.natAbs % 1048576:=Int.natAbs_tmod u 1048576;have p:(u.tdiv 1048576).natAbs=u.natAbs / 1048576:=Int.natAbs_tdiv u 1048576;have q:=xE l.length (u.natAbs:Int);rw[if_pos (by simpa using k),o,aj5];have b:∀d:Int,d=((u.natAbs % 1048576:Nat):Int)->(Dg (l++[d])∧dv (l++[d])+pw (l++[d]).length*((u.tdiv 1048576).natAbs:Int)=x.natAbs∧(l++[d]).length<=5∧(u.tdiv 1048576=0∨(l++[d]).length<5))∧(u.tdiv 1048576).natAbs<u.natAbs:=by
   rintro d rfl;refine⟨⟨c.append (Dg.mk (by omega) Dg.nil),?_,by simp;omega,by right;simp;omega⟩,by omega⟩;rw[p];simp only[gV,dv,ajB,List.length_cons,List.length_nil,ak3,ak7,ajf];rw[Int.natCast_emod,Int.natCast_ediv];have:((1048576:Nat):Int)=1048576:=rfl;rw[this];omega
  by_cases a:u.tmod 1048576<0
  ·rw[if_pos (by simpa using a),iH (x:=0-u.tmod 1048576) (by omega),yU (by simp;omega),aj5,g,aj5];have:=b (0-u.tmod 1048576) (by omega);exact⟨_,rfl,this.1,this.2⟩
  ·rw[if_neg (by simpa using a),yU (by simp;omega),aj5,g,aj5];have:=b (u.tmod 1048576) (by omega);exact⟨_,rfl,this.1,this.2⟩
 ·right;have:u=0:=by omega
  subst this;refine⟨l,by rw[if_neg (by simp)],c,?_,f⟩;simp at e;omega
def Of4 {x:Int} (h : -9223372036854775808<=x∧x<9223372036854775808):xH x=some (eB x):=by
 unfold xH
 by_cases d:x=0
 ·subst d;rw[Gs];rfl
 ·have e:(if decide (x<0)=true then some (-1:Int) else some 1)=some x.sign:=by
   rcases fF x with⟨a,b,c⟩|⟨a,b,c⟩|⟨a,b⟩
   ·rw[if_neg (by simp;omega),a]
   ·rw[if_pos (by simp;omega),a]
   ·exact absurd b d
  obtain⟨l,f,g,i,j⟩:=aas h;rw[if_neg (by simpa using d),e,aj5,f,aj5,pR,El x (by unfold Fit;omega) g i (fun _=>rfl)]
instance:DecidableEq aF:=fun a b=>decidable_of_iff (a.ak=b.ak∧a.aa=b.aa) (by cases a;cases b;simp)
instance:DecidableEq al:=fun a b=>decidable_of_iff (a.bK=b.bK∧a.bL=b.bL) (by cases a;cases b;simp)
def XG {b c:aF} (e:Fit b.aa) (f:b.aa.length=c.aa.length):∃r,aS (og b c) 0=some r∧(match r with | .inl _=>b.aa=c.aa | .inr x=>x=false∧b.aa≠c.aa):=by
 refine cO (I:=fun i s=>s=(i:Int)∧b.aa.take i=c.aa.take i) b.aa.length _ ⟨rfl,by simp⟩ (jz e) ?_;unfold Fit at e;rintro i s g ⟨rfl,d⟩;simp only[og]
 by_cases a:i<b.aa.length
 ·rw[if_pos (by simpa using a),cu a,aj5,cu (by omega),aj5]
  by_cases hx:b.aa[i]=c.aa[i]
  ·left;rw[if_neg (by simpa using hx)];refine⟨a,_,rfl,by rw[iH (by omega)];omega,?_⟩;rw[akQ,akQ,d];simp[a,show i<c.aa.length by omega,hx]
  ·right;rw[if_pos (by simpa using hx)];refine⟨.inr false,rfl,rfl,fun h=>hx ?_⟩;simp[h]
 ·right;have:i=b.aa.length:=by omega
  subst this;refine⟨.inl (),by rw[if_neg (by simp)],?_⟩;rw[akD,ajU (by omega)]at d;exact d
def acF {b c:aF} (e:Fit b.aa):kZ b c=some (decide (b=c)):=by
 have a:b=c↔b.ak=c.ak∧b.aa=c.aa:=by cases b;cases c;simp
 unfold kZ
 by_cases h1:b.ak=c.ak
 ·rw[if_neg (by simpa using h1),aj5]
  by_cases h2:b.aa.length=c.aa.length
  ·rw[if_neg (by simp;omega)];obtain⟨r,f,d⟩:=XG e h2;rw[f,aj5];cases r with
   | inl u=>simp only at d ⊢;simp[a,h1,d]
   | inr x=>simp only at d ⊢;simp[a,h1,d.1,d.2]
  ·rw[if_pos (by simp;omega)];have:b≠c:=fun h=>h2 (by rw[h]);simp[this]
 ·rw[if_pos (by simpa using h1),aj5,if_pos rfl];have:b≠c:=fun h=>h1 (by rw[h]);simp[this]
def af4 {b c:aF} (a:Fit b.aa):xI b c=some (decide (b=c)):=acF a
def Yd {x y:Int} (o:Ln x<=kv) (p:Ln y<=kv):np (eB x) (eB y)=some (jI x y):=by
 have q:kv=17592186043904:=rfl;unfold np;rw[lN (by omega),aj5];simp only[ajW,ai1,if_false];rw[lN (by omega),aj5];simp only[ajW,ai1,if_false];have r:(aQ x.natAbs).length<=17592186043904:=by show Ln x<=_;omega
 have s:(aQ y.natAbs).length<=17592186043904:=by show Ln y<=_;omega
 rw[af4 (by unfold Fit;show Ln x<=_;omega),aj5,aj5];have i:(eB x).aa=aQ x.natAbs:=rfl;have j:(eB y).aa=aQ y.natAbs:=rfl;have k:(eB x).ak=x.sign:=rfl;have l:(eB y).ak=y.sign:=rfl
 by_cases he:x=y
 ·subst he;rw[if_pos (by simp)];simp[jI]
 ·rw[if_neg (by simp only[decide_eq_true_eq];exact fun h=>he (Mj h)),i,j,k,l]
  by_cases h:x.sign=y.sign
  ·rw[if_neg (by simpa using h),adB (cD _) (cD _) (by unfold Fit;omega) (by unfold Fit;omega),aj5,bD,bD];have n:jI x y=if x<y then -1 else 1:=by
    unfold jI;split
    ·rfl
    ·rw[if_pos (by omega)]
   rcases fF x with⟨a,b,c⟩|⟨a,b,c⟩|⟨a,b⟩<;>rcases fF y with⟨e,g,m⟩|⟨e,g,m⟩|⟨e,g⟩<;>(try (rw[a,e]at h;exact absurd h (by decide)))
   ·rw[a,n]
    by_cases d:x<y
    ·have f:(x.natAbs:Int)<y.natAbs:=by omega
     rw[if_pos d,decide_eq_true f];rfl
    ·have f:¬(x.natAbs:Int)<y.natAbs:=by omega
     rw[if_neg d,decide_eq_false f];rfl
   ·rw[a,n]
    by_cases d:x<y
    ·have f:¬(x.natAbs:Int)<y.natAbs:=by omega
     rw[if_pos d,decide_eq_false f];rfl
    ·have f:(x.natAbs:Int)<y.natAbs:=by omega
     rw[if_neg d,decide_eq_true f];rfl
   ·exact absurd (b.trans g.symm) he
  ·rw[if_pos (by simpa using h)];unfold jI;rcases fF x with⟨a,b,c⟩|⟨a,b,c⟩|⟨a,b⟩<;>rcases fF y with⟨e,g,m⟩|⟨e,g,m⟩|⟨e,g⟩<;>(try (exact absurd (a.trans e.symm) h))<;>rw[a,e]<;>(try rw[if_pos (show x<y by omega)])<;>(try rw[if_neg (show ¬x<y by omega),if_pos (show y<x by omega)])<;>rfl
def ad1 {f:al} (e:Nn f):rl f=some (okF f):=by
 have t:kv=17592186043904:=rfl;obtain⟨p,q⟩:=f;simp only[Nn]at e;unfold rl okF;rw[Tz (show Fit p.aa by unfold Fit;omega),aj5]
 by_cases g:okB p=true
 ·simp only[g,ajW,ai1,if_false,ajX];rw[Tz (show Fit q.aa by unfold Fit;omega),aj5]
  by_cases i:okB q=true
  ·simp only[i,ajW,ai1,if_false,ajX,Option.bind_some];obtain⟨x,rfl⟩:=vA.1 g;obtain⟨y,rfl⟩:=vA.1 i;have d:(eB y).ak=y.sign:=rfl
   by_cases j:y.sign=1
   ·rw[if_neg (by rw[d,j];decide),afg e.1 e.2,aj5,Of4 (by decide),aj5];have m:(dv (eB x).aa).toNat=x.natAbs:=by show (dv (aQ _)).toNat=_;rw[bD];rfl
    have n:(dv (eB y).aa).toNat=y.natAbs:=by show (dv (aQ _)).toNat=_;rw[bD];rfl
    have o:0<y.natAbs:=by rcases fF y with⟨a,b,c⟩|⟨a,b,c⟩|⟨a,b⟩<;>omega
    have k:Ln (Int.gcd x y:Int)<=kv:=by
     have:=cJ (ale x.natAbs o);have u:(aQ y.natAbs).length<=kv:=e.2;show (aQ (Nat.gcd x.natAbs y.natAbs)).length<=_;omega
    simp only;rw[Yd k (ait (ED (by decide)) (by decide)),aj5,m,n,d,j];have l:Nat.gcd x.natAbs y.natAbs=Int.gcd x y:=rfl;congr 1;unfold jI
    by_cases h:Int.gcd x y=1
    ·rw[decide_eq_true (l.trans h),h];rfl
    ·have g:¬((Int.gcd x y:Nat):Int)=1:=by omega
     rw[decide_eq_false (fun r=>h (l.symm.trans r))];split
     ·rfl
     ·rw[if_pos (by omega)];rfl
   ·have s:((eB y).ak==1)=false:=by rw[d];simpa using j
    rw[if_pos (by rw[d];have:=pz y;simp;omega),s];rfl
  ·simp only[i,alf,if_true,Option.bind_some,akA]
 ·simp only[g,alf,if_true,Option.bind_some,akA]
def ahy {p q:Int} (f:Ln p<=er) (e:Ln q<=er) (h:q≠0):yF (eB p) (eB q)=some (cj (Rat.divInt p q),0):=by
 have n:er=4398046511104:=rfl;have d:∀ {p q:Int},Ln p<=er->Ln q<=er->0<q ->
   ((tn (eB p) (eB q)).bind fun j=>(qP (eB p) j.1).bind fun k=>(qP (eB q) j.1).bind fun l=>some ((al.mk k.1 l.1),(0:Int)))=some (cj (Rat.divInt p q),0):=by
  intro p q f e h;have o:0<Int.gcd p q:=Int.gcd_pos_of_ne_zero_right _ (by omega);have g:Ln (Int.gcd p q:Int)<=er:=by
   have:=cJ (ale p.natAbs (show 0<q.natAbs by omega));show (aQ (Nat.gcd p.natAbs q.natAbs)).length<=_;have r:(aQ q.natAbs).length<=er:=e;omega
  rw[afg (ua f) (ua e),aj5];simp only;rw[afe f g (by omega) (Int.gcd_dvd_left ..),aj5,afe e g (by omega) (Int.gcd_dvd_right ..),aj5];have m:((q.natAbs / Int.gcd p q:Nat):Int)=q / (Int.gcd p q:Int):=by
   rw[Int.natCast_ediv];congr 1;omega
  unfold cj;rw[Rat.num_divInt,Rat.den_divInt,if_neg (by omega),ala h,ak4,Int.gcd_comm q p,m]
 unfold yF;rw[lN (by omega),aj5];simp only[ajW,ai1,if_false];rw[lN (by omega),aj5,aj5];simp only[ajW,ai1,if_false];have i:(eB q).ak=q.sign:=rfl;rw[i];rcases fF q with⟨a,b,c⟩|⟨a,b,c⟩|⟨a,b⟩
 ·rw[if_neg (by rw[a];decide),if_neg (by rw[a];decide),aj5];exact d f e c
 ·rw[if_neg (by rw[a];decide),if_pos (by rw[a];decide),afk f,aj5,afk e,aj5,aj5];have:=d (p := -p) (q := -q) (by rw[EC];exact f) (by rw[EC];exact e) (by omega);rw[Rat.neg_divInt_neg]at this;exact this
 ·exact absurd b h
def Lp {x:Int} (h : -9223372036854775808<=x∧x<9223372036854775808):Ln x<=er:=by
 have:Ln x<=4:=Np (by rw[pw4];omega);have a:er=4398046511104:=rfl;omega
def Of5 {p q:Int} (a : -9223372036854775808<=p∧p<9223372036854775808) (b : -9223372036854775808<=q∧q<9223372036854775808) (c:q≠0):An p q=some (cj (Rat.divInt p q),0):=by
 unfold An;rw[Of4 a,aj5,Of4 b,aj5,ahy (Lp a) (Lp b) c,aj5]
def ahw {n:Int} (h : -9223372036854775808<=n∧n<9223372036854775808):tr n=some (cj n):=by
 unfold tr;rw[Of5 h (by decide) (by decide),aj5];simp only;congr 2;have:=Rat.num_divInt_den (n:Rat);rw[Rat.num_intCast,Rat.den_intCast]at this;exact this
def aei (f:al) (n:Int):vG f n=some (decide ((f.bK.aa.length:Int)<=n∧(f.bL.aa.length:Int)<=n)):=by
 unfold vG
 by_cases h:(f.bK.aa.length:Int)<=n
 ·rw[if_pos (by simpa using h)];simp[h]
 ·rw[if_neg (by simpa using h)];simp[h]
def Z0 {σ ρ:Type} {a:σ->Option (σ⊕ρ)} {n:Nat} {s b:σ} (h:a s=some (.inl b)):qn a (n+1) s=qn a n b:=by simp only[qn,h]
def Pt {σ ρ:Type} {a:σ->Option (σ⊕ρ)} {n:Nat} {s:σ} {r:ρ} (h:a s=some (.inr r)):qn a (n+1) s=some r:=by simp only[qn,h]
def bC {i:Nat} (h:i<4611686018427387904):i64.wrap ((i:Int)+1)=((i+1:Nat):Int):=by rw[wrap64 (by omega) (by omega)];omega
def bm {α:Type} {l:List α} {i:Nat} {x:α} (h:l[i]? = some x):P.idx l (i:Int)=some x:=Po (by omega) (by simpa using h)
def bh {α:Type} {l:List α} {i:Nat} {x:α} (h:l[i]? = some x):i<l.length:=(aiU.1 h).1
def drop_cons {α:Type} {l a:List α} {i:Nat} {x:α} (h:l.drop i=x::a):i<l.length∧l[i]? = some x∧l.drop (i+1)=a:=by
 have b:i<l.length:=by
  rcases ajc i l.length with h1|h1
  ·exact h1
  ·rw[akk h1]at h;cases h
 rw[akw b]at h;simp only[aiP]at h;exact⟨b,by rw[aiE b,h.1],h.2⟩
def dL {α ρ:Type} (a:Nat->α->Option ρ):Nat->List α->Option ρ
 | _,[]=>none
 | i,x::l=>match a i x with|some r=>some r|none=>dL a (i+1) l
def cG {α ρ:Type} {st:Nat->α->Option ρ} : ∀ {l:List α} {i:Nat},dL st i l=none↔∀(j:Nat) x,l[j]? = some x->st (i+j) x=none
 | [],i=>by simp[dL]
 | x::l,i=>by
  simp only[dL];constructor
  ·intro h j y a;cases b:st i x with
   | some r=>rw[b]at h;cases h
   | none =>
    rw[b]at h;cases j with
    | zero=>simp only[List.getElem?_cons_zero,aiA]at a;subst a;exact b
    | succ j =>
     have:=cG.1 h j y (by simpa using a);rw[<- this];congr 1;omega
  ·intro h;have c:=h 0 x rfl;simp only[Nat.add_zero]at c;rw[c];refine cG.2 fun j y a =>?_;have:=h (j+1) y (by simpa using a);rw[<- this];congr 1;omega
def da {α ρ:Type} {st:Nat->α->Option ρ} {r:ρ} : ∀ {l:List α} {i:Nat},dL st i l=some r->∃(j:Nat) (x:α),l[j]? = some x∧st (i+j) x=some r∧∀(k:Nat) y,k<j->l[k]? = some y->st (i+k) y=none
 | [],i,h=>by cases h
 | x::l,i,h=>by
  simp only[dL]at h;cases a:st i x with
  | some r' =>
   rw[a]at h;exact⟨0,x,rfl,by rw[ai0,a];exact h,fun k y c=>by omega⟩
  | none =>
   rw[a]at h;obtain⟨j,y,d,e,f⟩:=da h;refine⟨j+1,y,by simpa using d,by rw[<- e];congr 1;omega,fun k z c b =>?_⟩;cases k with
   | zero=>simp only[List.getElem?_cons_zero,aiA]at b;subst b;exact a
   | succ k =>
    have:=f k z (by omega) (by simpa using b);rw[<- this];congr 1;omega
def oB {α ρ:Type} (l:List α) {body:Int->Option (Int⊕(Unit⊕ρ))} (b:Nat->α->Option ρ) (g:l.length<4611686018427387904)
  (h:∀(i:Nat) x,l[i]? = some x->body (i:Int)=some (match b i x with|none =>.inl ((i+1:Nat):Int)|some r =>.inr (.inr r))) (j:body (l.length:Int)=some (.inr (.inl ()))) :
  aS body 0=some (match dL b 0 l with|none =>.inl ()|some r =>.inr r):=by
 have key:∀(rest:List α) (i a:Nat),i<=l.length->l.drop i=rest->rest.length<a->qn body a (i:Int)=some (match dL b i rest with|none =>.inl ()|some r =>.inr r):=by
  intro rest
  induction rest with
  | nil =>
   intro i a k e c;obtain⟨f,rfl⟩:∃f,a=f+1:=⟨a-1,by simp at c;omega⟩;have m:l.length<=i:=by
    have:=congrArg List.length e;simp at this;omega
   have:i=l.length:=by omega
   subst this;rw[Pt j];rfl
  | cons x rest n =>
   intro i a k e c;obtain⟨f,rfl⟩:∃f,a=f+1:=⟨a-1,by simp at c;omega⟩;obtain⟨o,p,q⟩:=drop_cons e;have:=h i x p;cases d:b i x with
   | some r =>
    rw[d]at this;rw[Pt this];simp only[dL,d]
   | none =>
    rw[d]at this;rw[Z0 this,n (i+1) f o q (by simp at c;omega)];simp only[dL,d]
 exact key l 0 FU (ais _) rfl (by have:FU=1000000000000000000000000:=rfl;omega)
def vf {α σ ρ:Type} {body:Int×σ->Option ((Int×σ)⊕ρ)} (l:List α) (e:l.length<=17592186044416) (inv:Nat->σ->Prop) (Q:ρ->Prop) {s0:σ} (f:inv 0 s0)
  (a:∀(i:Nat) x s,l[i]? = some x->inv i s->∃c,body ((i:Int),s)=some (.inl (((i+1:Nat):Int),c))∧inv (i+1) c)
  (b:∀s,inv l.length s->∃r,body ((l.length:Int),s)=some (.inr r)∧Q r):∃r,aS body ((0:Int),s0)=some r∧Q r:=by
 refine cO (fun i s=>s.1=(i:Int)∧inv i s.2) l.length Q ⟨rfl,f⟩ (jz e) ?_;rintro i ⟨k,s⟩ m ⟨rfl,d⟩;rcases ajc i l.length with h|h
 ·obtain⟨c,g,j⟩:=a i _ s (aiE h) d;exact .inl ⟨h,_,g,rfl,j⟩
 ·have:i=l.length:=by omega
  subst this;exact .inr (b s d)
def cq {α:Type} {N j:Nat} (f:Nat->α) (h:j<N):((List.range N).map f)[j]? = some (f j):=by simp[h]
def yI {α:Type} {N:Nat} (f:Nat->α):((List.range N).map f).length=N:=by simp
def iu {α:Type} {l:List α} {N:Nat} {f:Nat->α} (b:l.length=N) (h:∀j,j<N->l[j]? = some (f j)):l=(List.range N).map f:=by
 apply akE;intro j
 by_cases a:j<N
 ·rw[h j a,cq f a]
 ·rw[aj7 (by omega),aj7 (by simp;omega)]
def iP {α:Type} {N i:Nat} (f:Nat->α) (v:α):((List.range N).map f).set i v=(List.range N).map fun j=>if j=i then v else f j:=by
 refine iu (by simp) fun j a =>?_;rw[List.getElem?_set]
 by_cases h:i=j
 ·subst h;rw[if_pos rfl,if_pos (by simpa using a)];simp
 ·rw[if_neg h,cq f a,if_neg (fun e=>h e.symm)]
def Ab {α β:Type} {mk:β->α} {R:β->Prop} : ∀ {l:List α},(∀x∈l,∃y,x=mk y∧R y)->∃b:List β,l=b.map mk∧∀y∈b,R y
 | [],_=>⟨[],rfl,fun _ h=>by cases h⟩
 | x::l,h=>by
  obtain⟨y,c,d⟩:=h x (aj2 ..);obtain⟨b,e,f⟩:=Ab (l:=l) fun z a=>h z (aj3 _ a);refine⟨y::b,by rw[aix,<- c,<- e],fun z a =>?_⟩;rcases aiy.1 a with rfl|a
  ·exact d
  ·exact f z a
def MB {α:Type} {R:α->α->Prop} (g:∀a b c,R a b->R b c->R a c) {l:List α} (h:∀(i:Nat) a b,l[i]? = some a->l[i+1]? = some b->R a b):l.Pairwise R:=by
 rw[akK];intro i j k f e;obtain⟨d,rfl⟩:∃d,j=i+1+d:=⟨j-(i+1),by omega⟩;clear e
 induction d with
 | zero=>exact h i _ _ (aiE k) (aiE f)
 | succ d m=>exact g _ _ _ (m (by omega)) (h (i+1+d) _ _ (aiE (by omega)) (aiE f))
abbrev Tk:=Nat×Nat×Rat
def xy (t:Tk):bV:=bV.mk (t.1:Int) (t.2.1:Int) (cj t.2.2)
def pZ (N:Nat) (tk:List Tk):dE:=dE.mk (N:Int) (tk.map xy)
def VD {a b:Tk} (h:xy a=xy b):a=b:=by
 unfold xy at h;injection h with d e c;exact Prod.ext (by omega) (Prod.ext (by omega) (Bd c))
def VB {N M:Nat} {a b:List Tk} (h:pZ N a=pZ M b):N=M∧a=b:=by
 unfold pZ at h;injection h with d c;refine⟨by omega,?_⟩;exact List.map_inj_right (f:=xy) (fun x y h=>VD h) |>.1 c
def sI:List Tk->Nat->Rat
 | [],_=>0
 | t::l,p=>(if t.1=p then t.2.2 else 0)+sI l p
def QM (a b:List Tk) (p:Nat):sI (a++b) p=sI a p+sI b p:=by
 induction a with
 | nil=>rw[akh,sI,Rat.zero_add]
 | cons t a c=>rw[aks,sI,sI,c];grind
def dm (tk:List Tk) (p:Nat):Rat:=1-sI tk p
def Ge {tk:List Tk} {i:Nat} {t:Tk} (h:tk[i]? = some t) (p:Nat):dm (tk.take (i+1)) p=dm (tk.take i) p-(if t.1=p then t.2.2 else 0):=by
 obtain⟨a,b⟩:=aiU.1 h;unfold dm;rw[alo a,QM,b];simp only[sI];grind
def Lm {tk:List Tk} {K:Nat} (a:∀t∈tk,LF t.2.2<=K) (p:Nat):∀i,i<=tk.length->LF (dm (tk.take i) p)<=1+i*(K+1)
 | 0,_=>by
  have:dm (tk.take 0) p=((1:Int):Rat):=by unfold dm;rw[akx,sI];grind
  rw[this];exact ait (BM (n:=1) (by decide)) (by omega)
 | i+1,h=>by
  have c:=Lm a p i (by omega);have b:tk[i]? = some tk[i]:=aiE (by omega);rw[Ge b];have d:=a _ (aiD (show i<tk.length by omega));rw[ajp];split
  ·have:=R5 (dm (tk.take i) p) tk[i].2.2;omega
  ·rw[show ∀x:Rat,x-0=x by intro x;grind];omega
def EB {tk:List Tk} {K:Nat} (a:∀t∈tk,LF t.2.2<=K) (p:Nat):LF (dm tk p)<=1+tk.length*(K+1):=by
 have:=Lm a p tk.length (air _)
 rwa [akD]at this
def Gu {α:Type} {N B:Nat} (z:α) (h:N*B<=140737488355328) (a:N<=2000):Gt B (N:Int) (N:Int) z=some (List.replicate N z):=by
 unfold Gt;have:(2000:Nat)<=maxLen:=by decide
 rw[if_pos ⟨by omega,by omega,by omega,by simpa using h⟩];simp
def acf:gC 1=some (cj 1):=Yj (n:=1) (by decide)
def Gf {N K:Nat} {tk:List Tk} (v:N<=2000) (o:tk.length<=8000) (w:∀t∈tk,t.1<N) (C:K<=1000000) (q:∀t∈tk,LF t.2.2<=K) :
  nh (pZ N tk)=some ((List.range N).map fun p=>cj (dm tk p)):=by
 unfold nh pZ;simp only;rw[Gu _ (by omega) v,aj5];have c:∃r,aS (nY (List.replicate N (al.mk (aF.mk 0 []) (aF.mk 0 [])))) ((0:Int),List.replicate N (al.mk (aF.mk 0 []) (aF.mk 0 [])))=some r∧r=(List.range N).map fun p=>cj (dm (tk.take 0) p):=by
  refine vf (List.replicate N (al.mk (aF.mk 0 []) (aF.mk 0 []))) (by simp;omega) (fun i l=>l.length=N∧∀j,j<i->l[j]? = some (cj 1)) _ ⟨by simp,fun j d=>by omega⟩ ?_ ?_
  ·rintro i x l y ⟨g,a⟩;have z:i<N:=by have:=bh y;simpa using this
   have k:l[i]? = some l[i]:=aiE (by omega);refine⟨l.set i (cj 1),?_,by simpa using g,fun j d =>?_⟩
   ·simp only[nY];rw[if_pos (by simp;omega),acf,aj5,bm k,aj5,bC (by omega),ajs]
   ·rw[List.getElem?_set]
    by_cases h:i=j
    ·rw[if_pos h,if_pos (by omega)]
    ·rw[if_neg h];exact a j (by omega)
  ·rintro l ⟨g,a⟩;refine⟨l,?_,?_⟩
   ·simp only[nY];rw[if_neg (by simp)]
   ·rw[List.length_replicate]at a;refine iu g fun j d =>?_;rw[a j d,akx];congr 2;unfold dm sI;grind
 obtain⟨r,c,rfl⟩:=c;rw[c,aj5];have m:∃r,aS (nZ (dE.mk (N:Int) (tk.map xy))) ((0:Int),(List.range N).map fun p=>cj (dm (tk.take 0) p))=some r∧r=(List.range N).map fun p=>cj (dm tk p):=by
  refine vf tk (by omega) (fun i l=>l=(List.range N).map fun p=>cj (dm (tk.take i) p)) _ rfl ?_ ?_
  ·rintro i t _ b rfl;have z:=bh b;have s:=aiT b;have n:=w t s;have k:(tk.map xy)[i]? = some (xy t):=by rw[aio,b];rfl
   refine⟨_,?_,rfl⟩;simp only[nZ];have A:=Lm q t.1 i (by omega);have B:=q t s;have u:i*(K+1)<=8000*1000001:=alp (by omega) (by omega);rw[if_pos (by simp;omega),bm k,aj5];simp only[xy];rw[bm (cq _ n),aj5,ac7 (by unfold er;omega),aj5,bC (by omega),ajs,iP];congr 3;refine congrArg (fun f=>(List.range N).map f) (funext fun p =>?_);rw[Ge b]
   by_cases h:p=t.1
   ·subst h;rw[if_pos rfl,if_pos rfl]
   ·rw[if_neg h,if_neg (fun e=>h e.symm)];congr 1;grind
  ·rintro _ rfl;refine⟨_,?_,rfl⟩;simp only[nZ];rw[if_neg (by simp),akD]
 obtain⟨r,m,rfl⟩:=m;rw[m,aj5]
def Xp (a b:Tk):Prop:=a.1<b.1∨(a.1=b.1∧a.2.1<b.2.1)
def Xq (a b c:Tk) (h:Xp a b) (k:Xp b c):Xp a c:=by unfold Xp at *;omega
structure ky (N:Nat) (tk:List Tk):Prop where
 ports:N<=2000
 takes:tk.length<=8000
 ok:∀t∈tk,t.1<N∧t.2.1<N∧0<t.2.2
 sorted:tk.Pairwise Xp
 leak:∀p,p<N->0<=dm tk p
def kp (a b c:Int):eu a b c=some (decide (b<=a∧a<=c)):=by
 unfold eu
 by_cases d:a>=b<;>by_cases e:a<=c<;>simp[d,e]
def WE (a b:bV):∃c,oT a b=some c∧(c<0↔(a.cM<b.cM∨(a.cM=b.cM∧a.jR<b.jR))):=by
 unfold oT;rw[BQ,aj5,BQ,aj5,ac2,aj5];refine⟨_,rfl,?_⟩;unfold jI;split<;>split<;>(try split)<;>(try split)<;>simp at *<;>omega
def tv {q:Rat} : q.num.sign<0↔q<0:=by
 rw[Int.sign_neg_iff,<- Rat.not_le,<- Rat.num_nonneg];omega
def Bu {q:Rat} : q.num.sign=0↔q=0:=by
 rw[Int.sign_eq_zero_iff_zero,Rat.num_eq_zero]
def Eo {q:Rat} : 0<q.num.sign↔0<q:=by
 constructor
 ·intro h;have b:¬q<0:=fun a=>by have:=tv.2 a;omega
  have c:q≠0:=fun a=>by have:=Bu.2 a;omega
  grind
 ·intro h;have b:¬q.num.sign<0:=fun a=>by have:=tv.1 a;grind
  have c:q.num.sign≠0:=fun a=>by have:=Bu.1 a;grind
  omega
def yk {q:Rat} {k:Nat} (a:(cj q).bK.aa.length<=k) (b:(cj q).bL.aa.length<=k):LF q<=k:=by
 unfold LF Ln;exact Nat.max_le.2 ⟨a,b⟩
def UR {q:Rat} {k:Nat} (h:LF q<=k):(cj q).bK.aa.length<=k∧(cj q).bL.aa.length<=k:=by
 unfold LF Ln at h;exact Nat.max_le.1 h
def Fb {l:List Rat} (g:l.length<=17592186044416) (d:∀q∈l,LF q<=er):cr (l.map cj)=some (decide (∃q∈l,q<0)):=by
 unfold cr dF;rw[oB l (fun i q=>if q<0 then some (i:Int) else none) (by omega) (fun i q a =>?_) (by simp only[dR];rw[if_neg (by simp)])]
 ·rw[aj5];cases c:dL (fun i (q:Rat)=>if q<0 then some (i:Int) else none) 0 l with
  | none =>
   simp only;rw[aj5,decide_eq_false (by decide),decide_eq_false];rintro⟨q,a,hn⟩;obtain⟨j,e⟩:=aiN a;have:=cG.1 c j q e;rw[if_pos hn]at this;cases this
  | some r =>
   obtain⟨j,q,f,b,_⟩:=da c
   by_cases hn:q<0
   ·rw[if_pos hn]at b;cases b;simp only;rw[aj5,decide_eq_true (by omega),decide_eq_true ⟨q,aiT f,hn⟩]
   ·rw[if_neg hn]at b;cases b
 ·have k:=bh a;simp only[dR,pQ];rw[if_pos (by simp;omega),bm (x:=cj q) (by rw[aio,a];rfl),aj5,BN (d q (aiT a)),aj5,aj5]
  by_cases hn:q<0
  ·rw[decide_eq_true (tv.2 hn),if_pos hn];rfl
  ·rw[decide_eq_false (fun h=>hn (tv.1 h)),if_neg hn,bC (by omega)];rfl
def Xx (N:Nat) (x:bV):Bool:=decide (0<=x.cM∧x.cM<=(N:Int)-1)&&decide (0<=x.jR∧x.jR<=(N:Int)-1)&&okF x.eo&&decide (0<x.eo.bK.ak)
def WD (a b:bV):Prop:=a.cM<b.cM∨(a.cM=b.cM∧a.jR<b.jR)
instance (a b:bV):Decidable (WD a b):=by unfold WD;infer_instance
def F5 (N:Nat) (l:List bV) (i:Nat) (x:bV):Bool:=Xx N x&&(decide (i=0)||(match l[i-1]? with|some y=>decide (WD y x)|none=>false))
def Qt {N:Nat} {x:bV} : Xx N x=true↔∃t:Tk,x=xy t∧t.1<N∧t.2.1<N∧0<t.2.2:=by
 unfold Xx;simp only[ai2,decide_eq_true_eq];constructor
 ·rintro⟨⟨⟨b,c⟩,a⟩,d⟩;obtain⟨q,e⟩:=Bi.1 a;refine⟨(x.cM.toNat,x.jR.toNat,q),?_,by simp only;omega,by simp only;omega,?_⟩
  ·unfold xy;cases x;simp only at *;rw[<- e,Int.toNat_of_nonneg b.1,Int.toNat_of_nonneg c.1]
  ·rw[e]at d;exact Eo.1 d
 ·rintro⟨t,rfl,b,c,a⟩;exact⟨⟨⟨by simp only[xy];omega,by simp only[xy];omega⟩,Mo _⟩,Eo.2 a⟩
def UE {a b:Tk} : WD (xy a) (xy b)↔Xp a b:=by
 unfold WD Xp xy;simp only;omega
def CH {n:dE} {K:Nat} (hK:K<=1000000) (hs:∀t∈n.aP,t.eo.bK.aa.length<=K∧t.eo.bL.aa.length<=K) :
  ∃b,lI n=some b∧(b=true↔∃N tk,n=pZ N tk∧ky N tk):=by
 unfold lI;rw[kp,aj5]
 by_cases L:0<=n.aC∧n.aC<=2000
 rotate_left
 ·rw[decide_eq_false L];refine⟨false,by simp,?_⟩;simp only[ai1,false_iff];rintro⟨N,tk,rfl,h⟩;have:=h.ports;simp only[pZ]at L;omega
 rw[decide_eq_true L];simp only[ajW,ai1,if_false,Option.bind_some]
 by_cases O:(n.aP.length:Int)>8000
 ·rw[decide_eq_true O];refine⟨false,by simp,?_⟩;simp only[ai1,false_iff];rintro⟨N,tk,rfl,h⟩;have:=h.takes;simp only[pZ,aiV]at O;omega
 rw[decide_eq_false O];simp only[ai1,if_false];obtain⟨N,m⟩:∃N:Nat,n.aC=(N:Int):=⟨n.aC.toNat,by omega⟩;have P:i64.wrap (n.aC-1)=(N:Int)-1:=by rw[m,wrap64 (by omega) (by omega)]
 have ab:K<=kv:=ait hK (by unfold kv;omega);have o:=oB n.aP (body:=nX n) (fun i x=>if F5 N n.aP i x=true then none else some false) (by omega) (fun i x z=>by
  have hi:=bh z;obtain⟨A,B⟩:=hs x (aiT z);simp only[nX];rw[if_pos (by simp;omega),bm z,aj5,kp,aj5,P];have s:(if (!decide (0<=x.cM∧x.cM<=(N:Int)-1))=true then some true
   else (eu x.jR 0 ((N:Int)-1)).bind fun Q =>
    if (!Q)=true then some true
    else (cQ x.eo).bind fun S=>if (!S)=true then some true else (iM x.eo).bind fun T=>some (decide (T<=0)))=some (!Xx N x):=by
   unfold Xx
   by_cases c1:0<=x.cM∧x.cM<=(N:Int)-1
   rotate_left
   ·rw[decide_eq_false c1];simp
   rw[decide_eq_true c1,kp,aj5]
   by_cases c2:0<=x.jR∧x.jR<=(N:Int)-1
   rotate_left
   ·rw[decide_eq_false c2];simp
   rw[decide_eq_true c2,AD ⟨by omega,by omega⟩,aj5];cases u:okF x.eo with
   | false=>simp
   | true =>
    obtain⟨q,u⟩:=Bi.1 u;rw[u]at A B ⊢;have v:=yk A B;rw[BN (by unfold er;omega),aj5];have:(cj q).bK.ak=q.num.sign:=rfl;rw[this]
    by_cases c3:q.num.sign<=0
    ·rw[decide_eq_true c3,decide_eq_false (show ¬0<q.num.sign by omega)];simp
    ·rw[decide_eq_false c3,decide_eq_true (show 0<q.num.sign by omega)];simp
  rw[s,aj5];unfold F5;cases ad:Xx N x with
  | false=>simp
  | true =>
   simp only[ajW,ai1,if_false,ajX];cases i with
   | zero=>rw[if_neg (by simp),bC (by omega)];simp
   | succ i =>
    rw[if_pos (by simp)];have I:n.aP[i]? = some n.aP[i]:=aiE (by omega);have e1:i64.wrap (((i+1:Nat):Int)-1)=(i:Int):=by rw[wrap64 (by omega) (by omega)];omega
    obtain⟨c,U,C⟩:=WE n.aP[i] x;rw[e1,bm I,aj5,U,aj5,akl,I];simp only[Nat.add_eq_zero_iff,akB,and_false,decide_false,ajv]
    by_cases hb:WD n.aP[i] x
    ·rw[if_neg (by simp;exact C.2 hb),decide_eq_true hb,bC (by omega)];rfl
    ·rw[if_pos (by simp only[decide_eq_true_eq];have:¬c<0:=fun h=>hb (C.1 h);omega),decide_eq_false hb];rfl) (by
  unfold nX;rw[if_neg (by simp)])
 rw[o,aj5];cases D:dL (fun i x=>if F5 N n.aP i x=true then none else some false) 0 n.aP with
 | some r =>
  obtain⟨j,x,V,E,_⟩:=da D;simp only[ajf]at E;split at E
  ·cases E
  rename_i F;cases E;refine⟨false,rfl,?_⟩;simp only[ai1,false_iff];rintro⟨M,tk,rfl,J⟩;apply F;simp only[pZ]at V m ⊢;obtain rfl:M=N:=by omega
  rw[aio,aip]at V;obtain⟨t,w,rfl⟩:=V;have hm:=aiT w;unfold F5;rw[Qt.2 ⟨t,rfl,J.ok t hm⟩,ajX];cases j with
  | zero=>simp
  | succ j =>
   have W:=bh w;have I:tk[j]? = some tk[j]:=aiE (by omega);rw[akl,aio,I];simp only[Option.map_some];rw[decide_eq_true (UE.2 ?_),Bool.or_true];have:=akK.1 J.sorted j (j+1) (by omega) W (by omega)
   rwa [(aiU.1 w).2]at this
 | none =>
  have g:=cG.1 D;simp only[ajf]at g;have d:∀(j:Nat) x,n.aP[j]? = some x->F5 N n.aP j x=true:=fun j x X=>by
   have:=g j x X;split at this
   ·assumption
   ·cases this
  obtain⟨tk,e,k⟩:=Ab (mk:=xy) (R:=fun t=>t.1<N∧t.2.1<N∧0<t.2.2) (l:=n.aP) fun x z=>by
   obtain⟨j,X⟩:=aiN z;have:=d j x X;unfold F5 at this;rw[ai2]at this;exact Qt.1 this.1
  have hn:n=pZ N tk:=by
   unfold pZ;rw[<- m,<- e]
  have y:tk.Pairwise Xp:=MB Xq fun i a b ha hb=>by
   have:=d (i+1) (xy b) (by rw[e,aio,hb];rfl);unfold F5 at this;rw[ai2,akl,e,aio,ha]at this;simpa [UE] using this.2
  have v:∀t∈tk,LF t.2.2<=K:=fun t w=>by
   have:=hs (xy t) (by rw[e];exact List.mem_map_of_mem w);exact yk this.1 this.2
  have f:tk.length<=8000:=by
   have:=congrArg List.length e;rw[aiV]at this;omega
  have G:N<=2000:=by omega
  simp only;rw[hn,Gf G f (fun t w=>(k t w).1) hK v,aj5];have H:((List.range N).map fun p=>cj (dm tk p))=((List.range N).map fun p=>dm tk p).map cj:=by rw[alq];rfl
  rw[H,Fb (by simp;omega) (fun q u=>by
   obtain⟨p,_,rfl⟩:=aiq.1 u;have:=EB v p;have E:tk.length*(K+1)<=8000*1000001:=alp f (by omega);unfold er;omega),aj5]
  refine⟨_,rfl,?_⟩;simp only[ai3,decide_eq_false_iff_not];constructor
  ·intro Y;refine⟨N,tk,rfl,⟨G,f,k,y,fun p Z =>?_⟩⟩
   by_cases h0:dm tk p<0
   ·exact absurd ⟨_,aiq.2 ⟨p,akc.2 Z,rfl⟩,h0⟩ Y
   ·grind
  ·rintro⟨M,ae,he,J⟩ ⟨q,u,aa⟩;obtain⟨rfl,rfl⟩:=VB he;obtain⟨p,Z,rfl⟩:=aiq.1 u;have:=J.leak p (akc.1 Z);grind
def Bf:∀(N:Nat) (l:List Nat),l.Nodup->(∀x∈l,x<N)->l.length<=N
 | 0,l,_,h=>by
  cases l with
  | nil=>simp
  | cons x l=>exact absurd (h x (aj2 ..)) (by omega)
 | N+1,l,a,h=>by
  have b:=Bf N (l.erase N) (a.erase N) fun x c=>by
   have d:=h x (List.mem_of_mem_erase c);have f:x≠N:=fun e=>by subst e;exact (List.Nodup.mem_erase_iff a).1 c |>.1 rfl
   omega
  rw[List.length_erase]at b;split at b<;>omega
def ly (l:List Nat):List Int:=l.map fun (p:Nat)=>(p:Int)
def aap {l:List Nat} {i p:Nat} (h:l[i]? = some p):(ly l)[i]? = some (p:Int):=by unfold ly;rw[aio,h];rfl
def pP (l:List Nat):(ly l).length=l.length:=aiV ..
def l9 (tk:List Tk) (p:Nat):List Nat:=(tk.filter fun t=>decide (t.2.1=p)).map fun t=>t.1
def Ka {tk:List Tk} {p q:Nat} : q∈l9 tk p↔∃t∈tk,t.1=q∧t.2.1=p:=by
 unfold l9;simp only[aiq,aj8,decide_eq_true_eq];constructor
 ·rintro⟨t,⟨a,b⟩,c⟩;exact⟨t,a,c,b⟩
 ·rintro⟨t,a,c,b⟩;exact⟨t,⟨a,b⟩,c⟩
def IP (tk:List Tk) (p:Nat):(l9 tk p).length<=tk.length:=by
 unfold l9;rw[aiV];exact alr ..
def Sg {tk:List Tk} {i:Nat} {t:Tk} (h:tk[i]? = some t) (p:Nat):l9 (tk.take (i+1)) p=if t.2.1=p then l9 (tk.take i) p++[t.1] else l9 (tk.take i) p:=by
 obtain⟨b,c⟩:=aiU.1 h;unfold l9;rw[alo b,als,ajY,c]
 by_cases a:t.2.1=p
 ·rw[if_pos a,alu (by simpa using a)];rfl
 ·rw[if_neg a,alv (by simpa using a)];simp
structure rB (N:Nat) (tk:List Tk) (r:Nat->Int):Prop where
 ge:∀p,p<N -> -1<=r p
 zero:∀p,p<N->(r p=0↔0<dm tk p)
 down:∀p,p<N->0<r p->∃t∈tk,t.1=p∧r t.2.1=r p-1
 near:∀t∈tk,0<=r t.2.1->0<=r t.1∧r t.1<=r t.2.1+1
 le:∀p,p<N->r p<=2000
structure BF (N:Nat) (tk:List Tk) (r:Nat->Int) (D Q:List Nat) (h m:Int):Prop where
 nodup:(D++Q).Nodup
 lt:∀p∈D++Q,p<N
 rk:∀p,p<N->(0<=r p↔p∈D++Q)
 ge:∀p,p<N -> -1<=r p
 zero:∀p,p<N->(r p=0↔0<dm tk p)
 down:∀p,p<N->0<r p->∃t∈tk,t.1=p∧r t.2.1=r p-1
 near:∀t∈tk,t.2.1∈D->0<=r t.1∧r t.1<=r t.2.1+1
 mono:Q.Pairwise fun a b=>r a<=r b
 top:∀p∈D++Q,r p<=h+1
 low:∀q∈Q,h<=r q
 bnd:∀p,p<N->r p<=m
def XZ (r:Nat->Int) (q:Nat) (v:Int):Nat->Int:=fun x=>if x=q then v else r x
def lP (r:Nat->Int) (q:Nat) (v:Int):XZ r q v q=v:=if_pos rfl
def jt {r:Nat->Int} {q x:Nat} (v:Int) (h:x≠q):XZ r q v x=r x:=if_neg h
def BF.pop {N:Nat} {tk:List Tk} {r:Nat->Int} {D Q:List Nat} {p:Nat} {h m:Int} (a:BF N tk r D (p::Q) h m):BF N tk r D (p::Q) (r p) (m+1)∧0<=r p∧p<N∧r p<=m where
 left:={
  nodup:=a.nodup,lt:=a.lt,rk:=a.rk,ge:=a.ge,zero:=a.zero,down:=a.down,near:=a.near,mono:=a.mono
  top:=fun x b=>by
   have f:=a.top x b;have g:=a.low p (aj2 ..);omega
  low:=fun q c=>by
   rcases aiy.1 c with rfl|c
   ·exact Int.le_refl _
   ·exact (aj9.1 a.mono).1 q c
  bnd:=fun x b=>by have:=a.bnd x b;omega }
 right:=by
  have e:p∈D++p::Q:=aiG _ (aj2 ..);have d:=a.lt p e;exact⟨(a.rk p d).2 e,d,a.bnd p d⟩
def BF.push {N:Nat} {tk:List Tk} {r:Nat->Int} {D Q:List Nat} {p q:Nat} {m:Int} (f:BF N tk r D (p::Q) (r p) m) (z:0<=r p) (A:r p+1<=m) (v:q<N) (B:r q = -1) (C:∃t∈tk,t.1=q∧t.2.1=p) :
  BF N tk (XZ r q (r p+1)) D (p::(Q++[q])) (r p) m∧XZ r q (r p+1) p=r p:=by
 have hqn:q∉D++p::Q:=fun h=>by have:=(f.rk q v).2 h;omega
 have g:∀x,x∈D++p::(Q++[q])↔x∈D++p::Q∨x=q:=fun x=>by
  simp only[ajI,aiy,alw,or_false];constructor
  ·rintro (h|h|h|h)<;>simp[h]
  ·rintro ((h|h|h)|h)<;>simp[h]
 have d:∀x,x∈D++p::Q->x≠q:=fun x c e=>hqn (e ▸ c);have s:p∈D++p::Q:=aiG _ (aj2 ..);have l:p≠q:=d p s;refine⟨?_,jt _ l⟩;constructor
 ·have:D++p::(Q++[q])=(D++p::Q)++[q]:=by simp
  rw[this,List.nodup_append];refine⟨f.nodup,by simp,fun a j b i =>?_⟩;simp only[aiy,alw,or_false]at i;subst i;exact d a j
 ·intro x c;rcases (g x).1 c with h|rfl
  ·exact f.lt x h
  ·exact v
 ·intro x c;rw[g]
  by_cases h:x=q
  ·subst h;rw[lP];exact⟨fun _ =>.inr rfl,fun _=>by omega⟩
  ·rw[jt _ h,f.rk x c];exact⟨.inl,fun k=>k.elim id fun e=>absurd e h⟩
 ·intro x c
  by_cases h:x=q
  ·subst h;rw[lP];omega
  ·rw[jt _ h];exact f.ge x c
 ·intro x c
  by_cases h:x=q
  ·subst h;rw[lP];have:=f.zero x c;constructor
   ·intro h;omega
   ·intro h;have:=this.2 h;omega
  ·rw[jt _ h];exact f.zero x c
 ·intro x c w
  by_cases h:x=q
  ·subst h;obtain⟨t,h1,n,o⟩:=C;refine⟨t,h1,n,?_⟩;rw[o,jt _ l,lP];omega
  ·rw[jt _ h]at w ⊢;obtain⟨t,h1,n,o⟩:=f.down x c w;refine⟨t,h1,n,?_⟩;rw[jt _ (fun e=>by rw[e,B]at o;omega)];exact o
 ·intro t u y;obtain⟨h1,n⟩:=f.near t u y;have E:t.2.1≠q:=d _ (aiF _ y);have F:t.1≠q:=fun e=>by rw[e]at h1;omega
  rw[jt _ E,jt _ F];exact⟨h1,n⟩
 ·have h1:=f.mono;have:p::(Q++[q])=(p::Q)++[q]:=by simp
  rw[this,aka];refine⟨h1.imp_of_mem fun {a b} j i h =>?_,by simp,fun a j b i =>?_⟩
  ·rw[jt _ (d a (aiG _ j)),jt _ (d b (aiG _ i))];exact h
  ·simp only[aiy,alw,or_false]at i;subst i;rw[jt _ (d a (aiG _ j)),lP];exact f.top a (aiG _ j)
 ·intro x c;rcases (g x).1 c with h|rfl
  ·rw[jt _ (d x h)];exact f.top x h
  ·rw[lP];exact Int.le_refl _
 ·intro x c
  by_cases h:x=q
  ·subst h;rw[lP];omega
  ·rw[jt _ h];apply f.low x;simp only[aiy,ajI,alw,or_false]at c ⊢;rcases c with h1|h1|h1
   ·exact .inl h1
   ·exact .inr h1
   ·exact absurd h1 h
 ·intro x c
  by_cases h:x=q
  ·subst h;rw[lP];exact A
  ·rw[jt _ h];exact f.bnd x c
def BF.finish {N:Nat} {tk:List Tk} {r:Nat->Int} {D Q:List Nat} {p:Nat} {h m:Int} (hB:BF N tk r D (p::Q) h m) (b:∀q∈l9 tk p,0<=r q∧r q<=r p+1):BF N tk r (D++[p]) Q h m:=by
 have e:(D++[p])++Q=D++p::Q:=by simp
 exact {
  nodup:=by rw[e];exact hB.nodup
  lt:=by rw[e];exact hB.lt
  rk:=by rw[e];exact hB.rk
  ge:=hB.ge,zero:=hB.zero,down:=hB.down
  near:=fun t a c=>by
   rcases ajI.1 c with h1|h1
   ·exact hB.near t a h1
   ·simp only[aiy,alw,or_false]at h1;rw[h1];exact b t.1 (Ka.2 ⟨t,a,rfl,h1⟩)
  mono:=(aj9.1 hB.mono).2
  top:=by rw[e];exact hB.top
  low:=fun q d=>hB.low q (aj3 _ d)
  bnd:=hB.bnd }
def BF.af1 {N:Nat} {tk:List Tk} {r:Nat->Int} {D:List Nat} {h m:Int} (a:BF N tk r D [] h m) (b:∀t∈tk,t.1<N∧t.2.1<N) (d:m<=2000):rB N tk r where
 ge:=a.ge
 zero:=a.zero
 down:=a.down
 near t h1 h2:=a.near t h1 (by have:=(a.rk t.2.1 (b t h1).2).1 h2;simpa using this)
 le p c:=by have:=a.bnd p c;omega
def aaO {α:Type} (a:α) (l:List α):Eg (a::l) 1 ((a::l).length:Int)=some l:=by
 unfold Eg;rw[if_pos ⟨by omega,by simp;omega,by omega⟩];simp
variable {N:Nat} {tk:List Tk}
def Tv {r:Nat->Int} {D Q:List Nat} {p:Nat} {m:Int} (E:BF N tk r D (p::Q) (r p) m) (F:p<N) (G:0<=r p) (P:r p+1<=m) (H:m<=2001) (y:∀t∈tk,t.1<N∧t.2.1<N) (B:tk.length<=8000) (R:N<=2000) :
  ∃b d,aS (lH (p:Int) (ly (l9 tk p))) ((0:Int),(List.range N).map r,ly Q)=some ((List.range N).map b,ly d)∧BF N tk b (D++[p]) d (r p) m:=by
 have I:=IP tk p;have key:=fun J K=>vf (body:=lH (p:Int) (ly (l9 tk p))) (l9 tk p) (by omega) (fun i (s:List Int×List Int)=>∃b d,s=((List.range N).map b,ly d)∧BF N tk b D (p::d) (r p) m∧b p=r p∧∀q∈(l9 tk p).take i,0<=b q∧b q<=r p+1)
  (fun x=>∃b d,x=((List.range N).map b,ly d)∧BF N tk b (D++[p]) d (r p) m) (s0:=((List.range N).map r,ly Q)) ⟨r,Q,rfl,E,rfl,fun q j=>by simp at j⟩ J K
 refine (key ?_ ?_).elim fun x ⟨k,b,d,e,v⟩=>⟨b,d,e ▸ k,v⟩
 ·rintro i q _ j ⟨b,d,rfl,c,f,a⟩;have L:=bh j;have z:=aiT j;obtain⟨t,l,n,A⟩:=Ka.1 z;have h:q<N:=by rw[<- n];exact (y t l).1
  have g:(l9 tk p).take (i+1)=(l9 tk p).take i++[q]:=by
   rw[alo L,(aiU.1 j).2]
  have M:d.length<=N:=by
   have k:=Bf N (D++p::d) c.nodup c.lt;simp only[ajB,List.length_cons]at k;omega
  simp only[lH];rw[if_pos (by rw[pP];simp;omega),bm (aap j),aj5,bm (cq b h),aj5]
  by_cases w:b q = -1
  ·rw[if_pos (by rw[w];rfl),bm (cq b F),aj5,f,yU (by rw[pP];simp;omega),aj5,bC (by omega),ajs,iP];have O:i64.wrap (r p+1)=r p+1:=wrap64 (by omega) (by omega);rw[O];have o:=c;rw[<- f]at o;obtain⟨k,v⟩:=o.push (by omega) (by omega) h w ⟨t,l,n,A⟩;rw[f]at k v;refine⟨_,rfl,XZ b q (r p+1),d++[q],?_,k,v,fun x e =>?_⟩
   ·unfold ly XZ;simp
   ·rw[g]at e;rcases ajI.1 e with e|e
    ·have:=a x e
     by_cases u:x=q
     ·subst u;rw[w]at this;omega
     ·rw[jt _ u];exact this
    ·simp only[aiy,alw,or_false]at e;subst e;rw[lP];omega
  ·rw[if_neg (by simpa using w),bC (by omega)];refine⟨_,rfl,b,d,rfl,c,f,fun x e =>?_⟩;rw[g]at e;rcases ajI.1 e with e|e
   ·exact a x e
   ·simp only[aiy,alw,or_false]at e;subst e;have C:0<=b x:=by have:=c.ge x h;omega
    exact⟨C,c.top x ((c.rk x h).1 C)⟩
 ·rintro _ ⟨b,d,rfl,c,f,a⟩;refine⟨_,?_,b,d,rfl,c.finish fun q j =>?_⟩
  ·simp only[lH];rw[if_neg (by rw[pP];simp)]
  ·rw[akD]at a;rw[f];exact a q j
def Tw {r:Nat->Int} {Q:List Nat} (v:BF N tk r [] Q 0 0) (e:∀t∈tk,t.1<N∧t.2.1<N) (f:tk.length<=8000) (w:N<=2000) :
  ∃b,aS (lG ((List.range N).map fun p=>ly (l9 tk p))) ((List.range N).map r,ly Q)=some ((List.range N).map b)∧rB N tk b:=by
 have key:=fun y=>cO (body:=lG ((List.range N).map fun p=>ly (l9 tk p))) (fun i (s:List Int×List Int)=>∃b D d h,s=((List.range N).map b,ly d)∧D.length=i∧BF N tk b D d h (i:Int)) N
  (fun x=>∃b,x=(List.range N).map b∧rB N tk b) (s:=((List.range N).map r,ly Q)) ⟨r,[],Q,0,rfl,rfl,v⟩ (jz (by omega)) y
 refine (key ?_).elim fun x ⟨g,b,z,j⟩=>⟨b,z ▸ g,j⟩
 ·rintro i _ E ⟨b,D,d,h,rfl,A,c⟩;cases d with
  | nil =>
   refine .inr ⟨_,?_,b,rfl,c.af1 e (by omega)⟩;simp only[lG,ly,ajg];rw[if_neg (by simp)]
  | cons p d =>
   obtain⟨k,m,o,B⟩:=c.pop;have n:i<N:=by
    have g:=Bf N (D++p::d) c.nodup c.lt;simp only[ajB,List.length_cons]at g;omega
   obtain⟨q,u,g,j⟩:=Tv k o m (by omega) (by omega) e f w;refine .inl ⟨n,((List.range N).map q,ly u),?_,q,D++[p],u,b p,rfl,by simp[A],by simpa using j⟩;simp only[lG];have C:ly (p::d)=(p:Int)::ly d:=rfl;rw[C,if_pos (by simp),idx_zero' ,aj5,aaO,aj5,bm (cq (fun p=>ly (l9 tk p)) o),aj5,g,aj5]
where
 idx_zero':∀ {α:Type} {a:α} {l:List α},P.idx (a::l) 0=some a:=fun {_ a l}=>bm (l:=a::l) (i:=0) rfl
def WC {L:Nat} (b:∀t∈tk,t.1<N∧t.2.1<N) (g:tk.length<=8000) :
  aS (lE (pZ N tk)) ((0:Int),List.replicate N ([]:List Int))=some ((List.range N).map fun p=>ly (l9 tk p)):=by
 unfold pZ;have key:=fun k m=>vf (body:=lE (dE.mk (N:Int) (tk.map xy))) tk (by omega) (fun i l=>l=(List.range N).map fun p=>ly (l9 (tk.take i) p)) (fun l=>l=(List.range N).map fun p=>ly (l9 tk p)) (s0:=List.replicate N ([]:List Int))
  (iu (by simp) fun j n=>by rw[alx,if_pos n,List.take_zero];rfl) k m
 refine (key ?_ ?_).elim fun x ⟨o,hx⟩=>hx ▸ o
 ·rintro i t _ a rfl;have r:=bh a;have c:=(b t (aiT a)).2;have q:(tk.map xy)[i]? = some (xy t):=by rw[aio,a];rfl
  have d:=IP (tk.take i) t.2.1;rw[aiK]at d;refine⟨_,?_,rfl⟩;simp only[lE];rw[if_pos (by simp;omega),bm q,aj5];simp only[xy];rw[bm (cq _ c),aj5,yU (by rw[pP];simp;omega),aj5,bC (by omega),ajs,iP];congr 3;refine congrArg (fun f=>(List.range N).map f) (funext fun p =>?_);rw[Sg a]
  by_cases h:p=t.2.1
  ·subst h;rw[if_pos rfl,if_pos rfl];unfold ly;simp
  ·rw[if_neg h,if_neg (fun e=>h e.symm)]
 ·rintro _ rfl;refine⟨_,?_,rfl⟩;simp only[lE];rw[if_neg (by simp),akD]
def DP (tk:List Tk) (p:Nat):Int:=if 0<dm tk p then 0 else -1
def oe (tk:List Tk) (n:Nat):List Nat:=(List.range n).filter fun p=>decide (0<dm tk p)
def QV (tk:List Tk) (n:Nat):oe tk (n+1)=if 0<dm tk n then oe tk n++[n] else oe tk n:=by
 unfold oe;rw[aly,als]
 by_cases h:0<dm tk n
 ·rw[if_pos h,alu (by simpa using h)];rfl
 ·rw[if_neg h,alv (by simpa using h)];simp
def Xb {K:Nat} (n:N<=2000) (a:tk.length<=8000) (o:K<=1000000) (d:∀t∈tk,LF t.2.2<=K) :
  aS (lF ((List.range N).map fun p=>cj (dm tk p))) ((0:Int),List.replicate N (0:Int),([]:List Int))=some ((List.range N).map (DP tk),ly (oe tk N)):=by
 have key:=fun d g=>vf (body:=lF ((List.range N).map fun p=>cj (dm tk p))) (List.range N) (by simp;omega) (fun i (s:List Int×List Int)=>s=((List.range N).map (fun p=>if p<i then DP tk p else 0),ly (oe tk i))) (fun s=>s=((List.range N).map (DP tk),ly (oe tk N))) (s0:=(List.replicate N (0:Int),([]:List Int)))
  (by rw[show oe tk 0=[] from rfl];refine Prod.ext ?_ rfl;exact iu (by simp) fun j c=>by rw[alx,if_pos c,if_neg (by omega)]) d g
 refine (key ?_ ?_).elim fun x ⟨k,hx⟩=>hx ▸ k
 ·rintro i x _ hx rfl;have e:i<N:=by have:=bh hx;simpa using this
  have l:=EB d i;have r:tk.length*(K+1)<=8000*1000001:=alp a (by omega);have m:(oe tk i).length<=i:=by unfold oe;have:=alr (fun p=>decide (0<dm tk p)) (List.range i);simpa using this
  refine⟨_,?_,rfl⟩;simp only[lF];rw[if_pos (by simp;omega),bm (cq (fun p=>cj (dm tk p)) e),aj5,bm (cq _ e),aj5,BN (by unfold er;omega),aj5,ajs,iP,iP,bC (by omega),QV]
  by_cases hl:0<dm tk i
  ·rw[if_pos (by simpa using Eo.2 hl),bm (cq _ e),aj5,yU (by rw[pP];simp;omega),aj5,if_pos hl];refine congrArg some (congrArg Sum.inl (congrArg (Prod.mk _) (Prod.ext ?_ ?_)))
   ·refine congrArg (fun f=>(List.range N).map f) (funext fun p =>?_)
    by_cases h:p=i
    ·subst h;rw[if_pos rfl,if_pos (by omega)];unfold DP;rw[if_pos hl]
    ·rw[if_neg h,if_neg h]
     by_cases b:p<i
     ·rw[if_pos b,if_pos (by omega)]
     ·rw[if_neg b,if_neg (by omega)]
   ·unfold ly;simp
  ·rw[if_neg (by simpa using fun h=>hl (Eo.1 h)),if_neg hl];refine congrArg some (congrArg Sum.inl (congrArg (Prod.mk _) (Prod.ext ?_ rfl)));refine congrArg (fun f=>(List.range N).map f) (funext fun p =>?_)
   by_cases h:p=i
   ·subst h;rw[if_pos rfl,if_pos (by omega)];unfold DP;rw[if_neg hl]
   ·rw[if_neg h]
    by_cases b:p<i
    ·rw[if_pos b,if_pos (by omega)]
    ·rw[if_neg b,if_neg (by omega)]
 ·rintro _ rfl;refine⟨_,?_,rfl⟩;simp only[lF];rw[if_neg (by simp),aiW];refine congrArg some (congrArg Sum.inr (Prod.ext ?_ rfl));refine iu (by simp) fun j c =>?_;rw[cq _ c,if_pos c]
def acb (N:Nat) (tk:List Tk):BF N tk (DP tk) [] (oe tk N) 0 0:=by
 have f:∀p,p∈oe tk N↔p<N∧0<dm tk p:=fun p=>by unfold oe;simp[aj8]
 have d:∀p,0<dm tk p->DP tk p=0:=fun p h=>if_pos h;have g:∀p,¬0<dm tk p->DP tk p = -1:=fun p h=>if_neg h;constructor
 ·rw[akh];unfold oe;exact List.nodup_range.filter _
 ·intro p c;rw[akh]at c;exact ((f p).1 c).1
 ·intro p c;rw[akh,f]
  by_cases h:0<dm tk p
  ·rw[d p h];simp[c,h]
  ·rw[g p h];simp[h]
 ·intro p c
  by_cases h:0<dm tk p
  ·rw[d p h];omega
  ·rw[g p h];omega
 ·intro p c
  by_cases h:0<dm tk p
  ·rw[d p h];simp[h]
  ·rw[g p h];simp[h]
 ·intro p c e
  by_cases h:0<dm tk p
  ·rw[d p h]at e;omega
  ·rw[g p h]at e;omega
 ·intro t _ h;simp at h
 ·refine List.Pairwise.imp_of_mem (R:=fun _ _=>True) (fun {a b} i j _ =>?_) (List.pairwise_of_forall (fun _ _=>trivial));rw[d a ((f a).1 i).2,d b ((f b).1 j).2];exact Int.le_refl _
 ·intro p c;rw[akh]at c;rw[d p ((f p).1 c).2];omega
 ·intro q k;rw[d q ((f q).1 k).2];omega
 ·intro p c
  by_cases h:0<dm tk p
  ·rw[d p h];omega
  ·rw[g p h];omega
def aaE {K:Nat} (e:ky N tk) (g:K<=1000000) (h:∀t∈tk,LF t.2.2<=K):∃r,nd (pZ N tk)=some ((List.range N).map r)∧rB N tk r:=by
 have f:=e.ports;have a:=e.takes;have c:∀t∈tk,t.1<N∧t.2.1<N:=fun t d=>⟨(e.ok t d).1,(e.ok t d).2.1⟩;obtain⟨b,i,j⟩:=CH (n:=pZ N tk) g (fun t d=>by
  simp only[pZ,aiq]at d;obtain⟨l,k,rfl⟩:=d;exact UR (h l k))
 obtain rfl:b=true:=j.2 ⟨N,tk,rfl,e⟩;obtain⟨m,k,o⟩:=Tw (acb N tk) c a f;refine⟨m,?_,o⟩;unfold nd;rw[i,aj5];simp only[ajW,ai1,if_false];have p:(pZ N tk).aC=(N:Int):=rfl;rw[p,Gu _ (by omega) f,aj5,WC (L:=0) c a,aj5,Gu _ (by omega) f,aj5,Gf f a (fun t d=>(c t d).1) g h,aj5,Xb f a g h,aj5];simp only;rw[k,aj5]
def qq (N:Nat) (r:Nat->Int):List Nat:=(List.range N).filter fun p=>decide (r p = -1)
def TZ (n:Nat) (r:Nat->Int):qq (n+1) r=if r n = -1 then qq n r++[n] else qq n r:=by
 unfold qq;rw[aly,als]
 by_cases h:r n = -1
 ·rw[if_pos h,alu (by simpa using h)];rfl
 ·rw[if_neg h,alv (by simpa using h)];simp
def T0 {r:Nat->Int} (j:N<=2000) (h:nd (pZ N tk)=some ((List.range N).map r)):kV (pZ N tk)=some (ly (qq N r)):=by
 unfold kV;rw[h,aj5];have key:=fun b c=>vf (body:=jB ((List.range N).map r)) (List.range N) (by simp;omega) (fun i l=>l=ly (qq i r)) (fun l=>l=ly (qq N r)) (s0:=([]:List Int)) rfl b c;have d:aS (jB ((List.range N).map r)) ((0:Int),[])=some (ly (qq N r)):=by
  refine (key ?_ ?_).elim fun x ⟨e,hx⟩=>hx ▸ e
  ·rintro i x _ hx rfl;have f:i<N:=by have:=bh hx;simpa using this
   have g:(qq i r).length<=i:=by unfold qq;have:=alr (fun p=>decide (r p = -1)) (List.range i);simpa using this
   refine⟨_,?_,rfl⟩;simp only[jB];rw[if_pos (by simp;omega),bm (cq r f),aj5,bC (by omega),TZ]
   by_cases a:r i = -1
   ·rw[if_pos (by rw[a];rfl),yU (by rw[pP];simp;omega),aj5,if_pos a];unfold ly;simp
   ·rw[if_neg (by simpa using a),if_neg a]
  ·rintro _ rfl;refine⟨_,?_,rfl⟩;simp only[jB];rw[if_neg (by simp),aiW]
 rw[d,aj5]
def sm:Nat->(Nat->Rat)->Rat
 | 0,_=>0
 | n+1,f=>sm n f+f n
def uA {n:Nat} {f g:Nat->Rat} (h:∀i,i<n->f i=g i):sm n f=sm n g:=by
 induction n with
 | zero=>rfl
 | succ n a=>rw[sm,sm,a fun i b=>h i (by omega),h n (by omega)]
def TF (n:Nat) (f g:Nat->Rat):sm n (fun i=>f i+g i)=sm n f+sm n g:=by
 induction n with
 | zero=>simp only[sm];grind
 | succ n a=>simp only[sm];rw[a];grind
def MP (n:Nat) (f g:Nat->Rat):sm n (fun i=>f i-g i)=sm n f-sm n g:=by
 induction n with
 | zero=>simp only[sm];grind
 | succ n a=>simp only[sm];rw[a];grind
def yN {n:Nat} {f:Nat->Rat} (h:∀i,i<n->0<=f i):0<=sm n f:=by
 induction n with
 | zero=>simp only[sm];grind
 | succ n a =>
  have b:=a fun i c=>h i (by omega);have d:=h n (by omega);simp only[sm];grind
def VZ {n:Nat} {f:Nat->Rat} (h:∀i,i<n->0<=f i) (c:sm n f<=0):∀i,i<n->f i=0:=by
 induction n with
 | zero=>intro i b;omega
 | succ n d =>
  have e:=yN (n:=n) fun i b=>h i (by omega);have g:=h n (by omega);simp only[sm]at c;intro i b
  by_cases a:i=n
  ·subst a;grind
  ·exact d (fun j k=>h j (by omega)) (by grind) i (by omega)
def acL (n:Nat):sm n (fun _=>0)=0:=by
 induction n with
 | zero=>rfl
 | succ n a=>simp only[sm];rw[a];grind
def CL {n t:Nat} (v:Rat) (h:t<n):sm n (fun p=>if t=p then v else 0)=v:=by
 induction n with
 | zero=>omega
 | succ n b =>
  simp only[sm]
  by_cases a:t=n
  ·subst a;rw[uA (g:=fun _=>0) fun i c=>if_neg (by omega),acL,if_pos rfl];grind
  ·rw[b (by omega),if_neg a];grind
def Co:List Tk->(Nat->Rat)->Nat->Rat
 | [],_,_=>0
 | t::l,x,p=>(if t.2.1=p then t.2.2*x t.1 else 0)+Co l x p
def Vj (l:List Tk) (c:Rat) (x:Nat->Rat) (p:Nat):Co l (fun j=>c*x j) p=c*Co l x p:=by
 induction l with
 | nil=>simp only[Co];grind
 | cons t l a=>simp only[Co];rw[a];split<;>grind
def F9 {x y:Nat->Rat} {p:Nat} : ∀ {l:List Tk},(∀t∈l,0<=t.2.2)->(∀t∈l,t.2.1=p->x t.1<=y t.1)->Co l x p<=Co l y p
 | [],_,_=>by simp only[Co];grind
 | t::l,h0,h=>by
  simp only[Co];have c:=F9 (l:=l) (fun t a=>h0 t (aj3 _ a)) fun t a=>h t (aj3 _ a);have a:=h0 t (aj2 ..)
  by_cases b:t.2.1=p
  ·rw[if_pos b,if_pos b];have:=Rat.mul_le_mul_of_nonneg_left (h t (aj2 ..) b) a;grind
  ·rw[if_neg b,if_neg b];grind
def Aa {x:Nat->Rat} {p:Nat} {l:List Tk} (a:∀t∈l,0<=t.2.2) (h:∀t∈l,t.2.1=p->0<=x t.1):0<=Co l x p:=by
 have:=F9 (x:=fun _=>0) (y:=x) (p:=p) a h;have b:Co l (fun _=>0) p=0:=by
  have:=Vj l 0 (fun _=>0) p;have e:(fun j:Nat=>(0:Rat)*(fun _=>0) j)=fun _=>0:=by funext j;grind
  rw[e]at this;rw[this];grind
 grind
def ZW {x:Nat->Rat} {p:Nat} : ∀ {l:List Tk},(∀t∈l,0<=t.2.2)->(∀t∈l,t.2.1=p->0<=x t.1)->∀t∈l,t.2.1=p->t.2.2*x t.1<=Co l x p
 | [],_,_,t,a,_=>by cases a
 | t::l,h0,h,u,hu,c=>by
  simp only[Co];have d:=Aa (x:=x) (p:=p) (l:=l) (fun t a=>h0 t (aj3 _ a)) fun t a=>h t (aj3 _ a);rcases aiy.1 hu with rfl|hu
  ·rw[if_pos c];grind
  ·have e:=ZW (x:=x) (p:=p) (l:=l) (fun t a=>h0 t (aj3 _ a)) (fun t a=>h t (aj3 _ a)) u hu c
   by_cases b:t.2.1=p
   ·rw[if_pos b];have:=alz (h0 t (aj2 ..)) (h t (aj2 ..) b);grind
   ·rw[if_neg b];grind
def Ma {N:Nat} (x:Nat->Rat):∀ {l:List Tk},(∀t∈l,t.1<N∧t.2.1<N)->sm N (fun p=>Co l x p)=sm N (fun q=>sI l q*x q)
 | [],_=>by simp only[Co,sI];exact uA fun i _=>by grind
 | t::l,h=>by
  simp only[Co,sI];obtain⟨b,c⟩:=h t (aj2 ..);rw[TF,CL _ c,Ma x fun t d=>h t (aj3 _ d)];have:sm N (fun q=>((if t.1=q then t.2.2 else 0)+sI l q)*x q)=sm N (fun q=>(if t.1=q then t.2.2*x t.1 else 0)+sI l q*x q):=uA fun q _=>by
   by_cases a:t.1=q
   ·rw[if_pos a,if_pos a,a];grind
   ·rw[if_neg a,if_neg a];grind
  rw[this,TF,CL _ b]
variable {N:Nat} {tk:List Tk} {r:Nat->Int}
def ky.pos (a:ky N tk):∀t∈tk,0<=t.2.2:=fun t b=>by have:=(a.ok t b).2.2;grind
def ky.rng (a:ky N tk):∀t∈tk,t.1<N∧t.2.1<N:=fun t b=>⟨(a.ok t b).1,(a.ok t b).2.1⟩
def HS (b:ky N tk) (l:rB N tk r) (o:∀p,p<N->0<=r p) {y:Nat->Rat} (hy:∀p,p<N->0<=y p) (g:∀p,p<N->y p<=Co tk y p):∀p,p<N->y p=0:=by
 have s:=Ma y b.rng;have c:∀p,p<N->0<=dm tk p*y p:=fun p a=>alz (b.leak p a) (hy p a);have d:∀p,p<N->0<=Co tk y p-y p:=fun p a=>by have:=g p a;grind
 have D:sm N (fun p=>dm tk p*y p)=sm N y-sm N (fun q=>sI tk q*y q):=by
  rw[<- MP];exact uA fun p _=>by unfold dm;grind
 have E:sm N (fun p=>Co tk y p-y p)=sm N (fun q=>sI tk q*y q)-sm N y:=by rw[MP,s]
 have F:=yN c;have G:=yN d;have v:=VZ c (by grind);have w:=VZ d (by grind);have key:∀(k:Nat) p,p<N->r p=(k:Int)->y p=0:=by
  intro k
  induction k with
  | zero =>
   intro p a m;have H:=(l.zero p a).1 m;have:=v p a;rcases Rat.mul_eq_zero.1 this with h|h
   ·grind
   ·exact h
  | succ k z =>
   intro p a m;obtain⟨t,i,rfl,A⟩:=l.down p a (by omega);have f:=(b.rng t i).2;have I:=z t.2.1 f (by omega);have e:=w t.2.1 f;have B:=ZW (x:=y) (p:=t.2.1) b.pos (fun u C _=>hy _ (b.rng u C).1) t i rfl;have n:=(b.ok t i).2.2;have j:=hy t.1 a;have J:t.2.2*y t.1<=0:=by grind
   have K:=alz (show 0<=t.2.2 by grind) j;rcases Rat.mul_eq_zero.1 (show t.2.2*y t.1=0 by grind) with h|h
   ·grind
   ·exact h
 intro p a;have:=o p a;exact key (r p).toNat p a (by omega)
def ad2 (N:Nat) (tk:List Tk) (d x:Nat->Rat):Prop:=∀p,p<N->x p=d p+Co tk x p
def TG (a:ky N tk) (c:rB N tk r) (e:∀p,p<N->0<=r p) {d x:Nat->Rat} (f:ad2 N tk d x) (g:∀p,p<N->0<=d p):∀p,p<N->0<=x p:=by
 intro p h;have:=HS a c e (y:=fun j=>if 0<=x j then 0 else -x j) (fun j _=>by (try simp only);split<;>grind) (fun q b=>by
  have i:0<=Co tk (fun j=>if 0<=x j then 0 else -x j) q:=Aa a.pos fun t _ _=>by (try simp only);split<;>grind
  try simp only
  split
  ·exact i
  ·have k:=F9 (l:=tk) (p:=q) (x:=fun j => -1*x j) (y:=fun j=>if 0<=x j then 0 else -x j) a.pos fun t _ _=>by (try simp only);split<;>grind
   rw[Vj]at k;have:=f q b;have:=g q b;grind) p h
 try simp only at this
 split at this
 ·assumption
 ·grind
def acN (a:ky N tk) {d x:Nat->Rat} (b:ad2 N tk d x):sm N d=sm N (fun p=>dm tk p*x p):=by
 have c:=Ma x a.rng;have e:sm N x=sm N d+sm N (fun p=>Co tk x p):=by rw[<- TF];exact uA b
 have f:sm N (fun p=>dm tk p*x p)=sm N x-sm N (fun q=>sI tk q*x q):=by
  rw[<- MP];exact uA fun p _=>by unfold dm;grind
 grind
open IntKind (i64)
abbrev Tm:=Nat×Rat
def jT (t:Tm):eS:=eS.mk (t.1:Int) (cj t.2)
structure QE where
 D:Rat
 T:List Tm
def mkEq (e:QE):aG:=aG.mk (cj e.D) (e.T.map jT)
def dK:List Tm->(Nat->Rat)->Rat
 | [],_=>0
 | t::l,x=>t.2*x t.1+dK l x
def pL (a b:List Tm) (x:Nat->Rat):dK (a++b) x=dK a x+dK b x:=by
 induction a with
 | nil=>simp only[List.nil_append,dK];grind
 | cons t a c=>simp only[List.cons_append,dK];rw[c];grind
abbrev jJ (T:List Tm):Prop:=T.Pairwise fun a b=>a.1<b.1
def mi (T:List Tm) (k:Nat):List Tm:=T.filter fun t=>decide (t.1<k)
def BJ (T:List Tm) (k:Nat):List Tm:=T.filter fun t=>decide (k<t.1)
def fw:List Tm->Nat->Option Rat
 | [],_=>none
 | t::l,k=>if t.1=k then some t.2 else fw l k
def Mi {T:List Tm} {k:Nat} {t:Tm} : t∈mi T k↔t∈T∧t.1<k:=by unfold mi;simp[aj8]
def Gr {T:List Tm} {k:Nat} {t:Tm} : t∈BJ T k↔t∈T∧k<t.1:=by unfold BJ;simp[aj8]
def Ta {T:List Tm} {k:Nat} (h:∀t∈T,k<=t.1):mi T k=[]:=by
 unfold mi;rw[List.filter_eq_nil_iff];intro t a;have:=h t a;simp;omega
def ZT {T:List Tm} {k:Nat} (h:∀t∈T,k<t.1):BJ T k=T:=by
 unfold BJ;rw[List.filter_eq_self];intro t a;simpa using h t a
def WK {T:List Tm} {k:Nat} (h:∀t∈T,t.1≠k):fw T k=none:=by
 induction T with
 | nil=>rfl
 | cons t T a=>rw[fw,if_neg (h t (aj2 ..)),a fun u b=>h u (aj3 _ b)]
def yO {k:Nat} : ∀ {T:List Tm},jJ T->(fw T k=none∧T=mi T k++BJ T k)∨∃c,fw T k=some c∧T=mi T k++(k,c)::BJ T k
 | [],_ =>.inl ⟨rfl,rfl⟩
 | t::T,h=>by
  obtain⟨a,g⟩:=aj9.1 h;rcases alA t.1 k with hk|hk|hk
  ·have b:mi (t::T) k=t::mi T k:=alu (by simpa using hk);have d:BJ (t::T) k=BJ T k:=alv (by simp;omega);have i:fw (t::T) k=fw T k:=by rw[fw,if_neg (by omega)]
   rw[b,d,i];rcases yO (k:=k) g with⟨e,f⟩|⟨c,e,f⟩
   ·exact .inl ⟨e,by rw[aks,<- f]⟩
   ·exact .inr ⟨c,e,by rw[aks,<- f]⟩
  ·subst hk;have b:mi (t::T) t.1=[]:=Ta fun u hu=>by
    rcases aiy.1 hu with rfl|hu
    ·exact air _
    ·have:=a u hu;omega
   have d:BJ (t::T) t.1=T:=by
    rw[show BJ (t::T) t.1=BJ T t.1 from alv (by simp),ZT a]
   refine .inr ⟨t.2,by rw[fw,if_pos rfl],?_⟩;rw[b,d];rfl
  ·have b:mi (t::T) k=[]:=Ta fun u hu=>by
    rcases aiy.1 hu with rfl|hu
    ·omega
    ·have:=a u hu;omega
   have d:BJ (t::T) k=t::T:=ZT fun u hu=>by
    rcases aiy.1 hu with rfl|hu
    ·exact hk
    ·have:=a u hu;omega
   refine .inl ⟨WK fun u hu =>?_,by rw[b,d];rfl⟩;rcases aiy.1 hu with rfl|hu
   ·omega
   ·have:=a u hu;omega
def kD (T:List Tm) (k:Nat):List Tm:=mi T k++BJ T k
def Mc (T:List Tm) (k:Nat) (a:Rat):List Tm:=mi T k++(k,a)::BJ T k
def EM (T:List Tm) (k:Nat) (v:Rat):List Tm:=Mc T k ((fw T k).getD 0+v)
def jS {T:List Tm} {k:Nat} {t:Tm} : t∈kD T k↔t∈T∧t.1≠k:=by
 unfold kD;rw[ajI,Mi,Gr];constructor
 ·rintro (⟨a,b⟩|⟨a,b⟩)<;>exact⟨a,by omega⟩
 ·rintro⟨a,b⟩;rcases ajc t.1 k with h|h
  ·exact .inl ⟨a,h⟩
  ·exact .inr ⟨a,by omega⟩
def Mh {T:List Tm} {k:Nat} {a:Rat} {t:Tm} : t∈Mc T k a↔t=(k,a)∨t∈kD T k:=by
 unfold Mc kD;simp only[ajI,aiy];constructor
 ·rintro (h|h|h)<;>simp[h]
 ·rintro (h|h|h)<;>simp[h]
def Hu {T:List Tm} (h:jJ T) (k:Nat):jJ (kD T k):=by
 unfold kD;rw[jJ,aka];refine⟨h.filter _,h.filter _,fun a c b d =>?_⟩;have:=(Mi.1 c).2;have:=(Gr.1 d).2;omega
def aaS {T:List Tm} (h:jJ T) (k:Nat) (a:Rat):jJ (Mc T k a):=by
 unfold Mc;rw[jJ,aka,aj9];refine⟨h.filter _,⟨fun b c=>(Gr.1 c).2,h.filter _⟩,fun x d b c =>?_⟩;have e:=(Mi.1 d).2;rcases aiy.1 c with rfl|c
 ·exact e
 ·have:=(Gr.1 c).2;omega
def yB {T:List Tm} (h:jJ T) (k:Nat) (x:Nat->Rat):dK T x=dK (kD T k) x+(fw T k).getD 0*x k:=by
 rcases yO (k:=k) h with⟨a,b⟩|⟨c,a,b⟩
 ·rw[a];unfold kD;rw[<- b];simp only[Option.getD_none];grind
 ·have e:dK T x=dK (mi T k++(k,c)::BJ T k) x:=by rw[<- b]
  rw[e,a];unfold kD;rw[pL,pL];simp only[dK,Option.getD_some];grind
def acj {T:List Tm} (k:Nat) (a:Rat) (x:Nat->Rat):dK (Mc T k a) x=dK (kD T k) x+a*x k:=by
 unfold Mc kD;rw[pL,pL];simp only[dK];grind
def ach {T:List Tm} (h:jJ T) (k:Nat) (v:Rat) (x:Nat->Rat):dK (EM T k v) x=dK T x+v*x k:=by
 unfold EM;rw[acj,yB h k x];grind
def pE {T:List Tm} {k:Nat} {c:Rat} (h:fw T k=some c):(k,c)∈T:=by
 induction T with
 | nil=>cases h
 | cons t T a =>
  rw[fw]at h;split at h
  ·rename_i b;cases h;rw[<- b];exact aj2 ..
  ·exact aj3 _ (a h)
def J4 {x y:Nat->Rat} : ∀ {T:List Tm},(∀t∈T,x t.1=y t.1)->dK T x=dK T y
 | [],_=>rfl
 | t::T,h=>by rw[dK,dK,h t (aj2 ..),J4 fun u a=>h u (aj3 _ a)]
def vv {x:Nat->Rat} : ∀ {T:List Tm},(∀t∈T,0<=t.2)->(∀t∈T,0<=x t.1)->0<=dK T x
 | [],_,_=>by simp only[dK];grind
 | t::T,h,hx=>by
  have b:=alz (h t (aj2 ..)) (hx t (aj2 ..));have c:=vv (T:=T) (fun u a=>h u (aj3 _ a)) fun u a=>hx u (aj3 _ a);simp only[dK];grind
def aci (T:List Tm) (c:Rat) (x:Nat->Rat):dK (T.map fun t=>(t.1,t.2 / c)) x=dK T x / c:=by
 induction T with
 | nil=>simp only[ajg,dK];grind
 | cons t T a=>simp only[aix,dK];rw[a];grind
structure Uv (N K:Nat) (T:List Tm):Prop where
 sorted:jJ T
 lt:∀t∈T,t.1<N
 sz:∀t∈T,LF t.2<=K
def Uv.len {N K:Nat} {T:List Tm} (h:Uv N K T):T.length<=N:=by
 have a:=Bf N (T.map (·.1)) (by
  rw[List.Nodup,akJ];exact h.sorted.imp fun h=>by omega) (fun x b=>by
  obtain⟨t,c,rfl⟩:=aiq.1 b;exact h.lt t c)
 simpa using a
def Uv.rem {N K:Nat} {T:List Tm} (h:Uv N K T) (k:Nat):Uv N K (kD T k):=⟨Hu h.sorted k,fun t a=>h.lt t (jS.1 a).1,fun t a=>h.sz t (jS.1 a).1⟩
def Uv.mono {N K a:Nat} {T:List Tm} (h:Uv N K T) (b:K<=a):Uv N a T:=⟨h.sorted,h.lt,fun t c=>ait (h.sz t c) b⟩
def ago (x:Int):Aq .u64 x 1=some (x / 2):=by
 unfold Aq;rw[if_neg (by decide)];have e:(2:Int) ^ (min (Int.toNat 1) IntKind.u64.bits)=2:=by decide
 rw[e,akS _ (by decide)]
def adF {k:Nat} : ∀ {T:List Tm},jJ T->∀(i:Nat) t,T[i]? = some t->(t.1<k↔i<(mi T k).length)
 | [],_,i,t,h=>by simp at h
 | a::T,hs,i,t,h=>by
  obtain⟨d,e⟩:=aj9.1 hs
  by_cases b:a.1<k
  ·have c:mi (a::T) k=a::mi T k:=alu (by simpa using b);rw[c,aiR];cases i with
   | zero=>simp only[List.getElem?_cons_zero,aiA]at h;subst h;simp[b]
   | succ i =>
    have:=adF (k:=k) e i t (by simpa using h);omega
  ·have c:mi (a::T) k=[]:=Ta fun u hu=>by
    rcases aiy.1 hu with rfl|hu
    ·omega
    ·have:=d u hu;omega
   rw[c];have:¬t.1<k:=by
    rcases aiy.1 (aiT h) with rfl|hu
    ·exact b
    ·have:=d t hu;omega
   simp[this]
def FL (t:Tm) (k:Nat):dM (jT t) (k:Int)=some (jI (t.1:Int) (k:Int)):=by
 unfold dM;rw[BQ];rfl
def N3 {a b:Int} : jI a b<0↔a<b:=by unfold jI;split<;>(try split)<;>simp at *<;>omega
def I9 {a b:Int} : jI a b=0↔a=b:=by unfold jI;split<;>(try split)<;>simp at *<;>omega
def Si {T:List Tm} (o:jJ T) (x:T.length<=2000) (k:Nat) :
  bt (T.map jT) (k:Int)=some (((mi T k).length:Int),(fw T k).isSome):=by
 have i:(mi T k).length<=T.length:=alr ..;have key:=fun j=>sa (body:=b8 (T.map jT) (k:Int)) (I:=fun (s:Int×Int)=>∃b a:Nat,s=((b:Int),(a:Int))∧b<=(mi T k).length∧(mi T k).length<=a∧a<=T.length) (μ:=fun (s:Int×Int)=>(s.2-s.1).toNat)
  (fun r=>r=((mi T k).length:Int)) (s:=(0,((T.map jT).length:Int))) ⟨0,T.length,by simp,by omega,i,air _⟩ (by simp only[aiV];unfold FU;omega) j
 obtain⟨r,l,rfl⟩:=key (by
  rintro _ ⟨b,a,rfl,l,q,t⟩;simp only[b8]
  by_cases p:b<a
  ·have g:(b+a) / 2<T.length:=by omega
   have e:(T.map jT)[(b+a) / 2]? = some (jT T[(b+a) / 2]):=by rw[aio,aiE g];rfl
   have d:=adF (k:=k) o ((b+a) / 2) _ (aiE g);have u:i64.wrap ((b:Int)+a)=(b:Int)+a:=wrap64 (by omega) (by omega);have v:IntKind.u64.wrap ((b:Int)+a)=(b:Int)+a:=wu (by omega);have w:i64.wrap (((b:Int)+a) / 2)=(((b+a) / 2:Nat):Int):=by rw[wrap64 (by omega) (by omega)];omega
   rw[if_pos (by simpa using p),u,v,ago,aj5,w,bm e,aj5,FL,aj5];refine .inl ?_
   by_cases hk:T[(b+a) / 2].1<k
   ·rw[if_pos (by simp only[decide_eq_true_eq];exact N3.2 (by omega)),bC (by omega)];refine⟨_,rfl,⟨(b+a) / 2+1,a,rfl,by have:=d.1 hk;omega,q,t⟩,?_⟩;simp only;omega
   ·rw[if_neg (by simp only[decide_eq_true_eq];intro h;exact hk (by have:=N3.1 h;omega))];refine⟨_,rfl,⟨b,(b+a) / 2,rfl,l,by have:¬(b+a) / 2<(mi T k).length:=fun h=>hk (d.2 h);omega,by omega⟩,?_⟩;simp only;omega
  ·rw[if_neg (by simpa using p)];exact .inr ⟨_,rfl,by omega⟩)
 unfold bt;rw[l,aj5];rcases yO (k:=k) o with⟨m,n⟩|⟨c,m,n⟩
 ·rw[m]
  by_cases d:(mi T k).length<T.length
  ·have e:(T.map jT)[(mi T k).length]? = some (jT T[(mi T k).length]):=by rw[aio,aiE d];rfl
   rw[if_pos (by simpa using d),bm e,aj5,FL,aj5];have hne:T[(mi T k).length].1≠k:=by
    have g:T[(mi T k).length]∈mi T k++BJ T k:=by rw[<- n];exact aiD d
    rcases ajI.1 g with h|h
    ·have:=(Mi.1 h).2;omega
    ·have:=(Gr.1 h).2;omega
   have:jI (T[(mi T k).length].1:Int) (k:Int)≠0:=fun h=>hne (by have:=I9.1 h;omega);simp[this]
  ·rw[if_neg (by simpa using d)];rfl
 ·rw[m];have f:T[(mi T k).length]? = some (k,c):=by
   have:(mi T k++(k,c)::BJ T k)[(mi T k).length]? = some (k,c):=by simp
   rwa [<- n]at this
  have d:=bh f;have e:(T.map jT)[(mi T k).length]? = some (jT (k,c)):=by rw[aio,f];rfl
  rw[if_pos (by simpa using d),bm e,aj5,FL,aj5];have:jI ((k,c).1:Int) (k:Int)=0:=I9.2 rfl;rw[this];rfl
def find_eq {e:QE} (a:jJ e.T) (b:e.T.length<=2000) (k:Nat):de (mkEq e) (k:Int)=some (mkEq e,((mi e.T k).length:Int),(fw e.T k).isSome):=by
 unfold de mkEq;rw[Si a b,aj5]
def G9 {a x y:Rat} (h:LF a+(LF x+LF y)+1<=er):iA (cj a) (cj x) (cj y)=some (cj (a+x*y)):=by
 unfold iA;have:=wK x y;rw[Yn (by omega),aj5];simp only;rw[Ug (by omega),aj5]
def afD:gC 0=some (cj 0):=Yj (n:=0) (by decide)
def R4:LF 1<=1:=BM (n:=1) (by decide)
def R3:LF 0<=1:=BM (n:=0) (by decide)
def afp (e:QE) (k:Nat) (v:Rat):QE:=⟨e.D,EM e.T k v⟩
def afq {N K:Nat} {e:QE} (d:Uv N K e.T) (q:N<=2000) {k:Nat} {v:Rat} (h:K+LF v+10<=er):eU (mkEq e) (k:Int) (cj v)=some (mkEq (afp e k v),()):=by
 have r:=d.len;unfold eU;rw[find_eq d.sorted (by omega),aj5];simp only;have j:=R4;rcases yO (k:=k) d.sorted with⟨a,f⟩|⟨c,a,f⟩
 ·rw[a];simp only[Option.isSome_none,ai1,if_false];have l:(mi e.T k).length<=e.T.length:=alr ..;have b:ZX 72 (mkEq e).bU ((mi e.T k).length:Int) [eS.mk (k:Int) (cj v)]=some ((EM e.T k v).map jT):=by
   unfold ZX mkEq;simp only[aiV,List.length_cons,List.length_nil,Int.toNat_natCast];rw[if_pos ⟨by omega,by omega,by omega,by omega⟩];congr 1;have g:e.T.map jT=(mi e.T k).map jT++(BJ e.T k).map jT:=by rw[<- ajY,<- f]
   unfold EM Mc;rw[a,g,List.take_left' (by simp),List.drop_left' (by simp),ajY,aix];simp only[Option.getD_none,List.cons_append,List.nil_append];congr 2;unfold jT;simp only;congr 1;rw[Rat.zero_add]
  rw[b];rfl
 ·rw[a];simp only[Option.isSome_some,if_true];have i:e.T[(mi e.T k).length]? = some (k,c):=by
   have:(mi e.T k++(k,c)::BJ e.T k)[(mi e.T k).length]? = some (k,c):=by simp
   rwa [<- f]at this
  have m:(e.T.map jT)[(mi e.T k).length]? = some (jT (k,c)):=by rw[aio,i];rfl
  have n:LF c<=K:=d.sz (k,c) (pE a);have o:(mkEq e).bU=e.T.map jT:=rfl;rw[o,bm m,aj5,acf,aj5];simp only[jT];rw[G9 (by omega),aj5,ajs];unfold afp EM Mc mkEq;rw[a];simp only[Option.getD_some];have g:e.T.map jT=(mi e.T k).map jT++jT (k,c)::(BJ e.T k).map jT:=by rw[<- aix,<- ajY,<- f]
  have p:((e.T.map fun t=>eS.mk (t.1:Int) (cj t.2)).set (mi e.T k).length (eS.mk (k:Int) (cj (c+v*1))))=(mi e.T k++(k,c+v)::BJ e.T k).map jT:=by
   show (e.T.map jT).set (mi e.T k).length _=_;rw[g,List.set_append_right _ _ (by simp),aiV,ajD,List.set_cons_zero,ajY,aix];unfold jT;simp only;congr 4;grind
  rw[<- p];rfl
def jA (e:QE) (p:Nat):QE:=match fw e.T p with|none=>e|some c=>⟨e.D / (1-c),(kD e.T p).map fun t=>(t.1,t.2 / (1-c))⟩
def Y5 {T:List Tm} {k:Nat} {c:Rat} (e:T.length<=2000) (g:T=mi T k++(k,c)::BJ T k):Y4 (T.map jT) ((mi T k).length:Int) (i64.wrap (((mi T k).length:Int)+1))=some ((kD T k).map jT):=by
 have a:T.length=(mi T k).length+1+(BJ T k).length:=by
  have:=congrArg List.length g;simp only[ajB,List.length_cons]at this;omega
 rw[bC (by omega)];unfold Y4;have:(2000:Nat)<=maxLen:=by decide
 rw[if_pos ⟨by omega,by omega,by simp;omega,by simp;omega⟩,ajs,ajs];have b:T.map jT=(mi T k).map jT++jT (k,c)::(BJ T k).map jT:=by rw[<- aix,<- ajY,<- g]
 rw[b,List.take_left' (by simp)];have d:((mi T k).map jT++jT (k,c)::(BJ T k).map jT).drop ((mi T k).length+1)=(BJ T k).map jT:=by
  rw[akj,akk (by simp)];simp
 rw[d];unfold kD;rw[ajY]
def adi {a b:Rat} (h:LF a+LF b<=er) (c:b≠0):pI (cj a) (cj b)=some (cj (a / b),0):=aff h c
end Go.Proofs.YtokgehacmjmfkaaGreat.P
