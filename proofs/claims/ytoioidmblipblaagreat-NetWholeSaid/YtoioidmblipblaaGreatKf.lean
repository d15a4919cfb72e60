import Derived.Test.YtoioidmblipblaaGreatKe
set_option linter.unusedSimpArgs false
set_option linter.unusedVariables false
noncomputable section
open Go.Proofs.Tryz
namespace Go.Proofs.YtoioidmblipblaaGreat.Am
open Go.RowKit Go.Proofs.YtoioidmblipblaaGreat.P
set_option maxRecDepth 100000
set_option maxHeartbeats 4000000
theorem Ew:bW prog 120 lX:=bW.gN (mode := .clean) tok QJ mixed func120 (by kernel_rfl) (fun _ _=>rfl) (fun _=>by kernel_rfl) fun⟨p0,p1⟩ r U=>by
 replace U:rL p0 p1=some r:=U;apply aH rfl ntmps120 results120;simp only[gR];unfold rL at U;obtain⟨r1,ah,U⟩:=ae U;try simp only[bc,seval,-Int.reduceToNat,ah]
 apply sp al U<;>intro _ U
 ·obtain⟨r3,cb,U⟩:=ae U;cases U;try simp only[bc,seval,-Int.reduceToNat,ah,cb]
 ·try simp only[bc,seval,-Int.reduceToNat,ah]
  apply sp al U<;>intro _ U
  ·obtain⟨x5,cc,U⟩:=ae U;have bG:=bo (eI .i64) cc;simp only[bZ]at bG;obtain⟨r6,cd,U⟩:=ae U;have i7:=mz ([r6.2]);simp only[bj,bZ,List.length_cons,List.length_nil,ahr,Nat.reduceAdd,aiK]at i7;obtain⟨r8,cf,U⟩:=ae U;cases U;try simp only[bc,seval,-Int.reduceToNat,ah,bG,cd,i7,cf]
  ·try simp only[bc,seval,-Int.reduceToNat,ah]
   obtain⟨cg,bH,U⟩:=ae U;refine aB (fun s t H e=>match s with|bI=>t 0=.sl false false p0.length (ab (eI .i64) p0)∧t 1=.sl false false p1.length (ab (eI .i64) p1)∧t 8=.int .i64 bI) (fun o x t H e=>match o with|az=>x=.exit 0∧t 0=.sl false false p0.length (ab (eI .i64) p0)∧t 1=.sl false false p1.length (ab (eI .i64) p1)∧t 8=.int .i64 az) bH ?_ ?_ ?_
   ·and_intros<;>first|rfl|(simp only[bc,seval,-Int.reduceToNat,ah]<;>rfl)
   ·rintro bI t H e Za c U;simp only[rM]at U;obtain⟨cr,bK,U⟩:=ae U;have aG:=bo (eI .i64) bK;simp only[bZ]at aG;try simp only[bc,seval,-Int.reduceToNat,ah,Za,aG]
    apply sp al U<;>intro _ U
    ·cases U;try simp only[bc,seval,-Int.reduceToNat,ah,Za,aG]
     apply iu;and_intros<;>first|rfl|(simp only[bc,seval,-Int.reduceToNat,ah,Za,aG]<;>rfl)
    ·cases U;try simp only[bc,seval,-Int.reduceToNat,ah,Za,aG]
     apply jv;refine⟨rfl,?_⟩;and_intros<;>first|rfl|(simp only[bc,seval,-Int.reduceToNat,ah,Za,aG]<;>rfl)
   ·rintro x t H e hx;obtain⟨az,rfl⟩:∃z,z=cg:=⟨_,rfl⟩;dsimp only at hx U;obtain⟨rfl,a6⟩:=hx;have i14:=vc p0 ([az]);simp only[bj,bZ,List.length_cons,List.length_nil,ahr,Nat.reduceAdd,aiK]at i14;obtain⟨ct,Y,U⟩:=ae U;obtain⟨cu,bL,U⟩:=ae U;obtain⟨Z,X,aa,ad⟩:=iJ (eI .i64) bL;simp only[bZ]at X;have i18:=vc p1 ([az]);simp only[bj,bZ,List.length_cons,List.length_nil,ahr,Nat.reduceAdd,aiK]at i18;obtain⟨ay,ag,U⟩:=ae U;try simp only[bc,seval,-Int.reduceToNat,ah,a6,i14,Y,Z,X,aa,ad,i18,ag]
    obtain⟨ch,bM,U⟩:=ae U;refine ki 0 (fun s t H e=>match s with|a8=>∃aV:Nat,∃aK:Nat,t 8=.int .i64 az∧t 9=.buf 9 aV 1 0 (a8).length∧t 10=.buf 10 aK 1 0 (ay).length∧H 9=some ⟨aV,3,ab (eI .i64) a8,false,true,false⟩∧H 10=some ⟨aK,3,ab (eI .i64) ay,false,true,false⟩) (fun s=>s=ch) ?_ ?_
    ·rintro a8 t H e ⟨aV,aK,bN⟩ rfl;try dsimp only at U
     obtain⟨cv,bO,U⟩:=ae U;obtain⟨aj,ak,ao,ai,aq⟩:=mk_one (eI .i64) bO;simp only[bZ]at ai;try simp only[bc,seval,-Int.reduceToNat,ah,i14,Y,Z,X,aa,ad,i18,ag,bN,aj,ak,ao,ai,aq]
     obtain⟨cj,bQ,U⟩:=ae U;refine aB (fun s t H e=>match s with|(aC,aD,aA)=>∃ba:Nat,∃aW:Nat,∃aO:Nat,∃bb:Bool,t 8=.int .i64 az∧t 9=.buf 9 ba 1 0 (aD).length∧t 10=.buf 10 aW 1 0 (ay).length∧t 11=.int .i64 ((ay).length:Int)∧t 12=.buf 12 aO 1 0 (aA).length∧t 13=.int .i64 aC∧H 9=some ⟨ba,3,ab (eI .i64) aD,false,true,false⟩∧H 10=some ⟨aW,3,ab (eI .i64) ay,bb,true,false⟩∧H 12=some ⟨aO,3,ab (eI .i64) aA,false,true,false⟩) (fun o x t H e=>match o with|(bd,aS)=>x=.exit 2∧∃bf:Nat,∃aT:Nat,t 8=.int .i64 az∧t 9=.buf 9 bf 1 0 (bd).length∧t 12=.buf 12 aT 1 0 (aS).length∧H 9=some ⟨bf,3,ab (eI .i64) bd,false,true,false⟩∧H 12=some ⟨aT,3,ab (eI .i64) aS,false,true,false⟩) bQ ?_ ?_ ?_
     ·refine⟨aV,aK,e+1,false,?_⟩;and_intros<;>first|rfl|(simp only[bc,seval,-Int.reduceToNat,ah,i14,Y,Z,X,aa,ad,i18,ag,bN,aj,ak,ao,ai,aq]<;>rfl)
     ·rintro⟨aC,aD,aA⟩ t H e ⟨ba,aW,aO,bb,Zc⟩ c U;simp only[rN]at U;try simp only[bc,seval,-Int.reduceToNat,ah,i14,Y,Z,X,aa,ad,i18,ag,aj,ak,ao,ai,aq,Zc]
      apply sp al U<;>intro _ U
      ·obtain⟨cw,bR,U⟩:=ae U;have ar:=bo (eI .i64) bR;simp only[bZ]at ar;obtain⟨cx,bS,U⟩:=ae U;have av:=B6 bS;obtain⟨cy,bT,U⟩:=ae U;have au:=bo (eI .i64) bT;simp only[bZ]at au;try simp only[bc,seval,-Int.reduceToNat,ah,i14,Y,Z,X,aa,ad,i18,ag,aj,ak,ao,ai,aq,Zc,ar,av,au]
       refine bJ (by kernel_rfl) ?_;obtain⟨cz,bg,U⟩:=ae U;have O:=bo (eI .i64) bg;simp only[bZ]at O;obtain⟨cA,bU,U⟩:=ae U;have aw:=rV bU;have O:=bo (eI .i64) bg;simp only[bZ]at O;obtain⟨cB,bV,U⟩:=ae U;have ax:=yd bV;try simp only[bc,seval,-Int.reduceToNat,ah,i14,Y,Z,X,aa,ad,i18,ag,aj,ak,ao,ai,aq,Zc,ar,av,au,O,aw,O,ax]
       refine bJ (by kernel_rfl) ?_;try simp only[bc,seval,-Int.reduceToNat,ah,i14,Y,Z,X,aa,ad,i18,ag,aj,ak,ao,ai,aq,Zc,ar,av,au,O,aw,O,ax]
       obtain⟨ck,bX,U⟩:=ae U;refine aB (fun s t H e=>match s with|(bh,bk)=>∃a7:Nat,∃aI:Nat,∃aJ:Nat,∃aP:Bool,t 8=.int .i64 az∧t 9=.buf 9 a7 1 0 (aD).length∧t 10=.buf 10 aI 1 0 (ay).length∧t 11=.int .i64 ((ay).length:Int)∧t 12=.buf 12 aJ 1 0 (aA).length∧t 13=.int .i64 aC∧t 15=.int .i64 bh∧t 16=.int .i64 bk∧H 9=some ⟨a7,3,ab (eI .i64) aD,false,true,false⟩∧H 10=some ⟨aI,3,ab (eI .i64) ay,aP,true,false⟩∧H 12=some ⟨aJ,3,ab (eI .i64) aA,false,true,false⟩) (fun o x t H e=>match o with|aU=>x=.exit 4∧∃aX:Nat,∃aL:Nat,∃aM:Nat,∃bl:Bool,t 8=.int .i64 az∧t 9=.buf 9 aX 1 0 (aD).length∧t 10=.buf 10 aL 1 0 (ay).length∧t 11=.int .i64 ((ay).length:Int)∧t 12=.buf 12 aM 1 0 (aA).length∧t 13=.int .i64 aC∧t 15=.int .i64 aU∧H 9=some ⟨aX,3,ab (eI .i64) aD,false,true,false⟩∧H 10=some ⟨aL,3,ab (eI .i64) ay,bl,true,false⟩∧H 12=some ⟨aM,3,ab (eI .i64) aA,false,true,false⟩) bX ?_ ?_ ?_
       ·refine⟨ba,aW,aO,bb,?_⟩;and_intros<;>first|rfl|(simp only[bc,seval,-Int.reduceToNat,ah,i14,Y,Z,X,aa,ad,i18,ag,aj,ak,ao,ai,aq,Zc,ar,av,au,O,aw,O,ax]<;>rfl)
       ·rintro⟨bh,bk⟩ t H e ⟨a7,aI,aJ,aP,Zg⟩ c U;simp only[rO]at U;try simp only[bc,seval,-Int.reduceToNat,ah,i14,Y,Z,X,aa,ad,i18,ag,aj,ak,ao,ai,aq,ar,av,au,O,aw,O,ax,Zg]
        obtain⟨cm,bY,U⟩:=ae U;refine Z4 0 (fun s t H e=>match s with|aY=>∃aQ:Nat,∃aE:Nat,∃aF:Nat,∃aN:Bool,t 8=.int .i64 az∧t 9=.buf 9 aQ 1 0 (aD).length∧t 10=.buf 10 aE 1 0 (ay).length∧t 11=.int .i64 ((ay).length:Int)∧t 12=.buf 12 aF 1 0 (aA).length∧t 13=.int .i64 aC∧t 15=.int .i64 bh∧t 16=.int .i64 bk∧t 137=.bool aY∧H 9=some ⟨aQ,3,ab (eI .i64) aD,false,true,false⟩∧H 10=some ⟨aE,3,ab (eI .i64) ay,aN,true,false⟩∧H 12=some ⟨aF,3,ab (eI .i64) aA,false,true,false⟩) (fun s=>s=cm) ?_ ?_
        ·rintro aY t H e ⟨aQ,aE,aF,aN,bm⟩ rfl;try dsimp only at U
         try simp only[bc,seval,-Int.reduceToNat,ah,i14,Y,Z,X,aa,ad,i18,ag,aj,ak,ao,ai,aq,ar,av,au,O,aw,O,ax,bm]
         apply sp al U<;>intro _ U
         ·have O:=bo (eI .i64) bg;simp only[bZ]at O;cases U;try simp only[bc,seval,-Int.reduceToNat,ah,i14,Y,Z,X,aa,ad,i18,ag,aj,ak,ao,ai,aq,ar,av,au,O,aw,O,ax,bm,O]
          apply iu;refine⟨aQ,aE,aF,aN,?_⟩;and_intros<;>first|rfl|(simp only[bc,seval,-Int.reduceToNat,ah,i14,Y,Z,X,aa,ad,i18,ag,aj,ak,ao,ai,aq,ar,av,au,O,aw,O,ax,bm,O]<;>rfl)
         ·cases U;try simp only[bc,seval,-Int.reduceToNat,ah,i14,Y,Z,X,aa,ad,i18,ag,aj,ak,ao,ai,aq,ar,av,au,O,aw,O,ax,bm]
          apply jv;refine⟨rfl,⟨aQ,aE,aF,aN,?_⟩⟩;and_intros<;>first|rfl|(simp only[bc,seval,-Int.reduceToNat,ah,i14,Y,Z,X,aa,ad,i18,ag,aj,ak,ao,ai,aq,ar,av,au,O,aw,O,ax,bm]<;>rfl)
        ·clear U;have U:=bY;try simp only[bc,seval,-Int.reduceToNat,ah,i14,Y,Z,X,aa,ad,i18,ag,aj,ak,ao,ai,aq,ar,av,au,O,aw,O,ax,Zg]
         apply sp uv U<;>intro _ U
         ·try simp only[bc,seval,-Int.reduceToNat,ah,i14,Y,Z,X,aa,ad,i18,ag,aj,ak,ao,ai,aq,ar,av,au,O,aw,O,ax,Zg]
          refine bJ (by kernel_rfl) ?_;cases U;try simp only[bc,seval,-Int.reduceToNat,ah,i14,Y,Z,X,aa,ad,i18,ag,aj,ak,ao,ai,aq,ar,av,au,O,aw,O,ax,Zg]
          rw[an];refine⟨_,rfl,?_⟩;refine⟨a7,aI,aJ,aP,?_⟩;and_intros<;>first|rfl|(simp only[bc,seval,-Int.reduceToNat,ah,i14,Y,Z,X,aa,ad,i18,ag,aj,ak,ao,ai,aq,ar,av,au,O,aw,O,ax,Zg]<;>rfl)
         ·try simp only[bc,seval,-Int.reduceToNat,ah,i14,Y,Z,X,aa,ad,i18,ag,aj,ak,ao,ai,aq,ar,av,au,O,aw,O,ax,Zg]
          apply sp UI U<;>intro _ U
          ·obtain⟨cC,b1,U⟩:=ae U;have aZ:=bo (eI .i64) b1;simp only[bZ]at aZ;obtain⟨cD,b2,U⟩:=ae U;have bF:=B6 b2;obtain⟨cE,b3,U⟩:=ae U;have a1:=bo (eI .i64) b3;simp only[bZ]at a1;try simp only[bc,seval,-Int.reduceToNat,ah,i14,Y,Z,X,aa,ad,i18,ag,aj,ak,ao,ai,aq,ar,av,au,O,aw,O,ax,Zg,aZ,bF,a1]
           refine bJ (by kernel_rfl) ?_;cases U;try simp only[bc,seval,-Int.reduceToNat,ah,i14,Y,Z,X,aa,ad,i18,ag,aj,ak,ao,ai,aq,ar,av,au,O,aw,O,ax,Zg,aZ,bF,a1]
           rw[an];refine⟨_,rfl,?_⟩;refine⟨a7,aI,aJ,aP,?_⟩;and_intros<;>first|rfl|(simp only[bc,seval,-Int.reduceToNat,ah,i14,Y,Z,X,aa,ad,i18,ag,aj,ak,ao,ai,aq,ar,av,au,O,aw,O,ax,Zg,aZ,bF,a1]<;>rfl)
          ·try simp only[bc,seval,-Int.reduceToNat,ah,i14,Y,Z,X,aa,ad,i18,ag,aj,ak,ao,ai,aq,ar,av,au,O,aw,O,ax,Zg]
           refine bJ (by kernel_rfl) ?_;cases U;try simp only[bc,seval,-Int.reduceToNat,ah,i14,Y,Z,X,aa,ad,i18,ag,aj,ak,ao,ai,aq,ar,av,au,O,aw,O,ax,Zg]
           rw[an];refine⟨_,rfl,?_⟩;refine⟨a7,aI,aJ,aP,?_⟩;and_intros<;>first|rfl|(simp only[bc,seval,-Int.reduceToNat,ah,i14,Y,Z,X,aa,ad,i18,ag,aj,ak,ao,ai,aq,ar,av,au,O,aw,O,ax,Zg]<;>rfl)
       ·rintro x t H e hx;obtain⟨aU,rfl⟩:∃z,z=ck:=⟨_,rfl⟩;dsimp only at hx U;obtain⟨rfl,⟨aX,aL,aM,bl,b4⟩⟩:=hx;obtain⟨cn,aR,U⟩:=ae U;obtain⟨bu,bw,bx,cq,bn⟩:=adt (eI .i64) aR;simp only[bZ]at bn;have i89:=EW (ab (eI .i64) (aD.take (aC).toNat)) (ab (eI .i64) (aD.drop (IntKind.i64.wrap ((IntKind.i64.wrap (aC+((ay).length:Int)))+1)).toNat)) cn ay aU;simp only[abv,abw (eI .i64) aR,abx (eI .i64) aR,acz aR,bZ,Int.toNat_zero,aiy,Nat.sub_zero]at i89;obtain⟨b5,bp,U⟩:=ae U;have b6:=zu bp;have bz:=aaf aR b6;obtain⟨cF,bA,U⟩:=ae U;have bq:=bo (eI .i64) bA;simp only[bZ]at bq;have bt:=fW (eI .i64) (x':=b5.2) (fo:=0) (cs:=[.int .i64 b5.2]) bA rfl (ais rfl);simp only[bZ,Nat.add_zero]at bt;have br:=bt;simp only[putCells,List.length_cons,List.length_nil,ahr,Nat.reduceAdd]at br;cases U;try simp only[bc,seval,-Int.reduceToNat,ah,i14,Y,Z,X,aa,ad,i18,ag,aj,ak,ao,ai,aq,ar,av,au,O,aw,O,ax,b4,bu,bw,bx,bn,i89,bp,bz,bq,bt,br]
        apply iu;refine⟨aX,aL,aM,true,?_⟩;and_intros<;>first|rfl|(simp only[bc,seval,-Int.reduceToNat,ah,i14,Y,Z,X,aa,ad,i18,ag,aj,ak,ao,ai,aq,ar,av,au,O,aw,O,ax,b4,bu,bw,bx,bn,i89,bp,bz,bq,bt,br]<;>rfl)
      ·cases U;try simp only[bc,seval,-Int.reduceToNat,ah,i14,Y,Z,X,aa,ad,i18,ag,aj,ak,ao,ai,aq,Zc]
       apply jv;refine⟨rfl,⟨ba,aO,?_⟩⟩;and_intros<;>first|rfl|(simp only[bc,seval,-Int.reduceToNat,ah,i14,Y,Z,X,aa,ad,i18,ag,aj,ak,ao,ai,aq,Zc]<;>rfl)
     ·rintro x t H e hx;rcases cj with⟨bd,aS⟩;dsimp only at hx U;obtain⟨rfl,⟨bf,aT,cp⟩⟩:=hx;obtain⟨cG,b7,U⟩:=ae U;obtain⟨cH,b8,U⟩:=ae U;obtain⟨cI,b9,U⟩:=ae U;cases U;try simp only[bc,seval,-Int.reduceToNat,ah,i14,Y,Z,X,aa,ad,i18,ag,aj,ak,ao,ai,aq,cp,b7,b8,b9]
    ·clear U;have U:=bM;try simp only[bc,seval,-Int.reduceToNat,ah,a6,i14,Y,Z,X,aa,ad,i18,ag]
     apply sp al U<;>intro _ U
     ·obtain⟨cJ,ca,U⟩:=ae U;obtain⟨bB,bs,bC,bD⟩:=iJ (eI .i64) ca;simp only[bZ]at bs;cases U;try simp only[bc,seval,-Int.reduceToNat,ah,a6,i14,Y,Z,X,aa,ad,i18,ag,bB,bs,bC,bD]
      rw[an];refine⟨_,rfl,?_⟩;refine⟨e+1+1,e,?_⟩;and_intros<;>first|rfl|(simp only[bc,seval,-Int.reduceToNat,ah,a6,i14,Y,Z,X,aa,ad,i18,ag,bB,bs,bC,bD]<;>rfl)
     ·cases U;try simp only[bc,seval,-Int.reduceToNat,ah,a6,i14,Y,Z,X,aa,ad,i18,ag]
      rw[an];refine⟨_,rfl,?_⟩;refine⟨e,e,?_⟩;and_intros<;>first|rfl|(simp only[bc,seval,-Int.reduceToNat,ah,a6,i14,Y,Z,X,aa,ad,i18,ag]<;>rfl)
def lV (l:Option (D×Row)) (d:List D):=dW (iD (bC dI) (dS (bC dI))) (fun x:aD×aD=>pU x.1 x.2) (fun r:aD×Int =>.clean (.tup [.agg [.int .i64 r.1.aj,.sl false false r.1.aa.length (ab (eI .i64) r.1.aa)],.int .i64 r.2])) l d
theorem fw (X:Bool) (U:Int) (O:(List Int)):ke none [.bool X,.agg [.int .i64 U,.sl false false O.length (ab (eI .i64) O)]]=(eD X (aD.mk U O)).map fun r:aD×Int=>(.clean (.tup [.agg [.int .i64 r.1.aj,.sl false false r.1.aa.length (ab (eI .i64) r.1.aa)],.int .i64 r.2]),none):=cU _ _ _ (X,(aD.mk U O))
def y6:Env:=(Am.keep 6 (Am.ext (Am.ext (Am.ext (Am.ext (Am.ext bm 79 false bs) 87 false cg) 88 false il) 89 false ke) 120 false lX))
theorem QE:bH prog y6:=(bH.keep (((((bH.none.add fU false).add iY false).add kx false).add py false).add Ew false) 6)
theorem eE:type_of% (ai @w<|ai @ru<|ai @bs.eq_1<|ai @B3<|ai @cg.eq_1<|ai @fE<|ai @fw<|ai @B4<|ai @lX.eq_1<|@y6.eq_1):=⟨@w,@ru,@bs.eq_1,@B3,@cg.eq_1,@fE,@fw,@B4,@lX.eq_1,@y6.eq_1⟩
theorem Et:bW prog 80 lV:=bW.gN (mode := .clean) tok QE mixed func80 (by kernel_rfl) (fun _ _=>rfl) (fun _=>by kernel_rfl) fun⟨p0,p1⟩ r O=>by
 replace O:pU p0 p1=some r:=O;apply aH rfl ntmps80 results80;simp only[gR];unfold pU at O;obtain⟨r1,U,O⟩:=ae O;try simp only[eE,seval,U]
 obtain⟨o2,az,O⟩:=ae O;refine bA 0 (fun s t H e=>match s with|Z=>∃ad:Nat,∃ag:Nat,∃Y:Nat,t 2=.ptr 2 ad 0∧t 3=.ptr 3 ag 0∧t 4=.ptr 4 Y 0∧t 17=.bool Z∧H 2=some ⟨ad,40,[.int .i64 p0.aj,.sl false false p0.aa.length (ab (eI .i64) p0.aa)],false,false,false⟩∧H 3=some ⟨ag,40,[.int .i64 p1.aj,.sl false false p1.aa.length (ab (eI .i64) p1.aa)],false,false,false⟩∧H 4=some ⟨Y,40,[.int .i64 0,.sl true true 0 []],false,false,false⟩) (fun s=>s=o2) ?_ ?_
 ·rintro Z t H e ⟨ad,ag,Y,ah⟩ rfl;try dsimp only at O
  try simp only[eE,seval,U,ah]
  apply sp al O<;>intro _ O
  ·have i4:=fw false 0 ([]);simp only[bj,bZ,List.length_cons,List.length_nil,ahr,Nat.reduceAdd,aiK]at i4;obtain⟨r5,aA,O⟩:=ae O;cases O;try simp only[eE,seval,U,ah,i4,aA]
  ·obtain⟨r6,X,O⟩:=ae O;try simp only[eE,seval,U,ah,X]
   refine bJ (by kernel_rfl) ?_;try simp only[eE,seval,U,ah,X]
   obtain⟨o9,aC,O⟩:=ae O;refine aB (fun s t H e=>match s with|(au,av)=>∃ai:Nat,t 4=.ptr 4 ai 0∧t 6=.sl false false au.length (ab (eI .i64) au)∧t 7=.sl false false av.length (ab (eI .i64) av)∧H 4=some ⟨ai,40,[.int .i64 0,.sl true true 0 []],false,false,false⟩) (fun o x t H e=>match o with|ak=>x=.exit 0∧∃ao:Nat,t 4=.ptr 4 ao 0∧t 6=.sl false false ak.length (ab (eI .i64) ak)∧H 4=some ⟨ao,40,[.int .i64 0,.sl true true 0 []],false,false,false⟩) aC ?_ ?_ ?_
   ·refine⟨Y,?_⟩;and_intros<;>first|rfl|(simp only[eE,seval,U,ah,X]<;>rfl)
   ·rintro⟨au,av⟩ t H e ⟨ai,Zb⟩ c O;simp only[oR]at O;try simp only[eE,seval,U,X,Zb]
    apply sp al O<;>intro _ O
    ·obtain⟨aE,aq,O⟩:=ae O;cases O;try simp only[eE,seval,U,X,Zb,aq]
     apply iu;refine⟨ai,?_⟩;and_intros<;>first|rfl|(simp only[eE,seval,U,X,Zb,aq]<;>rfl)
    ·cases O;try simp only[eE,seval,U,X,Zb]
     apply jv;refine⟨rfl,⟨ai,?_⟩⟩;and_intros<;>first|rfl|(simp only[eE,seval,U,X,Zb]<;>rfl)
   ·rintro x t H e hx;obtain⟨ak,rfl⟩:∃z,z=o9:=⟨_,rfl⟩;dsimp only at hx O;obtain⟨rfl,⟨ao,aD⟩⟩:=hx;obtain⟨aF,aw,O⟩:=ae O;obtain⟨aG,ax,O⟩:=ae O;obtain⟨aI,ay,O⟩:=ae O;cases O;try simp only[eE,seval,U,X,aD,aw,ax,ay]
 ·clear O;have O:=az;try simp only[eE,seval,U]
  apply sp aR O<;>intro _ O
  ·cases O;try simp only[eE,seval,U]
   rw[an];refine⟨_,rfl,?_⟩;refine⟨0,0,0,?_⟩;and_intros<;>first|rfl|(simp only[eE,seval,U]<;>rfl)
  ·obtain⟨aJ,ar,O⟩:=ae O;cases O;try simp only[eE,seval,U,ar]
   rw[an];refine⟨_,rfl,?_⟩;refine⟨0,0,0,?_⟩;and_intros<;>first|rfl|(simp only[eE,seval,U,ar]<;>rfl)
def uD (l:Option (D×Row)) (d:List D):=dW (dS (bC dI)) (fun x:aD=>uS x) (fun r:Int×Bool =>.clean (.tup [.int .i64 r.1,.bool r.2])) l d
def y7:Env:=(Am.ext bm 79 false bs)
theorem QF:bH prog y7:=(bH.none.add fU false)
theorem bn:type_of% (ai @w<|ai @ru<|ai @bs.eq_1<|@y7.eq_1):=⟨@w,@ru,@bs.eq_1,@y7.eq_1⟩
theorem Ra:bW prog 121 uD:=bW.gN (mode := .clean) tok QF mixed func121 (by kernel_rfl) (fun _ _=>rfl) (fun _=>by kernel_rfl) fun Y r U=>by
 replace U:uS Y=some r:=U;apply aH rfl ntmps121 results121;simp only[gR];unfold uS at U;obtain⟨r1,O,U⟩:=ae U;try simp only[bn,seval,-Int.reduceToNat,O]
 obtain⟨o2,aI,U⟩:=ae U;refine bA 0 (fun s t H e=>match s with|aq=>∃ag:Nat,t 1=.ptr 1 ag 0∧t 15=.bool aq∧H 1=some ⟨ag,40,[.int .i64 Y.aj,.sl false false Y.aa.length (ab (eI .i64) Y.aa)],false,false,false⟩) (fun s=>s=o2) ?_ ?_
 ·rintro aq t H e ⟨ag,ay⟩ rfl;try dsimp only at U
  try simp only[bn,seval,-Int.reduceToNat,O,ay]
  apply sp al U<;>intro _ U
  ·cases U;try simp only[bn,seval,-Int.reduceToNat,O,ay]
  ·try simp only[bn,seval,-Int.reduceToNat,O,ay]
   obtain⟨aJ,aA,U⟩:=ae U;refine aB (fun s t H e=>match s with|(az,ah)=>∃ak:Nat,t 1=.ptr 1 ak 0∧t 4=.int .u64 az∧t 17=.sl false false Y.aa.length (ab (eI .i64) Y.aa)∧t 18=.int .i64 (Y.aa.length:Int)∧t 19=.int .i64 ah∧H 1=some ⟨ak,40,[.int .i64 Y.aj,.sl false false Y.aa.length (ab (eI .i64) Y.aa)],false,false,false⟩) (fun o x t H e=>match o with|(.inl ar)=>x=.exit 0∧∃Z:Nat,t 1=.ptr 1 Z 0∧t 4=.int .u64 ar∧H 1=some ⟨Z,40,[.int .i64 Y.aj,.sl false false Y.aa.length (ab (eI .i64) Y.aa)],false,false,false⟩|(.inr r)=>x=.ret∧fF .clean tab none [.tmp 2,.tmp 3] ⟨t,EH H,e⟩=some (.clean (.tup [.int .i64 r.1,.bool r.2]),none)) aA ?_ ?_ ?_
   ·refine⟨ag,?_⟩;and_intros<;>first|rfl|(simp only[bn,seval,-Int.reduceToNat,O,ay]<;>rfl)
   ·rintro⟨az,ah⟩ t H e ⟨ak,Zb⟩ c U;simp only[rJ]at U;try simp only[bn,seval,-Int.reduceToNat,O,Zb]
    apply sp al U<;>intro _ U
    ·obtain⟨aK,aC,U⟩:=ae U;have X:=bo (eI .i64) aC;simp only[bZ]at X;try simp only[bn,seval,-Int.reduceToNat,O,Zb,X]
     obtain⟨aL,aD,U⟩:=ae U;refine bA 0 (fun s t H e=>match s with|au=>∃ai:Nat,t 1=.ptr 1 ai 0∧t 4=.int .u64 az∧t 5=.int .i64 ah∧t 6=.int .i64 aK∧t 17=.sl false false Y.aa.length (ab (eI .i64) Y.aa)∧t 18=.int .i64 (Y.aa.length:Int)∧t 19=.int .i64 ah∧t 29=.bool au∧H 1=some ⟨ai,40,[.int .i64 Y.aj,.sl false false Y.aa.length (ab (eI .i64) Y.aa)],false,false,false⟩) (fun s=>s=aL) ?_ ?_
     ·rintro au t H e ⟨ai,av⟩ rfl;try dsimp only at U
      try simp only[bn,seval,-Int.reduceToNat,O,X,av]
      apply sp al U<;>intro _ U
      ·cases U;try simp only[bn,seval,-Int.reduceToNat,O,X,av]
       refine rq ⟨rfl,?_⟩;try simp only[bn,seval,-Int.reduceToNat,O,X,av]
      ·obtain⟨aN,aE,U⟩:=ae U;have aF:=B6 aE;cases U;try simp only[bn,seval,-Int.reduceToNat,O,X,av,aF]
       apply iu;refine⟨ai,?_⟩;and_intros<;>first|rfl|(simp only[bn,seval,-Int.reduceToNat,O,X,av,aF]<;>rfl)
     ·clear U;have U:=aD;try simp only[bn,seval,-Int.reduceToNat,O,Zb,X]
      apply sp eJ U<;>intro _ U
      ·cases U;try simp only[bn,seval,-Int.reduceToNat,O,Zb,X]
       rw[an];refine⟨_,rfl,?_⟩;refine⟨ak,?_⟩;and_intros<;>first|rfl|(simp only[bn,seval,-Int.reduceToNat,O,Zb,X]<;>rfl)
      ·cases U;try simp only[bn,seval,-Int.reduceToNat,O,Zb,X]
       rw[an];refine⟨_,rfl,?_⟩;refine⟨ak,?_⟩;and_intros<;>first|rfl|(simp only[bn,seval,-Int.reduceToNat,O,Zb,X]<;>rfl)
    ·cases U;try simp only[bn,seval,-Int.reduceToNat,O,Zb]
     apply jv;refine⟨rfl,⟨ak,?_⟩⟩;and_intros<;>first|rfl|(simp only[bn,seval,-Int.reduceToNat,O,Zb]<;>rfl)
   ·rintro x t H e hx;rcases aJ with ar|rb
    ·dsimp only at hx U;obtain⟨rfl,⟨Z,ao⟩⟩:=hx;try simp only[bn,seval,-Int.reduceToNat,O,ao]
     obtain⟨aM,aG,U⟩:=ae U;refine bA 0 (fun s t H e=>match s with|aw=>∃ax:Nat,t 1=.ptr 1 ax 0∧t 4=.int .u64 ar∧t 38=.bool aw∧H 1=some ⟨ax,40,[.int .i64 Y.aj,.sl false false Y.aa.length (ab (eI .i64) Y.aa)],false,false,false⟩) (fun s=>s=aM) ?_ ?_
     ·rintro aw t H e ⟨ax,ad⟩ rfl;try dsimp only at U
      try simp only[bn,seval,-Int.reduceToNat,O,ad]
      apply sp al U<;>intro _ U
      ·cases U;try simp only[bn,seval,-Int.reduceToNat,O,ad]
      ·try simp only[bn,seval,-Int.reduceToNat,O,ad]
       apply sp eJ U<;>intro _ U
       ·try simp only[bn,seval,-Int.reduceToNat,O,ad]
        apply sp al U<;>intro _ U
        ·cases U;try simp only[bn,seval,-Int.reduceToNat,O,ad]
        ·cases U;try simp only[bn,seval,-Int.reduceToNat,O,ad]
       ·cases U;try simp only[bn,seval,-Int.reduceToNat,O,ad]
     ·clear U;have U:=aG;try simp only[bn,seval,-Int.reduceToNat,O,ao]
      apply sp eJ U<;>intro _ U
      ·cases U;try simp only[bn,seval,-Int.reduceToNat,O,ao]
       rw[an];refine⟨_,rfl,?_⟩;refine⟨Z,?_⟩;and_intros<;>first|rfl|(simp only[bn,seval,-Int.reduceToNat,O,ao]<;>rfl)
      ·cases U;try simp only[bn,seval,-Int.reduceToNat,O,ao]
       rw[an];refine⟨_,rfl,?_⟩;refine⟨Z,?_⟩;and_intros<;>first|rfl|(simp only[bn,seval,-Int.reduceToNat,O,ao]<;>rfl)
    ·dsimp only at hx U;obtain⟨rfl,hE⟩:=hx;cases U;try simp only[bg,aY,bk,cK,cJ,ca,cc]
     exact hE
 ·clear U;have U:=aI;try simp only[bn,seval,-Int.reduceToNat,O]
  apply sp aR U<;>intro _ U
  ·cases U;try simp only[bn,seval,-Int.reduceToNat,O]
   rw[an];refine⟨_,rfl,?_⟩;refine⟨0,?_⟩;and_intros<;>first|rfl|(simp only[bn,seval,-Int.reduceToNat,O]<;>rfl)
  ·cases U;try simp only[bn,seval,-Int.reduceToNat,O]
   rw[an];refine⟨_,rfl,?_⟩;refine⟨0,?_⟩;and_intros<;>first|rfl|(simp only[bn,seval,-Int.reduceToNat,O]<;>rfl)
def rz (l:Option (D×Row)) (d:List D):=dW (dS (bC dI)) (fun x:aD=>qT x) (fun r:Bool =>.clean (.bool r)) l d
def wI:Env:=(Am.ext bm 121 false uD)
theorem MP:bH prog wI:=(bH.none.add Ra false)
theorem xl:type_of% (ai @w<|ai @ru<|ai @uD.eq_1<|@wI.eq_1):=⟨@w,@ru,@uD.eq_1,@wI.eq_1⟩
theorem OB:bW prog 81 rz:=bW.gN (mode := .clean) tok MP mixed func81 (by kernel_rfl) (fun _ _=>rfl) (fun _=>by kernel_rfl) fun X r O=>by
 replace O:qT X=some r:=O;apply aH rfl ntmps81 results81;simp only[gR];unfold qT at O;obtain⟨Y,U,O⟩:=ae O;try simp only[xl,seval,U]
 apply sp eJ O<;>intro _ O
 ·cases O;try simp only[xl,seval,U]
 ·cases O;try simp only[xl,seval,U]
def bM (l:Option (D×Row)) (d:List D):=dW (dS (bC aG)) (fun x:aw=>dz x) (fun r:Bool =>.clean (.bool r)) l d
def rY:Env:=(Am.ext (Am.ext (Am.ext bm 79 false bs) 80 false lV) 81 false rz)
theorem FR:bH prog rY:=(((bH.none.add fU false).add Et false).add OB false)
theorem dD:type_of% (ai @w<|ai @ru<|ai @bs.eq_1<|ai @yN<|ai @lV.eq_1<|ai @rz.eq_1<|@rY.eq_1):=⟨@w,@ru,@bs.eq_1,@yN,@lV.eq_1,@rz.eq_1,@rY.eq_1⟩
theorem ia:bW prog 47 bM:=bW.gN (mode := .clean) tok FR mixed func47 (by kernel_rfl) (fun _ _=>rfl) (fun _=>by kernel_rfl) fun p0 r O=>by
 replace O:dz p0=some r:=O;apply aH rfl ntmps47 results47;simp only[gR];unfold dz at O;obtain⟨r1,U,O⟩:=ae O;try simp only[dD,seval,U]
 obtain⟨o2,ah,O⟩:=ae O;refine bA 0 (fun s t H e=>match s with|X=>∃Y:Nat,t 1=.ptr 1 Y 0∧t 20=.bool X∧H 1=some ⟨Y,42,[.int .i64 p0.cu.aj,.sl false false p0.cu.aa.length (ab (eI .i64) p0.cu.aa),.int .i64 p0.ct.aj,.sl false false p0.ct.aa.length (ab (eI .i64) p0.ct.aa)],false,false,false⟩) (fun s=>s=o2) ?_ ?_
 ·rintro X t H e ⟨Y,Z⟩ rfl;try dsimp only at O
  try simp only[dD,seval,U,Z]
  apply sp al O<;>intro _ O
  ·cases O;try simp only[dD,seval,U,Z]
  ·obtain⟨r4,ag,O⟩:=ae O;try simp only[dD,seval,U,Z,ag]
   apply sp eJ O<;>intro _ O
   ·obtain⟨r6,ai,O⟩:=ae O;cases O;try simp only[dD,seval,U,Z,ag,ai]
   ·cases O;try simp only[dD,seval,U,Z,ag]
 ·clear O;have O:=ah;try simp only[dD,seval,U]
  apply sp aR O<;>intro _ O
  ·cases O;try simp only[dD,seval,U]
   rw[an];refine⟨_,rfl,?_⟩;refine⟨0,?_⟩;and_intros<;>first|rfl|(simp only[dD,seval,U]<;>rfl)
  ·obtain⟨r8,ad,O⟩:=ae O;try simp only[dD,seval,U,ad]
   apply sp aR O<;>intro _ O
   ·cases O;try simp only[dD,seval,U,ad]
    rw[an];refine⟨_,rfl,?_⟩;refine⟨0,?_⟩;and_intros<;>first|rfl|(simp only[dD,seval,U,ad]<;>rfl)
   ·cases O;try simp only[dD,seval,U,ad]
    rw[an];refine⟨_,rfl,?_⟩;refine⟨0,?_⟩;and_intros<;>first|rfl|(simp only[dD,seval,U,ad]<;>rfl)
def du (l:Option (D×Row)) (d:List D):=dW (dS (bC aG)) (fun x:aw=>ir x) (fun r:Int =>.clean (.int .i64 r)) l d
def tI:Env:=(Am.ext bm 47 false bM)
theorem JY:bH prog tI:=(bH.none.add ia false)
theorem uw:type_of% (ai @w<|ai @B5<|ai @bM.eq_1<|@tI.eq_1):=⟨@w,@B5,@bM.eq_1,@tI.eq_1⟩
theorem lF:bW prog 48 du:=bW.gN (mode := .clean) tok JY mixed func48 (by kernel_rfl) (fun _ _=>rfl) (fun _=>by kernel_rfl) fun X r O=>by
 replace O:ir X=some r:=O;apply aH rfl ntmps48 results48;simp only[gR];unfold ir at O;obtain⟨Y,U,O⟩:=ae O;try simp only[uw,seval,U]
 apply sp al O<;>intro _ O
 ·cases O;try simp only[uw,seval,U]
 ·cases O;try simp only[uw,seval,U]
def uE (l:Option (D×Row)) (d:List D):=dW (iD (bC dI) (dS (bC dI))) (fun x:aD×aD=>uT x.1 x.2) (fun r:aD×Int =>.clean (.tup [.agg [.int .i64 r.1.aj,.sl false false r.1.aa.length (ab (eI .i64) r.1.aa)],.int .i64 r.2])) l d
def y8:Env:=(Am.ext (Am.ext (Am.ext (Am.ext bm 79 false bs) 87 false cg) 89 false ke) 126 false ow)
theorem QG:bH prog y8:=((((bH.none.add fU false).add iY false).add py false).add Ey false)
theorem jc:type_of% (ai @w<|ai @ru<|ai @bs.eq_1<|ai @B3<|ai @cg.eq_1<|ai @fw<|ai @B4<|ai @ow.eq_1<|@y8.eq_1):=⟨@w,@ru,@bs.eq_1,@B3,@cg.eq_1,@fw,@B4,@ow.eq_1,@y8.eq_1⟩
theorem Rb:bW prog 93 uE:=bW.gN (mode := .clean) tok QG mixed func93 (by kernel_rfl) (fun _ _=>rfl) (fun _=>by kernel_rfl) fun⟨p0,p1⟩ r O=>by
 replace O:uT p0 p1=some r:=O;apply aH rfl ntmps93 results93;simp only[gR];unfold uT at O;obtain⟨r1,U,O⟩:=ae O;try simp only[jc,seval,U]
 obtain⟨o2,aq,O⟩:=ae O;refine bA 0 (fun s t H e=>match s with|X=>∃Y:Nat,∃Z:Nat,∃ad:Nat,t 2=.ptr 2 Y 0∧t 3=.ptr 3 Z 0∧t 4=.ptr 4 ad 0∧t 13=.bool X∧H 2=some ⟨Y,40,[.int .i64 p0.aj,.sl false false p0.aa.length (ab (eI .i64) p0.aa)],false,false,false⟩∧H 3=some ⟨Z,40,[.int .i64 p1.aj,.sl false false p1.aa.length (ab (eI .i64) p1.aa)],false,false,false⟩∧H 4=some ⟨ad,40,[.int .i64 0,.sl true true 0 []],false,false,false⟩) (fun s=>s=o2) ?_ ?_
 ·rintro X t H e ⟨Y,Z,ad,ag⟩ rfl;try dsimp only at O
  try simp only[jc,seval,U,ag]
  apply sp al O<;>intro _ O
  ·have i4:=fw false 0 ([]);simp only[bj,bZ,List.length_cons,List.length_nil,ahr,Nat.reduceAdd,aiK]at i4;obtain⟨r5,ar,O⟩:=ae O;cases O;try simp only[jc,seval,U,ag,i4,ar]
  ·obtain⟨r6,ai,O⟩:=ae O;obtain⟨r7,ak,O⟩:=ae O;obtain⟨r8,ao,O⟩:=ae O;try simp only[jc,seval,U,ag,ai,ak,ao]
   refine bJ (by kernel_rfl) ?_;cases O;try simp only[jc,seval,U,ag,ai,ak,ao]
 ·clear O;have O:=aq;try simp only[jc,seval,U]
  apply sp aR O<;>intro _ O
  ·cases O;try simp only[jc,seval,U]
   rw[an];refine⟨_,rfl,?_⟩;refine⟨0,0,0,?_⟩;and_intros<;>first|rfl|(simp only[jc,seval,U]<;>rfl)
  ·obtain⟨au,ah,O⟩:=ae O;cases O;try simp only[jc,seval,U,ah]
   rw[an];refine⟨_,rfl,?_⟩;refine⟨0,0,0,?_⟩;and_intros<;>first|rfl|(simp only[jc,seval,U,ah]<;>rfl)
def fu (l:Option (D×Row)) (d:List D):=dW (iD (bC dI) (dS (bC dI))) (fun x:aD×aD=>db x.1 x.2) (fun r:aD =>.clean (.agg [.int .i64 r.aj,.sl false false r.aa.length (ab (eI .i64) r.aa)])) l d
def rZ:Env:=(Am.ext bm 93 false uE)
theorem FT:bH prog rZ:=(bH.none.add Rb false)
theorem KV:type_of% (ai @w<|ai @yN<|ai @uE.eq_1<|@rZ.eq_1):=⟨@w,@yN,@uE.eq_1,@rZ.eq_1⟩
theorem qH:bW prog 57 fu:=bW.gN (mode := .clean) tok FT mixed func57 (by kernel_rfl) (fun _ _=>rfl) (fun _=>by kernel_rfl) fun⟨X,Y⟩ r O=>by
 replace O:db X Y=some r:=O;apply aH rfl ntmps57 results57;simp only[gR];unfold db at O;obtain⟨Z,U,O⟩:=ae O;cases O;try simp only[KV,seval,U]
def xp (l:Option (D×Row)) (d:List D):=dW (dS (mP (eI .i64))) (fun x:(List Int)=>tn x) (fun r:Int =>.clean (.int .i64 r)) l d
theorem Ip:bW prog 75 xp:=bW.gN (mode := .clean) tok bH.none mixed func75 (by kernel_rfl) (fun _ _=>rfl) (fun _=>by kernel_rfl) fun Z r O=>by
 replace O:tn Z=some r:=O;apply aH rfl ntmps75 results75;simp only[gR];unfold tn at O;try simp only[w,seval]
 obtain⟨o4,aa,O⟩:=ae O;refine aB (fun s t H e=>match s with|Y=>t 3=.int .i64 0∧t 6=.sl false false Z.length (ab (eI .i64) Z)∧t 7=.int .i64 (Z.length:Int)∧t 8=.int .i64 Y) (fun o x t H e=>match o with|(.inl _)=>x=.exit 0∧t 3=.int .i64 0|(.inr r)=>x=.ret∧fF .clean tab none [.tmp 2] ⟨t,EH H,e⟩=some (.clean (.int .i64 r),none)) aa ?_ ?_ ?_
 ·and_intros<;>first|rfl|(simp only[w,seval]<;>rfl)
 ·rintro Y t H e X c O;simp only[uX]at O;try simp only[w,seval,X]
  apply sp al O<;>intro _ O
  ·obtain⟨x6,ad,O⟩:=ae O;have U:=bo (eI .i64) ad;simp only[bZ]at U;try simp only[w,seval,X,U]
   apply sp al O<;>intro _ O
   ·cases O;try simp only[w,seval,X,U]
    refine rq ⟨rfl,?_⟩;try simp only[w,seval,X,U]
   ·cases O;try simp only[w,seval,X,U]
    apply iu;and_intros<;>first|rfl|(simp only[w,seval,X,U]<;>rfl)
  ·cases O;try simp only[w,seval,X]
   apply jv;refine⟨rfl,?_⟩;and_intros<;>first|rfl|(simp only[w,seval,X]<;>rfl)
 ·rintro x t H e hx;rcases o4 with _|ra
  ·dsimp only at hx O;obtain⟨rfl,ag⟩:=hx;cases O;try simp only[w,seval,ag]
  ·dsimp only at hx O;obtain⟨rfl,hE⟩:=hx;cases O;try simp only[bg,aY,bk,cK,cJ,ca,cc]
   exact hE
def ov (l:Option (D×Row)) (d:List D):=dW (iD (mP (eI .i64)) (dS (mP (eI .i64)))) (fun x:(List Int)×(List Int)=>pV x.1 x.2) (fun r:(List Int) =>.clean (.sl false false r.length (ab (eI .i64) r))) l d
def za:Env:=(Am.ext bm 125 false ff)
theorem QI:bH prog za:=(bH.none.add nh false)
theorem dF:type_of% (ai @w<|ai @mz<|@za.eq_1):=⟨@w,@mz,@za.eq_1⟩
theorem Ev:bW prog 90 ov:=bW.gN (mode := .clean) tok QI mixed func90 (by kernel_rfl) (fun _ _=>rfl) (fun _=>by kernel_rfl) fun⟨p0,p1⟩ r U=>by
 replace U:pV p0 p1=some r:=U;apply aH rfl ntmps90 results90;simp only[gR];unfold pV at U;try simp only[dF,seval,-Int.reduceToNat]
 obtain⟨o1,aR,U⟩:=ae U;refine ki 0 (fun s t H e=>match s with|(O,ah)=>t 0=.sl false false O.length (ab (eI .i64) O)∧t 1=.sl false false ah.length (ab (eI .i64) ah)) (fun s=>s=o1) ?_ ?_
 ·rintro⟨O,ah⟩ t H e aG rfl;try dsimp only at U
  obtain⟨x2,aS,U⟩:=ae U;obtain⟨Y,Z,aa,X,ad⟩:=mk_one (eI .i64) aS;simp only[bZ]at X;try simp only[dF,seval,-Int.reduceToNat,aG,Y,Z,aa,X,ad]
  obtain⟨aT,aI,U⟩:=ae U;refine aB (fun s t H e=>match s with|(aJ,aj,au)=>∃ar:Nat,t 0=.sl false false O.length (ab (eI .i64) O)∧t 1=.sl false false ah.length (ab (eI .i64) ah)∧t 5=.buf 5 ar 1 0 (au).length∧t 6=.int .i64 aJ∧t 20=.sl false false O.length (ab (eI .i64) O)∧t 21=.int .i64 (O.length:Int)∧t 22=.int .i64 aj∧H 5=some ⟨ar,3,ab (eI .i64) au,false,true,false⟩) (fun o x t H e=>match o with|(ai,ak)=>x=.exit 0∧∃av:Nat,t 0=.sl false false O.length (ab (eI .i64) O)∧t 5=.buf 5 av 1 0 (ak).length∧t 6=.int .i64 ai∧H 5=some ⟨av,3,ab (eI .i64) ak,false,true,false⟩) aI ?_ ?_ ?_
  ·refine⟨e,?_⟩;and_intros<;>first|rfl|(simp only[dF,seval,-Int.reduceToNat,aG,Y,Z,aa,X,ad]<;>rfl)
  ·rintro⟨aJ,aj,au⟩ t H e ⟨ar,Zb⟩ c U;simp only[oS]at U;try simp only[dF,seval,-Int.reduceToNat,Y,Z,aa,X,ad,Zb]
   apply sp al U<;>intro _ U
   ·obtain⟨aW,aK,U⟩:=ae U;have ag:=bo (eI .i64) aK;simp only[bZ]at ag;try simp only[dF,seval,-Int.reduceToNat,Y,Z,aa,X,ad,Zb,ag]
    obtain⟨aU,aL,U⟩:=ae U;refine ki 0 (fun s t H e=>match s with|ao=>∃aq:Nat,t 0=.sl false false O.length (ab (eI .i64) O)∧t 1=.sl false false ah.length (ab (eI .i64) ah)∧t 5=.buf 5 aq 1 0 (au).length∧t 6=.int .i64 ao∧t 7=.int .i64 aj∧t 20=.sl false false O.length (ab (eI .i64) O)∧t 21=.int .i64 (O.length:Int)∧t 22=.int .i64 aj∧H 5=some ⟨aq,3,ab (eI .i64) au,false,true,false⟩) (fun s=>s=aU) ?_ ?_
    ·rintro ao t H e ⟨aq,aM⟩ rfl;try dsimp only at U
     obtain⟨aX,aA,U⟩:=ae U;have aw:=bo (eI .i64) aA;simp only[bZ]at aw;have az:=fW (eI .i64) (x':=j0 .and .i64 ao 1048575) (fo:=0) (cs:=[.int .i64 (j0 .and .i64 ao 1048575)]) aA rfl (ais rfl);simp only[bZ,Nat.add_zero]at az;have ax:=az;simp only[putCells,List.length_cons,List.length_nil,ahr,Nat.reduceAdd]at ax;obtain⟨aY,aN,U⟩:=ae U;have aO:=vt aN;cases U;try simp only[dF,seval,-Int.reduceToNat,Y,Z,aa,X,ad,ag,aM,aw,az,ax,aO]
     apply iu;refine⟨aq,?_⟩;and_intros<;>first|rfl|(simp only[dF,seval,-Int.reduceToNat,Y,Z,aa,X,ad,ag,aM,aw,az,ax,aO]<;>rfl)
    ·clear U;have U:=aL;try simp only[dF,seval,-Int.reduceToNat,Y,Z,aa,X,ad,Zb,ag]
     apply sp al U<;>intro _ U
     ·obtain⟨aZ,aP,U⟩:=ae U;have ay:=bo (eI .i64) aP;simp only[bZ]at ay;cases U;try simp only[dF,seval,-Int.reduceToNat,Y,Z,aa,X,ad,Zb,ag,ay]
      rw[an];refine⟨_,rfl,?_⟩;refine⟨ar,?_⟩;and_intros<;>first|rfl|(simp only[dF,seval,-Int.reduceToNat,Y,Z,aa,X,ad,Zb,ag,ay]<;>rfl)
     ·cases U;try simp only[dF,seval,-Int.reduceToNat,Y,Z,aa,X,ad,Zb,ag]
      rw[an];refine⟨_,rfl,?_⟩;refine⟨ar,?_⟩;and_intros<;>first|rfl|(simp only[dF,seval,-Int.reduceToNat,Y,Z,aa,X,ad,Zb,ag]<;>rfl)
   ·cases U;try simp only[dF,seval,-Int.reduceToNat,Y,Z,aa,X,ad,Zb]
    apply jv;refine⟨rfl,⟨ar,?_⟩⟩;and_intros<;>first|rfl|(simp only[dF,seval,-Int.reduceToNat,Y,Z,aa,X,ad,Zb]<;>rfl)
  ·rintro x t H e hx;rcases aT with⟨ai,ak⟩;dsimp only at hx U;obtain⟨rfl,⟨av,aV⟩⟩:=hx;obtain⟨a1,aC,U⟩:=ae U;have aD:=bo (eI .i64) aC;simp only[bZ]at aD;have aF:=fW (eI .i64) (x':=ai) (fo:=0) (cs:=[.int .i64 ai]) aC rfl (ais rfl);simp only[bZ,Nat.add_zero]at aF;have aE:=aF;simp only[putCells,List.length_cons,List.length_nil,ahr,Nat.reduceAdd]at aE;have i25:=mz (ak.set ((O.length:Int)).toNat ai);simp only[bj,bZ,List.length_cons,List.length_nil,ahr,Nat.reduceAdd,aiK]at i25;obtain⟨a6,aQ,U⟩:=ae U;cases U;try simp only[dF,seval,-Int.reduceToNat,Y,Z,aa,X,ad,aV,aD,aF,aE,i25,aQ]
 ·clear U;have U:=aR;try simp only[dF,seval,-Int.reduceToNat]
  apply sp al U<;>intro _ U
  ·cases U;try simp only[dF,seval,-Int.reduceToNat]
   rw[an];refine⟨_,rfl,?_⟩;and_intros<;>first|rfl|(simp only[dF,seval,-Int.reduceToNat]<;>rfl)
  ·cases U;try simp only[dF,seval,-Int.reduceToNat]
   rw[an];refine⟨_,rfl,?_⟩;and_intros<;>first|rfl|(simp only[dF,seval,-Int.reduceToNat]<;>rfl)
def lY (l:Option (D×Row)) (d:List D):=dW (iD (mP (eI .i64)) (dS (mP (eI .i64)))) (fun x:(List Int)×(List Int)=>pW x.1 x.2) (fun r:(List Int) =>.clean (.sl false false r.length (ab (eI .i64) r))) l d
def zd:Env:=(Am.ext (Am.ext bm 88 false il) 125 false ff)
theorem QL:bH prog zd:=((bH.none.add kx false).add nh false)
theorem fK:type_of% (ai @w<|ai @fE<|ai @Ud<|ai @ff.eq_1<|@zd.eq_1):=⟨@w,@fE,@Ud,@ff.eq_1,@zd.eq_1⟩
theorem Ez:bW prog 92 lY:=bW.gN (mode := .clean) tok QL mixed func92 (by kernel_rfl) (fun _ _=>rfl) (fun _=>by kernel_rfl) fun⟨p0,p1⟩ r U=>by
 replace U:pW p0 p1=some r:=U;apply aH rfl ntmps92 results92;simp only[gR];unfold pW at U;obtain⟨r1,X,U⟩:=ae U;try simp only[fK,seval,-Int.reduceToNat,X]
 obtain⟨aC,ar,U⟩:=ae U;refine aB (fun s t H e=>match s with|(au,Y,ag)=>∃ad:Nat,t 1=.sl false false p1.length (ab (eI .i64) p1)∧t 5=.buf 5 ad 1 0 (ag).length∧t 6=.int .i64 au∧t 12=.int .i64 ((r1).length:Int)∧t 13=.int .i64 Y∧H 5=some ⟨ad,3,ab (eI .i64) ag,false,true,false⟩) (fun o x t H e=>match o with|ah=>x=.exit 0∧∃ai:Nat,t 5=.buf 5 ai 1 0 (ah).length∧H 5=some ⟨ai,3,ab (eI .i64) ah,false,true,false⟩) ar ?_ ?_ ?_
 ·refine⟨1,?_⟩;and_intros<;>first|rfl|(simp only[fK,seval,-Int.reduceToNat,X]<;>rfl)
 ·rintro⟨au,Y,ag⟩ t H e ⟨ad,Za⟩ c U;simp only[rR]at U;try simp only[fK,seval,-Int.reduceToNat,X,Za]
  apply sp al U<;>intro _ U
  ·obtain⟨aF,aj,U⟩:=ae U;have O:=bo (eI .i64) aj;simp only[bZ]at O;try simp only[fK,seval,-Int.reduceToNat,X,Za,O]
   obtain⟨aD,av,U⟩:=ae U;refine ki 0 (fun s t H e=>match s with|Z=>∃aa:Nat,t 1=.sl false false p1.length (ab (eI .i64) p1)∧t 5=.buf 5 aa 1 0 (ag).length∧t 7=.int .i64 Y∧t 8=.int .i64 Z∧t 12=.int .i64 ((r1).length:Int)∧t 13=.int .i64 Y∧H 5=some ⟨aa,3,ab (eI .i64) ag,false,true,false⟩) (fun s=>s=aD) ?_ ?_
   ·rintro Z t H e ⟨aa,aw⟩ rfl;try dsimp only at U
    obtain⟨aG,ax,U⟩:=ae U;have ay:=vt ax;have O:=bo (eI .i64) aj;simp only[bZ]at O;have aq:=fW (eI .i64) (x':=j0 .and .i64 Z 1048575) (fo:=0) (cs:=[.int .i64 (j0 .and .i64 Z 1048575)]) aj rfl (ais rfl);simp only[bZ,Nat.add_zero]at aq;have ak:=aq;simp only[putCells,List.length_cons,List.length_nil,ahr,Nat.reduceAdd]at ak;cases U;try simp only[fK,seval,-Int.reduceToNat,X,O,aw,ay,O,aq,ak]
    apply iu;refine⟨aa,?_⟩;and_intros<;>first|rfl|(simp only[fK,seval,-Int.reduceToNat,X,O,aw,ay,O,aq,ak]<;>rfl)
   ·clear U;have U:=av;try simp only[fK,seval,-Int.reduceToNat,X,Za,O]
    apply sp al U<;>intro _ U
    ·obtain⟨aI,az,U⟩:=ae U;have ao:=bo (eI .i64) az;simp only[bZ]at ao;cases U;try simp only[fK,seval,-Int.reduceToNat,X,Za,O,ao]
     rw[an];refine⟨_,rfl,?_⟩;refine⟨ad,?_⟩;and_intros<;>first|rfl|(simp only[fK,seval,-Int.reduceToNat,X,Za,O,ao]<;>rfl)
    ·cases U;try simp only[fK,seval,-Int.reduceToNat,X,Za,O]
     rw[an];refine⟨_,rfl,?_⟩;refine⟨ad,?_⟩;and_intros<;>first|rfl|(simp only[fK,seval,-Int.reduceToNat,X,Za,O]<;>rfl)
  ·cases U;try simp only[fK,seval,-Int.reduceToNat,X,Za]
   apply jv;refine⟨rfl,⟨ad,?_⟩⟩;and_intros<;>first|rfl|(simp only[fK,seval,-Int.reduceToNat,X,Za]<;>rfl)
 ·rintro x t H e hx;obtain⟨ah,rfl⟩:∃z,z=aC:=⟨_,rfl⟩;dsimp only at hx U;obtain⟨rfl,⟨ai,aE⟩⟩:=hx;obtain⟨aJ,aA,U⟩:=ae U;cases U;try simp only[fK,seval,-Int.reduceToNat,X,aE,aA]
def uB (l:Option (D×Row)) (d:List D):=dW (iD (bC dI) (dS (bC dI))) (fun x:aD×aD=>uR x.1 x.2) (fun r:aD×Int =>.clean (.tup [.agg [.int .i64 r.1.aj,.sl false false r.1.aa.length (ab (eI .i64) r.1.aa)],.int .i64 r.2])) l d
theorem q8 (O:(List Int)):xp none [.sl false false O.length (ab (eI .i64) O)]=(tn O).map fun r:Int=>(.clean (.int .i64 r),none):=cU _ _ _ (O)
def y4:Env:=(Am.ext (Am.ext (Am.ext (Am.ext (Am.ext (Am.ext (Am.ext bm 75 false xp) 79 false bs) 87 false cg) 89 false ke) 90 false ov) 91 false eQ) 92 false lY)
theorem QC:bH prog y4:=(((((((bH.none.add Ip false).add fU false).add iY false).add py false).add Ev false).add pz false).add Ez false)
theorem eY:type_of% (ai @w<|ai @q8<|ai @ru<|ai @bs.eq_1<|ai @B3<|ai @cg.eq_1<|ai @fw<|ai @B4<|ai @ov.eq_1<|ai @eQ.eq_1<|ai @lY.eq_1<|@y4.eq_1):=⟨@w,@q8,@ru,@bs.eq_1,@B3,@cg.eq_1,@fw,@B4,@ov.eq_1,@eQ.eq_1,@lY.eq_1,@y4.eq_1⟩
theorem Q8:bW prog 56 uB:=bW.gN (mode := .clean) tok QC mixed func56 (by kernel_rfl) (fun _ _=>rfl) (fun _=>by kernel_rfl) fun⟨p0,p1⟩ r O=>by
 replace O:uR p0 p1=some r:=O;apply aH rfl ntmps56 results56;simp only[gR];unfold uR at O;obtain⟨r1,U,O⟩:=ae O;try simp only[eY,seval,U]
 obtain⟨o2,aA,O⟩:=ae O;refine bA 0 (fun s t H e=>match s with|Z=>∃ad:Nat,∃ag:Nat,∃ah:Nat,t 2=.ptr 2 ad 0∧t 3=.ptr 3 ag 0∧t 4=.ptr 4 ah 0∧t 13=.bool Z∧H 2=some ⟨ad,40,[.int .i64 p0.aj,.sl false false p0.aa.length (ab (eI .i64) p0.aa)],false,false,false⟩∧H 3=some ⟨ag,40,[.int .i64 p1.aj,.sl false false p1.aa.length (ab (eI .i64) p1.aa)],false,false,false⟩∧H 4=some ⟨ah,40,[.int .i64 0,.sl true true 0 []],false,false,false⟩) (fun s=>s=o2) ?_ ?_
 ·rintro Z t H e ⟨ad,ag,ah,X⟩ rfl;try dsimp only at O
  try simp only[eY,seval,U,X]
  apply sp al O<;>intro _ O
  ·have i4:=fw false 0 ([]);simp only[bj,bZ,List.length_cons,List.length_nil,ahr,Nat.reduceAdd,aiK]at i4;obtain⟨r5,aB,O⟩:=ae O;cases O;try simp only[eY,seval,U,X,i4,aB]
  ·try simp only[eY,seval,U,X]
   apply sp al O<;>intro _ O
   ·have i7:=q8 ([p0.aj,p1.aj]);simp only[bj,bZ,List.length_cons,List.length_nil,ahr,Nat.reduceAdd,aiK]at i7;obtain⟨r8,ay,O⟩:=ae O;obtain⟨r9,az,O⟩:=ae O;obtain⟨aC,ai,O⟩:=ae O;obtain⟨aD,ak,O⟩:=ae O;try simp only[eY,seval,U,X,i7,ay,az,ai,ak]
    refine bJ (by kernel_rfl) ?_;cases O;try simp only[eY,seval,U,X,i7,ay,az,ai,ak]
   ·obtain⟨aE,Y,O⟩:=ae O;try simp only[eY,seval,U,X,Y]
    apply sp al O<;>intro _ O
    ·obtain⟨aF,ao,O⟩:=ae O;obtain⟨aG,aq,O⟩:=ae O;obtain⟨aI,ar,O⟩:=ae O;try simp only[eY,seval,U,X,Y,ao,aq,ar]
     refine bJ (by kernel_rfl) ?_;cases O;try simp only[eY,seval,U,X,Y,ao,aq,ar]
    ·obtain⟨aJ,au,O⟩:=ae O;obtain⟨aK,av,O⟩:=ae O;obtain⟨aL,aw,O⟩:=ae O;try simp only[eY,seval,U,X,Y,au,av,aw]
     refine bJ (by kernel_rfl) ?_;cases O;try simp only[eY,seval,U,X,Y,au,av,aw]
 ·clear O;have O:=aA;try simp only[eY,seval,U]
  apply sp aR O<;>intro _ O
  ·cases O;try simp only[eY,seval,U]
   rw[an];refine⟨_,rfl,?_⟩;refine⟨0,0,0,?_⟩;and_intros<;>first|rfl|(simp only[eY,seval,U]<;>rfl)
  ·obtain⟨aM,ax,O⟩:=ae O;cases O;try simp only[eY,seval,U,ax]
   rw[an];refine⟨_,rfl,?_⟩;refine⟨0,0,0,?_⟩;and_intros<;>first|rfl|(simp only[eY,seval,U,ax]<;>rfl)
def lW (l:Option (D×Row)) (d:List D):=dW (dS (bC dI)) (fun x:aD=>nR x) (fun r:aD =>.clean (.agg [.int .i64 r.aj,.sl false false r.aa.length (ab (eI .i64) r.aa)])) l d
def y9:Env:=(Am.ext (Am.ext (Am.ext bm 79 false bs) 87 false cg) 88 false il)
theorem QH:bH prog y9:=(((bH.none.add fU false).add iY false).add kx false)
theorem vA:type_of% (ai @w<|ai @ru<|ai @bs.eq_1<|ai @B3<|ai @cg.eq_1<|ai @fE<|@y9.eq_1):=⟨@w,@ru,@bs.eq_1,@B3,@cg.eq_1,@fE,@y9.eq_1⟩
theorem Eu:bW prog 55 lW:=bW.gN (mode := .clean) tok QH mixed func55 (by kernel_rfl) (fun _ _=>rfl) (fun _=>by kernel_rfl) fun Z r O=>by
 replace O:nR Z=some r:=O;apply aH rfl ntmps55 results55;simp only[gR];unfold nR at O;obtain⟨r1,U,O⟩:=ae O;try simp only[vA,seval,U]
 apply sp al O<;>intro _ O
 ·cases O;try simp only[vA,seval,U]
 ·obtain⟨r3,X,O⟩:=ae O;obtain⟨r4,Y,O⟩:=ae O;try simp only[vA,seval,U,X,Y]
  refine bJ (by kernel_rfl) ?_;cases O;try simp only[vA,seval,U,X,Y]
def uC (l:Option (D×Row)) (d:List D):=dW (iD (bC dI) (dS (bC dI))) (fun x:aD×aD=>nQ x.1 x.2) (fun r:aD×aD×Int =>.clean (.tup [.agg [.int .i64 r.1.aj,.sl false false r.1.aa.length (ab (eI .i64) r.1.aa)],.agg [.int .i64 r.2.1.aj,.sl false false r.2.1.aa.length (ab (eI .i64) r.2.1.aa)],.int .i64 r.2.2])) l d
theorem zI (O:(List Int)) (U:(List Int)):ov none [.sl false false O.length (ab (eI .i64) O),.sl false false U.length (ab (eI .i64) U)]=(pV O U).map fun r:(List Int)=>(.clean (.sl false false r.length (ab (eI .i64) r)),none):=cU _ _ _ (O,U)
def y5:Env:=(Am.ext (Am.ext (Am.ext (Am.ext (Am.ext bm 79 false bs) 87 false cg) 90 false ov) 92 false lY) 120 false lX)
theorem QD:bH prog y5:=(((((bH.none.add fU false).add iY false).add Ev false).add Ez false).add Ew false)
theorem dr:type_of% (ai @w<|ai @ru<|ai @bs.eq_1<|ai @B3<|ai @cg.eq_1<|ai @zI<|ai @B4<|ai @lY.eq_1<|ai @lX.eq_1<|@y5.eq_1):=⟨@w,@ru,@bs.eq_1,@B3,@cg.eq_1,@zI,@B4,@lY.eq_1,@lX.eq_1,@y5.eq_1⟩
theorem Q9:bW prog 94 uC:=bW.gN (mode := .clean) tok QD mixed func94 (by kernel_rfl) (fun _ _=>rfl) (fun _=>by kernel_rfl) fun⟨p0,p1⟩ r O=>by
 replace O:nQ p0 p1=some r:=O;apply aH rfl ntmps94 results94;simp only[gR];unfold nQ at O;obtain⟨r1,U,O⟩:=ae O;try simp only[dr,seval,U]
 obtain⟨o2,aD,O⟩:=ae O;refine bA 0 (fun s t H e=>match s with|av=>∃Z:Nat,∃ad:Nat,∃ag:Nat,∃ah:Nat,t 2=.ptr 2 Z 0∧t 3=.ptr 3 ad 0∧t 4=.ptr 4 ag 0∧t 5=.ptr 5 ah 0∧t 9=.bool av∧H 2=some ⟨Z,40,[.int .i64 p0.aj,.sl false false p0.aa.length (ab (eI .i64) p0.aa)],false,false,false⟩∧H 3=some ⟨ad,40,[.int .i64 p1.aj,.sl false false p1.aa.length (ab (eI .i64) p1.aa)],false,false,false⟩∧H 4=some ⟨ag,40,[.int .i64 0,.sl true true 0 []],false,false,false⟩∧H 5=some ⟨ah,40,[.int .i64 0,.sl true true 0 []],false,false,false⟩) (fun s=>s=o2) ?_ ?_
 ·rintro av t H e ⟨Z,ad,ag,ah,Y⟩ rfl;try dsimp only at O
  try simp only[dr,seval,U,Y]
  apply sp al O<;>intro _ O
  ·cases O;try simp only[dr,seval,U,Y]
  ·try simp only[dr,seval,U,Y]
   apply sp al O<;>intro _ O
   ·cases O;try simp only[dr,seval,U,Y]
   ·obtain⟨r5,X,O⟩:=ae O;try simp only[dr,seval,U,Y,X]
    obtain⟨o6,aE,O⟩:=ae O;refine bA 0 (fun s t H e=>match s with|ai=>∃ak:Nat,∃ao:Nat,∃aq:Nat,∃ar:Nat,t 2=.ptr 2 ak 0∧t 3=.ptr 3 ao 0∧t 4=.ptr 4 aq 0∧t 5=.ptr 5 ar 0∧t 7=.sl false false r5.1.length (ab (eI .i64) r5.1)∧t 8=.sl false false r5.2.length (ab (eI .i64) r5.2)∧t 44=.bool ai∧H 2=some ⟨ak,40,[.int .i64 p0.aj,.sl false false p0.aa.length (ab (eI .i64) p0.aa)],false,false,false⟩∧H 3=some ⟨ao,40,[.int .i64 p1.aj,.sl false false p1.aa.length (ab (eI .i64) p1.aa)],false,false,false⟩∧H 4=some ⟨aq,40,[.int .i64 0,.sl true true 0 []],false,false,false⟩∧H 5=some ⟨ar,40,[.int .i64 0,.sl true true 0 []],false,false,false⟩) (fun s=>s=o6) ?_ ?_
    ·rintro ai t H e ⟨ak,ao,aq,ar,au⟩ rfl;try dsimp only at O
     try simp only[dr,seval,U,X,au]
     apply sp al O<;>intro _ O
     ·have i8:=zI r5.1 ([1]);simp only[bj,bZ,List.length_cons,List.length_nil,ahr,Nat.reduceAdd,aiK]at i8;obtain⟨r9,aC,O⟩:=ae O;obtain⟨aF,aw,O⟩:=ae O;obtain⟨aG,ax,O⟩:=ae O;obtain⟨aI,ay,O⟩:=ae O;try simp only[dr,seval,U,X,au,i8,aC,aw,ax,ay]
      refine bJ (by kernel_rfl) ?_;cases O;try simp only[dr,seval,U,X,au,i8,aC,aw,ax,ay]
     ·obtain⟨aJ,az,O⟩:=ae O;obtain⟨aK,aA,O⟩:=ae O;try simp only[dr,seval,U,X,au,az,aA]
      refine bJ (by kernel_rfl) ?_;cases O;try simp only[dr,seval,U,X,au,az,aA]
    ·clear O;have O:=aE;try simp only[dr,seval,U,Y,X]
     apply sp eJ O<;>intro _ O
     ·cases O;try simp only[dr,seval,U,Y,X]
      rw[an];refine⟨_,rfl,?_⟩;refine⟨Z,ad,ag,ah,?_⟩;and_intros<;>first|rfl|(simp only[dr,seval,U,Y,X]<;>rfl)
     ·cases O;try simp only[dr,seval,U,Y,X]
      rw[an];refine⟨_,rfl,?_⟩;refine⟨Z,ad,ag,ah,?_⟩;and_intros<;>first|rfl|(simp only[dr,seval,U,Y,X]<;>rfl)
 ·clear O;have O:=aD;try simp only[dr,seval,U]
  apply sp aR O<;>intro _ O
  ·cases O;try simp only[dr,seval,U]
   rw[an];refine⟨_,rfl,?_⟩;refine⟨0,0,0,0,?_⟩;and_intros<;>first|rfl|(simp only[dr,seval,U]<;>rfl)
  ·obtain⟨aL,aB,O⟩:=ae O;cases O;try simp only[dr,seval,U,aB]
   rw[an];refine⟨_,rfl,?_⟩;refine⟨0,0,0,0,?_⟩;and_intros<;>first|rfl|(simp only[dr,seval,U,aB]<;>rfl)
def gU (l:Option (D×Row)) (d:List D):=dW (iD (bC dI) (dS (bC dI))) (fun x:aD×aD=>mV x.1 x.2) (fun r:aw×Int =>.clean (.tup [.agg [.int .i64 r.1.cu.aj,.sl false false r.1.cu.aa.length (ab (eI .i64) r.1.cu.aa),.int .i64 r.1.ct.aj,.sl false false r.1.ct.aa.length (ab (eI .i64) r.1.ct.aa)],.int .i64 r.2])) l d
def wG:Env:=(Am.ext (Am.ext (Am.ext (Am.ext bm 55 false lW) 79 false bs) 80 false lV) 94 false uC)
theorem MN:bH prog wG:=((((bH.none.add Eu false).add fU false).add Et false).add Q9 false)
theorem dA:type_of% (ai @w<|ai @ru<|ai @lW.eq_1<|ai @bs.eq_1<|ai @yN<|ai @lV.eq_1<|ai @uC.eq_1<|@wG.eq_1):=⟨@w,@ru,@lW.eq_1,@bs.eq_1,@yN,@lV.eq_1,@uC.eq_1,@wG.eq_1⟩
theorem tZ:bW prog 58 gU:=bW.gN (mode := .clean) tok MN mixed func58 (by kernel_rfl) (fun _ _=>rfl) (fun _=>by kernel_rfl) fun⟨p0,p1⟩ r O=>by
 replace O:mV p0 p1=some r:=O;apply aH rfl ntmps58 results58;simp only[gR];unfold mV at O;obtain⟨r1,U,O⟩:=ae O;try simp only[dA,seval,U]
 obtain⟨o2,ay,O⟩:=ae O;refine bA 0 (fun s t H e=>match s with|ao=>∃ad:Nat,∃ag:Nat,∃ah:Nat,t 2=.ptr 2 ad 0∧t 3=.ptr 3 ag 0∧t 4=.ptr 4 ah 0∧t 14=.bool ao∧H 2=some ⟨ad,40,[.int .i64 p0.aj,.sl false false p0.aa.length (ab (eI .i64) p0.aa)],false,false,false⟩∧H 3=some ⟨ag,40,[.int .i64 p1.aj,.sl false false p1.aa.length (ab (eI .i64) p1.aa)],false,false,false⟩∧H 4=some ⟨ah,42,[.int .i64 0,.sl true true 0 [],.int .i64 0,.sl true true 0 []],false,false,false⟩) (fun s=>s=o2) ?_ ?_
 ·rintro ao t H e ⟨ad,ag,ah,X⟩ rfl;try dsimp only at O
  try simp only[dA,seval,U,X]
  apply sp al O<;>intro _ O
  ·cases O;try simp only[dA,seval,U,X]
  ·try simp only[dA,seval,U,X]
   apply sp al O<;>intro _ O
   ·cases O;try simp only[dA,seval,U,X]
   ·try simp only[dA,seval,U,X]
    obtain⟨o5,az,O⟩:=ae O;refine ki 0 (fun s t H e=>match s with|(ai,Y,ak,Z)=>∃aq:Nat,∃ar:Nat,∃au:Nat,t 2=.ptr 2 aq 0∧t 3=.ptr 3 ar 0∧t 4=.ptr 4 au 0∧H 2=some ⟨aq,40,[.int .i64 ai,.sl false false Y.length (ab (eI .i64) Y)],false,false,false⟩∧H 3=some ⟨ar,40,[.int .i64 ak,.sl false false Z.length (ab (eI .i64) Z)],false,false,false⟩∧H 4=some ⟨au,42,[.int .i64 0,.sl true true 0 [],.int .i64 0,.sl true true 0 []],false,false,false⟩) (fun s=>s=o5) ?_ ?_
    ·rintro⟨ai,Y,ak,Z⟩ t H e ⟨aq,ar,au,aA⟩ rfl;try dsimp only at O
     obtain⟨r6,aB,O⟩:=ae O;obtain⟨r7,aC,O⟩:=ae O;obtain⟨r8,aD,O⟩:=ae O;cases O;try simp only[dA,seval,U,aA,aB,aC,aD]
    ·clear O;have O:=az;try simp only[dA,seval,U,X]
     apply sp al O<;>intro _ O
     ·obtain⟨aE,av,O⟩:=ae O;obtain⟨aF,aw,O⟩:=ae O;try simp only[dA,seval,U,X,av,aw]
      refine bJ (by kernel_rfl) ?_;cases O;try simp only[dA,seval,U,X,av,aw]
      rw[an];refine⟨_,rfl,?_⟩;refine⟨ad,ag,ah,?_⟩;and_intros<;>first|rfl|(simp only[dA,seval,U,X,av,aw]<;>rfl)
     ·cases O;try simp only[dA,seval,U,X]
      rw[an];refine⟨_,rfl,?_⟩;refine⟨ad,ag,ah,?_⟩;and_intros<;>first|rfl|(simp only[dA,seval,U,X]<;>rfl)
 ·clear O;have O:=ay;try simp only[dA,seval,U]
  apply sp aR O<;>intro _ O
  ·cases O;try simp only[dA,seval,U]
   rw[an];refine⟨_,rfl,?_⟩;refine⟨0,0,0,?_⟩;and_intros<;>first|rfl|(simp only[dA,seval,U]<;>rfl)
  ·obtain⟨aG,ax,O⟩:=ae O;cases O;try simp only[dA,seval,U,ax]
   rw[an];refine⟨_,rfl,?_⟩;refine⟨0,0,0,?_⟩;and_intros<;>first|rfl|(simp only[dA,seval,U,ax]<;>rfl)
def fh (l:Option (D×Row)) (d:List D):=dW (iD (bC aG) (dS (bC aG))) (fun x:aw×aw=>lx x.1 x.2) (fun r:aw×Int =>.clean (.tup [.agg [.int .i64 r.1.cu.aj,.sl false false r.1.cu.aa.length (ab (eI .i64) r.1.cu.aa),.int .i64 r.1.ct.aj,.sl false false r.1.ct.aa.length (ab (eI .i64) r.1.ct.aa)],.int .i64 r.2])) l d
def wD:Env:=(Am.ext (Am.ext (Am.ext (Am.ext bm 47 false bM) 56 false uB) 57 false fu) 58 false gU)
theorem MK:bH prog wD:=((((bH.none.add ia false).add Q8 false).add qH false).add tZ false)
theorem gw:type_of% (ai @w<|ai @B5<|ai @bM.eq_1<|ai @yN<|ai @uB.eq_1<|ai @fu.eq_1<|ai @gU.eq_1<|@wD.eq_1):=⟨@w,@B5,@bM.eq_1,@yN,@uB.eq_1,@fu.eq_1,@gU.eq_1,@wD.eq_1⟩
theorem p9:bW prog 27 fh:=bW.gN (mode := .clean) tok MK mixed func27 (by kernel_rfl) (fun _ _=>rfl) (fun _=>by kernel_rfl) fun⟨p0,p1⟩ r O=>by
 replace O:lx p0 p1=some r:=O;apply aH rfl ntmps27 results27;simp only[gR];unfold lx at O;obtain⟨r1,U,O⟩:=ae O;try simp only[gw,seval,U]
 obtain⟨o2,au,O⟩:=ae O;refine bA 0 (fun s t H e=>match s with|X=>∃Y:Nat,∃Z:Nat,∃ad:Nat,t 2=.ptr 2 Y 0∧t 3=.ptr 3 Z 0∧t 4=.ptr 4 ad 0∧t 15=.bool X∧H 2=some ⟨Y,42,[.int .i64 p0.cu.aj,.sl false false p0.cu.aa.length (ab (eI .i64) p0.cu.aa),.int .i64 p0.ct.aj,.sl false false p0.ct.aa.length (ab (eI .i64) p0.ct.aa)],false,false,false⟩∧H 3=some ⟨Z,42,[.int .i64 p1.cu.aj,.sl false false p1.cu.aa.length (ab (eI .i64) p1.cu.aa),.int .i64 p1.ct.aj,.sl false false p1.ct.aa.length (ab (eI .i64) p1.ct.aa)],false,false,false⟩∧H 4=some ⟨ad,42,[.int .i64 0,.sl true true 0 [],.int .i64 0,.sl true true 0 []],false,false,false⟩) (fun s=>s=o2) ?_ ?_
 ·rintro X t H e ⟨Y,Z,ad,ag⟩ rfl;try dsimp only at O
  try simp only[gw,seval,U,ag]
  apply sp al O<;>intro _ O
  ·cases O;try simp only[gw,seval,U,ag]
  ·obtain⟨r4,ai,O⟩:=ae O;obtain⟨r5,ak,O⟩:=ae O;obtain⟨r6,ao,O⟩:=ae O;try simp only[gw,seval,U,ag,ai,ak,ao]
   refine bJ (by kernel_rfl) ?_;obtain⟨r7,aq,O⟩:=ae O;obtain⟨r8,ar,O⟩:=ae O;try simp only[gw,seval,U,ag,ai,ak,ao,aq,ar]
   refine bJ (by kernel_rfl) ?_;cases O;try simp only[gw,seval,U,ag,ai,ak,ao,aq,ar]
 ·clear O;have O:=au;try simp only[gw,seval,U]
  apply sp aR O<;>intro _ O
  ·cases O;try simp only[gw,seval,U]
   rw[an];refine⟨_,rfl,?_⟩;refine⟨0,0,0,?_⟩;and_intros<;>first|rfl|(simp only[gw,seval,U]<;>rfl)
  ·obtain⟨av,ah,O⟩:=ae O;cases O;try simp only[gw,seval,U,ah]
   rw[an];refine⟨_,rfl,?_⟩;refine⟨0,0,0,?_⟩;and_intros<;>first|rfl|(simp only[gw,seval,U,ah]<;>rfl)
def lZ (l:Option (D×Row)) (d:List D):=dW (iD (bC aG) (dS (bC aG))) (fun x:aw×aw=>n5 x.1 x.2) (fun r:aw =>.clean (.agg [.int .i64 r.cu.aj,.sl false false r.cu.aa.length (ab (eI .i64) r.cu.aa),.int .i64 r.ct.aj,.sl false false r.ct.aa.length (ab (eI .i64) r.ct.aa)])) l d
def zf:Env:=(Am.ext bm 27 false fh)
theorem QN:bH prog zf:=(bH.none.add p9 false)
theorem Wo:type_of% (ai @w<|ai @rf<|ai @fh.eq_1<|@zf.eq_1):=⟨@w,@rf,@fh.eq_1,@zf.eq_1⟩
theorem ED:bW prog 72 lZ:=bW.gN (mode := .clean) tok QN mixed func72 (by kernel_rfl) (fun _ _=>rfl) (fun _=>by kernel_rfl) fun⟨X,Y⟩ r O=>by
 replace O:n5 X Y=some r:=O;apply aH rfl ntmps72 results72;simp only[gR];unfold n5 at O;obtain⟨Z,U,O⟩:=ae O;cases O;try simp only[Wo,seval,U]
def mE (l:Option (D×Row)) (d:List D):=dW (iD (bC dI) (dS (bC dI))) (fun x:aD×aD=>kN x.1 x.2) (fun r:Int =>.clean (.int .i64 r)) l d
def qw:Env:=(Am.ext (Am.ext (Am.ext bm 76 false eR) 79 false bs) 91 false eQ)
theorem DE:bH prog qw:=(((bH.none.add pA false).add fU false).add pz false)
theorem dN:type_of% (ai @w<|ai @Ws<|ai @eR.eq_1<|ai @ru<|ai @bs.eq_1<|ai @B4<|ai @eQ.eq_1<|@qw.eq_1):=⟨@w,@Ws,@eR.eq_1,@ru,@bs.eq_1,@B4,@eQ.eq_1,@qw.eq_1⟩
theorem Es:bW prog 144 mE:=bW.gN (mode := .clean) tok DE mixed func144 (by kernel_rfl) (fun _ _=>rfl) (fun _=>by kernel_rfl) fun⟨p0,p1⟩ r O=>by
 replace O:kN p0 p1=some r:=O;apply aH rfl ntmps144 results144;simp only[gR];unfold kN at O;obtain⟨r1,U,O⟩:=ae O;try simp only[dN,seval,U]
 obtain⟨o2,ai,O⟩:=ae O;refine bA 0 (fun s t H e=>match s with|Y=>∃Z:Nat,∃ad:Nat,t 2=.ptr 2 Z 0∧t 3=.ptr 3 ad 0∧t 12=.bool Y∧H 2=some ⟨Z,40,[.int .i64 p0.aj,.sl false false p0.aa.length (ab (eI .i64) p0.aa)],false,false,false⟩∧H 3=some ⟨ad,40,[.int .i64 p1.aj,.sl false false p1.aa.length (ab (eI .i64) p1.aa)],false,false,false⟩) (fun s=>s=o2) ?_ ?_
 ·rintro Y t H e ⟨Z,ad,X⟩ rfl;try dsimp only at O
  try simp only[dN,seval,U,X]
  apply sp al O<;>intro _ O
  ·cases O;try simp only[dN,seval,U,X]
  ·try simp only[dN,seval,U,X]
   apply sp al O<;>intro _ O
   ·obtain⟨r5,ak,O⟩:=ae O;cases O;try simp only[dN,seval,U,X,ak]
   ·obtain⟨r6,ag,O⟩:=ae O;try simp only[dN,seval,U,X,ag]
    refine bJ (by kernel_rfl) ?_;cases O;try simp only[dN,seval,U,X,ag]
 ·clear O;have O:=ai;try simp only[dN,seval,U]
  apply sp aR O<;>intro _ O
  ·cases O;try simp only[dN,seval,U]
   rw[an];refine⟨_,rfl,?_⟩;refine⟨0,0,?_⟩;and_intros<;>first|rfl|(simp only[dN,seval,U]<;>rfl)
  ·obtain⟨r8,ah,O⟩:=ae O;cases O;try simp only[dN,seval,U,ah]
   rw[an];refine⟨_,rfl,?_⟩;refine⟨0,0,?_⟩;and_intros<;>first|rfl|(simp only[dN,seval,U,ah]<;>rfl)
def ll (l:Option (D×Row)) (d:List D):=dW (iD (bC aG) (dS (bC aG))) (fun x:aw×aw=>iK x.1 x.2) (fun r:Int =>.clean (.int .i64 r)) l d
def pk:Env:=(Am.ext (Am.ext (Am.ext bm 47 false bM) 57 false fu) 144 false mE)
theorem Bu:bH prog pk:=(((bH.none.add ia false).add qH false).add Es false)
theorem er:type_of% (ai @w<|ai @B5<|ai @bM.eq_1<|ai @yN<|ai @fu.eq_1<|ai @mE.eq_1<|@pk.eq_1):=⟨@w,@B5,@bM.eq_1,@yN,@fu.eq_1,@mE.eq_1,@pk.eq_1⟩
theorem BB:bW prog 131 ll:=bW.gN (mode := .clean) tok Bu mixed func131 (by kernel_rfl) (fun _ _=>rfl) (fun _=>by kernel_rfl) fun⟨p0,p1⟩ r O=>by
 replace O:iK p0 p1=some r:=O;apply aH rfl ntmps131 results131;simp only[gR];unfold iK at O;obtain⟨r1,U,O⟩:=ae O;try simp only[er,seval,U]
 obtain⟨o2,ao,O⟩:=ae O;refine bA 0 (fun s t H e=>match s with|X=>∃Y:Nat,∃Z:Nat,t 2=.ptr 2 Y 0∧t 3=.ptr 3 Z 0∧t 12=.bool X∧H 2=some ⟨Y,42,[.int .i64 p0.cu.aj,.sl false false p0.cu.aa.length (ab (eI .i64) p0.cu.aa),.int .i64 p0.ct.aj,.sl false false p0.ct.aa.length (ab (eI .i64) p0.ct.aa)],false,false,false⟩∧H 3=some ⟨Z,42,[.int .i64 p1.cu.aj,.sl false false p1.cu.aa.length (ab (eI .i64) p1.cu.aa),.int .i64 p1.ct.aj,.sl false false p1.ct.aa.length (ab (eI .i64) p1.ct.aa)],false,false,false⟩) (fun s=>s=o2) ?_ ?_
 ·rintro X t H e ⟨Y,Z,ad⟩ rfl;try dsimp only at O
  try simp only[er,seval,U,ad]
  apply sp al O<;>intro _ O
  ·cases O;try simp only[er,seval,U,ad]
  ·obtain⟨r4,ag,O⟩:=ae O;obtain⟨r5,ah,O⟩:=ae O;obtain⟨r6,ai,O⟩:=ae O;try simp only[er,seval,U,ad,ag,ah,ai]
   refine bJ (by kernel_rfl) ?_;cases O;try simp only[er,seval,U,ad,ag,ah,ai]
 ·clear O;have O:=ao;try simp only[er,seval,U]
  apply sp aR O<;>intro _ O
  ·cases O;try simp only[er,seval,U]
   rw[an];refine⟨_,rfl,?_⟩;refine⟨0,0,?_⟩;and_intros<;>first|rfl|(simp only[er,seval,U]<;>rfl)
  ·obtain⟨r8,ak,O⟩:=ae O;cases O;try simp only[er,seval,U,ak]
   rw[an];refine⟨_,rfl,?_⟩;refine⟨0,0,?_⟩;and_intros<;>first|rfl|(simp only[er,seval,U,ak]<;>rfl)
def pR (l:Option (D×Row)) (d:List D):=dW (dS (mP aG)) (fun x:(List aw)=>oG x) (fun r:Bool =>.clean (.bool r)) l d
theorem aew {β:Type} {F:(List aw)->Option β} {R:β->RK} (O:(List aw)):dW (dS (mP aG)) F R none [.sl false false O.length (ab aG O)]=(F (O)).map fun r=>(R r,none):=cU _ _ _ (O)
def tN:Env:=(Am.ext (Am.ext (Am.ext (Am.ext (Am.ext bm 47 false bM) 48 false du) 72 false lZ) 83 false kz) 131 false ll)
theorem J3:bH prog tN:=(((((bH.none.add ia false).add lF false).add ED false).add AV false).add BB false)
theorem dL:type_of% (ai @w<|ai @B5<|ai @bM.eq_1<|ai @du.eq_1<|ai @rf<|ai @lZ.eq_1<|ai @FE<|ai @kz.eq_1<|ai @ll.eq_1<|@tN.eq_1):=⟨@w,@B5,@bM.eq_1,@du.eq_1,@rf,@lZ.eq_1,@FE,@kz.eq_1,@ll.eq_1,@tN.eq_1⟩
theorem Ki:bW prog 100 pR:=bW.gN (mode := .clean) tok J3 mixed func100 (by kernel_rfl) (fun _ _=>rfl) (fun _=>by kernel_rfl) fun p0 r O=>by
 replace O:oG p0=some r:=O;apply aH rfl ntmps100 results100;simp only[gR];unfold oG at O;obtain⟨r1,U,O⟩:=ae O;try simp only[dL,seval,U]
 obtain⟨o9,az,O⟩:=ae O;refine aB (fun s t H e=>match s with|(aw,ak,ag,an,ah)=>∃ao:Nat,t 3=.ptr 3 ao 0∧t 7=.sl false false p0.length (ab aG p0)∧t 8=.int .i64 (p0.length:Int)∧t 9=.int .i64 aw∧H 3=some ⟨ao,42,[.int .i64 ak,.sl false false ag.length (ab (eI .i64) ag),.int .i64 an,.sl false false ah.length (ab (eI .i64) ah)],false,false,false⟩) (fun o x t H e=>match o with|(.inl (ai,Z,aj,aa))=>x=.exit 0∧∃aq:Nat,t 3=.ptr 3 aq 0∧H 3=some ⟨aq,42,[.int .i64 ai,.sl false false Z.length (ab (eI .i64) Z),.int .i64 aj,.sl false false aa.length (ab (eI .i64) aa)],false,false,false⟩|(.inr r)=>x=.ret∧fF .clean tab none [.tmp 2] ⟨t,EH H,e⟩=some (.clean (.bool r),none)) az ?_ ?_ ?_
 ·refine⟨1,?_⟩;and_intros<;>first|rfl|(simp only[dL,seval,U]<;>rfl)
 ·rintro⟨aw,ak,ag,an,ah⟩ t H e ⟨ao,Za⟩ c O;simp only[n9]at O;try simp only[dL,seval,U,Za]
  apply sp al O<;>intro _ O
  ·obtain⟨aA,ax,O⟩:=ae O;have X:=bo aG ax;simp only[bZ]at X;obtain⟨aC,Y,O⟩:=ae O;try simp only[dL,seval,U,Za,X,Y]
   apply sp aR O<;>intro _ O
   ·cases O;try simp only[dL,seval,U,Za,X,Y]
    refine rq ⟨rfl,?_⟩;try simp only[dL,seval,U,Za,X,Y]
   ·obtain⟨aD,ad,O⟩:=ae O;try simp only[dL,seval,U,Za,X,Y,ad]
    apply sp al O<;>intro _ O
    ·cases O;try simp only[dL,seval,U,Za,X,Y,ad]
     refine rq ⟨rfl,?_⟩;try simp only[dL,seval,U,Za,X,Y,ad]
    ·obtain⟨aE,ar,O⟩:=ae O;cases O;try simp only[dL,seval,U,Za,X,Y,ad,ar]
     apply iu;refine⟨ao,?_⟩;and_intros<;>first|rfl|(simp only[dL,seval,U,Za,X,Y,ad,ar]<;>rfl)
  ·cases O;try simp only[dL,seval,U,Za]
   apply jv;refine⟨rfl,⟨ao,?_⟩⟩;and_intros<;>first|rfl|(simp only[dL,seval,U,Za]<;>rfl)
 ·rintro x t H e hx;rcases o9 with⟨ai,Z,aj,aa⟩|ra
  ·dsimp only at hx O;obtain⟨rfl,⟨aq,ay⟩⟩:=hx;obtain⟨aF,au,O⟩:=ae O;obtain⟨aI,av,O⟩:=ae O;try simp only[dL,seval,U,ay,au,av]
   refine bJ (by kernel_rfl) ?_;cases O;try simp only[dL,seval,U,ay,au,av]
  ·dsimp only at hx O;obtain⟨rfl,hE⟩:=hx;cases O;try simp only[bg,aY,bk,cK,cJ,ca,cc]
   exact hE
def km (l:Option (D×Row)) (d:List D):=dW (dS (bC wy)) (fun x:fH=>iX x) (fun r:Bool =>.clean (.bool r)) l d
theorem abe {β:Type} {F:fH->Option β} {R:β->RK} (O:(List fI)) (U:(List s6)) (X:(List (List aw))):dW (dS (bC wy)) F R none [.agg [.sl false false O.length (ab a8 O),.sl false false U.length (ab dw U),.sl false false X.length (ab (jk aG) X)]]=(F ((fH.mk O U X))).map fun r=>(R r,none):=cU _ _ _ ((fH.mk O U X))
def nE:Env:=(Am.ext (Am.ext bm 35 false ch) 100 false pR)
theorem zr:bH prog nE:=((bH.none.add iZ false).add Ki false)
theorem ay:type_of% (ai @w<|ai @BJ<|ai @ch.eq_1<|ai @aew<|ai @pR.eq_1<|@nE.eq_1):=⟨@w,@BJ,@ch.eq_1,@aew,@pR.eq_1,@nE.eq_1⟩
theorem zC:bW prog 62 km:=bW.gN (mode := .clean) tok zr mixed func62 (by kernel_rfl) (fun _ _=>rfl) (fun _=>by kernel_rfl) fun p0 r O=>by
 replace O:iX p0=some r:=O;apply aH rfl ntmps62 results62;simp only[gR];unfold iX at O;try simp only[ay,seval]
 obtain⟨o1,br,O⟩:=ae O;refine bA 0 (fun s t H e=>match s with|aE=>∃ax:Nat,t 1=.ptr 1 ax 0∧t 27=.bool aE∧H 1=some ⟨ax,52,[.sl false false p0.ah.length (ab a8 p0.ah),.sl false false p0.aJ.length (ab dw p0.aJ),.sl false false p0.aA.length (ab (jk aG) p0.aA)],false,false,false⟩) (fun s=>s=o1) ?_ ?_
 ·rintro aE t H e ⟨ax,aW⟩ rfl;try dsimp only at O
  try simp only[ay,seval,aW]
  apply sp al O<;>intro _ O
  ·cases O;try simp only[ay,seval,aW]
  ·try simp only[ay,seval,aW]
   obtain⟨bs,bb,O⟩:=ae O;refine aB (fun s t H e=>match s with|a1=>∃aI:Nat,t 1=.ptr 1 aI 0∧t 29=.sl false false p0.aJ.length (ab dw p0.aJ)∧t 30=.int .i64 (p0.aJ.length:Int)∧t 31=.int .i64 a1∧H 1=some ⟨aI,52,[.sl false false p0.ah.length (ab a8 p0.ah),.sl false false p0.aJ.length (ab dw p0.aJ),.sl false false p0.aA.length (ab (jk aG) p0.aA)],false,false,false⟩) (fun o x t H e=>match o with|(.inl _)=>x=.exit 0∧∃az:Nat,t 1=.ptr 1 az 0∧H 1=some ⟨az,52,[.sl false false p0.ah.length (ab a8 p0.ah),.sl false false p0.aJ.length (ab dw p0.aJ),.sl false false p0.aA.length (ab (jk aG) p0.aA)],false,false,false⟩|(.inr r)=>x=.ret∧fF .clean tab none [.tmp 2] ⟨t,EH H,e⟩=some (.clean (.bool r),none)) bb ?_ ?_ ?_
   ·refine⟨ax,?_⟩;and_intros<;>first|rfl|(simp only[ay,seval,aW]<;>rfl)
   ·rintro a1 t H e ⟨aI,Zb⟩ c O;simp only[jP]at O;try simp only[ay,seval,Zb]
    apply sp al O<;>intro _ O
    ·obtain⟨bw,bc,O⟩:=ae O;have ai:=bo dw bc;simp only[bZ]at ai;obtain⟨bx,ak,O⟩:=ae O;try simp only[ay,seval,Zb,ai,ak]
     apply sp uv O<;>intro _ O
     ·try simp only[ay,seval,Zb,ai,ak]
      refine bJ (by kernel_rfl) ?_;cases O;try simp only[ay,seval,Zb,ai,ak]
      refine rq ⟨rfl,?_⟩;try simp only[ay,seval,Zb,ai,ak]
     ·try simp only[ay,seval,Zb,ai,ak]
      apply sp uv O<;>intro _ O
      ·try simp only[ay,seval,Zb,ai,ak]
       refine bJ (by kernel_rfl) ?_;cases O;try simp only[ay,seval,Zb,ai,ak]
       refine rq ⟨rfl,?_⟩;try simp only[ay,seval,Zb,ai,ak]
      ·obtain⟨bz,bd,O⟩:=ae O;have aq:=bo (jk aG) bd;simp only[bZ]at aq;try simp only[ay,seval,Zb,ai,ak,aq]
       refine bJ (by kernel_rfl) ?_;try simp only[ay,seval,Zb,ai,ak,aq]
       apply sp al O<;>intro _ O
       ·cases O;try simp only[ay,seval,Zb,ai,ak,aq]
        refine rq ⟨rfl,?_⟩;try simp only[ay,seval,Zb,ai,ak,aq]
       ·cases O;try simp only[ay,seval,Zb,ai,ak,aq]
        apply iu;refine⟨aI,?_⟩;and_intros<;>first|rfl|(simp only[ay,seval,Zb,ai,ak,aq]<;>rfl)
    ·cases O;try simp only[ay,seval,Zb]
     apply jv;refine⟨rfl,⟨aI,?_⟩⟩;and_intros<;>first|rfl|(simp only[ay,seval,Zb]<;>rfl)
   ·rintro x t H e hx;rcases bs with _|rb
    ·dsimp only at hx O;obtain⟨rfl,⟨az,bh⟩⟩:=hx;try simp only[ay,seval,bh]
     obtain⟨bt,bj,O⟩:=ae O;refine aB (fun s t H e=>match s with|au=>∃aX:Nat,t 1=.ptr 1 aX 0∧t 59=.sl false false p0.ah.length (ab a8 p0.ah)∧t 60=.int .i64 (p0.ah.length:Int)∧t 61=.int .i64 au∧H 1=some ⟨aX,52,[.sl false false p0.ah.length (ab a8 p0.ah),.sl false false p0.aJ.length (ab dw p0.aJ),.sl false false p0.aA.length (ab (jk aG) p0.aA)],false,false,false⟩) (fun o x t H e=>match o with|(.inl _)=>x=.exit 2|(.inr r)=>x=.ret∧fF .clean tab none [.tmp 2] ⟨t,EH H,e⟩=some (.clean (.bool r),none)) bj ?_ ?_ ?_
     ·refine⟨az,?_⟩;and_intros<;>first|rfl|(simp only[ay,seval,bh]<;>rfl)
     ·rintro au t H e ⟨aX,Zc⟩ c O;simp only[jQ]at O;try simp only[ay,seval,Zc]
      apply sp al O<;>intro _ O
      ·obtain⟨aD,bl,O⟩:=ae O;have U:=bo a8 bl;simp only[bZ]at U;obtain⟨bB,bm,O⟩:=ae O;obtain⟨Y,Z,ad,X,ag⟩:=mk_one aG bm;simp only[bZ]at X;try simp only[ay,seval,Zc,U,Y,Z,ad,X,ag]
       obtain⟨bu,bn,O⟩:=ae O;refine aB (fun s t H e=>match s with|(a6,ba)=>∃aK:Nat,∃aL:Nat,∃aM:Nat,t 1=.ptr 1 aK 0∧t 5=.int .i64 au∧t 6=.ptr 6 aL 0∧t 7=.buf 7 aM 4 0 (ba).length∧t 59=.sl false false p0.ah.length (ab a8 p0.ah)∧t 60=.int .i64 (p0.ah.length:Int)∧t 61=.int .i64 au∧t 72=.int .i64 (p0.aJ.length:Int)∧t 73=.int .i64 a6∧H 1=some ⟨aK,52,[.sl false false p0.ah.length (ab a8 p0.ah),.sl false false p0.aJ.length (ab dw p0.aJ),.sl false false p0.aA.length (ab (jk aG) p0.aA)],false,false,false⟩∧H 6=some ⟨aL,95,[.int .i64 aD.bf,.int .i64 aD.aQ,.int .i64 aD.aF],false,false,false⟩∧H 7=some ⟨aM,42,ab aG ba,false,true,false⟩) (fun o x t H e=>match o with|aN=>x=.exit 4∧∃aC:Nat,∃aO:Nat,∃aP:Nat,t 1=.ptr 1 aC 0∧t 6=.ptr 6 aO 0∧t 7=.buf 7 aP 4 0 (aN).length∧t 59=.sl false false p0.ah.length (ab a8 p0.ah)∧t 60=.int .i64 (p0.ah.length:Int)∧t 61=.int .i64 au∧H 1=some ⟨aC,52,[.sl false false p0.ah.length (ab a8 p0.ah),.sl false false p0.aJ.length (ab dw p0.aJ),.sl false false p0.aA.length (ab (jk aG) p0.aA)],false,false,false⟩∧H 6=some ⟨aO,95,[.int .i64 aD.bf,.int .i64 aD.aQ,.int .i64 aD.aF],false,false,false⟩∧H 7=some ⟨aP,42,ab aG aN,false,true,false⟩) bn ?_ ?_ ?_
       ·refine⟨aX,e+1,e+1+1,?_⟩;and_intros<;>first|rfl|(simp only[ay,seval,Zc,U,Y,Z,ad,X,ag]<;>rfl)
       ·rintro⟨a6,ba⟩ t H e ⟨aK,aL,aM,Ze⟩ c O;simp only[gp]at O;try simp only[ay,seval,U,Y,Z,ad,X,ag,Ze]
        apply sp al O<;>intro _ O
        ·obtain⟨bC,bp,O⟩:=ae O;have aS:=bo (jk aG) bp;simp only[bZ]at aS;obtain⟨aw,bq,O⟩:=ae O;have aT:=bo aG bq;simp only[bZ]at aT;obtain⟨bD,a7,O⟩:=ae O;have aU:=bo aG a7;simp only[bZ]at aU;have aZ:=fW aG (x':=aw) (fo:=0) (cs:=[.int .i64 aw.cu.aj,.sl false false aw.cu.aa.length (ab (eI .i64) aw.cu.aa),.int .i64 aw.ct.aj,.sl false false aw.ct.aa.length (ab (eI .i64) aw.ct.aa)]) a7 rfl (ais rfl);simp only[bZ,Nat.add_zero]at aZ;have aV:=aZ;simp only[putCells,List.length_cons,List.length_nil,ahr,Nat.reduceAdd]at aV;cases O;try simp only[ay,seval,U,Y,Z,ad,X,ag,Ze,aS,aT,aU,aZ,aV]
         apply iu;refine⟨aK,aL,aM,?_⟩;and_intros<;>first|rfl|(simp only[ay,seval,U,Y,Z,ad,X,ag,Ze,aS,aT,aU,aZ,aV]<;>rfl)
        ·cases O;try simp only[ay,seval,U,Y,Z,ad,X,ag,Ze]
         apply jv;refine⟨rfl,⟨aK,aL,aM,?_⟩⟩;and_intros<;>first|rfl|(simp only[ay,seval,U,Y,Z,ad,X,ag,Ze]<;>rfl)
       ·rintro x t H e hx;obtain⟨aN,rfl⟩:∃z,z=bu:=⟨_,rfl⟩;dsimp only at hx O;obtain⟨rfl,⟨aC,aO,aP,ar⟩⟩:=hx;obtain⟨bF,ao,O⟩:=ae O;try simp only[ay,seval,U,Y,Z,ad,X,ag,ar,ao]
        apply sp aR O<;>intro _ O
        ·cases O;try simp only[ay,seval,U,Y,Z,ad,X,ag,ar,ao]
         refine rq ⟨rfl,?_⟩;try simp only[ay,seval,U,Y,Z,ad,X,ag,ar,ao]
        ·try simp only[ay,seval,U,Y,Z,ad,X,ag,ar,ao]
         apply sp aR O<;>intro _ O
         ·cases O;try simp only[ay,seval,U,Y,Z,ad,X,ag,ar,ao]
          refine rq ⟨rfl,?_⟩;try simp only[ay,seval,U,Y,Z,ad,X,ag,ar,ao]
         ·obtain⟨bG,av,O⟩:=ae O;try simp only[ay,seval,U,Y,Z,ad,X,ag,ar,ao,av]
          apply sp al O<;>intro _ O
          ·cases O;try simp only[ay,seval,U,Y,Z,ad,X,ag,ar,ao,av]
           refine rq ⟨rfl,?_⟩;try simp only[ay,seval,U,Y,Z,ad,X,ag,ar,ao,av]
          ·cases O;try simp only[ay,seval,U,Y,Z,ad,X,ag,ar,ao,av]
           apply iu;refine⟨aC,?_⟩;and_intros<;>first|rfl|(simp only[ay,seval,U,Y,Z,ad,X,ag,ar,ao,av]<;>rfl)
      ·cases O;try simp only[ay,seval,Zc]
       apply jv;exact rfl
     ·rintro x t H e hx;rcases bt with _|rc
      ·dsimp only at hx O;subst hx;cases O;try simp only[ay,seval]
      ·dsimp only at hx O;obtain⟨rfl,hE⟩:=hx;cases O;try simp only[bg,aY,bk,cK,cJ,ca,cc]
       exact hE
    ·dsimp only at hx O;obtain⟨rfl,hE⟩:=hx;cases O;try simp only[bg,aY,bk,cK,cJ,ca,cc]
     exact hE
 ·clear O;have O:=br;try simp only[ay,seval]
  apply sp aR O<;>intro _ O
  ·cases O;try simp only[ay,seval]
   rw[an];refine⟨_,rfl,?_⟩;refine⟨0,?_⟩;and_intros<;>first|rfl|(simp only[ay,seval]<;>rfl)
  ·try simp only[ay,seval]
   apply sp aR O<;>intro _ O
   ·cases O;try simp only[ay,seval]
    rw[an];refine⟨_,rfl,?_⟩;refine⟨0,?_⟩;and_intros<;>first|rfl|(simp only[ay,seval]<;>rfl)
   ·cases O;try simp only[ay,seval]
    rw[an];refine⟨_,rfl,?_⟩;refine⟨0,?_⟩;and_intros<;>first|rfl|(simp only[ay,seval]<;>rfl)
def nN (l:Option (D×Row)) (d:List D):=dW (iD (bC dV) (dS (UZ (eI .i64)))) (fun x:fA×Int=>mv x.1 x.2) (fun r:Bool =>.clean (.bool r)) l d
theorem aex {β:Type} {F:fA×Int->Option β} {R:β->RK} (O:Int) (U:Int) (X:Int):dW (iD (bC dV) (dS (UZ (eI .i64)))) F R none [.agg [.int .i64 O,.int .i64 U],.ip [.int .i64 X]]=(F ((fA.mk O U),X)).map fun r=>(R r,none):=cU _ _ _ ((fA.mk O U),X)
def sb:Env:=(Am.ext bm 35 false ch)
theorem FW:bH prog sb:=(bH.none.add iZ false)
theorem sF:type_of% (ai @w<|ai @BJ<|ai @ch.eq_1<|@sb.eq_1):=⟨@w,@BJ,@ch.eq_1,@sb.eq_1⟩
theorem F0:bW prog 63 nN:=bW.gN (mode := .clean) tok FW mixed func63 (by kernel_rfl) (fun _ _=>rfl) (fun _=>by kernel_rfl) fun⟨Y,Z⟩ r O=>by
 replace O:mv Y Z=some r:=O;apply aH rfl ntmps63 results63;simp only[gR];unfold mv at O;obtain⟨r1,U,O⟩:=ae O;try simp only[sF,seval,U]
 apply sp aR O<;>intro _ O
 ·cases O;try simp only[sF,seval,U]
 ·obtain⟨r3,X,O⟩:=ae O;cases O;try simp only[sF,seval,U,X]
def nO (l:Option (D×Row)) (d:List D):=dW (iD (aI .i64) (dS (UZ (eI .i64)))) (fun x:Int×Int=>mw x.1 x.2) (fun r:Bool =>.clean (.bool r)) l d
theorem aey {β:Type} {F:Int×Int->Option β} {R:β->RK} (O:Int) (U:Int):dW (iD (aI .i64) (dS (UZ (eI .i64)))) F R none [.int .i64 O,.ip [.int .i64 U]]=(F (O,U)).map fun r=>(R r,none):=cU _ _ _ (O,U)
def sc:Env:=(Am.ext bm 35 false ch)
theorem FX:bH prog sc:=(bH.none.add iZ false)
theorem KW:type_of% (ai @w<|ai @BJ<|ai @ch.eq_1<|@sc.eq_1):=⟨@w,@BJ,@ch.eq_1,@sc.eq_1⟩
theorem F1:bW prog 64 nO:=bW.gN (mode := .clean) tok FX mixed func64 (by kernel_rfl) (fun _ _=>rfl) (fun _=>by kernel_rfl) fun⟨X,Y⟩ r O=>by
 replace O:mw X Y=some r:=O;apply aH rfl ntmps64 results64;simp only[gR];unfold mw at O;obtain⟨Z,U,O⟩:=ae O;cases O;try simp only[KW,seval,U]
def nB:=dW (dS (mP (eI .i64))) (fun x:(List Int)=>mN x) (fun r:(List Int) =>.clean (.clo 134 0 [.ip [.sl false false r.length (ab (eI .i64) r)]]))
theorem sM (O:(List Int)):nB none [.sl false false O.length (ab (eI .i64) O)]=(mN O).map fun r:(List Int)=>(.clean (.clo 134 0 [.ip [.sl false false r.length (ab (eI .i64) r)]]),none):=cU _ _ _ O
theorem zD:bW prog 102 nB:=Wi
def dE:=dW (dS (Jy 134 0 (dS (UZ (jk (eI .i64)))))) (fun x:(List Int)=>cH x) (fun r:(List Int) =>.fresh 3 1 r.length (ab (eI .i64) r))
theorem fp (O:(List Int)):dE none [.clo 134 0 [.ip [.sl false false O.length (ab (eI .i64) O)]]]=(cH O).map fun r:(List Int)=>(.fresh 3 1 r.length (ab (eI .i64) r),none):=cU _ _ _ O
theorem jj:bW prog 101 dE:=V3
def mI (l:Option (D×Row)) (d:List D):=dW (iD (mP (eI .i64)) (dS (aI .i64))) (fun x:(List Int)×Int=>jx x.1 x.2) (fun r:Bool =>.clean (.bool r)) l d
def qD:Env:=(Am.ext (Am.ext bm 101 false dE) 102 false nB)
theorem DK:bH prog qD:=((bH.none.add jj false).add zD false)
theorem ew:type_of% (ai @w<|ai @fp<|ai @sM<|@qD.eq_1):=⟨@w,@fp,@sM,@qD.eq_1⟩
theorem EE:bW prog 65 mI:=bW.gN (mode := .clean) tok DK mixed func65 (by kernel_rfl) (fun _ _=>rfl) (fun _=>by kernel_rfl) fun⟨p0,p1⟩ r O=>by
 replace O:jx p0 p1=some r:=O;apply aH rfl ntmps65 results65;simp only[gR];unfold jx at O;obtain⟨r1,U,O⟩:=ae O;obtain⟨r2,X,O⟩:=ae O;try simp only[ew,seval,U,X]
 obtain⟨o6,ag,O⟩:=ae O;refine aB (fun s t H e=>match s with|ad=>∃Y:Nat,t 1=.int .i64 p1∧t 5=.buf 5 Y 1 0 (r2).length∧t 11=.buf 5 Y 1 0 (r2).length∧t 12=.int .i64 ((r2).length:Int)∧t 13=.int .i64 ad∧H 5=some ⟨Y,3,ab (eI .i64) r2,false,true,false⟩) (fun o x t H e=>match o with|(.inl _)=>x=.exit 0∧∃aa:Nat,t 1=.int .i64 p1∧t 5=.buf 5 aa 1 0 (r2).length∧H 5=some ⟨aa,3,ab (eI .i64) r2,false,true,false⟩|(.inr r)=>x=.ret∧fF .clean tab none [.tmp 4] ⟨t,EH H,e⟩=some (.clean (.bool r),none)) ag ?_ ?_ ?_
 ·refine⟨1,?_⟩;and_intros<;>first|rfl|(simp only[ew,seval,U,X]<;>rfl)
 ·rintro ad t H e ⟨Y,Za⟩ c O;simp only[lE]at O;try simp only[ew,seval,U,X,Za]
  apply sp al O<;>intro _ O
  ·obtain⟨x8,ah,O⟩:=ae O;have Z:=bo (eI .i64) ah;simp only[bZ]at Z;try simp only[ew,seval,U,X,Za,Z]
   apply sp al O<;>intro _ O
   ·cases O;try simp only[ew,seval,U,X,Za,Z]
    refine rq ⟨rfl,?_⟩;try simp only[ew,seval,U,X,Za,Z]
   ·cases O;try simp only[ew,seval,U,X,Za,Z]
    apply iu;refine⟨Y,?_⟩;and_intros<;>first|rfl|(simp only[ew,seval,U,X,Za,Z]<;>rfl)
  ·cases O;try simp only[ew,seval,U,X,Za]
   apply jv;refine⟨rfl,⟨Y,?_⟩⟩;and_intros<;>first|rfl|(simp only[ew,seval,U,X,Za]<;>rfl)
 ·rintro x t H e hx;rcases o6 with _|ra
  ·dsimp only at hx O;obtain⟨rfl,⟨aa,ai⟩⟩:=hx;cases O;try simp only[ew,seval,U,X,ai]
  ·dsimp only at hx O;obtain⟨rfl,hE⟩:=hx;cases O;try simp only[bg,aY,bk,cK,cJ,ca,cc]
   exact hE
def dn (l:Option (D×Row)) (d:List D):=dW (iD (mP dV) (dS (Jy 63 0 (dS (UZ (eI .i64)))))) (fun x:(List fA)×(Int)=>cL x.1 x.2) (fun r:Int =>.clean (.int .i64 r)) l d
theorem abf {β:Type} {F:(List fA)×(Int)->Option β} {R:β->RK} (U:(List fA)) (O:Int):dW (iD (mP dV) (dS (Jy 63 0 (dS (UZ (eI .i64)))))) F R none [.sl false false U.length (ab dV U),.clo 63 0 [.ip [.int .i64 O]]]=(F (U,(O))).map fun r=>(R r,none):=cU _ _ _ (U,(O))
def eL:Env:=(Am.ext bm 63 false nN)
theorem kE:bH prog eL:=(bH.none.add F0 false)
theorem aZ:type_of% (ai @w<|ai @aex<|ai @nN.eq_1<|@eL.eq_1):=⟨@w,@aex,@nN.eq_1,@eL.eq_1⟩
theorem kH:bW prog 103 dn:=bW.gN (mode := .clean) tok kE mixed func103 (by kernel_rfl) (fun _ _=>rfl) (fun _=>by kernel_rfl) fun⟨p0,Y⟩ r O=>by
 replace O:cL p0 Y=some r:=O;apply aH rfl ntmps103 results103;simp only[gR];unfold cL at O;try simp only[aZ,seval]
 obtain⟨o5,ad,O⟩:=ae O;refine aB (fun s t H e=>match s with|aa=>t 0=.sl false false p0.length (ab dV p0)∧t 1=.clo 63 0 [.ip [.int .i64 Y]]∧t 7=.int .i64 (p0.length:Int)∧t 8=.int .i64 aa) (fun o x t H e=>match o with|(.inl _)=>x=.exit 0|(.inr r)=>x=.ret∧fF .clean tab none [.tmp 4] ⟨t,EH H,e⟩=some (.clean (.int .i64 r),none)) ad ?_ ?_ ?_
 ·and_intros<;>first|rfl|(simp only[aZ,seval]<;>rfl)
 ·rintro aa t H e Z c O;simp only[de]at O;try simp only[aZ,seval,Z]
  apply sp al O<;>intro _ O
  ·obtain⟨x7,ag,O⟩:=ae O;have U:=bo dV ag;simp only[bZ]at U;obtain⟨r8,X,O⟩:=ae O;try simp only[aZ,seval,Z,U,X]
   apply sp al O<;>intro _ O
   ·cases O;try simp only[aZ,seval,Z,U,X]
    refine rq ⟨rfl,?_⟩;try simp only[aZ,seval,Z,U,X]
   ·cases O;try simp only[aZ,seval,Z,U,X]
    apply iu;and_intros<;>first|rfl|(simp only[aZ,seval,Z,U,X]<;>rfl)
  ·cases O;try simp only[aZ,seval,Z]
   apply jv;exact rfl
 ·rintro x t H e hx;rcases o5 with _|ra
  ·dsimp only at hx O;subst hx;cases O;try simp only[aZ,seval]
  ·dsimp only at hx O;obtain⟨rfl,hE⟩:=hx;cases O;try simp only[bg,aY,bk,cK,cJ,ca,cc]
   exact hE
def cQ (l:Option (D×Row)) (d:List D):=dW (iD (mP dV) (dS (Jy 63 0 (dS (UZ (eI .i64)))))) (fun x:(List fA)×(Int)=>bX x.1 x.2) (fun r:Bool =>.clean (.bool r)) l d
def eh:Env:=(Am.ext bm 103 false dn)
theorem j8:bH prog eh:=(bH.none.add kH false)
theorem kj:type_of% (ai @w<|ai @abf<|ai @dn.eq_1<|@eh.eq_1):=⟨@w,@abf,@dn.eq_1,@eh.eq_1⟩
theorem ka:bW prog 66 cQ:=bW.gN (mode := .clean) tok j8 mixed func66 (by kernel_rfl) (fun _ _=>rfl) (fun _=>by kernel_rfl) fun⟨Y,U⟩ r O=>by
 replace O:bX Y U=some r:=O;apply aH rfl ntmps66 results66;simp only[gR];unfold bX at O;obtain⟨Z,X,O⟩:=ae O;cases O;try simp only[kj,seval,X]
def dp (l:Option (D×Row)) (d:List D):=dW (iD (mP (eI .i64)) (dS (Jy 64 0 (dS (UZ (eI .i64)))))) (fun x:(List Int)×(Int)=>cM x.1 x.2) (fun r:Int =>.clean (.int .i64 r)) l d
theorem abg {β:Type} {F:(List Int)×(Int)->Option β} {R:β->RK} (U:(List Int)) (O:Int):dW (iD (mP (eI .i64)) (dS (Jy 64 0 (dS (UZ (eI .i64)))))) F R none [.sl false false U.length (ab (eI .i64) U),.clo 64 0 [.ip [.int .i64 O]]]=(F (U,(O))).map fun r=>(R r,none):=cU _ _ _ (U,(O))
def eM:Env:=(Am.ext bm 64 false nO)
theorem kF:bH prog eM:=(bH.none.add F1 false)
theorem a7:type_of% (ai @w<|ai @aey<|ai @nO.eq_1<|@eM.eq_1):=⟨@w,@aey,@nO.eq_1,@eM.eq_1⟩
theorem kI:bW prog 104 dp:=bW.gN (mode := .clean) tok kF mixed func104 (by kernel_rfl) (fun _ _=>rfl) (fun _=>by kernel_rfl) fun⟨p0,Y⟩ r O=>by
 replace O:cM p0 Y=some r:=O;apply aH rfl ntmps104 results104;simp only[gR];unfold cM at O;try simp only[a7,seval]
 obtain⟨o5,ad,O⟩:=ae O;refine aB (fun s t H e=>match s with|aa=>t 0=.sl false false p0.length (ab (eI .i64) p0)∧t 1=.clo 64 0 [.ip [.int .i64 Y]]∧t 7=.int .i64 (p0.length:Int)∧t 8=.int .i64 aa) (fun o x t H e=>match o with|(.inl _)=>x=.exit 0|(.inr r)=>x=.ret∧fF .clean tab none [.tmp 4] ⟨t,EH H,e⟩=some (.clean (.int .i64 r),none)) ad ?_ ?_ ?_
 ·and_intros<;>first|rfl|(simp only[a7,seval]<;>rfl)
 ·rintro aa t H e Z c O;simp only[df]at O;try simp only[a7,seval,Z]
  apply sp al O<;>intro _ O
  ·obtain⟨x7,ag,O⟩:=ae O;have U:=bo (eI .i64) ag;simp only[bZ]at U;obtain⟨r8,X,O⟩:=ae O;try simp only[a7,seval,Z,U,X]
   apply sp al O<;>intro _ O
   ·cases O;try simp only[a7,seval,Z,U,X]
    refine rq ⟨rfl,?_⟩;try simp only[a7,seval,Z,U,X]
   ·cases O;try simp only[a7,seval,Z,U,X]
    apply iu;and_intros<;>first|rfl|(simp only[a7,seval,Z,U,X]<;>rfl)
  ·cases O;try simp only[a7,seval,Z]
   apply jv;exact rfl
 ·rintro x t H e hx;rcases o5 with _|ra
  ·dsimp only at hx O;subst hx;cases O;try simp only[a7,seval]
  ·dsimp only at hx O;obtain⟨rfl,hE⟩:=hx;cases O;try simp only[bg,aY,bk,cK,cJ,ca,cc]
   exact hE
def cR (l:Option (D×Row)) (d:List D):=dW (iD (mP (eI .i64)) (dS (Jy 64 0 (dS (UZ (eI .i64)))))) (fun x:(List Int)×(Int)=>bY x.1 x.2) (fun r:Bool =>.clean (.bool r)) l d
def ej:Env:=(Am.ext bm 104 false dp)
theorem j9:bH prog ej:=(bH.none.add kI false)
theorem kl:type_of% (ai @w<|ai @abg<|ai @dp.eq_1<|@ej.eq_1):=⟨@w,@abg,@dp.eq_1,@ej.eq_1⟩
theorem kb:bW prog 67 cR:=bW.gN (mode := .clean) tok j9 mixed func67 (by kernel_rfl) (fun _ _=>rfl) (fun _=>by kernel_rfl) fun⟨Y,U⟩ r O=>by
 replace O:bY Y U=some r:=O;apply aH rfl ntmps67 results67;simp only[gR];unfold bY at O;obtain⟨Z,X,O⟩:=ae O;cases O;try simp only[kl,seval,X]
def rD (l:Option (D×Row)) (d:List D):=dW (iD (bC b6) (dS (aI .i64))) (fun x:bE×Int=>qZ x.1 x.2) (fun r:Bool =>.clean (.bool r)) l d
theorem abh {β:Type} {F:bE×Int->Option β} {R:β->RK} (O:(List fI)) (U:(List s6)) (X:(List (List aw))) (Y:(List fA)) (Z:(List Int)) (p1:Int):dW (iD (bC b6) (dS (aI .i64))) F R none [.agg [.sl false false O.length (ab a8 O),.sl false false U.length (ab dw U),.sl false false X.length (ab (jk aG) X),.sl false false Y.length (ab dV Y),.sl false false Z.length (ab (eI .i64) Z)],.int .i64 p1]=(F ((bE.mk (fH.mk O U X) Y Z),p1)).map fun r=>(R r,none):=cU _ _ _ ((bE.mk (fH.mk O U X) Y Z),p1)
def wN:Env:=(Am.ext (Am.ext (Am.ext (Am.ext bm 62 false km) 65 false mI) 66 false cQ) 67 false cR)
theorem MV:bH prog wN:=((((bH.none.add zC false).add EE false).add ka false).add kb false)
theorem bG:type_of% (ai @w<|ai @abe<|ai @km.eq_1<|ai @Wr<|ai @mI.eq_1<|ai @abf<|ai @cQ.eq_1<|ai @abg<|ai @cR.eq_1<|@wN.eq_1):=⟨@w,@abe,@km.eq_1,@Wr,@mI.eq_1,@abf,@cQ.eq_1,@abg,@cR.eq_1,@wN.eq_1⟩
theorem OF:bW prog 36 rD:=bW.gN (mode := .clean) tok MV mixed func36 (by kernel_rfl) (fun _ _=>rfl) (fun _=>by kernel_rfl) fun⟨X,p1⟩ r U=>by
 replace U:qZ X p1=some r:=U;apply aH rfl ntmps36 results36;simp only[gR];unfold qZ at U;obtain⟨r1,O,U⟩:=ae U;try simp only[bG,seval,O]
 apply sp al U<;>intro _ U
 ·cases U;try simp only[bG,seval,O]
 ·try simp only[bG,seval,O]
  obtain⟨o8,bf,U⟩:=ae U;refine aB (fun s t H e=>match s with|(aQ,aY)=>∃ar:Nat,∃au:Nat,∃aC:Nat,∃av:Nat,t 2=.ptr 2 ar 0∧t 3=.ptr 3 au 0∧t 5=.buf 5 aC 1 0 (aY).length∧t 6=.buf 6 av 1 0 0∧t 19=.sl false false X.ak.ah.length (ab a8 X.ak.ah)∧t 20=.int .i64 (X.ak.ah.length:Int)∧t 21=.int .i64 aQ∧H 2=some ⟨ar,55,[.sl false false X.ak.ah.length (ab a8 X.ak.ah),.sl false false X.ak.aJ.length (ab dw X.ak.aJ),.sl false false X.ak.aA.length (ab (jk aG) X.ak.aA),.sl false false X.aK.length (ab dV X.aK),.sl false false X.az.length (ab (eI .i64) X.az)],false,false,false⟩∧H 3=some ⟨au,3,[.int .i64 p1],false,false,false⟩∧H 5=some ⟨aC,3,ab (eI .i64) aY,false,true,false⟩∧H 6=some ⟨av,3,[],false,true,false⟩) (fun o x t H e=>match o with|Y=>x=.exit 0∧∃aj:Nat,∃an:Nat,∃ao:Nat,∃aq:Nat,t 2=.ptr 2 aj 0∧t 3=.ptr 3 an 0∧t 5=.buf 5 ao 1 0 (Y).length∧t 6=.buf 6 aq 1 0 0∧H 2=some ⟨aj,55,[.sl false false X.ak.ah.length (ab a8 X.ak.ah),.sl false false X.ak.aJ.length (ab dw X.ak.aJ),.sl false false X.ak.aA.length (ab (jk aG) X.ak.aA),.sl false false X.aK.length (ab dV X.aK),.sl false false X.az.length (ab (eI .i64) X.az)],false,false,false⟩∧H 3=some ⟨an,3,[.int .i64 p1],false,false,false⟩∧H 5=some ⟨ao,3,ab (eI .i64) Y,false,true,false⟩∧H 6=some ⟨aq,3,[],false,true,false⟩) bf ?_ ?_ ?_
  ·refine⟨0,0,2,2,?_⟩;and_intros<;>first|rfl|(simp only[bG,seval,O]<;>rfl)
  ·rintro⟨aQ,aY⟩ t H e ⟨ar,au,aC,av,Za⟩ c U;simp only[kT]at U;try simp only[bG,seval,O,Za]
   apply sp al U<;>intro _ U
   ·obtain⟨bh,a1,U⟩:=ae U;have aa:=bo a8 a1;simp only[bZ]at aa;try simp only[bG,seval,O,Za,aa]
    apply sp al U<;>intro _ U
    ·obtain⟨bj,a6,U⟩:=ae U;obtain⟨aR,aD,aS,aT⟩:=iJ (eI .i64) a6;simp only[bZ]at aD;cases U;try simp only[bG,seval,O,Za,aa,aR,aD,aS,aT]
     apply iu;refine⟨ar,au,e+1+1+1,av,?_⟩;and_intros<;>first|rfl|(simp only[bG,seval,O,Za,aa,aR,aD,aS,aT]<;>rfl)
    ·cases U;try simp only[bG,seval,O,Za,aa]
     apply iu;refine⟨ar,au,aC,av,?_⟩;and_intros<;>first|rfl|(simp only[bG,seval,O,Za,aa]<;>rfl)
   ·cases U;try simp only[bG,seval,O,Za]
    apply jv;refine⟨rfl,⟨ar,au,aC,av,?_⟩⟩;and_intros<;>first|rfl|(simp only[bG,seval,O,Za]<;>rfl)
  ·rintro x t H e hx;obtain⟨Y,rfl⟩:∃z,z=o8:=⟨_,rfl⟩;dsimp only at hx U;obtain⟨rfl,⟨aj,an,ao,aq,a7⟩⟩:=hx;try simp only[bG,seval,O,a7]
   obtain⟨bg,ba,U⟩:=ae U;refine aB (fun s t H e=>match s with|(aU,aZ)=>∃aw:Nat,∃ax:Nat,∃ay:Nat,∃aE:Nat,t 2=.ptr 2 aw 0∧t 3=.ptr 3 ax 0∧t 5=.buf 5 ay 1 0 (Y).length∧t 6=.buf 6 aE 1 0 (aZ).length∧t 36=.sl false false X.ak.aJ.length (ab dw X.ak.aJ)∧t 37=.int .i64 (X.ak.aJ.length:Int)∧t 38=.int .i64 aU∧H 2=some ⟨aw,55,[.sl false false X.ak.ah.length (ab a8 X.ak.ah),.sl false false X.ak.aJ.length (ab dw X.ak.aJ),.sl false false X.ak.aA.length (ab (jk aG) X.ak.aA),.sl false false X.aK.length (ab dV X.aK),.sl false false X.az.length (ab (eI .i64) X.az)],false,false,false⟩∧H 3=some ⟨ax,3,[.int .i64 p1],false,false,false⟩∧H 5=some ⟨ay,3,ab (eI .i64) Y,false,true,false⟩∧H 6=some ⟨aE,3,ab (eI .i64) aZ,false,true,false⟩) (fun o x t H e=>match o with|aF=>x=.exit 2∧∃aI:Nat,∃aL:Nat,∃aM:Nat,∃aN:Nat,t 2=.ptr 2 aI 0∧t 3=.ptr 3 aL 0∧t 5=.buf 5 aM 1 0 (Y).length∧t 6=.buf 6 aN 1 0 (aF).length∧H 2=some ⟨aI,55,[.sl false false X.ak.ah.length (ab a8 X.ak.ah),.sl false false X.ak.aJ.length (ab dw X.ak.aJ),.sl false false X.ak.aA.length (ab (jk aG) X.ak.aA),.sl false false X.aK.length (ab dV X.aK),.sl false false X.az.length (ab (eI .i64) X.az)],false,false,false⟩∧H 3=some ⟨aL,3,[.int .i64 p1],false,false,false⟩∧H 5=some ⟨aM,3,ab (eI .i64) Y,false,true,false⟩∧H 6=some ⟨aN,3,ab (eI .i64) aF,false,true,false⟩) ba ?_ ?_ ?_
   ·refine⟨aj,an,ao,aq,?_⟩;and_intros<;>first|rfl|(simp only[bG,seval,O,a7]<;>rfl)
   ·rintro⟨aU,aZ⟩ t H e ⟨aw,ax,ay,aE,Zb⟩ c U;simp only[kU]at U;try simp only[bG,seval,O,Zb]
    apply sp al U<;>intro _ U
    ·obtain⟨bk,bb,U⟩:=ae U;have ad:=bo dw bb;simp only[bZ]at ad;try simp only[bG,seval,O,Zb,ad]
     apply sp al U<;>intro _ U
     ·obtain⟨bl,bc,U⟩:=ae U;obtain⟨aV,aO,aW,aX⟩:=iJ (eI .i64) bc;simp only[bZ]at aO;cases U;try simp only[bG,seval,O,Zb,ad,aV,aO,aW,aX]
      apply iu;refine⟨aw,ax,ay,e+1+1+1,?_⟩;and_intros<;>first|rfl|(simp only[bG,seval,O,Zb,ad,aV,aO,aW,aX]<;>rfl)
     ·cases U;try simp only[bG,seval,O,Zb,ad]
      apply iu;refine⟨aw,ax,ay,aE,?_⟩;and_intros<;>first|rfl|(simp only[bG,seval,O,Zb,ad]<;>rfl)
    ·cases U;try simp only[bG,seval,O,Zb]
     apply jv;refine⟨rfl,⟨aw,ax,ay,aE,?_⟩⟩;and_intros<;>first|rfl|(simp only[bG,seval,O,Zb]<;>rfl)
   ·rintro x t H e hx;obtain⟨aF,rfl⟩:∃z,z=bg:=⟨_,rfl⟩;dsimp only at hx U;obtain⟨rfl,⟨aI,aL,aM,aN,ai⟩⟩:=hx;obtain⟨bm,Z,U⟩:=ae U;try simp only[bG,seval,O,ai,Z]
    apply sp eJ U<;>intro _ U
    ·obtain⟨bn,ag,U⟩:=ae U;try simp only[bG,seval,O,ai,Z,ag]
     apply sp eJ U<;>intro _ U
     ·obtain⟨bp,aP,U⟩:=ae U;try simp only[bG,seval,O,ai,Z,ag,aP]
      apply sp eJ U<;>intro _ U
      ·obtain⟨bq,bd,U⟩:=ae U;cases U;try simp only[bG,seval,O,ai,Z,ag,aP,bd]
      ·cases U;try simp only[bG,seval,O,ai,Z,ag,aP]
     ·cases U;try simp only[bG,seval,O,ai,Z,ag]
    ·cases U;try simp only[bG,seval,O,ai,Z]
def fX (l:Option (D×Row)) (d:List D):=dW (dS (bC nW)) (fun x:bP=>kS x) (fun r:Int×Int =>.clean (.tup [.int .i64 r.1,.int .i64 r.2])) l d
theorem VZ {β:Type} {F:bP->Option β} {R:β->RK} (O:(List Int)) (U:(List bE)):dW (dS (bC nW)) F R none [.agg [.sl false false O.length (ab (eI .i64) O),.sl false false U.length (ab b6 U)]]=(F ((bP.mk O U))).map fun r=>(R r,none):=cU _ _ _ ((bP.mk O U))
def tJ:Env:=(Am.ext (Am.ext bm 35 false ch) 36 false rD)
theorem JZ:bH prog tJ:=((bH.none.add iZ false).add OF false)
theorem aC:type_of% (ai @w<|ai @BJ<|ai @ch.eq_1<|ai @abh<|ai @rD.eq_1<|@tJ.eq_1):=⟨@w,@BJ,@ch.eq_1,@abh,@rD.eq_1,@tJ.eq_1⟩
theorem sh:bW prog 10 fX:=bW.gN (mode := .clean) tok JZ mixed func10 (by kernel_rfl) (fun _ _=>rfl) (fun _=>by kernel_rfl) fun p0 r hh=>by
 replace hh:kS p0=some r:=hh;apply aH rfl ntmps10 results10;simp only[gR];unfold kS at hh;try simp only[aC,seval]
 obtain⟨o1,ct,hh⟩:=ae hh;refine bA 0 (fun s t H e=>match s with|bh=>∃aQ:Nat,t 1=.ptr 1 aQ 0∧t 27=.bool bh∧H 1=some ⟨aQ,25,[.sl false false p0.au.length (ab (eI .i64) p0.au),.sl false false p0.ao.length (ab b6 p0.ao)],false,false,false⟩) (fun s=>s=o1) ?_ ?_
 ·rintro bh t H e ⟨aQ,bM⟩ rfl;try dsimp only at hh
  try simp only[aC,seval,bM]
  apply sp al hh<;>intro _ hh
  ·cases hh;try simp only[aC,seval,bM]
  ·try simp only[aC,seval,bM]
   obtain⟨o7,cu,hh⟩:=ae hh;refine aB (fun s t H e=>match s with|bU=>∃bj:Nat,t 1=.ptr 1 bj 0∧t 29=.sl false false p0.au.length (ab (eI .i64) p0.au)∧t 30=.int .i64 (p0.au.length:Int)∧t 31=.int .i64 bU∧H 1=some ⟨bj,25,[.sl false false p0.au.length (ab (eI .i64) p0.au),.sl false false p0.ao.length (ab b6 p0.ao)],false,false,false⟩) (fun o x t H e=>match o with|(.inl _)=>x=.exit 0∧∃aS:Nat,t 1=.ptr 1 aS 0∧H 1=some ⟨aS,25,[.sl false false p0.au.length (ab (eI .i64) p0.au),.sl false false p0.ao.length (ab b6 p0.ao)],false,false,false⟩|(.inr r)=>x=.ret∧fF .clean tab none [.tmp 2,.tmp 3] ⟨t,EH H,e⟩=some (.clean (.tup [.int .i64 r.1,.int .i64 r.2]),none)) cu ?_ ?_ ?_
   ·refine⟨aQ,?_⟩;and_intros<;>first|rfl|(simp only[aC,seval,bM]<;>rfl)
   ·rintro bU t H e ⟨bj,Zb⟩ c hh;simp only[jJ]at hh;try simp only[aC,seval,Zb]
    apply sp al hh<;>intro _ hh
    ·obtain⟨x9,cv,hh⟩:=ae hh;have bf:=bo (eI .i64) cv;simp only[bZ]at bf;obtain⟨cB,aO,hh⟩:=ae hh;try simp only[aC,seval,Zb,bf,aO]
     apply sp al hh<;>intro _ hh
     ·cases hh;try simp only[aC,seval,Zb,bf,aO]
      refine rq ⟨rfl,?_⟩;try simp only[aC,seval,Zb,bf,aO]
     ·cases hh;try simp only[aC,seval,Zb,bf,aO]
      apply iu;refine⟨bj,?_⟩;and_intros<;>first|rfl|(simp only[aC,seval,Zb,bf,aO]<;>rfl)
    ·cases hh;try simp only[aC,seval,Zb]
     apply jv;refine⟨rfl,⟨bj,?_⟩⟩;and_intros<;>first|rfl|(simp only[aC,seval,Zb]<;>rfl)
   ·rintro x t H e hx;rcases o7 with _|rb
    ·dsimp only at hx hh;obtain⟨rfl,⟨aS,b1⟩⟩:=hx;obtain⟨cC,bV,hh⟩:=ae hh;obtain⟨X,Y,Z,O,aa⟩:=mk_one (eI .i64) bV;simp only[bZ]at O;obtain⟨ad,ag,ai,U,aj⟩:=mk_one (eI .i64) bV;simp only[bZ]at U;try simp only[aC,seval,b1,X,Y,Z,O,aa,ad,ag,ai,U,aj]
     refine bJ (by kernel_rfl) ?_;try simp only[aC,seval,b1,X,Y,Z,O,aa,ad,ag,ai,U,aj]
     obtain⟨cw,b5,hh⟩:=ae hh;refine aB (fun s t H e=>match s with|(aI,b2,aP)=>∃bl:Nat,∃bm:Nat,∃bn:Nat,t 1=.ptr 1 bl 0∧t 6=.buf 6 bm 1 0 (b2).length∧t 7=.buf 7 bn 1 0 (aP).length∧t 50=.sl false false p0.ao.length (ab b6 p0.ao)∧t 51=.int .i64 (p0.ao.length:Int)∧t 52=.int .i64 aI∧H 1=some ⟨bl,25,[.sl false false p0.au.length (ab (eI .i64) p0.au),.sl false false p0.ao.length (ab b6 p0.ao)],false,false,false⟩∧H 6=some ⟨bm,3,ab (eI .i64) b2,false,true,false⟩∧H 7=some ⟨bn,3,ab (eI .i64) aP,false,true,false⟩) (fun o x t H e=>match o with|(.inl (aL,aw))=>x=.exit 2∧∃aT:Nat,∃aU:Nat,∃aV:Nat,t 1=.ptr 1 aT 0∧t 6=.buf 6 aU 1 0 (aL).length∧t 7=.buf 7 aV 1 0 (aw).length∧H 1=some ⟨aT,25,[.sl false false p0.au.length (ab (eI .i64) p0.au),.sl false false p0.ao.length (ab b6 p0.ao)],false,false,false⟩∧H 6=some ⟨aU,3,ab (eI .i64) aL,false,true,false⟩∧H 7=some ⟨aV,3,ab (eI .i64) aw,false,true,false⟩|(.inr r)=>x=.ret∧fF .clean tab none [.tmp 2,.tmp 3] ⟨t,EH H,e⟩=some (.clean (.tup [.int .i64 r.1,.int .i64 r.2]),none)) b5 ?_ ?_ ?_
     ·refine⟨aS,e,e,?_⟩;and_intros<;>first|rfl|(simp only[aC,seval,b1,X,Y,Z,O,aa,ad,ag,ai,U,aj]<;>rfl)
     ·rintro⟨aI,b2,aP⟩ t H e ⟨bl,bm,bn,Zc⟩ c hh;simp only[iM]at hh;try simp only[aC,seval,X,Y,Z,O,aa,ad,ag,ai,U,aj,Zc]
      apply sp al hh<;>intro _ hh
      ·obtain⟨av,b7,hh⟩:=ae hh;have aq:=bo b6 b7;simp only[bZ]at aq;obtain⟨cD,ar,hh⟩:=ae hh;try simp only[aC,seval,X,Y,Z,O,aa,ad,ag,ai,U,aj,Zc,aq,ar]
       apply sp al hh<;>intro _ hh
       ·cases hh;try simp only[aC,seval,X,Y,Z,O,aa,ad,ag,ai,U,aj,Zc,aq,ar]
        refine rq ⟨rfl,?_⟩;try simp only[aC,seval,X,Y,Z,O,aa,ad,ag,ai,U,aj,Zc,aq,ar]
       ·try simp only[aC,seval,X,Y,Z,O,aa,ad,ag,ai,U,aj,Zc,aq,ar]
        obtain⟨cx,b8,hh⟩:=ae hh;refine aB (fun s t H e=>match s with|(bX,b3)=>∃bp:Nat,∃bq:Nat,∃br:Nat,∃bs:Nat,t 1=.ptr 1 bp 0∧t 6=.buf 6 bq 1 0 (b3).length∧t 7=.buf 7 br 1 0 (aP).length∧t 9=.ptr 9 bs 0∧t 50=.sl false false p0.ao.length (ab b6 p0.ao)∧t 51=.int .i64 (p0.ao.length:Int)∧t 52=.int .i64 aI∧t 65=.sl false false av.az.length (ab (eI .i64) av.az)∧t 66=.int .i64 (av.az.length:Int)∧t 67=.int .i64 bX∧H 1=some ⟨bp,25,[.sl false false p0.au.length (ab (eI .i64) p0.au),.sl false false p0.ao.length (ab b6 p0.ao)],false,false,false⟩∧H 6=some ⟨bq,3,ab (eI .i64) b3,false,true,false⟩∧H 7=some ⟨br,3,ab (eI .i64) aP,false,true,false⟩∧H 9=some ⟨bs,55,[.sl false false av.ak.ah.length (ab a8 av.ak.ah),.sl false false av.ak.aJ.length (ab dw av.ak.aJ),.sl false false av.ak.aA.length (ab (jk aG) av.ak.aA),.sl false false av.aK.length (ab dV av.aK),.sl false false av.az.length (ab (eI .i64) av.az)],false,false,false⟩) (fun o x t H e=>match o with|aD=>x=.exit 4∧∃aW:Nat,∃aX:Nat,∃aZ:Nat,∃bt:Nat,t 1=.ptr 1 aW 0∧t 6=.buf 6 aX 1 0 (aD).length∧t 7=.buf 7 aZ 1 0 (aP).length∧t 9=.ptr 9 bt 0∧t 50=.sl false false p0.ao.length (ab b6 p0.ao)∧t 51=.int .i64 (p0.ao.length:Int)∧t 52=.int .i64 aI∧H 1=some ⟨aW,25,[.sl false false p0.au.length (ab (eI .i64) p0.au),.sl false false p0.ao.length (ab b6 p0.ao)],false,false,false⟩∧H 6=some ⟨aX,3,ab (eI .i64) aD,false,true,false⟩∧H 7=some ⟨aZ,3,ab (eI .i64) aP,false,true,false⟩∧H 9=some ⟨bt,55,[.sl false false av.ak.ah.length (ab a8 av.ak.ah),.sl false false av.ak.aJ.length (ab dw av.ak.aJ),.sl false false av.ak.aA.length (ab (jk aG) av.ak.aA),.sl false false av.aK.length (ab dV av.aK),.sl false false av.az.length (ab (eI .i64) av.az)],false,false,false⟩) b8 ?_ ?_ ?_
        ·refine⟨bl,bm,bn,e+1,?_⟩;and_intros<;>first|rfl|(simp only[aC,seval,X,Y,Z,O,aa,ad,ag,ai,U,aj,Zc,aq,ar]<;>rfl)
        ·rintro⟨bX,b3⟩ t H e ⟨bp,bq,br,bs,Zf⟩ c hh;simp only[jK]at hh;try simp only[aC,seval,X,Y,Z,O,aa,ad,ag,ai,U,aj,aq,ar,Zf]
         apply sp al hh<;>intro _ hh
         ·obtain⟨cE,b9,hh⟩:=ae hh;have bu:=bo (eI .i64) b9;simp only[bZ]at bu;obtain⟨cb,bw,hh⟩:=ae hh;have aE:=bo (eI .i64) bw;simp only[bZ]at aE;have aE:=bo (eI .i64) bw;simp only[bZ]at aE;have bN:=fW (eI .i64) (x':=IntKind.i64.wrap (cb+1)) (fo:=0) (cs:=[.int .i64 (IntKind.i64.wrap (cb+1))]) bw rfl (ais rfl);simp only[bZ,Nat.add_zero]at bN;have bx:=bN;simp only[putCells,List.length_cons,List.length_nil,ahr,Nat.reduceAdd]at bx;cases hh;try simp only[aC,seval,X,Y,Z,O,aa,ad,ag,ai,U,aj,aq,ar,Zf,bu,aE,aE,bN,bx]
          apply iu;refine⟨bp,bq,br,bs,?_⟩;and_intros<;>first|rfl|(simp only[aC,seval,X,Y,Z,O,aa,ad,ag,ai,U,aj,aq,ar,Zf,bu,aE,aE,bN,bx]<;>rfl)
         ·cases hh;try simp only[aC,seval,X,Y,Z,O,aa,ad,ag,ai,U,aj,aq,ar,Zf]
          apply jv;refine⟨rfl,⟨bp,bq,br,bs,?_⟩⟩;and_intros<;>first|rfl|(simp only[aC,seval,X,Y,Z,O,aa,ad,ag,ai,U,aj,aq,ar,Zf]<;>rfl)
        ·rintro x t H e hx;obtain⟨aD,rfl⟩:∃z,z=cx:=⟨_,rfl⟩;dsimp only at hx hh;obtain⟨rfl,⟨aW,aX,aZ,bt,cd⟩⟩:=hx;try simp only[aC,seval,X,Y,Z,O,aa,ad,ag,ai,U,aj,aq,ar,cd]
         obtain⟨cy,cf,hh⟩:=ae hh;refine aB (fun s t H e=>match s with|(bY,b4)=>∃bz:Nat,∃bB:Nat,∃bC:Nat,t 1=.ptr 1 bz 0∧t 6=.buf 6 bB 1 0 (aD).length∧t 7=.buf 7 bC 1 0 (b4).length∧t 50=.sl false false p0.ao.length (ab b6 p0.ao)∧t 51=.int .i64 (p0.ao.length:Int)∧t 52=.int .i64 aI∧t 79=.sl false false av.aK.length (ab dV av.aK)∧t 80=.int .i64 (av.aK.length:Int)∧t 81=.int .i64 bY∧H 1=some ⟨bz,25,[.sl false false p0.au.length (ab (eI .i64) p0.au),.sl false false p0.ao.length (ab b6 p0.ao)],false,false,false⟩∧H 6=some ⟨bB,3,ab (eI .i64) aD,false,true,false⟩∧H 7=some ⟨bC,3,ab (eI .i64) b4,false,true,false⟩) (fun o x t H e=>match o with|bD=>x=.exit 6∧∃a1:Nat,∃a6:Nat,∃a7:Nat,t 1=.ptr 1 a1 0∧t 6=.buf 6 a6 1 0 (aD).length∧t 7=.buf 7 a7 1 0 (bD).length∧t 50=.sl false false p0.ao.length (ab b6 p0.ao)∧t 51=.int .i64 (p0.ao.length:Int)∧t 52=.int .i64 aI∧H 1=some ⟨a1,25,[.sl false false p0.au.length (ab (eI .i64) p0.au),.sl false false p0.ao.length (ab b6 p0.ao)],false,false,false⟩∧H 6=some ⟨a6,3,ab (eI .i64) aD,false,true,false⟩∧H 7=some ⟨a7,3,ab (eI .i64) bD,false,true,false⟩) cf ?_ ?_ ?_
         ·refine⟨aW,aX,aZ,?_⟩;and_intros<;>first|rfl|(simp only[aC,seval,X,Y,Z,O,aa,ad,ag,ai,U,aj,aq,ar,cd]<;>rfl)
         ·rintro⟨bY,b4⟩ t H e ⟨bz,bB,bC,Zg⟩ c hh;simp only[jL]at hh;try simp only[aC,seval,X,Y,Z,O,aa,ad,ag,ai,U,aj,aq,ar,Zg]
          apply sp al hh<;>intro _ hh
          ·obtain⟨bO,cg,hh⟩:=ae hh;have ba:=bo dV cg;simp only[bZ]at ba;obtain⟨bQ,bF,hh⟩:=ae hh;have ax:=bo (eI .i64) bF;simp only[bZ]at ax;have ax:=bo (eI .i64) bF;simp only[bZ]at ax;have bG:=fW (eI .i64) (x':=(if 1099511627777<(IntKind.i64.wrap (bQ+bO.aF)) then 1099511627777 else IntKind.i64.wrap (bQ+bO.aF))) (fo:=0) (cs:=[.int .i64 (if 1099511627777<(IntKind.i64.wrap (bQ+bO.aF)) then 1099511627777 else IntKind.i64.wrap (bQ+bO.aF))]) bF rfl (ais rfl);simp only[bZ,Nat.add_zero]at bG;have bb:=bG;simp only[putCells,List.length_cons,List.length_nil,ahr,Nat.reduceAdd]at bb;try simp only[aC,seval,X,Y,Z,O,aa,ad,ag,ai,U,aj,aq,ar,Zg,ba,ax,ax,bG,bb]
           refine bJ (by kernel_rfl) ?_;cases hh;try simp only[aC,seval,X,Y,Z,O,aa,ad,ag,ai,U,aj,aq,ar,Zg,ba,ax,ax,bG,bb]
           apply iu;refine⟨bz,bB,bC,?_⟩;and_intros<;>first|rfl|(simp only[aC,seval,X,Y,Z,O,aa,ad,ag,ai,U,aj,aq,ar,Zg,ba,ax,ax,bG,bb]<;>rfl)
          ·cases hh;try simp only[aC,seval,X,Y,Z,O,aa,ad,ag,ai,U,aj,aq,ar,Zg]
           apply jv;refine⟨rfl,⟨bz,bB,bC,?_⟩⟩;and_intros<;>first|rfl|(simp only[aC,seval,X,Y,Z,O,aa,ad,ag,ai,U,aj,aq,ar,Zg]<;>rfl)
         ·rintro x t H e hx;obtain⟨bD,rfl⟩:∃z,z=cy:=⟨_,rfl⟩;dsimp only at hx hh;obtain⟨rfl,⟨a1,a6,a7,ch⟩⟩:=hx;cases hh;try simp only[aC,seval,X,Y,Z,O,aa,ad,ag,ai,U,aj,aq,ar,ch]
          apply iu;refine⟨a1,a6,a7,?_⟩;and_intros<;>first|rfl|(simp only[aC,seval,X,Y,Z,O,aa,ad,ag,ai,U,aj,aq,ar,ch]<;>rfl)
      ·cases hh;try simp only[aC,seval,X,Y,Z,O,aa,ad,ag,ai,U,aj,Zc]
       apply jv;refine⟨rfl,⟨bl,bm,bn,?_⟩⟩;and_intros<;>first|rfl|(simp only[aC,seval,X,Y,Z,O,aa,ad,ag,ai,U,aj,Zc]<;>rfl)
     ·rintro x t H e hx;rcases cw with⟨aL,aw⟩|rc
      ·dsimp only at hx hh;obtain⟨rfl,⟨aT,aU,aV,cj⟩⟩:=hx;try simp only[aC,seval,X,Y,Z,O,aa,ad,ag,ai,U,aj,cj]
       obtain⟨cz,ck,hh⟩:=ae hh;refine aB (fun s t H e=>match s with|bH=>∃bI:Nat,∃bR:Nat,∃bK:Nat,t 1=.ptr 1 bI 0∧t 7=.buf 7 bK 1 0 (aw).length∧t 100=.buf 6 bR 1 0 (aL).length∧t 101=.int .i64 ((aL).length:Int)∧t 102=.int .i64 bH∧H 1=some ⟨bI,25,[.sl false false p0.au.length (ab (eI .i64) p0.au),.sl false false p0.ao.length (ab b6 p0.ao)],false,false,false⟩∧H 6=some ⟨bR,3,ab (eI .i64) aL,false,true,false⟩∧H 7=some ⟨bK,3,ab (eI .i64) aw,false,true,false⟩) (fun o x t H e=>match o with|(.inl _)=>x=.exit 8∧∃bc:Nat,∃bd:Nat,t 1=.ptr 1 bc 0∧t 7=.buf 7 bd 1 0 (aw).length∧H 1=some ⟨bc,25,[.sl false false p0.au.length (ab (eI .i64) p0.au),.sl false false p0.ao.length (ab b6 p0.ao)],false,false,false⟩∧H 7=some ⟨bd,3,ab (eI .i64) aw,false,true,false⟩|(.inr r)=>x=.ret∧fF .clean tab none [.tmp 2,.tmp 3] ⟨t,EH H,e⟩=some (.clean (.tup [.int .i64 r.1,.int .i64 r.2]),none)) ck ?_ ?_ ?_
       ·refine⟨aT,aU,aV,?_⟩;and_intros<;>first|rfl|(simp only[aC,seval,X,Y,Z,O,aa,ad,ag,ai,U,aj,cj]<;>rfl)
       ·rintro bH t H e ⟨bI,bR,bK,Zh⟩ c hh;simp only[jM]at hh;try simp only[aC,seval,X,Y,Z,O,aa,ad,ag,ai,U,aj,Zh]
        apply sp al hh<;>intro _ hh
        ·obtain⟨cF,cm,hh⟩:=ae hh;have ay:=bo (eI .i64) cm;simp only[bZ]at ay;try simp only[aC,seval,X,Y,Z,O,aa,ad,ag,ai,U,aj,Zh,ay]
         apply sp al hh<;>intro _ hh
         ·cases hh;try simp only[aC,seval,X,Y,Z,O,aa,ad,ag,ai,U,aj,Zh,ay]
          refine rq ⟨rfl,?_⟩;try simp only[aC,seval,X,Y,Z,O,aa,ad,ag,ai,U,aj,Zh,ay]
         ·try simp only[aC,seval,X,Y,Z,O,aa,ad,ag,ai,U,aj,Zh,ay]
          apply sp al hh<;>intro _ hh
          ·cases hh;try simp only[aC,seval,X,Y,Z,O,aa,ad,ag,ai,U,aj,Zh,ay]
           refine rq ⟨rfl,?_⟩;try simp only[aC,seval,X,Y,Z,O,aa,ad,ag,ai,U,aj,Zh,ay]
          ·cases hh;try simp only[aC,seval,X,Y,Z,O,aa,ad,ag,ai,U,aj,Zh,ay]
           apply iu;refine⟨bI,bR,bK,?_⟩;and_intros<;>first|rfl|(simp only[aC,seval,X,Y,Z,O,aa,ad,ag,ai,U,aj,Zh,ay]<;>rfl)
        ·cases hh;try simp only[aC,seval,X,Y,Z,O,aa,ad,ag,ai,U,aj,Zh]
         apply jv;refine⟨rfl,⟨bI,bK,?_⟩⟩;and_intros<;>first|rfl|(simp only[aC,seval,X,Y,Z,O,aa,ad,ag,ai,U,aj,Zh]<;>rfl)
       ·rintro x t H e hx;rcases cz with _|rh
        ·dsimp only at hx hh;obtain⟨rfl,⟨bc,bd,cn⟩⟩:=hx;try simp only[aC,seval,X,Y,Z,O,aa,ad,ag,ai,U,aj,cn]
         obtain⟨cA,cp,hh⟩:=ae hh;refine aB (fun s t H e=>match s with|bL=>∃bS:Nat,∃bT:Nat,t 1=.ptr 1 bS 0∧t 116=.buf 7 bT 1 0 (aw).length∧t 117=.int .i64 ((aw).length:Int)∧t 118=.int .i64 bL∧H 1=some ⟨bS,25,[.sl false false p0.au.length (ab (eI .i64) p0.au),.sl false false p0.ao.length (ab b6 p0.ao)],false,false,false⟩∧H 7=some ⟨bT,3,ab (eI .i64) aw,false,true,false⟩) (fun o x t H e=>match o with|(.inl _)=>x=.exit 11|(.inr r)=>x=.ret∧fF .clean tab none [.tmp 2,.tmp 3] ⟨t,EH H,e⟩=some (.clean (.tup [.int .i64 r.1,.int .i64 r.2]),none)) cp ?_ ?_ ?_
         ·refine⟨bc,bd,?_⟩;and_intros<;>first|rfl|(simp only[aC,seval,X,Y,Z,O,aa,ad,ag,ai,U,aj,cn]<;>rfl)
         ·rintro bL t H e ⟨bS,bT,Zi⟩ c hh;simp only[jN]at hh;try simp only[aC,seval,X,Y,Z,O,aa,ad,ag,ai,U,aj,Zi]
          apply sp al hh<;>intro _ hh
          ·obtain⟨cG,cq,hh⟩:=ae hh;have aM:=bo (eI .i64) cq;simp only[bZ]at aM;obtain⟨cH,cr,hh⟩:=ae hh;have aN:=bo (eI .i64) cr;simp only[bZ]at aN;try simp only[aC,seval,X,Y,Z,O,aa,ad,ag,ai,U,aj,Zi,aM,aN]
           apply sp al hh<;>intro _ hh
           ·cases hh;try simp only[aC,seval,X,Y,Z,O,aa,ad,ag,ai,U,aj,Zi,aM,aN]
            refine rq ⟨rfl,?_⟩;try simp only[aC,seval,X,Y,Z,O,aa,ad,ag,ai,U,aj,Zi,aM,aN]
           ·cases hh;try simp only[aC,seval,X,Y,Z,O,aa,ad,ag,ai,U,aj,Zi,aM,aN]
            apply iu;refine⟨bS,bT,?_⟩;and_intros<;>first|rfl|(simp only[aC,seval,X,Y,Z,O,aa,ad,ag,ai,U,aj,Zi,aM,aN]<;>rfl)
          ·cases hh;try simp only[aC,seval,X,Y,Z,O,aa,ad,ag,ai,U,aj,Zi]
           apply jv;exact rfl
         ·rintro x t H e hx;rcases cA with _|ri
          ·dsimp only at hx hh;subst hx;cases hh;try simp only[aC,seval,X,Y,Z,O,aa,ad,ag,ai,U,aj]
          ·dsimp only at hx hh;obtain⟨rfl,hE⟩:=hx;cases hh;try simp only[bg,aY,bk,cK,cJ,ca,cc]
           exact hE
        ·dsimp only at hx hh;obtain⟨rfl,hE⟩:=hx;cases hh;try simp only[bg,aY,bk,cK,cJ,ca,cc]
         exact hE
      ·dsimp only at hx hh;obtain⟨rfl,hE⟩:=hx;cases hh;try simp only[bg,aY,bk,cK,cJ,ca,cc]
       exact hE
    ·dsimp only at hx hh;obtain⟨rfl,hE⟩:=hx;cases hh;try simp only[bg,aY,bk,cK,cJ,ca,cc]
     exact hE
 ·clear hh;have hh:=ct;try simp only[aC,seval]
  apply sp aR hh<;>intro _ hh
  ·cases hh;try simp only[aC,seval]
   rw[an];refine⟨_,rfl,?_⟩;refine⟨0,?_⟩;and_intros<;>first|rfl|(simp only[aC,seval]<;>rfl)
  ·cases hh;try simp only[aC,seval]
   rw[an];refine⟨_,rfl,?_⟩;refine⟨0,?_⟩;and_intros<;>first|rfl|(simp only[aC,seval]<;>rfl)
def uF (l:Option (D×Row)) (d:List D):=dW (iD (aI .i64) (dS (aI .i64))) (fun x:Int×Int=>u7 x.1 x.2) (fun r:aw×Int =>.clean (.tup [.agg [.int .i64 r.1.cu.aj,.sl false false r.1.cu.aa.length (ab (eI .i64) r.1.cu.aa),.int .i64 r.1.ct.aj,.sl false false r.1.ct.aa.length (ab (eI .i64) r.1.ct.aa)],.int .i64 r.2])) l d
def ze:Env:=(Am.ext (Am.ext bm 58 false gU) 107 false oJ)
theorem QM:bH prog ze:=((bH.none.add tZ false).add Io false)
theorem Wn:type_of% (ai @w<|ai @yN<|ai @gU.eq_1<|ai @FE<|ai @oJ.eq_1<|@ze.eq_1):=⟨@w,@yN,@gU.eq_1,@FE,@oJ.eq_1,@ze.eq_1⟩
theorem Rc:bW prog 71 uF:=bW.gN (mode := .clean) tok QM mixed func71 (by kernel_rfl) (fun _ _=>rfl) (fun _=>by kernel_rfl) fun⟨Z,p1⟩ r O=>by
 replace O:u7 Z p1=some r:=O;apply aH rfl ntmps71 results71;simp only[gR];unfold u7 at O;obtain⟨r1,U,O⟩:=ae O;obtain⟨r2,X,O⟩:=ae O;obtain⟨r3,Y,O⟩:=ae O;cases O;try simp only[Wn,seval,U,X,Y]
def gT (l:Option (D×Row)) (d:List D):=dW (iD (bC aG) (dS (bC aG))) (fun x:aw×aw=>mU x.1 x.2) (fun r:aw×Int =>.clean (.tup [.agg [.int .i64 r.1.cu.aj,.sl false false r.1.cu.aa.length (ab (eI .i64) r.1.cu.aa),.int .i64 r.1.ct.aj,.sl false false r.1.ct.aa.length (ab (eI .i64) r.1.ct.aa)],.int .i64 r.2])) l d
def wF:Env:=(Am.ext (Am.ext (Am.ext bm 47 false bM) 57 false fu) 58 false gU)
theorem MM:bH prog wF:=(((bH.none.add ia false).add qH false).add tZ false)
theorem ib:type_of% (ai @w<|ai @B5<|ai @bM.eq_1<|ai @yN<|ai @fu.eq_1<|ai @gU.eq_1<|@wF.eq_1):=⟨@w,@B5,@bM.eq_1,@yN,@fu.eq_1,@gU.eq_1,@wF.eq_1⟩
theorem tY:bW prog 29 gT:=bW.gN (mode := .clean) tok MM mixed func29 (by kernel_rfl) (fun _ _=>rfl) (fun _=>by kernel_rfl) fun⟨p0,p1⟩ r O=>by
 replace O:mU p0 p1=some r:=O;apply aH rfl ntmps29 results29;simp only[gR];unfold mU at O;obtain⟨r1,U,O⟩:=ae O;try simp only[ib,seval,U]
 obtain⟨o2,aq,O⟩:=ae O;refine bA 0 (fun s t H e=>match s with|X=>∃Y:Nat,∃Z:Nat,∃ad:Nat,t 2=.ptr 2 Y 0∧t 3=.ptr 3 Z 0∧t 4=.ptr 4 ad 0∧t 13=.bool X∧H 2=some ⟨Y,42,[.int .i64 p0.cu.aj,.sl false false p0.cu.aa.length (ab (eI .i64) p0.cu.aa),.int .i64 p0.ct.aj,.sl false false p0.ct.aa.length (ab (eI .i64) p0.ct.aa)],false,false,false⟩∧H 3=some ⟨Z,42,[.int .i64 p1.cu.aj,.sl false false p1.cu.aa.length (ab (eI .i64) p1.cu.aa),.int .i64 p1.ct.aj,.sl false false p1.ct.aa.length (ab (eI .i64) p1.ct.aa)],false,false,false⟩∧H 4=some ⟨ad,42,[.int .i64 0,.sl true true 0 [],.int .i64 0,.sl true true 0 []],false,false,false⟩) (fun s=>s=o2) ?_ ?_
 ·rintro X t H e ⟨Y,Z,ad,ag⟩ rfl;try dsimp only at O
  try simp only[ib,seval,U,ag]
  apply sp al O<;>intro _ O
  ·cases O;try simp only[ib,seval,U,ag]
  ·obtain⟨r4,ah,O⟩:=ae O;obtain⟨r5,ai,O⟩:=ae O;obtain⟨r6,ak,O⟩:=ae O;try simp only[ib,seval,U,ag,ah,ai,ak]
   refine bJ (by kernel_rfl) ?_;cases O;try simp only[ib,seval,U,ag,ah,ai,ak]
 ·clear O;have O:=aq;try simp only[ib,seval,U]
  apply sp aR O<;>intro _ O
  ·cases O;try simp only[ib,seval,U]
   rw[an];refine⟨_,rfl,?_⟩;refine⟨0,0,0,?_⟩;and_intros<;>first|rfl|(simp only[ib,seval,U]<;>rfl)
  ·obtain⟨r8,ao,O⟩:=ae O;cases O;try simp only[ib,seval,U,ao]
   rw[an];refine⟨_,rfl,?_⟩;refine⟨0,0,0,?_⟩;and_intros<;>first|rfl|(simp only[ib,seval,U,ao]<;>rfl)
def nA:=mkM 74 (bC aG) (iD (mP (eI .i64)) (dS (bC b6))) (fun (l:(List ((Int×Int)×aw))) (x:(List Int)×bE)=>hZ l x.1 x.2) (fun r:Unit =>.clean (.tup []))
theorem BH (p0:(List ((Int×Int)×aw))) (p1:(List Int)) (O:(List fI)) (U:(List s6)) (X:(List (List aw))) (Y:(List fA)) (Z:(List Int)):nA (some (.mp 0 0,⟨0,74,[.mpc (dK p0) (fC (bC aG) p0)],false,true,true⟩)) [.sl false false p1.length (ab (eI .i64) p1),.agg [.sl false false O.length (ab a8 O),.sl false false U.length (ab dw U),.sl false false X.length (ab (jk aG) X),.sl false false Y.length (ab dV Y),.sl false false Z.length (ab (eI .i64) Z)]]=(hZ p0 p1 (bE.mk (fH.mk O U X) Y Z)).map fun r=>(.clean (.tup []),some ⟨0,74,[.mpc (dK r.1) (fC (bC aG) r.1)],false,true,true⟩):=ac9 _ _ _ _ _ p0 (p1,(bE.mk (fH.mk O U X) Y Z))
def kr:Env:=(Am.ext (Am.ext (Am.ext (Am.ext bm 29 false gT) 48 false du) 71 false uF) 72 false lZ)
theorem zq:bH prog kr:=((((bH.none.add tY false).add lF false).add Rc false).add ED false)
theorem aM:type_of% (ai @w<|ai @rf<|ai @gT.eq_1<|ai @B5<|ai @du.eq_1<|ai @Ws<|ai @uF.eq_1<|ai @lZ.eq_1<|@kr.eq_1):=⟨@w,@rf,@gT.eq_1,@B5,@du.eq_1,@Ws,@uF.eq_1,@lZ.eq_1,@kr.eq_1⟩
theorem Bx (p0:(List ((Int×Int)×aw))) (p1:(List Int)) (Z:bE) (r:(List ((Int×Int)×aw))×(Unit)) (hh:hZ p0 p1 Z=some r):jY .clean tab kr FU Tryz.f41 (some (.mp 0 0,⟨0,74,[.mpc (dK p0) (fC (bC aG) p0)],false,true,true⟩)) [.sl false false p1.length (ab (eI .i64) p1),.agg [.sl false false Z.ak.ah.length (ab a8 Z.ak.ah),.sl false false Z.ak.aJ.length (ab dw Z.ak.aJ),.sl false false Z.ak.aA.length (ab (jk aG) Z.ak.aA),.sl false false Z.aK.length (ab dV Z.aK),.sl false false Z.az.length (ab (eI .i64) Z.az)]]=some (.clean (.tup []),some ⟨0,74,[.mpc (dK r.1) (fC (bC aG) r.1)],false,true,true⟩):=by
 apply PR rfl ntmps41 results41;unfold hZ at hh;try simp only[aM,seval]
 obtain⟨bq,a7,hh⟩:=ae hh;refine aB (fun s t H e=>match s with|(ao,a6)=>∃aL:Nat,t 0=.mp 0 0∧t 1=.sl false false p1.length (ab (eI .i64) p1)∧t 5=.ptr 5 aL 0∧t 20=.sl false false Z.ak.ah.length (ab a8 Z.ak.ah)∧t 21=.int .i64 (Z.ak.ah.length:Int)∧t 22=.int .i64 ao∧H 0=some ⟨0,74,[.mpc (dK a6) (fC (bC aG) a6)],false,true,true⟩∧H 5=some ⟨aL,55,[.sl false false Z.ak.ah.length (ab a8 Z.ak.ah),.sl false false Z.ak.aJ.length (ab dw Z.ak.aJ),.sl false false Z.ak.aA.length (ab (jk aG) Z.ak.aA),.sl false false Z.aK.length (ab dV Z.aK),.sl false false Z.az.length (ab (eI .i64) Z.az)],false,false,false⟩) (fun o x t H e=>match o with|aN=>x=.exit 0∧t 0=.mp 0 0∧H 0=some ⟨0,74,[.mpc (dK aN) (fC (bC aG) aN)],false,true,true⟩) a7 ?_ ?_ ?_
 ·refine⟨1,?_⟩;and_intros<;>first|rfl|(simp only[aM,seval]<;>rfl)
 ·rintro⟨ao,a6⟩ t H e ⟨aL,Za⟩ c hh;simp only[iw]at hh;try simp only[aM,seval,Za]
  apply sp al hh<;>intro _ hh
  ·obtain⟨bu,ba,hh⟩:=ae hh;have O:=bo a8 ba;simp only[bZ]at O;try simp only[aM,seval,Za,O]
   apply sp al hh<;>intro _ hh
   ·cases hh;try simp only[aM,seval,Za,O]
    apply iu;refine⟨aL,?_⟩;and_intros<;>first|rfl|(simp only[aM,seval,Za,O]<;>rfl)
   ·obtain⟨aX,bb,hh⟩:=ae hh;have U:=bo dV bb;simp only[bZ]at U;obtain⟨bw,bc,hh⟩:=ae hh;have X:=bo (eI .i64) bc;simp only[bZ]at X;obtain⟨ai,Y,hh⟩:=ae hh;try simp only[aM,seval,Za,O,U,X,Y]
    refine bJ (by kernel_rfl) ?_;try simp only[aM,seval,Za,O,U,X,Y]
    obtain⟨br,bd,hh⟩:=ae hh;refine aB (fun s t H e=>match s with|(aE,aO)=>∃aI:Nat,∃aP:Nat,∃aS:Nat,t 0=.mp 0 0∧t 1=.sl false false p1.length (ab (eI .i64) p1)∧t 5=.ptr 5 aI 0∧t 6=.int .i64 ao∧t 8=.ptr 8 aP 0∧t 9=.ptr 9 aS 0∧t 20=.sl false false Z.ak.ah.length (ab a8 Z.ak.ah)∧t 21=.int .i64 (Z.ak.ah.length:Int)∧t 22=.int .i64 ao∧t 49=.sl false false Z.ak.aJ.length (ab dw Z.ak.aJ)∧t 50=.int .i64 (Z.ak.aJ.length:Int)∧t 51=.int .i64 aE∧H 0=some ⟨0,74,[.mpc (dK aO) (fC (bC aG) aO)],false,true,true⟩∧H 5=some ⟨aI,55,[.sl false false Z.ak.ah.length (ab a8 Z.ak.ah),.sl false false Z.ak.aJ.length (ab dw Z.ak.aJ),.sl false false Z.ak.aA.length (ab (jk aG) Z.ak.aA),.sl false false Z.aK.length (ab dV Z.aK),.sl false false Z.az.length (ab (eI .i64) Z.az)],false,false,false⟩∧H 8=some ⟨aP,57,[.int .i64 aX.bU,.int .i64 aX.aF],false,false,false⟩∧H 9=some ⟨aS,42,[.int .i64 ai.1.cu.aj,.sl false false ai.1.cu.aa.length (ab (eI .i64) ai.1.cu.aa),.int .i64 ai.1.ct.aj,.sl false false ai.1.ct.aa.length (ab (eI .i64) ai.1.ct.aa)],false,false,false⟩) (fun o x t H e=>match o with|aT=>x=.exit 2∧∃aH:Nat,t 0=.mp 0 0∧t 1=.sl false false p1.length (ab (eI .i64) p1)∧t 5=.ptr 5 aH 0∧t 20=.sl false false Z.ak.ah.length (ab a8 Z.ak.ah)∧t 21=.int .i64 (Z.ak.ah.length:Int)∧t 22=.int .i64 ao∧H 0=some ⟨0,74,[.mpc (dK aT) (fC (bC aG) aT)],false,true,true⟩∧H 5=some ⟨aH,55,[.sl false false Z.ak.ah.length (ab a8 Z.ak.ah),.sl false false Z.ak.aJ.length (ab dw Z.ak.aJ),.sl false false Z.ak.aA.length (ab (jk aG) Z.ak.aA),.sl false false Z.aK.length (ab dV Z.aK),.sl false false Z.az.length (ab (eI .i64) Z.az)],false,false,false⟩) bd ?_ ?_ ?_
    ·refine⟨aL,e+1+1+1,e+1+1+1+1,?_⟩;and_intros<;>first|rfl|(simp only[aM,seval,Za,O,U,X,Y]<;>rfl)
    ·rintro⟨aE,aO⟩ t H e ⟨aI,aP,aS,Ze⟩ c hh;simp only[gn]at hh;try simp only[aM,seval,O,U,X,Y,Ze]
     apply sp al hh<;>intro _ hh
     ·obtain⟨aY,bg,hh⟩:=ae hh;have ad:=bo dw bg;simp only[bZ]at ad;try simp only[aM,seval,O,U,X,Y,Ze,ad]
      obtain⟨bs,bh,hh⟩:=ae hh;refine bA 0 (fun s t H e=>match s with|aU=>∃av:Nat,∃ax:Nat,∃ay:Nat,∃aD:Nat,t 0=.mp 0 0∧t 1=.sl false false p1.length (ab (eI .i64) p1)∧t 5=.ptr 5 av 0∧t 6=.int .i64 ao∧t 8=.ptr 8 ax 0∧t 9=.ptr 9 ay 0∧t 11=.int .i64 aE∧t 12=.ptr 12 aD 0∧t 20=.sl false false Z.ak.ah.length (ab a8 Z.ak.ah)∧t 21=.int .i64 (Z.ak.ah.length:Int)∧t 22=.int .i64 ao∧t 49=.sl false false Z.ak.aJ.length (ab dw Z.ak.aJ)∧t 50=.int .i64 (Z.ak.aJ.length:Int)∧t 51=.int .i64 aE∧t 71=.bool aU∧H 0=some ⟨0,74,[.mpc (dK aO) (fC (bC aG) aO)],false,true,true⟩∧H 5=some ⟨av,55,[.sl false false Z.ak.ah.length (ab a8 Z.ak.ah),.sl false false Z.ak.aJ.length (ab dw Z.ak.aJ),.sl false false Z.ak.aA.length (ab (jk aG) Z.ak.aA),.sl false false Z.aK.length (ab dV Z.aK),.sl false false Z.az.length (ab (eI .i64) Z.az)],false,false,false⟩∧H 8=some ⟨ax,57,[.int .i64 aX.bU,.int .i64 aX.aF],false,false,false⟩∧H 9=some ⟨ay,42,[.int .i64 ai.1.cu.aj,.sl false false ai.1.cu.aa.length (ab (eI .i64) ai.1.cu.aa),.int .i64 ai.1.ct.aj,.sl false false ai.1.ct.aa.length (ab (eI .i64) ai.1.ct.aa)],false,false,false⟩∧H 12=some ⟨aD,97,[.int .i64 aY.bf,.int .i64 aY.aQ,.int .i64 aY.aF,.str aY.Dw],false,false,false⟩) (fun s=>s=bs) ?_ ?_
      ·rintro aU t H e ⟨av,ax,ay,aD,au⟩ rfl;try dsimp only at hh
       try simp only[aM,seval,O,U,X,Y,ad,au]
       apply sp al hh<;>intro _ hh
       ·cases hh;try simp only[aM,seval,O,U,X,Y,ad,au]
        apply iu;refine⟨av,ax,ay,?_⟩;and_intros<;>first|rfl|(simp only[aM,seval,O,U,X,Y,ad,au]<;>rfl)
       ·obtain⟨bx,bj,hh⟩:=ae hh;have ag:=bo (eI .i64) bj;simp only[bZ]at ag;try simp only[aM,seval,O,U,X,Y,ad,au,ag]
        refine bJ (by kernel_rfl) ?_;obtain⟨bz,bk,hh⟩:=ae hh;have aq:=bo (jk aG) bk;simp only[bZ]at aq;obtain⟨bB,bl,hh⟩:=ae hh;have ar:=bo aG bl;simp only[bZ]at ar;obtain⟨bD,aC,hh⟩:=ae hh;try simp only[aM,seval,O,U,X,Y,ad,au,ag,aq,ar,aC]
        refine bJ (by kernel_rfl) ?_;try simp only[aM,seval,O,U,X,Y,ad,au,ag,aq,ar,aC]
        apply sp al hh<;>intro _ hh
        ·obtain⟨bF,aZ,hh⟩:=ae hh;cases hh;try simp only[aM,seval,O,U,X,Y,ad,au,ag,aq,ar,aC,aZ]
         apply iu;refine⟨av,ax,ay,?_⟩;and_intros<;>first|rfl|(simp only[aM,seval,O,U,X,Y,ad,au,ag,aq,ar,aC,aZ]<;>rfl)
        ·cases hh;try simp only[aM,seval,O,U,X,Y,ad,au,ag,aq,ar,aC]
         apply iu;refine⟨av,ax,ay,?_⟩;and_intros<;>first|rfl|(simp only[aM,seval,O,U,X,Y,ad,au,ag,aq,ar,aC]<;>rfl)
      ·clear hh;have hh:=bh;try simp only[aM,seval,O,U,X,Y,Ze,ad]
       apply sp aR hh<;>intro _ hh
       ·cases hh;try simp only[aM,seval,O,U,X,Y,Ze,ad]
        rw[an];refine⟨_,rfl,?_⟩;refine⟨aI,aP,aS,e+1,?_⟩;and_intros<;>first|rfl|(simp only[aM,seval,O,U,X,Y,Ze,ad]<;>rfl)
       ·obtain⟨bG,bm,hh⟩:=ae hh;have aV:=bo (jk aG) bm;simp only[bZ]at aV;obtain⟨bH,bn,hh⟩:=ae hh;have aW:=bo aG bn;simp only[bZ]at aW;obtain⟨bI,a1,hh⟩:=ae hh;cases hh;try simp only[aM,seval,O,U,X,Y,Ze,ad,aV,aW,a1]
        rw[an];refine⟨_,rfl,?_⟩;refine⟨aI,aP,aS,e+1,?_⟩;and_intros<;>first|rfl|(simp only[aM,seval,O,U,X,Y,Ze,ad,aV,aW,a1]<;>rfl)
     ·cases hh;try simp only[aM,seval,O,U,X,Y,Ze]
      apply jv;refine⟨rfl,⟨aI,?_⟩⟩;and_intros<;>first|rfl|(simp only[aM,seval,O,U,X,Y,Ze]<;>rfl)
    ·rintro x t H e hx;obtain⟨aT,rfl⟩:∃z,z=br:=⟨_,rfl⟩;dsimp only at hx hh;obtain⟨rfl,⟨aH,bp⟩⟩:=hx;cases hh;try simp only[aM,seval,O,U,X,Y,bp]
     apply iu;refine⟨aH,?_⟩;and_intros<;>first|rfl|(simp only[aM,seval,O,U,X,Y,bp]<;>rfl)
  ·cases hh;try simp only[aM,seval,Za]
   apply jv;refine⟨rfl,?_⟩;and_intros<;>first|rfl|(simp only[aM,seval,Za]<;>rfl)
 ·rintro x t H e hx;obtain⟨aN,rfl⟩:∃z,z=bq:=⟨_,rfl⟩;dsimp only at hx hh;obtain⟨rfl,bt⟩:=hx;cases hh;try simp only[aM,seval,bt]
theorem zB:bW prog 41 nA:=bW.Yp tok zq mixed func41 (by kernel_rfl) ⟨by kernel_rfl,by kernel_rfl⟩ (fun _=>ais (by kernel_rfl)) (fun l x l' r h=>Bx l x.1 x.2 (l',r) h)
def nM (l:Option (D×Row)) (d:List D):=dW (iD (bC bB) (dS (bC bB))) (fun x:bL×bL=>mu x.1 x.2) (fun r:Int =>.clean (.int .i64 r)) l d
theorem aez {β:Type} {F:bL×bL->Option β} {R:β->RK} (Z:Int) (aa:Int) (ad:Int) (O:(List Int)) (ae:Int) (U:(List Int)) (ag:Int) (ah:Int) (ai:Int) (X:(List Int)) (aj:Int) (Y:(List Int)):dW (iD (bC bB) (dS (bC bB))) F R none [.agg [.int .i64 Z,.int .i64 aa,.int .i64 ad,.sl false false O.length (ab (eI .i64) O),.int .i64 ae,.sl false false U.length (ab (eI .i64) U)],.agg [.int .i64 ag,.int .i64 ah,.int .i64 ai,.sl false false X.length (ab (eI .i64) X),.int .i64 aj,.sl false false Y.length (ab (eI .i64) Y)]]=(F ((bL.mk Z aa (aw.mk (aD.mk ad O) (aD.mk ae U))),(bL.mk ag ah (aw.mk (aD.mk ai X) (aD.mk aj Y))))).map fun r=>(R r,none):=cU _ _ _ ((bL.mk Z aa (aw.mk (aD.mk ad O) (aD.mk ae U))),(bL.mk ag ah (aw.mk (aD.mk ai X) (aD.mk aj Y))))
def sa:Env:=(Am.ext (Am.ext bm 75 false xp) 76 false eR)
theorem FV:bH prog sa:=((bH.none.add Ip false).add pA false)
theorem yL:type_of% (ai @w<|ai @q8<|ai @Ws<|ai @eR.eq_1<|@sa.eq_1):=⟨@w,@q8,@Ws,@eR.eq_1,@sa.eq_1⟩
theorem FZ:bW prog 43 nM:=bW.gN (mode := .clean) tok FV mixed func43 (by kernel_rfl) (fun _ _=>rfl) (fun _=>by kernel_rfl) fun⟨Z,p1⟩ r O=>by
 replace O:mu Z p1=some r:=O;apply aH rfl ntmps43 results43;simp only[gR];unfold mu at O;obtain⟨r1,U,O⟩:=ae O;obtain⟨r2,X,O⟩:=ae O;have i3:=q8 ([r1,r2]);simp only[bj,bZ,List.length_cons,List.length_nil,ahr,Nat.reduceAdd,aiK]at i3;obtain⟨r4,Y,O⟩:=ae O;try simp only[yL,seval,U,X,i3,Y]
 refine bJ (by kernel_rfl) ?_;cases O;try simp only[yL,seval,U,X,i3,Y]
def oL (l:Option (D×Row)) (d:List D):=dW (dS (bC nW)) (fun x:bP=>tW x) (fun r:fP×Int =>.clean (.tup [.agg [.int .i64 r.1.az,.sl false false r.1.aN.length (ab bB r.1.aN)],.int .i64 r.2])) l d
def xU:Env:=(Am.vF 9 (65,6,1) (Am.ext (Am.ext bm 10 false fX) 41 true nA))
theorem Vq:bH prog xU:=(bH.vF ((bH.none.add sh false).add zB true) 9 (65,6,1))
theorem iC:type_of% (ai @w<|ai @Dz<|ai @VZ<|ai @fX.eq_1<|@xU.eq_1):=⟨@w,@Dz,@VZ,@fX.eq_1,@xU.eq_1⟩
theorem Yt (Z:bP) (r:fP×Int) (U:tW Z=some r):R3 tab xU FU 5 Tryz.f12 [.agg [.sl false false Z.au.length (ab (eI .i64) Z.au),.sl false false Z.ao.length (ab b6 Z.ao)]] (wC tab Tryz.f12.results.toList (.clean (.tup [.agg [.int .i64 r.1.az,.sl false false r.1.aN.length (ab bB r.1.aN)],.int .i64 r.2]),none) (adQ r)):=by
 apply Wj rfl ntmps12 results12;simp only[JU,JV];unfold tW at U;obtain⟨r1,O,U⟩:=ae U;try simp only[iC,seval,O]
 apply sp al U<;>intro _ U
 ·cases U;try simp only[iC,seval,O]
 ·try simp only[iC,seval,O]
  obtain⟨o7,ay,U⟩:=ae U;refine aB (fun s t H e=>match s with|(ar,ad)=>∃ai:Nat,∃aj:Nat,∃aa:Nat,t 1=.ptr 1 ai 0∧t 2=.ptr 2 aj 0∧t 6=.mp 21 aa∧t 23=.sl false false Z.ao.length (ab b6 Z.ao)∧t 24=.int .i64 (Z.ao.length:Int)∧t 25=.int .i64 ar∧H 1=some ⟨ai,25,[.sl false false Z.au.length (ab (eI .i64) Z.au),.sl false false Z.ao.length (ab b6 Z.ao)],false,false,false⟩∧H 2=some ⟨aj,28,[.int .i64 0,.sl true true 0 []],false,false,false⟩∧H 21=some ⟨aa,74,[.mpc (dK ad) (fC (bC aG) ad)],false,true,true⟩) (fun o x t H e=>match o with|X=>x=.exit 0∧∃an:Nat,∃ag:Nat,∃Y:Nat,t 1=.ptr 1 an 0∧t 2=.ptr 2 ag 0∧t 6=.mp 21 Y∧H 1=some ⟨an,25,[.sl false false Z.au.length (ab (eI .i64) Z.au),.sl false false Z.ao.length (ab b6 Z.ao)],false,false,false⟩∧H 2=some ⟨ag,28,[.int .i64 0,.sl true true 0 []],false,false,false⟩∧H 21=some ⟨Y,74,[.mpc (dK X) (fC (bC aG) X)],false,true,true⟩) ay ?_ ?_ ?_
  ·refine⟨0,0,3,?_⟩;and_intros<;>first|rfl|(simp only[iC,seval,O]<;>rfl)
  ·rintro⟨ar,ad⟩ t H e ⟨ai,aj,aa,Za⟩ c U;simp only[oE]at U;try simp only[iC,seval,O,Za]
   apply sp al U<;>intro _ U
   ·obtain⟨x9,aC,U⟩:=ae U;have ax:=bo b6 aC;simp only[bZ]at ax;have i10:=BH ad Z.au x9.ak.ah x9.ak.aJ x9.ak.aA x9.aK x9.az;try simp only[bZ]at i10
    obtain⟨aD,av,U⟩:=ae U;cases U;try simp only[iC,seval,O,Za,ax,i10,av]
    apply iu;refine⟨ai,aj,aa,?_⟩;and_intros<;>first|rfl|(simp only[iC,seval,O,Za,ax,i10,av]<;>rfl)
   ·cases U;try simp only[iC,seval,O,Za]
    apply jv;refine⟨rfl,⟨ai,aj,aa,?_⟩⟩;and_intros<;>first|rfl|(simp only[iC,seval,O,Za]<;>rfl)
  ·rintro x t H e hx;obtain⟨X,rfl⟩:∃z,z=o7:=⟨_,rfl⟩;dsimp only at hx U;obtain⟨rfl,⟨an,ag,Y,aq⟩⟩:=hx;try simp only[iC,seval,O,aq]
   apply sp al U<;>intro _ U
   ·cases U;try simp only[iC,seval,O,aq]
   ·have aw:bump (4*(e+1)+2) (e+1)=some (4*(e+1)+3):=Xa rfl;try simp only[iC,seval,O,aq,aw]
    rw[FP];refine⟨X,(Z.au.length:Int),Y,e+1,ag,(4*(e+1)+3),?_,?_,?_,?_,?_,?_,by omega,U⟩;all_goals first|rfl|(simp only[iC,seval,O,aq,aw]<;>rfl)
theorem Iq:bW prog 12 oL:=bW.front tok Vq mixed func12 rfl (by kernel_rfl) ⟨by kernel_rfl,by kernel_rfl⟩ (fun _=>ais (by kernel_rfl)) (ais (by kernel_rfl)) (fun x r h=>Yt x r h) (fun r=>YD r)
def mK (l:Option (D×Row)) (d:List D):=dW (iD (bC dI) (dS (bC dI))) (fun x:aD×aD=>jA x.1 x.2) (fun r:Bool =>.clean (.bool r)) l d
theorem EK:bW prog 54 mK:=bW.gN (mode := .clean) tok bH.none mixed func54 (by kernel_rfl) (fun _ _=>rfl) (fun _=>by kernel_rfl) fun⟨p0,p1⟩ r O=>by
 replace O:jA p0 p1=some r:=O;apply aH rfl ntmps54 results54;simp only[gR];unfold jA at O;try simp only[w,seval]
 obtain⟨o1,aq,O⟩:=ae O;refine bA 0 (fun s t H e=>match s with|ad=>∃Y:Nat,∃Z:Nat,t 2=.ptr 2 Y 0∧t 3=.ptr 3 Z 0∧t 19=.bool ad∧H 2=some ⟨Y,40,[.int .i64 p0.aj,.sl false false p0.aa.length (ab (eI .i64) p0.aa)],false,false,false⟩∧H 3=some ⟨Z,40,[.int .i64 p1.aj,.sl false false p1.aa.length (ab (eI .i64) p1.aa)],false,false,false⟩) (fun s=>s=o1) ?_ ?_
 ·rintro ad t H e ⟨Y,Z,ag⟩ rfl;try dsimp only at O
  try simp only[w,seval,ag]
  apply sp al O<;>intro _ O
  ·cases O;try simp only[w,seval,ag]
  ·try simp only[w,seval,ag]
   obtain⟨o7,ar,O⟩:=ae O;refine aB (fun s t H e=>match s with|ak=>∃ah:Nat,∃ai:Nat,t 2=.ptr 2 ah 0∧t 3=.ptr 3 ai 0∧t 5=.int .i64 ak∧H 2=some ⟨ah,40,[.int .i64 p0.aj,.sl false false p0.aa.length (ab (eI .i64) p0.aa)],false,false,false⟩∧H 3=some ⟨ai,40,[.int .i64 p1.aj,.sl false false p1.aa.length (ab (eI .i64) p1.aa)],false,false,false⟩) (fun o x t H e=>match o with|(.inl _)=>x=.exit 0|(.inr r)=>x=.ret∧fF .clean tab none [.tmp 4] ⟨t,EH H,e⟩=some (.clean (.bool r),none)) ar ?_ ?_ ?_
   ·refine⟨Y,Z,?_⟩;and_intros<;>first|rfl|(simp only[w,seval,ag]<;>rfl)
   ·rintro ak t H e ⟨ah,ai,Zb⟩ c O;simp only[lJ]at O;try simp only[w,seval,Zb]
    apply sp al O<;>intro _ O
    ·obtain⟨x9,au,O⟩:=ae O;have X:=bo (eI .i64) au;simp only[bZ]at X;obtain⟨av,ao,O⟩:=ae O;have U:=bo (eI .i64) ao;simp only[bZ]at U;try simp only[w,seval,Zb,X,U]
     refine bJ (by kernel_rfl) ?_;try simp only[w,seval,Zb,X,U]
     apply sp al O<;>intro _ O
     ·cases O;try simp only[w,seval,Zb,X,U]
      refine rq ⟨rfl,?_⟩;try simp only[w,seval,Zb,X,U]
     ·cases O;try simp only[w,seval,Zb,X,U]
      apply iu;refine⟨ah,ai,?_⟩;and_intros<;>first|rfl|(simp only[w,seval,Zb,X,U]<;>rfl)
    ·cases O;try simp only[w,seval,Zb]
     apply jv;exact rfl
   ·rintro x t H e hx;rcases o7 with _|rb
    ·dsimp only at hx O;subst hx;cases O;try simp only[w,seval]
    ·dsimp only at hx O;obtain⟨rfl,hE⟩:=hx;cases O;try simp only[bg,aY,bk,cK,cJ,ca,cc]
     exact hE
 ·clear O;have O:=aq;try simp only[w,seval]
  apply sp aR O<;>intro _ O
  ·cases O;try simp only[w,seval]
   rw[an];refine⟨_,rfl,?_⟩;refine⟨0,0,?_⟩;and_intros<;>first|rfl|(simp only[w,seval]<;>rfl)
  ·cases O;try simp only[w,seval]
   rw[an];refine⟨_,rfl,?_⟩;refine⟨0,0,?_⟩;and_intros<;>first|rfl|(simp only[w,seval]<;>rfl)
def gW (l:Option (D×Row)) (d:List D):=dW (iD (bC aG) (dS (bC aG))) (fun x:aw×aw=>lI x.1 x.2) (fun r:Bool =>.clean (.bool r)) l d
def wS:Env:=(Am.ext bm 54 false mK)
theorem M0:bH prog wS:=(bH.none.add EK false)
theorem xn:type_of% (ai @w<|ai @yN<|ai @mK.eq_1<|@wS.eq_1):=⟨@w,@yN,@mK.eq_1,@wS.eq_1⟩
theorem ub:bW prog 17 gW:=bW.gN (mode := .clean) tok M0 mixed func17 (by kernel_rfl) (fun _ _=>rfl) (fun _=>by kernel_rfl) fun⟨Y,Z⟩ r O=>by
 replace O:lI Y Z=some r:=O;apply aH rfl ntmps17 results17;simp only[gR];unfold lI at O;obtain⟨r1,U,O⟩:=ae O;try simp only[xn,seval,U]
 apply sp eJ O<;>intro _ O
 ·obtain⟨r3,X,O⟩:=ae O;cases O;try simp only[xn,seval,U,X]
 ·cases O;try simp only[xn,seval,U]
def wh (l:Option (D×Row)) (d:List D):=dW (iD (bC tw) (dS (bC tw))) (fun x:fP×fP=>ug x.1 x.2) (fun r:Bool =>.clean (.bool r)) l d
def wT:Env:=(Am.ext bm 17 false gW)
theorem M3:bH prog wT:=(bH.none.add ub false)
theorem bT:type_of% (ai @w<|ai @rf<|ai @gW.eq_1<|@wT.eq_1):=⟨@w,@rf,@gW.eq_1,@wT.eq_1⟩
theorem OH:bW prog 14 wh:=bW.gN (mode := .clean) tok M3 mixed func14 (by kernel_rfl) (fun _ _=>rfl) (fun _=>by kernel_rfl) fun⟨p0,p1⟩ r X=>by
 replace X:ug p0 p1=some r:=X;apply aH rfl ntmps14 results14;simp only[gR];unfold ug at X;try simp only[bT,seval]
 obtain⟨o1,au,X⟩:=ae X;refine bA 0 (fun s t H e=>match s with|ag=>∃aa:Nat,∃ad:Nat,t 2=.ptr 2 aa 0∧t 3=.ptr 3 ad 0∧t 19=.bool ag∧H 2=some ⟨aa,28,[.int .i64 p0.az,.sl false false p0.aN.length (ab bB p0.aN)],false,false,false⟩∧H 3=some ⟨ad,28,[.int .i64 p1.az,.sl false false p1.aN.length (ab bB p1.aN)],false,false,false⟩) (fun s=>s=o1) ?_ ?_
 ·rintro ag t H e ⟨aa,ad,aj⟩ rfl;try dsimp only at X
  try simp only[bT,seval,aj]
  apply sp al X<;>intro _ X
  ·cases X;try simp only[bT,seval,aj]
  ·try simp only[bT,seval,aj]
   obtain⟨av,aq,X⟩:=ae X;refine aB (fun s t H e=>match s with|ar=>∃ak:Nat,∃ao:Nat,t 2=.ptr 2 ak 0∧t 3=.ptr 3 ao 0∧t 5=.int .i64 ar∧H 2=some ⟨ak,28,[.int .i64 p0.az,.sl false false p0.aN.length (ab bB p0.aN)],false,false,false⟩∧H 3=some ⟨ao,28,[.int .i64 p1.az,.sl false false p1.aN.length (ab bB p1.aN)],false,false,false⟩) (fun o x t H e=>match o with|(.inl _)=>x=.exit 0|(.inr r)=>x=.ret∧fF .clean tab none [.tmp 4] ⟨t,EH H,e⟩=some (.clean (.bool r),none)) aq ?_ ?_ ?_
   ·refine⟨aa,ad,?_⟩;and_intros<;>first|rfl|(simp only[bT,seval,aj]<;>rfl)
   ·rintro ar t H e ⟨ak,ao,Z⟩ c X;simp only[A4]at X;try simp only[bT,seval,Z]
    apply sp al X<;>intro _ X
    ·obtain⟨aw,ah,X⟩:=ae X;have O:=bo bB ah;simp only[bZ]at O;obtain⟨ax,ai,X⟩:=ae X;have U:=bo bB ai;simp only[bZ]at U;try simp only[bT,seval,Z,O,U]
     apply sp uv X<;>intro _ X
     ·try simp only[bT,seval,Z,O,U]
      refine bJ (by kernel_rfl) ?_;cases X;try simp only[bT,seval,Z,O,U]
      refine rq ⟨rfl,?_⟩;try simp only[bT,seval,Z,O,U]
     ·have O:=bo bB ah;simp only[bZ]at O;have U:=bo bB ai;simp only[bZ]at U;try simp only[bT,seval,Z,O,U,O,U]
      apply sp uv X<;>intro _ X
      ·try simp only[bT,seval,Z,O,U,O,U]
       refine bJ (by kernel_rfl) ?_;cases X;try simp only[bT,seval,Z,O,U,O,U]
       refine rq ⟨rfl,?_⟩;try simp only[bT,seval,Z,O,U,O,U]
      ·have O:=bo bB ah;simp only[bZ]at O;have U:=bo bB ai;simp only[bZ]at U;obtain⟨ay,Y,X⟩:=ae X;try simp only[bT,seval,Z,O,U,O,U,O,U,Y]
       refine bJ (by kernel_rfl) ?_;try simp only[bT,seval,Z,O,U,O,U,O,U,Y]
       apply sp al X<;>intro _ X
       ·cases X;try simp only[bT,seval,Z,O,U,O,U,O,U,Y]
        refine rq ⟨rfl,?_⟩;try simp only[bT,seval,Z,O,U,O,U,O,U,Y]
       ·cases X;try simp only[bT,seval,Z,O,U,O,U,O,U,Y]
        apply iu;refine⟨ak,ao,?_⟩;and_intros<;>first|rfl|(simp only[bT,seval,Z,O,U,O,U,O,U,Y]<;>rfl)
    ·cases X;try simp only[bT,seval,Z]
     apply jv;exact rfl
   ·rintro x t H e hx;rcases av with _|rb
    ·dsimp only at hx X;subst hx;cases X;try simp only[bT,seval]
    ·dsimp only at hx X;obtain⟨rfl,hE⟩:=hx;cases X;try simp only[bg,aY,bk,cK,cJ,ca,cc]
     exact hE
 ·clear X;have X:=au;try simp only[bT,seval]
  apply sp aR X<;>intro _ X
  ·cases X;try simp only[bT,seval]
   rw[an];refine⟨_,rfl,?_⟩;refine⟨0,0,?_⟩;and_intros<;>first|rfl|(simp only[bT,seval]<;>rfl)
  ·cases X;try simp only[bT,seval]
   rw[an];refine⟨_,rfl,?_⟩;refine⟨0,0,?_⟩;and_intros<;>first|rfl|(simp only[bT,seval]<;>rfl)
def kA (l:Option (D×Row)) (d:List D):=dW (iD (bC aG) (dS (bC aG))) (fun x:aw×aw=>pj x.1 x.2) (fun r:aw×Int =>.clean (.tup [.agg [.int .i64 r.1.cu.aj,.sl false false r.1.cu.aa.length (ab (eI .i64) r.1.cu.aa),.int .i64 r.1.ct.aj,.sl false false r.1.ct.aa.length (ab (eI .i64) r.1.ct.aa)],.int .i64 r.2])) l d
def wH:Env:=(Am.ext (Am.ext (Am.ext bm 27 false fh) 47 false bM) 55 false lW)
theorem MO:bH prog wH:=(((bH.none.add p9 false).add ia false).add Eu false)
theorem ic:type_of% (ai @w<|ai @rf<|ai @fh.eq_1<|ai @B5<|ai @bM.eq_1<|ai @ru<|ai @lW.eq_1<|@wH.eq_1):=⟨@w,@rf,@fh.eq_1,@B5,@bM.eq_1,@ru,@lW.eq_1,@wH.eq_1⟩
theorem AW:bW prog 26 kA:=bW.gN (mode := .clean) tok MO mixed func26 (by kernel_rfl) (fun _ _=>rfl) (fun _=>by kernel_rfl) fun⟨p0,p1⟩ r O=>by
 replace O:pj p0 p1=some r:=O;apply aH rfl ntmps26 results26;simp only[gR];unfold pj at O;obtain⟨r1,U,O⟩:=ae O;try simp only[ic,seval,U]
 obtain⟨o2,ao,O⟩:=ae O;refine bA 0 (fun s t H e=>match s with|X=>∃Y:Nat,∃Z:Nat,∃ad:Nat,t 2=.ptr 2 Y 0∧t 3=.ptr 3 Z 0∧t 4=.ptr 4 ad 0∧t 13=.bool X∧H 2=some ⟨Y,42,[.int .i64 p0.cu.aj,.sl false false p0.cu.aa.length (ab (eI .i64) p0.cu.aa),.int .i64 p0.ct.aj,.sl false false p0.ct.aa.length (ab (eI .i64) p0.ct.aa)],false,false,false⟩∧H 3=some ⟨Z,42,[.int .i64 p1.cu.aj,.sl false false p1.cu.aa.length (ab (eI .i64) p1.cu.aa),.int .i64 p1.ct.aj,.sl false false p1.ct.aa.length (ab (eI .i64) p1.ct.aa)],false,false,false⟩∧H 4=some ⟨ad,42,[.int .i64 0,.sl true true 0 [],.int .i64 0,.sl true true 0 []],false,false,false⟩) (fun s=>s=o2) ?_ ?_
 ·rintro X t H e ⟨Y,Z,ad,ag⟩ rfl;try dsimp only at O
  try simp only[ic,seval,U,ag]
  apply sp al O<;>intro _ O
  ·cases O;try simp only[ic,seval,U,ag]
  ·obtain⟨r4,ah,O⟩:=ae O;obtain⟨r5,ai,O⟩:=ae O;try simp only[ic,seval,U,ag,ah,ai]
   refine bJ (by kernel_rfl) ?_;cases O;try simp only[ic,seval,U,ag,ah,ai]
 ·clear O;have O:=ao;try simp only[ic,seval,U]
  apply sp aR O<;>intro _ O
  ·cases O;try simp only[ic,seval,U]
   rw[an];refine⟨_,rfl,?_⟩;refine⟨0,0,0,?_⟩;and_intros<;>first|rfl|(simp only[ic,seval,U]<;>rfl)
  ·obtain⟨r7,ak,O⟩:=ae O;cases O;try simp only[ic,seval,U,ak]
   rw[an];refine⟨_,rfl,?_⟩;refine⟨0,0,0,?_⟩;and_intros<;>first|rfl|(simp only[ic,seval,U,ak]<;>rfl)
def fY (l:Option (D×Row)) (d:List D):=dW (dS (bC tw)) (fun x:fP=>kV x) (fun r:(List aw) =>.clean (.sl false false r.length (ab aG r))) l d
theorem BK {β:Type} {F:fP->Option β} {R:β->RK} (U:Int) (O:(List bL)):dW (dS (bC tw)) F R none [.agg [.int .i64 U,.sl false false O.length (ab bB O)]]=(F ((fP.mk U O))).map fun r=>(R r,none):=cU _ _ _ ((fP.mk U O))
def tM:Env:=(Am.ext (Am.ext bm 26 false kA) 83 false kz)
theorem J2:bH prog tM:=((bH.none.add AW false).add AV false)
theorem dx:type_of% (ai @w<|ai @rf<|ai @kA.eq_1<|ai @FE<|ai @kz.eq_1<|@tM.eq_1):=⟨@w,@rf,@kA.eq_1,@FE,@kz.eq_1,@tM.eq_1⟩
theorem si:bW prog 50 fY:=bW.gN (mode := .clean) tok J2 mixed func50 (by kernel_rfl) (fun _ _=>rfl) (fun _=>by kernel_rfl) fun p0 r U=>by
 replace U:kV p0=some r:=U;apply aH rfl ntmps50 results50;simp only[gR];unfold kV at U;obtain⟨x1,aS,U⟩:=ae U;obtain⟨X,Y,Z,O,ad⟩:=mk_one aG aS;simp only[bZ]at O;try simp only[dx,seval,X,Y,Z,O,ad]
 obtain⟨o7,aT,U⟩:=ae U;refine aB (fun s t H e=>match s with|(aI,aL)=>∃ao:Nat,∃aq:Nat,t 1=.ptr 1 ao 0∧t 3=.buf 3 aq 4 0 (aL).length∧t 11=.int .i64 ((x1).length:Int)∧t 12=.int .i64 aI∧H 1=some ⟨ao,28,[.int .i64 p0.az,.sl false false p0.aN.length (ab bB p0.aN)],false,false,false⟩∧H 3=some ⟨aq,42,ab aG aL,false,true,false⟩) (fun o x t H e=>match o with|ar=>x=.exit 0∧∃au:Nat,∃ai:Nat,t 1=.ptr 1 au 0∧t 3=.buf 3 ai 4 0 (ar).length∧H 1=some ⟨au,28,[.int .i64 p0.az,.sl false false p0.aN.length (ab bB p0.aN)],false,false,false⟩∧H 3=some ⟨ai,42,ab aG ar,false,true,false⟩) aT ?_ ?_ ?_
 ·refine⟨0,1,?_⟩;and_intros<;>first|rfl|(simp only[dx,seval,X,Y,Z,O,ad]<;>rfl)
 ·rintro⟨aI,aL⟩ t H e ⟨ao,aq,Za⟩ c U;simp only[lC]at U;try simp only[dx,seval,X,Y,Z,O,ad,Za]
  apply sp al U<;>intro _ U
  ·obtain⟨r9,aO,U⟩:=ae U;obtain⟨aW,aJ,U⟩:=ae U;have av:=bo aG aJ;simp only[bZ]at av;have aF:=fW aG (x':=r9) (fo:=0) (cs:=[.int .i64 r9.cu.aj,.sl false false r9.cu.aa.length (ab (eI .i64) r9.cu.aa),.int .i64 r9.ct.aj,.sl false false r9.ct.aa.length (ab (eI .i64) r9.ct.aa)]) aJ rfl (ais rfl);simp only[bZ,Nat.add_zero]at aF;have aw:=aF;simp only[putCells,List.length_cons,List.length_nil,ahr,Nat.reduceAdd]at aw;cases U;try simp only[dx,seval,X,Y,Z,O,ad,Za,aO,av,aF,aw]
   apply iu;refine⟨ao,aq,?_⟩;and_intros<;>first|rfl|(simp only[dx,seval,X,Y,Z,O,ad,Za,aO,av,aF,aw]<;>rfl)
  ·cases U;try simp only[dx,seval,X,Y,Z,O,ad,Za]
   apply jv;refine⟨rfl,⟨ao,aq,?_⟩⟩;and_intros<;>first|rfl|(simp only[dx,seval,X,Y,Z,O,ad,Za]<;>rfl)
 ·rintro x t H e hx;obtain⟨ar,rfl⟩:∃z,z=o7:=⟨_,rfl⟩;dsimp only at hx U;obtain⟨rfl,⟨au,ai,aP⟩⟩:=hx;try simp only[dx,seval,X,Y,Z,O,ad,aP]
  obtain⟨aU,aQ,U⟩:=ae U;refine aB (fun s t H e=>match s with|(aK,aM)=>∃ax:Nat,t 3=.buf 3 ax 4 0 (aM).length∧t 21=.sl false false p0.aN.length (ab bB p0.aN)∧t 22=.int .i64 (p0.aN.length:Int)∧t 23=.int .i64 aK∧H 3=some ⟨ax,42,ab aG aM,false,true,false⟩) (fun o x t H e=>match o with|ay=>x=.exit 2∧∃aA:Nat,t 3=.buf 3 aA 4 0 (ay).length∧H 3=some ⟨aA,42,ab aG ay,false,true,false⟩) aQ ?_ ?_ ?_
  ·refine⟨ai,?_⟩;and_intros<;>first|rfl|(simp only[dx,seval,X,Y,Z,O,ad,aP]<;>rfl)
  ·rintro⟨aK,aM⟩ t H e ⟨ax,Zb⟩ c U;simp only[lD]at U;try simp only[dx,seval,X,Y,Z,O,ad,Zb]
   apply sp al U<;>intro _ U
   ·obtain⟨aX,aR,U⟩:=ae U;have ak:=bo bB aR;simp only[bZ]at ak;obtain⟨aY,aC,U⟩:=ae U;have ag:=bo aG aC;simp only[bZ]at ag;obtain⟨ah,aD,U⟩:=ae U;have ag:=bo aG aC;simp only[bZ]at ag;have aE:=fW aG (x':=ah.1) (fo:=0) (cs:=[.int .i64 ah.1.cu.aj,.sl false false ah.1.cu.aa.length (ab (eI .i64) ah.1.cu.aa),.int .i64 ah.1.ct.aj,.sl false false ah.1.ct.aa.length (ab (eI .i64) ah.1.ct.aa)]) aC rfl (ais rfl);simp only[bZ,Nat.add_zero]at aE;have an:=aE;simp only[putCells,List.length_cons,List.length_nil,ahr,Nat.reduceAdd]at an;try simp only[dx,seval,X,Y,Z,O,ad,Zb,ak,ag,aD,ag,aE,an]
    refine bJ (by kernel_rfl) ?_;cases U;try simp only[dx,seval,X,Y,Z,O,ad,Zb,ak,ag,aD,ag,aE,an]
    apply iu;refine⟨ax,?_⟩;and_intros<;>first|rfl|(simp only[dx,seval,X,Y,Z,O,ad,Zb,ak,ag,aD,ag,aE,an]<;>rfl)
   ·cases U;try simp only[dx,seval,X,Y,Z,O,ad,Zb]
    apply jv;refine⟨rfl,⟨ax,?_⟩⟩;and_intros<;>first|rfl|(simp only[dx,seval,X,Y,Z,O,ad,Zb]<;>rfl)
  ·rintro x t H e hx;obtain⟨ay,rfl⟩:∃z,z=aU:=⟨_,rfl⟩;dsimp only at hx U;obtain⟨rfl,⟨aA,aV⟩⟩:=hx;cases U;try simp only[dx,seval,X,Y,Z,O,ad,aV]
def mG (l:Option (D×Row)) (d:List D):=dW (dS (bC aG)) (fun x:aw=>nf x) (fun r:Bool =>.clean (.bool r)) l d
def qB:Env:=(Am.ext bm 48 false du)
theorem DI:bH prog qB:=(bH.none.add lF false)
theorem Gf:type_of% (ai @w<|ai @B5<|ai @du.eq_1<|@qB.eq_1):=⟨@w,@B5,@du.eq_1,@qB.eq_1⟩
theorem EB:bW prog 51 mG:=bW.gN (mode := .clean) tok DI mixed func51 (by kernel_rfl) (fun _ _=>rfl) (fun _=>by kernel_rfl) fun X r O=>by
 replace O:nf X=some r:=O;apply aH rfl ntmps51 results51;simp only[gR];unfold nf at O;obtain⟨Y,U,O⟩:=ae O;cases O;try simp only[Gf,seval,U]
def dP (l:Option (D×Row)) (d:List D):=dW (iD (mP aG) (dS (aFn 51))) (fun x:(List aw)×Unit=>dj x.1) (fun r:Int =>.clean (.int .i64 r)) l d
theorem abi {β:Type} {F:(List aw)×Unit->Option β} {R:β->RK} (O:(List aw)):dW (iD (mP aG) (dS (aFn 51))) F R none [.sl false false O.length (ab aG O),.fn 51]=(F (O,())).map fun r=>(R r,none):=cU _ _ _ (O,())
def fj:Env:=(Am.ext bm 51 false mG)
theorem lO:bH prog fj:=(bH.none.add EB false)
theorem bh:type_of% (ai @w<|ai @B5<|ai @mG.eq_1<|@fj.eq_1):=⟨@w,@B5,@mG.eq_1,@fj.eq_1⟩
theorem lP:bW prog 82 dP:=bW.gN (mode := .clean) tok lO mixed func82 (by kernel_rfl) (fun _ _=>rfl) (fun _=>by kernel_rfl) fun⟨p0,_⟩ r O=>by
 replace O:dj p0=some r:=O;apply aH rfl ntmps82 results82;simp only[gR];unfold dj at O;try simp only[bh,seval]
 obtain⟨o5,aa,O⟩:=ae O;refine aB (fun s t H e=>match s with|Z=>t 0=.sl false false p0.length (ab aG p0)∧t 1=.fn 51∧t 7=.int .i64 (p0.length:Int)∧t 8=.int .i64 Z) (fun o x t H e=>match o with|(.inl _)=>x=.exit 0|(.inr r)=>x=.ret∧fF .clean tab none [.tmp 4] ⟨t,EH H,e⟩=some (.clean (.int .i64 r),none)) aa ?_ ?_ ?_
 ·and_intros<;>first|rfl|(simp only[bh,seval]<;>rfl)
 ·rintro Z t H e Y c O;simp only[dG]at O;try simp only[bh,seval,Y]
  apply sp al O<;>intro _ O
  ·obtain⟨x7,ad,O⟩:=ae O;have U:=bo aG ad;simp only[bZ]at U;obtain⟨r8,X,O⟩:=ae O;try simp only[bh,seval,Y,U,X]
   apply sp al O<;>intro _ O
   ·cases O;try simp only[bh,seval,Y,U,X]
    refine rq ⟨rfl,?_⟩;try simp only[bh,seval,Y,U,X]
   ·cases O;try simp only[bh,seval,Y,U,X]
    apply iu;and_intros<;>first|rfl|(simp only[bh,seval,Y,U,X]<;>rfl)
  ·cases O;try simp only[bh,seval,Y]
   apply jv;exact rfl
 ·rintro x t H e hx;rcases o5 with _|ra
  ·dsimp only at hx O;subst hx;cases O;try simp only[bh,seval]
  ·dsimp only at hx O;obtain⟨rfl,hE⟩:=hx;cases O;try simp only[bg,aY,bk,cK,cJ,ca,cc]
   exact hE
def dm (l:Option (D×Row)) (d:List D):=dW (iD (mP aG) (dS (aFn 51))) (fun x:(List aw)×Unit=>cd x.1) (fun r:Bool =>.clean (.bool r)) l d
def eK:Env:=(Am.ext bm 82 false dP)
theorem kD:bH prog eK:=(bH.none.add lP false)
theorem lk:type_of% (ai @w<|ai @abi<|ai @dP.eq_1<|@eK.eq_1):=⟨@w,@abi,@dP.eq_1,@eK.eq_1⟩
theorem kG:bW prog 49 dm:=bW.gN (mode := .clean) tok kD mixed func49 (by kernel_rfl) (fun _ _=>rfl) (fun _=>by kernel_rfl) fun⟨X,_⟩ r O=>by
 replace O:cd X=some r:=O;apply aH rfl ntmps49 results49;simp only[gR];unfold cd at O;obtain⟨Y,U,O⟩:=ae O;cases O;try simp only[lk,seval,U]
def eB (l:Option (D×Row)) (d:List D):=dW (dS (bC tw)) (fun x:fP=>jO x) (fun r:Bool =>.clean (.bool r)) l d
def tL:Env:=(Am.ext (Am.ext (Am.ext (Am.ext (Am.ext (Am.ext bm 35 false ch) 43 false nM) 47 false bM) 48 false du) 49 false dm) 50 false fY)
theorem J1:bH prog tL:=((((((bH.none.add iZ false).add FZ false).add ia false).add lF false).add kG false).add si false)
theorem aV:type_of% (ai @w<|ai @BJ<|ai @ch.eq_1<|ai @aez<|ai @nM.eq_1<|ai @B5<|ai @bM.eq_1<|ai @du.eq_1<|ai @abi<|ai @dm.eq_1<|ai @BK<|ai @fY.eq_1<|@tL.eq_1):=⟨@w,@BJ,@ch.eq_1,@aez,@nM.eq_1,@B5,@bM.eq_1,@du.eq_1,@abi,@dm.eq_1,@BK,@fY.eq_1,@tL.eq_1⟩
theorem oa:bW prog 15 eB:=bW.gN (mode := .clean) tok J1 mixed func15 (by kernel_rfl) (fun _ _=>rfl) (fun _=>by kernel_rfl) fun p0 r Y=>by
 replace Y:jO p0=some r:=Y;apply aH rfl ntmps15 results15;simp only[gR];unfold jO at Y;obtain⟨r1,U,Y⟩:=ae Y;try simp only[aV,seval,U]
 obtain⟨o2,aK,Y⟩:=ae Y;refine bA 0 (fun s t H e=>match s with|av=>∃ar:Nat,t 1=.ptr 1 ar 0∧t 14=.bool av∧H 1=some ⟨ar,28,[.int .i64 p0.az,.sl false false p0.aN.length (ab bB p0.aN)],false,false,false⟩) (fun s=>s=o2) ?_ ?_
 ·rintro av t H e ⟨ar,aA⟩ rfl;try dsimp only at Y
  try simp only[aV,seval,U,aA]
  apply sp al Y<;>intro _ Y
  ·cases Y;try simp only[aV,seval,U,aA]
  ·try simp only[aV,seval,U,aA]
   obtain⟨aL,aD,Y⟩:=ae Y;refine aB (fun s t H e=>match s with|au=>∃ai:Nat,t 1=.ptr 1 ai 0∧t 16=.sl false false p0.aN.length (ab bB p0.aN)∧t 17=.int .i64 (p0.aN.length:Int)∧t 18=.int .i64 au∧H 1=some ⟨ai,28,[.int .i64 p0.az,.sl false false p0.aN.length (ab bB p0.aN)],false,false,false⟩) (fun o x t H e=>match o with|(.inl _)=>x=.exit 0∧∃aw:Nat,t 1=.ptr 1 aw 0∧H 1=some ⟨aw,28,[.int .i64 p0.az,.sl false false p0.aN.length (ab bB p0.aN)],false,false,false⟩|(.inr r)=>x=.ret∧fF .clean tab none [.tmp 2] ⟨t,EH H,e⟩=some (.clean (.bool r),none)) aD ?_ ?_ ?_
   ·refine⟨ar,?_⟩;and_intros<;>first|rfl|(simp only[aV,seval,U,aA]<;>rfl)
   ·rintro au t H e ⟨ai,Zb⟩ c Y;simp only[lB]at Y;try simp only[aV,seval,U,Zb]
    apply sp al Y<;>intro _ Y
    ·obtain⟨ak,aE,Y⟩:=ae Y;have O:=bo bB aE;simp only[bZ]at O;obtain⟨aP,X,Y⟩:=ae Y;try simp only[aV,seval,U,Zb,O,X]
     obtain⟨aM,aF,Y⟩:=ae Y;refine bA 0 (fun s t H e=>match s with|ax=>∃ao:Nat,∃ay:Nat,t 1=.ptr 1 ao 0∧t 3=.int .i64 au∧t 4=.ptr 4 ay 0∧t 16=.sl false false p0.aN.length (ab bB p0.aN)∧t 17=.int .i64 (p0.aN.length:Int)∧t 18=.int .i64 au∧t 50=.bool ax∧H 1=some ⟨ao,28,[.int .i64 p0.az,.sl false false p0.aN.length (ab bB p0.aN)],false,false,false⟩∧H 4=some ⟨ay,65,[.int .i64 ak.cD,.int .i64 ak.jh,.int .i64 ak.e8.cu.aj,.sl false false ak.e8.cu.aa.length (ab (eI .i64) ak.e8.cu.aa),.int .i64 ak.e8.ct.aj,.sl false false ak.e8.ct.aa.length (ab (eI .i64) ak.e8.ct.aa)],false,false,false⟩) (fun s=>s=aM) ?_ ?_
     ·rintro ax t H e ⟨ao,ay,Z⟩ rfl;try dsimp only at Y
      try simp only[aV,seval,U,O,X,Z]
      apply sp al Y<;>intro _ Y
      ·cases Y;try simp only[aV,seval,U,O,X,Z]
       refine rq ⟨rfl,?_⟩;try simp only[aV,seval,U,O,X,Z]
      ·try simp only[aV,seval,U,O,X,Z]
       apply sp UI Y<;>intro _ Y
       ·obtain⟨aQ,aG,Y⟩:=ae Y;have ag:=bo bB aG;simp only[bZ]at ag;obtain⟨aS,ah,Y⟩:=ae Y;try simp only[aV,seval,U,O,X,Z,ag,ah]
        refine bJ (by kernel_rfl) ?_;try simp only[aV,seval,U,O,X,Z,ag,ah]
        apply sp al Y<;>intro _ Y
        ·cases Y;try simp only[aV,seval,U,O,X,Z,ag,ah]
         refine rq ⟨rfl,?_⟩;try simp only[aV,seval,U,O,X,Z,ag,ah]
        ·cases Y;try simp only[aV,seval,U,O,X,Z,ag,ah]
         apply iu;refine⟨ao,?_⟩;and_intros<;>first|rfl|(simp only[aV,seval,U,O,X,Z,ag,ah]<;>rfl)
       ·try simp only[aV,seval,U,O,X,Z]
        refine bJ (by kernel_rfl) ?_;cases Y;try simp only[aV,seval,U,O,X,Z]
        apply iu;refine⟨ao,?_⟩;and_intros<;>first|rfl|(simp only[aV,seval,U,O,X,Z]<;>rfl)
     ·clear Y;have Y:=aF;try simp only[aV,seval,U,Zb,O,X]
      apply sp aR Y<;>intro _ Y
      ·cases Y;try simp only[aV,seval,U,Zb,O,X]
       rw[an];refine⟨_,rfl,?_⟩;refine⟨ai,e+1,?_⟩;and_intros<;>first|rfl|(simp only[aV,seval,U,Zb,O,X]<;>rfl)
      ·obtain⟨aT,ad,Y⟩:=ae Y;try simp only[aV,seval,U,Zb,O,X,ad]
       apply sp aR Y<;>intro _ Y
       ·cases Y;try simp only[aV,seval,U,Zb,O,X,ad]
        rw[an];refine⟨_,rfl,?_⟩;refine⟨ai,e+1,?_⟩;and_intros<;>first|rfl|(simp only[aV,seval,U,Zb,O,X,ad]<;>rfl)
       ·obtain⟨aU,aq,Y⟩:=ae Y;try simp only[aV,seval,U,Zb,O,X,ad,aq]
        apply sp aR Y<;>intro _ Y
        ·cases Y;try simp only[aV,seval,U,Zb,O,X,ad,aq]
         rw[an];refine⟨_,rfl,?_⟩;refine⟨ai,e+1,?_⟩;and_intros<;>first|rfl|(simp only[aV,seval,U,Zb,O,X,ad,aq]<;>rfl)
        ·obtain⟨aW,aC,Y⟩:=ae Y;cases Y;try simp only[aV,seval,U,Zb,O,X,ad,aq,aC]
         rw[an];refine⟨_,rfl,?_⟩;refine⟨ai,e+1,?_⟩;and_intros<;>first|rfl|(simp only[aV,seval,U,Zb,O,X,ad,aq,aC]<;>rfl)
    ·cases Y;try simp only[aV,seval,U,Zb]
     apply jv;refine⟨rfl,⟨ai,?_⟩⟩;and_intros<;>first|rfl|(simp only[aV,seval,U,Zb]<;>rfl)
   ·rintro x t H e hx;rcases aL with _|rb
    ·dsimp only at hx Y;obtain⟨rfl,⟨aw,aO⟩⟩:=hx;obtain⟨aX,aI,Y⟩:=ae Y;obtain⟨aZ,aJ,Y⟩:=ae Y;cases Y;try simp only[aV,seval,U,aO,aI,aJ]
    ·dsimp only at hx Y;obtain⟨rfl,hE⟩:=hx;cases Y;try simp only[bg,aY,bk,cK,cJ,ca,cc]
     exact hE
 ·clear Y;have Y:=aK;try simp only[aV,seval,U]
  apply sp aR Y<;>intro _ Y
  ·cases Y;try simp only[aV,seval,U]
   rw[an];refine⟨_,rfl,?_⟩;refine⟨0,?_⟩;and_intros<;>first|rfl|(simp only[aV,seval,U]<;>rfl)
  ·cases Y;try simp only[aV,seval,U]
   rw[an];refine⟨_,rfl,?_⟩;refine⟨0,?_⟩;and_intros<;>first|rfl|(simp only[aV,seval,U]<;>rfl)
def jo (l:Option (D×Row)) (d:List D):=dW (dS (bC tw)) (fun x:fP=>oF x) (fun r:(List Int) =>.clean (.sl false false r.length (ab (eI .i64) r))) l d
def tK:Env:=(Am.vF 18 (3,1,0) (Am.ext (Am.ext (Am.ext bm 15 false eB) 48 false du) 50 false fY))
theorem J0:bH prog tK:=(bH.vF (((bH.none.add oa false).add lF false).add si false) 18 (3,1,0))
theorem aW:type_of% (ai @w<|ai @BK<|ai @eB.eq_1<|ai @B5<|ai @du.eq_1<|ai @fY.eq_1<|@tK.eq_1):=⟨@w,@BK,@eB.eq_1,@B5,@du.eq_1,@fY.eq_1,@tK.eq_1⟩
theorem ym:bW prog 21 jo:=bW.gN (mode := .clean) tok J0 mixed func21 (by kernel_rfl) (fun _ _=>rfl) (fun _=>by kernel_rfl) fun p0 r Y=>by
 replace Y:oF p0=some r:=Y;apply aH rfl ntmps21 results21;simp only[gR];unfold oF at Y;obtain⟨r1,ai,Y⟩:=ae Y;try simp only[aW,seval,-Int.reduceToNat,ai]
 apply sp al Y<;>intro _ Y
 ·cases Y;try simp only[aW,seval,-Int.reduceToNat,ai]
 ·obtain⟨x3,dv,Y⟩:=ae Y;have aj:=aa0 (E:=(FD (eI .i64))) (ty':=3) (s:=1) (f:=0) (k := .i64) KD (by rfl) rfl rfl rfl rfl rfl dv;obtain⟨ak,dW,dX,dY,dZ⟩:=mk_one (FD (eI .i64)) dv;try simp only[aW,seval,-Int.reduceToNat,ai,aj,ak]
  obtain⟨dR,dw,Y⟩:=ae Y;refine aB (fun s t H e=>match s with|(cU,b7)=>∃b8:Nat,∃bs:Nat,∃ba:Nat,t 1=.ptr 1 b8 0∧t 3=.buf 18 bs 1 0 (b7).length∧t 20=.sl false false p0.aN.length (ab bB p0.aN)∧t 21=.int .i64 (p0.aN.length:Int)∧t 22=.int .i64 cU∧H 1=some ⟨b8,28,[.int .i64 p0.az,.sl false false p0.aN.length (ab bB p0.aN)],false,false,false⟩∧H 18=some ⟨bs,22,[.nr 3 1 ba (ab (FD (eI .i64)) b7)],false,true,true⟩∧ba<=4*e) (fun o x t H e=>match o with|aq=>x=.exit 0∧∃b9:Nat,∃bk:Nat,∃a6:Nat,t 1=.ptr 1 b9 0∧t 3=.buf 18 bk 1 0 (aq).length∧H 1=some ⟨b9,28,[.int .i64 p0.az,.sl false false p0.aN.length (ab bB p0.aN)],false,false,false⟩∧H 18=some ⟨bk,22,[.nr 3 1 a6 (ab (FD (eI .i64)) aq)],false,true,true⟩∧a6<=4*e) dw ?_ ?_ ?_
  ·refine⟨0,2,4*(2)+2,?_,?_,?_,?_,?_,?_,?_,?_⟩;all_goals (first|rfl|omega|(simp only[aW,seval,-Int.reduceToNat,ai,aj,ak]<;>rfl))
  ·rintro⟨cU,b7⟩ t H e ⟨b8,bs,ba,Za⟩ c Y;simp only[ye]at Y;try simp only[aW,seval,-Int.reduceToNat,ai,aj,ak,Za]
   apply sp al Y<;>intro _ Y
   ·obtain⟨ea,dx,Y⟩:=ae Y;have bM:=bo bB dx;simp only[bZ]at bM;obtain⟨eb,bN,Y⟩:=ae Y;have aP:=bo (FD (eI .i64)) bN;simp only[bZ]at aP;obtain⟨dk,dy,Y⟩:=ae Y;obtain⟨ca,bO,cb,cc⟩:=iJ (eI .i64) dy;simp only[bZ]at bO;have aP:=bo (FD (eI .i64)) bN;simp only[bZ]at aP;have cd:=YV (FD (eI .i64)) (x':=dk) 0 .und (.nx dk.length (ab (eI .i64) dk)) bN rfl (ais rfl);have bt:=aa8 (FD (eI .i64)) 0 .und bN (ais rfl);simp only[bZ,Nat.add_zero]at cd bt;have bQ:=cd;simp only[putCells,List.length_cons,List.length_nil,ahr,Nat.reduceAdd]at bQ;have bl:=bt;simp only[putCells,List.length_cons,List.length_nil,ahr,Nat.reduceAdd]at bl;have cf:bump ba (e+1+1)=some (4*(e+1+1)+1):=BR (by omega);try simp only[aW,seval,-Int.reduceToNat,ai,aj,ak,Za,bM,aP,ca,bO,cb,cc,aP,cd,bQ,bt,bl,cf]
    refine bJ (by kernel_rfl) ?_;cases Y;try simp only[aW,seval,-Int.reduceToNat,ai,aj,ak,Za,bM,aP,ca,bO,cb,cc,aP,cd,bQ,bt,bl,cf]
    apply iu;refine⟨b8,bs,4*(e+1+1)+1,?_,?_,?_,?_,?_,?_,?_,?_⟩;all_goals (first|rfl|omega|(simp only[aW,seval,-Int.reduceToNat,ai,aj,ak,Za,bM,aP,ca,bO,cb,cc,aP,cd,bQ,bt,bl,cf]<;>rfl))
   ·cases Y;try simp only[aW,seval,-Int.reduceToNat,ai,aj,ak,Za]
    apply jv;refine⟨rfl,⟨b8,bs,ba,?_,?_,?_,?_,?_⟩⟩;all_goals (first|rfl|omega|(simp only[aW,seval,-Int.reduceToNat,ai,aj,ak,Za]<;>rfl))
  ·rintro x t H e hx;obtain⟨aq,rfl⟩:∃z,z=dR:=⟨_,rfl⟩;dsimp only at hx Y;obtain⟨rfl,⟨b9,bk,a6,dz⟩⟩:=hx;obtain⟨ec,dA,Y⟩:=ae Y;obtain⟨Z,aa,ad,X,ag⟩:=mk_one (eI .i64) dA;simp only[bZ]at X;obtain⟨dm,ah,Y⟩:=ae Y;try simp only[aW,seval,-Int.reduceToNat,ai,aj,ak,dz,Z,aa,ad,X,ag,ah]
   obtain⟨dS,dB,Y⟩:=ae Y;refine aB (fun s t H e=>match s with|(cV,dn,dp)=>∃b5:Nat,∃cg:Nat,∃bc:Nat,∃aQ:Nat,∃ch:Nat,∃cj:List D,t 3=.buf 18 bc 1 0 (aq).length∧t 6=.buf 6 b5 1 0 (dn).length∧t 7=.buf 7 cg 1 ch (dp).length∧t 44=.sl false false dm.length (ab aG dm)∧t 45=.int .i64 (dm.length:Int)∧t 46=.int .i64 cV∧H 6=some ⟨b5,3,ab (eI .i64) dn,false,true,false⟩∧H 7=some ⟨cg,3,cj,false,true,false⟩∧H 18=some ⟨bc,22,[.nr 3 1 aQ (ab (FD (eI .i64)) aq)],false,true,true⟩∧aQ<=4*e∧sV (eI .i64) cj ch dp) (fun o x t H e=>match o with|(ck,cm)=>x=.exit 2∧∃bR:Nat,∃bS:Nat,∃bm:Nat,∃a7:Nat,∃bT:Nat,∃bU:List D,t 3=.buf 18 bm 1 0 (aq).length∧t 6=.buf 6 bR 1 0 (ck).length∧t 7=.buf 7 bS 1 bT (cm).length∧H 6=some ⟨bR,3,ab (eI .i64) ck,false,true,false⟩∧H 7=some ⟨bS,3,bU,false,true,false⟩∧H 18=some ⟨bm,22,[.nr 3 1 a7 (ab (FD (eI .i64)) aq)],false,true,true⟩∧a7<=4*e∧sV (eI .i64) bU bT cm) dB ?_ ?_ ?_
   ·refine⟨e,e+1,bk,a6,0,(ab (eI .i64) ([])),?_,?_,?_,?_,?_,?_,?_,?_,?_,?_,(sV.self (eI .i64) ([]))⟩;all_goals (first|rfl|omega|(simp only[aW,seval,-Int.reduceToNat,ai,aj,ak,dz,Z,aa,ad,X,ag,ah]<;>rfl))
   ·rintro⟨cV,dn,dp⟩ t H e ⟨b5,cg,bc,aQ,ch,cj,bu,bw,bx,aR,aS,aT,bz,bA,aU,aK,cN⟩ c Y;simp only[yf]at Y;have ay:=cN.fit;have aA:=cN.eq;simp only[bZ]at ay aA;try simp only[aW,seval,-Int.reduceToNat,ai,aj,ak,Z,aa,ad,X,ag,ah,bu,bw,bx,aR,aS,aT,bz,bA,aU,aK,ay,aA]
    apply sp al Y<;>intro _ Y
    ·obtain⟨ed,dC,Y⟩:=ae Y;have bd:=bo aG dC;simp only[bZ]at bd;obtain⟨ee,cW,Y⟩:=ae Y;have bf:=bo (eI .i64) cW;simp only[bZ]at bf;have bL:=fW (eI .i64) (x':=(-1)) (fo:=0) (cs:=[.int .i64 (-1)]) cW rfl (ais rfl);simp only[bZ,Nat.add_zero]at bL;have bg:=bL;simp only[putCells,List.length_cons,List.length_nil,ahr,Nat.reduceAdd]at bg;obtain⟨ef,bC,Y⟩:=ae Y;try simp only[aW,seval,-Int.reduceToNat,ai,aj,ak,Z,aa,ad,X,ag,ah,bu,bw,bx,aR,aS,aT,bz,bA,aU,aK,ay,aA,bd,bf,bL,bg,bC]
     apply sp al Y<;>intro _ Y
     ·obtain⟨eg,cX,Y⟩:=ae Y;have cn:=bo (eI .i64) cX;simp only[bZ,aiK]at cn;have cO:=fW (eI .i64) (x':=0) (fo:=0) (cs:=[.int .i64 0]) cX rfl (ais rfl);simp only[bZ,Nat.add_zero]at cO;have cp:=cO;simp only[putCells,List.length_cons,List.length_nil,ahr,Nat.reduceAdd]at cp;obtain⟨dD,dE,Y⟩:=ae Y;obtain⟨cY,cq,cZ,c0⟩:=iJ (eI .i64) dE;simp only[bZ]at cq;cases Y;try simp only[aW,seval,-Int.reduceToNat,ai,aj,ak,Z,aa,ad,X,ag,ah,bu,bw,bx,aR,aS,aT,bz,bA,aU,aK,ay,aA,bd,bf,bL,bg,bC,cn,cO,cp,cY,cq,cZ,c0]
      apply iu;refine⟨b5,e+1+1+1+1+1,bc,aQ,0,(ab (eI .i64) dD),?_,?_,?_,?_,?_,?_,?_,?_,?_,?_,(sV.self (eI .i64) dD)⟩;all_goals (first|rfl|omega|(simp only[aW,seval,-Int.reduceToNat,ai,aj,ak,Z,aa,ad,X,ag,ah,bu,bw,bx,aR,aS,aT,bz,bA,aU,aK,ay,aA,bd,bf,bL,bg,bC,cn,cO,cp,cY,cq,cZ,c0]<;>rfl))
     ·cases Y;try simp only[aW,seval,-Int.reduceToNat,ai,aj,ak,Z,aa,ad,X,ag,ah,bu,bw,bx,aR,aS,aT,bz,bA,aU,aK,ay,aA,bd,bf,bL,bg,bC]
      apply iu;refine⟨b5,cg,bc,aQ,ch,cj,?_,?_,?_,?_,?_,?_,?_,?_,?_,?_,cN⟩;all_goals (first|rfl|omega|(simp only[aW,seval,-Int.reduceToNat,ai,aj,ak,Z,aa,ad,X,ag,ah,bu,bw,bx,aR,aS,aT,bz,bA,aU,aK,ay,aA,bd,bf,bL,bg,bC]<;>rfl))
    ·cases Y;try simp only[aW,seval,-Int.reduceToNat,ai,aj,ak,Z,aa,ad,X,ag,ah,bu,bw,bx,aR,aS,aT,bz,bA,aU,aK,ay,aA]
     apply jv;refine⟨rfl,⟨b5,cg,bc,aQ,ch,cj,?_,?_,?_,?_,?_,?_,?_,cN⟩⟩;all_goals (first|rfl|omega|(simp only[aW,seval,-Int.reduceToNat,ai,aj,ak,Z,aa,ad,X,ag,ah,bu,bw,bx,aR,aS,aT,bz,bA,aU,aK,ay,aA]<;>rfl))
   ·rintro x t H e hx;rcases dS with⟨ck,cm⟩;dsimp only at hx Y;obtain⟨rfl,⟨bR,bS,bm,a7,bT,bU,c3,c4,c5,c6,c7,cr,bV,ct⟩⟩:=hx;have O:=ct.fit;have U:=ct.eq;simp only[bZ]at O U;try simp only[aW,seval,-Int.reduceToNat,ai,aj,ak,Z,aa,ad,X,ag,ah,c3,c4,c5,c6,c7,cr,bV,O,U]
    obtain⟨dT,dF,Y⟩:=ae Y;refine aB (fun s t H e=>match s with|(dq,dr)=>∃cu:Nat,∃ds:Nat,∃bX:Nat,∃bn:Nat,∃cP:Nat,∃cQ:List D,t 3=.buf 18 bX 1 0 (aq).length∧t 6=.buf 6 cu 1 0 (dq).length∧t 7=.buf 7 ds 1 cP (dr).length∧H 6=some ⟨cu,3,ab (eI .i64) dq,false,true,false⟩∧H 7=some ⟨ds,3,cQ,false,true,false⟩∧H 18=some ⟨bX,22,[.nr 3 1 bn (ab (FD (eI .i64)) aq)],false,true,true⟩∧bn<=4*e∧sV (eI .i64) cQ cP dr) (fun o x t H e=>match o with|cv=>x=.exit 4∧∃cw:Nat,t 6=.buf 6 cw 1 0 (cv).length∧H 6=some ⟨cw,3,ab (eI .i64) cv,false,true,false⟩) dF ?_ ?_ ?_
    ·refine⟨bR,bS,bm,a7,bT,bU,?_,?_,?_,?_,?_,?_,?_,ct⟩;all_goals (first|rfl|omega|(simp only[aW,seval,-Int.reduceToNat,ai,aj,ak,Z,aa,ad,X,ag,ah,c3,c4,c5,c6,c7,cr,bV,O,U]<;>rfl))
    ·rintro⟨dq,dr⟩ t H e ⟨cu,ds,bX,bn,cP,cQ,cx,cy,cz,cA,cB,bD,bb,cR⟩ c Y;simp only[yg]at Y;have an:=cR.fit;have ao:=cR.eq;simp only[bZ]at an ao;try simp only[aW,seval,-Int.reduceToNat,ai,aj,ak,Z,aa,ad,X,ag,ah,O,U,cx,cy,cz,cA,cB,bD,bb,an,ao]
     apply sp al Y<;>intro _ Y
     ·obtain⟨dG,c8,Y⟩:=ae Y;have aE:=J7 c8;obtain⟨ar,dH,au⟩:=cR.idx c8;simp only[bZ]at au ar;obtain⟨eh,c9,Y⟩:=ae Y;obtain⟨aF,aI,aJ,av,aw⟩:=Y8 (eI .i64) c9;simp only[bZ]at aw;have dI:=sV.tail cR c9;obtain⟨dJ,dK,Y⟩:=ae Y;have ax:=bo (FD (eI .i64)) dK;simp only[bZ]at ax;try simp only[aW,seval,-Int.reduceToNat,ai,aj,ak,Z,aa,ad,X,ag,ah,O,U,cx,cy,cz,cA,cB,bD,bb,an,ao,aE,au,ar,aF,aI,aJ,aw,ax]
      obtain⟨dU,dL,Y⟩:=ae Y;refine aB (fun s t H e=>match s with|(da,dt,du)=>∃b6:Nat,∃cC:Nat,∃bh:Nat,∃aO:Nat,∃cD:Nat,∃cE:List D,t 3=.buf 18 bh 1 0 (aq).length∧t 6=.buf 6 b6 1 0 (dt).length∧t 7=.buf 7 cC 1 cD (du).length∧t 10=.int .i64 dG∧t 76=.buf (NK 18 ((dG:Int).toNat*1)) aO 1 0 (dJ).length∧t 77=.int .i64 ((dJ).length:Int)∧t 78=.int .i64 da∧H 6=some ⟨b6,3,ab (eI .i64) dt,false,true,false⟩∧H 7=some ⟨cC,3,cE,false,true,false⟩∧H 18=some ⟨bh,22,[.nr 3 1 aO (ab (FD (eI .i64)) aq)],false,true,true⟩∧aO<=4*e∧sV (eI .i64) cE cD du) (fun o x t H e=>match o with|(cF,cG)=>x=.exit 6∧∃bY:Nat,∃b1:Nat,∃bp:Nat,∃a8:Nat,∃b2:Nat,∃b3:List D,t 3=.buf 18 bp 1 0 (aq).length∧t 6=.buf 6 bY 1 0 (cF).length∧t 7=.buf 7 b1 1 b2 (cG).length∧H 6=some ⟨bY,3,ab (eI .i64) cF,false,true,false⟩∧H 7=some ⟨b1,3,b3,false,true,false⟩∧H 18=some ⟨bp,22,[.nr 3 1 a8 (ab (FD (eI .i64)) aq)],false,true,true⟩∧a8<=4*e∧sV (eI .i64) b3 b2 cG) dL ?_ ?_ ?_
      ·refine⟨cu,e+1+1,bX,bn,(cP+(1:Int).toNat*1),(cQ),?_,?_,?_,?_,?_,?_,?_,?_,?_,?_,?_,dI⟩;all_goals (first|rfl|omega|(simp only[aW,seval,-Int.reduceToNat,ai,aj,ak,Z,aa,ad,X,ag,ah,O,U,cx,cy,cz,cA,cB,bD,bb,an,ao,aE,au,ar,aF,aI,aJ,aw,ax,av]<;>rfl))
      ·rintro⟨da,dt,du⟩ t H e ⟨b6,cC,bh,aO,cD,cE,bF,bG,bH,aV,aX,aY,aZ,bI,bK,a1,aL,cS⟩ c Y;simp only[yh]at Y;have aC:=cS.fit;have aD:=cS.eq;simp only[bZ]at aC aD;try simp only[aW,seval,-Int.reduceToNat,ai,aj,ak,Z,aa,ad,X,ag,ah,O,U,an,ao,aE,au,ar,aF,aI,aJ,aw,ax,av,bF,bG,bH,aV,aX,aY,aZ,bI,bK,a1,aL,aC,aD]
       apply sp al Y<;>intro _ Y
       ·obtain⟨ei,dM,Y⟩:=ae Y;have bj:=bo (eI .i64) dM;simp only[bZ]at bj;obtain⟨ej,cH,Y⟩:=ae Y;have aM:=bo (eI .i64) cH;simp only[bZ]at aM;try simp only[aW,seval,-Int.reduceToNat,ai,aj,ak,Z,aa,ad,X,ag,ah,O,U,an,ao,aE,au,ar,aF,aI,aJ,aw,ax,av,bF,bG,bH,aV,aX,aY,aZ,bI,bK,a1,aL,aC,aD,bj,aM]
        apply sp al Y<;>intro _ Y
        ·obtain⟨dN,dO,Y⟩:=ae Y;have cI:=bo (eI .i64) dO;simp only[bZ]at cI;have aM:=bo (eI .i64) cH;simp only[bZ]at aM;have cT:=fW (eI .i64) (x':=IntKind.i64.wrap (dN+1)) (fo:=0) (cs:=[.int .i64 (IntKind.i64.wrap (dN+1))]) cH rfl (ais rfl);simp only[bZ,Nat.add_zero]at cT;have cJ:=cT;simp only[putCells,List.length_cons,List.length_nil,ahr,Nat.reduceAdd]at cJ;obtain⟨dP,dQ,Y⟩:=ae Y;obtain⟨db,cK,dc,dd⟩:=iJ (eI .i64) dQ;simp only[bZ]at cK;cases Y;try simp only[aW,seval,-Int.reduceToNat,ai,aj,ak,Z,aa,ad,X,ag,ah,O,U,an,ao,aE,au,ar,aF,aI,aJ,aw,ax,av,bF,bG,bH,aV,aX,aY,aZ,bI,bK,a1,aL,aC,aD,bj,aM,cI,aM,cT,cJ,db,cK,dc,dd]
         apply iu;refine⟨b6,e+1+1+1+1,bh,aO,0,(ab (eI .i64) dP),?_,?_,?_,?_,?_,?_,?_,?_,?_,?_,?_,(sV.self (eI .i64) dP)⟩;all_goals (first|rfl|omega|(simp only[aW,seval,-Int.reduceToNat,ai,aj,ak,Z,aa,ad,X,ag,ah,O,U,an,ao,aE,au,ar,aF,aI,aJ,aw,ax,av,bF,bG,bH,aV,aX,aY,aZ,bI,bK,a1,aL,aC,aD,bj,aM,cI,aM,cT,cJ,db,cK,dc,dd]<;>rfl))
        ·cases Y;try simp only[aW,seval,-Int.reduceToNat,ai,aj,ak,Z,aa,ad,X,ag,ah,O,U,an,ao,aE,au,ar,aF,aI,aJ,aw,ax,av,bF,bG,bH,aV,aX,aY,aZ,bI,bK,a1,aL,aC,aD,bj,aM]
         apply iu;refine⟨b6,cC,bh,aO,cD,cE,?_,?_,?_,?_,?_,?_,?_,?_,?_,?_,?_,cS⟩;all_goals (first|rfl|omega|(simp only[aW,seval,-Int.reduceToNat,ai,aj,ak,Z,aa,ad,X,ag,ah,O,U,an,ao,aE,au,ar,aF,aI,aJ,aw,ax,av,bF,bG,bH,aV,aX,aY,aZ,bI,bK,a1,aL,aC,aD,bj,aM]<;>rfl))
       ·cases Y;try simp only[aW,seval,-Int.reduceToNat,ai,aj,ak,Z,aa,ad,X,ag,ah,O,U,an,ao,aE,au,ar,aF,aI,aJ,aw,ax,av,bF,bG,bH,aV,aX,aY,aZ,bI,bK,a1,aL,aC,aD]
        apply jv;refine⟨rfl,⟨b6,cC,bh,aO,cD,cE,?_,?_,?_,?_,?_,?_,?_,cS⟩⟩;all_goals (first|rfl|omega|(simp only[aW,seval,-Int.reduceToNat,ai,aj,ak,Z,aa,ad,X,ag,ah,O,U,an,ao,aE,au,ar,aF,aI,aJ,aw,ax,av,bF,bG,bH,aV,aX,aY,aZ,bI,bK,a1,aL,aC,aD]<;>rfl))
      ·rintro x t H e hx;rcases dU with⟨cF,cG⟩;dsimp only at hx Y;obtain⟨rfl,⟨bY,b1,bp,a8,b2,b3,de,df,dh,di,dj,cL,b4,cM⟩⟩:=hx;have bq:=cM.fit;have br:=cM.eq;simp only[bZ]at bq br;cases Y;try simp only[aW,seval,-Int.reduceToNat,ai,aj,ak,Z,aa,ad,X,ag,ah,O,U,an,ao,aE,au,ar,aF,aI,aJ,aw,ax,av,av,de,df,dh,di,dj,cL,b4,bq,br]
       apply iu;refine⟨bY,b1,bp,a8,b2,b3,?_,?_,?_,?_,?_,?_,?_,cM⟩;all_goals (first|rfl|omega|(simp only[aW,seval,-Int.reduceToNat,ai,aj,ak,Z,aa,ad,X,ag,ah,O,U,an,ao,aE,au,ar,aF,aI,aJ,aw,ax,av,av,de,df,dh,di,dj,cL,b4,bq,br]<;>rfl))
     ·cases Y;try simp only[aW,seval,-Int.reduceToNat,ai,aj,ak,Z,aa,ad,X,ag,ah,O,U,cx,cy,cz,cA,cB,bD,bb,an,ao]
      apply jv;refine⟨rfl,⟨cu,?_⟩⟩;and_intros<;>first|rfl|(simp only[aW,seval,-Int.reduceToNat,ai,aj,ak,Z,aa,ad,X,ag,ah,O,U,cx,cy,cz,cA,cB,bD,bb,an,ao]<;>rfl)
    ·rintro x t H e hx;obtain⟨cv,rfl⟩:∃z,z=dT:=⟨_,rfl⟩;dsimp only at hx Y;obtain⟨rfl,⟨cw,dV⟩⟩:=hx;cases Y;try simp only[aW,seval,-Int.reduceToNat,ai,aj,ak,Z,aa,ad,X,ag,ah,O,U,dV]
def oO (l:Option (D×Row)) (d:List D):=dW (iD (mP (eI .i64)) (dS (mP (eI .i64)))) (fun x:(List Int)×(List Int)=>iN x.1 x.2) (fun r:Bool =>.clean (.bool r)) l d
theorem BD:bW prog 20 oO:=bW.gN (mode := .clean) tok bH.none mixed func20 (by kernel_rfl) (fun _ _=>rfl) (fun _=>by kernel_rfl) fun⟨p0,p1⟩ r O=>by
 replace O:iN p0 p1=some r:=O;apply aH rfl ntmps20 results20;simp only[gR];unfold iN at O;try simp only[w,seval]
 apply sp al O<;>intro _ O
 ·cases O;try simp only[w,seval]
 ·try simp only[w,seval]
  obtain⟨o6,aa,O⟩:=ae O;refine aB (fun s t H e=>match s with|Z=>t 0=.sl false false p0.length (ab (eI .i64) p0)∧t 1=.sl false false p1.length (ab (eI .i64) p1)∧t 5=.int .i64 Z) (fun o x t H e=>match o with|(.inl _)=>x=.exit 0|(.inr r)=>x=.ret∧fF .clean tab none [.tmp 4] ⟨t,EH H,e⟩=some (.clean (.bool r),none)) aa ?_ ?_ ?_
  ·and_intros<;>first|rfl|(simp only[w,seval]<;>rfl)
  ·rintro Z t H e Y c O;simp only[sN]at O;try simp only[w,seval,Y]
   apply sp al O<;>intro _ O
   ·obtain⟨x8,ad,O⟩:=ae O;have U:=bo (eI .i64) ad;simp only[bZ]at U;obtain⟨x9,ag,O⟩:=ae O;have X:=bo (eI .i64) ag;simp only[bZ]at X;try simp only[w,seval,Y,U,X]
    refine bJ (by kernel_rfl) ?_;try simp only[w,seval,Y,U,X]
    apply sp al O<;>intro _ O
    ·cases O;try simp only[w,seval,Y,U,X]
     refine rq ⟨rfl,?_⟩;try simp only[w,seval,Y,U,X]
    ·cases O;try simp only[w,seval,Y,U,X]
     apply iu;and_intros<;>first|rfl|(simp only[w,seval,Y,U,X]<;>rfl)
   ·cases O;try simp only[w,seval,Y]
    apply jv;exact rfl
  ·rintro x t H e hx;rcases o6 with _|ra
   ·dsimp only at hx O;subst hx;cases O;try simp only[w,seval]
   ·dsimp only at hx O;obtain⟨rfl,hE⟩:=hx;cases O;try simp only[bg,aY,bk,cK,cJ,ca,cc]
    exact hE
def kB (l:Option (D×Row)) (d:List D):=dW (iD (bC tw) (dS (aI .i64))) (fun x:fP×Int=>nd x.1 x.2) (fun r:aw =>.clean (.agg [.int .i64 r.cu.aj,.sl false false r.cu.aa.length (ab (eI .i64) r.cu.aa),.int .i64 r.ct.aj,.sl false false r.ct.aa.length (ab (eI .i64) r.ct.aa)])) l d
theorem abj {β:Type} {F:fP×Int->Option β} {R:β->RK} (U:Int) (O:(List bL)) (X:Int):dW (iD (bC tw) (dS (aI .i64))) F R none [.agg [.int .i64 U,.sl false false O.length (ab bB O)],.int .i64 X]=(F ((fP.mk U O),X)).map fun r=>(R r,none):=cU _ _ _ ((fP.mk U O),X)
def wM:Env:=(Am.ext (Am.ext (Am.ext bm 15 false eB) 35 false ch) 50 false fY)
theorem MU:bH prog wM:=(((bH.none.add oa false).add iZ false).add si false)
theorem pK:type_of% (ai @w<|ai @BK<|ai @eB.eq_1<|ai @BJ<|ai @ch.eq_1<|ai @fY.eq_1<|@wM.eq_1):=⟨@w,@BK,@eB.eq_1,@BJ,@ch.eq_1,@fY.eq_1,@wM.eq_1⟩
theorem AX:bW prog 18 kB:=bW.gN (mode := .clean) tok MU mixed func18 (by kernel_rfl) (fun _ _=>rfl) (fun _=>by kernel_rfl) fun⟨p0,p1⟩ r O=>by
 replace O:nd p0 p1=some r:=O;apply aH rfl ntmps18 results18;simp only[gR];unfold nd at O;obtain⟨r1,U,O⟩:=ae O;try simp only[pK,seval,U]
 apply sp aR O<;>intro _ O
 ·cases O;try simp only[pK,seval,U]
 ·obtain⟨r3,X,O⟩:=ae O;try simp only[pK,seval,U,X]
  apply sp al O<;>intro _ O
  ·cases O;try simp only[pK,seval,U,X]
  ·obtain⟨r5,Z,O⟩:=ae O;obtain⟨x6,aa,O⟩:=ae O;have Y:=bo aG aa;simp only[bZ]at Y;cases O;try simp only[pK,seval,U,X,Z,Y]
def mH (l:Option (D×Row)) (d:List D):=dW (dS (bC tw)) (fun x:fP=>p8 x) (fun r:(List Int) =>.clean (.sl false false r.length (ab (eI .i64) r))) l d
def qC:Env:=(Am.ext bm 21 false jo)
theorem DJ:bH prog qC:=(bH.none.add ym false)
theorem eu:type_of% (ai @w<|ai @BK<|ai @jo.eq_1<|@qC.eq_1):=⟨@w,@BK,@jo.eq_1,@qC.eq_1⟩
theorem EC:bW prog 23 mH:=bW.gN (mode := .clean) tok DJ mixed func23 (by kernel_rfl) (fun _ _=>rfl) (fun _=>by kernel_rfl) fun p0 r U=>by
 replace U:p8 p0=some r:=U;apply aH rfl ntmps23 results23;simp only[gR];unfold p8 at U;obtain⟨r1,O,U⟩:=ae U;try simp only[eu,seval,O]
 obtain⟨o7,ao,U⟩:=ae U;refine aB (fun s t H e=>match s with|(ak,aj)=>∃Y:Nat,t 3=.buf 3 Y 1 0 (aj).length∧t 7=.sl false false r1.length (ab (eI .i64) r1)∧t 8=.int .i64 (r1.length:Int)∧t 9=.int .i64 ak∧H 3=some ⟨Y,3,ab (eI .i64) aj,false,true,false⟩) (fun o x t H e=>match o with|Z=>x=.exit 0∧∃aa:Nat,t 3=.buf 3 aa 1 0 (Z).length∧H 3=some ⟨aa,3,ab (eI .i64) Z,false,true,false⟩) ao ?_ ?_ ?_
 ·refine⟨1,?_⟩;and_intros<;>first|rfl|(simp only[eu,seval,O]<;>rfl)
 ·rintro⟨ak,aj⟩ t H e ⟨Y,Za⟩ c U;simp only[tX]at U;try simp only[eu,seval,O,Za]
  apply sp al U<;>intro _ U
  ·obtain⟨x9,aq,U⟩:=ae U;have X:=bo (eI .i64) aq;simp only[bZ]at X;try simp only[eu,seval,O,Za,X]
   apply sp al U<;>intro _ U
   ·obtain⟨au,an,U⟩:=ae U;obtain⟨ag,ad,ah,ai⟩:=iJ (eI .i64) an;simp only[bZ]at ad;cases U;try simp only[eu,seval,O,Za,X,ag,ad,ah,ai]
    apply iu;refine⟨e+1+1+1,?_⟩;and_intros<;>first|rfl|(simp only[eu,seval,O,Za,X,ag,ad,ah,ai]<;>rfl)
   ·cases U;try simp only[eu,seval,O,Za,X]
    apply iu;refine⟨Y,?_⟩;and_intros<;>first|rfl|(simp only[eu,seval,O,Za,X]<;>rfl)
  ·cases U;try simp only[eu,seval,O,Za]
   apply jv;refine⟨rfl,⟨Y,?_⟩⟩;and_intros<;>first|rfl|(simp only[eu,seval,O,Za]<;>rfl)
 ·rintro x t H e hx;obtain⟨Z,rfl⟩:∃z,z=o7:=⟨_,rfl⟩;dsimp only at hx U;obtain⟨rfl,⟨aa,ar⟩⟩:=hx;cases U;try simp only[eu,seval,O,ar]
def rC (l:Option (D×Row)) (d:List D):=dW (as0) (fun x:Unit=>tT) (fun r:Bool =>.clean (.bool r)) l d
theorem xe (X:Int) (O:(List bL)) (Y:Int) (U:(List bL)):wh none [.agg [.int .i64 X,.sl false false O.length (ab bB O)],.agg [.int .i64 Y,.sl false false U.length (ab bB U)]]=(ug (fP.mk X O) (fP.mk Y U)).map fun r:Bool=>(.clean (.bool r),none):=cU _ _ _ ((fP.mk X O),(fP.mk Y U))
theorem jz (O:(List Int)) (U:(List Int)):oO none [.sl false false O.length (ab (eI .i64) O),.sl false false U.length (ab (eI .i64) U)]=(iN O U).map fun r:Bool=>(.clean (.bool r),none):=cU _ _ _ (O,U)
def wL:Env:=(Am.ext (Am.ext (Am.ext (Am.ext (Am.ext (Am.ext (Am.ext (Am.ext (Am.ext (Am.ext (Am.ext (Am.ext bm 10 false fX) 12 false oL) 14 false wh) 15 false eB) 17 false gW) 18 false kB) 20 false oO) 21 false jo) 23 false mH) 25 false gi) 31 false mF) 32 false rA)
theorem MT:bH prog wL:=((((((((((((bH.none.add sh false).add Iq false).add OH false).add oa false).add ub false).add AX false).add BD false).add ym false).add EC false).add sk false).add EA false).add OC false)
theorem b8:type_of% (ai @w<|ai @VZ<|ai @fX.eq_1<|ai @oL.eq_1<|ai @xe<|ai @BK<|ai @eB.eq_1<|ai @rf<|ai @gW.eq_1<|ai @abj<|ai @kB.eq_1<|ai @jz<|ai @jo.eq_1<|ai @mH.eq_1<|ai @FE<|ai @gi.eq_1<|ai @aev<|ai @mF.eq_1<|ai @sh8<|ai @rA.eq_1<|@wL.eq_1):=⟨@w,@VZ,@fX.eq_1,@oL.eq_1,@xe,@BK,@eB.eq_1,@rf,@gW.eq_1,@abj,@kB.eq_1,@jz,@jo.eq_1,@mH.eq_1,@FE,@gi.eq_1,@aev,@mF.eq_1,@sh8,@rA.eq_1,@wL.eq_1⟩
theorem OE:bW prog 7 rC:=bW.gN (mode := .clean) tok MT mixed func7 (by kernel_rfl) (fun _ _=>rfl) (fun _=>by kernel_rfl) fun _ r O=>by
 replace O:tT=some r:=O;apply aH rfl ntmps7 results7;simp only[gR];unfold tT at O;obtain⟨r1,U,O⟩:=ae O;obtain⟨r2,X,O⟩:=ae O;obtain⟨r3,Y,O⟩:=ae O;try simp only[b8,seval,U,X,Y]
 obtain⟨o4,aA,O⟩:=ae O;refine bA 0 (fun s t H e=>match s with|av=>t 41=.bool av) (fun s=>s=o4) ?_ ?_
 ·rintro av t H e ad rfl;try dsimp only at O
  try simp only[b8,seval,U,X,Y,ad]
  apply sp al O<;>intro _ O
  ·cases O;try simp only[b8,seval,U,X,Y,ad]
  ·obtain⟨r6,ah,O⟩:=ae O;obtain⟨r7,ai,O⟩:=ae O;obtain⟨r8,aj,O⟩:=ae O;obtain⟨r9,ak,O⟩:=ae O;obtain⟨aE,Z,O⟩:=ae O;try simp only[b8,seval,U,X,Y,ad,ah,ai,aj,ak,Z]
   apply sp eJ O<;>intro _ O
   ·obtain⟨aB,aa,O⟩:=ae O;have i13:=jz aB ([(-1),(-1)]);simp only[bj,bZ,List.length_cons,List.length_nil,ahr,Nat.reduceAdd,aiK]at i13;obtain⟨aF,ab,O⟩:=ae O;try simp only[b8,seval,U,X,Y,ad,ah,ai,aj,ak,Z,aa,i13,ab]
    apply sp eJ O<;>intro _ O
    ·obtain⟨aC,ao,O⟩:=ae O;have i17:=jz aC ([0,1]);simp only[bj,bZ,List.length_cons,List.length_nil,ahr,Nat.reduceAdd,aiK]at i17;obtain⟨aG,aq,O⟩:=ae O;try simp only[b8,seval,U,X,Y,ad,ah,ai,aj,ak,Z,aa,i13,ab,ao,i17,aq]
     apply sp eJ O<;>intro _ O
     ·try simp only[b8,seval,U,X,Y,ad,ah,ai,aj,ak,Z,aa,i13,ab,ao,i17,aq]
      apply sp eJ O<;>intro _ O
      ·try simp only[b8,seval,U,X,Y,ad,ah,ai,aj,ak,Z,aa,i13,ab,ao,i17,aq]
       apply sp eJ O<;>intro _ O
       ·obtain⟨aI,ay,O⟩:=ae O;cases O;try simp only[b8,seval,U,X,Y,ad,ah,ai,aj,ak,Z,aa,i13,ab,ao,i17,aq,ay]
       ·cases O;try simp only[b8,seval,U,X,Y,ad,ah,ai,aj,ak,Z,aa,i13,ab,ao,i17,aq]
      ·cases O;try simp only[b8,seval,U,X,Y,ad,ah,ai,aj,ak,Z,aa,i13,ab,ao,i17,aq]
     ·cases O;try simp only[b8,seval,U,X,Y,ad,ah,ai,aj,ak,Z,aa,i13,ab,ao,i17,aq]
    ·cases O;try simp only[b8,seval,U,X,Y,ad,ah,ai,aj,ak,Z,aa,i13,ab]
   ·cases O;try simp only[b8,seval,U,X,Y,ad,ah,ai,aj,ak,Z]
 ·clear O;have O:=aA;try simp only[b8,seval,U,X,Y]
  apply sp aR O<;>intro _ O
  ·cases O;try simp only[b8,seval,U,X,Y]
   rw[an];refine⟨_,rfl,?_⟩;refine ?_;all_goals first|rfl|(simp only[b8,seval,U,X,Y]<;>rfl)
  ·have i24:=xe r3.1.az r3.1.aN 2 ([(bL.mk 0 1 r1),(bL.mk 1 0 r1)]);simp only[bj,bZ,List.length_cons,List.length_nil,ahr,Nat.reduceAdd,aiK]at i24;obtain⟨aJ,ag,O⟩:=ae O;try simp only[b8,seval,U,X,Y,i24,ag]
   apply sp aR O<;>intro _ O
   ·cases O;try simp only[b8,seval,U,X,Y,i24,ag]
    rw[an];refine⟨_,rfl,?_⟩;refine ?_;all_goals first|rfl|(simp only[b8,seval,U,X,Y,i24,ag]<;>rfl)
   ·obtain⟨aD,ar,O⟩:=ae O;have i28:=jz aD ([0,0]);simp only[bj,bZ,List.length_cons,List.length_nil,ahr,Nat.reduceAdd,aiK]at i28;obtain⟨aK,au,O⟩:=ae O;try simp only[b8,seval,U,X,Y,i24,ag,ar,i28,au]
    apply sp aR O<;>intro _ O
    ·cases O;try simp only[b8,seval,U,X,Y,i24,ag,ar,i28,au]
     rw[an];refine⟨_,rfl,?_⟩;refine ?_;all_goals first|rfl|(simp only[b8,seval,U,X,Y,i24,ag,ar,i28,au]<;>rfl)
    ·obtain⟨aL,aw,O⟩:=ae O;obtain⟨aM,ax,O⟩:=ae O;cases O;try simp only[b8,seval,U,X,Y,i24,ag,ar,i28,au,aw,ax]
     rw[an];refine⟨_,rfl,?_⟩;refine ?_;all_goals first|rfl|(simp only[b8,seval,U,X,Y,i24,ag,ar,i28,au,aw,ax]<;>rfl)
def uK (l:Option (D×Row)) (d:List D):=dW (iD (bC aG) (dS (aI .i64))) (fun x:aw×Int=>vf x.1 x.2) (fun r:Bool =>.clean (.bool r)) l d
theorem aeA {β:Type} {F:aw×Int->Option β} {R:β->RK} (X:Int) (O:(List Int)) (Y:Int) (U:(List Int)) (Z:Int):dW (iD (bC aG) (dS (aI .i64))) F R none [.agg [.int .i64 X,.sl false false O.length (ab (eI .i64) O),.int .i64 Y,.sl false false U.length (ab (eI .i64) U)],.int .i64 Z]=(F ((aw.mk (aD.mk X O) (aD.mk Y U)),Z)).map fun r=>(R r,none):=cU _ _ _ ((aw.mk (aD.mk X O) (aD.mk Y U)),Z)
theorem Ri:bW prog 34 uK:=bW.gN (mode := .clean) tok bH.none mixed func34 (by kernel_rfl) (fun _ _=>rfl) (fun _=>by kernel_rfl) fun⟨U,X⟩ r O=>by
 replace O:vf U X=some r:=O;apply aH rfl ntmps34 results34;simp only[gR];unfold vf at O;try simp only[w,seval]
 apply sp eJ O<;>intro _ O
 ·cases O;try simp only[w,seval]
 ·cases O;try simp only[w,seval]
def mL (l:Option (D×Row)) (d:List D):=dW (dS (bC wy)) (fun x:fH=>jB x) (fun r:Bool =>.clean (.bool r)) l d
def qF:Env:=(Am.ext bm 34 false uK)
theorem DM:bH prog qF:=(bH.none.add Ri false)
theorem aU:type_of% (ai @w<|ai @aeA<|ai @uK.eq_1<|@qF.eq_1):=⟨@w,@aeA,@uK.eq_1,@qF.eq_1⟩
theorem EL:bW prog 33 mL:=bW.gN (mode := .clean) tok DM mixed func33 (by kernel_rfl) (fun _ _=>rfl) (fun _=>by kernel_rfl) fun X r U=>by
 replace U:jB X=some r:=U;apply aH rfl ntmps33 results33;simp only[gR];unfold jB at U;try simp only[aU,seval]
 obtain⟨o1,ay,U⟩:=ae U;refine bA 0 (fun s t H e=>match s with|ag=>∃aa:Nat,t 1=.ptr 1 aa 0∧t 20=.bool ag∧H 1=some ⟨aa,52,[.sl false false X.ah.length (ab a8 X.ah),.sl false false X.aJ.length (ab dw X.aJ),.sl false false X.aA.length (ab (jk aG) X.aA)],false,false,false⟩) (fun s=>s=o1) ?_ ?_
 ·rintro ag t H e ⟨aa,ak⟩ rfl;try dsimp only at U
  try simp only[aU,seval,ak]
  apply sp al U<;>intro _ U
  ·cases U;try simp only[aU,seval,ak]
  ·try simp only[aU,seval,ak]
   obtain⟨az,ar,U⟩:=ae U;refine aB (fun s t H e=>match s with|ao=>∃aq:Nat,t 1=.ptr 1 aq 0∧t 3=.int .i64 ao∧H 1=some ⟨aq,52,[.sl false false X.ah.length (ab a8 X.ah),.sl false false X.aJ.length (ab dw X.aJ),.sl false false X.aA.length (ab (jk aG) X.aA)],false,false,false⟩) (fun o x t H e=>match o with|(.inl _)=>x=.exit 0|(.inr r)=>x=.ret∧fF .clean tab none [.tmp 2] ⟨t,EH H,e⟩=some (.clean (.bool r),none)) ar ?_ ?_ ?_
   ·refine⟨aa,?_⟩;and_intros<;>first|rfl|(simp only[aU,seval,ak]<;>rfl)
   ·rintro ao t H e ⟨aq,Zb⟩ c U;simp only[lK]at U;try simp only[aU,seval,Zb]
    apply sp al U<;>intro _ U
    ·obtain⟨aD,ai,U⟩:=ae U;have O:=bo (jk aG) ai;simp only[bZ]at O;try simp only[aU,seval,Zb,O]
     apply sp al U<;>intro _ U
     ·cases U;try simp only[aU,seval,Zb,O]
      refine rq ⟨rfl,?_⟩;try simp only[aU,seval,Zb,O]
     ·try simp only[aU,seval,Zb,O]
      obtain⟨aC,au,U⟩:=ae U;refine aB (fun s t H e=>match s with|av=>∃aj:Nat,t 1=.ptr 1 aj 0∧t 3=.int .i64 ao∧t 4=.int .i64 av∧H 1=some ⟨aj,52,[.sl false false X.ah.length (ab a8 X.ah),.sl false false X.aJ.length (ab dw X.aJ),.sl false false X.aA.length (ab (jk aG) X.aA)],false,false,false⟩) (fun o x t H e=>match o with|(.inl _)=>x=.exit 2∧∃ad:Nat,t 1=.ptr 1 ad 0∧t 3=.int .i64 ao∧H 1=some ⟨ad,52,[.sl false false X.ah.length (ab a8 X.ah),.sl false false X.aJ.length (ab dw X.aJ),.sl false false X.aA.length (ab (jk aG) X.aA)],false,false,false⟩|(.inr r)=>x=.ret∧fF .clean tab none [.tmp 2] ⟨t,EH H,e⟩=some (.clean (.bool r),none)) au ?_ ?_ ?_
      ·refine⟨aq,?_⟩;and_intros<;>first|rfl|(simp only[aU,seval,Zb,O]<;>rfl)
      ·rintro av t H e ⟨aj,Zd⟩ c U;simp only[eo]at U;have O:=bo (jk aG) ai;simp only[bZ]at O;try simp only[aU,seval,O,Zd,O]
       apply sp al U<;>intro _ U
       ·have O:=bo (jk aG) ai;simp only[bZ]at O;obtain⟨aE,aw,U⟩:=ae U;have Y:=bo aG aw;simp only[bZ]at Y;obtain⟨aF,Z,U⟩:=ae U;try simp only[aU,seval,O,Zd,O,O,Y,Z]
        apply sp al U<;>intro _ U
        ·cases U;try simp only[aU,seval,O,Zd,O,O,Y,Z]
         refine rq ⟨rfl,?_⟩;try simp only[aU,seval,O,Zd,O,O,Y,Z]
        ·cases U;try simp only[aU,seval,O,Zd,O,O,Y,Z]
         apply iu;refine⟨aj,?_⟩;and_intros<;>first|rfl|(simp only[aU,seval,O,Zd,O,O,Y,Z]<;>rfl)
       ·cases U;try simp only[aU,seval,O,Zd,O]
        apply jv;refine⟨rfl,⟨aj,?_⟩⟩;and_intros<;>first|rfl|(simp only[aU,seval,O,Zd,O]<;>rfl)
      ·rintro x t H e hx;rcases aC with _|rd
       ·dsimp only at hx U;obtain⟨rfl,⟨ad,ax⟩⟩:=hx;cases U;try simp only[aU,seval,O,ax]
        apply iu;refine⟨ad,?_⟩;and_intros<;>first|rfl|(simp only[aU,seval,O,ax]<;>rfl)
       ·dsimp only at hx U;obtain⟨rfl,hE⟩:=hx;cases U;try simp only[bg,aY,bk,cK,cJ,ca,cc]
        apply rq;first|exact⟨rfl,hE⟩|(simp only[aU,seval]at hE;exact⟨rfl,hE⟩)
    ·cases U;try simp only[aU,seval,Zb]
     apply jv;exact rfl
   ·rintro x t H e hx;rcases az with _|rb
    ·dsimp only at hx U;subst hx;cases U;try simp only[aU,seval]
    ·dsimp only at hx U;obtain⟨rfl,hE⟩:=hx;cases U;try simp only[bg,aY,bk,cK,cJ,ca,cc]
     exact hE
 ·clear U;have U:=ay;try simp only[aU,seval]
  apply sp aR U<;>intro _ U
  ·cases U;try simp only[aU,seval]
   rw[an];refine⟨_,rfl,?_⟩;refine⟨0,?_⟩;and_intros<;>first|rfl|(simp only[aU,seval]<;>rfl)
  ·try simp only[aU,seval]
   apply sp aR U<;>intro _ U
   ·cases U;try simp only[aU,seval]
    rw[an];refine⟨_,rfl,?_⟩;refine⟨0,?_⟩;and_intros<;>first|rfl|(simp only[aU,seval]<;>rfl)
   ·cases U;try simp only[aU,seval]
    rw[an];refine⟨_,rfl,?_⟩;refine⟨0,?_⟩;and_intros<;>first|rfl|(simp only[aU,seval]<;>rfl)
def uM (l:Option (D×Row)) (d:List D):=dW (dS (bC nW)) (fun x:bP=>vg x) (fun r:Bool =>.clean (.bool r)) l d
def zp:Env:=(Am.ext bm 33 false mL)
theorem QX:bH prog zp:=(bH.none.add EL false)
theorem cI:type_of% (ai @w<|ai @abe<|ai @mL.eq_1<|@zp.eq_1):=⟨@w,@abe,@mL.eq_1,@zp.eq_1⟩
theorem Rk:bW prog 8 uM:=bW.gN (mode := .clean) tok QX mixed func8 (by kernel_rfl) (fun _ _=>rfl) (fun _=>by kernel_rfl) fun p0 r U=>by
 replace U:vg p0=some r:=U;apply aH rfl ntmps8 results8;simp only[gR];unfold vg at U;try simp only[cI,seval]
 obtain⟨o1,aj,U⟩:=ae U;refine bA 0 (fun s t H e=>match s with|aa=>∃Y:Nat,t 1=.ptr 1 Y 0∧t 13=.bool aa∧H 1=some ⟨Y,25,[.sl false false p0.au.length (ab (eI .i64) p0.au),.sl false false p0.ao.length (ab b6 p0.ao)],false,false,false⟩) (fun s=>s=o1) ?_ ?_
 ·rintro aa t H e ⟨Y,ag⟩ rfl;try dsimp only at U
  try simp only[cI,seval,ag]
  apply sp al U<;>intro _ U
  ·cases U;try simp only[cI,seval,ag]
  ·try simp only[cI,seval,ag]
   obtain⟨o9,ak,U⟩:=ae U;refine aB (fun s t H e=>match s with|ai=>∃ah:Nat,t 1=.ptr 1 ah 0∧t 3=.int .i64 ai∧H 1=some ⟨ah,25,[.sl false false p0.au.length (ab (eI .i64) p0.au),.sl false false p0.ao.length (ab b6 p0.ao)],false,false,false⟩) (fun o x t H e=>match o with|(.inl _)=>x=.exit 0|(.inr r)=>x=.ret∧fF .clean tab none [.tmp 2] ⟨t,EH H,e⟩=some (.clean (.bool r),none)) ak ?_ ?_ ?_
   ·refine⟨Y,?_⟩;and_intros<;>first|rfl|(simp only[cI,seval,ag]<;>rfl)
   ·rintro ai t H e ⟨ah,Z⟩ c U;simp only[so]at U;try simp only[cI,seval,Z]
    apply sp al U<;>intro _ U
    ·obtain⟨aq,ad,U⟩:=ae U;have O:=bo b6 ad;simp only[bZ]at O;obtain⟨ar,X,U⟩:=ae U;try simp only[cI,seval,Z,O,X]
     apply sp aR U<;>intro _ U
     ·cases U;try simp only[cI,seval,Z,O,X]
      refine rq ⟨rfl,?_⟩;try simp only[cI,seval,Z,O,X]
     ·have O:=bo b6 ad;simp only[bZ]at O;try simp only[cI,seval,Z,O,X,O]
      apply sp aR U<;>intro _ U
      ·cases U;try simp only[cI,seval,Z,O,X,O]
       refine rq ⟨rfl,?_⟩;try simp only[cI,seval,Z,O,X,O]
      ·have O:=bo b6 ad;simp only[bZ]at O;try simp only[cI,seval,Z,O,X,O,O]
       apply sp al U<;>intro _ U
       ·cases U;try simp only[cI,seval,Z,O,X,O,O]
        refine rq ⟨rfl,?_⟩;try simp only[cI,seval,Z,O,X,O,O]
       ·cases U;try simp only[cI,seval,Z,O,X,O,O]
        apply iu;refine⟨ah,?_⟩;and_intros<;>first|rfl|(simp only[cI,seval,Z,O,X,O,O]<;>rfl)
    ·cases U;try simp only[cI,seval,Z]
     apply jv;exact rfl
   ·rintro x t H e hx;rcases o9 with _|rb
    ·dsimp only at hx U;subst hx;cases U;try simp only[cI,seval]
    ·dsimp only at hx U;obtain⟨rfl,hE⟩:=hx;cases U;try simp only[bg,aY,bk,cK,cJ,ca,cc]
     exact hE
 ·clear U;have U:=aj;try simp only[cI,seval]
  apply sp aR U<;>intro _ U
  ·cases U;try simp only[cI,seval]
   rw[an];refine⟨_,rfl,?_⟩;refine⟨0,?_⟩;and_intros<;>first|rfl|(simp only[cI,seval]<;>rfl)
  ·cases U;try simp only[cI,seval]
   rw[an];refine⟨_,rfl,?_⟩;refine⟨0,?_⟩;and_intros<;>first|rfl|(simp only[cI,seval]<;>rfl)
def rB (l:Option (D×Row)) (d:List D):=dW (iD (bC b6) (dS (aI .i64))) (fun x:bE×Int=>qV x.1 x.2) (fun r:aw =>.clean (.agg [.int .i64 r.cu.aj,.sl false false r.cu.aa.length (ab (eI .i64) r.cu.aa),.int .i64 r.ct.aj,.sl false false r.ct.aa.length (ab (eI .i64) r.ct.aa)])) l d
def wK:Env:=(Am.ext (Am.ext (Am.ext bm 25 false gi) 27 false fh) 29 false gT)
theorem MS:bH prog wK:=(((bH.none.add sk false).add p9 false).add tY false)
theorem bK:type_of% (ai @w<|ai @FE<|ai @gi.eq_1<|ai @rf<|ai @fh.eq_1<|ai @gT.eq_1<|@wK.eq_1):=⟨@w,@FE,@gi.eq_1,@rf,@fh.eq_1,@gT.eq_1,@wK.eq_1⟩
theorem OD:bW prog 28 rB:=bW.gN (mode := .clean) tok MS mixed func28 (by kernel_rfl) (fun _ _=>rfl) (fun _=>by kernel_rfl) fun⟨Y,p1⟩ r X=>by
 replace X:qV Y p1=some r:=X;apply aH rfl ntmps28 results28;simp only[gR];unfold qV at X;obtain⟨r1,U,X⟩:=ae X;try simp only[bK,seval,U]
 obtain⟨br,bg,X⟩:=ae X;refine aB (fun s t H e=>match s with|(aW,av,Z,aw,aa)=>∃aX:Nat,∃aQ:Nat,∃aS:Nat,t 1=.int .i64 p1∧t 2=.ptr 2 aX 0∧t 4=.ptr 4 aQ 0∧t 5=.ptr 5 aS 0∧t 6=.int .i64 aW∧H 2=some ⟨aX,55,[.sl false false Y.ak.ah.length (ab a8 Y.ak.ah),.sl false false Y.ak.aJ.length (ab dw Y.ak.aJ),.sl false false Y.ak.aA.length (ab (jk aG) Y.ak.aA),.sl false false Y.aK.length (ab dV Y.aK),.sl false false Y.az.length (ab (eI .i64) Y.az)],false,false,false⟩∧H 4=some ⟨aQ,42,[.int .i64 0,.sl true true 0 [],.int .i64 0,.sl true true 0 []],false,false,false⟩∧H 5=some ⟨aS,42,[.int .i64 av,.sl false false Z.length (ab (eI .i64) Z),.int .i64 aw,.sl false false aa.length (ab (eI .i64) aa)],false,false,false⟩) (fun o x t H e=>match o with|(aC,ag,aD,ai)=>x=.exit 0∧∃aY:Nat,∃aZ:Nat,t 4=.ptr 4 aY 0∧t 5=.ptr 5 aZ 0∧H 4=some ⟨aY,42,[.int .i64 0,.sl true true 0 [],.int .i64 0,.sl true true 0 []],false,false,false⟩∧H 5=some ⟨aZ,42,[.int .i64 aC,.sl false false ag.length (ab (eI .i64) ag),.int .i64 aD,.sl false false ai.length (ab (eI .i64) ai)],false,false,false⟩) bg ?_ ?_ ?_
 ·refine⟨0,0,1,?_⟩;and_intros<;>first|rfl|(simp only[bK,seval,U]<;>rfl)
 ·rintro⟨aW,av,Z,aw,aa⟩ t H e ⟨aX,aQ,aS,Za⟩ c X;simp only[mW]at X;try simp only[bK,seval,U,Za]
  apply sp al X<;>intro _ X
  ·obtain⟨bw,bd,X⟩:=ae X;have O:=bo a8 bd;simp only[bZ]at O;try simp only[bK,seval,U,Za,O]
   obtain⟨bs,bh,X⟩:=ae X;refine bA 0 (fun s t H e=>match s with|a1=>∃aq:Nat,∃ar:Nat,∃au:Nat,t 1=.int .i64 p1∧t 2=.ptr 2 aq 0∧t 4=.ptr 4 ar 0∧t 5=.ptr 5 au 0∧t 6=.int .i64 aW∧t 37=.bool a1∧H 2=some ⟨aq,55,[.sl false false Y.ak.ah.length (ab a8 Y.ak.ah),.sl false false Y.ak.aJ.length (ab dw Y.ak.aJ),.sl false false Y.ak.aA.length (ab (jk aG) Y.ak.aA),.sl false false Y.aK.length (ab dV Y.aK),.sl false false Y.az.length (ab (eI .i64) Y.az)],false,false,false⟩∧H 4=some ⟨ar,42,[.int .i64 0,.sl true true 0 [],.int .i64 0,.sl true true 0 []],false,false,false⟩∧H 5=some ⟨au,42,[.int .i64 av,.sl false false Z.length (ab (eI .i64) Z),.int .i64 aw,.sl false false aa.length (ab (eI .i64) aa)],false,false,false⟩) (fun s=>s=bs) ?_ ?_
   ·rintro a1 t H e ⟨aq,ar,au,a6⟩ rfl;try dsimp only at X
    try simp only[bK,seval,U,O,a6]
    apply sp al X<;>intro _ X
    ·cases X;try simp only[bK,seval,U,O,a6]
     apply iu;refine⟨aq,ar,au,?_⟩;and_intros<;>first|rfl|(simp only[bK,seval,U,O,a6]<;>rfl)
    ·try simp only[bK,seval,U,O,a6]
     obtain⟨bt,bj,X⟩:=ae X;refine aB (fun s t H e=>match s with|(bk,a7,ax,ba,ay)=>∃aT:Nat,∃aU:Nat,∃aV:Nat,t 1=.int .i64 p1∧t 2=.ptr 2 aT 0∧t 4=.ptr 4 aU 0∧t 5=.ptr 5 aV 0∧t 6=.int .i64 aW∧t 7=.int .i64 bk∧H 2=some ⟨aT,55,[.sl false false Y.ak.ah.length (ab a8 Y.ak.ah),.sl false false Y.ak.aJ.length (ab dw Y.ak.aJ),.sl false false Y.ak.aA.length (ab (jk aG) Y.ak.aA),.sl false false Y.aK.length (ab dV Y.aK),.sl false false Y.az.length (ab (eI .i64) Y.az)],false,false,false⟩∧H 4=some ⟨aU,42,[.int .i64 0,.sl true true 0 [],.int .i64 0,.sl true true 0 []],false,false,false⟩∧H 5=some ⟨aV,42,[.int .i64 a7,.sl false false ax.length (ab (eI .i64) ax),.int .i64 ba,.sl false false ay.length (ab (eI .i64) ay)],false,false,false⟩) (fun o x t H e=>match o with|(aE,aj,aF,ao)=>x=.exit 2∧∃aI:Nat,∃aL:Nat,∃aM:Nat,t 1=.int .i64 p1∧t 2=.ptr 2 aI 0∧t 4=.ptr 4 aL 0∧t 5=.ptr 5 aM 0∧t 6=.int .i64 aW∧H 2=some ⟨aI,55,[.sl false false Y.ak.ah.length (ab a8 Y.ak.ah),.sl false false Y.ak.aJ.length (ab dw Y.ak.aJ),.sl false false Y.ak.aA.length (ab (jk aG) Y.ak.aA),.sl false false Y.aK.length (ab dV Y.aK),.sl false false Y.az.length (ab (eI .i64) Y.az)],false,false,false⟩∧H 4=some ⟨aL,42,[.int .i64 0,.sl true true 0 [],.int .i64 0,.sl true true 0 []],false,false,false⟩∧H 5=some ⟨aM,42,[.int .i64 aE,.sl false false aj.length (ab (eI .i64) aj),.int .i64 aF,.sl false false ao.length (ab (eI .i64) ao)],false,false,false⟩) bj ?_ ?_ ?_
     ·refine⟨aq,ar,au,?_⟩;and_intros<;>first|rfl|(simp only[bK,seval,U,O,a6]<;>rfl)
     ·rintro⟨bk,a7,ax,ba,ay⟩ t H e ⟨aT,aU,aV,Ze⟩ c X;simp only[kQ]at X;try simp only[bK,seval,U,O,Ze]
      apply sp al X<;>intro _ X
      ·obtain⟨bx,bl,X⟩:=ae X;have ad:=bo dw bl;simp only[bZ]at ad;try simp only[bK,seval,U,O,Ze,ad]
       apply sp al X<;>intro _ X
       ·obtain⟨bz,bm,X⟩:=ae X;have aN:=bo (jk aG) bm;simp only[bZ]at aN;obtain⟨bB,bn,X⟩:=ae X;have aO:=bo aG bn;simp only[bZ]at aO;obtain⟨bC,bp,X⟩:=ae X;have aP:=bo dV bp;simp only[bZ]at aP;obtain⟨bD,bb,X⟩:=ae X;obtain⟨bF,bc,X⟩:=ae X;try simp only[bK,seval,U,O,Ze,ad,aN,aO,aP,bb,bc]
        refine bJ (by kernel_rfl) ?_;obtain⟨bG,bf,X⟩:=ae X;cases X;try simp only[bK,seval,U,O,Ze,ad,aN,aO,aP,bb,bc,bf]
        apply iu;refine⟨aT,aU,aV,?_⟩;and_intros<;>first|rfl|(simp only[bK,seval,U,O,Ze,ad,aN,aO,aP,bb,bc,bf]<;>rfl)
       ·cases X;try simp only[bK,seval,U,O,Ze,ad]
        apply iu;refine⟨aT,aU,aV,?_⟩;and_intros<;>first|rfl|(simp only[bK,seval,U,O,Ze,ad]<;>rfl)
      ·cases X;try simp only[bK,seval,U,O,Ze]
       apply jv;refine⟨rfl,⟨aT,aU,aV,?_⟩⟩;and_intros<;>first|rfl|(simp only[bK,seval,U,O,Ze]<;>rfl)
     ·rintro x t H e hx;rcases bt with⟨aE,aj,aF,ao⟩;dsimp only at hx X;obtain⟨rfl,⟨aI,aL,aM,bq⟩⟩:=hx;cases X;try simp only[bK,seval,U,O,bq]
      apply iu;refine⟨aI,aL,aM,?_⟩;and_intros<;>first|rfl|(simp only[bK,seval,U,O,bq]<;>rfl)
   ·clear X;have X:=bh;try simp only[bK,seval,U,Za,O]
    apply sp aR X<;>intro _ X
    ·cases X;try simp only[bK,seval,U,Za,O]
     rw[an];refine⟨_,rfl,?_⟩;refine⟨aX,aQ,aS,?_⟩;and_intros<;>first|rfl|(simp only[bK,seval,U,Za,O]<;>rfl)
    ·have O:=bo a8 bd;simp only[bZ]at O;cases X;try simp only[bK,seval,U,Za,O,O]
     rw[an];refine⟨_,rfl,?_⟩;refine⟨aX,aQ,aS,?_⟩;and_intros<;>first|rfl|(simp only[bK,seval,U,Za,O,O]<;>rfl)
  ·cases X;try simp only[bK,seval,U,Za]
   apply jv;refine⟨rfl,⟨aQ,aS,?_⟩⟩;and_intros<;>first|rfl|(simp only[bK,seval,U,Za]<;>rfl)
 ·rintro x t H e hx;rcases br with⟨aC,ag,aD,ai⟩;dsimp only at hx X;obtain⟨rfl,⟨aY,aZ,bu⟩⟩:=hx;cases X;try simp only[bK,seval,U,bu]
def Cc (l:Option (D×Row)) (d:List D):=dW (dS (bC nW)) (fun x:bP=>iL x) (fun r:Bool =>.clean (.bool r)) l d
def pn:Env:=(Am.ext (Am.ext (Am.ext (Am.ext (Am.ext (Am.ext (Am.ext (Am.ext (Am.ext (Am.ext (Am.ext (Am.ext bm 7 false rC) 8 false uM) 10 false fX) 12 false oL) 15 false eB) 17 false gW) 18 false kB) 25 false gi) 26 false kA) 27 false fh) 28 false rB) 29 false gT)
theorem Bv:bH prog pn:=((((((((((((bH.none.add OE false).add Rk false).add sh false).add Iq false).add oa false).add ub false).add AX false).add sk false).add AW false).add p9 false).add OD false).add tY false)
theorem ax:type_of% (ai @w<|ai @sh8<|ai @rC.eq_1<|ai @VZ<|ai @uM.eq_1<|ai @fX.eq_1<|ai @oL.eq_1<|ai @BK<|ai @eB.eq_1<|ai @rf<|ai @gW.eq_1<|ai @abj<|ai @kB.eq_1<|ai @FE<|ai @gi.eq_1<|ai @kA.eq_1<|ai @fh.eq_1<|ai @abh<|ai @rB.eq_1<|ai @gT.eq_1<|@pn.eq_1):=⟨@w,@sh8,@rC.eq_1,@VZ,@uM.eq_1,@fX.eq_1,@oL.eq_1,@BK,@eB.eq_1,@rf,@gW.eq_1,@abj,@kB.eq_1,@FE,@gi.eq_1,@kA.eq_1,@fh.eq_1,@abh,@rB.eq_1,@gT.eq_1,@pn.eq_1⟩
theorem BC:bW prog 4 Cc:=bW.gN (mode := .clean) tok Bv mixed func4 (by kernel_rfl) (fun _ _=>rfl) (fun _=>by kernel_rfl) fun p0 r Z=>by
 replace Z:iL p0=some r:=Z;apply aH rfl ntmps4 results4;simp only[gR];unfold iL at Z;obtain⟨r1,O,Z⟩:=ae Z;obtain⟨r2,U,Z⟩:=ae Z;try simp only[ax,seval,O,U]
 apply sp al Z<;>intro _ Z
 ·cases Z;try simp only[ax,seval,O,U]
 ·obtain⟨r4,X,Z⟩:=ae Z;obtain⟨r5,Y,Z⟩:=ae Z;try simp only[ax,seval,O,U,X,Y]
  apply sp al Z<;>intro _ Z
  ·try simp only[ax,seval,O,U,X,Y]
   obtain⟨o7,bR,Z⟩:=ae Z;refine bA 0 (fun s t H e=>match s with|bF=>t 2=.bool bF) (fun s=>s=o7) ?_ ?_
   ·rintro bF t H e bS rfl;try dsimp only at Z
    cases Z;try simp only[ax,seval,O,U,X,Y,bS]
   ·clear Z;have Z:=bR;try simp only[ax,seval,O,U,X,Y]
    apply sp eJ Z<;>intro _ Z
    ·try simp only[ax,seval,O,U,X,Y]
     apply sp eJ Z<;>intro _ Z
     ·try simp only[ax,seval,O,U,X,Y]
      apply sp eJ Z<;>intro _ Z
      ·cases Z;try simp only[ax,seval,O,U,X,Y]
       rw[an];refine⟨_,rfl,?_⟩;refine ?_;all_goals first|rfl|(simp only[ax,seval,O,U,X,Y]<;>rfl)
      ·cases Z;try simp only[ax,seval,O,U,X,Y]
       rw[an];refine⟨_,rfl,?_⟩;refine ?_;all_goals first|rfl|(simp only[ax,seval,O,U,X,Y]<;>rfl)
     ·cases Z;try simp only[ax,seval,O,U,X,Y]
      rw[an];refine⟨_,rfl,?_⟩;refine ?_;all_goals first|rfl|(simp only[ax,seval,O,U,X,Y]<;>rfl)
    ·cases Z;try simp only[ax,seval,O,U,X,Y]
     rw[an];refine⟨_,rfl,?_⟩;refine ?_;all_goals first|rfl|(simp only[ax,seval,O,U,X,Y]<;>rfl)
  ·try simp only[ax,seval,O,U,X,Y]
   obtain⟨bT,bK,Z⟩:=ae Z;refine bA 0 (fun s t H e=>match s with|bl=>∃aP:Nat,∃aQ:Nat,t 1=.ptr 1 aP 0∧t 3=.bool r1∧t 6=.ptr 6 aQ 0∧t 63=.bool bl∧H 1=some ⟨aP,25,[.sl false false p0.au.length (ab (eI .i64) p0.au),.sl false false p0.ao.length (ab b6 p0.ao)],false,false,false⟩∧H 6=some ⟨aQ,28,[.int .i64 r5.1.az,.sl false false r5.1.aN.length (ab bB r5.1.aN)],false,false,false⟩) (fun s=>s=bT) ?_ ?_
   ·rintro bl t H e ⟨aP,aQ,bz⟩ rfl;try dsimp only at Z
    try simp only[ax,seval,O,U,X,Y,bz]
    apply sp al Z<;>intro _ Z
    ·cases Z;try simp only[ax,seval,O,U,X,Y,bz]
    ·try simp only[ax,seval,O,U,X,Y,bz]
     obtain⟨bU,bL,Z⟩:=ae Z;refine aB (fun s t H e=>match s with|bc=>∃bC:Nat,∃bD:Nat,t 1=.ptr 1 bC 0∧t 3=.bool r1∧t 6=.ptr 6 bD 0∧t 8=.int .i64 bc∧H 1=some ⟨bC,25,[.sl false false p0.au.length (ab (eI .i64) p0.au),.sl false false p0.ao.length (ab b6 p0.ao)],false,false,false⟩∧H 6=some ⟨bD,28,[.int .i64 r5.1.az,.sl false false r5.1.aN.length (ab bB r5.1.aN)],false,false,false⟩) (fun o x t H e=>match o with|(.inl _)=>x=.exit 0∧t 3=.bool r1|(.inr r)=>x=.ret∧fF .clean tab none [.tmp 2] ⟨t,EH H,e⟩=some (.clean (.bool r),none)) bL ?_ ?_ ?_
     ·refine⟨aP,aQ,?_⟩;and_intros<;>first|rfl|(simp only[ax,seval,O,U,X,Y,bz]<;>rfl)
     ·rintro bc t H e ⟨bC,bD,Zc⟩ c Z;simp only[kv]at Z;try simp only[ax,seval,O,U,X,Y,Zc]
      apply sp al Z<;>intro _ Z
      ·obtain⟨b1,bG,Z⟩:=ae Z;have aa:=bo (eI .i64) bG;simp only[bZ]at aa;obtain⟨b2,ad,Z⟩:=ae Z;try simp only[ax,seval,O,U,X,Y,Zc,aa,ad]
       obtain⟨bV,bM,Z⟩:=ae Z;refine aB (fun s t H e=>match s with|(aS,bm,aI,bn,aL)=>∃bp:Nat,∃bq:Nat,∃br:Nat,t 1=.ptr 1 bp 0∧t 3=.bool r1∧t 6=.ptr 6 bq 0∧t 8=.int .i64 bc∧t 9=.ptr 9 br 0∧t 10=.int .i64 aS∧H 1=some ⟨bp,25,[.sl false false p0.au.length (ab (eI .i64) p0.au),.sl false false p0.ao.length (ab b6 p0.ao)],false,false,false⟩∧H 6=some ⟨bq,28,[.int .i64 r5.1.az,.sl false false r5.1.aN.length (ab bB r5.1.aN)],false,false,false⟩∧H 9=some ⟨br,42,[.int .i64 bm,.sl false false aI.length (ab (eI .i64) aI),.int .i64 bn,.sl false false aL.length (ab (eI .i64) aL)],false,false,false⟩) (fun o x t H e=>match o with|(aT,av,aU,aw)=>x=.exit 2∧∃aV:Nat,∃aW:Nat,∃bs:Nat,t 1=.ptr 1 aV 0∧t 3=.bool r1∧t 6=.ptr 6 aW 0∧t 8=.int .i64 bc∧t 9=.ptr 9 bs 0∧H 1=some ⟨aV,25,[.sl false false p0.au.length (ab (eI .i64) p0.au),.sl false false p0.ao.length (ab b6 p0.ao)],false,false,false⟩∧H 6=some ⟨aW,28,[.int .i64 r5.1.az,.sl false false r5.1.aN.length (ab bB r5.1.aN)],false,false,false⟩∧H 9=some ⟨bs,42,[.int .i64 aT,.sl false false av.length (ab (eI .i64) av),.int .i64 aU,.sl false false aw.length (ab (eI .i64) aw)],false,false,false⟩) bM ?_ ?_ ?_
       ·refine⟨bC,bD,e+1,?_⟩;and_intros<;>first|rfl|(simp only[ax,seval,O,U,X,Y,Zc,aa,ad]<;>rfl)
       ·rintro⟨aS,bm,aI,bn,aL⟩ t H e ⟨bp,bq,br,Zg⟩ c Z;simp only[gD]at Z;try simp only[ax,seval,O,U,X,Y,aa,ad,Zg]
        apply sp al Z<;>intro _ Z
        ·obtain⟨aj,bN,Z⟩:=ae Z;have ag:=bo b6 bN;simp only[bZ]at ag;try simp only[ax,seval,O,U,X,Y,aa,ad,Zg,ag]
         obtain⟨bX,bO,Z⟩:=ae Z;refine aB (fun s t H e=>match s with|(bH,bt,aM,bu,aO)=>∃bd:Nat,∃bf:Nat,∃bh:Nat,∃aD:Nat,t 1=.ptr 1 bd 0∧t 3=.bool r1∧t 6=.ptr 6 bf 0∧t 8=.int .i64 bc∧t 9=.ptr 9 bh 0∧t 10=.int .i64 aS∧t 11=.ptr 11 aD 0∧t 12=.int .i64 bH∧H 1=some ⟨bd,25,[.sl false false p0.au.length (ab (eI .i64) p0.au),.sl false false p0.ao.length (ab b6 p0.ao)],false,false,false⟩∧H 6=some ⟨bf,28,[.int .i64 r5.1.az,.sl false false r5.1.aN.length (ab bB r5.1.aN)],false,false,false⟩∧H 9=some ⟨bh,42,[.int .i64 bt,.sl false false aM.length (ab (eI .i64) aM),.int .i64 bu,.sl false false aO.length (ab (eI .i64) aO)],false,false,false⟩∧H 11=some ⟨aD,55,[.sl false false aj.ak.ah.length (ab a8 aj.ak.ah),.sl false false aj.ak.aJ.length (ab dw aj.ak.aJ),.sl false false aj.ak.aA.length (ab (jk aG) aj.ak.aA),.sl false false aj.aK.length (ab dV aj.aK),.sl false false aj.az.length (ab (eI .i64) aj.az)],false,false,false⟩) (fun o x t H e=>match o with|(aX,ay,aZ,aC)=>x=.exit 4∧∃a1:Nat,∃a6:Nat,∃a7:Nat,t 1=.ptr 1 a1 0∧t 3=.bool r1∧t 6=.ptr 6 a6 0∧t 8=.int .i64 bc∧t 9=.ptr 9 a7 0∧t 10=.int .i64 aS∧H 1=some ⟨a1,25,[.sl false false p0.au.length (ab (eI .i64) p0.au),.sl false false p0.ao.length (ab b6 p0.ao)],false,false,false⟩∧H 6=some ⟨a6,28,[.int .i64 r5.1.az,.sl false false r5.1.aN.length (ab bB r5.1.aN)],false,false,false⟩∧H 9=some ⟨a7,42,[.int .i64 aX,.sl false false ay.length (ab (eI .i64) ay),.int .i64 aZ,.sl false false aC.length (ab (eI .i64) aC)],false,false,false⟩) bO ?_ ?_ ?_
         ·refine⟨bp,bq,br,e+1,?_⟩;and_intros<;>first|rfl|(simp only[ax,seval,O,U,X,Y,aa,ad,Zg,ag]<;>rfl)
         ·rintro⟨bH,bt,aM,bu,aO⟩ t H e ⟨bd,bf,bh,aD,Zi⟩ c Z;simp only[gE]at Z;try simp only[ax,seval,O,U,X,Y,aa,ad,ag,Zi]
          apply sp al Z<;>intro _ Z
          ·obtain⟨b3,bI,Z⟩:=ae Z;have ai:=bo dV bI;simp only[bZ]at ai;try simp only[ax,seval,O,U,X,Y,aa,ad,ag,Zi,ai]
           apply sp al Z<;>intro _ Z
           ·have ai:=bo dV bI;simp only[bZ]at ai;obtain⟨b4,ba,Z⟩:=ae Z;obtain⟨b5,bb,Z⟩:=ae Z;try simp only[ax,seval,O,U,X,Y,aa,ad,ag,Zi,ai,ai,ba,bb]
            refine bJ (by kernel_rfl) ?_;obtain⟨b7,bw,Z⟩:=ae Z;obtain⟨b8,bx,Z⟩:=ae Z;try simp only[ax,seval,O,U,X,Y,aa,ad,ag,Zi,ai,ai,ba,bb,bw,bx]
            refine bJ (by kernel_rfl) ?_;cases Z;try simp only[ax,seval,O,U,X,Y,aa,ad,ag,Zi,ai,ai,ba,bb,bw,bx]
            apply iu;refine⟨bd,bf,bh,aD,?_⟩;and_intros<;>first|rfl|(simp only[ax,seval,O,U,X,Y,aa,ad,ag,Zi,ai,ai,ba,bb,bw,bx]<;>rfl)
           ·cases Z;try simp only[ax,seval,O,U,X,Y,aa,ad,ag,Zi,ai]
            apply iu;refine⟨bd,bf,bh,aD,?_⟩;and_intros<;>first|rfl|(simp only[ax,seval,O,U,X,Y,aa,ad,ag,Zi,ai]<;>rfl)
          ·cases Z;try simp only[ax,seval,O,U,X,Y,aa,ad,ag,Zi]
           apply jv;refine⟨rfl,⟨bd,bf,bh,?_⟩⟩;and_intros<;>first|rfl|(simp only[ax,seval,O,U,X,Y,aa,ad,ag,Zi]<;>rfl)
         ·rintro x t H e hx;rcases bX with⟨aX,ay,aZ,aC⟩;dsimp only at hx Z;obtain⟨rfl,⟨a1,a6,a7,bQ⟩⟩:=hx;cases Z;try simp only[ax,seval,O,U,X,Y,aa,ad,ag,bQ]
          apply iu;refine⟨a1,a6,a7,?_⟩;and_intros<;>first|rfl|(simp only[ax,seval,O,U,X,Y,aa,ad,ag,bQ]<;>rfl)
        ·cases Z;try simp only[ax,seval,O,U,X,Y,aa,ad,Zg]
         apply jv;refine⟨rfl,⟨bp,bq,br,?_⟩⟩;and_intros<;>first|rfl|(simp only[ax,seval,O,U,X,Y,aa,ad,Zg]<;>rfl)
       ·rintro x t H e hx;rcases bV with⟨aT,av,aU,aw⟩;dsimp only at hx Z;obtain⟨rfl,⟨aV,aW,bs,bj⟩⟩:=hx;obtain⟨b9,aq,Z⟩:=ae Z;have aa:=bo (eI .i64) bG;simp only[bZ]at aa;obtain⟨cb,ar,Z⟩:=ae Z;try simp only[ax,seval,O,U,X,Y,aa,ad,bj,aq,aa,ar]
        refine bJ (by kernel_rfl) ?_;obtain⟨cd,aE,Z⟩:=ae Z;try simp only[ax,seval,O,U,X,Y,aa,ad,bj,aq,aa,ar,aE]
        apply sp al Z<;>intro _ Z
        ·cases Z;try simp only[ax,seval,O,U,X,Y,aa,ad,bj,aq,aa,ar,aE]
         refine rq ⟨rfl,?_⟩;try simp only[ax,seval,O,U,X,Y,aa,ad,bj,aq,aa,ar,aE]
        ·cases Z;try simp only[ax,seval,O,U,X,Y,aa,ad,bj,aq,aa,ar,aE]
         apply iu;refine⟨aV,aW,?_⟩;and_intros<;>first|rfl|(simp only[ax,seval,O,U,X,Y,aa,ad,bj,aq,aa,ar,aE]<;>rfl)
      ·cases Z;try simp only[ax,seval,O,U,X,Y,Zc]
       apply jv;refine⟨rfl,?_⟩;and_intros<;>first|rfl|(simp only[ax,seval,O,U,X,Y,Zc]<;>rfl)
     ·rintro x t H e hx;rcases bU with _|rc
      ·dsimp only at hx Z;obtain⟨rfl,bY⟩:=hx;cases Z;try simp only[ax,seval,O,U,X,Y,bY]
      ·dsimp only at hx Z;obtain⟨rfl,hE⟩:=hx;cases Z;try simp only[bg,aY,bk,cK,cJ,ca,cc]
       exact hE
   ·clear Z;have Z:=bK;try simp only[ax,seval,O,U,X,Y]
    apply sp aR Z<;>intro _ Z
    ·cases Z;try simp only[ax,seval,O,U,X,Y]
     rw[an];refine⟨_,rfl,?_⟩;refine⟨0,4,?_⟩;and_intros<;>first|rfl|(simp only[ax,seval,O,U,X,Y]<;>rfl)
    ·obtain⟨cf,aF,Z⟩:=ae Z;try simp only[ax,seval,O,U,X,Y,aF]
     apply sp aR Z<;>intro _ Z
     ·cases Z;try simp only[ax,seval,O,U,X,Y,aF]
      rw[an];refine⟨_,rfl,?_⟩;refine⟨0,4,?_⟩;and_intros<;>first|rfl|(simp only[ax,seval,O,U,X,Y,aF]<;>rfl)
     ·cases Z;try simp only[ax,seval,O,U,X,Y,aF]
      rw[an];refine⟨_,rfl,?_⟩;refine⟨0,4,?_⟩;and_intros<;>first|rfl|(simp only[ax,seval,O,U,X,Y,aF]<;>rfl)
end Go.Proofs.YtoioidmblipblaaGreat.Am
namespace Go.Proofs.YtoioidmblipblaaGreat.Am
open Go.ChangeShapes Go.WideShapes Go.ChangeAt Go.RowKit Go.Proofs.YtoioidmblipblaaGreat.P
set_option maxRecDepth 100000
theorem Tryz.own:ownKnob Tryz.prog.godebug=none:=by kernel_rfl
theorem Tryz.laidOut:laidOutB prog=true:=by kernel_rfl
theorem F2 (n:Nat):Bj tab (n+1) 3 (eI .i64) (fun x=>(Lit.int .i64 x).wf=true):=opI UG rfl rfl
theorem YR (n:Nat):Bj tab (n+2) 22 (jk (eI .i64)) (fun x=>(x.length*8<=140737488351232∧∀y∈x,(Lit.int .i64 y).wf=true)):=Rl KD rfl rfl (by rw[UG];rfl) (F2 n)
def wZ (x:fI):Prop:=(Lit.int .i64 x.bf).wf=true∧((Lit.int .i64 x.aQ).wf=true∧((Lit.int .i64 x.aF).wf=true))
theorem aep (n:Nat):Bj tab (n+2) 95 a8 (fun x=>wZ x):=opS (g:=fun y=>fI.mk y.1 y.2.1 y.2.2) KJ rfl rfl (fun _=>rfl) (zF (F2 n) rfl (zF (F2 n) rfl (OK (F2 n))))
theorem aeh (n:Nat):Bj tab (n+3) 48 (jk a8) (fun x=>(x.length*24<=140737488351232∧∀y∈x,wZ y)):=Rl Ry rfl rfl (by rw[KJ];rfl) (aep n)
theorem afS (n:Nat):Bj tab (n+1) 9 XS (fun x=>x.size<=140737488351232):=aed ZQ rfl rfl
def Ke (x:s6):Prop:=(Lit.int .i64 x.bf).wf=true∧((Lit.int .i64 x.aQ).wf=true∧((Lit.int .i64 x.aF).wf=true∧(x.Dw.size<=140737488351232)))
theorem aeq (n:Nat):Bj tab (n+2) 97 dw (fun x=>Ke x):=opS (g:=fun y=>s6.mk y.1 y.2.1 y.2.2.1 y.2.2.2) KK rfl rfl (fun _=>rfl) (zF (F2 n) rfl (zF (F2 n) rfl (zF (F2 n) rfl (OK (afS n)))))
theorem aei (n:Nat):Bj tab (n+3) 49 (jk dw) (fun x=>(x.length*40<=140737488351232∧∀y∈x,Ke y)):=Rl Rz rfl rfl (by rw[KK];rfl) (aeq n)
def Kd (x:aD):Prop:=(Lit.int .i64 x.aj).wf=true∧((x.aa.length*8<=140737488351232∧∀y∈x.aa,(Lit.int .i64 y).wf=true))
theorem acp (n:Nat):Bj tab (n+3) 40 dI (fun x=>Kd x):=opS (g:=fun y=>aD.mk y.1 y.2) Rx rfl rfl (fun _=>rfl) (zF (F2 (n+1)) rfl (OK (YR n)))
def yl (x:aw):Prop:=Kd x.cu∧(Kd x.ct)
theorem aeg (n:Nat):Bj tab (n+4) 42 aG (fun x=>yl x):=opS (g:=fun y=>aw.mk y.1 y.2) KF rfl rfl (fun _=>rfl) (zF (acp n) rfl (OK (acp n)))
theorem aeo (n:Nat):Bj tab (n+5) 85 (jk aG) (fun x=>(x.length*64<=140737488351232∧∀y∈x,yl y)):=Rl KI rfl rfl (by rw[KF];rfl) (aeg n)
theorem aej (n:Nat):Bj tab (n+6) 50 (jk (jk aG)) (fun x=>(x.length*24<=140737488351232∧∀y∈x,(y.length*64<=140737488351232∧∀z∈y,yl z))):=Rl RA rfl rfl (by rw[KI];rfl) (aeo n)
def OA (x:fH):Prop:=(x.ah.length*24<=140737488351232∧∀y∈x.ah,wZ y)∧((x.aJ.length*40<=140737488351232∧∀y∈x.aJ,Ke y)∧((x.aA.length*24<=140737488351232∧∀y∈x.aA,(y.length*64<=140737488351232∧∀z∈y,yl z))))
theorem aek (n:Nat):Bj tab (n+7) 52 wy (fun x=>OA x):=opS (g:=fun y=>fH.mk y.1 y.2.1 y.2.2) RB rfl rfl (fun _=>rfl) (zF (aeh (n+3)) rfl (zF (aei (n+3)) rfl (OK (aej n))))
def Kf (x:fA):Prop:=(Lit.int .i64 x.bU).wf=true∧((Lit.int .i64 x.aF).wf=true)
theorem aen (n:Nat):Bj tab (n+2) 57 dV (fun x=>Kf x):=opS (g:=fun y=>fA.mk y.1 y.2) KH rfl rfl (fun _=>rfl) (zF (F2 n) rfl (OK (F2 n)))
theorem ael (n:Nat):Bj tab (n+3) 53 (jk dV) (fun x=>(x.length*16<=140737488351232∧∀y∈x,Kf y)):=Rl RD rfl rfl (by rw[KH];rfl) (aen n)
def Er (x:bE):Prop:=OA x.ak∧((x.aK.length*16<=140737488351232∧∀y∈x.aK,Kf y)∧((x.az.length*8<=140737488351232∧∀y∈x.az,(Lit.int .i64 y).wf=true)))
theorem aem (n:Nat):Bj tab (n+8) 55 b6 (fun x=>Er x):=opS (g:=fun y=>bE.mk y.1 y.2.1 y.2.2) KG rfl rfl (fun _=>rfl) (zF (aek n) rfl (zF (ael (n+4)) rfl (OK (YR (n+5)))))
theorem aee (n:Nat):Bj tab (n+9) 23 (jk b6) (fun x=>(x.length*120<=140737488351232∧∀y∈x,Er y)):=Rl Rw rfl rfl (by rw[KG];rfl) (aem n)
def vb (x:bP):Prop:=(x.au.length*8<=140737488351232∧∀y∈x.au,(Lit.int .i64 y).wf=true)∧((x.ao.length*120<=140737488351232∧∀y∈x.ao,Er y))
theorem aef (n:Nat):Bj tab (n+10) 25 nW (fun x=>vb x):=opS (g:=fun y=>bP.mk y.1 y.2) KE rfl rfl (fun _=>rfl) (zF (YR (n+7)) rfl (OK (aee n)))
theorem w8:acF tab 11 [25] (dS (bC nW)) (fun x=>vb x):=(afR (oaS KE rfl (aef 1)))
theorem vE (law:∀(a0:bP),(vb a0)->P.iL a0=some true) (os:Os) (started:os.Started) (H:Type) (enc:TypeId×Value->H) :
  ReturnsInHanded {} Tryz.checked os 4 .any (Rows.netWholeSpec.pre6 enc prog Tryz.f4 Rows.netWholeRow.domain false) (Rows.netWholeSpec.post enc prog Tryz.f4 false true false false):=by
 refine Rq (C:=Tryz.checked) (T:=tab) (tb:=4) (n:=11) tok Tryz.own started (by kernel_rfl) func4
  (ChangeSpec.witness6 (enc:=enc) (C:=Tryz.checked) false ⟨#[],#[.agg #[.slice none 0 0,.slice none 0 0]],[]⟩ 8 (by kernel_rfl) (by kernel_rfl) (by kernel_rfl) (by kernel_rfl)) Tryz.laidOut (by kernel_rfl) rfl (by kernel_rfl) rfl (fun ds O =>?_) (fun X U hs =>?_)
 ·rw[Tryz.params4]at O
  match ds,O with
  | [d0],_=>exact⟨rfl,rfl,rfl⟩
 ·rw[Tryz.params4]at U hs;exact ac1 w8 BC (fun x Y=>law x Y) X U hs
theorem wV (law:∀(a0:bP),(vb a0)->P.iL a0=some true):Rows.NetWholeSaid :=
 OpenClaim.holds_of_wide 4 Tryz.f4 rfl rfl rfl rfl rfl rfl rfl ⟨rfl,rfl,rfl,rfl,rfl⟩ rfl rfl rfl rfl rfl (by kernel_rfl) func4 (by kernel_rfl)
  (of_decide_eq_true (by kernel_rfl)) (by unfold Func.isWrapper;first|(rw[if_pos (by decide +kernel)];kernel_rfl)|(rw[if_neg (by decide +kernel)];exact⟨rfl,rfl⟩))
  (fun os started H enc _=>vE law os started H enc)
end Go.Proofs.YtoioidmblipblaaGreat.Am
namespace Go.Proofs.YtoioidmblipblaaGreat.P
open Go.RowKit
def aP (n:Nat):List Int:=if h:n=0 then [] else ((n % 1048576:Nat):Int)::aP (n / 1048576)
termination_by n
decreasing_by omega
def dv:List Int->Int
 | []=>0
 | d::l=>d+1048576*dv l
def Dg (l:List Int):Prop:=∀d∈l,0<=d∧d<1048576
def pw (i:Nat):Int:=1048576 ^ i
theorem mM:pw 0=1:=rfl
theorem ik (i:Nat):pw (i+1)=1048576*pw i:=by unfold pw;rw[Int.pow_succ,aiS]
theorem my (i:Nat):0<pw i:=by unfold pw;exact Int.pow_pos (by decide)
theorem EV (i j:Nat):pw (i+j)=pw i*pw j:=by unfold pw;rw[Int.pow_add]
theorem qg {i j:Nat} (h:i<=j):pw i<=pw j:=by
 obtain⟨k,rfl⟩:=Nat.le.dest h;rw[EV];have h1:=my i;have h2:=my k
 calc pw i=pw i*1:=by rw[aiT]
  _<=pw i*pw k:=aiU (by omega) (by omega)
theorem cw:aP 0=[]:=by rw[aP];rfl
theorem mR {n:Nat} (h:n≠0):aP n=((n % 1048576:Nat):Int)::aP (n / 1048576):=by rw[aP,dif_neg h]
theorem qQ {n:Nat} : aP n=[]↔n=0:=by
 constructor
 ·intro h;rcases agU n with O|O
  ·exact O
  ·rw[mR (by omega)]at h;cases h
 ·rintro rfl;exact cw
theorem bu:∀n:Nat,dv (aP n)=n:=by
 intro n
 induction n using Nat.strongRecOn with
 | _ n U =>
  rcases agU n with O|O
  ·subst O;rw[cw];rfl
  ·rw[mR (by omega),dv,U (n / 1048576) (by omega)];omega
theorem cz:∀n:Nat,Dg (aP n):=by
 intro n
 induction n using Nat.strongRecOn with
 | _ n X =>
  rcases agU n with U|U
  ·subst U;rw[cw];intro d O;cases O
  ·rw[mR (by omega)];intro d O;rcases agJ.1 O with rfl|O
   ·omega
   ·exact X (n / 1048576) (by omega) d O
theorem Dg.nil:Dg []:=fun d O=>by cases O
theorem Dg.cons {d:Int} {l:List Int} (h:Dg (d::l)):(0<=d∧d<1048576)∧Dg l:=⟨h d aid,fun x O=>h x (aie _ O)⟩
theorem Dg.mk {d:Int} {l:List Int} (h:0<=d∧d<1048576) (U:Dg l):Dg (d::l):=fun x O=>by
 rcases agJ.1 O with rfl|O
 ·exact h
 ·exact U x O
theorem Dg.append {l m:List Int} (h:Dg l) (hm:Dg m):Dg (l++m):=fun x O=>(ahU.1 O).elim (h x) (hm x)
theorem Dg.take {l:List Int} (h:Dg l) (n:Nat):Dg (l.take n):=fun x O=>h x (ahm O)
theorem Dg.drop {l:List Int} (h:Dg l) (n:Nat):Dg (l.drop n):=fun x O=>h x (ahk O)
theorem Dg.rep (n:Nat):Dg (List.replicate n 0):=fun x O=>by rw[(List.mem_replicate.1 O).2];omega
theorem Dg.set {l:List Int} (h:Dg l) (i:Nat) {x:Int} (U:0<=x∧x<1048576):Dg (l.set i x):=fun y O=>by
 rcases List.mem_or_eq_of_mem_set O with O|rfl
 ·exact h y O
 ·exact U
theorem Dg.get {l:List Int} (h:Dg l) {i:Nat} (O:i<l.length):0<=l[i]∧l[i]<1048576:=h _ (agO O)
theorem cO:∀ {l:List Int},Dg l->0<=dv l
 | [],_=>Int.le_refl _
 | d::l,h=>by
  have h1:=h.cons;have:=cO h1.2;simp only[dv];omega
theorem nI:∀ {l:List Int},Dg l->dv l<pw l.length
 | [],_=>by simp[dv,mM]
 | d::l,h=>by
  have h1:=h.cons;have:=nI h1.2;simp only[dv,List.length_cons,ik];omega
end Go.Proofs.YtoioidmblipblaaGreat.P
