import Derived.Test.YtoioidmblipblaaGreatJe
set_option linter.unusedSimpArgs false
set_option linter.unusedVariables false
noncomputable section
open Go.Proofs.Tryz
namespace Go.Proofs.YtoioidmblipblaaGreat.Am
open Go.RowKit Go.Proofs.YtoioidmblipblaaGreat.P
set_option maxRecDepth 100000
set_option maxHeartbeats 4000000
theorem Ei:bX prog 120 lX:=bX.gP (mode := .clean) tok QG mixed func120 (by kernel_rfl) (fun _ _=>rfl) (fun _=>by kernel_rfl) fun⟨p0,p1⟩ r U=>by
 replace U:rL p0 p1=some r:=U;apply aG rfl ntmps120 results120;simp only[gQ];unfold rL at U;obtain⟨r1,ah,U⟩:=ae U;try simp only[ba,seval,-Int.reduceToNat,ah]
 apply sp ak U<;>intro _ U
 ·obtain⟨r3,ca,U⟩:=ae U;cases U;try simp only[ba,seval,-Int.reduceToNat,ah,ca]
 ·try simp only[ba,seval,-Int.reduceToNat,ah]
  apply sp ak U<;>intro _ U
  ·obtain⟨x5,cb,U⟩:=ae U;have bG:=bn (eI .i64) cb;simp only[bS]at bG;obtain⟨r6,cc,U⟩:=ae U;have i7:=mA ([r6.2]);simp only[bg,bS,List.length_cons,List.length_nil,ahE,Nat.reduceAdd,aiY]at i7;obtain⟨r8,cd,U⟩:=ae U;cases U;try simp only[ba,seval,-Int.reduceToNat,ah,bG,cc,i7,cd]
  ·try simp only[ba,seval,-Int.reduceToNat,ah]
   obtain⟨cf,bI,U⟩:=ae U;refine aC (fun s t H e=>match s with|bJ=>t 0=.sl false false p0.length (ab (eI .i64) p0)∧t 1=.sl false false p1.length (ab (eI .i64) p1)∧t 8=.int .i64 bJ) (fun o x t H e=>match o with|az=>x=.exit 0∧t 0=.sl false false p0.length (ab (eI .i64) p0)∧t 1=.sl false false p1.length (ab (eI .i64) p1)∧t 8=.int .i64 az) bI ?_ ?_ ?_
   ·and_intros<;>first|rfl|(simp only[ba,seval,-Int.reduceToNat,ah]<;>rfl)
   ·rintro bJ t H e Za c U;simp only[rM]at U;obtain⟨cq,bK,U⟩:=ae U;have aH:=bn (eI .i64) bK;simp only[bS]at aH;try simp only[ba,seval,-Int.reduceToNat,ah,Za,aH]
    apply sp ak U<;>intro _ U
    ·cases U;try simp only[ba,seval,-Int.reduceToNat,ah,Za,aH]
     apply iS;and_intros<;>first|rfl|(simp only[ba,seval,-Int.reduceToNat,ah,Za,aH]<;>rfl)
    ·cases U;try simp only[ba,seval,-Int.reduceToNat,ah,Za,aH]
     apply ka;refine⟨rfl,?_⟩;and_intros<;>first|rfl|(simp only[ba,seval,-Int.reduceToNat,ah,Za,aH]<;>rfl)
   ·rintro x t H e hx;obtain⟨az,rfl⟩:∃z,z=cf:=⟨_,rfl⟩;dsimp only at hx U;obtain⟨rfl,a6⟩:=hx;have i14:=ve p0 ([az]);simp only[bg,bS,List.length_cons,List.length_nil,ahE,Nat.reduceAdd,aiY]at i14;obtain⟨cr,Y,U⟩:=ae U;obtain⟨ct,bL,U⟩:=ae U;obtain⟨Z,X,aa,ad⟩:=iG (eI .i64) bL;simp only[bS]at X;have i18:=ve p1 ([az]);simp only[bg,bS,List.length_cons,List.length_nil,ahE,Nat.reduceAdd,aiY]at i18;obtain⟨ay,ag,U⟩:=ae U;try simp only[ba,seval,-Int.reduceToNat,ah,a6,i14,Y,Z,X,aa,ad,i18,ag]
    obtain⟨cg,bM,U⟩:=ae U;refine jA 0 (fun s t H e=>match s with|a8=>∃aV:Nat,∃aK:Nat,t 8=.int .i64 az∧t 9=.buf 9 aV 1 0 (a8).length∧t 10=.buf 10 aK 1 0 (ay).length∧H 9=some ⟨aV,3,ab (eI .i64) a8,false,true,false⟩∧H 10=some ⟨aK,3,ab (eI .i64) ay,false,true,false⟩) (fun s=>s=cg) ?_ ?_
    ·rintro a8 t H e ⟨aV,aK,bN⟩ rfl;try dsimp only at U
     obtain⟨cu,bO,U⟩:=ae U;obtain⟨aj,al,ao,ai,aq⟩:=mk_one (eI .i64) bO;simp only[bS]at ai;try simp only[ba,seval,-Int.reduceToNat,ah,i14,Y,Z,X,aa,ad,i18,ag,bN,aj,al,ao,ai,aq]
     obtain⟨ch,bP,U⟩:=ae U;refine aC (fun s t H e=>match s with|(aB,aD,aA)=>∃bb:Nat,∃aW:Nat,∃aO:Nat,∃bc:Bool,t 8=.int .i64 az∧t 9=.buf 9 bb 1 0 (aD).length∧t 10=.buf 10 aW 1 0 (ay).length∧t 11=.int .i64 ((ay).length:Int)∧t 12=.buf 12 aO 1 0 (aA).length∧t 13=.int .i64 aB∧H 9=some ⟨bb,3,ab (eI .i64) aD,false,true,false⟩∧H 10=some ⟨aW,3,ab (eI .i64) ay,bc,true,false⟩∧H 12=some ⟨aO,3,ab (eI .i64) aA,false,true,false⟩) (fun o x t H e=>match o with|(bd,aS)=>x=.exit 2∧∃bf:Nat,∃aT:Nat,t 8=.int .i64 az∧t 9=.buf 9 bf 1 0 (bd).length∧t 12=.buf 12 aT 1 0 (aS).length∧H 9=some ⟨bf,3,ab (eI .i64) bd,false,true,false⟩∧H 12=some ⟨aT,3,ab (eI .i64) aS,false,true,false⟩) bP ?_ ?_ ?_
     ·refine⟨aV,aK,e+1,false,?_⟩;and_intros<;>first|rfl|(simp only[ba,seval,-Int.reduceToNat,ah,i14,Y,Z,X,aa,ad,i18,ag,bN,aj,al,ao,ai,aq]<;>rfl)
     ·rintro⟨aB,aD,aA⟩ t H e ⟨bb,aW,aO,bc,Zc⟩ c U;simp only[rN]at U;try simp only[ba,seval,-Int.reduceToNat,ah,i14,Y,Z,X,aa,ad,i18,ag,aj,al,ao,ai,aq,Zc]
      apply sp ak U<;>intro _ U
      ·obtain⟨cv,bQ,U⟩:=ae U;have ar:=bn (eI .i64) bQ;simp only[bS]at ar;obtain⟨cw,bR,U⟩:=ae U;have av:=BU bR;obtain⟨cx,bT,U⟩:=ae U;have au:=bn (eI .i64) bT;simp only[bS]at au;try simp only[ba,seval,-Int.reduceToNat,ah,i14,Y,Z,X,aa,ad,i18,ag,aj,al,ao,ai,aq,Zc,ar,av,au]
       refine bH (by kernel_rfl) ?_;obtain⟨cy,bh,U⟩:=ae U;have O:=bn (eI .i64) bh;simp only[bS]at O;obtain⟨cz,bU,U⟩:=ae U;have aw:=rU bU;have O:=bn (eI .i64) bh;simp only[bS]at O;obtain⟨cA,bV,U⟩:=ae U;have ax:=vb bV;try simp only[ba,seval,-Int.reduceToNat,ah,i14,Y,Z,X,aa,ad,i18,ag,aj,al,ao,ai,aq,Zc,ar,av,au,O,aw,O,ax]
       refine bH (by kernel_rfl) ?_;try simp only[ba,seval,-Int.reduceToNat,ah,i14,Y,Z,X,aa,ad,i18,ag,aj,al,ao,ai,aq,Zc,ar,av,au,O,aw,O,ax]
       obtain⟨cj,bW,U⟩:=ae U;refine aC (fun s t H e=>match s with|(bj,bk)=>∃a7:Nat,∃aI:Nat,∃aJ:Nat,∃aP:Bool,t 8=.int .i64 az∧t 9=.buf 9 a7 1 0 (aD).length∧t 10=.buf 10 aI 1 0 (ay).length∧t 11=.int .i64 ((ay).length:Int)∧t 12=.buf 12 aJ 1 0 (aA).length∧t 13=.int .i64 aB∧t 15=.int .i64 bj∧t 16=.int .i64 bk∧H 9=some ⟨a7,3,ab (eI .i64) aD,false,true,false⟩∧H 10=some ⟨aI,3,ab (eI .i64) ay,aP,true,false⟩∧H 12=some ⟨aJ,3,ab (eI .i64) aA,false,true,false⟩) (fun o x t H e=>match o with|aU=>x=.exit 4∧∃aX:Nat,∃aL:Nat,∃aM:Nat,∃bl:Bool,t 8=.int .i64 az∧t 9=.buf 9 aX 1 0 (aD).length∧t 10=.buf 10 aL 1 0 (ay).length∧t 11=.int .i64 ((ay).length:Int)∧t 12=.buf 12 aM 1 0 (aA).length∧t 13=.int .i64 aB∧t 15=.int .i64 aU∧H 9=some ⟨aX,3,ab (eI .i64) aD,false,true,false⟩∧H 10=some ⟨aL,3,ab (eI .i64) ay,bl,true,false⟩∧H 12=some ⟨aM,3,ab (eI .i64) aA,false,true,false⟩) bW ?_ ?_ ?_
       ·refine⟨bb,aW,aO,bc,?_⟩;and_intros<;>first|rfl|(simp only[ba,seval,-Int.reduceToNat,ah,i14,Y,Z,X,aa,ad,i18,ag,aj,al,ao,ai,aq,Zc,ar,av,au,O,aw,O,ax]<;>rfl)
       ·rintro⟨bj,bk⟩ t H e ⟨a7,aI,aJ,aP,Zg⟩ c U;simp only[rO]at U;try simp only[ba,seval,-Int.reduceToNat,ah,i14,Y,Z,X,aa,ad,i18,ag,aj,al,ao,ai,aq,ar,av,au,O,aw,O,ax,Zg]
        obtain⟨ck,bY,U⟩:=ae U;refine aad 0 (fun s t H e=>match s with|aY=>∃aQ:Nat,∃aE:Nat,∃aF:Nat,∃aN:Bool,t 8=.int .i64 az∧t 9=.buf 9 aQ 1 0 (aD).length∧t 10=.buf 10 aE 1 0 (ay).length∧t 11=.int .i64 ((ay).length:Int)∧t 12=.buf 12 aF 1 0 (aA).length∧t 13=.int .i64 aB∧t 15=.int .i64 bj∧t 16=.int .i64 bk∧t 137=.bool aY∧H 9=some ⟨aQ,3,ab (eI .i64) aD,false,true,false⟩∧H 10=some ⟨aE,3,ab (eI .i64) ay,aN,true,false⟩∧H 12=some ⟨aF,3,ab (eI .i64) aA,false,true,false⟩) (fun s=>s=ck) ?_ ?_
        ·rintro aY t H e ⟨aQ,aE,aF,aN,bm⟩ rfl;try dsimp only at U
         try simp only[ba,seval,-Int.reduceToNat,ah,i14,Y,Z,X,aa,ad,i18,ag,aj,al,ao,ai,aq,ar,av,au,O,aw,O,ax,bm]
         apply sp ak U<;>intro _ U
         ·have O:=bn (eI .i64) bh;simp only[bS]at O;cases U;try simp only[ba,seval,-Int.reduceToNat,ah,i14,Y,Z,X,aa,ad,i18,ag,aj,al,ao,ai,aq,ar,av,au,O,aw,O,ax,bm,O]
          apply iS;refine⟨aQ,aE,aF,aN,?_⟩;and_intros<;>first|rfl|(simp only[ba,seval,-Int.reduceToNat,ah,i14,Y,Z,X,aa,ad,i18,ag,aj,al,ao,ai,aq,ar,av,au,O,aw,O,ax,bm,O]<;>rfl)
         ·cases U;try simp only[ba,seval,-Int.reduceToNat,ah,i14,Y,Z,X,aa,ad,i18,ag,aj,al,ao,ai,aq,ar,av,au,O,aw,O,ax,bm]
          apply ka;refine⟨rfl,⟨aQ,aE,aF,aN,?_⟩⟩;and_intros<;>first|rfl|(simp only[ba,seval,-Int.reduceToNat,ah,i14,Y,Z,X,aa,ad,i18,ag,aj,al,ao,ai,aq,ar,av,au,O,aw,O,ax,bm]<;>rfl)
        ·clear U;have U:=bY;try simp only[ba,seval,-Int.reduceToNat,ah,i14,Y,Z,X,aa,ad,i18,ag,aj,al,ao,ai,aq,ar,av,au,O,aw,O,ax,Zg]
         apply sp pG U<;>intro _ U
         ·try simp only[ba,seval,-Int.reduceToNat,ah,i14,Y,Z,X,aa,ad,i18,ag,aj,al,ao,ai,aq,ar,av,au,O,aw,O,ax,Zg]
          refine bH (by kernel_rfl) ?_;cases U;try simp only[ba,seval,-Int.reduceToNat,ah,i14,Y,Z,X,aa,ad,i18,ag,aj,al,ao,ai,aq,ar,av,au,O,aw,O,ax,Zg]
          rw[an];refine⟨_,rfl,?_⟩;refine⟨a7,aI,aJ,aP,?_⟩;and_intros<;>first|rfl|(simp only[ba,seval,-Int.reduceToNat,ah,i14,Y,Z,X,aa,ad,i18,ag,aj,al,ao,ai,aq,ar,av,au,O,aw,O,ax,Zg]<;>rfl)
         ·try simp only[ba,seval,-Int.reduceToNat,ah,i14,Y,Z,X,aa,ad,i18,ag,aj,al,ao,ai,aq,ar,av,au,O,aw,O,ax,Zg]
          apply sp UH U<;>intro _ U
          ·obtain⟨cB,bZ,U⟩:=ae U;have aZ:=bn (eI .i64) bZ;simp only[bS]at aZ;obtain⟨cC,b1,U⟩:=ae U;have bF:=BU b1;obtain⟨cD,b2,U⟩:=ae U;have a1:=bn (eI .i64) b2;simp only[bS]at a1;try simp only[ba,seval,-Int.reduceToNat,ah,i14,Y,Z,X,aa,ad,i18,ag,aj,al,ao,ai,aq,ar,av,au,O,aw,O,ax,Zg,aZ,bF,a1]
           refine bH (by kernel_rfl) ?_;cases U;try simp only[ba,seval,-Int.reduceToNat,ah,i14,Y,Z,X,aa,ad,i18,ag,aj,al,ao,ai,aq,ar,av,au,O,aw,O,ax,Zg,aZ,bF,a1]
           rw[an];refine⟨_,rfl,?_⟩;refine⟨a7,aI,aJ,aP,?_⟩;and_intros<;>first|rfl|(simp only[ba,seval,-Int.reduceToNat,ah,i14,Y,Z,X,aa,ad,i18,ag,aj,al,ao,ai,aq,ar,av,au,O,aw,O,ax,Zg,aZ,bF,a1]<;>rfl)
          ·try simp only[ba,seval,-Int.reduceToNat,ah,i14,Y,Z,X,aa,ad,i18,ag,aj,al,ao,ai,aq,ar,av,au,O,aw,O,ax,Zg]
           refine bH (by kernel_rfl) ?_;cases U;try simp only[ba,seval,-Int.reduceToNat,ah,i14,Y,Z,X,aa,ad,i18,ag,aj,al,ao,ai,aq,ar,av,au,O,aw,O,ax,Zg]
           rw[an];refine⟨_,rfl,?_⟩;refine⟨a7,aI,aJ,aP,?_⟩;and_intros<;>first|rfl|(simp only[ba,seval,-Int.reduceToNat,ah,i14,Y,Z,X,aa,ad,i18,ag,aj,al,ao,ai,aq,ar,av,au,O,aw,O,ax,Zg]<;>rfl)
       ·rintro x t H e hx;obtain⟨aU,rfl⟩:∃z,z=cj:=⟨_,rfl⟩;dsimp only at hx U;obtain⟨rfl,⟨aX,aL,aM,bl,b3⟩⟩:=hx;obtain⟨cm,aR,U⟩:=ae U;obtain⟨bu,bw,bx,cp,bo⟩:=adx (eI .i64) aR;simp only[bS]at bo;have i89:=EI (ab (eI .i64) (aD.take (aB).toNat)) (ab (eI .i64) (aD.drop (IntKind.i64.wrap ((IntKind.i64.wrap (aB+((ay).length:Int)))+1)).toNat)) cm ay aU;simp only[abA,abB (eI .i64) aR,abC (eI .i64) aR,acE aR,bS,Int.toNat_zero,aiM,Nat.sub_zero]at i89;obtain⟨b4,bp,U⟩:=ae U;have b5:=zr bp;have bz:=aan aR b5;obtain⟨cE,bA,U⟩:=ae U;have bq:=bn (eI .i64) bA;simp only[bS]at bq;have bt:=fK (eI .i64) (x':=b4.2) (fo:=0) (cs:=[.int .i64 b4.2]) bA rfl (aiG rfl);simp only[bS,Nat.add_zero]at bt;have br:=bt;simp only[putCells,List.length_cons,List.length_nil,ahE,Nat.reduceAdd]at br;cases U;try simp only[ba,seval,-Int.reduceToNat,ah,i14,Y,Z,X,aa,ad,i18,ag,aj,al,ao,ai,aq,ar,av,au,O,aw,O,ax,b3,bu,bw,bx,bo,i89,bp,bz,bq,bt,br]
        apply iS;refine⟨aX,aL,aM,true,?_⟩;and_intros<;>first|rfl|(simp only[ba,seval,-Int.reduceToNat,ah,i14,Y,Z,X,aa,ad,i18,ag,aj,al,ao,ai,aq,ar,av,au,O,aw,O,ax,b3,bu,bw,bx,bo,i89,bp,bz,bq,bt,br]<;>rfl)
      ·cases U;try simp only[ba,seval,-Int.reduceToNat,ah,i14,Y,Z,X,aa,ad,i18,ag,aj,al,ao,ai,aq,Zc]
       apply ka;refine⟨rfl,⟨bb,aO,?_⟩⟩;and_intros<;>first|rfl|(simp only[ba,seval,-Int.reduceToNat,ah,i14,Y,Z,X,aa,ad,i18,ag,aj,al,ao,ai,aq,Zc]<;>rfl)
     ·rintro x t H e hx;rcases ch with⟨bd,aS⟩;dsimp only at hx U;obtain⟨rfl,⟨bf,aT,cn⟩⟩:=hx;obtain⟨cF,b6,U⟩:=ae U;obtain⟨cG,b7,U⟩:=ae U;obtain⟨cH,b8,U⟩:=ae U;cases U;try simp only[ba,seval,-Int.reduceToNat,ah,i14,Y,Z,X,aa,ad,i18,ag,aj,al,ao,ai,aq,cn,b6,b7,b8]
    ·clear U;have U:=bM;try simp only[ba,seval,-Int.reduceToNat,ah,a6,i14,Y,Z,X,aa,ad,i18,ag]
     apply sp ak U<;>intro _ U
     ·obtain⟨cI,b9,U⟩:=ae U;obtain⟨bB,bs,bD,bE⟩:=iG (eI .i64) b9;simp only[bS]at bs;cases U;try simp only[ba,seval,-Int.reduceToNat,ah,a6,i14,Y,Z,X,aa,ad,i18,ag,bB,bs,bD,bE]
      rw[an];refine⟨_,rfl,?_⟩;refine⟨e+1+1,e,?_⟩;and_intros<;>first|rfl|(simp only[ba,seval,-Int.reduceToNat,ah,a6,i14,Y,Z,X,aa,ad,i18,ag,bB,bs,bD,bE]<;>rfl)
     ·cases U;try simp only[ba,seval,-Int.reduceToNat,ah,a6,i14,Y,Z,X,aa,ad,i18,ag]
      rw[an];refine⟨_,rfl,?_⟩;refine⟨e,e,?_⟩;and_intros<;>first|rfl|(simp only[ba,seval,-Int.reduceToNat,ah,a6,i14,Y,Z,X,aa,ad,i18,ag]<;>rfl)
def lV (l:Option (D×Row)) (d:List D):=dV (ie (bD dF) (dT (bD dF))) (fun x:aB×aB=>pR x.1 x.2) (fun r:aB×Int =>.clean (.tup [.agg [.int .i64 r.1.aj,.sl false false r.1.aa.length (ab (eI .i64) r.1.aa)],.int .i64 r.2])) l d
theorem fw (X:Bool) (U:Int) (O:(List Int)):ke none [.bool X,.agg [.int .i64 U,.sl false false O.length (ab (eI .i64) O)]]=(eC X (aB.mk U O)).map fun r:aB×Int=>(.clean (.tup [.agg [.int .i64 r.1.aj,.sl false false r.1.aa.length (ab (eI .i64) r.1.aa)],.int .i64 r.2]),none):=cP _ _ _ (X,(aB.mk U O))
def y4:Env:=(Am.keep 6 (Am.ext (Am.ext (Am.ext (Am.ext (Am.ext bm 79 false bt) 87 false cg) 88 false il) 89 false ke) 120 false lX))
theorem QB:bG prog y4:=(bG.keep (((((bG.none.add fV false).add iV false).add kv false).add pr false).add Ei false) 6)
theorem eD:type_of% (ai @w<|ai @rq<|ai @bt.eq_1<|ai @BR<|ai @cg.eq_1<|ai @fE<|ai @fw<|ai @BS<|ai @lX.eq_1<|@y4.eq_1):=⟨@w,@rq,@bt.eq_1,@BR,@cg.eq_1,@fE,@fw,@BS,@lX.eq_1,@y4.eq_1⟩
theorem Ef:bX prog 80 lV:=bX.gP (mode := .clean) tok QB mixed func80 (by kernel_rfl) (fun _ _=>rfl) (fun _=>by kernel_rfl) fun⟨p0,p1⟩ r O=>by
 replace O:pR p0 p1=some r:=O;apply aG rfl ntmps80 results80;simp only[gQ];unfold pR at O;obtain⟨r1,U,O⟩:=ae O;try simp only[eD,seval,U]
 obtain⟨o2,az,O⟩:=ae O;refine bB 0 (fun s t H e=>match s with|Z=>∃ad:Nat,∃ag:Nat,∃Y:Nat,t 2=.ptr 2 ad 0∧t 3=.ptr 3 ag 0∧t 4=.ptr 4 Y 0∧t 17=.bool Z∧H 2=some ⟨ad,40,[.int .i64 p0.aj,.sl false false p0.aa.length (ab (eI .i64) p0.aa)],false,false,false⟩∧H 3=some ⟨ag,40,[.int .i64 p1.aj,.sl false false p1.aa.length (ab (eI .i64) p1.aa)],false,false,false⟩∧H 4=some ⟨Y,40,[.int .i64 0,.sl true true 0 []],false,false,false⟩) (fun s=>s=o2) ?_ ?_
 ·rintro Z t H e ⟨ad,ag,Y,ah⟩ rfl;try dsimp only at O
  try simp only[eD,seval,U,ah]
  apply sp ak O<;>intro _ O
  ·have i4:=fw false 0 ([]);simp only[bg,bS,List.length_cons,List.length_nil,ahE,Nat.reduceAdd,aiY]at i4;obtain⟨r5,aA,O⟩:=ae O;cases O;try simp only[eD,seval,U,ah,i4,aA]
  ·obtain⟨r6,X,O⟩:=ae O;try simp only[eD,seval,U,ah,X]
   refine bH (by kernel_rfl) ?_;try simp only[eD,seval,U,ah,X]
   obtain⟨o9,aB,O⟩:=ae O;refine aC (fun s t H e=>match s with|(au,av)=>∃ai:Nat,t 4=.ptr 4 ai 0∧t 6=.sl false false au.length (ab (eI .i64) au)∧t 7=.sl false false av.length (ab (eI .i64) av)∧H 4=some ⟨ai,40,[.int .i64 0,.sl true true 0 []],false,false,false⟩) (fun o x t H e=>match o with|al=>x=.exit 0∧∃ao:Nat,t 4=.ptr 4 ao 0∧t 6=.sl false false al.length (ab (eI .i64) al)∧H 4=some ⟨ao,40,[.int .i64 0,.sl true true 0 []],false,false,false⟩) aB ?_ ?_ ?_
   ·refine⟨Y,?_⟩;and_intros<;>first|rfl|(simp only[eD,seval,U,ah,X]<;>rfl)
   ·rintro⟨au,av⟩ t H e ⟨ai,Zb⟩ c O;simp only[oP]at O;try simp only[eD,seval,U,X,Zb]
    apply sp ak O<;>intro _ O
    ·obtain⟨aE,aq,O⟩:=ae O;cases O;try simp only[eD,seval,U,X,Zb,aq]
     apply iS;refine⟨ai,?_⟩;and_intros<;>first|rfl|(simp only[eD,seval,U,X,Zb,aq]<;>rfl)
    ·cases O;try simp only[eD,seval,U,X,Zb]
     apply ka;refine⟨rfl,⟨ai,?_⟩⟩;and_intros<;>first|rfl|(simp only[eD,seval,U,X,Zb]<;>rfl)
   ·rintro x t H e hx;obtain⟨al,rfl⟩:∃z,z=o9:=⟨_,rfl⟩;dsimp only at hx O;obtain⟨rfl,⟨ao,aD⟩⟩:=hx;obtain⟨aF,aw,O⟩:=ae O;obtain⟨aH,ax,O⟩:=ae O;obtain⟨aI,ay,O⟩:=ae O;cases O;try simp only[eD,seval,U,X,aD,aw,ax,ay]
 ·clear O;have O:=az;try simp only[eD,seval,U]
  apply sp aP O<;>intro _ O
  ·cases O;try simp only[eD,seval,U]
   rw[an];refine⟨_,rfl,?_⟩;refine⟨0,0,0,?_⟩;and_intros<;>first|rfl|(simp only[eD,seval,U]<;>rfl)
  ·obtain⟨aJ,ar,O⟩:=ae O;cases O;try simp only[eD,seval,U,ar]
   rw[an];refine⟨_,rfl,?_⟩;refine⟨0,0,0,?_⟩;and_intros<;>first|rfl|(simp only[eD,seval,U,ar]<;>rfl)
def uE (l:Option (D×Row)) (d:List D):=dV (dT (bD dF)) (fun x:aB=>uT x) (fun r:Int×Bool =>.clean (.tup [.int .i64 r.1,.bool r.2])) l d
def y5:Env:=(Am.ext bm 79 false bt)
theorem QC:bG prog y5:=(bG.none.add fV false)
theorem bq:type_of% (ai @w<|ai @rq<|ai @bt.eq_1<|@y5.eq_1):=⟨@w,@rq,@bt.eq_1,@y5.eq_1⟩
theorem Q7:bX prog 121 uE:=bX.gP (mode := .clean) tok QC mixed func121 (by kernel_rfl) (fun _ _=>rfl) (fun _=>by kernel_rfl) fun Y r U=>by
 replace U:uT Y=some r:=U;apply aG rfl ntmps121 results121;simp only[gQ];unfold uT at U;obtain⟨r1,O,U⟩:=ae U;try simp only[bq,seval,-Int.reduceToNat,O]
 obtain⟨o2,aI,U⟩:=ae U;refine bB 0 (fun s t H e=>match s with|aq=>∃ag:Nat,t 1=.ptr 1 ag 0∧t 15=.bool aq∧H 1=some ⟨ag,40,[.int .i64 Y.aj,.sl false false Y.aa.length (ab (eI .i64) Y.aa)],false,false,false⟩) (fun s=>s=o2) ?_ ?_
 ·rintro aq t H e ⟨ag,ay⟩ rfl;try dsimp only at U
  try simp only[bq,seval,-Int.reduceToNat,O,ay]
  apply sp ak U<;>intro _ U
  ·cases U;try simp only[bq,seval,-Int.reduceToNat,O,ay]
  ·try simp only[bq,seval,-Int.reduceToNat,O,ay]
   obtain⟨aJ,aA,U⟩:=ae U;refine aC (fun s t H e=>match s with|(az,ah)=>∃al:Nat,t 1=.ptr 1 al 0∧t 4=.int .u64 az∧t 17=.sl false false Y.aa.length (ab (eI .i64) Y.aa)∧t 18=.int .i64 (Y.aa.length:Int)∧t 19=.int .i64 ah∧H 1=some ⟨al,40,[.int .i64 Y.aj,.sl false false Y.aa.length (ab (eI .i64) Y.aa)],false,false,false⟩) (fun o x t H e=>match o with|(.inl ar)=>x=.exit 0∧∃Z:Nat,t 1=.ptr 1 Z 0∧t 4=.int .u64 ar∧H 1=some ⟨Z,40,[.int .i64 Y.aj,.sl false false Y.aa.length (ab (eI .i64) Y.aa)],false,false,false⟩|(.inr r)=>x=.ret∧fF .clean tab none [.tmp 2,.tmp 3] ⟨t,EH H,e⟩=some (.clean (.tup [.int .i64 r.1,.bool r.2]),none)) aA ?_ ?_ ?_
   ·refine⟨ag,?_⟩;and_intros<;>first|rfl|(simp only[bq,seval,-Int.reduceToNat,O,ay]<;>rfl)
   ·rintro⟨az,ah⟩ t H e ⟨al,Zb⟩ c U;simp only[rJ]at U;try simp only[bq,seval,-Int.reduceToNat,O,Zb]
    apply sp ak U<;>intro _ U
    ·obtain⟨aK,aB,U⟩:=ae U;have X:=bn (eI .i64) aB;simp only[bS]at X;try simp only[bq,seval,-Int.reduceToNat,O,Zb,X]
     obtain⟨aL,aD,U⟩:=ae U;refine bB 0 (fun s t H e=>match s with|au=>∃ai:Nat,t 1=.ptr 1 ai 0∧t 4=.int .u64 az∧t 5=.int .i64 ah∧t 6=.int .i64 aK∧t 17=.sl false false Y.aa.length (ab (eI .i64) Y.aa)∧t 18=.int .i64 (Y.aa.length:Int)∧t 19=.int .i64 ah∧t 29=.bool au∧H 1=some ⟨ai,40,[.int .i64 Y.aj,.sl false false Y.aa.length (ab (eI .i64) Y.aa)],false,false,false⟩) (fun s=>s=aL) ?_ ?_
     ·rintro au t H e ⟨ai,av⟩ rfl;try dsimp only at U
      try simp only[bq,seval,-Int.reduceToNat,O,X,av]
      apply sp ak U<;>intro _ U
      ·cases U;try simp only[bq,seval,-Int.reduceToNat,O,X,av]
       refine qH ⟨rfl,?_⟩;try simp only[bq,seval,-Int.reduceToNat,O,X,av]
      ·obtain⟨aN,aE,U⟩:=ae U;have aF:=BU aE;cases U;try simp only[bq,seval,-Int.reduceToNat,O,X,av,aF]
       apply iS;refine⟨ai,?_⟩;and_intros<;>first|rfl|(simp only[bq,seval,-Int.reduceToNat,O,X,av,aF]<;>rfl)
     ·clear U;have U:=aD;try simp only[bq,seval,-Int.reduceToNat,O,Zb,X]
      apply sp e7 U<;>intro _ U
      ·cases U;try simp only[bq,seval,-Int.reduceToNat,O,Zb,X]
       rw[an];refine⟨_,rfl,?_⟩;refine⟨al,?_⟩;and_intros<;>first|rfl|(simp only[bq,seval,-Int.reduceToNat,O,Zb,X]<;>rfl)
      ·cases U;try simp only[bq,seval,-Int.reduceToNat,O,Zb,X]
       rw[an];refine⟨_,rfl,?_⟩;refine⟨al,?_⟩;and_intros<;>first|rfl|(simp only[bq,seval,-Int.reduceToNat,O,Zb,X]<;>rfl)
    ·cases U;try simp only[bq,seval,-Int.reduceToNat,O,Zb]
     apply ka;refine⟨rfl,⟨al,?_⟩⟩;and_intros<;>first|rfl|(simp only[bq,seval,-Int.reduceToNat,O,Zb]<;>rfl)
   ·rintro x t H e hx;rcases aJ with ar|rb
    ·dsimp only at hx U;obtain⟨rfl,⟨Z,ao⟩⟩:=hx;try simp only[bq,seval,-Int.reduceToNat,O,ao]
     obtain⟨aM,aH,U⟩:=ae U;refine bB 0 (fun s t H e=>match s with|aw=>∃ax:Nat,t 1=.ptr 1 ax 0∧t 4=.int .u64 ar∧t 38=.bool aw∧H 1=some ⟨ax,40,[.int .i64 Y.aj,.sl false false Y.aa.length (ab (eI .i64) Y.aa)],false,false,false⟩) (fun s=>s=aM) ?_ ?_
     ·rintro aw t H e ⟨ax,ad⟩ rfl;try dsimp only at U
      try simp only[bq,seval,-Int.reduceToNat,O,ad]
      apply sp ak U<;>intro _ U
      ·cases U;try simp only[bq,seval,-Int.reduceToNat,O,ad]
      ·try simp only[bq,seval,-Int.reduceToNat,O,ad]
       apply sp e7 U<;>intro _ U
       ·try simp only[bq,seval,-Int.reduceToNat,O,ad]
        apply sp ak U<;>intro _ U
        ·cases U;try simp only[bq,seval,-Int.reduceToNat,O,ad]
        ·cases U;try simp only[bq,seval,-Int.reduceToNat,O,ad]
       ·cases U;try simp only[bq,seval,-Int.reduceToNat,O,ad]
     ·clear U;have U:=aH;try simp only[bq,seval,-Int.reduceToNat,O,ao]
      apply sp e7 U<;>intro _ U
      ·cases U;try simp only[bq,seval,-Int.reduceToNat,O,ao]
       rw[an];refine⟨_,rfl,?_⟩;refine⟨Z,?_⟩;and_intros<;>first|rfl|(simp only[bq,seval,-Int.reduceToNat,O,ao]<;>rfl)
      ·cases U;try simp only[bq,seval,-Int.reduceToNat,O,ao]
       rw[an];refine⟨_,rfl,?_⟩;refine⟨Z,?_⟩;and_intros<;>first|rfl|(simp only[bq,seval,-Int.reduceToNat,O,ao]<;>rfl)
    ·dsimp only at hx U;obtain⟨rfl,hE⟩:=hx;cases U;try simp only[bd,aX,bk,cJ,cI,ca,cc]
     exact hE
 ·clear U;have U:=aI;try simp only[bq,seval,-Int.reduceToNat,O]
  apply sp aP U<;>intro _ U
  ·cases U;try simp only[bq,seval,-Int.reduceToNat,O]
   rw[an];refine⟨_,rfl,?_⟩;refine⟨0,?_⟩;and_intros<;>first|rfl|(simp only[bq,seval,-Int.reduceToNat,O]<;>rfl)
  ·cases U;try simp only[bq,seval,-Int.reduceToNat,O]
   rw[an];refine⟨_,rfl,?_⟩;refine⟨0,?_⟩;and_intros<;>first|rfl|(simp only[bq,seval,-Int.reduceToNat,O]<;>rfl)
def rz (l:Option (D×Row)) (d:List D):=dV (dT (bD dF)) (fun x:aB=>qU x) (fun r:Bool =>.clean (.bool r)) l d
def wF:Env:=(Am.ext bm 121 false uE)
theorem ML:bG prog wF:=(bG.none.add Q7 false)
theorem xd:type_of% (ai @w<|ai @rq<|ai @uE.eq_1<|@wF.eq_1):=⟨@w,@rq,@uE.eq_1,@wF.eq_1⟩
theorem Oy:bX prog 81 rz:=bX.gP (mode := .clean) tok ML mixed func81 (by kernel_rfl) (fun _ _=>rfl) (fun _=>by kernel_rfl) fun X r O=>by
 replace O:qU X=some r:=O;apply aG rfl ntmps81 results81;simp only[gQ];unfold qU at O;obtain⟨Y,U,O⟩:=ae O;try simp only[xd,seval,U]
 apply sp e7 O<;>intro _ O
 ·cases O;try simp only[xd,seval,U]
 ·cases O;try simp only[xd,seval,U]
def bK (l:Option (D×Row)) (d:List D):=dV (dT (bD aF)) (fun x:aw=>dx x) (fun r:Bool =>.clean (.bool r)) l d
def rX:Env:=(Am.ext (Am.ext (Am.ext bm 79 false bt) 80 false lV) 81 false rz)
theorem FJ:bG prog rX:=(((bG.none.add fV false).add Ef false).add Oy false)
theorem dA:type_of% (ai @w<|ai @rq<|ai @bt.eq_1<|ai @yJ<|ai @lV.eq_1<|ai @rz.eq_1<|@rX.eq_1):=⟨@w,@rq,@bt.eq_1,@yJ,@lV.eq_1,@rz.eq_1,@rX.eq_1⟩
theorem gY:bX prog 47 bK:=bX.gP (mode := .clean) tok FJ mixed func47 (by kernel_rfl) (fun _ _=>rfl) (fun _=>by kernel_rfl) fun p0 r O=>by
 replace O:dx p0=some r:=O;apply aG rfl ntmps47 results47;simp only[gQ];unfold dx at O;obtain⟨r1,U,O⟩:=ae O;try simp only[dA,seval,U]
 obtain⟨o2,ah,O⟩:=ae O;refine bB 0 (fun s t H e=>match s with|X=>∃Y:Nat,t 1=.ptr 1 Y 0∧t 20=.bool X∧H 1=some ⟨Y,42,[.int .i64 p0.cv.aj,.sl false false p0.cv.aa.length (ab (eI .i64) p0.cv.aa),.int .i64 p0.cu.aj,.sl false false p0.cu.aa.length (ab (eI .i64) p0.cu.aa)],false,false,false⟩) (fun s=>s=o2) ?_ ?_
 ·rintro X t H e ⟨Y,Z⟩ rfl;try dsimp only at O
  try simp only[dA,seval,U,Z]
  apply sp ak O<;>intro _ O
  ·cases O;try simp only[dA,seval,U,Z]
  ·obtain⟨r4,ag,O⟩:=ae O;try simp only[dA,seval,U,Z,ag]
   apply sp e7 O<;>intro _ O
   ·obtain⟨r6,ai,O⟩:=ae O;cases O;try simp only[dA,seval,U,Z,ag,ai]
   ·cases O;try simp only[dA,seval,U,Z,ag]
 ·clear O;have O:=ah;try simp only[dA,seval,U]
  apply sp aP O<;>intro _ O
  ·cases O;try simp only[dA,seval,U]
   rw[an];refine⟨_,rfl,?_⟩;refine⟨0,?_⟩;and_intros<;>first|rfl|(simp only[dA,seval,U]<;>rfl)
  ·obtain⟨r8,ad,O⟩:=ae O;try simp only[dA,seval,U,ad]
   apply sp aP O<;>intro _ O
   ·cases O;try simp only[dA,seval,U,ad]
    rw[an];refine⟨_,rfl,?_⟩;refine⟨0,?_⟩;and_intros<;>first|rfl|(simp only[dA,seval,U,ad]<;>rfl)
   ·cases O;try simp only[dA,seval,U,ad]
    rw[an];refine⟨_,rfl,?_⟩;refine⟨0,?_⟩;and_intros<;>first|rfl|(simp only[dA,seval,U,ad]<;>rfl)
def dt (l:Option (D×Row)) (d:List D):=dV (dT (bD aF)) (fun x:aw=>ir x) (fun r:Int =>.clean (.int .i64 r)) l d
def tK:Env:=(Am.ext bm 47 false bK)
theorem JU:bG prog tK:=(bG.none.add gY false)
theorem uz:type_of% (ai @w<|ai @BT<|ai @bK.eq_1<|@tK.eq_1):=⟨@w,@BT,@bK.eq_1,@tK.eq_1⟩
theorem lG:bX prog 48 dt:=bX.gP (mode := .clean) tok JU mixed func48 (by kernel_rfl) (fun _ _=>rfl) (fun _=>by kernel_rfl) fun X r O=>by
 replace O:ir X=some r:=O;apply aG rfl ntmps48 results48;simp only[gQ];unfold ir at O;obtain⟨Y,U,O⟩:=ae O;try simp only[uz,seval,U]
 apply sp ak O<;>intro _ O
 ·cases O;try simp only[uz,seval,U]
 ·cases O;try simp only[uz,seval,U]
def uF (l:Option (D×Row)) (d:List D):=dV (ie (bD dF) (dT (bD dF))) (fun x:aB×aB=>uU x.1 x.2) (fun r:aB×Int =>.clean (.tup [.agg [.int .i64 r.1.aj,.sl false false r.1.aa.length (ab (eI .i64) r.1.aa)],.int .i64 r.2])) l d
def y6:Env:=(Am.ext (Am.ext (Am.ext (Am.ext bm 79 false bt) 87 false cg) 89 false ke) 126 false ox)
theorem QD:bG prog y6:=((((bG.none.add fV false).add iV false).add pr false).add Ej false)
theorem iY:type_of% (ai @w<|ai @rq<|ai @bt.eq_1<|ai @BR<|ai @cg.eq_1<|ai @fw<|ai @BS<|ai @ox.eq_1<|@y6.eq_1):=⟨@w,@rq,@bt.eq_1,@BR,@cg.eq_1,@fw,@BS,@ox.eq_1,@y6.eq_1⟩
theorem Q8:bX prog 93 uF:=bX.gP (mode := .clean) tok QD mixed func93 (by kernel_rfl) (fun _ _=>rfl) (fun _=>by kernel_rfl) fun⟨p0,p1⟩ r O=>by
 replace O:uU p0 p1=some r:=O;apply aG rfl ntmps93 results93;simp only[gQ];unfold uU at O;obtain⟨r1,U,O⟩:=ae O;try simp only[iY,seval,U]
 obtain⟨o2,aq,O⟩:=ae O;refine bB 0 (fun s t H e=>match s with|X=>∃Y:Nat,∃Z:Nat,∃ad:Nat,t 2=.ptr 2 Y 0∧t 3=.ptr 3 Z 0∧t 4=.ptr 4 ad 0∧t 13=.bool X∧H 2=some ⟨Y,40,[.int .i64 p0.aj,.sl false false p0.aa.length (ab (eI .i64) p0.aa)],false,false,false⟩∧H 3=some ⟨Z,40,[.int .i64 p1.aj,.sl false false p1.aa.length (ab (eI .i64) p1.aa)],false,false,false⟩∧H 4=some ⟨ad,40,[.int .i64 0,.sl true true 0 []],false,false,false⟩) (fun s=>s=o2) ?_ ?_
 ·rintro X t H e ⟨Y,Z,ad,ag⟩ rfl;try dsimp only at O
  try simp only[iY,seval,U,ag]
  apply sp ak O<;>intro _ O
  ·have i4:=fw false 0 ([]);simp only[bg,bS,List.length_cons,List.length_nil,ahE,Nat.reduceAdd,aiY]at i4;obtain⟨r5,ar,O⟩:=ae O;cases O;try simp only[iY,seval,U,ag,i4,ar]
  ·obtain⟨r6,ai,O⟩:=ae O;obtain⟨r7,al,O⟩:=ae O;obtain⟨r8,ao,O⟩:=ae O;try simp only[iY,seval,U,ag,ai,al,ao]
   refine bH (by kernel_rfl) ?_;cases O;try simp only[iY,seval,U,ag,ai,al,ao]
 ·clear O;have O:=aq;try simp only[iY,seval,U]
  apply sp aP O<;>intro _ O
  ·cases O;try simp only[iY,seval,U]
   rw[an];refine⟨_,rfl,?_⟩;refine⟨0,0,0,?_⟩;and_intros<;>first|rfl|(simp only[iY,seval,U]<;>rfl)
  ·obtain⟨au,ah,O⟩:=ae O;cases O;try simp only[iY,seval,U,ah]
   rw[an];refine⟨_,rfl,?_⟩;refine⟨0,0,0,?_⟩;and_intros<;>first|rfl|(simp only[iY,seval,U,ah]<;>rfl)
def fu (l:Option (D×Row)) (d:List D):=dV (ie (bD dF) (dT (bD dF))) (fun x:aB×aB=>cZ x.1 x.2) (fun r:aB =>.clean (.agg [.int .i64 r.aj,.sl false false r.aa.length (ab (eI .i64) r.aa)])) l d
def rY:Env:=(Am.ext bm 93 false uF)
theorem FK:bG prog rY:=(bG.none.add Q8 false)
theorem KR:type_of% (ai @w<|ai @yJ<|ai @uF.eq_1<|@rY.eq_1):=⟨@w,@yJ,@uF.eq_1,@rY.eq_1⟩
theorem qF:bX prog 57 fu:=bX.gP (mode := .clean) tok FK mixed func57 (by kernel_rfl) (fun _ _=>rfl) (fun _=>by kernel_rfl) fun⟨X,Y⟩ r O=>by
 replace O:cZ X Y=some r:=O;apply aG rfl ntmps57 results57;simp only[gQ];unfold cZ at O;obtain⟨Z,U,O⟩:=ae O;cases O;try simp only[KR,seval,U]
def xi (l:Option (D×Row)) (d:List D):=dV (dT (mS (eI .i64))) (fun x:(List Int)=>tq x) (fun r:Int =>.clean (.int .i64 r)) l d
theorem Ii:bX prog 75 xi:=bX.gP (mode := .clean) tok bG.none mixed func75 (by kernel_rfl) (fun _ _=>rfl) (fun _=>by kernel_rfl) fun Z r O=>by
 replace O:tq Z=some r:=O;apply aG rfl ntmps75 results75;simp only[gQ];unfold tq at O;try simp only[w,seval]
 obtain⟨o4,aa,O⟩:=ae O;refine aC (fun s t H e=>match s with|Y=>t 3=.int .i64 0∧t 6=.sl false false Z.length (ab (eI .i64) Z)∧t 7=.int .i64 (Z.length:Int)∧t 8=.int .i64 Y) (fun o x t H e=>match o with|(.inl _)=>x=.exit 0∧t 3=.int .i64 0|(.inr r)=>x=.ret∧fF .clean tab none [.tmp 2] ⟨t,EH H,e⟩=some (.clean (.int .i64 r),none)) aa ?_ ?_ ?_
 ·and_intros<;>first|rfl|(simp only[w,seval]<;>rfl)
 ·rintro Y t H e X c O;simp only[uY]at O;try simp only[w,seval,X]
  apply sp ak O<;>intro _ O
  ·obtain⟨x6,ad,O⟩:=ae O;have U:=bn (eI .i64) ad;simp only[bS]at U;try simp only[w,seval,X,U]
   apply sp ak O<;>intro _ O
   ·cases O;try simp only[w,seval,X,U]
    refine qH ⟨rfl,?_⟩;try simp only[w,seval,X,U]
   ·cases O;try simp only[w,seval,X,U]
    apply iS;and_intros<;>first|rfl|(simp only[w,seval,X,U]<;>rfl)
  ·cases O;try simp only[w,seval,X]
   apply ka;refine⟨rfl,?_⟩;and_intros<;>first|rfl|(simp only[w,seval,X]<;>rfl)
 ·rintro x t H e hx;rcases o4 with _|ra
  ·dsimp only at hx O;obtain⟨rfl,ag⟩:=hx;cases O;try simp only[w,seval,ag]
  ·dsimp only at hx O;obtain⟨rfl,hE⟩:=hx;cases O;try simp only[bd,aX,bk,cJ,cI,ca,cc]
   exact hE
def ow (l:Option (D×Row)) (d:List D):=dV (ie (mS (eI .i64)) (dT (mS (eI .i64)))) (fun x:(List Int)×(List Int)=>pS x.1 x.2) (fun r:(List Int) =>.clean (.sl false false r.length (ab (eI .i64) r))) l d
def y8:Env:=(Am.ext bm 125 false fc)
theorem QF:bG prog y8:=(bG.none.add nh false)
theorem dC:type_of% (ai @w<|ai @mA<|@y8.eq_1):=⟨@w,@mA,@y8.eq_1⟩
theorem Eh:bX prog 90 ow:=bX.gP (mode := .clean) tok QF mixed func90 (by kernel_rfl) (fun _ _=>rfl) (fun _=>by kernel_rfl) fun⟨p0,p1⟩ r U=>by
 replace U:pS p0 p1=some r:=U;apply aG rfl ntmps90 results90;simp only[gQ];unfold pS at U;try simp only[dC,seval,-Int.reduceToNat]
 obtain⟨o1,aR,U⟩:=ae U;refine jA 0 (fun s t H e=>match s with|(O,ah)=>t 0=.sl false false O.length (ab (eI .i64) O)∧t 1=.sl false false ah.length (ab (eI .i64) ah)) (fun s=>s=o1) ?_ ?_
 ·rintro⟨O,ah⟩ t H e aH rfl;try dsimp only at U
  obtain⟨x2,aS,U⟩:=ae U;obtain⟨Y,Z,aa,X,ad⟩:=mk_one (eI .i64) aS;simp only[bS]at X;try simp only[dC,seval,-Int.reduceToNat,aH,Y,Z,aa,X,ad]
  obtain⟨aT,aI,U⟩:=ae U;refine aC (fun s t H e=>match s with|(aJ,aj,au)=>∃ar:Nat,t 0=.sl false false O.length (ab (eI .i64) O)∧t 1=.sl false false ah.length (ab (eI .i64) ah)∧t 5=.buf 5 ar 1 0 (au).length∧t 6=.int .i64 aJ∧t 20=.sl false false O.length (ab (eI .i64) O)∧t 21=.int .i64 (O.length:Int)∧t 22=.int .i64 aj∧H 5=some ⟨ar,3,ab (eI .i64) au,false,true,false⟩) (fun o x t H e=>match o with|(ai,al)=>x=.exit 0∧∃av:Nat,t 0=.sl false false O.length (ab (eI .i64) O)∧t 5=.buf 5 av 1 0 (al).length∧t 6=.int .i64 ai∧H 5=some ⟨av,3,ab (eI .i64) al,false,true,false⟩) aI ?_ ?_ ?_
  ·refine⟨e,?_⟩;and_intros<;>first|rfl|(simp only[dC,seval,-Int.reduceToNat,aH,Y,Z,aa,X,ad]<;>rfl)
  ·rintro⟨aJ,aj,au⟩ t H e ⟨ar,Zb⟩ c U;simp only[oQ]at U;try simp only[dC,seval,-Int.reduceToNat,Y,Z,aa,X,ad,Zb]
   apply sp ak U<;>intro _ U
   ·obtain⟨aW,aK,U⟩:=ae U;have ag:=bn (eI .i64) aK;simp only[bS]at ag;try simp only[dC,seval,-Int.reduceToNat,Y,Z,aa,X,ad,Zb,ag]
    obtain⟨aU,aL,U⟩:=ae U;refine jA 0 (fun s t H e=>match s with|ao=>∃aq:Nat,t 0=.sl false false O.length (ab (eI .i64) O)∧t 1=.sl false false ah.length (ab (eI .i64) ah)∧t 5=.buf 5 aq 1 0 (au).length∧t 6=.int .i64 ao∧t 7=.int .i64 aj∧t 20=.sl false false O.length (ab (eI .i64) O)∧t 21=.int .i64 (O.length:Int)∧t 22=.int .i64 aj∧H 5=some ⟨aq,3,ab (eI .i64) au,false,true,false⟩) (fun s=>s=aU) ?_ ?_
    ·rintro ao t H e ⟨aq,aM⟩ rfl;try dsimp only at U
     obtain⟨aX,aA,U⟩:=ae U;have aw:=bn (eI .i64) aA;simp only[bS]at aw;have az:=fK (eI .i64) (x':=j0 .and .i64 ao 1048575) (fo:=0) (cs:=[.int .i64 (j0 .and .i64 ao 1048575)]) aA rfl (aiG rfl);simp only[bS,Nat.add_zero]at az;have ax:=az;simp only[putCells,List.length_cons,List.length_nil,ahE,Nat.reduceAdd]at ax;obtain⟨aY,aN,U⟩:=ae U;have aO:=vv aN;cases U;try simp only[dC,seval,-Int.reduceToNat,Y,Z,aa,X,ad,ag,aM,aw,az,ax,aO]
     apply iS;refine⟨aq,?_⟩;and_intros<;>first|rfl|(simp only[dC,seval,-Int.reduceToNat,Y,Z,aa,X,ad,ag,aM,aw,az,ax,aO]<;>rfl)
    ·clear U;have U:=aL;try simp only[dC,seval,-Int.reduceToNat,Y,Z,aa,X,ad,Zb,ag]
     apply sp ak U<;>intro _ U
     ·obtain⟨aZ,aP,U⟩:=ae U;have ay:=bn (eI .i64) aP;simp only[bS]at ay;cases U;try simp only[dC,seval,-Int.reduceToNat,Y,Z,aa,X,ad,Zb,ag,ay]
      rw[an];refine⟨_,rfl,?_⟩;refine⟨ar,?_⟩;and_intros<;>first|rfl|(simp only[dC,seval,-Int.reduceToNat,Y,Z,aa,X,ad,Zb,ag,ay]<;>rfl)
     ·cases U;try simp only[dC,seval,-Int.reduceToNat,Y,Z,aa,X,ad,Zb,ag]
      rw[an];refine⟨_,rfl,?_⟩;refine⟨ar,?_⟩;and_intros<;>first|rfl|(simp only[dC,seval,-Int.reduceToNat,Y,Z,aa,X,ad,Zb,ag]<;>rfl)
   ·cases U;try simp only[dC,seval,-Int.reduceToNat,Y,Z,aa,X,ad,Zb]
    apply ka;refine⟨rfl,⟨ar,?_⟩⟩;and_intros<;>first|rfl|(simp only[dC,seval,-Int.reduceToNat,Y,Z,aa,X,ad,Zb]<;>rfl)
  ·rintro x t H e hx;rcases aT with⟨ai,al⟩;dsimp only at hx U;obtain⟨rfl,⟨av,aV⟩⟩:=hx;obtain⟨a1,aB,U⟩:=ae U;have aD:=bn (eI .i64) aB;simp only[bS]at aD;have aF:=fK (eI .i64) (x':=ai) (fo:=0) (cs:=[.int .i64 ai]) aB rfl (aiG rfl);simp only[bS,Nat.add_zero]at aF;have aE:=aF;simp only[putCells,List.length_cons,List.length_nil,ahE,Nat.reduceAdd]at aE;have i25:=mA (al.set ((O.length:Int)).toNat ai);simp only[bg,bS,List.length_cons,List.length_nil,ahE,Nat.reduceAdd,aiY]at i25;obtain⟨a6,aQ,U⟩:=ae U;cases U;try simp only[dC,seval,-Int.reduceToNat,Y,Z,aa,X,ad,aV,aD,aF,aE,i25,aQ]
 ·clear U;have U:=aR;try simp only[dC,seval,-Int.reduceToNat]
  apply sp ak U<;>intro _ U
  ·cases U;try simp only[dC,seval,-Int.reduceToNat]
   rw[an];refine⟨_,rfl,?_⟩;and_intros<;>first|rfl|(simp only[dC,seval,-Int.reduceToNat]<;>rfl)
  ·cases U;try simp only[dC,seval,-Int.reduceToNat]
   rw[an];refine⟨_,rfl,?_⟩;and_intros<;>first|rfl|(simp only[dC,seval,-Int.reduceToNat]<;>rfl)
def lY (l:Option (D×Row)) (d:List D):=dV (ie (mS (eI .i64)) (dT (mS (eI .i64)))) (fun x:(List Int)×(List Int)=>pT x.1 x.2) (fun r:(List Int) =>.clean (.sl false false r.length (ab (eI .i64) r))) l d
def zb:Env:=(Am.ext (Am.ext bm 88 false il) 125 false fc)
theorem QI:bG prog zb:=((bG.none.add kv false).add nh false)
theorem fL:type_of% (ai @w<|ai @fE<|ai @Ub<|ai @fc.eq_1<|@zb.eq_1):=⟨@w,@fE,@Ub,@fc.eq_1,@zb.eq_1⟩
theorem Ek:bX prog 92 lY:=bX.gP (mode := .clean) tok QI mixed func92 (by kernel_rfl) (fun _ _=>rfl) (fun _=>by kernel_rfl) fun⟨p0,p1⟩ r U=>by
 replace U:pT p0 p1=some r:=U;apply aG rfl ntmps92 results92;simp only[gQ];unfold pT at U;obtain⟨r1,X,U⟩:=ae U;try simp only[fL,seval,-Int.reduceToNat,X]
 obtain⟨aB,ar,U⟩:=ae U;refine aC (fun s t H e=>match s with|(au,Y,ag)=>∃ad:Nat,t 1=.sl false false p1.length (ab (eI .i64) p1)∧t 5=.buf 5 ad 1 0 (ag).length∧t 6=.int .i64 au∧t 12=.int .i64 ((r1).length:Int)∧t 13=.int .i64 Y∧H 5=some ⟨ad,3,ab (eI .i64) ag,false,true,false⟩) (fun o x t H e=>match o with|ah=>x=.exit 0∧∃ai:Nat,t 5=.buf 5 ai 1 0 (ah).length∧H 5=some ⟨ai,3,ab (eI .i64) ah,false,true,false⟩) ar ?_ ?_ ?_
 ·refine⟨1,?_⟩;and_intros<;>first|rfl|(simp only[fL,seval,-Int.reduceToNat,X]<;>rfl)
 ·rintro⟨au,Y,ag⟩ t H e ⟨ad,Za⟩ c U;simp only[rR]at U;try simp only[fL,seval,-Int.reduceToNat,X,Za]
  apply sp ak U<;>intro _ U
  ·obtain⟨aF,aj,U⟩:=ae U;have O:=bn (eI .i64) aj;simp only[bS]at O;try simp only[fL,seval,-Int.reduceToNat,X,Za,O]
   obtain⟨aD,av,U⟩:=ae U;refine jA 0 (fun s t H e=>match s with|Z=>∃aa:Nat,t 1=.sl false false p1.length (ab (eI .i64) p1)∧t 5=.buf 5 aa 1 0 (ag).length∧t 7=.int .i64 Y∧t 8=.int .i64 Z∧t 12=.int .i64 ((r1).length:Int)∧t 13=.int .i64 Y∧H 5=some ⟨aa,3,ab (eI .i64) ag,false,true,false⟩) (fun s=>s=aD) ?_ ?_
   ·rintro Z t H e ⟨aa,aw⟩ rfl;try dsimp only at U
    obtain⟨aH,ax,U⟩:=ae U;have ay:=vv ax;have O:=bn (eI .i64) aj;simp only[bS]at O;have aq:=fK (eI .i64) (x':=j0 .and .i64 Z 1048575) (fo:=0) (cs:=[.int .i64 (j0 .and .i64 Z 1048575)]) aj rfl (aiG rfl);simp only[bS,Nat.add_zero]at aq;have al:=aq;simp only[putCells,List.length_cons,List.length_nil,ahE,Nat.reduceAdd]at al;cases U;try simp only[fL,seval,-Int.reduceToNat,X,O,aw,ay,O,aq,al]
    apply iS;refine⟨aa,?_⟩;and_intros<;>first|rfl|(simp only[fL,seval,-Int.reduceToNat,X,O,aw,ay,O,aq,al]<;>rfl)
   ·clear U;have U:=av;try simp only[fL,seval,-Int.reduceToNat,X,Za,O]
    apply sp ak U<;>intro _ U
    ·obtain⟨aI,az,U⟩:=ae U;have ao:=bn (eI .i64) az;simp only[bS]at ao;cases U;try simp only[fL,seval,-Int.reduceToNat,X,Za,O,ao]
     rw[an];refine⟨_,rfl,?_⟩;refine⟨ad,?_⟩;and_intros<;>first|rfl|(simp only[fL,seval,-Int.reduceToNat,X,Za,O,ao]<;>rfl)
    ·cases U;try simp only[fL,seval,-Int.reduceToNat,X,Za,O]
     rw[an];refine⟨_,rfl,?_⟩;refine⟨ad,?_⟩;and_intros<;>first|rfl|(simp only[fL,seval,-Int.reduceToNat,X,Za,O]<;>rfl)
  ·cases U;try simp only[fL,seval,-Int.reduceToNat,X,Za]
   apply ka;refine⟨rfl,⟨ad,?_⟩⟩;and_intros<;>first|rfl|(simp only[fL,seval,-Int.reduceToNat,X,Za]<;>rfl)
 ·rintro x t H e hx;obtain⟨ah,rfl⟩:∃z,z=aB:=⟨_,rfl⟩;dsimp only at hx U;obtain⟨rfl,⟨ai,aE⟩⟩:=hx;obtain⟨aJ,aA,U⟩:=ae U;cases U;try simp only[fL,seval,-Int.reduceToNat,X,aE,aA]
def uC (l:Option (D×Row)) (d:List D):=dV (ie (bD dF) (dT (bD dF))) (fun x:aB×aB=>uS x.1 x.2) (fun r:aB×Int =>.clean (.tup [.agg [.int .i64 r.1.aj,.sl false false r.1.aa.length (ab (eI .i64) r.1.aa)],.int .i64 r.2])) l d
theorem q8 (O:(List Int)):xi none [.sl false false O.length (ab (eI .i64) O)]=(tq O).map fun r:Int=>(.clean (.int .i64 r),none):=cP _ _ _ (O)
def yZ:Env:=(Am.ext (Am.ext (Am.ext (Am.ext (Am.ext (Am.ext (Am.ext bm 75 false xi) 79 false bt) 87 false cg) 89 false ke) 90 false ow) 91 false eO) 92 false lY)
theorem Qz:bG prog yZ:=(((((((bG.none.add Ii false).add fV false).add iV false).add pr false).add Eh false).add pt false).add Ek false)
theorem eX:type_of% (ai @w<|ai @q8<|ai @rq<|ai @bt.eq_1<|ai @BR<|ai @cg.eq_1<|ai @fw<|ai @BS<|ai @ow.eq_1<|ai @eO.eq_1<|ai @lY.eq_1<|@yZ.eq_1):=⟨@w,@q8,@rq,@bt.eq_1,@BR,@cg.eq_1,@fw,@BS,@ow.eq_1,@eO.eq_1,@lY.eq_1,@yZ.eq_1⟩
theorem Q5:bX prog 56 uC:=bX.gP (mode := .clean) tok Qz mixed func56 (by kernel_rfl) (fun _ _=>rfl) (fun _=>by kernel_rfl) fun⟨p0,p1⟩ r O=>by
 replace O:uS p0 p1=some r:=O;apply aG rfl ntmps56 results56;simp only[gQ];unfold uS at O;obtain⟨r1,U,O⟩:=ae O;try simp only[eX,seval,U]
 obtain⟨o2,aA,O⟩:=ae O;refine bB 0 (fun s t H e=>match s with|Z=>∃ad:Nat,∃ag:Nat,∃ah:Nat,t 2=.ptr 2 ad 0∧t 3=.ptr 3 ag 0∧t 4=.ptr 4 ah 0∧t 13=.bool Z∧H 2=some ⟨ad,40,[.int .i64 p0.aj,.sl false false p0.aa.length (ab (eI .i64) p0.aa)],false,false,false⟩∧H 3=some ⟨ag,40,[.int .i64 p1.aj,.sl false false p1.aa.length (ab (eI .i64) p1.aa)],false,false,false⟩∧H 4=some ⟨ah,40,[.int .i64 0,.sl true true 0 []],false,false,false⟩) (fun s=>s=o2) ?_ ?_
 ·rintro Z t H e ⟨ad,ag,ah,X⟩ rfl;try dsimp only at O
  try simp only[eX,seval,U,X]
  apply sp ak O<;>intro _ O
  ·have i4:=fw false 0 ([]);simp only[bg,bS,List.length_cons,List.length_nil,ahE,Nat.reduceAdd,aiY]at i4;obtain⟨r5,aB,O⟩:=ae O;cases O;try simp only[eX,seval,U,X,i4,aB]
  ·try simp only[eX,seval,U,X]
   apply sp ak O<;>intro _ O
   ·have i7:=q8 ([p0.aj,p1.aj]);simp only[bg,bS,List.length_cons,List.length_nil,ahE,Nat.reduceAdd,aiY]at i7;obtain⟨r8,ay,O⟩:=ae O;obtain⟨r9,az,O⟩:=ae O;obtain⟨aC,ai,O⟩:=ae O;obtain⟨aD,al,O⟩:=ae O;try simp only[eX,seval,U,X,i7,ay,az,ai,al]
    refine bH (by kernel_rfl) ?_;cases O;try simp only[eX,seval,U,X,i7,ay,az,ai,al]
   ·obtain⟨aE,Y,O⟩:=ae O;try simp only[eX,seval,U,X,Y]
    apply sp ak O<;>intro _ O
    ·obtain⟨aF,ao,O⟩:=ae O;obtain⟨aH,aq,O⟩:=ae O;obtain⟨aI,ar,O⟩:=ae O;try simp only[eX,seval,U,X,Y,ao,aq,ar]
     refine bH (by kernel_rfl) ?_;cases O;try simp only[eX,seval,U,X,Y,ao,aq,ar]
    ·obtain⟨aJ,au,O⟩:=ae O;obtain⟨aK,av,O⟩:=ae O;obtain⟨aL,aw,O⟩:=ae O;try simp only[eX,seval,U,X,Y,au,av,aw]
     refine bH (by kernel_rfl) ?_;cases O;try simp only[eX,seval,U,X,Y,au,av,aw]
 ·clear O;have O:=aA;try simp only[eX,seval,U]
  apply sp aP O<;>intro _ O
  ·cases O;try simp only[eX,seval,U]
   rw[an];refine⟨_,rfl,?_⟩;refine⟨0,0,0,?_⟩;and_intros<;>first|rfl|(simp only[eX,seval,U]<;>rfl)
  ·obtain⟨aM,ax,O⟩:=ae O;cases O;try simp only[eX,seval,U,ax]
   rw[an];refine⟨_,rfl,?_⟩;refine⟨0,0,0,?_⟩;and_intros<;>first|rfl|(simp only[eX,seval,U,ax]<;>rfl)
def lW (l:Option (D×Row)) (d:List D):=dV (dT (bD dF)) (fun x:aB=>nT x) (fun r:aB =>.clean (.agg [.int .i64 r.aj,.sl false false r.aa.length (ab (eI .i64) r.aa)])) l d
def y7:Env:=(Am.ext (Am.ext (Am.ext bm 79 false bt) 87 false cg) 88 false il)
theorem QE:bG prog y7:=(((bG.none.add fV false).add iV false).add kv false)
theorem vC:type_of% (ai @w<|ai @rq<|ai @bt.eq_1<|ai @BR<|ai @cg.eq_1<|ai @fE<|@y7.eq_1):=⟨@w,@rq,@bt.eq_1,@BR,@cg.eq_1,@fE,@y7.eq_1⟩
theorem Eg:bX prog 55 lW:=bX.gP (mode := .clean) tok QE mixed func55 (by kernel_rfl) (fun _ _=>rfl) (fun _=>by kernel_rfl) fun Z r O=>by
 replace O:nT Z=some r:=O;apply aG rfl ntmps55 results55;simp only[gQ];unfold nT at O;obtain⟨r1,U,O⟩:=ae O;try simp only[vC,seval,U]
 apply sp ak O<;>intro _ O
 ·cases O;try simp only[vC,seval,U]
 ·obtain⟨r3,X,O⟩:=ae O;obtain⟨r4,Y,O⟩:=ae O;try simp only[vC,seval,U,X,Y]
  refine bH (by kernel_rfl) ?_;cases O;try simp only[vC,seval,U,X,Y]
def uD (l:Option (D×Row)) (d:List D):=dV (ie (bD dF) (dT (bD dF))) (fun x:aB×aB=>nS x.1 x.2) (fun r:aB×aB×Int =>.clean (.tup [.agg [.int .i64 r.1.aj,.sl false false r.1.aa.length (ab (eI .i64) r.1.aa)],.agg [.int .i64 r.2.1.aj,.sl false false r.2.1.aa.length (ab (eI .i64) r.2.1.aa)],.int .i64 r.2.2])) l d
theorem zH (O:(List Int)) (U:(List Int)):ow none [.sl false false O.length (ab (eI .i64) O),.sl false false U.length (ab (eI .i64) U)]=(pS O U).map fun r:(List Int)=>(.clean (.sl false false r.length (ab (eI .i64) r)),none):=cP _ _ _ (O,U)
def y3:Env:=(Am.ext (Am.ext (Am.ext (Am.ext (Am.ext bm 79 false bt) 87 false cg) 90 false ow) 92 false lY) 120 false lX)
theorem QA:bG prog y3:=(((((bG.none.add fV false).add iV false).add Eh false).add Ek false).add Ei false)
theorem dq:type_of% (ai @w<|ai @rq<|ai @bt.eq_1<|ai @BR<|ai @cg.eq_1<|ai @zH<|ai @BS<|ai @lY.eq_1<|ai @lX.eq_1<|@y3.eq_1):=⟨@w,@rq,@bt.eq_1,@BR,@cg.eq_1,@zH,@BS,@lY.eq_1,@lX.eq_1,@y3.eq_1⟩
theorem Q6:bX prog 94 uD:=bX.gP (mode := .clean) tok QA mixed func94 (by kernel_rfl) (fun _ _=>rfl) (fun _=>by kernel_rfl) fun⟨p0,p1⟩ r O=>by
 replace O:nS p0 p1=some r:=O;apply aG rfl ntmps94 results94;simp only[gQ];unfold nS at O;obtain⟨r1,U,O⟩:=ae O;try simp only[dq,seval,U]
 obtain⟨o2,aD,O⟩:=ae O;refine bB 0 (fun s t H e=>match s with|av=>∃Z:Nat,∃ad:Nat,∃ag:Nat,∃ah:Nat,t 2=.ptr 2 Z 0∧t 3=.ptr 3 ad 0∧t 4=.ptr 4 ag 0∧t 5=.ptr 5 ah 0∧t 9=.bool av∧H 2=some ⟨Z,40,[.int .i64 p0.aj,.sl false false p0.aa.length (ab (eI .i64) p0.aa)],false,false,false⟩∧H 3=some ⟨ad,40,[.int .i64 p1.aj,.sl false false p1.aa.length (ab (eI .i64) p1.aa)],false,false,false⟩∧H 4=some ⟨ag,40,[.int .i64 0,.sl true true 0 []],false,false,false⟩∧H 5=some ⟨ah,40,[.int .i64 0,.sl true true 0 []],false,false,false⟩) (fun s=>s=o2) ?_ ?_
 ·rintro av t H e ⟨Z,ad,ag,ah,Y⟩ rfl;try dsimp only at O
  try simp only[dq,seval,U,Y]
  apply sp ak O<;>intro _ O
  ·cases O;try simp only[dq,seval,U,Y]
  ·try simp only[dq,seval,U,Y]
   apply sp ak O<;>intro _ O
   ·cases O;try simp only[dq,seval,U,Y]
   ·obtain⟨r5,X,O⟩:=ae O;try simp only[dq,seval,U,Y,X]
    obtain⟨o6,aE,O⟩:=ae O;refine bB 0 (fun s t H e=>match s with|ai=>∃al:Nat,∃ao:Nat,∃aq:Nat,∃ar:Nat,t 2=.ptr 2 al 0∧t 3=.ptr 3 ao 0∧t 4=.ptr 4 aq 0∧t 5=.ptr 5 ar 0∧t 7=.sl false false r5.1.length (ab (eI .i64) r5.1)∧t 8=.sl false false r5.2.length (ab (eI .i64) r5.2)∧t 44=.bool ai∧H 2=some ⟨al,40,[.int .i64 p0.aj,.sl false false p0.aa.length (ab (eI .i64) p0.aa)],false,false,false⟩∧H 3=some ⟨ao,40,[.int .i64 p1.aj,.sl false false p1.aa.length (ab (eI .i64) p1.aa)],false,false,false⟩∧H 4=some ⟨aq,40,[.int .i64 0,.sl true true 0 []],false,false,false⟩∧H 5=some ⟨ar,40,[.int .i64 0,.sl true true 0 []],false,false,false⟩) (fun s=>s=o6) ?_ ?_
    ·rintro ai t H e ⟨al,ao,aq,ar,au⟩ rfl;try dsimp only at O
     try simp only[dq,seval,U,X,au]
     apply sp ak O<;>intro _ O
     ·have i8:=zH r5.1 ([1]);simp only[bg,bS,List.length_cons,List.length_nil,ahE,Nat.reduceAdd,aiY]at i8;obtain⟨r9,aC,O⟩:=ae O;obtain⟨aF,aw,O⟩:=ae O;obtain⟨aH,ax,O⟩:=ae O;obtain⟨aI,ay,O⟩:=ae O;try simp only[dq,seval,U,X,au,i8,aC,aw,ax,ay]
      refine bH (by kernel_rfl) ?_;cases O;try simp only[dq,seval,U,X,au,i8,aC,aw,ax,ay]
     ·obtain⟨aJ,az,O⟩:=ae O;obtain⟨aK,aA,O⟩:=ae O;try simp only[dq,seval,U,X,au,az,aA]
      refine bH (by kernel_rfl) ?_;cases O;try simp only[dq,seval,U,X,au,az,aA]
    ·clear O;have O:=aE;try simp only[dq,seval,U,Y,X]
     apply sp e7 O<;>intro _ O
     ·cases O;try simp only[dq,seval,U,Y,X]
      rw[an];refine⟨_,rfl,?_⟩;refine⟨Z,ad,ag,ah,?_⟩;and_intros<;>first|rfl|(simp only[dq,seval,U,Y,X]<;>rfl)
     ·cases O;try simp only[dq,seval,U,Y,X]
      rw[an];refine⟨_,rfl,?_⟩;refine⟨Z,ad,ag,ah,?_⟩;and_intros<;>first|rfl|(simp only[dq,seval,U,Y,X]<;>rfl)
 ·clear O;have O:=aD;try simp only[dq,seval,U]
  apply sp aP O<;>intro _ O
  ·cases O;try simp only[dq,seval,U]
   rw[an];refine⟨_,rfl,?_⟩;refine⟨0,0,0,0,?_⟩;and_intros<;>first|rfl|(simp only[dq,seval,U]<;>rfl)
  ·obtain⟨aL,aB,O⟩:=ae O;cases O;try simp only[dq,seval,U,aB]
   rw[an];refine⟨_,rfl,?_⟩;refine⟨0,0,0,0,?_⟩;and_intros<;>first|rfl|(simp only[dq,seval,U,aB]<;>rfl)
def gR (l:Option (D×Row)) (d:List D):=dV (ie (bD dF) (dT (bD dF))) (fun x:aB×aB=>mX x.1 x.2) (fun r:aw×Int =>.clean (.tup [.agg [.int .i64 r.1.cv.aj,.sl false false r.1.cv.aa.length (ab (eI .i64) r.1.cv.aa),.int .i64 r.1.cu.aj,.sl false false r.1.cu.aa.length (ab (eI .i64) r.1.cu.aa)],.int .i64 r.2])) l d
def wD:Env:=(Am.ext (Am.ext (Am.ext (Am.ext bm 55 false lW) 79 false bt) 80 false lV) 94 false uD)
theorem MJ:bG prog wD:=((((bG.none.add Eg false).add fV false).add Ef false).add Q6 false)
theorem dy:type_of% (ai @w<|ai @rq<|ai @lW.eq_1<|ai @bt.eq_1<|ai @yJ<|ai @lV.eq_1<|ai @uD.eq_1<|@wD.eq_1):=⟨@w,@rq,@lW.eq_1,@bt.eq_1,@yJ,@lV.eq_1,@uD.eq_1,@wD.eq_1⟩
theorem ub:bX prog 58 gR:=bX.gP (mode := .clean) tok MJ mixed func58 (by kernel_rfl) (fun _ _=>rfl) (fun _=>by kernel_rfl) fun⟨p0,p1⟩ r O=>by
 replace O:mX p0 p1=some r:=O;apply aG rfl ntmps58 results58;simp only[gQ];unfold mX at O;obtain⟨r1,U,O⟩:=ae O;try simp only[dy,seval,U]
 obtain⟨o2,ay,O⟩:=ae O;refine bB 0 (fun s t H e=>match s with|ao=>∃ad:Nat,∃ag:Nat,∃ah:Nat,t 2=.ptr 2 ad 0∧t 3=.ptr 3 ag 0∧t 4=.ptr 4 ah 0∧t 14=.bool ao∧H 2=some ⟨ad,40,[.int .i64 p0.aj,.sl false false p0.aa.length (ab (eI .i64) p0.aa)],false,false,false⟩∧H 3=some ⟨ag,40,[.int .i64 p1.aj,.sl false false p1.aa.length (ab (eI .i64) p1.aa)],false,false,false⟩∧H 4=some ⟨ah,42,[.int .i64 0,.sl true true 0 [],.int .i64 0,.sl true true 0 []],false,false,false⟩) (fun s=>s=o2) ?_ ?_
 ·rintro ao t H e ⟨ad,ag,ah,X⟩ rfl;try dsimp only at O
  try simp only[dy,seval,U,X]
  apply sp ak O<;>intro _ O
  ·cases O;try simp only[dy,seval,U,X]
  ·try simp only[dy,seval,U,X]
   apply sp ak O<;>intro _ O
   ·cases O;try simp only[dy,seval,U,X]
   ·try simp only[dy,seval,U,X]
    obtain⟨o5,az,O⟩:=ae O;refine jA 0 (fun s t H e=>match s with|(ai,Y,al,Z)=>∃aq:Nat,∃ar:Nat,∃au:Nat,t 2=.ptr 2 aq 0∧t 3=.ptr 3 ar 0∧t 4=.ptr 4 au 0∧H 2=some ⟨aq,40,[.int .i64 ai,.sl false false Y.length (ab (eI .i64) Y)],false,false,false⟩∧H 3=some ⟨ar,40,[.int .i64 al,.sl false false Z.length (ab (eI .i64) Z)],false,false,false⟩∧H 4=some ⟨au,42,[.int .i64 0,.sl true true 0 [],.int .i64 0,.sl true true 0 []],false,false,false⟩) (fun s=>s=o5) ?_ ?_
    ·rintro⟨ai,Y,al,Z⟩ t H e ⟨aq,ar,au,aA⟩ rfl;try dsimp only at O
     obtain⟨r6,aB,O⟩:=ae O;obtain⟨r7,aC,O⟩:=ae O;obtain⟨r8,aD,O⟩:=ae O;cases O;try simp only[dy,seval,U,aA,aB,aC,aD]
    ·clear O;have O:=az;try simp only[dy,seval,U,X]
     apply sp ak O<;>intro _ O
     ·obtain⟨aE,av,O⟩:=ae O;obtain⟨aF,aw,O⟩:=ae O;try simp only[dy,seval,U,X,av,aw]
      refine bH (by kernel_rfl) ?_;cases O;try simp only[dy,seval,U,X,av,aw]
      rw[an];refine⟨_,rfl,?_⟩;refine⟨ad,ag,ah,?_⟩;and_intros<;>first|rfl|(simp only[dy,seval,U,X,av,aw]<;>rfl)
     ·cases O;try simp only[dy,seval,U,X]
      rw[an];refine⟨_,rfl,?_⟩;refine⟨ad,ag,ah,?_⟩;and_intros<;>first|rfl|(simp only[dy,seval,U,X]<;>rfl)
 ·clear O;have O:=ay;try simp only[dy,seval,U]
  apply sp aP O<;>intro _ O
  ·cases O;try simp only[dy,seval,U]
   rw[an];refine⟨_,rfl,?_⟩;refine⟨0,0,0,?_⟩;and_intros<;>first|rfl|(simp only[dy,seval,U]<;>rfl)
  ·obtain⟨aH,ax,O⟩:=ae O;cases O;try simp only[dy,seval,U,ax]
   rw[an];refine⟨_,rfl,?_⟩;refine⟨0,0,0,?_⟩;and_intros<;>first|rfl|(simp only[dy,seval,U,ax]<;>rfl)
def ky (l:Option (D×Row)) (d:List D):=dV (ie (bD aF) (dT (bD aF))) (fun x:aw×aw=>pf x.1 x.2) (fun r:aw×Int =>.clean (.tup [.agg [.int .i64 r.1.cv.aj,.sl false false r.1.cv.aa.length (ab (eI .i64) r.1.cv.aa),.int .i64 r.1.cu.aj,.sl false false r.1.cu.aa.length (ab (eI .i64) r.1.cu.aa)],.int .i64 r.2])) l d
def wA:Env:=(Am.ext (Am.ext (Am.ext (Am.ext bm 47 false bK) 56 false uC) 57 false fu) 58 false gR)
theorem MG:bG prog wA:=((((bG.none.add gY false).add Q5 false).add qF false).add ub false)
theorem gx:type_of% (ai @w<|ai @BT<|ai @bK.eq_1<|ai @yJ<|ai @uC.eq_1<|ai @fu.eq_1<|ai @gR.eq_1<|@wA.eq_1):=⟨@w,@BT,@bK.eq_1,@yJ,@uC.eq_1,@fu.eq_1,@gR.eq_1,@wA.eq_1⟩
theorem AO:bX prog 27 ky:=bX.gP (mode := .clean) tok MG mixed func27 (by kernel_rfl) (fun _ _=>rfl) (fun _=>by kernel_rfl) fun⟨p0,p1⟩ r O=>by
 replace O:pf p0 p1=some r:=O;apply aG rfl ntmps27 results27;simp only[gQ];unfold pf at O;obtain⟨r1,U,O⟩:=ae O;try simp only[gx,seval,U]
 obtain⟨o2,au,O⟩:=ae O;refine bB 0 (fun s t H e=>match s with|X=>∃Y:Nat,∃Z:Nat,∃ad:Nat,t 2=.ptr 2 Y 0∧t 3=.ptr 3 Z 0∧t 4=.ptr 4 ad 0∧t 15=.bool X∧H 2=some ⟨Y,42,[.int .i64 p0.cv.aj,.sl false false p0.cv.aa.length (ab (eI .i64) p0.cv.aa),.int .i64 p0.cu.aj,.sl false false p0.cu.aa.length (ab (eI .i64) p0.cu.aa)],false,false,false⟩∧H 3=some ⟨Z,42,[.int .i64 p1.cv.aj,.sl false false p1.cv.aa.length (ab (eI .i64) p1.cv.aa),.int .i64 p1.cu.aj,.sl false false p1.cu.aa.length (ab (eI .i64) p1.cu.aa)],false,false,false⟩∧H 4=some ⟨ad,42,[.int .i64 0,.sl true true 0 [],.int .i64 0,.sl true true 0 []],false,false,false⟩) (fun s=>s=o2) ?_ ?_
 ·rintro X t H e ⟨Y,Z,ad,ag⟩ rfl;try dsimp only at O
  try simp only[gx,seval,U,ag]
  apply sp ak O<;>intro _ O
  ·cases O;try simp only[gx,seval,U,ag]
  ·obtain⟨r4,ai,O⟩:=ae O;obtain⟨r5,al,O⟩:=ae O;obtain⟨r6,ao,O⟩:=ae O;try simp only[gx,seval,U,ag,ai,al,ao]
   refine bH (by kernel_rfl) ?_;obtain⟨r7,aq,O⟩:=ae O;obtain⟨r8,ar,O⟩:=ae O;try simp only[gx,seval,U,ag,ai,al,ao,aq,ar]
   refine bH (by kernel_rfl) ?_;cases O;try simp only[gx,seval,U,ag,ai,al,ao,aq,ar]
 ·clear O;have O:=au;try simp only[gx,seval,U]
  apply sp aP O<;>intro _ O
  ·cases O;try simp only[gx,seval,U]
   rw[an];refine⟨_,rfl,?_⟩;refine⟨0,0,0,?_⟩;and_intros<;>first|rfl|(simp only[gx,seval,U]<;>rfl)
  ·obtain⟨av,ah,O⟩:=ae O;cases O;try simp only[gx,seval,U,ah]
   rw[an];refine⟨_,rfl,?_⟩;refine⟨0,0,0,?_⟩;and_intros<;>first|rfl|(simp only[gx,seval,U,ah]<;>rfl)
def lZ (l:Option (D×Row)) (d:List D):=dV (ie (bD aF) (dT (bD aF))) (fun x:aw×aw=>oc x.1 x.2) (fun r:aw =>.clean (.agg [.int .i64 r.cv.aj,.sl false false r.cv.aa.length (ab (eI .i64) r.cv.aa),.int .i64 r.cu.aj,.sl false false r.cu.aa.length (ab (eI .i64) r.cu.aa)])) l d
def zd:Env:=(Am.ext bm 27 false ky)
theorem QK:bG prog zd:=(bG.none.add AO false)
theorem Wr:type_of% (ai @w<|ai @sX<|ai @ky.eq_1<|@zd.eq_1):=⟨@w,@sX,@ky.eq_1,@zd.eq_1⟩
theorem Ep:bX prog 72 lZ:=bX.gP (mode := .clean) tok QK mixed func72 (by kernel_rfl) (fun _ _=>rfl) (fun _=>by kernel_rfl) fun⟨X,Y⟩ r O=>by
 replace O:oc X Y=some r:=O;apply aG rfl ntmps72 results72;simp only[gQ];unfold oc at O;obtain⟨Z,U,O⟩:=ae O;cases O;try simp only[Wr,seval,U]
def mH (l:Option (D×Row)) (d:List D):=dV (ie (bD dF) (dT (bD dF))) (fun x:aB×aB=>kO x.1 x.2) (fun r:Int =>.clean (.int .i64 r)) l d
def qq:Env:=(Am.ext (Am.ext (Am.ext bm 76 false eP) 79 false bt) 91 false eO)
theorem Dq:bG prog qq:=(((bG.none.add py false).add fV false).add pt false)
theorem dL:type_of% (ai @w<|ai @Uc<|ai @eP.eq_1<|ai @rq<|ai @bt.eq_1<|ai @BS<|ai @eO.eq_1<|@qq.eq_1):=⟨@w,@Uc,@eP.eq_1,@rq,@bt.eq_1,@BS,@eO.eq_1,@qq.eq_1⟩
theorem Ee:bX prog 144 mH:=bX.gP (mode := .clean) tok Dq mixed func144 (by kernel_rfl) (fun _ _=>rfl) (fun _=>by kernel_rfl) fun⟨p0,p1⟩ r O=>by
 replace O:kO p0 p1=some r:=O;apply aG rfl ntmps144 results144;simp only[gQ];unfold kO at O;obtain⟨r1,U,O⟩:=ae O;try simp only[dL,seval,U]
 obtain⟨o2,ai,O⟩:=ae O;refine bB 0 (fun s t H e=>match s with|Y=>∃Z:Nat,∃ad:Nat,t 2=.ptr 2 Z 0∧t 3=.ptr 3 ad 0∧t 12=.bool Y∧H 2=some ⟨Z,40,[.int .i64 p0.aj,.sl false false p0.aa.length (ab (eI .i64) p0.aa)],false,false,false⟩∧H 3=some ⟨ad,40,[.int .i64 p1.aj,.sl false false p1.aa.length (ab (eI .i64) p1.aa)],false,false,false⟩) (fun s=>s=o2) ?_ ?_
 ·rintro Y t H e ⟨Z,ad,X⟩ rfl;try dsimp only at O
  try simp only[dL,seval,U,X]
  apply sp ak O<;>intro _ O
  ·cases O;try simp only[dL,seval,U,X]
  ·try simp only[dL,seval,U,X]
   apply sp ak O<;>intro _ O
   ·obtain⟨r5,al,O⟩:=ae O;cases O;try simp only[dL,seval,U,X,al]
   ·obtain⟨r6,ag,O⟩:=ae O;try simp only[dL,seval,U,X,ag]
    refine bH (by kernel_rfl) ?_;cases O;try simp only[dL,seval,U,X,ag]
 ·clear O;have O:=ai;try simp only[dL,seval,U]
  apply sp aP O<;>intro _ O
  ·cases O;try simp only[dL,seval,U]
   rw[an];refine⟨_,rfl,?_⟩;refine⟨0,0,?_⟩;and_intros<;>first|rfl|(simp only[dL,seval,U]<;>rfl)
  ·obtain⟨r8,ah,O⟩:=ae O;cases O;try simp only[dL,seval,U,ah]
   rw[an];refine⟨_,rfl,?_⟩;refine⟨0,0,?_⟩;and_intros<;>first|rfl|(simp only[dL,seval,U,ah]<;>rfl)
def ll (l:Option (D×Row)) (d:List D):=dV (ie (bD aF) (dT (bD aF))) (fun x:aw×aw=>iI x.1 x.2) (fun r:Int =>.clean (.int .i64 r)) l d
def pj:Env:=(Am.ext (Am.ext (Am.ext bm 47 false bK) 57 false fu) 144 false mH)
theorem Bi:bG prog pj:=(((bG.none.add gY false).add qF false).add Ee false)
theorem er:type_of% (ai @w<|ai @BT<|ai @bK.eq_1<|ai @yJ<|ai @fu.eq_1<|ai @mH.eq_1<|@pj.eq_1):=⟨@w,@BT,@bK.eq_1,@yJ,@fu.eq_1,@mH.eq_1,@pj.eq_1⟩
theorem Bp:bX prog 131 ll:=bX.gP (mode := .clean) tok Bi mixed func131 (by kernel_rfl) (fun _ _=>rfl) (fun _=>by kernel_rfl) fun⟨p0,p1⟩ r O=>by
 replace O:iI p0 p1=some r:=O;apply aG rfl ntmps131 results131;simp only[gQ];unfold iI at O;obtain⟨r1,U,O⟩:=ae O;try simp only[er,seval,U]
 obtain⟨o2,ao,O⟩:=ae O;refine bB 0 (fun s t H e=>match s with|X=>∃Y:Nat,∃Z:Nat,t 2=.ptr 2 Y 0∧t 3=.ptr 3 Z 0∧t 12=.bool X∧H 2=some ⟨Y,42,[.int .i64 p0.cv.aj,.sl false false p0.cv.aa.length (ab (eI .i64) p0.cv.aa),.int .i64 p0.cu.aj,.sl false false p0.cu.aa.length (ab (eI .i64) p0.cu.aa)],false,false,false⟩∧H 3=some ⟨Z,42,[.int .i64 p1.cv.aj,.sl false false p1.cv.aa.length (ab (eI .i64) p1.cv.aa),.int .i64 p1.cu.aj,.sl false false p1.cu.aa.length (ab (eI .i64) p1.cu.aa)],false,false,false⟩) (fun s=>s=o2) ?_ ?_
 ·rintro X t H e ⟨Y,Z,ad⟩ rfl;try dsimp only at O
  try simp only[er,seval,U,ad]
  apply sp ak O<;>intro _ O
  ·cases O;try simp only[er,seval,U,ad]
  ·obtain⟨r4,ag,O⟩:=ae O;obtain⟨r5,ah,O⟩:=ae O;obtain⟨r6,ai,O⟩:=ae O;try simp only[er,seval,U,ad,ag,ah,ai]
   refine bH (by kernel_rfl) ?_;cases O;try simp only[er,seval,U,ad,ag,ah,ai]
 ·clear O;have O:=ao;try simp only[er,seval,U]
  apply sp aP O<;>intro _ O
  ·cases O;try simp only[er,seval,U]
   rw[an];refine⟨_,rfl,?_⟩;refine⟨0,0,?_⟩;and_intros<;>first|rfl|(simp only[er,seval,U]<;>rfl)
  ·obtain⟨r8,al,O⟩:=ae O;cases O;try simp only[er,seval,U,al]
   rw[an];refine⟨_,rfl,?_⟩;refine⟨0,0,?_⟩;and_intros<;>first|rfl|(simp only[er,seval,U,al]<;>rfl)
def pO (l:Option (D×Row)) (d:List D):=dV (dT (mS aF)) (fun x:(List aw)=>oF x) (fun r:Bool =>.clean (.bool r)) l d
theorem aeE {β:Type} {F:(List aw)->Option β} {R:β->RK} (O:(List aw)):dV (dT (mS aF)) F R none [.sl false false O.length (ab aF O)]=(F (O)).map fun r=>(R r,none):=cP _ _ _ (O)
def tP:Env:=(Am.ext (Am.ext (Am.ext (Am.ext (Am.ext bm 47 false bK) 48 false dt) 72 false lZ) 83 false kz) 131 false ll)
theorem JZ:bG prog tP:=(((((bG.none.add gY false).add lG false).add Ep false).add AP false).add Bp false)
theorem dJ:type_of% (ai @w<|ai @BT<|ai @bK.eq_1<|ai @dt.eq_1<|ai @sX<|ai @lZ.eq_1<|ai @KT<|ai @kz.eq_1<|ai @ll.eq_1<|@tP.eq_1):=⟨@w,@BT,@bK.eq_1,@dt.eq_1,@sX,@lZ.eq_1,@KT,@kz.eq_1,@ll.eq_1,@tP.eq_1⟩
theorem Kf:bX prog 100 pO:=bX.gP (mode := .clean) tok JZ mixed func100 (by kernel_rfl) (fun _ _=>rfl) (fun _=>by kernel_rfl) fun p0 r O=>by
 replace O:oF p0=some r:=O;apply aG rfl ntmps100 results100;simp only[gQ];unfold oF at O;obtain⟨r1,U,O⟩:=ae O;try simp only[dJ,seval,U]
 obtain⟨o9,az,O⟩:=ae O;refine aC (fun s t H e=>match s with|(aw,al,ag,an,ah)=>∃ao:Nat,t 3=.ptr 3 ao 0∧t 7=.sl false false p0.length (ab aF p0)∧t 8=.int .i64 (p0.length:Int)∧t 9=.int .i64 aw∧H 3=some ⟨ao,42,[.int .i64 al,.sl false false ag.length (ab (eI .i64) ag),.int .i64 an,.sl false false ah.length (ab (eI .i64) ah)],false,false,false⟩) (fun o x t H e=>match o with|(.inl (ai,Z,aj,aa))=>x=.exit 0∧∃aq:Nat,t 3=.ptr 3 aq 0∧H 3=some ⟨aq,42,[.int .i64 ai,.sl false false Z.length (ab (eI .i64) Z),.int .i64 aj,.sl false false aa.length (ab (eI .i64) aa)],false,false,false⟩|(.inr r)=>x=.ret∧fF .clean tab none [.tmp 2] ⟨t,EH H,e⟩=some (.clean (.bool r),none)) az ?_ ?_ ?_
 ·refine⟨1,?_⟩;and_intros<;>first|rfl|(simp only[dJ,seval,U]<;>rfl)
 ·rintro⟨aw,al,ag,an,ah⟩ t H e ⟨ao,Za⟩ c O;simp only[od]at O;try simp only[dJ,seval,U,Za]
  apply sp ak O<;>intro _ O
  ·obtain⟨aA,ax,O⟩:=ae O;have X:=bn aF ax;simp only[bS]at X;obtain⟨aB,Y,O⟩:=ae O;try simp only[dJ,seval,U,Za,X,Y]
   apply sp aP O<;>intro _ O
   ·cases O;try simp only[dJ,seval,U,Za,X,Y]
    refine qH ⟨rfl,?_⟩;try simp only[dJ,seval,U,Za,X,Y]
   ·obtain⟨aD,ad,O⟩:=ae O;try simp only[dJ,seval,U,Za,X,Y,ad]
    apply sp ak O<;>intro _ O
    ·cases O;try simp only[dJ,seval,U,Za,X,Y,ad]
     refine qH ⟨rfl,?_⟩;try simp only[dJ,seval,U,Za,X,Y,ad]
    ·obtain⟨aE,ar,O⟩:=ae O;cases O;try simp only[dJ,seval,U,Za,X,Y,ad,ar]
     apply iS;refine⟨ao,?_⟩;and_intros<;>first|rfl|(simp only[dJ,seval,U,Za,X,Y,ad,ar]<;>rfl)
  ·cases O;try simp only[dJ,seval,U,Za]
   apply ka;refine⟨rfl,⟨ao,?_⟩⟩;and_intros<;>first|rfl|(simp only[dJ,seval,U,Za]<;>rfl)
 ·rintro x t H e hx;rcases o9 with⟨ai,Z,aj,aa⟩|ra
  ·dsimp only at hx O;obtain⟨rfl,⟨aq,ay⟩⟩:=hx;obtain⟨aH,au,O⟩:=ae O;obtain⟨aI,av,O⟩:=ae O;try simp only[dJ,seval,U,ay,au,av]
   refine bH (by kernel_rfl) ?_;cases O;try simp only[dJ,seval,U,ay,au,av]
  ·dsimp only at hx O;obtain⟨rfl,hE⟩:=hx;cases O;try simp only[bd,aX,bk,cJ,cI,ca,cc]
   exact hE
def km (l:Option (D×Row)) (d:List D):=dV (dT (bD wq)) (fun x:fH=>iU x) (fun r:Bool =>.clean (.bool r)) l d
theorem abm {β:Type} {F:fH->Option β} {R:β->RK} (O:(List fI)) (U:(List s7)) (X:(List (List aw))):dV (dT (bD wq)) F R none [.agg [.sl false false O.length (ab bh O),.sl false false U.length (ab dU U),.sl false false X.length (ab (jW aF) X)]]=(F ((fH.mk O U X))).map fun r=>(R r,none):=cP _ _ _ ((fH.mk O U X))
def nE:Env:=(Am.ext (Am.ext bm 35 false ch) 100 false pO)
theorem zp:bG prog nE:=((bG.none.add iW false).add Kf false)
theorem ax:type_of% (ai @w<|ai @Bw<|ai @ch.eq_1<|ai @aeE<|ai @pO.eq_1<|@nE.eq_1):=⟨@w,@Bw,@ch.eq_1,@aeE,@pO.eq_1,@nE.eq_1⟩
theorem zA:bX prog 62 km:=bX.gP (mode := .clean) tok zp mixed func62 (by kernel_rfl) (fun _ _=>rfl) (fun _=>by kernel_rfl) fun p0 r O=>by
 replace O:iU p0=some r:=O;apply aG rfl ntmps62 results62;simp only[gQ];unfold iU at O;try simp only[ax,seval]
 obtain⟨o1,br,O⟩:=ae O;refine bB 0 (fun s t H e=>match s with|aE=>∃ay:Nat,t 1=.ptr 1 ay 0∧t 27=.bool aE∧H 1=some ⟨ay,52,[.sl false false p0.al.length (ab bh p0.al),.sl false false p0.aJ.length (ab dU p0.aJ),.sl false false p0.aD.length (ab (jW aF) p0.aD)],false,false,false⟩) (fun s=>s=o1) ?_ ?_
 ·rintro aE t H e ⟨ay,aW⟩ rfl;try dsimp only at O
  try simp only[ax,seval,aW]
  apply sp ak O<;>intro _ O
  ·cases O;try simp only[ax,seval,aW]
  ·try simp only[ax,seval,aW]
   obtain⟨bs,ba,O⟩:=ae O;refine aC (fun s t H e=>match s with|a1=>∃aH:Nat,t 1=.ptr 1 aH 0∧t 29=.sl false false p0.aJ.length (ab dU p0.aJ)∧t 30=.int .i64 (p0.aJ.length:Int)∧t 31=.int .i64 a1∧H 1=some ⟨aH,52,[.sl false false p0.al.length (ab bh p0.al),.sl false false p0.aJ.length (ab dU p0.aJ),.sl false false p0.aD.length (ab (jW aF) p0.aD)],false,false,false⟩) (fun o x t H e=>match o with|(.inl _)=>x=.exit 0∧∃az:Nat,t 1=.ptr 1 az 0∧H 1=some ⟨az,52,[.sl false false p0.al.length (ab bh p0.al),.sl false false p0.aJ.length (ab dU p0.aJ),.sl false false p0.aD.length (ab (jW aF) p0.aD)],false,false,false⟩|(.inr r)=>x=.ret∧fF .clean tab none [.tmp 2] ⟨t,EH H,e⟩=some (.clean (.bool r),none)) ba ?_ ?_ ?_
   ·refine⟨ay,?_⟩;and_intros<;>first|rfl|(simp only[ax,seval,aW]<;>rfl)
   ·rintro a1 t H e ⟨aH,Zb⟩ c O;simp only[jO]at O;try simp only[ax,seval,Zb]
    apply sp ak O<;>intro _ O
    ·obtain⟨bw,bb,O⟩:=ae O;have ah:=bn dU bb;simp only[bS]at ah;obtain⟨bx,ai,O⟩:=ae O;try simp only[ax,seval,Zb,ah,ai]
     apply sp pG O<;>intro _ O
     ·try simp only[ax,seval,Zb,ah,ai]
      refine bH (by kernel_rfl) ?_;cases O;try simp only[ax,seval,Zb,ah,ai]
      refine qH ⟨rfl,?_⟩;try simp only[ax,seval,Zb,ah,ai]
     ·try simp only[ax,seval,Zb,ah,ai]
      apply sp pG O<;>intro _ O
      ·try simp only[ax,seval,Zb,ah,ai]
       refine bH (by kernel_rfl) ?_;cases O;try simp only[ax,seval,Zb,ah,ai]
       refine qH ⟨rfl,?_⟩;try simp only[ax,seval,Zb,ah,ai]
      ·obtain⟨bz,bc,O⟩:=ae O;have aq:=bn (jW aF) bc;simp only[bS]at aq;try simp only[ax,seval,Zb,ah,ai,aq]
       refine bH (by kernel_rfl) ?_;try simp only[ax,seval,Zb,ah,ai,aq]
       apply sp ak O<;>intro _ O
       ·cases O;try simp only[ax,seval,Zb,ah,ai,aq]
        refine qH ⟨rfl,?_⟩;try simp only[ax,seval,Zb,ah,ai,aq]
       ·cases O;try simp only[ax,seval,Zb,ah,ai,aq]
        apply iS;refine⟨aH,?_⟩;and_intros<;>first|rfl|(simp only[ax,seval,Zb,ah,ai,aq]<;>rfl)
    ·cases O;try simp only[ax,seval,Zb]
     apply ka;refine⟨rfl,⟨aH,?_⟩⟩;and_intros<;>first|rfl|(simp only[ax,seval,Zb]<;>rfl)
   ·rintro x t H e hx;rcases bs with _|rb
    ·dsimp only at hx O;obtain⟨rfl,⟨az,bf⟩⟩:=hx;try simp only[ax,seval,bf]
     obtain⟨bt,bg,O⟩:=ae O;refine aC (fun s t H e=>match s with|au=>∃aY:Nat,t 1=.ptr 1 aY 0∧t 59=.sl false false p0.al.length (ab bh p0.al)∧t 60=.int .i64 (p0.al.length:Int)∧t 61=.int .i64 au∧H 1=some ⟨aY,52,[.sl false false p0.al.length (ab bh p0.al),.sl false false p0.aJ.length (ab dU p0.aJ),.sl false false p0.aD.length (ab (jW aF) p0.aD)],false,false,false⟩) (fun o x t H e=>match o with|(.inl _)=>x=.exit 2|(.inr r)=>x=.ret∧fF .clean tab none [.tmp 2] ⟨t,EH H,e⟩=some (.clean (.bool r),none)) bg ?_ ?_ ?_
     ·refine⟨az,?_⟩;and_intros<;>first|rfl|(simp only[ax,seval,bf]<;>rfl)
     ·rintro au t H e ⟨aY,Zc⟩ c O;simp only[jP]at O;try simp only[ax,seval,Zc]
      apply sp ak O<;>intro _ O
      ·obtain⟨aB,bj,O⟩:=ae O;have U:=bn bh bj;simp only[bS]at U;obtain⟨bA,bm,O⟩:=ae O;obtain⟨Y,Z,ad,X,ag⟩:=mk_one aF bm;simp only[bS]at X;try simp only[ax,seval,Zc,U,Y,Z,ad,X,ag]
       obtain⟨bu,bo,O⟩:=ae O;refine aC (fun s t H e=>match s with|(a6,a8)=>∃aI:Nat,∃aK:Nat,∃aL:Nat,t 1=.ptr 1 aI 0∧t 5=.int .i64 au∧t 6=.ptr 6 aK 0∧t 7=.buf 7 aL 4 0 (a8).length∧t 59=.sl false false p0.al.length (ab bh p0.al)∧t 60=.int .i64 (p0.al.length:Int)∧t 61=.int .i64 au∧t 72=.int .i64 (p0.aJ.length:Int)∧t 73=.int .i64 a6∧H 1=some ⟨aI,52,[.sl false false p0.al.length (ab bh p0.al),.sl false false p0.aJ.length (ab dU p0.aJ),.sl false false p0.aD.length (ab (jW aF) p0.aD)],false,false,false⟩∧H 6=some ⟨aK,95,[.int .i64 aB.bl,.int .i64 aB.aQ,.int .i64 aB.aN],false,false,false⟩∧H 7=some ⟨aL,42,ab aF a8,false,true,false⟩) (fun o x t H e=>match o with|aM=>x=.exit 4∧∃aA:Nat,∃aO:Nat,∃aR:Nat,t 1=.ptr 1 aA 0∧t 6=.ptr 6 aO 0∧t 7=.buf 7 aR 4 0 (aM).length∧t 59=.sl false false p0.al.length (ab bh p0.al)∧t 60=.int .i64 (p0.al.length:Int)∧t 61=.int .i64 au∧H 1=some ⟨aA,52,[.sl false false p0.al.length (ab bh p0.al),.sl false false p0.aJ.length (ab dU p0.aJ),.sl false false p0.aD.length (ab (jW aF) p0.aD)],false,false,false⟩∧H 6=some ⟨aO,95,[.int .i64 aB.bl,.int .i64 aB.aQ,.int .i64 aB.aN],false,false,false⟩∧H 7=some ⟨aR,42,ab aF aM,false,true,false⟩) bo ?_ ?_ ?_
       ·refine⟨aY,e+1,e+1+1,?_⟩;and_intros<;>first|rfl|(simp only[ax,seval,Zc,U,Y,Z,ad,X,ag]<;>rfl)
       ·rintro⟨a6,a8⟩ t H e ⟨aI,aK,aL,Ze⟩ c O;simp only[gp]at O;try simp only[ax,seval,U,Y,Z,ad,X,ag,Ze]
        apply sp ak O<;>intro _ O
        ·obtain⟨bD,bp,O⟩:=ae O;have aS:=bn (jW aF) bp;simp only[bS]at aS;obtain⟨aw,bq,O⟩:=ae O;have aT:=bn aF bq;simp only[bS]at aT;obtain⟨bE,a7,O⟩:=ae O;have aU:=bn aF a7;simp only[bS]at aU;have aZ:=fK aF (x':=aw) (fo:=0) (cs:=[.int .i64 aw.cv.aj,.sl false false aw.cv.aa.length (ab (eI .i64) aw.cv.aa),.int .i64 aw.cu.aj,.sl false false aw.cu.aa.length (ab (eI .i64) aw.cu.aa)]) a7 rfl (aiG rfl);simp only[bS,Nat.add_zero]at aZ;have aV:=aZ;simp only[putCells,List.length_cons,List.length_nil,ahE,Nat.reduceAdd]at aV;cases O;try simp only[ax,seval,U,Y,Z,ad,X,ag,Ze,aS,aT,aU,aZ,aV]
         apply iS;refine⟨aI,aK,aL,?_⟩;and_intros<;>first|rfl|(simp only[ax,seval,U,Y,Z,ad,X,ag,Ze,aS,aT,aU,aZ,aV]<;>rfl)
        ·cases O;try simp only[ax,seval,U,Y,Z,ad,X,ag,Ze]
         apply ka;refine⟨rfl,⟨aI,aK,aL,?_⟩⟩;and_intros<;>first|rfl|(simp only[ax,seval,U,Y,Z,ad,X,ag,Ze]<;>rfl)
       ·rintro x t H e hx;obtain⟨aM,rfl⟩:∃z,z=bu:=⟨_,rfl⟩;dsimp only at hx O;obtain⟨rfl,⟨aA,aO,aR,ar⟩⟩:=hx;obtain⟨bF,ao,O⟩:=ae O;try simp only[ax,seval,U,Y,Z,ad,X,ag,ar,ao]
        apply sp aP O<;>intro _ O
        ·cases O;try simp only[ax,seval,U,Y,Z,ad,X,ag,ar,ao]
         refine qH ⟨rfl,?_⟩;try simp only[ax,seval,U,Y,Z,ad,X,ag,ar,ao]
        ·try simp only[ax,seval,U,Y,Z,ad,X,ag,ar,ao]
         apply sp aP O<;>intro _ O
         ·cases O;try simp only[ax,seval,U,Y,Z,ad,X,ag,ar,ao]
          refine qH ⟨rfl,?_⟩;try simp only[ax,seval,U,Y,Z,ad,X,ag,ar,ao]
         ·obtain⟨bG,av,O⟩:=ae O;try simp only[ax,seval,U,Y,Z,ad,X,ag,ar,ao,av]
          apply sp ak O<;>intro _ O
          ·cases O;try simp only[ax,seval,U,Y,Z,ad,X,ag,ar,ao,av]
           refine qH ⟨rfl,?_⟩;try simp only[ax,seval,U,Y,Z,ad,X,ag,ar,ao,av]
          ·cases O;try simp only[ax,seval,U,Y,Z,ad,X,ag,ar,ao,av]
           apply iS;refine⟨aA,?_⟩;and_intros<;>first|rfl|(simp only[ax,seval,U,Y,Z,ad,X,ag,ar,ao,av]<;>rfl)
      ·cases O;try simp only[ax,seval,Zc]
       apply ka;exact rfl
     ·rintro x t H e hx;rcases bt with _|rc
      ·dsimp only at hx O;subst hx;cases O;try simp only[ax,seval]
      ·dsimp only at hx O;obtain⟨rfl,hE⟩:=hx;cases O;try simp only[bd,aX,bk,cJ,cI,ca,cc]
       exact hE
    ·dsimp only at hx O;obtain⟨rfl,hE⟩:=hx;cases O;try simp only[bd,aX,bk,cJ,cI,ca,cc]
     exact hE
 ·clear O;have O:=br;try simp only[ax,seval]
  apply sp aP O<;>intro _ O
  ·cases O;try simp only[ax,seval]
   rw[an];refine⟨_,rfl,?_⟩;refine⟨0,?_⟩;and_intros<;>first|rfl|(simp only[ax,seval]<;>rfl)
  ·try simp only[ax,seval]
   apply sp aP O<;>intro _ O
   ·cases O;try simp only[ax,seval]
    rw[an];refine⟨_,rfl,?_⟩;refine⟨0,?_⟩;and_intros<;>first|rfl|(simp only[ax,seval]<;>rfl)
   ·cases O;try simp only[ax,seval]
    rw[an];refine⟨_,rfl,?_⟩;refine⟨0,?_⟩;and_intros<;>first|rfl|(simp only[ax,seval]<;>rfl)
def nP (l:Option (D×Row)) (d:List D):=dV (ie (bD fk) (dT (UX (eI .i64)))) (fun x:fQ×Int=>mw x.1 x.2) (fun r:Bool =>.clean (.bool r)) l d
theorem aeF {β:Type} {F:fQ×Int->Option β} {R:β->RK} (O:Int) (U:Int) (X:Int):dV (ie (bD fk) (dT (UX (eI .i64)))) F R none [.agg [.int .i64 O,.int .i64 U],.ip [.int .i64 X]]=(F ((fQ.mk O U),X)).map fun r=>(R r,none):=cP _ _ _ ((fQ.mk O U),X)
def sa:Env:=(Am.ext bm 35 false ch)
theorem FM:bG prog sa:=(bG.none.add iW false)
theorem sC:type_of% (ai @w<|ai @Bw<|ai @ch.eq_1<|@sa.eq_1):=⟨@w,@Bw,@ch.eq_1,@sa.eq_1⟩
theorem FQ:bX prog 63 nP:=bX.gP (mode := .clean) tok FM mixed func63 (by kernel_rfl) (fun _ _=>rfl) (fun _=>by kernel_rfl) fun⟨Y,Z⟩ r O=>by
 replace O:mw Y Z=some r:=O;apply aG rfl ntmps63 results63;simp only[gQ];unfold mw at O;obtain⟨r1,U,O⟩:=ae O;try simp only[sC,seval,U]
 apply sp aP O<;>intro _ O
 ·cases O;try simp only[sC,seval,U]
 ·obtain⟨r3,X,O⟩:=ae O;cases O;try simp only[sC,seval,U,X]
def nQ (l:Option (D×Row)) (d:List D):=dV (ie (aI .i64) (dT (UX (eI .i64)))) (fun x:Int×Int=>my x.1 x.2) (fun r:Bool =>.clean (.bool r)) l d
theorem aeG {β:Type} {F:Int×Int->Option β} {R:β->RK} (O:Int) (U:Int):dV (ie (aI .i64) (dT (UX (eI .i64)))) F R none [.int .i64 O,.ip [.int .i64 U]]=(F (O,U)).map fun r=>(R r,none):=cP _ _ _ (O,U)
def sb:Env:=(Am.ext bm 35 false ch)
theorem FN:bG prog sb:=(bG.none.add iW false)
theorem KS:type_of% (ai @w<|ai @Bw<|ai @ch.eq_1<|@sb.eq_1):=⟨@w,@Bw,@ch.eq_1,@sb.eq_1⟩
theorem FR:bX prog 64 nQ:=bX.gP (mode := .clean) tok FN mixed func64 (by kernel_rfl) (fun _ _=>rfl) (fun _=>by kernel_rfl) fun⟨X,Y⟩ r O=>by
 replace O:my X Y=some r:=O;apply aG rfl ntmps64 results64;simp only[gQ];unfold my at O;obtain⟨Z,U,O⟩:=ae O;cases O;try simp only[KS,seval,U]
def nB:=dV (dT (mS (eI .i64))) (fun x:(List Int)=>mQ x) (fun r:(List Int) =>.clean (.clo 134 0 [.ip [.sl false false r.length (ab (eI .i64) r)]]))
theorem sL (O:(List Int)):nB none [.sl false false O.length (ab (eI .i64) O)]=(mQ O).map fun r:(List Int)=>(.clean (.clo 134 0 [.ip [.sl false false r.length (ab (eI .i64) r)]]),none):=cP _ _ _ O
theorem zC:bX prog 102 nB:=Wm
def dB:=dV (dT (Ju 134 0 (dT (UX (jW (eI .i64)))))) (fun x:(List Int)=>cG x) (fun r:(List Int) =>.fresh 3 1 r.length (ab (eI .i64) r))
theorem fp (O:(List Int)):dB none [.clo 134 0 [.ip [.sl false false O.length (ab (eI .i64) O)]]]=(cG O).map fun r:(List Int)=>(.fresh 3 1 r.length (ab (eI .i64) r),none):=cP _ _ _ O
theorem je:bX prog 101 dB:=V6
def mL (l:Option (D×Row)) (d:List D):=dV (ie (mS (eI .i64)) (dT (aI .i64))) (fun x:(List Int)×Int=>jt x.1 x.2) (fun r:Bool =>.clean (.bool r)) l d
def qA:Env:=(Am.ext (Am.ext bm 101 false dB) 102 false nB)
theorem Dy:bG prog qA:=((bG.none.add je false).add zC false)
theorem ew:type_of% (ai @w<|ai @fp<|ai @sL<|@qA.eq_1):=⟨@w,@fp,@sL,@qA.eq_1⟩
theorem Er:bX prog 65 mL:=bX.gP (mode := .clean) tok Dy mixed func65 (by kernel_rfl) (fun _ _=>rfl) (fun _=>by kernel_rfl) fun⟨p0,p1⟩ r O=>by
 replace O:jt p0 p1=some r:=O;apply aG rfl ntmps65 results65;simp only[gQ];unfold jt at O;obtain⟨r1,U,O⟩:=ae O;obtain⟨r2,X,O⟩:=ae O;try simp only[ew,seval,U,X]
 obtain⟨o6,ag,O⟩:=ae O;refine aC (fun s t H e=>match s with|ad=>∃Y:Nat,t 1=.int .i64 p1∧t 5=.buf 5 Y 1 0 (r2).length∧t 11=.buf 5 Y 1 0 (r2).length∧t 12=.int .i64 ((r2).length:Int)∧t 13=.int .i64 ad∧H 5=some ⟨Y,3,ab (eI .i64) r2,false,true,false⟩) (fun o x t H e=>match o with|(.inl _)=>x=.exit 0∧∃aa:Nat,t 1=.int .i64 p1∧t 5=.buf 5 aa 1 0 (r2).length∧H 5=some ⟨aa,3,ab (eI .i64) r2,false,true,false⟩|(.inr r)=>x=.ret∧fF .clean tab none [.tmp 4] ⟨t,EH H,e⟩=some (.clean (.bool r),none)) ag ?_ ?_ ?_
 ·refine⟨1,?_⟩;and_intros<;>first|rfl|(simp only[ew,seval,U,X]<;>rfl)
 ·rintro ad t H e ⟨Y,Za⟩ c O;simp only[lF]at O;try simp only[ew,seval,U,X,Za]
  apply sp ak O<;>intro _ O
  ·obtain⟨x8,ah,O⟩:=ae O;have Z:=bn (eI .i64) ah;simp only[bS]at Z;try simp only[ew,seval,U,X,Za,Z]
   apply sp ak O<;>intro _ O
   ·cases O;try simp only[ew,seval,U,X,Za,Z]
    refine qH ⟨rfl,?_⟩;try simp only[ew,seval,U,X,Za,Z]
   ·cases O;try simp only[ew,seval,U,X,Za,Z]
    apply iS;refine⟨Y,?_⟩;and_intros<;>first|rfl|(simp only[ew,seval,U,X,Za,Z]<;>rfl)
  ·cases O;try simp only[ew,seval,U,X,Za]
   apply ka;refine⟨rfl,⟨Y,?_⟩⟩;and_intros<;>first|rfl|(simp only[ew,seval,U,X,Za]<;>rfl)
 ·rintro x t H e hx;rcases o6 with _|ra
  ·dsimp only at hx O;obtain⟨rfl,⟨aa,ai⟩⟩:=hx;cases O;try simp only[ew,seval,U,X,ai]
  ·dsimp only at hx O;obtain⟨rfl,hE⟩:=hx;cases O;try simp only[bd,aX,bk,cJ,cI,ca,cc]
   exact hE
def dm (l:Option (D×Row)) (d:List D):=dV (ie (mS fk) (dT (Ju 63 0 (dT (UX (eI .i64)))))) (fun x:(List fQ)×(Int)=>cK x.1 x.2) (fun r:Int =>.clean (.int .i64 r)) l d
theorem abn {β:Type} {F:(List fQ)×(Int)->Option β} {R:β->RK} (U:(List fQ)) (O:Int):dV (ie (mS fk) (dT (Ju 63 0 (dT (UX (eI .i64)))))) F R none [.sl false false U.length (ab fk U),.clo 63 0 [.ip [.int .i64 O]]]=(F (U,(O))).map fun r=>(R r,none):=cP _ _ _ (U,(O))
def eJ:Env:=(Am.ext bm 63 false nP)
theorem kD:bG prog eJ:=(bG.none.add FQ false)
theorem aY:type_of% (ai @w<|ai @aeF<|ai @nP.eq_1<|@eJ.eq_1):=⟨@w,@aeF,@nP.eq_1,@eJ.eq_1⟩
theorem kH:bX prog 103 dm:=bX.gP (mode := .clean) tok kD mixed func103 (by kernel_rfl) (fun _ _=>rfl) (fun _=>by kernel_rfl) fun⟨p0,Y⟩ r O=>by
 replace O:cK p0 Y=some r:=O;apply aG rfl ntmps103 results103;simp only[gQ];unfold cK at O;try simp only[aY,seval]
 obtain⟨o5,ad,O⟩:=ae O;refine aC (fun s t H e=>match s with|aa=>t 0=.sl false false p0.length (ab fk p0)∧t 1=.clo 63 0 [.ip [.int .i64 Y]]∧t 7=.int .i64 (p0.length:Int)∧t 8=.int .i64 aa) (fun o x t H e=>match o with|(.inl _)=>x=.exit 0|(.inr r)=>x=.ret∧fF .clean tab none [.tmp 4] ⟨t,EH H,e⟩=some (.clean (.int .i64 r),none)) ad ?_ ?_ ?_
 ·and_intros<;>first|rfl|(simp only[aY,seval]<;>rfl)
 ·rintro aa t H e Z c O;simp only[db]at O;try simp only[aY,seval,Z]
  apply sp ak O<;>intro _ O
  ·obtain⟨x7,ag,O⟩:=ae O;have U:=bn fk ag;simp only[bS]at U;obtain⟨r8,X,O⟩:=ae O;try simp only[aY,seval,Z,U,X]
   apply sp ak O<;>intro _ O
   ·cases O;try simp only[aY,seval,Z,U,X]
    refine qH ⟨rfl,?_⟩;try simp only[aY,seval,Z,U,X]
   ·cases O;try simp only[aY,seval,Z,U,X]
    apply iS;and_intros<;>first|rfl|(simp only[aY,seval,Z,U,X]<;>rfl)
  ·cases O;try simp only[aY,seval,Z]
   apply ka;exact rfl
 ·rintro x t H e hx;rcases o5 with _|ra
  ·dsimp only at hx O;subst hx;cases O;try simp only[aY,seval]
  ·dsimp only at hx O;obtain⟨rfl,hE⟩:=hx;cases O;try simp only[bd,aX,bk,cJ,cI,ca,cc]
   exact hE
def cQ (l:Option (D×Row)) (d:List D):=dV (ie (mS fk) (dT (Ju 63 0 (dT (UX (eI .i64)))))) (fun x:(List fQ)×(Int)=>bV x.1 x.2) (fun r:Bool =>.clean (.bool r)) l d
def eh:Env:=(Am.ext bm 103 false dm)
theorem j8:bG prog eh:=(bG.none.add kH false)
theorem kj:type_of% (ai @w<|ai @abn<|ai @dm.eq_1<|@eh.eq_1):=⟨@w,@abn,@dm.eq_1,@eh.eq_1⟩
theorem kb:bX prog 66 cQ:=bX.gP (mode := .clean) tok j8 mixed func66 (by kernel_rfl) (fun _ _=>rfl) (fun _=>by kernel_rfl) fun⟨Y,U⟩ r O=>by
 replace O:bV Y U=some r:=O;apply aG rfl ntmps66 results66;simp only[gQ];unfold bV at O;obtain⟨Z,X,O⟩:=ae O;cases O;try simp only[kj,seval,X]
def dn (l:Option (D×Row)) (d:List D):=dV (ie (mS (eI .i64)) (dT (Ju 64 0 (dT (UX (eI .i64)))))) (fun x:(List Int)×(Int)=>cL x.1 x.2) (fun r:Int =>.clean (.int .i64 r)) l d
theorem abo {β:Type} {F:(List Int)×(Int)->Option β} {R:β->RK} (U:(List Int)) (O:Int):dV (ie (mS (eI .i64)) (dT (Ju 64 0 (dT (UX (eI .i64)))))) F R none [.sl false false U.length (ab (eI .i64) U),.clo 64 0 [.ip [.int .i64 O]]]=(F (U,(O))).map fun r=>(R r,none):=cP _ _ _ (U,(O))
def eK:Env:=(Am.ext bm 64 false nQ)
theorem kE:bG prog eK:=(bG.none.add FR false)
theorem aZ:type_of% (ai @w<|ai @aeG<|ai @nQ.eq_1<|@eK.eq_1):=⟨@w,@aeG,@nQ.eq_1,@eK.eq_1⟩
theorem kI:bX prog 104 dn:=bX.gP (mode := .clean) tok kE mixed func104 (by kernel_rfl) (fun _ _=>rfl) (fun _=>by kernel_rfl) fun⟨p0,Y⟩ r O=>by
 replace O:cL p0 Y=some r:=O;apply aG rfl ntmps104 results104;simp only[gQ];unfold cL at O;try simp only[aZ,seval]
 obtain⟨o5,ad,O⟩:=ae O;refine aC (fun s t H e=>match s with|aa=>t 0=.sl false false p0.length (ab (eI .i64) p0)∧t 1=.clo 64 0 [.ip [.int .i64 Y]]∧t 7=.int .i64 (p0.length:Int)∧t 8=.int .i64 aa) (fun o x t H e=>match o with|(.inl _)=>x=.exit 0|(.inr r)=>x=.ret∧fF .clean tab none [.tmp 4] ⟨t,EH H,e⟩=some (.clean (.int .i64 r),none)) ad ?_ ?_ ?_
 ·and_intros<;>first|rfl|(simp only[aZ,seval]<;>rfl)
 ·rintro aa t H e Z c O;simp only[dc]at O;try simp only[aZ,seval,Z]
  apply sp ak O<;>intro _ O
  ·obtain⟨x7,ag,O⟩:=ae O;have U:=bn (eI .i64) ag;simp only[bS]at U;obtain⟨r8,X,O⟩:=ae O;try simp only[aZ,seval,Z,U,X]
   apply sp ak O<;>intro _ O
   ·cases O;try simp only[aZ,seval,Z,U,X]
    refine qH ⟨rfl,?_⟩;try simp only[aZ,seval,Z,U,X]
   ·cases O;try simp only[aZ,seval,Z,U,X]
    apply iS;and_intros<;>first|rfl|(simp only[aZ,seval,Z,U,X]<;>rfl)
  ·cases O;try simp only[aZ,seval,Z]
   apply ka;exact rfl
 ·rintro x t H e hx;rcases o5 with _|ra
  ·dsimp only at hx O;subst hx;cases O;try simp only[aZ,seval]
  ·dsimp only at hx O;obtain⟨rfl,hE⟩:=hx;cases O;try simp only[bd,aX,bk,cJ,cI,ca,cc]
   exact hE
def cR (l:Option (D×Row)) (d:List D):=dV (ie (mS (eI .i64)) (dT (Ju 64 0 (dT (UX (eI .i64)))))) (fun x:(List Int)×(Int)=>bW x.1 x.2) (fun r:Bool =>.clean (.bool r)) l d
def ej:Env:=(Am.ext bm 104 false dn)
theorem j9:bG prog ej:=(bG.none.add kI false)
theorem kl:type_of% (ai @w<|ai @abo<|ai @dn.eq_1<|@ej.eq_1):=⟨@w,@abo,@dn.eq_1,@ej.eq_1⟩
theorem kc:bX prog 67 cR:=bX.gP (mode := .clean) tok j9 mixed func67 (by kernel_rfl) (fun _ _=>rfl) (fun _=>by kernel_rfl) fun⟨Y,U⟩ r O=>by
 replace O:bW Y U=some r:=O;apply aG rfl ntmps67 results67;simp only[gQ];unfold bW at O;obtain⟨Z,X,O⟩:=ae O;cases O;try simp only[kl,seval,X]
def rD (l:Option (D×Row)) (d:List D):=dV (ie (bD b9) (dT (aI .i64))) (fun x:bY×Int=>qZ x.1 x.2) (fun r:Bool =>.clean (.bool r)) l d
theorem aeH {β:Type} {F:bY×Int->Option β} {R:β->RK} (O:(List fI)) (U:(List s7)) (X:(List (List aw))) (Y:(List fQ)) (Z:(List Int)) (p1:Int):dV (ie (bD b9) (dT (aI .i64))) F R none [.agg [.sl false false O.length (ab bh O),.sl false false U.length (ab dU U),.sl false false X.length (ab (jW aF) X),.sl false false Y.length (ab fk Y),.sl false false Z.length (ab (eI .i64) Z)],.int .i64 p1]=(F ((bY.mk (fH.mk O U X) Y Z),p1)).map fun r=>(R r,none):=cP _ _ _ ((bY.mk (fH.mk O U X) Y Z),p1)
def wJ:Env:=(Am.ext (Am.ext (Am.ext (Am.ext bm 62 false km) 65 false mL) 66 false cQ) 67 false cR)
theorem MP:bG prog wJ:=((((bG.none.add zA false).add Er false).add kb false).add kc false)
theorem bF:type_of% (ai @w<|ai @abm<|ai @km.eq_1<|ai @Wu<|ai @mL.eq_1<|ai @abn<|ai @cQ.eq_1<|ai @abo<|ai @cR.eq_1<|@wJ.eq_1):=⟨@w,@abm,@km.eq_1,@Wu,@mL.eq_1,@abn,@cQ.eq_1,@abo,@cR.eq_1,@wJ.eq_1⟩
theorem OC:bX prog 36 rD:=bX.gP (mode := .clean) tok MP mixed func36 (by kernel_rfl) (fun _ _=>rfl) (fun _=>by kernel_rfl) fun⟨X,p1⟩ r U=>by
 replace U:qZ X p1=some r:=U;apply aG rfl ntmps36 results36;simp only[gQ];unfold qZ at U;obtain⟨r1,O,U⟩:=ae U;try simp only[bF,seval,O]
 apply sp ak U<;>intro _ U
 ·cases U;try simp only[bF,seval,O]
 ·try simp only[bF,seval,O]
  obtain⟨o8,bd,U⟩:=ae U;refine aC (fun s t H e=>match s with|(aP,aX)=>∃ar:Nat,∃au:Nat,∃az:Nat,∃av:Nat,t 2=.ptr 2 ar 0∧t 3=.ptr 3 au 0∧t 5=.buf 5 az 1 0 (aX).length∧t 6=.buf 6 av 1 0 0∧t 19=.sl false false X.ao.al.length (ab bh X.ao.al)∧t 20=.int .i64 (X.ao.al.length:Int)∧t 21=.int .i64 aP∧H 2=some ⟨ar,55,[.sl false false X.ao.al.length (ab bh X.ao.al),.sl false false X.ao.aJ.length (ab dU X.ao.aJ),.sl false false X.ao.aD.length (ab (jW aF) X.ao.aD),.sl false false X.a7.length (ab fk X.a7),.sl false false X.aA.length (ab (eI .i64) X.aA)],false,false,false⟩∧H 3=some ⟨au,3,[.int .i64 p1],false,false,false⟩∧H 5=some ⟨az,3,ab (eI .i64) aX,false,true,false⟩∧H 6=some ⟨av,3,[],false,true,false⟩) (fun o x t H e=>match o with|Y=>x=.exit 0∧∃ai:Nat,∃aj:Nat,∃an:Nat,∃aq:Nat,t 2=.ptr 2 ai 0∧t 3=.ptr 3 aj 0∧t 5=.buf 5 an 1 0 (Y).length∧t 6=.buf 6 aq 1 0 0∧H 2=some ⟨ai,55,[.sl false false X.ao.al.length (ab bh X.ao.al),.sl false false X.ao.aJ.length (ab dU X.ao.aJ),.sl false false X.ao.aD.length (ab (jW aF) X.ao.aD),.sl false false X.a7.length (ab fk X.a7),.sl false false X.aA.length (ab (eI .i64) X.aA)],false,false,false⟩∧H 3=some ⟨aj,3,[.int .i64 p1],false,false,false⟩∧H 5=some ⟨an,3,ab (eI .i64) Y,false,true,false⟩∧H 6=some ⟨aq,3,[],false,true,false⟩) bd ?_ ?_ ?_
  ·refine⟨0,0,2,2,?_⟩;and_intros<;>first|rfl|(simp only[bF,seval,O]<;>rfl)
  ·rintro⟨aP,aX⟩ t H e ⟨ar,au,az,av,Za⟩ c U;simp only[kT]at U;try simp only[bF,seval,O,Za]
   apply sp ak U<;>intro _ U
   ·obtain⟨bg,aZ,U⟩:=ae U;have aa:=bn bh aZ;simp only[bS]at aa;try simp only[bF,seval,O,Za,aa]
    apply sp ak U<;>intro _ U
    ·obtain⟨bj,a1,U⟩:=ae U;obtain⟨aQ,aB,aR,aS⟩:=iG (eI .i64) a1;simp only[bS]at aB;cases U;try simp only[bF,seval,O,Za,aa,aQ,aB,aR,aS]
     apply iS;refine⟨ar,au,e+1+1+1,av,?_⟩;and_intros<;>first|rfl|(simp only[bF,seval,O,Za,aa,aQ,aB,aR,aS]<;>rfl)
    ·cases U;try simp only[bF,seval,O,Za,aa]
     apply iS;refine⟨ar,au,az,av,?_⟩;and_intros<;>first|rfl|(simp only[bF,seval,O,Za,aa]<;>rfl)
   ·cases U;try simp only[bF,seval,O,Za]
    apply ka;refine⟨rfl,⟨ar,au,az,av,?_⟩⟩;and_intros<;>first|rfl|(simp only[bF,seval,O,Za]<;>rfl)
  ·rintro x t H e hx;obtain⟨Y,rfl⟩:∃z,z=o8:=⟨_,rfl⟩;dsimp only at hx U;obtain⟨rfl,⟨ai,aj,an,aq,a6⟩⟩:=hx;try simp only[bF,seval,O,a6]
   obtain⟨bf,a8,U⟩:=ae U;refine aC (fun s t H e=>match s with|(aT,aY)=>∃aw:Nat,∃ax:Nat,∃ay:Nat,∃aE:Nat,t 2=.ptr 2 aw 0∧t 3=.ptr 3 ax 0∧t 5=.buf 5 ay 1 0 (Y).length∧t 6=.buf 6 aE 1 0 (aY).length∧t 36=.sl false false X.ao.aJ.length (ab dU X.ao.aJ)∧t 37=.int .i64 (X.ao.aJ.length:Int)∧t 38=.int .i64 aT∧H 2=some ⟨aw,55,[.sl false false X.ao.al.length (ab bh X.ao.al),.sl false false X.ao.aJ.length (ab dU X.ao.aJ),.sl false false X.ao.aD.length (ab (jW aF) X.ao.aD),.sl false false X.a7.length (ab fk X.a7),.sl false false X.aA.length (ab (eI .i64) X.aA)],false,false,false⟩∧H 3=some ⟨ax,3,[.int .i64 p1],false,false,false⟩∧H 5=some ⟨ay,3,ab (eI .i64) Y,false,true,false⟩∧H 6=some ⟨aE,3,ab (eI .i64) aY,false,true,false⟩) (fun o x t H e=>match o with|aH=>x=.exit 2∧∃aI:Nat,∃aK:Nat,∃aL:Nat,∃aM:Nat,t 2=.ptr 2 aI 0∧t 3=.ptr 3 aK 0∧t 5=.buf 5 aL 1 0 (Y).length∧t 6=.buf 6 aM 1 0 (aH).length∧H 2=some ⟨aI,55,[.sl false false X.ao.al.length (ab bh X.ao.al),.sl false false X.ao.aJ.length (ab dU X.ao.aJ),.sl false false X.ao.aD.length (ab (jW aF) X.ao.aD),.sl false false X.a7.length (ab fk X.a7),.sl false false X.aA.length (ab (eI .i64) X.aA)],false,false,false⟩∧H 3=some ⟨aK,3,[.int .i64 p1],false,false,false⟩∧H 5=some ⟨aL,3,ab (eI .i64) Y,false,true,false⟩∧H 6=some ⟨aM,3,ab (eI .i64) aH,false,true,false⟩) a8 ?_ ?_ ?_
   ·refine⟨ai,aj,an,aq,?_⟩;and_intros<;>first|rfl|(simp only[bF,seval,O,a6]<;>rfl)
   ·rintro⟨aT,aY⟩ t H e ⟨aw,ax,ay,aE,Zb⟩ c U;simp only[kU]at U;try simp only[bF,seval,O,Zb]
    apply sp ak U<;>intro _ U
    ·obtain⟨bk,ba,U⟩:=ae U;have ad:=bn dU ba;simp only[bS]at ad;try simp only[bF,seval,O,Zb,ad]
     apply sp ak U<;>intro _ U
     ·obtain⟨bl,bb,U⟩:=ae U;obtain⟨aU,aN,aV,aW⟩:=iG (eI .i64) bb;simp only[bS]at aN;cases U;try simp only[bF,seval,O,Zb,ad,aU,aN,aV,aW]
      apply iS;refine⟨aw,ax,ay,e+1+1+1,?_⟩;and_intros<;>first|rfl|(simp only[bF,seval,O,Zb,ad,aU,aN,aV,aW]<;>rfl)
     ·cases U;try simp only[bF,seval,O,Zb,ad]
      apply iS;refine⟨aw,ax,ay,aE,?_⟩;and_intros<;>first|rfl|(simp only[bF,seval,O,Zb,ad]<;>rfl)
    ·cases U;try simp only[bF,seval,O,Zb]
     apply ka;refine⟨rfl,⟨aw,ax,ay,aE,?_⟩⟩;and_intros<;>first|rfl|(simp only[bF,seval,O,Zb]<;>rfl)
   ·rintro x t H e hx;obtain⟨aH,rfl⟩:∃z,z=bf:=⟨_,rfl⟩;dsimp only at hx U;obtain⟨rfl,⟨aI,aK,aL,aM,ah⟩⟩:=hx;obtain⟨bm,Z,U⟩:=ae U;try simp only[bF,seval,O,ah,Z]
    apply sp e7 U<;>intro _ U
    ·obtain⟨bo,ag,U⟩:=ae U;try simp only[bF,seval,O,ah,Z,ag]
     apply sp e7 U<;>intro _ U
     ·obtain⟨bp,aO,U⟩:=ae U;try simp only[bF,seval,O,ah,Z,ag,aO]
      apply sp e7 U<;>intro _ U
      ·obtain⟨bq,bc,U⟩:=ae U;cases U;try simp only[bF,seval,O,ah,Z,ag,aO,bc]
      ·cases U;try simp only[bF,seval,O,ah,Z,ag,aO]
     ·cases U;try simp only[bF,seval,O,ah,Z,ag]
    ·cases U;try simp only[bF,seval,O,ah,Z]
def ji (l:Option (D×Row)) (d:List D):=dV (dT (bD nY)) (fun x:bC=>mu x) (fun r:Int×Int =>.clean (.tup [.int .i64 r.1,.int .i64 r.2])) l d
theorem V2 {β:Type} {F:bC->Option β} {R:β->RK} (O:(List Int)) (U:(List bY)):dV (dT (bD nY)) F R none [.agg [.sl false false O.length (ab (eI .i64) O),.sl false false U.length (ab b9 U)]]=(F ((bC.mk O U))).map fun r=>(R r,none):=cP _ _ _ ((bC.mk O U))
def tL:Env:=(Am.ext (Am.ext bm 35 false ch) 36 false rD)
theorem JV:bG prog tL:=((bG.none.add iW false).add OC false)
theorem az:type_of% (ai @w<|ai @Bw<|ai @ch.eq_1<|ai @aeH<|ai @rD.eq_1<|@tL.eq_1):=⟨@w,@Bw,@ch.eq_1,@aeH,@rD.eq_1,@tL.eq_1⟩
theorem yf:bX prog 10 ji:=bX.gP (mode := .clean) tok JV mixed func10 (by kernel_rfl) (fun _ _=>rfl) (fun _=>by kernel_rfl) fun p0 r hh=>by
 replace hh:mu p0=some r:=hh;apply aG rfl ntmps10 results10;simp only[gQ];unfold mu at hh;try simp only[az,seval]
 obtain⟨o1,cr,hh⟩:=ae hh;refine bB 0 (fun s t H e=>match s with|bg=>∃aQ:Nat,t 1=.ptr 1 aQ 0∧t 27=.bool bg∧H 1=some ⟨aQ,25,[.sl false false p0.ah.length (ab (eI .i64) p0.ah),.sl false false p0.au.length (ab b9 p0.au)],false,false,false⟩) (fun s=>s=o1) ?_ ?_
 ·rintro bg t H e ⟨aQ,bM⟩ rfl;try dsimp only at hh
  try simp only[az,seval,bM]
  apply sp ak hh<;>intro _ hh
  ·cases hh;try simp only[az,seval,bM]
  ·try simp only[az,seval,bM]
   obtain⟨o7,ct,hh⟩:=ae hh;refine aC (fun s t H e=>match s with|bU=>∃bj:Nat,t 1=.ptr 1 bj 0∧t 29=.sl false false p0.ah.length (ab (eI .i64) p0.ah)∧t 30=.int .i64 (p0.ah.length:Int)∧t 31=.int .i64 bU∧H 1=some ⟨bj,25,[.sl false false p0.ah.length (ab (eI .i64) p0.ah),.sl false false p0.au.length (ab b9 p0.au)],false,false,false⟩) (fun o x t H e=>match o with|(.inl _)=>x=.exit 0∧∃aR:Nat,t 1=.ptr 1 aR 0∧H 1=some ⟨aR,25,[.sl false false p0.ah.length (ab (eI .i64) p0.ah),.sl false false p0.au.length (ab b9 p0.au)],false,false,false⟩|(.inr r)=>x=.ret∧fF .clean tab none [.tmp 2,.tmp 3] ⟨t,EH H,e⟩=some (.clean (.tup [.int .i64 r.1,.int .i64 r.2]),none)) ct ?_ ?_ ?_
   ·refine⟨aQ,?_⟩;and_intros<;>first|rfl|(simp only[az,seval,bM]<;>rfl)
   ·rintro bU t H e ⟨bj,Zb⟩ c hh;simp only[jF]at hh;try simp only[az,seval,Zb]
    apply sp ak hh<;>intro _ hh
    ·obtain⟨x9,cu,hh⟩:=ae hh;have bf:=bn (eI .i64) cu;simp only[bS]at bf;obtain⟨cA,aM,hh⟩:=ae hh;try simp only[az,seval,Zb,bf,aM]
     apply sp ak hh<;>intro _ hh
     ·cases hh;try simp only[az,seval,Zb,bf,aM]
      refine qH ⟨rfl,?_⟩;try simp only[az,seval,Zb,bf,aM]
     ·cases hh;try simp only[az,seval,Zb,bf,aM]
      apply iS;refine⟨bj,?_⟩;and_intros<;>first|rfl|(simp only[az,seval,Zb,bf,aM]<;>rfl)
    ·cases hh;try simp only[az,seval,Zb]
     apply ka;refine⟨rfl,⟨bj,?_⟩⟩;and_intros<;>first|rfl|(simp only[az,seval,Zb]<;>rfl)
   ·rintro x t H e hx;rcases o7 with _|rb
    ·dsimp only at hx hh;obtain⟨rfl,⟨aR,bZ⟩⟩:=hx;obtain⟨cB,bV,hh⟩:=ae hh;obtain⟨X,Y,Z,O,aa⟩:=mk_one (eI .i64) bV;simp only[bS]at O;obtain⟨ad,ag,ai,U,aj⟩:=mk_one (eI .i64) bV;simp only[bS]at U;try simp only[az,seval,bZ,X,Y,Z,O,aa,ad,ag,ai,U,aj]
     refine bH (by kernel_rfl) ?_;try simp only[az,seval,bZ,X,Y,Z,O,aa,ad,ag,ai,U,aj]
     obtain⟨cv,b4,hh⟩:=ae hh;refine aC (fun s t H e=>match s with|(aH,b1,aO)=>∃bl:Nat,∃bm:Nat,∃bo:Nat,t 1=.ptr 1 bl 0∧t 6=.buf 6 bm 1 0 (b1).length∧t 7=.buf 7 bo 1 0 (aO).length∧t 50=.sl false false p0.au.length (ab b9 p0.au)∧t 51=.int .i64 (p0.au.length:Int)∧t 52=.int .i64 aH∧H 1=some ⟨bl,25,[.sl false false p0.ah.length (ab (eI .i64) p0.ah),.sl false false p0.au.length (ab b9 p0.au)],false,false,false⟩∧H 6=some ⟨bm,3,ab (eI .i64) b1,false,true,false⟩∧H 7=some ⟨bo,3,ab (eI .i64) aO,false,true,false⟩) (fun o x t H e=>match o with|(.inl (aI,aw))=>x=.exit 2∧∃aS:Nat,∃aT:Nat,∃aU:Nat,t 1=.ptr 1 aS 0∧t 6=.buf 6 aT 1 0 (aI).length∧t 7=.buf 7 aU 1 0 (aw).length∧H 1=some ⟨aS,25,[.sl false false p0.ah.length (ab (eI .i64) p0.ah),.sl false false p0.au.length (ab b9 p0.au)],false,false,false⟩∧H 6=some ⟨aT,3,ab (eI .i64) aI,false,true,false⟩∧H 7=some ⟨aU,3,ab (eI .i64) aw,false,true,false⟩|(.inr r)=>x=.ret∧fF .clean tab none [.tmp 2,.tmp 3] ⟨t,EH H,e⟩=some (.clean (.tup [.int .i64 r.1,.int .i64 r.2]),none)) b4 ?_ ?_ ?_
     ·refine⟨aR,e,e,?_⟩;and_intros<;>first|rfl|(simp only[az,seval,bZ,X,Y,Z,O,aa,ad,ag,ai,U,aj]<;>rfl)
     ·rintro⟨aH,b1,aO⟩ t H e ⟨bl,bm,bo,Zc⟩ c hh;simp only[iJ]at hh;try simp only[az,seval,X,Y,Z,O,aa,ad,ag,ai,U,aj,Zc]
      apply sp ak hh<;>intro _ hh
      ·obtain⟨av,b5,hh⟩:=ae hh;have aq:=bn b9 b5;simp only[bS]at aq;obtain⟨cC,ar,hh⟩:=ae hh;try simp only[az,seval,X,Y,Z,O,aa,ad,ag,ai,U,aj,Zc,aq,ar]
       apply sp ak hh<;>intro _ hh
       ·cases hh;try simp only[az,seval,X,Y,Z,O,aa,ad,ag,ai,U,aj,Zc,aq,ar]
        refine qH ⟨rfl,?_⟩;try simp only[az,seval,X,Y,Z,O,aa,ad,ag,ai,U,aj,Zc,aq,ar]
       ·try simp only[az,seval,X,Y,Z,O,aa,ad,ag,ai,U,aj,Zc,aq,ar]
        obtain⟨cw,b6,hh⟩:=ae hh;refine aC (fun s t H e=>match s with|(bW,b2)=>∃bp:Nat,∃bq:Nat,∃br:Nat,∃bs:Nat,t 1=.ptr 1 bp 0∧t 6=.buf 6 bq 1 0 (b2).length∧t 7=.buf 7 br 1 0 (aO).length∧t 9=.ptr 9 bs 0∧t 50=.sl false false p0.au.length (ab b9 p0.au)∧t 51=.int .i64 (p0.au.length:Int)∧t 52=.int .i64 aH∧t 65=.sl false false av.aA.length (ab (eI .i64) av.aA)∧t 66=.int .i64 (av.aA.length:Int)∧t 67=.int .i64 bW∧H 1=some ⟨bp,25,[.sl false false p0.ah.length (ab (eI .i64) p0.ah),.sl false false p0.au.length (ab b9 p0.au)],false,false,false⟩∧H 6=some ⟨bq,3,ab (eI .i64) b2,false,true,false⟩∧H 7=some ⟨br,3,ab (eI .i64) aO,false,true,false⟩∧H 9=some ⟨bs,55,[.sl false false av.ao.al.length (ab bh av.ao.al),.sl false false av.ao.aJ.length (ab dU av.ao.aJ),.sl false false av.ao.aD.length (ab (jW aF) av.ao.aD),.sl false false av.a7.length (ab fk av.a7),.sl false false av.aA.length (ab (eI .i64) av.aA)],false,false,false⟩) (fun o x t H e=>match o with|aB=>x=.exit 4∧∃aV:Nat,∃aW:Nat,∃aY:Nat,∃bt:Nat,t 1=.ptr 1 aV 0∧t 6=.buf 6 aW 1 0 (aB).length∧t 7=.buf 7 aY 1 0 (aO).length∧t 9=.ptr 9 bt 0∧t 50=.sl false false p0.au.length (ab b9 p0.au)∧t 51=.int .i64 (p0.au.length:Int)∧t 52=.int .i64 aH∧H 1=some ⟨aV,25,[.sl false false p0.ah.length (ab (eI .i64) p0.ah),.sl false false p0.au.length (ab b9 p0.au)],false,false,false⟩∧H 6=some ⟨aW,3,ab (eI .i64) aB,false,true,false⟩∧H 7=some ⟨aY,3,ab (eI .i64) aO,false,true,false⟩∧H 9=some ⟨bt,55,[.sl false false av.ao.al.length (ab bh av.ao.al),.sl false false av.ao.aJ.length (ab dU av.ao.aJ),.sl false false av.ao.aD.length (ab (jW aF) av.ao.aD),.sl false false av.a7.length (ab fk av.a7),.sl false false av.aA.length (ab (eI .i64) av.aA)],false,false,false⟩) b6 ?_ ?_ ?_
        ·refine⟨bl,bm,bo,e+1,?_⟩;and_intros<;>first|rfl|(simp only[az,seval,X,Y,Z,O,aa,ad,ag,ai,U,aj,Zc,aq,ar]<;>rfl)
        ·rintro⟨bW,b2⟩ t H e ⟨bp,bq,br,bs,Zf⟩ c hh;simp only[jG]at hh;try simp only[az,seval,X,Y,Z,O,aa,ad,ag,ai,U,aj,aq,ar,Zf]
         apply sp ak hh<;>intro _ hh
         ·obtain⟨cD,b7,hh⟩:=ae hh;have bu:=bn (eI .i64) b7;simp only[bS]at bu;obtain⟨b8,bw,hh⟩:=ae hh;have aE:=bn (eI .i64) bw;simp only[bS]at aE;have aE:=bn (eI .i64) bw;simp only[bS]at aE;have bN:=fK (eI .i64) (x':=IntKind.i64.wrap (b8+1)) (fo:=0) (cs:=[.int .i64 (IntKind.i64.wrap (b8+1))]) bw rfl (aiG rfl);simp only[bS,Nat.add_zero]at bN;have bx:=bN;simp only[putCells,List.length_cons,List.length_nil,ahE,Nat.reduceAdd]at bx;cases hh;try simp only[az,seval,X,Y,Z,O,aa,ad,ag,ai,U,aj,aq,ar,Zf,bu,aE,aE,bN,bx]
          apply iS;refine⟨bp,bq,br,bs,?_⟩;and_intros<;>first|rfl|(simp only[az,seval,X,Y,Z,O,aa,ad,ag,ai,U,aj,aq,ar,Zf,bu,aE,aE,bN,bx]<;>rfl)
         ·cases hh;try simp only[az,seval,X,Y,Z,O,aa,ad,ag,ai,U,aj,aq,ar,Zf]
          apply ka;refine⟨rfl,⟨bp,bq,br,bs,?_⟩⟩;and_intros<;>first|rfl|(simp only[az,seval,X,Y,Z,O,aa,ad,ag,ai,U,aj,aq,ar,Zf]<;>rfl)
        ·rintro x t H e hx;obtain⟨aB,rfl⟩:∃z,z=cw:=⟨_,rfl⟩;dsimp only at hx hh;obtain⟨rfl,⟨aV,aW,aY,bt,cb⟩⟩:=hx;try simp only[az,seval,X,Y,Z,O,aa,ad,ag,ai,U,aj,aq,ar,cb]
         obtain⟨cx,cd,hh⟩:=ae hh;refine aC (fun s t H e=>match s with|(bY,b3)=>∃bz:Nat,∃bA:Nat,∃bD:Nat,t 1=.ptr 1 bz 0∧t 6=.buf 6 bA 1 0 (aB).length∧t 7=.buf 7 bD 1 0 (b3).length∧t 50=.sl false false p0.au.length (ab b9 p0.au)∧t 51=.int .i64 (p0.au.length:Int)∧t 52=.int .i64 aH∧t 79=.sl false false av.a7.length (ab fk av.a7)∧t 80=.int .i64 (av.a7.length:Int)∧t 81=.int .i64 bY∧H 1=some ⟨bz,25,[.sl false false p0.ah.length (ab (eI .i64) p0.ah),.sl false false p0.au.length (ab b9 p0.au)],false,false,false⟩∧H 6=some ⟨bA,3,ab (eI .i64) aB,false,true,false⟩∧H 7=some ⟨bD,3,ab (eI .i64) b3,false,true,false⟩) (fun o x t H e=>match o with|bE=>x=.exit 6∧∃aZ:Nat,∃a1:Nat,∃a6:Nat,t 1=.ptr 1 aZ 0∧t 6=.buf 6 a1 1 0 (aB).length∧t 7=.buf 7 a6 1 0 (bE).length∧t 50=.sl false false p0.au.length (ab b9 p0.au)∧t 51=.int .i64 (p0.au.length:Int)∧t 52=.int .i64 aH∧H 1=some ⟨aZ,25,[.sl false false p0.ah.length (ab (eI .i64) p0.ah),.sl false false p0.au.length (ab b9 p0.au)],false,false,false⟩∧H 6=some ⟨a1,3,ab (eI .i64) aB,false,true,false⟩∧H 7=some ⟨a6,3,ab (eI .i64) bE,false,true,false⟩) cd ?_ ?_ ?_
         ·refine⟨aV,aW,aY,?_⟩;and_intros<;>first|rfl|(simp only[az,seval,X,Y,Z,O,aa,ad,ag,ai,U,aj,aq,ar,cb]<;>rfl)
         ·rintro⟨bY,b3⟩ t H e ⟨bz,bA,bD,Zg⟩ c hh;simp only[jH]at hh;try simp only[az,seval,X,Y,Z,O,aa,ad,ag,ai,U,aj,aq,ar,Zg]
          apply sp ak hh<;>intro _ hh
          ·obtain⟨bO,cf,hh⟩:=ae hh;have a8:=bn fk cf;simp only[bS]at a8;obtain⟨bP,bF,hh⟩:=ae hh;have ax:=bn (eI .i64) bF;simp only[bS]at ax;have ax:=bn (eI .i64) bF;simp only[bS]at ax;have bG:=fK (eI .i64) (x':=(if 1099511627777<(IntKind.i64.wrap (bP+bO.aN)) then 1099511627777 else IntKind.i64.wrap (bP+bO.aN))) (fo:=0) (cs:=[.int .i64 (if 1099511627777<(IntKind.i64.wrap (bP+bO.aN)) then 1099511627777 else IntKind.i64.wrap (bP+bO.aN))]) bF rfl (aiG rfl);simp only[bS,Nat.add_zero]at bG;have ba:=bG;simp only[putCells,List.length_cons,List.length_nil,ahE,Nat.reduceAdd]at ba;try simp only[az,seval,X,Y,Z,O,aa,ad,ag,ai,U,aj,aq,ar,Zg,a8,ax,ax,bG,ba]
           refine bH (by kernel_rfl) ?_;cases hh;try simp only[az,seval,X,Y,Z,O,aa,ad,ag,ai,U,aj,aq,ar,Zg,a8,ax,ax,bG,ba]
           apply iS;refine⟨bz,bA,bD,?_⟩;and_intros<;>first|rfl|(simp only[az,seval,X,Y,Z,O,aa,ad,ag,ai,U,aj,aq,ar,Zg,a8,ax,ax,bG,ba]<;>rfl)
          ·cases hh;try simp only[az,seval,X,Y,Z,O,aa,ad,ag,ai,U,aj,aq,ar,Zg]
           apply ka;refine⟨rfl,⟨bz,bA,bD,?_⟩⟩;and_intros<;>first|rfl|(simp only[az,seval,X,Y,Z,O,aa,ad,ag,ai,U,aj,aq,ar,Zg]<;>rfl)
         ·rintro x t H e hx;obtain⟨bE,rfl⟩:∃z,z=cx:=⟨_,rfl⟩;dsimp only at hx hh;obtain⟨rfl,⟨aZ,a1,a6,cg⟩⟩:=hx;cases hh;try simp only[az,seval,X,Y,Z,O,aa,ad,ag,ai,U,aj,aq,ar,cg]
          apply iS;refine⟨aZ,a1,a6,?_⟩;and_intros<;>first|rfl|(simp only[az,seval,X,Y,Z,O,aa,ad,ag,ai,U,aj,aq,ar,cg]<;>rfl)
      ·cases hh;try simp only[az,seval,X,Y,Z,O,aa,ad,ag,ai,U,aj,Zc]
       apply ka;refine⟨rfl,⟨bl,bm,bo,?_⟩⟩;and_intros<;>first|rfl|(simp only[az,seval,X,Y,Z,O,aa,ad,ag,ai,U,aj,Zc]<;>rfl)
     ·rintro x t H e hx;rcases cv with⟨aI,aw⟩|rc
      ·dsimp only at hx hh;obtain⟨rfl,⟨aS,aT,aU,ch⟩⟩:=hx;try simp only[az,seval,X,Y,Z,O,aa,ad,ag,ai,U,aj,ch]
       obtain⟨cy,cj,hh⟩:=ae hh;refine aC (fun s t H e=>match s with|bI=>∃bJ:Nat,∃bQ:Nat,∃bK:Nat,t 1=.ptr 1 bJ 0∧t 7=.buf 7 bK 1 0 (aw).length∧t 100=.buf 6 bQ 1 0 (aI).length∧t 101=.int .i64 ((aI).length:Int)∧t 102=.int .i64 bI∧H 1=some ⟨bJ,25,[.sl false false p0.ah.length (ab (eI .i64) p0.ah),.sl false false p0.au.length (ab b9 p0.au)],false,false,false⟩∧H 6=some ⟨bQ,3,ab (eI .i64) aI,false,true,false⟩∧H 7=some ⟨bK,3,ab (eI .i64) aw,false,true,false⟩) (fun o x t H e=>match o with|(.inl _)=>x=.exit 8∧∃bb:Nat,∃bc:Nat,t 1=.ptr 1 bb 0∧t 7=.buf 7 bc 1 0 (aw).length∧H 1=some ⟨bb,25,[.sl false false p0.ah.length (ab (eI .i64) p0.ah),.sl false false p0.au.length (ab b9 p0.au)],false,false,false⟩∧H 7=some ⟨bc,3,ab (eI .i64) aw,false,true,false⟩|(.inr r)=>x=.ret∧fF .clean tab none [.tmp 2,.tmp 3] ⟨t,EH H,e⟩=some (.clean (.tup [.int .i64 r.1,.int .i64 r.2]),none)) cj ?_ ?_ ?_
       ·refine⟨aS,aT,aU,?_⟩;and_intros<;>first|rfl|(simp only[az,seval,X,Y,Z,O,aa,ad,ag,ai,U,aj,ch]<;>rfl)
       ·rintro bI t H e ⟨bJ,bQ,bK,Zh⟩ c hh;simp only[jI]at hh;try simp only[az,seval,X,Y,Z,O,aa,ad,ag,ai,U,aj,Zh]
        apply sp ak hh<;>intro _ hh
        ·obtain⟨cE,ck,hh⟩:=ae hh;have ay:=bn (eI .i64) ck;simp only[bS]at ay;try simp only[az,seval,X,Y,Z,O,aa,ad,ag,ai,U,aj,Zh,ay]
         apply sp ak hh<;>intro _ hh
         ·cases hh;try simp only[az,seval,X,Y,Z,O,aa,ad,ag,ai,U,aj,Zh,ay]
          refine qH ⟨rfl,?_⟩;try simp only[az,seval,X,Y,Z,O,aa,ad,ag,ai,U,aj,Zh,ay]
         ·try simp only[az,seval,X,Y,Z,O,aa,ad,ag,ai,U,aj,Zh,ay]
          apply sp ak hh<;>intro _ hh
          ·cases hh;try simp only[az,seval,X,Y,Z,O,aa,ad,ag,ai,U,aj,Zh,ay]
           refine qH ⟨rfl,?_⟩;try simp only[az,seval,X,Y,Z,O,aa,ad,ag,ai,U,aj,Zh,ay]
          ·cases hh;try simp only[az,seval,X,Y,Z,O,aa,ad,ag,ai,U,aj,Zh,ay]
           apply iS;refine⟨bJ,bQ,bK,?_⟩;and_intros<;>first|rfl|(simp only[az,seval,X,Y,Z,O,aa,ad,ag,ai,U,aj,Zh,ay]<;>rfl)
        ·cases hh;try simp only[az,seval,X,Y,Z,O,aa,ad,ag,ai,U,aj,Zh]
         apply ka;refine⟨rfl,⟨bJ,bK,?_⟩⟩;and_intros<;>first|rfl|(simp only[az,seval,X,Y,Z,O,aa,ad,ag,ai,U,aj,Zh]<;>rfl)
       ·rintro x t H e hx;rcases cy with _|rh
        ·dsimp only at hx hh;obtain⟨rfl,⟨bb,bc,cm⟩⟩:=hx;try simp only[az,seval,X,Y,Z,O,aa,ad,ag,ai,U,aj,cm]
         obtain⟨cz,cn,hh⟩:=ae hh;refine aC (fun s t H e=>match s with|bL=>∃bR:Nat,∃bT:Nat,t 1=.ptr 1 bR 0∧t 116=.buf 7 bT 1 0 (aw).length∧t 117=.int .i64 ((aw).length:Int)∧t 118=.int .i64 bL∧H 1=some ⟨bR,25,[.sl false false p0.ah.length (ab (eI .i64) p0.ah),.sl false false p0.au.length (ab b9 p0.au)],false,false,false⟩∧H 7=some ⟨bT,3,ab (eI .i64) aw,false,true,false⟩) (fun o x t H e=>match o with|(.inl _)=>x=.exit 11|(.inr r)=>x=.ret∧fF .clean tab none [.tmp 2,.tmp 3] ⟨t,EH H,e⟩=some (.clean (.tup [.int .i64 r.1,.int .i64 r.2]),none)) cn ?_ ?_ ?_
         ·refine⟨bb,bc,?_⟩;and_intros<;>first|rfl|(simp only[az,seval,X,Y,Z,O,aa,ad,ag,ai,U,aj,cm]<;>rfl)
         ·rintro bL t H e ⟨bR,bT,Zi⟩ c hh;simp only[jJ]at hh;try simp only[az,seval,X,Y,Z,O,aa,ad,ag,ai,U,aj,Zi]
          apply sp ak hh<;>intro _ hh
          ·obtain⟨cF,cp,hh⟩:=ae hh;have aK:=bn (eI .i64) cp;simp only[bS]at aK;obtain⟨cG,cq,hh⟩:=ae hh;have aL:=bn (eI .i64) cq;simp only[bS]at aL;try simp only[az,seval,X,Y,Z,O,aa,ad,ag,ai,U,aj,Zi,aK,aL]
           apply sp ak hh<;>intro _ hh
           ·cases hh;try simp only[az,seval,X,Y,Z,O,aa,ad,ag,ai,U,aj,Zi,aK,aL]
            refine qH ⟨rfl,?_⟩;try simp only[az,seval,X,Y,Z,O,aa,ad,ag,ai,U,aj,Zi,aK,aL]
           ·cases hh;try simp only[az,seval,X,Y,Z,O,aa,ad,ag,ai,U,aj,Zi,aK,aL]
            apply iS;refine⟨bR,bT,?_⟩;and_intros<;>first|rfl|(simp only[az,seval,X,Y,Z,O,aa,ad,ag,ai,U,aj,Zi,aK,aL]<;>rfl)
          ·cases hh;try simp only[az,seval,X,Y,Z,O,aa,ad,ag,ai,U,aj,Zi]
           apply ka;exact rfl
         ·rintro x t H e hx;rcases cz with _|ri
          ·dsimp only at hx hh;subst hx;cases hh;try simp only[az,seval,X,Y,Z,O,aa,ad,ag,ai,U,aj]
          ·dsimp only at hx hh;obtain⟨rfl,hE⟩:=hx;cases hh;try simp only[bd,aX,bk,cJ,cI,ca,cc]
           exact hE
        ·dsimp only at hx hh;obtain⟨rfl,hE⟩:=hx;cases hh;try simp only[bd,aX,bk,cJ,cI,ca,cc]
         exact hE
      ·dsimp only at hx hh;obtain⟨rfl,hE⟩:=hx;cases hh;try simp only[bd,aX,bk,cJ,cI,ca,cc]
       exact hE
    ·dsimp only at hx hh;obtain⟨rfl,hE⟩:=hx;cases hh;try simp only[bd,aX,bk,cJ,cI,ca,cc]
     exact hE
 ·clear hh;have hh:=cr;try simp only[az,seval]
  apply sp aP hh<;>intro _ hh
  ·cases hh;try simp only[az,seval]
   rw[an];refine⟨_,rfl,?_⟩;refine⟨0,?_⟩;and_intros<;>first|rfl|(simp only[az,seval]<;>rfl)
  ·cases hh;try simp only[az,seval]
   rw[an];refine⟨_,rfl,?_⟩;refine⟨0,?_⟩;and_intros<;>first|rfl|(simp only[az,seval]<;>rfl)
def uG (l:Option (D×Row)) (d:List D):=dV (ie (aI .i64) (dT (aI .i64))) (fun x:Int×Int=>u9 x.1 x.2) (fun r:aw×Int =>.clean (.tup [.agg [.int .i64 r.1.cv.aj,.sl false false r.1.cv.aa.length (ab (eI .i64) r.1.cv.aa),.int .i64 r.1.cu.aj,.sl false false r.1.cu.aa.length (ab (eI .i64) r.1.cu.aa)],.int .i64 r.2])) l d
def zc:Env:=(Am.ext (Am.ext bm 58 false gR) 107 false oJ)
theorem QJ:bG prog zc:=((bG.none.add ub false).add Ih false)
theorem Wq:type_of% (ai @w<|ai @yJ<|ai @gR.eq_1<|ai @KT<|ai @oJ.eq_1<|@zc.eq_1):=⟨@w,@yJ,@gR.eq_1,@KT,@oJ.eq_1,@zc.eq_1⟩
theorem Q9:bX prog 71 uG:=bX.gP (mode := .clean) tok QJ mixed func71 (by kernel_rfl) (fun _ _=>rfl) (fun _=>by kernel_rfl) fun⟨Z,p1⟩ r O=>by
 replace O:u9 Z p1=some r:=O;apply aG rfl ntmps71 results71;simp only[gQ];unfold u9 at O;obtain⟨r1,U,O⟩:=ae O;obtain⟨r2,X,O⟩:=ae O;obtain⟨r3,Y,O⟩:=ae O;cases O;try simp only[Wq,seval,U,X,Y]
def kA (l:Option (D×Row)) (d:List D):=dV (ie (bD aF) (dT (bD aF))) (fun x:aw×aw=>pg x.1 x.2) (fun r:aw×Int =>.clean (.tup [.agg [.int .i64 r.1.cv.aj,.sl false false r.1.cv.aa.length (ab (eI .i64) r.1.cv.aa),.int .i64 r.1.cu.aj,.sl false false r.1.cu.aa.length (ab (eI .i64) r.1.cu.aa)],.int .i64 r.2])) l d
def wC:Env:=(Am.ext (Am.ext (Am.ext bm 47 false bK) 57 false fu) 58 false gR)
theorem MI:bG prog wC:=(((bG.none.add gY false).add qF false).add ub false)
theorem hZ:type_of% (ai @w<|ai @BT<|ai @bK.eq_1<|ai @yJ<|ai @fu.eq_1<|ai @gR.eq_1<|@wC.eq_1):=⟨@w,@BT,@bK.eq_1,@yJ,@fu.eq_1,@gR.eq_1,@wC.eq_1⟩
theorem AQ:bX prog 29 kA:=bX.gP (mode := .clean) tok MI mixed func29 (by kernel_rfl) (fun _ _=>rfl) (fun _=>by kernel_rfl) fun⟨p0,p1⟩ r O=>by
 replace O:pg p0 p1=some r:=O;apply aG rfl ntmps29 results29;simp only[gQ];unfold pg at O;obtain⟨r1,U,O⟩:=ae O;try simp only[hZ,seval,U]
 obtain⟨o2,aq,O⟩:=ae O;refine bB 0 (fun s t H e=>match s with|X=>∃Y:Nat,∃Z:Nat,∃ad:Nat,t 2=.ptr 2 Y 0∧t 3=.ptr 3 Z 0∧t 4=.ptr 4 ad 0∧t 13=.bool X∧H 2=some ⟨Y,42,[.int .i64 p0.cv.aj,.sl false false p0.cv.aa.length (ab (eI .i64) p0.cv.aa),.int .i64 p0.cu.aj,.sl false false p0.cu.aa.length (ab (eI .i64) p0.cu.aa)],false,false,false⟩∧H 3=some ⟨Z,42,[.int .i64 p1.cv.aj,.sl false false p1.cv.aa.length (ab (eI .i64) p1.cv.aa),.int .i64 p1.cu.aj,.sl false false p1.cu.aa.length (ab (eI .i64) p1.cu.aa)],false,false,false⟩∧H 4=some ⟨ad,42,[.int .i64 0,.sl true true 0 [],.int .i64 0,.sl true true 0 []],false,false,false⟩) (fun s=>s=o2) ?_ ?_
 ·rintro X t H e ⟨Y,Z,ad,ag⟩ rfl;try dsimp only at O
  try simp only[hZ,seval,U,ag]
  apply sp ak O<;>intro _ O
  ·cases O;try simp only[hZ,seval,U,ag]
  ·obtain⟨r4,ah,O⟩:=ae O;obtain⟨r5,ai,O⟩:=ae O;obtain⟨r6,al,O⟩:=ae O;try simp only[hZ,seval,U,ag,ah,ai,al]
   refine bH (by kernel_rfl) ?_;cases O;try simp only[hZ,seval,U,ag,ah,ai,al]
 ·clear O;have O:=aq;try simp only[hZ,seval,U]
  apply sp aP O<;>intro _ O
  ·cases O;try simp only[hZ,seval,U]
   rw[an];refine⟨_,rfl,?_⟩;refine⟨0,0,0,?_⟩;and_intros<;>first|rfl|(simp only[hZ,seval,U]<;>rfl)
  ·obtain⟨r8,ao,O⟩:=ae O;cases O;try simp only[hZ,seval,U,ao]
   rw[an];refine⟨_,rfl,?_⟩;refine⟨0,0,0,?_⟩;and_intros<;>first|rfl|(simp only[hZ,seval,U,ao]<;>rfl)
def nA:=mkM 74 (bD aF) (ie (mS (eI .i64)) (dT (bD b9))) (fun (l:(List ((Int×Int)×aw))) (x:(List Int)×bY)=>gX l x.1 x.2) (fun r:Unit =>.clean (.tup []))
theorem Bu (p0:(List ((Int×Int)×aw))) (p1:(List Int)) (O:(List fI)) (U:(List s7)) (X:(List (List aw))) (Y:(List fQ)) (Z:(List Int)):nA (some (.mp 0 0,⟨0,74,[.mpc (dH p0) (fC (bD aF) p0)],false,true,true⟩)) [.sl false false p1.length (ab (eI .i64) p1),.agg [.sl false false O.length (ab bh O),.sl false false U.length (ab dU U),.sl false false X.length (ab (jW aF) X),.sl false false Y.length (ab fk Y),.sl false false Z.length (ab (eI .i64) Z)]]=(gX p0 p1 (bY.mk (fH.mk O U X) Y Z)).map fun r=>(.clean (.tup []),some ⟨0,74,[.mpc (dH r.1) (fC (bD aF) r.1)],false,true,true⟩):=ade _ _ _ _ _ p0 (p1,(bY.mk (fH.mk O U X) Y Z))
def kr:Env:=(Am.ext (Am.ext (Am.ext (Am.ext bm 29 false kA) 48 false dt) 71 false uG) 72 false lZ)
theorem zo:bG prog kr:=((((bG.none.add AQ false).add lG false).add Q9 false).add Ep false)
theorem aL:type_of% (ai @w<|ai @sX<|ai @kA.eq_1<|ai @BT<|ai @dt.eq_1<|ai @Uc<|ai @uG.eq_1<|ai @lZ.eq_1<|@kr.eq_1):=⟨@w,@sX,@kA.eq_1,@BT,@dt.eq_1,@Uc,@uG.eq_1,@lZ.eq_1,@kr.eq_1⟩
theorem Bk (p0:(List ((Int×Int)×aw))) (p1:(List Int)) (Z:bY) (r:(List ((Int×Int)×aw))×(Unit)) (hh:gX p0 p1 Z=some r):jY .clean tab kr FU Tryz.f41 (some (.mp 0 0,⟨0,74,[.mpc (dH p0) (fC (bD aF) p0)],false,true,true⟩)) [.sl false false p1.length (ab (eI .i64) p1),.agg [.sl false false Z.ao.al.length (ab bh Z.ao.al),.sl false false Z.ao.aJ.length (ab dU Z.ao.aJ),.sl false false Z.ao.aD.length (ab (jW aF) Z.ao.aD),.sl false false Z.a7.length (ab fk Z.a7),.sl false false Z.aA.length (ab (eI .i64) Z.aA)]]=some (.clean (.tup []),some ⟨0,74,[.mpc (dH r.1) (fC (bD aF) r.1)],false,true,true⟩):=by
 apply PO rfl ntmps41 results41;unfold gX at hh;try simp only[aL,seval]
 obtain⟨bq,a6,hh⟩:=ae hh;refine aC (fun s t H e=>match s with|(ai,a1)=>∃aI:Nat,t 0=.mp 0 0∧t 1=.sl false false p1.length (ab (eI .i64) p1)∧t 5=.ptr 5 aI 0∧t 20=.sl false false Z.ao.al.length (ab bh Z.ao.al)∧t 21=.int .i64 (Z.ao.al.length:Int)∧t 22=.int .i64 ai∧H 0=some ⟨0,74,[.mpc (dH a1) (fC (bD aF) a1)],false,true,true⟩∧H 5=some ⟨aI,55,[.sl false false Z.ao.al.length (ab bh Z.ao.al),.sl false false Z.ao.aJ.length (ab dU Z.ao.aJ),.sl false false Z.ao.aD.length (ab (jW aF) Z.ao.aD),.sl false false Z.a7.length (ab fk Z.a7),.sl false false Z.aA.length (ab (eI .i64) Z.aA)],false,false,false⟩) (fun o x t H e=>match o with|aK=>x=.exit 0∧t 0=.mp 0 0∧H 0=some ⟨0,74,[.mpc (dH aK) (fC (bD aF) aK)],false,true,true⟩) a6 ?_ ?_ ?_
 ·refine⟨1,?_⟩;and_intros<;>first|rfl|(simp only[aL,seval]<;>rfl)
 ·rintro⟨ai,a1⟩ t H e ⟨aI,Za⟩ c hh;simp only[iu]at hh;try simp only[aL,seval,Za]
  apply sp ak hh<;>intro _ hh
  ·obtain⟨bu,a8,hh⟩:=ae hh;have O:=bn bh a8;simp only[bS]at O;try simp only[aL,seval,Za,O]
   apply sp ak hh<;>intro _ hh
   ·cases hh;try simp only[aL,seval,Za,O]
    apply iS;refine⟨aI,?_⟩;and_intros<;>first|rfl|(simp only[aL,seval,Za,O]<;>rfl)
   ·obtain⟨aW,ba,hh⟩:=ae hh;have U:=bn fk ba;simp only[bS]at U;obtain⟨bw,bb,hh⟩:=ae hh;have X:=bn (eI .i64) bb;simp only[bS]at X;obtain⟨ah,Y,hh⟩:=ae hh;try simp only[aL,seval,Za,O,U,X,Y]
    refine bH (by kernel_rfl) ?_;try simp only[aL,seval,Za,O,U,X,Y]
    obtain⟨br,bc,hh⟩:=ae hh;refine aC (fun s t H e=>match s with|(aE,aM)=>∃aH:Nat,∃aO:Nat,∃aR:Nat,t 0=.mp 0 0∧t 1=.sl false false p1.length (ab (eI .i64) p1)∧t 5=.ptr 5 aH 0∧t 6=.int .i64 ai∧t 8=.ptr 8 aO 0∧t 9=.ptr 9 aR 0∧t 20=.sl false false Z.ao.al.length (ab bh Z.ao.al)∧t 21=.int .i64 (Z.ao.al.length:Int)∧t 22=.int .i64 ai∧t 49=.sl false false Z.ao.aJ.length (ab dU Z.ao.aJ)∧t 50=.int .i64 (Z.ao.aJ.length:Int)∧t 51=.int .i64 aE∧H 0=some ⟨0,74,[.mpc (dH aM) (fC (bD aF) aM)],false,true,true⟩∧H 5=some ⟨aH,55,[.sl false false Z.ao.al.length (ab bh Z.ao.al),.sl false false Z.ao.aJ.length (ab dU Z.ao.aJ),.sl false false Z.ao.aD.length (ab (jW aF) Z.ao.aD),.sl false false Z.a7.length (ab fk Z.a7),.sl false false Z.aA.length (ab (eI .i64) Z.aA)],false,false,false⟩∧H 8=some ⟨aO,57,[.int .i64 aW.bT,.int .i64 aW.aN],false,false,false⟩∧H 9=some ⟨aR,42,[.int .i64 ah.1.cv.aj,.sl false false ah.1.cv.aa.length (ab (eI .i64) ah.1.cv.aa),.int .i64 ah.1.cu.aj,.sl false false ah.1.cu.aa.length (ab (eI .i64) ah.1.cu.aa)],false,false,false⟩) (fun o x t H e=>match o with|aS=>x=.exit 2∧∃aG:Nat,t 0=.mp 0 0∧t 1=.sl false false p1.length (ab (eI .i64) p1)∧t 5=.ptr 5 aG 0∧t 20=.sl false false Z.ao.al.length (ab bh Z.ao.al)∧t 21=.int .i64 (Z.ao.al.length:Int)∧t 22=.int .i64 ai∧H 0=some ⟨0,74,[.mpc (dH aS) (fC (bD aF) aS)],false,true,true⟩∧H 5=some ⟨aG,55,[.sl false false Z.ao.al.length (ab bh Z.ao.al),.sl false false Z.ao.aJ.length (ab dU Z.ao.aJ),.sl false false Z.ao.aD.length (ab (jW aF) Z.ao.aD),.sl false false Z.a7.length (ab fk Z.a7),.sl false false Z.aA.length (ab (eI .i64) Z.aA)],false,false,false⟩) bc ?_ ?_ ?_
    ·refine⟨aI,e+1+1+1,e+1+1+1+1,?_⟩;and_intros<;>first|rfl|(simp only[aL,seval,Za,O,U,X,Y]<;>rfl)
    ·rintro⟨aE,aM⟩ t H e ⟨aH,aO,aR,Ze⟩ c hh;simp only[gn]at hh;try simp only[aL,seval,O,U,X,Y,Ze]
     apply sp ak hh<;>intro _ hh
     ·obtain⟨aX,bd,hh⟩:=ae hh;have ad:=bn dU bd;simp only[bS]at ad;try simp only[aL,seval,O,U,X,Y,Ze,ad]
      obtain⟨bs,bf,hh⟩:=ae hh;refine bB 0 (fun s t H e=>match s with|aT=>∃av:Nat,∃ax:Nat,∃ay:Nat,∃aB:Nat,t 0=.mp 0 0∧t 1=.sl false false p1.length (ab (eI .i64) p1)∧t 5=.ptr 5 av 0∧t 6=.int .i64 ai∧t 8=.ptr 8 ax 0∧t 9=.ptr 9 ay 0∧t 11=.int .i64 aE∧t 12=.ptr 12 aB 0∧t 20=.sl false false Z.ao.al.length (ab bh Z.ao.al)∧t 21=.int .i64 (Z.ao.al.length:Int)∧t 22=.int .i64 ai∧t 49=.sl false false Z.ao.aJ.length (ab dU Z.ao.aJ)∧t 50=.int .i64 (Z.ao.aJ.length:Int)∧t 51=.int .i64 aE∧t 71=.bool aT∧H 0=some ⟨0,74,[.mpc (dH aM) (fC (bD aF) aM)],false,true,true⟩∧H 5=some ⟨av,55,[.sl false false Z.ao.al.length (ab bh Z.ao.al),.sl false false Z.ao.aJ.length (ab dU Z.ao.aJ),.sl false false Z.ao.aD.length (ab (jW aF) Z.ao.aD),.sl false false Z.a7.length (ab fk Z.a7),.sl false false Z.aA.length (ab (eI .i64) Z.aA)],false,false,false⟩∧H 8=some ⟨ax,57,[.int .i64 aW.bT,.int .i64 aW.aN],false,false,false⟩∧H 9=some ⟨ay,42,[.int .i64 ah.1.cv.aj,.sl false false ah.1.cv.aa.length (ab (eI .i64) ah.1.cv.aa),.int .i64 ah.1.cu.aj,.sl false false ah.1.cu.aa.length (ab (eI .i64) ah.1.cu.aa)],false,false,false⟩∧H 12=some ⟨aB,97,[.int .i64 aX.bl,.int .i64 aX.aQ,.int .i64 aX.aN,.str aX.Dh],false,false,false⟩) (fun s=>s=bs) ?_ ?_
      ·rintro aT t H e ⟨av,ax,ay,aB,au⟩ rfl;try dsimp only at hh
       try simp only[aL,seval,O,U,X,Y,ad,au]
       apply sp ak hh<;>intro _ hh
       ·cases hh;try simp only[aL,seval,O,U,X,Y,ad,au]
        apply iS;refine⟨av,ax,ay,?_⟩;and_intros<;>first|rfl|(simp only[aL,seval,O,U,X,Y,ad,au]<;>rfl)
       ·obtain⟨bx,bg,hh⟩:=ae hh;have ag:=bn (eI .i64) bg;simp only[bS]at ag;try simp only[aL,seval,O,U,X,Y,ad,au,ag]
        refine bH (by kernel_rfl) ?_;obtain⟨bz,bj,hh⟩:=ae hh;have aq:=bn (jW aF) bj;simp only[bS]at aq;obtain⟨bA,bk,hh⟩:=ae hh;have ar:=bn aF bk;simp only[bS]at ar;obtain⟨bE,az,hh⟩:=ae hh;try simp only[aL,seval,O,U,X,Y,ad,au,ag,aq,ar,az]
        refine bH (by kernel_rfl) ?_;try simp only[aL,seval,O,U,X,Y,ad,au,ag,aq,ar,az]
        apply sp ak hh<;>intro _ hh
        ·obtain⟨bF,aY,hh⟩:=ae hh;cases hh;try simp only[aL,seval,O,U,X,Y,ad,au,ag,aq,ar,az,aY]
         apply iS;refine⟨av,ax,ay,?_⟩;and_intros<;>first|rfl|(simp only[aL,seval,O,U,X,Y,ad,au,ag,aq,ar,az,aY]<;>rfl)
        ·cases hh;try simp only[aL,seval,O,U,X,Y,ad,au,ag,aq,ar,az]
         apply iS;refine⟨av,ax,ay,?_⟩;and_intros<;>first|rfl|(simp only[aL,seval,O,U,X,Y,ad,au,ag,aq,ar,az]<;>rfl)
      ·clear hh;have hh:=bf;try simp only[aL,seval,O,U,X,Y,Ze,ad]
       apply sp aP hh<;>intro _ hh
       ·cases hh;try simp only[aL,seval,O,U,X,Y,Ze,ad]
        rw[an];refine⟨_,rfl,?_⟩;refine⟨aH,aO,aR,e+1,?_⟩;and_intros<;>first|rfl|(simp only[aL,seval,O,U,X,Y,Ze,ad]<;>rfl)
       ·obtain⟨bG,bm,hh⟩:=ae hh;have aU:=bn (jW aF) bm;simp only[bS]at aU;obtain⟨bI,bo,hh⟩:=ae hh;have aV:=bn aF bo;simp only[bS]at aV;obtain⟨bJ,aZ,hh⟩:=ae hh;cases hh;try simp only[aL,seval,O,U,X,Y,Ze,ad,aU,aV,aZ]
        rw[an];refine⟨_,rfl,?_⟩;refine⟨aH,aO,aR,e+1,?_⟩;and_intros<;>first|rfl|(simp only[aL,seval,O,U,X,Y,Ze,ad,aU,aV,aZ]<;>rfl)
     ·cases hh;try simp only[aL,seval,O,U,X,Y,Ze]
      apply ka;refine⟨rfl,⟨aH,?_⟩⟩;and_intros<;>first|rfl|(simp only[aL,seval,O,U,X,Y,Ze]<;>rfl)
    ·rintro x t H e hx;obtain⟨aS,rfl⟩:∃z,z=br:=⟨_,rfl⟩;dsimp only at hx hh;obtain⟨rfl,⟨aG,bp⟩⟩:=hx;cases hh;try simp only[aL,seval,O,U,X,Y,bp]
     apply iS;refine⟨aG,?_⟩;and_intros<;>first|rfl|(simp only[aL,seval,O,U,X,Y,bp]<;>rfl)
  ·cases hh;try simp only[aL,seval,Za]
   apply ka;refine⟨rfl,?_⟩;and_intros<;>first|rfl|(simp only[aL,seval,Za]<;>rfl)
 ·rintro x t H e hx;obtain⟨aK,rfl⟩:∃z,z=bq:=⟨_,rfl⟩;dsimp only at hx hh;obtain⟨rfl,bt⟩:=hx;cases hh;try simp only[aL,seval,bt]
theorem zy:bX prog 41 nA:=bX.Ys tok zo mixed func41 (by kernel_rfl) ⟨by kernel_rfl,by kernel_rfl⟩ (fun _=>aiG (by kernel_rfl)) (fun l x l' r h=>Bk l x.1 x.2 (l',r) h)
def nO (l:Option (D×Row)) (d:List D):=dV (ie (bD bj) (dT (bD bj))) (fun x:bJ×bJ=>mv x.1 x.2) (fun r:Int =>.clean (.int .i64 r)) l d
theorem aeI {β:Type} {F:bJ×bJ->Option β} {R:β->RK} (Z:Int) (aa:Int) (ad:Int) (O:(List Int)) (ae:Int) (U:(List Int)) (ag:Int) (ah:Int) (ai:Int) (X:(List Int)) (aj:Int) (Y:(List Int)):dV (ie (bD bj) (dT (bD bj))) F R none [.agg [.int .i64 Z,.int .i64 aa,.int .i64 ad,.sl false false O.length (ab (eI .i64) O),.int .i64 ae,.sl false false U.length (ab (eI .i64) U)],.agg [.int .i64 ag,.int .i64 ah,.int .i64 ai,.sl false false X.length (ab (eI .i64) X),.int .i64 aj,.sl false false Y.length (ab (eI .i64) Y)]]=(F ((bJ.mk Z aa (aw.mk (aB.mk ad O) (aB.mk ae U))),(bJ.mk ag ah (aw.mk (aB.mk ai X) (aB.mk aj Y))))).map fun r=>(R r,none):=cP _ _ _ ((bJ.mk Z aa (aw.mk (aB.mk ad O) (aB.mk ae U))),(bJ.mk ag ah (aw.mk (aB.mk ai X) (aB.mk aj Y))))
def rZ:Env:=(Am.ext (Am.ext bm 75 false xi) 76 false eP)
theorem FL:bG prog rZ:=((bG.none.add Ii false).add py false)
theorem yI:type_of% (ai @w<|ai @q8<|ai @Uc<|ai @eP.eq_1<|@rZ.eq_1):=⟨@w,@q8,@Uc,@eP.eq_1,@rZ.eq_1⟩
theorem FP:bX prog 43 nO:=bX.gP (mode := .clean) tok FL mixed func43 (by kernel_rfl) (fun _ _=>rfl) (fun _=>by kernel_rfl) fun⟨Z,p1⟩ r O=>by
 replace O:mv Z p1=some r:=O;apply aG rfl ntmps43 results43;simp only[gQ];unfold mv at O;obtain⟨r1,U,O⟩:=ae O;obtain⟨r2,X,O⟩:=ae O;have i3:=q8 ([r1,r2]);simp only[bg,bS,List.length_cons,List.length_nil,ahE,Nat.reduceAdd,aiY]at i3;obtain⟨r4,Y,O⟩:=ae O;try simp only[yI,seval,U,X,i3,Y]
 refine bH (by kernel_rfl) ?_;cases O;try simp only[yI,seval,U,X,i3,Y]
def qK (l:Option (D×Row)) (d:List D):=dV (dT (bD nY)) (fun x:bC=>qE x) (fun r:fA×Int =>.clean (.tup [.agg [.int .i64 r.1.aA,.sl false false r.1.aK.length (ab bj r.1.aK)],.int .i64 r.2])) l d
def xO:Env:=(Am.sW 9 (65,6,1) (Am.ext (Am.ext bm 10 false ji) 41 true nA))
theorem Vq:bG prog xO:=(bG.sW ((bG.none.add yf false).add zy true) 9 (65,6,1))
theorem iA:type_of% (ai @w<|ai @Dk<|ai @V2<|ai @ji.eq_1<|@xO.eq_1):=⟨@w,@Dk,@V2,@ji.eq_1,@xO.eq_1⟩
theorem Yv (Z:bC) (r:fA×Int) (U:qE Z=some r):R3 tab xO FU 5 Tryz.f12 [.agg [.sl false false Z.ah.length (ab (eI .i64) Z.ah),.sl false false Z.au.length (ab b9 Z.au)]] (wz tab Tryz.f12.results.toList (.clean (.tup [.agg [.int .i64 r.1.aA,.sl false false r.1.aK.length (ab bj r.1.aK)],.int .i64 r.2]),none) (adU r)):=by
 apply Wn rfl ntmps12 results12;simp only[JQ,JR];unfold qE at U;obtain⟨r1,O,U⟩:=ae U;try simp only[iA,seval,O]
 apply sp ak U<;>intro _ U
 ·cases U;try simp only[iA,seval,O]
 ·try simp only[iA,seval,O]
  obtain⟨o7,ay,U⟩:=ae U;refine aC (fun s t H e=>match s with|(ar,ad)=>∃ai:Nat,∃aj:Nat,∃aa:Nat,t 1=.ptr 1 ai 0∧t 2=.ptr 2 aj 0∧t 6=.mp 21 aa∧t 23=.sl false false Z.au.length (ab b9 Z.au)∧t 24=.int .i64 (Z.au.length:Int)∧t 25=.int .i64 ar∧H 1=some ⟨ai,25,[.sl false false Z.ah.length (ab (eI .i64) Z.ah),.sl false false Z.au.length (ab b9 Z.au)],false,false,false⟩∧H 2=some ⟨aj,28,[.int .i64 0,.sl true true 0 []],false,false,false⟩∧H 21=some ⟨aa,74,[.mpc (dH ad) (fC (bD aF) ad)],false,true,true⟩) (fun o x t H e=>match o with|X=>x=.exit 0∧∃an:Nat,∃ag:Nat,∃Y:Nat,t 1=.ptr 1 an 0∧t 2=.ptr 2 ag 0∧t 6=.mp 21 Y∧H 1=some ⟨an,25,[.sl false false Z.ah.length (ab (eI .i64) Z.ah),.sl false false Z.au.length (ab b9 Z.au)],false,false,false⟩∧H 2=some ⟨ag,28,[.int .i64 0,.sl true true 0 []],false,false,false⟩∧H 21=some ⟨Y,74,[.mpc (dH X) (fC (bD aF) X)],false,true,true⟩) ay ?_ ?_ ?_
  ·refine⟨0,0,3,?_⟩;and_intros<;>first|rfl|(simp only[iA,seval,O]<;>rfl)
  ·rintro⟨ar,ad⟩ t H e ⟨ai,aj,aa,Za⟩ c U;simp only[oE]at U;try simp only[iA,seval,O,Za]
   apply sp ak U<;>intro _ U
   ·obtain⟨x9,az,U⟩:=ae U;have ax:=bn b9 az;simp only[bS]at ax;have i10:=Bu ad Z.ah x9.ao.al x9.ao.aJ x9.ao.aD x9.a7 x9.aA;try simp only[bS]at i10
    obtain⟨aB,av,U⟩:=ae U;cases U;try simp only[iA,seval,O,Za,ax,i10,av]
    apply iS;refine⟨ai,aj,aa,?_⟩;and_intros<;>first|rfl|(simp only[iA,seval,O,Za,ax,i10,av]<;>rfl)
   ·cases U;try simp only[iA,seval,O,Za]
    apply ka;refine⟨rfl,⟨ai,aj,aa,?_⟩⟩;and_intros<;>first|rfl|(simp only[iA,seval,O,Za]<;>rfl)
  ·rintro x t H e hx;obtain⟨X,rfl⟩:∃z,z=o7:=⟨_,rfl⟩;dsimp only at hx U;obtain⟨rfl,⟨an,ag,Y,aq⟩⟩:=hx;try simp only[iA,seval,O,aq]
   apply sp ak U<;>intro _ U
   ·cases U;try simp only[iA,seval,O,aq]
   ·have aw:bump (4*(e+1)+2) (e+1)=some (4*(e+1)+3):=Xc rfl;try simp only[iA,seval,O,aq,aw]
    rw[FH];refine⟨X,(Z.ah.length:Int),Y,e+1,ag,(4*(e+1)+3),?_,?_,?_,?_,?_,?_,by omega,U⟩;all_goals first|rfl|(simp only[iA,seval,O,aq,aw]<;>rfl)
theorem Ij:bX prog 12 qK:=bX.front tok Vq mixed func12 rfl (by kernel_rfl) ⟨by kernel_rfl,by kernel_rfl⟩ (fun _=>aiG (by kernel_rfl)) (aiG (by kernel_rfl)) (fun x r h=>Yv x r h) (fun r=>YG r)
def mN (l:Option (D×Row)) (d:List D):=dV (ie (bD dF) (dT (bD dF))) (fun x:aB×aB=>jw x.1 x.2) (fun r:Bool =>.clean (.bool r)) l d
theorem Ey:bX prog 54 mN:=bX.gP (mode := .clean) tok bG.none mixed func54 (by kernel_rfl) (fun _ _=>rfl) (fun _=>by kernel_rfl) fun⟨p0,p1⟩ r O=>by
 replace O:jw p0 p1=some r:=O;apply aG rfl ntmps54 results54;simp only[gQ];unfold jw at O;try simp only[w,seval]
 obtain⟨o1,aq,O⟩:=ae O;refine bB 0 (fun s t H e=>match s with|ad=>∃Y:Nat,∃Z:Nat,t 2=.ptr 2 Y 0∧t 3=.ptr 3 Z 0∧t 19=.bool ad∧H 2=some ⟨Y,40,[.int .i64 p0.aj,.sl false false p0.aa.length (ab (eI .i64) p0.aa)],false,false,false⟩∧H 3=some ⟨Z,40,[.int .i64 p1.aj,.sl false false p1.aa.length (ab (eI .i64) p1.aa)],false,false,false⟩) (fun s=>s=o1) ?_ ?_
 ·rintro ad t H e ⟨Y,Z,ag⟩ rfl;try dsimp only at O
  try simp only[w,seval,ag]
  apply sp ak O<;>intro _ O
  ·cases O;try simp only[w,seval,ag]
  ·try simp only[w,seval,ag]
   obtain⟨o7,ar,O⟩:=ae O;refine aC (fun s t H e=>match s with|al=>∃ah:Nat,∃ai:Nat,t 2=.ptr 2 ah 0∧t 3=.ptr 3 ai 0∧t 5=.int .i64 al∧H 2=some ⟨ah,40,[.int .i64 p0.aj,.sl false false p0.aa.length (ab (eI .i64) p0.aa)],false,false,false⟩∧H 3=some ⟨ai,40,[.int .i64 p1.aj,.sl false false p1.aa.length (ab (eI .i64) p1.aa)],false,false,false⟩) (fun o x t H e=>match o with|(.inl _)=>x=.exit 0|(.inr r)=>x=.ret∧fF .clean tab none [.tmp 4] ⟨t,EH H,e⟩=some (.clean (.bool r),none)) ar ?_ ?_ ?_
   ·refine⟨Y,Z,?_⟩;and_intros<;>first|rfl|(simp only[w,seval,ag]<;>rfl)
   ·rintro al t H e ⟨ah,ai,Zb⟩ c O;simp only[lK]at O;try simp only[w,seval,Zb]
    apply sp ak O<;>intro _ O
    ·obtain⟨x9,au,O⟩:=ae O;have X:=bn (eI .i64) au;simp only[bS]at X;obtain⟨av,ao,O⟩:=ae O;have U:=bn (eI .i64) ao;simp only[bS]at U;try simp only[w,seval,Zb,X,U]
     refine bH (by kernel_rfl) ?_;try simp only[w,seval,Zb,X,U]
     apply sp ak O<;>intro _ O
     ·cases O;try simp only[w,seval,Zb,X,U]
      refine qH ⟨rfl,?_⟩;try simp only[w,seval,Zb,X,U]
     ·cases O;try simp only[w,seval,Zb,X,U]
      apply iS;refine⟨ah,ai,?_⟩;and_intros<;>first|rfl|(simp only[w,seval,Zb,X,U]<;>rfl)
    ·cases O;try simp only[w,seval,Zb]
     apply ka;exact rfl
   ·rintro x t H e hx;rcases o7 with _|rb
    ·dsimp only at hx O;subst hx;cases O;try simp only[w,seval]
    ·dsimp only at hx O;obtain⟨rfl,hE⟩:=hx;cases O;try simp only[bd,aX,bk,cJ,cI,ca,cc]
     exact hE
 ·clear O;have O:=aq;try simp only[w,seval]
  apply sp aP O<;>intro _ O
  ·cases O;try simp only[w,seval]
   rw[an];refine⟨_,rfl,?_⟩;refine⟨0,0,?_⟩;and_intros<;>first|rfl|(simp only[w,seval]<;>rfl)
  ·cases O;try simp only[w,seval]
   rw[an];refine⟨_,rfl,?_⟩;refine⟨0,0,?_⟩;and_intros<;>first|rfl|(simp only[w,seval]<;>rfl)
def gT (l:Option (D×Row)) (d:List D):=dV (ie (bD aF) (dT (bD aF))) (fun x:aw×aw=>lJ x.1 x.2) (fun r:Bool =>.clean (.bool r)) l d
def wO:Env:=(Am.ext bm 54 false mN)
theorem MV:bG prog wO:=(bG.none.add Ey false)
theorem xf:type_of% (ai @w<|ai @yJ<|ai @mN.eq_1<|@wO.eq_1):=⟨@w,@yJ,@mN.eq_1,@wO.eq_1⟩
theorem ud:bX prog 17 gT:=bX.gP (mode := .clean) tok MV mixed func17 (by kernel_rfl) (fun _ _=>rfl) (fun _=>by kernel_rfl) fun⟨Y,Z⟩ r O=>by
 replace O:lJ Y Z=some r:=O;apply aG rfl ntmps17 results17;simp only[gQ];unfold lJ at O;obtain⟨r1,U,O⟩:=ae O;try simp only[xf,seval,U]
 apply sp e7 O<;>intro _ O
 ·obtain⟨r3,X,O⟩:=ae O;cases O;try simp only[xf,seval,U,X]
 ·cases O;try simp only[xf,seval,U]
def wb (l:Option (D×Row)) (d:List D):=dV (ie (bD tz) (dT (bD tz))) (fun x:fA×fA=>uk x.1 x.2) (fun r:Bool =>.clean (.bool r)) l d
def wP:Env:=(Am.ext bm 17 false gT)
theorem MW:bG prog wP:=(bG.none.add ud false)
theorem bR:type_of% (ai @w<|ai @sX<|ai @gT.eq_1<|@wP.eq_1):=⟨@w,@sX,@gT.eq_1,@wP.eq_1⟩
theorem OE:bX prog 14 wb:=bX.gP (mode := .clean) tok MW mixed func14 (by kernel_rfl) (fun _ _=>rfl) (fun _=>by kernel_rfl) fun⟨p0,p1⟩ r X=>by
 replace X:uk p0 p1=some r:=X;apply aG rfl ntmps14 results14;simp only[gQ];unfold uk at X;try simp only[bR,seval]
 obtain⟨o1,au,X⟩:=ae X;refine bB 0 (fun s t H e=>match s with|ag=>∃aa:Nat,∃ad:Nat,t 2=.ptr 2 aa 0∧t 3=.ptr 3 ad 0∧t 19=.bool ag∧H 2=some ⟨aa,28,[.int .i64 p0.aA,.sl false false p0.aK.length (ab bj p0.aK)],false,false,false⟩∧H 3=some ⟨ad,28,[.int .i64 p1.aA,.sl false false p1.aK.length (ab bj p1.aK)],false,false,false⟩) (fun s=>s=o1) ?_ ?_
 ·rintro ag t H e ⟨aa,ad,aj⟩ rfl;try dsimp only at X
  try simp only[bR,seval,aj]
  apply sp ak X<;>intro _ X
  ·cases X;try simp only[bR,seval,aj]
  ·try simp only[bR,seval,aj]
   obtain⟨av,aq,X⟩:=ae X;refine aC (fun s t H e=>match s with|ar=>∃al:Nat,∃ao:Nat,t 2=.ptr 2 al 0∧t 3=.ptr 3 ao 0∧t 5=.int .i64 ar∧H 2=some ⟨al,28,[.int .i64 p0.aA,.sl false false p0.aK.length (ab bj p0.aK)],false,false,false⟩∧H 3=some ⟨ao,28,[.int .i64 p1.aA,.sl false false p1.aK.length (ab bj p1.aK)],false,false,false⟩) (fun o x t H e=>match o with|(.inl _)=>x=.exit 0|(.inr r)=>x=.ret∧fF .clean tab none [.tmp 4] ⟨t,EH H,e⟩=some (.clean (.bool r),none)) aq ?_ ?_ ?_
   ·refine⟨aa,ad,?_⟩;and_intros<;>first|rfl|(simp only[bR,seval,aj]<;>rfl)
   ·rintro ar t H e ⟨al,ao,Z⟩ c X;simp only[AX]at X;try simp only[bR,seval,Z]
    apply sp ak X<;>intro _ X
    ·obtain⟨aw,ah,X⟩:=ae X;have O:=bn bj ah;simp only[bS]at O;obtain⟨ax,ai,X⟩:=ae X;have U:=bn bj ai;simp only[bS]at U;try simp only[bR,seval,Z,O,U]
     apply sp pG X<;>intro _ X
     ·try simp only[bR,seval,Z,O,U]
      refine bH (by kernel_rfl) ?_;cases X;try simp only[bR,seval,Z,O,U]
      refine qH ⟨rfl,?_⟩;try simp only[bR,seval,Z,O,U]
     ·have O:=bn bj ah;simp only[bS]at O;have U:=bn bj ai;simp only[bS]at U;try simp only[bR,seval,Z,O,U,O,U]
      apply sp pG X<;>intro _ X
      ·try simp only[bR,seval,Z,O,U,O,U]
       refine bH (by kernel_rfl) ?_;cases X;try simp only[bR,seval,Z,O,U,O,U]
       refine qH ⟨rfl,?_⟩;try simp only[bR,seval,Z,O,U,O,U]
      ·have O:=bn bj ah;simp only[bS]at O;have U:=bn bj ai;simp only[bS]at U;obtain⟨ay,Y,X⟩:=ae X;try simp only[bR,seval,Z,O,U,O,U,O,U,Y]
       refine bH (by kernel_rfl) ?_;try simp only[bR,seval,Z,O,U,O,U,O,U,Y]
       apply sp ak X<;>intro _ X
       ·cases X;try simp only[bR,seval,Z,O,U,O,U,O,U,Y]
        refine qH ⟨rfl,?_⟩;try simp only[bR,seval,Z,O,U,O,U,O,U,Y]
       ·cases X;try simp only[bR,seval,Z,O,U,O,U,O,U,Y]
        apply iS;refine⟨al,ao,?_⟩;and_intros<;>first|rfl|(simp only[bR,seval,Z,O,U,O,U,O,U,Y]<;>rfl)
    ·cases X;try simp only[bR,seval,Z]
     apply ka;exact rfl
   ·rintro x t H e hx;rcases av with _|rb
    ·dsimp only at hx X;subst hx;cases X;try simp only[bR,seval]
    ·dsimp only at hx X;obtain⟨rfl,hE⟩:=hx;cases X;try simp only[bd,aX,bk,cJ,cI,ca,cc]
     exact hE
 ·clear X;have X:=au;try simp only[bR,seval]
  apply sp aP X<;>intro _ X
  ·cases X;try simp only[bR,seval]
   rw[an];refine⟨_,rfl,?_⟩;refine⟨0,0,?_⟩;and_intros<;>first|rfl|(simp only[bR,seval]<;>rfl)
  ·cases X;try simp only[bR,seval]
   rw[an];refine⟨_,rfl,?_⟩;refine⟨0,0,?_⟩;and_intros<;>first|rfl|(simp only[bR,seval]<;>rfl)
def rv (l:Option (D×Row)) (d:List D):=dV (ie (bD aF) (dT (bD aF))) (fun x:aw×aw=>qT x.1 x.2) (fun r:aw×Int =>.clean (.tup [.agg [.int .i64 r.1.cv.aj,.sl false false r.1.cv.aa.length (ab (eI .i64) r.1.cv.aa),.int .i64 r.1.cu.aj,.sl false false r.1.cu.aa.length (ab (eI .i64) r.1.cu.aa)],.int .i64 r.2])) l d
def wE:Env:=(Am.ext (Am.ext (Am.ext bm 27 false ky) 47 false bK) 55 false lW)
theorem MK:bG prog wE:=(((bG.none.add AO false).add gY false).add Eg false)
theorem ia:type_of% (ai @w<|ai @sX<|ai @ky.eq_1<|ai @BT<|ai @bK.eq_1<|ai @rq<|ai @lW.eq_1<|@wE.eq_1):=⟨@w,@sX,@ky.eq_1,@BT,@bK.eq_1,@rq,@lW.eq_1,@wE.eq_1⟩
theorem Ox:bX prog 26 rv:=bX.gP (mode := .clean) tok MK mixed func26 (by kernel_rfl) (fun _ _=>rfl) (fun _=>by kernel_rfl) fun⟨p0,p1⟩ r O=>by
 replace O:qT p0 p1=some r:=O;apply aG rfl ntmps26 results26;simp only[gQ];unfold qT at O;obtain⟨r1,U,O⟩:=ae O;try simp only[ia,seval,U]
 obtain⟨o2,ao,O⟩:=ae O;refine bB 0 (fun s t H e=>match s with|X=>∃Y:Nat,∃Z:Nat,∃ad:Nat,t 2=.ptr 2 Y 0∧t 3=.ptr 3 Z 0∧t 4=.ptr 4 ad 0∧t 13=.bool X∧H 2=some ⟨Y,42,[.int .i64 p0.cv.aj,.sl false false p0.cv.aa.length (ab (eI .i64) p0.cv.aa),.int .i64 p0.cu.aj,.sl false false p0.cu.aa.length (ab (eI .i64) p0.cu.aa)],false,false,false⟩∧H 3=some ⟨Z,42,[.int .i64 p1.cv.aj,.sl false false p1.cv.aa.length (ab (eI .i64) p1.cv.aa),.int .i64 p1.cu.aj,.sl false false p1.cu.aa.length (ab (eI .i64) p1.cu.aa)],false,false,false⟩∧H 4=some ⟨ad,42,[.int .i64 0,.sl true true 0 [],.int .i64 0,.sl true true 0 []],false,false,false⟩) (fun s=>s=o2) ?_ ?_
 ·rintro X t H e ⟨Y,Z,ad,ag⟩ rfl;try dsimp only at O
  try simp only[ia,seval,U,ag]
  apply sp ak O<;>intro _ O
  ·cases O;try simp only[ia,seval,U,ag]
  ·obtain⟨r4,ah,O⟩:=ae O;obtain⟨r5,ai,O⟩:=ae O;try simp only[ia,seval,U,ag,ah,ai]
   refine bH (by kernel_rfl) ?_;cases O;try simp only[ia,seval,U,ag,ah,ai]
 ·clear O;have O:=ao;try simp only[ia,seval,U]
  apply sp aP O<;>intro _ O
  ·cases O;try simp only[ia,seval,U]
   rw[an];refine⟨_,rfl,?_⟩;refine⟨0,0,0,?_⟩;and_intros<;>first|rfl|(simp only[ia,seval,U]<;>rfl)
  ·obtain⟨r7,al,O⟩:=ae O;cases O;try simp only[ia,seval,U,al]
   rw[an];refine⟨_,rfl,?_⟩;refine⟨0,0,0,?_⟩;and_intros<;>first|rfl|(simp only[ia,seval,U,al]<;>rfl)
def fZ (l:Option (D×Row)) (d:List D):=dV (dT (bD tz)) (fun x:fA=>kV x) (fun r:(List aw) =>.clean (.sl false false r.length (ab aF r))) l d
theorem Bx {β:Type} {F:fA->Option β} {R:β->RK} (U:Int) (O:(List bJ)):dV (dT (bD tz)) F R none [.agg [.int .i64 U,.sl false false O.length (ab bj O)]]=(F ((fA.mk U O))).map fun r=>(R r,none):=cP _ _ _ ((fA.mk U O))
def tO:Env:=(Am.ext (Am.ext bm 26 false rv) 83 false kz)
theorem JY:bG prog tO:=((bG.none.add Ox false).add AP false)
theorem du:type_of% (ai @w<|ai @sX<|ai @rv.eq_1<|ai @KT<|ai @kz.eq_1<|@tO.eq_1):=⟨@w,@sX,@rv.eq_1,@KT,@kz.eq_1,@tO.eq_1⟩
theorem sh:bX prog 50 fZ:=bX.gP (mode := .clean) tok JY mixed func50 (by kernel_rfl) (fun _ _=>rfl) (fun _=>by kernel_rfl) fun p0 r U=>by
 replace U:kV p0=some r:=U;apply aG rfl ntmps50 results50;simp only[gQ];unfold kV at U;obtain⟨x1,aS,U⟩:=ae U;obtain⟨X,Y,Z,O,ad⟩:=mk_one aF aS;simp only[bS]at O;try simp only[du,seval,X,Y,Z,O,ad]
 obtain⟨o7,aT,U⟩:=ae U;refine aC (fun s t H e=>match s with|(aI,aM)=>∃ao:Nat,∃aq:Nat,t 1=.ptr 1 ao 0∧t 3=.buf 3 aq 4 0 (aM).length∧t 11=.int .i64 ((x1).length:Int)∧t 12=.int .i64 aI∧H 1=some ⟨ao,28,[.int .i64 p0.aA,.sl false false p0.aK.length (ab bj p0.aK)],false,false,false⟩∧H 3=some ⟨aq,42,ab aF aM,false,true,false⟩) (fun o x t H e=>match o with|ar=>x=.exit 0∧∃au:Nat,∃ai:Nat,t 1=.ptr 1 au 0∧t 3=.buf 3 ai 4 0 (ar).length∧H 1=some ⟨au,28,[.int .i64 p0.aA,.sl false false p0.aK.length (ab bj p0.aK)],false,false,false⟩∧H 3=some ⟨ai,42,ab aF ar,false,true,false⟩) aT ?_ ?_ ?_
 ·refine⟨0,1,?_⟩;and_intros<;>first|rfl|(simp only[du,seval,X,Y,Z,O,ad]<;>rfl)
 ·rintro⟨aI,aM⟩ t H e ⟨ao,aq,Za⟩ c U;simp only[lD]at U;try simp only[du,seval,X,Y,Z,O,ad,Za]
  apply sp ak U<;>intro _ U
  ·obtain⟨r9,aO,U⟩:=ae U;obtain⟨aW,aJ,U⟩:=ae U;have av:=bn aF aJ;simp only[bS]at av;have aH:=fK aF (x':=r9) (fo:=0) (cs:=[.int .i64 r9.cv.aj,.sl false false r9.cv.aa.length (ab (eI .i64) r9.cv.aa),.int .i64 r9.cu.aj,.sl false false r9.cu.aa.length (ab (eI .i64) r9.cu.aa)]) aJ rfl (aiG rfl);simp only[bS,Nat.add_zero]at aH;have aw:=aH;simp only[putCells,List.length_cons,List.length_nil,ahE,Nat.reduceAdd]at aw;cases U;try simp only[du,seval,X,Y,Z,O,ad,Za,aO,av,aH,aw]
   apply iS;refine⟨ao,aq,?_⟩;and_intros<;>first|rfl|(simp only[du,seval,X,Y,Z,O,ad,Za,aO,av,aH,aw]<;>rfl)
  ·cases U;try simp only[du,seval,X,Y,Z,O,ad,Za]
   apply ka;refine⟨rfl,⟨ao,aq,?_⟩⟩;and_intros<;>first|rfl|(simp only[du,seval,X,Y,Z,O,ad,Za]<;>rfl)
 ·rintro x t H e hx;obtain⟨ar,rfl⟩:∃z,z=o7:=⟨_,rfl⟩;dsimp only at hx U;obtain⟨rfl,⟨au,ai,aP⟩⟩:=hx;try simp only[du,seval,X,Y,Z,O,ad,aP]
  obtain⟨aU,aQ,U⟩:=ae U;refine aC (fun s t H e=>match s with|(aL,aN)=>∃ax:Nat,t 3=.buf 3 ax 4 0 (aN).length∧t 21=.sl false false p0.aK.length (ab bj p0.aK)∧t 22=.int .i64 (p0.aK.length:Int)∧t 23=.int .i64 aL∧H 3=some ⟨ax,42,ab aF aN,false,true,false⟩) (fun o x t H e=>match o with|ay=>x=.exit 2∧∃az:Nat,t 3=.buf 3 az 4 0 (ay).length∧H 3=some ⟨az,42,ab aF ay,false,true,false⟩) aQ ?_ ?_ ?_
  ·refine⟨ai,?_⟩;and_intros<;>first|rfl|(simp only[du,seval,X,Y,Z,O,ad,aP]<;>rfl)
  ·rintro⟨aL,aN⟩ t H e ⟨ax,Zb⟩ c U;simp only[lE]at U;try simp only[du,seval,X,Y,Z,O,ad,Zb]
   apply sp ak U<;>intro _ U
   ·obtain⟨aX,aR,U⟩:=ae U;have al:=bn bj aR;simp only[bS]at al;obtain⟨aY,aB,U⟩:=ae U;have ag:=bn aF aB;simp only[bS]at ag;obtain⟨ah,aD,U⟩:=ae U;have ag:=bn aF aB;simp only[bS]at ag;have aE:=fK aF (x':=ah.1) (fo:=0) (cs:=[.int .i64 ah.1.cv.aj,.sl false false ah.1.cv.aa.length (ab (eI .i64) ah.1.cv.aa),.int .i64 ah.1.cu.aj,.sl false false ah.1.cu.aa.length (ab (eI .i64) ah.1.cu.aa)]) aB rfl (aiG rfl);simp only[bS,Nat.add_zero]at aE;have an:=aE;simp only[putCells,List.length_cons,List.length_nil,ahE,Nat.reduceAdd]at an;try simp only[du,seval,X,Y,Z,O,ad,Zb,al,ag,aD,ag,aE,an]
    refine bH (by kernel_rfl) ?_;cases U;try simp only[du,seval,X,Y,Z,O,ad,Zb,al,ag,aD,ag,aE,an]
    apply iS;refine⟨ax,?_⟩;and_intros<;>first|rfl|(simp only[du,seval,X,Y,Z,O,ad,Zb,al,ag,aD,ag,aE,an]<;>rfl)
   ·cases U;try simp only[du,seval,X,Y,Z,O,ad,Zb]
    apply ka;refine⟨rfl,⟨ax,?_⟩⟩;and_intros<;>first|rfl|(simp only[du,seval,X,Y,Z,O,ad,Zb]<;>rfl)
  ·rintro x t H e hx;obtain⟨ay,rfl⟩:∃z,z=aU:=⟨_,rfl⟩;dsimp only at hx U;obtain⟨rfl,⟨az,aV⟩⟩:=hx;cases U;try simp only[du,seval,X,Y,Z,O,ad,aV]
def mJ (l:Option (D×Row)) (d:List D):=dV (dT (bD aF)) (fun x:aw=>nf x) (fun r:Bool =>.clean (.bool r)) l d
def qy:Env:=(Am.ext bm 48 false dt)
theorem Dw:bG prog qy:=(bG.none.add lG false)
theorem F7:type_of% (ai @w<|ai @BT<|ai @dt.eq_1<|@qy.eq_1):=⟨@w,@BT,@dt.eq_1,@qy.eq_1⟩
theorem En:bX prog 51 mJ:=bX.gP (mode := .clean) tok Dw mixed func51 (by kernel_rfl) (fun _ _=>rfl) (fun _=>by kernel_rfl) fun X r O=>by
 replace O:nf X=some r:=O;apply aG rfl ntmps51 results51;simp only[gQ];unfold nf at O;obtain⟨Y,U,O⟩:=ae O;cases O;try simp only[F7,seval,U]
def dN (l:Option (D×Row)) (d:List D):=dV (ie (mS aF) (dT (aFn 51))) (fun x:(List aw)×Unit=>di x.1) (fun r:Int =>.clean (.int .i64 r)) l d
theorem abp {β:Type} {F:(List aw)×Unit->Option β} {R:β->RK} (O:(List aw)):dV (ie (mS aF) (dT (aFn 51))) F R none [.sl false false O.length (ab aF O),.fn 51]=(F (O,())).map fun r=>(R r,none):=cP _ _ _ (O,())
def ff:Env:=(Am.ext bm 51 false mJ)
theorem lP:bG prog ff:=(bG.none.add En false)
theorem bf:type_of% (ai @w<|ai @BT<|ai @mJ.eq_1<|@ff.eq_1):=⟨@w,@BT,@mJ.eq_1,@ff.eq_1⟩
theorem lQ:bX prog 82 dN:=bX.gP (mode := .clean) tok lP mixed func82 (by kernel_rfl) (fun _ _=>rfl) (fun _=>by kernel_rfl) fun⟨p0,_⟩ r O=>by
 replace O:di p0=some r:=O;apply aG rfl ntmps82 results82;simp only[gQ];unfold di at O;try simp only[bf,seval]
 obtain⟨o5,aa,O⟩:=ae O;refine aC (fun s t H e=>match s with|Z=>t 0=.sl false false p0.length (ab aF p0)∧t 1=.fn 51∧t 7=.int .i64 (p0.length:Int)∧t 8=.int .i64 Z) (fun o x t H e=>match o with|(.inl _)=>x=.exit 0|(.inr r)=>x=.ret∧fF .clean tab none [.tmp 4] ⟨t,EH H,e⟩=some (.clean (.int .i64 r),none)) aa ?_ ?_ ?_
 ·and_intros<;>first|rfl|(simp only[bf,seval]<;>rfl)
 ·rintro Z t H e Y c O;simp only[dD]at O;try simp only[bf,seval,Y]
  apply sp ak O<;>intro _ O
  ·obtain⟨x7,ad,O⟩:=ae O;have U:=bn aF ad;simp only[bS]at U;obtain⟨r8,X,O⟩:=ae O;try simp only[bf,seval,Y,U,X]
   apply sp ak O<;>intro _ O
   ·cases O;try simp only[bf,seval,Y,U,X]
    refine qH ⟨rfl,?_⟩;try simp only[bf,seval,Y,U,X]
   ·cases O;try simp only[bf,seval,Y,U,X]
    apply iS;and_intros<;>first|rfl|(simp only[bf,seval,Y,U,X]<;>rfl)
  ·cases O;try simp only[bf,seval,Y]
   apply ka;exact rfl
 ·rintro x t H e hx;rcases o5 with _|ra
  ·dsimp only at hx O;subst hx;cases O;try simp only[bf,seval]
  ·dsimp only at hx O;obtain⟨rfl,hE⟩:=hx;cases O;try simp only[bd,aX,bk,cJ,cI,ca,cc]
   exact hE
def dj (l:Option (D×Row)) (d:List D):=dV (ie (mS aF) (dT (aFn 51))) (fun x:(List aw)×Unit=>cd x.1) (fun r:Bool =>.clean (.bool r)) l d
def eH:Env:=(Am.ext bm 82 false dN)
theorem kC:bG prog eH:=(bG.none.add lQ false)
theorem lk:type_of% (ai @w<|ai @abp<|ai @dN.eq_1<|@eH.eq_1):=⟨@w,@abp,@dN.eq_1,@eH.eq_1⟩
theorem kG:bX prog 49 dj:=bX.gP (mode := .clean) tok kC mixed func49 (by kernel_rfl) (fun _ _=>rfl) (fun _=>by kernel_rfl) fun⟨X,_⟩ r O=>by
 replace O:cd X=some r:=O;apply aG rfl ntmps49 results49;simp only[gQ];unfold cd at O;obtain⟨Y,U,O⟩:=ae O;cases O;try simp only[lk,seval,U]
def fY (l:Option (D×Row)) (d:List D):=dV (dT (bD tz)) (fun x:fA=>kS x) (fun r:Bool =>.clean (.bool r)) l d
def tN:Env:=(Am.ext (Am.ext (Am.ext (Am.ext (Am.ext (Am.ext bm 35 false ch) 43 false nO) 47 false bK) 48 false dt) 49 false dj) 50 false fZ)
theorem JX:bG prog tN:=((((((bG.none.add iW false).add FP false).add gY false).add lG false).add kG false).add sh false)
theorem aU:type_of% (ai @w<|ai @Bw<|ai @ch.eq_1<|ai @aeI<|ai @nO.eq_1<|ai @BT<|ai @bK.eq_1<|ai @dt.eq_1<|ai @abp<|ai @dj.eq_1<|ai @Bx<|ai @fZ.eq_1<|@tN.eq_1):=⟨@w,@Bw,@ch.eq_1,@aeI,@nO.eq_1,@BT,@bK.eq_1,@dt.eq_1,@abp,@dj.eq_1,@Bx,@fZ.eq_1,@tN.eq_1⟩
theorem sg:bX prog 15 fY:=bX.gP (mode := .clean) tok JX mixed func15 (by kernel_rfl) (fun _ _=>rfl) (fun _=>by kernel_rfl) fun p0 r Y=>by
 replace Y:kS p0=some r:=Y;apply aG rfl ntmps15 results15;simp only[gQ];unfold kS at Y;obtain⟨r1,U,Y⟩:=ae Y;try simp only[aU,seval,U]
 obtain⟨o2,aL,Y⟩:=ae Y;refine bB 0 (fun s t H e=>match s with|av=>∃ar:Nat,t 1=.ptr 1 ar 0∧t 14=.bool av∧H 1=some ⟨ar,28,[.int .i64 p0.aA,.sl false false p0.aK.length (ab bj p0.aK)],false,false,false⟩) (fun s=>s=o2) ?_ ?_
 ·rintro av t H e ⟨ar,az⟩ rfl;try dsimp only at Y
  try simp only[aU,seval,U,az]
  apply sp ak Y<;>intro _ Y
  ·cases Y;try simp only[aU,seval,U,az]
  ·try simp only[aU,seval,U,az]
   obtain⟨aM,aD,Y⟩:=ae Y;refine aC (fun s t H e=>match s with|au=>∃ai:Nat,t 1=.ptr 1 ai 0∧t 16=.sl false false p0.aK.length (ab bj p0.aK)∧t 17=.int .i64 (p0.aK.length:Int)∧t 18=.int .i64 au∧H 1=some ⟨ai,28,[.int .i64 p0.aA,.sl false false p0.aK.length (ab bj p0.aK)],false,false,false⟩) (fun o x t H e=>match o with|(.inl _)=>x=.exit 0∧∃aw:Nat,t 1=.ptr 1 aw 0∧H 1=some ⟨aw,28,[.int .i64 p0.aA,.sl false false p0.aK.length (ab bj p0.aK)],false,false,false⟩|(.inr r)=>x=.ret∧fF .clean tab none [.tmp 2] ⟨t,EH H,e⟩=some (.clean (.bool r),none)) aD ?_ ?_ ?_
   ·refine⟨ar,?_⟩;and_intros<;>first|rfl|(simp only[aU,seval,U,az]<;>rfl)
   ·rintro au t H e ⟨ai,Zb⟩ c Y;simp only[lC]at Y;try simp only[aU,seval,U,Zb]
    apply sp ak Y<;>intro _ Y
    ·obtain⟨al,aE,Y⟩:=ae Y;have O:=bn bj aE;simp only[bS]at O;obtain⟨aQ,X,Y⟩:=ae Y;try simp only[aU,seval,U,Zb,O,X]
     obtain⟨aN,aF,Y⟩:=ae Y;refine bB 0 (fun s t H e=>match s with|ax=>∃ao:Nat,∃ay:Nat,t 1=.ptr 1 ao 0∧t 3=.int .i64 au∧t 4=.ptr 4 ay 0∧t 16=.sl false false p0.aK.length (ab bj p0.aK)∧t 17=.int .i64 (p0.aK.length:Int)∧t 18=.int .i64 au∧t 50=.bool ax∧H 1=some ⟨ao,28,[.int .i64 p0.aA,.sl false false p0.aK.length (ab bj p0.aK)],false,false,false⟩∧H 4=some ⟨ay,65,[.int .i64 al.cq,.int .i64 al.iH,.int .i64 al.ef.cv.aj,.sl false false al.ef.cv.aa.length (ab (eI .i64) al.ef.cv.aa),.int .i64 al.ef.cu.aj,.sl false false al.ef.cu.aa.length (ab (eI .i64) al.ef.cu.aa)],false,false,false⟩) (fun s=>s=aN) ?_ ?_
     ·rintro ax t H e ⟨ao,ay,Z⟩ rfl;try dsimp only at Y
      try simp only[aU,seval,U,O,X,Z]
      apply sp ak Y<;>intro _ Y
      ·cases Y;try simp only[aU,seval,U,O,X,Z]
       refine qH ⟨rfl,?_⟩;try simp only[aU,seval,U,O,X,Z]
      ·try simp only[aU,seval,U,O,X,Z]
       apply sp UH Y<;>intro _ Y
       ·obtain⟨aR,aH,Y⟩:=ae Y;have ag:=bn bj aH;simp only[bS]at ag;obtain⟨aS,ah,Y⟩:=ae Y;try simp only[aU,seval,U,O,X,Z,ag,ah]
        refine bH (by kernel_rfl) ?_;try simp only[aU,seval,U,O,X,Z,ag,ah]
        apply sp ak Y<;>intro _ Y
        ·cases Y;try simp only[aU,seval,U,O,X,Z,ag,ah]
         refine qH ⟨rfl,?_⟩;try simp only[aU,seval,U,O,X,Z,ag,ah]
        ·cases Y;try simp only[aU,seval,U,O,X,Z,ag,ah]
         apply iS;refine⟨ao,?_⟩;and_intros<;>first|rfl|(simp only[aU,seval,U,O,X,Z,ag,ah]<;>rfl)
       ·try simp only[aU,seval,U,O,X,Z]
        refine bH (by kernel_rfl) ?_;cases Y;try simp only[aU,seval,U,O,X,Z]
        apply iS;refine⟨ao,?_⟩;and_intros<;>first|rfl|(simp only[aU,seval,U,O,X,Z]<;>rfl)
     ·clear Y;have Y:=aF;try simp only[aU,seval,U,Zb,O,X]
      apply sp aP Y<;>intro _ Y
      ·cases Y;try simp only[aU,seval,U,Zb,O,X]
       rw[an];refine⟨_,rfl,?_⟩;refine⟨ai,e+1,?_⟩;and_intros<;>first|rfl|(simp only[aU,seval,U,Zb,O,X]<;>rfl)
      ·obtain⟨aT,ad,Y⟩:=ae Y;try simp only[aU,seval,U,Zb,O,X,ad]
       apply sp aP Y<;>intro _ Y
       ·cases Y;try simp only[aU,seval,U,Zb,O,X,ad]
        rw[an];refine⟨_,rfl,?_⟩;refine⟨ai,e+1,?_⟩;and_intros<;>first|rfl|(simp only[aU,seval,U,Zb,O,X,ad]<;>rfl)
       ·obtain⟨aV,aq,Y⟩:=ae Y;try simp only[aU,seval,U,Zb,O,X,ad,aq]
        apply sp aP Y<;>intro _ Y
        ·cases Y;try simp only[aU,seval,U,Zb,O,X,ad,aq]
         rw[an];refine⟨_,rfl,?_⟩;refine⟨ai,e+1,?_⟩;and_intros<;>first|rfl|(simp only[aU,seval,U,Zb,O,X,ad,aq]<;>rfl)
        ·obtain⟨aW,aB,Y⟩:=ae Y;cases Y;try simp only[aU,seval,U,Zb,O,X,ad,aq,aB]
         rw[an];refine⟨_,rfl,?_⟩;refine⟨ai,e+1,?_⟩;and_intros<;>first|rfl|(simp only[aU,seval,U,Zb,O,X,ad,aq,aB]<;>rfl)
    ·cases Y;try simp only[aU,seval,U,Zb]
     apply ka;refine⟨rfl,⟨ai,?_⟩⟩;and_intros<;>first|rfl|(simp only[aU,seval,U,Zb]<;>rfl)
   ·rintro x t H e hx;rcases aM with _|rb
    ·dsimp only at hx Y;obtain⟨rfl,⟨aw,aO⟩⟩:=hx;obtain⟨aY,aI,Y⟩:=ae Y;obtain⟨aZ,aJ,Y⟩:=ae Y;cases Y;try simp only[aU,seval,U,aO,aI,aJ]
    ·dsimp only at hx Y;obtain⟨rfl,hE⟩:=hx;cases Y;try simp only[bd,aX,bk,cJ,cI,ca,cc]
     exact hE
 ·clear Y;have Y:=aL;try simp only[aU,seval,U]
  apply sp aP Y<;>intro _ Y
  ·cases Y;try simp only[aU,seval,U]
   rw[an];refine⟨_,rfl,?_⟩;refine⟨0,?_⟩;and_intros<;>first|rfl|(simp only[aU,seval,U]<;>rfl)
  ·cases Y;try simp only[aU,seval,U]
   rw[an];refine⟨_,rfl,?_⟩;refine⟨0,?_⟩;and_intros<;>first|rfl|(simp only[aU,seval,U]<;>rfl)
def fX (l:Option (D×Row)) (d:List D):=dV (dT (bD tz)) (fun x:fA=>iT x) (fun r:(List Int) =>.clean (.sl false false r.length (ab (eI .i64) r))) l d
def tM:Env:=(Am.sW 18 (3,1,0) (Am.ext (Am.ext (Am.ext bm 15 false fY) 48 false dt) 50 false fZ))
theorem JW:bG prog tM:=(bG.sW (((bG.none.add sg false).add lG false).add sh false) 18 (3,1,0))
theorem aV:type_of% (ai @w<|ai @Bx<|ai @fY.eq_1<|ai @BT<|ai @dt.eq_1<|ai @fZ.eq_1<|@tM.eq_1):=⟨@w,@Bx,@fY.eq_1,@BT,@dt.eq_1,@fZ.eq_1,@tM.eq_1⟩
theorem sf:bX prog 21 fX:=bX.gP (mode := .clean) tok JW mixed func21 (by kernel_rfl) (fun _ _=>rfl) (fun _=>by kernel_rfl) fun p0 r Y=>by
 replace Y:iT p0=some r:=Y;apply aG rfl ntmps21 results21;simp only[gQ];unfold iT at Y;obtain⟨r1,ai,Y⟩:=ae Y;try simp only[aV,seval,-Int.reduceToNat,ai]
 apply sp ak Y<;>intro _ Y
 ·cases Y;try simp only[aV,seval,-Int.reduceToNat,ai]
 ·obtain⟨x3,du,Y⟩:=ae Y;have aj:=aa7 (E:=(Fv (eI .i64))) (ty':=3) (s:=1) (f:=0) (k := .i64) Kz (by rfl) rfl rfl rfl rfl rfl du;obtain⟨al,dV,dW,dX,dY⟩:=mk_one (Fv (eI .i64)) du;try simp only[aV,seval,-Int.reduceToNat,ai,aj,al]
  obtain⟨dQ,dv,Y⟩:=ae Y;refine aC (fun s t H e=>match s with|(cT,b6)=>∃b7:Nat,∃bt:Nat,∃ba:Nat,t 1=.ptr 1 b7 0∧t 3=.buf 18 bt 1 0 (b6).length∧t 20=.sl false false p0.aK.length (ab bj p0.aK)∧t 21=.int .i64 (p0.aK.length:Int)∧t 22=.int .i64 cT∧H 1=some ⟨b7,28,[.int .i64 p0.aA,.sl false false p0.aK.length (ab bj p0.aK)],false,false,false⟩∧H 18=some ⟨bt,22,[.nr 3 1 ba (ab (Fv (eI .i64)) b6)],false,true,true⟩∧ba<=4*e) (fun o x t H e=>match o with|aq=>x=.exit 0∧∃b8:Nat,∃bl:Nat,∃a6:Nat,t 1=.ptr 1 b8 0∧t 3=.buf 18 bl 1 0 (aq).length∧H 1=some ⟨b8,28,[.int .i64 p0.aA,.sl false false p0.aK.length (ab bj p0.aK)],false,false,false⟩∧H 18=some ⟨bl,22,[.nr 3 1 a6 (ab (Fv (eI .i64)) aq)],false,true,true⟩∧a6<=4*e) dv ?_ ?_ ?_
  ·refine⟨0,2,4*(2)+2,?_,?_,?_,?_,?_,?_,?_,?_⟩;all_goals (first|rfl|omega|(simp only[aV,seval,-Int.reduceToNat,ai,aj,al]<;>rfl))
  ·rintro⟨cT,b6⟩ t H e ⟨b7,bt,ba,Za⟩ c Y;simp only[jK]at Y;try simp only[aV,seval,-Int.reduceToNat,ai,aj,al,Za]
   apply sp ak Y<;>intro _ Y
   ·obtain⟨dZ,dw,Y⟩:=ae Y;have bM:=bn bj dw;simp only[bS]at bM;obtain⟨ea,bN,Y⟩:=ae Y;have aP:=bn (Fv (eI .i64)) bN;simp only[bS]at aP;obtain⟨dj,dx,Y⟩:=ae Y;obtain⟨b9,bO,ca,cb⟩:=iG (eI .i64) dx;simp only[bS]at bO;have aP:=bn (Fv (eI .i64)) bN;simp only[bS]at aP;have cc:=YY (Fv (eI .i64)) (x':=dj) 0 .und (.nx dj.length (ab (eI .i64) dj)) bN rfl (aiG rfl);have bu:=abf (Fv (eI .i64)) 0 .und bN (aiG rfl);simp only[bS,Nat.add_zero]at cc bu;have bP:=cc;simp only[putCells,List.length_cons,List.length_nil,ahE,Nat.reduceAdd]at bP;have bm:=bu;simp only[putCells,List.length_cons,List.length_nil,ahE,Nat.reduceAdd]at bm;have cd:bump ba (e+1+1)=some (4*(e+1+1)+1):=xm (by omega);try simp only[aV,seval,-Int.reduceToNat,ai,aj,al,Za,bM,aP,b9,bO,ca,cb,aP,cc,bP,bu,bm,cd]
    refine bH (by kernel_rfl) ?_;cases Y;try simp only[aV,seval,-Int.reduceToNat,ai,aj,al,Za,bM,aP,b9,bO,ca,cb,aP,cc,bP,bu,bm,cd]
    apply iS;refine⟨b7,bt,4*(e+1+1)+1,?_,?_,?_,?_,?_,?_,?_,?_⟩;all_goals (first|rfl|omega|(simp only[aV,seval,-Int.reduceToNat,ai,aj,al,Za,bM,aP,b9,bO,ca,cb,aP,cc,bP,bu,bm,cd]<;>rfl))
   ·cases Y;try simp only[aV,seval,-Int.reduceToNat,ai,aj,al,Za]
    apply ka;refine⟨rfl,⟨b7,bt,ba,?_,?_,?_,?_,?_⟩⟩;all_goals (first|rfl|omega|(simp only[aV,seval,-Int.reduceToNat,ai,aj,al,Za]<;>rfl))
  ·rintro x t H e hx;obtain⟨aq,rfl⟩:∃z,z=dQ:=⟨_,rfl⟩;dsimp only at hx Y;obtain⟨rfl,⟨b8,bl,a6,dy⟩⟩:=hx;obtain⟨eb,dz,Y⟩:=ae Y;obtain⟨Z,aa,ad,X,ag⟩:=mk_one (eI .i64) dz;simp only[bS]at X;obtain⟨dk,ah,Y⟩:=ae Y;try simp only[aV,seval,-Int.reduceToNat,ai,aj,al,dy,Z,aa,ad,X,ag,ah]
   obtain⟨dR,dA,Y⟩:=ae Y;refine aC (fun s t H e=>match s with|(cU,dm,dn)=>∃b4:Nat,∃cf:Nat,∃bc:Nat,∃aQ:Nat,∃cg:Nat,∃ch:List D,t 3=.buf 18 bc 1 0 (aq).length∧t 6=.buf 6 b4 1 0 (dm).length∧t 7=.buf 7 cf 1 cg (dn).length∧t 44=.sl false false dk.length (ab aF dk)∧t 45=.int .i64 (dk.length:Int)∧t 46=.int .i64 cU∧H 6=some ⟨b4,3,ab (eI .i64) dm,false,true,false⟩∧H 7=some ⟨cf,3,ch,false,true,false⟩∧H 18=some ⟨bc,22,[.nr 3 1 aQ (ab (Fv (eI .i64)) aq)],false,true,true⟩∧aQ<=4*e∧sU (eI .i64) ch cg dn) (fun o x t H e=>match o with|(cj,ck)=>x=.exit 2∧∃bQ:Nat,∃bR:Nat,∃bo:Nat,∃a7:Nat,∃bT:Nat,∃bU:List D,t 3=.buf 18 bo 1 0 (aq).length∧t 6=.buf 6 bQ 1 0 (cj).length∧t 7=.buf 7 bR 1 bT (ck).length∧H 6=some ⟨bQ,3,ab (eI .i64) cj,false,true,false⟩∧H 7=some ⟨bR,3,bU,false,true,false⟩∧H 18=some ⟨bo,22,[.nr 3 1 a7 (ab (Fv (eI .i64)) aq)],false,true,true⟩∧a7<=4*e∧sU (eI .i64) bU bT ck) dA ?_ ?_ ?_
   ·refine⟨e,e+1,bl,a6,0,(ab (eI .i64) ([])),?_,?_,?_,?_,?_,?_,?_,?_,?_,?_,(sU.self (eI .i64) ([]))⟩;all_goals (first|rfl|omega|(simp only[aV,seval,-Int.reduceToNat,ai,aj,al,dy,Z,aa,ad,X,ag,ah]<;>rfl))
   ·rintro⟨cU,dm,dn⟩ t H e ⟨b4,cf,bc,aQ,cg,ch,bw,bx,bz,aR,aS,aT,bA,bB,aU,aL,cM⟩ c Y;simp only[jL]at Y;have ay:=cM.fit;have az:=cM.eq;simp only[bS]at ay az;try simp only[aV,seval,-Int.reduceToNat,ai,aj,al,Z,aa,ad,X,ag,ah,bw,bx,bz,aR,aS,aT,bA,bB,aU,aL,ay,az]
    apply sp ak Y<;>intro _ Y
    ·obtain⟨ec,dB,Y⟩:=ae Y;have bd:=bn aF dB;simp only[bS]at bd;obtain⟨ed,cV,Y⟩:=ae Y;have bf:=bn (eI .i64) cV;simp only[bS]at bf;have bL:=fK (eI .i64) (x':=(-1)) (fo:=0) (cs:=[.int .i64 (-1)]) cV rfl (aiG rfl);simp only[bS,Nat.add_zero]at bL;have bg:=bL;simp only[putCells,List.length_cons,List.length_nil,ahE,Nat.reduceAdd]at bg;obtain⟨ee,bD,Y⟩:=ae Y;try simp only[aV,seval,-Int.reduceToNat,ai,aj,al,Z,aa,ad,X,ag,ah,bw,bx,bz,aR,aS,aT,bA,bB,aU,aL,ay,az,bd,bf,bL,bg,bD]
     apply sp ak Y<;>intro _ Y
     ·obtain⟨ef,cW,Y⟩:=ae Y;have cm:=bn (eI .i64) cW;simp only[bS,aiY]at cm;have cN:=fK (eI .i64) (x':=0) (fo:=0) (cs:=[.int .i64 0]) cW rfl (aiG rfl);simp only[bS,Nat.add_zero]at cN;have cn:=cN;simp only[putCells,List.length_cons,List.length_nil,ahE,Nat.reduceAdd]at cn;obtain⟨dC,dD,Y⟩:=ae Y;obtain⟨cX,cp,cY,cZ⟩:=iG (eI .i64) dD;simp only[bS]at cp;cases Y;try simp only[aV,seval,-Int.reduceToNat,ai,aj,al,Z,aa,ad,X,ag,ah,bw,bx,bz,aR,aS,aT,bA,bB,aU,aL,ay,az,bd,bf,bL,bg,bD,cm,cN,cn,cX,cp,cY,cZ]
      apply iS;refine⟨b4,e+1+1+1+1+1,bc,aQ,0,(ab (eI .i64) dC),?_,?_,?_,?_,?_,?_,?_,?_,?_,?_,(sU.self (eI .i64) dC)⟩;all_goals (first|rfl|omega|(simp only[aV,seval,-Int.reduceToNat,ai,aj,al,Z,aa,ad,X,ag,ah,bw,bx,bz,aR,aS,aT,bA,bB,aU,aL,ay,az,bd,bf,bL,bg,bD,cm,cN,cn,cX,cp,cY,cZ]<;>rfl))
     ·cases Y;try simp only[aV,seval,-Int.reduceToNat,ai,aj,al,Z,aa,ad,X,ag,ah,bw,bx,bz,aR,aS,aT,bA,bB,aU,aL,ay,az,bd,bf,bL,bg,bD]
      apply iS;refine⟨b4,cf,bc,aQ,cg,ch,?_,?_,?_,?_,?_,?_,?_,?_,?_,?_,cM⟩;all_goals (first|rfl|omega|(simp only[aV,seval,-Int.reduceToNat,ai,aj,al,Z,aa,ad,X,ag,ah,bw,bx,bz,aR,aS,aT,bA,bB,aU,aL,ay,az,bd,bf,bL,bg,bD]<;>rfl))
    ·cases Y;try simp only[aV,seval,-Int.reduceToNat,ai,aj,al,Z,aa,ad,X,ag,ah,bw,bx,bz,aR,aS,aT,bA,bB,aU,aL,ay,az]
     apply ka;refine⟨rfl,⟨b4,cf,bc,aQ,cg,ch,?_,?_,?_,?_,?_,?_,?_,cM⟩⟩;all_goals (first|rfl|omega|(simp only[aV,seval,-Int.reduceToNat,ai,aj,al,Z,aa,ad,X,ag,ah,bw,bx,bz,aR,aS,aT,bA,bB,aU,aL,ay,az]<;>rfl))
   ·rintro x t H e hx;rcases dR with⟨cj,ck⟩;dsimp only at hx Y;obtain⟨rfl,⟨bQ,bR,bo,a7,bT,bU,c0,c3,c4,c5,c6,cq,bV,cr⟩⟩:=hx;have O:=cr.fit;have U:=cr.eq;simp only[bS]at O U;try simp only[aV,seval,-Int.reduceToNat,ai,aj,al,Z,aa,ad,X,ag,ah,c0,c3,c4,c5,c6,cq,bV,O,U]
    obtain⟨dS,dE,Y⟩:=ae Y;refine aC (fun s t H e=>match s with|(dp,dq)=>∃ct:Nat,∃dr:Nat,∃bW:Nat,∃bp:Nat,∃cO:Nat,∃cP:List D,t 3=.buf 18 bW 1 0 (aq).length∧t 6=.buf 6 ct 1 0 (dp).length∧t 7=.buf 7 dr 1 cO (dq).length∧H 6=some ⟨ct,3,ab (eI .i64) dp,false,true,false⟩∧H 7=some ⟨dr,3,cP,false,true,false⟩∧H 18=some ⟨bW,22,[.nr 3 1 bp (ab (Fv (eI .i64)) aq)],false,true,true⟩∧bp<=4*e∧sU (eI .i64) cP cO dq) (fun o x t H e=>match o with|cu=>x=.exit 4∧∃cv:Nat,t 6=.buf 6 cv 1 0 (cu).length∧H 6=some ⟨cv,3,ab (eI .i64) cu,false,true,false⟩) dE ?_ ?_ ?_
    ·refine⟨bQ,bR,bo,a7,bT,bU,?_,?_,?_,?_,?_,?_,?_,cr⟩;all_goals (first|rfl|omega|(simp only[aV,seval,-Int.reduceToNat,ai,aj,al,Z,aa,ad,X,ag,ah,c0,c3,c4,c5,c6,cq,bV,O,U]<;>rfl))
    ·rintro⟨dp,dq⟩ t H e ⟨ct,dr,bW,bp,cO,cP,cw,cx,cy,cz,cA,bE,bb,cQ⟩ c Y;simp only[jM]at Y;have an:=cQ.fit;have ao:=cQ.eq;simp only[bS]at an ao;try simp only[aV,seval,-Int.reduceToNat,ai,aj,al,Z,aa,ad,X,ag,ah,O,U,cw,cx,cy,cz,cA,bE,bb,an,ao]
     apply sp ak Y<;>intro _ Y
     ·obtain⟨dF,c7,Y⟩:=ae Y;have aE:=J3 c7;obtain⟨ar,dG,au⟩:=cQ.idx c7;simp only[bS]at au ar;obtain⟨eg,c8,Y⟩:=ae Y;obtain⟨aH,aI,aJ,av,aw⟩:=Zn (eI .i64) c8;simp only[bS]at aw;have dH:=sU.tail cQ c8;obtain⟨dI,dJ,Y⟩:=ae Y;have ax:=bn (Fv (eI .i64)) dJ;simp only[bS]at ax;try simp only[aV,seval,-Int.reduceToNat,ai,aj,al,Z,aa,ad,X,ag,ah,O,U,cw,cx,cy,cz,cA,bE,bb,an,ao,aE,au,ar,aH,aI,aJ,aw,ax]
      obtain⟨dT,dK,Y⟩:=ae Y;refine aC (fun s t H e=>match s with|(c9,ds,dt)=>∃b5:Nat,∃cB:Nat,∃bh:Nat,∃aO:Nat,∃cC:Nat,∃cD:List D,t 3=.buf 18 bh 1 0 (aq).length∧t 6=.buf 6 b5 1 0 (ds).length∧t 7=.buf 7 cB 1 cC (dt).length∧t 10=.int .i64 dF∧t 76=.buf (NK 18 ((dF:Int).toNat*1)) aO 1 0 (dI).length∧t 77=.int .i64 ((dI).length:Int)∧t 78=.int .i64 c9∧H 6=some ⟨b5,3,ab (eI .i64) ds,false,true,false⟩∧H 7=some ⟨cB,3,cD,false,true,false⟩∧H 18=some ⟨bh,22,[.nr 3 1 aO (ab (Fv (eI .i64)) aq)],false,true,true⟩∧aO<=4*e∧sU (eI .i64) cD cC dt) (fun o x t H e=>match o with|(cE,cF)=>x=.exit 6∧∃bY:Nat,∃bZ:Nat,∃bq:Nat,∃a8:Nat,∃b1:Nat,∃b2:List D,t 3=.buf 18 bq 1 0 (aq).length∧t 6=.buf 6 bY 1 0 (cE).length∧t 7=.buf 7 bZ 1 b1 (cF).length∧H 6=some ⟨bY,3,ab (eI .i64) cE,false,true,false⟩∧H 7=some ⟨bZ,3,b2,false,true,false⟩∧H 18=some ⟨bq,22,[.nr 3 1 a8 (ab (Fv (eI .i64)) aq)],false,true,true⟩∧a8<=4*e∧sU (eI .i64) b2 b1 cF) dK ?_ ?_ ?_
      ·refine⟨ct,e+1+1,bW,bp,(cO+(1:Int).toNat*1),(cP),?_,?_,?_,?_,?_,?_,?_,?_,?_,?_,?_,dH⟩;all_goals (first|rfl|omega|(simp only[aV,seval,-Int.reduceToNat,ai,aj,al,Z,aa,ad,X,ag,ah,O,U,cw,cx,cy,cz,cA,bE,bb,an,ao,aE,au,ar,aH,aI,aJ,aw,ax,av]<;>rfl))
      ·rintro⟨c9,ds,dt⟩ t H e ⟨b5,cB,bh,aO,cC,cD,bF,bG,bI,aW,aX,aY,aZ,bJ,bK,a1,aM,cR⟩ c Y;simp only[jN]at Y;have aB:=cR.fit;have aD:=cR.eq;simp only[bS]at aB aD;try simp only[aV,seval,-Int.reduceToNat,ai,aj,al,Z,aa,ad,X,ag,ah,O,U,an,ao,aE,au,ar,aH,aI,aJ,aw,ax,av,bF,bG,bI,aW,aX,aY,aZ,bJ,bK,a1,aM,aB,aD]
       apply sp ak Y<;>intro _ Y
       ·obtain⟨eh,dL,Y⟩:=ae Y;have bk:=bn (eI .i64) dL;simp only[bS]at bk;obtain⟨ei,cG,Y⟩:=ae Y;have aN:=bn (eI .i64) cG;simp only[bS]at aN;try simp only[aV,seval,-Int.reduceToNat,ai,aj,al,Z,aa,ad,X,ag,ah,O,U,an,ao,aE,au,ar,aH,aI,aJ,aw,ax,av,bF,bG,bI,aW,aX,aY,aZ,bJ,bK,a1,aM,aB,aD,bk,aN]
        apply sp ak Y<;>intro _ Y
        ·obtain⟨dM,dN,Y⟩:=ae Y;have cH:=bn (eI .i64) dN;simp only[bS]at cH;have aN:=bn (eI .i64) cG;simp only[bS]at aN;have cS:=fK (eI .i64) (x':=IntKind.i64.wrap (dM+1)) (fo:=0) (cs:=[.int .i64 (IntKind.i64.wrap (dM+1))]) cG rfl (aiG rfl);simp only[bS,Nat.add_zero]at cS;have cI:=cS;simp only[putCells,List.length_cons,List.length_nil,ahE,Nat.reduceAdd]at cI;obtain⟨dO,dP,Y⟩:=ae Y;obtain⟨da,cJ,db,dc⟩:=iG (eI .i64) dP;simp only[bS]at cJ;cases Y;try simp only[aV,seval,-Int.reduceToNat,ai,aj,al,Z,aa,ad,X,ag,ah,O,U,an,ao,aE,au,ar,aH,aI,aJ,aw,ax,av,bF,bG,bI,aW,aX,aY,aZ,bJ,bK,a1,aM,aB,aD,bk,aN,cH,aN,cS,cI,da,cJ,db,dc]
         apply iS;refine⟨b5,e+1+1+1+1,bh,aO,0,(ab (eI .i64) dO),?_,?_,?_,?_,?_,?_,?_,?_,?_,?_,?_,(sU.self (eI .i64) dO)⟩;all_goals (first|rfl|omega|(simp only[aV,seval,-Int.reduceToNat,ai,aj,al,Z,aa,ad,X,ag,ah,O,U,an,ao,aE,au,ar,aH,aI,aJ,aw,ax,av,bF,bG,bI,aW,aX,aY,aZ,bJ,bK,a1,aM,aB,aD,bk,aN,cH,aN,cS,cI,da,cJ,db,dc]<;>rfl))
        ·cases Y;try simp only[aV,seval,-Int.reduceToNat,ai,aj,al,Z,aa,ad,X,ag,ah,O,U,an,ao,aE,au,ar,aH,aI,aJ,aw,ax,av,bF,bG,bI,aW,aX,aY,aZ,bJ,bK,a1,aM,aB,aD,bk,aN]
         apply iS;refine⟨b5,cB,bh,aO,cC,cD,?_,?_,?_,?_,?_,?_,?_,?_,?_,?_,?_,cR⟩;all_goals (first|rfl|omega|(simp only[aV,seval,-Int.reduceToNat,ai,aj,al,Z,aa,ad,X,ag,ah,O,U,an,ao,aE,au,ar,aH,aI,aJ,aw,ax,av,bF,bG,bI,aW,aX,aY,aZ,bJ,bK,a1,aM,aB,aD,bk,aN]<;>rfl))
       ·cases Y;try simp only[aV,seval,-Int.reduceToNat,ai,aj,al,Z,aa,ad,X,ag,ah,O,U,an,ao,aE,au,ar,aH,aI,aJ,aw,ax,av,bF,bG,bI,aW,aX,aY,aZ,bJ,bK,a1,aM,aB,aD]
        apply ka;refine⟨rfl,⟨b5,cB,bh,aO,cC,cD,?_,?_,?_,?_,?_,?_,?_,cR⟩⟩;all_goals (first|rfl|omega|(simp only[aV,seval,-Int.reduceToNat,ai,aj,al,Z,aa,ad,X,ag,ah,O,U,an,ao,aE,au,ar,aH,aI,aJ,aw,ax,av,bF,bG,bI,aW,aX,aY,aZ,bJ,bK,a1,aM,aB,aD]<;>rfl))
      ·rintro x t H e hx;rcases dT with⟨cE,cF⟩;dsimp only at hx Y;obtain⟨rfl,⟨bY,bZ,bq,a8,b1,b2,dd,de,df,dh,di,cK,b3,cL⟩⟩:=hx;have br:=cL.fit;have bs:=cL.eq;simp only[bS]at br bs;cases Y;try simp only[aV,seval,-Int.reduceToNat,ai,aj,al,Z,aa,ad,X,ag,ah,O,U,an,ao,aE,au,ar,aH,aI,aJ,aw,ax,av,av,dd,de,df,dh,di,cK,b3,br,bs]
       apply iS;refine⟨bY,bZ,bq,a8,b1,b2,?_,?_,?_,?_,?_,?_,?_,cL⟩;all_goals (first|rfl|omega|(simp only[aV,seval,-Int.reduceToNat,ai,aj,al,Z,aa,ad,X,ag,ah,O,U,an,ao,aE,au,ar,aH,aI,aJ,aw,ax,av,av,dd,de,df,dh,di,cK,b3,br,bs]<;>rfl))
     ·cases Y;try simp only[aV,seval,-Int.reduceToNat,ai,aj,al,Z,aa,ad,X,ag,ah,O,U,cw,cx,cy,cz,cA,bE,bb,an,ao]
      apply ka;refine⟨rfl,⟨ct,?_⟩⟩;and_intros<;>first|rfl|(simp only[aV,seval,-Int.reduceToNat,ai,aj,al,Z,aa,ad,X,ag,ah,O,U,cw,cx,cy,cz,cA,bE,bb,an,ao]<;>rfl)
    ·rintro x t H e hx;obtain⟨cu,rfl⟩:∃z,z=dS:=⟨_,rfl⟩;dsimp only at hx Y;obtain⟨rfl,⟨cv,dU⟩⟩:=hx;cases Y;try simp only[aV,seval,-Int.reduceToNat,ai,aj,al,Z,aa,ad,X,ag,ah,O,U,dU]
def oM (l:Option (D×Row)) (d:List D):=dV (ie (mS (eI .i64)) (dT (mS (eI .i64)))) (fun x:(List Int)×(List Int)=>iK x.1 x.2) (fun r:Bool =>.clean (.bool r)) l d
theorem Bq:bX prog 20 oM:=bX.gP (mode := .clean) tok bG.none mixed func20 (by kernel_rfl) (fun _ _=>rfl) (fun _=>by kernel_rfl) fun⟨p0,p1⟩ r O=>by
 replace O:iK p0 p1=some r:=O;apply aG rfl ntmps20 results20;simp only[gQ];unfold iK at O;try simp only[w,seval]
 apply sp ak O<;>intro _ O
 ·cases O;try simp only[w,seval]
 ·try simp only[w,seval]
  obtain⟨o6,aa,O⟩:=ae O;refine aC (fun s t H e=>match s with|Z=>t 0=.sl false false p0.length (ab (eI .i64) p0)∧t 1=.sl false false p1.length (ab (eI .i64) p1)∧t 5=.int .i64 Z) (fun o x t H e=>match o with|(.inl _)=>x=.exit 0|(.inr r)=>x=.ret∧fF .clean tab none [.tmp 4] ⟨t,EH H,e⟩=some (.clean (.bool r),none)) aa ?_ ?_ ?_
  ·and_intros<;>first|rfl|(simp only[w,seval]<;>rfl)
  ·rintro Z t H e Y c O;simp only[sM]at O;try simp only[w,seval,Y]
   apply sp ak O<;>intro _ O
   ·obtain⟨x8,ad,O⟩:=ae O;have U:=bn (eI .i64) ad;simp only[bS]at U;obtain⟨x9,ag,O⟩:=ae O;have X:=bn (eI .i64) ag;simp only[bS]at X;try simp only[w,seval,Y,U,X]
    refine bH (by kernel_rfl) ?_;try simp only[w,seval,Y,U,X]
    apply sp ak O<;>intro _ O
    ·cases O;try simp only[w,seval,Y,U,X]
     refine qH ⟨rfl,?_⟩;try simp only[w,seval,Y,U,X]
    ·cases O;try simp only[w,seval,Y,U,X]
     apply iS;and_intros<;>first|rfl|(simp only[w,seval,Y,U,X]<;>rfl)
   ·cases O;try simp only[w,seval,Y]
    apply ka;exact rfl
  ·rintro x t H e hx;rcases o6 with _|ra
   ·dsimp only at hx O;subst hx;cases O;try simp only[w,seval]
   ·dsimp only at hx O;obtain⟨rfl,hE⟩:=hx;cases O;try simp only[bd,aX,bk,cJ,cI,ca,cc]
    exact hE
def rC (l:Option (D×Row)) (d:List D):=dV (ie (bD tz) (dT (aI .i64))) (fun x:fA×Int=>xZ x.1 x.2) (fun r:aw =>.clean (.agg [.int .i64 r.cv.aj,.sl false false r.cv.aa.length (ab (eI .i64) r.cv.aa),.int .i64 r.cu.aj,.sl false false r.cu.aa.length (ab (eI .i64) r.cu.aa)])) l d
theorem aeJ {β:Type} {F:fA×Int->Option β} {R:β->RK} (U:Int) (O:(List bJ)) (X:Int):dV (ie (bD tz) (dT (aI .i64))) F R none [.agg [.int .i64 U,.sl false false O.length (ab bj O)],.int .i64 X]=(F ((fA.mk U O),X)).map fun r=>(R r,none):=cP _ _ _ ((fA.mk U O),X)
def wI:Env:=(Am.ext (Am.ext (Am.ext bm 15 false fY) 35 false ch) 50 false fZ)
theorem MO:bG prog wI:=(((bG.none.add sg false).add iW false).add sh false)
theorem pH:type_of% (ai @w<|ai @Bx<|ai @fY.eq_1<|ai @Bw<|ai @ch.eq_1<|ai @fZ.eq_1<|@wI.eq_1):=⟨@w,@Bx,@fY.eq_1,@Bw,@ch.eq_1,@fZ.eq_1,@wI.eq_1⟩
theorem OB:bX prog 18 rC:=bX.gP (mode := .clean) tok MO mixed func18 (by kernel_rfl) (fun _ _=>rfl) (fun _=>by kernel_rfl) fun⟨p0,p1⟩ r O=>by
 replace O:xZ p0 p1=some r:=O;apply aG rfl ntmps18 results18;simp only[gQ];unfold xZ at O;obtain⟨r1,U,O⟩:=ae O;try simp only[pH,seval,U]
 apply sp aP O<;>intro _ O
 ·cases O;try simp only[pH,seval,U]
 ·obtain⟨r3,X,O⟩:=ae O;try simp only[pH,seval,U,X]
  apply sp ak O<;>intro _ O
  ·cases O;try simp only[pH,seval,U,X]
  ·obtain⟨r5,Z,O⟩:=ae O;obtain⟨x6,aa,O⟩:=ae O;have Y:=bn aF aa;simp only[bS]at Y;cases O;try simp only[pH,seval,U,X,Z,Y]
def mK (l:Option (D×Row)) (d:List D):=dV (dT (bD tz)) (fun x:fA=>p5 x) (fun r:(List Int) =>.clean (.sl false false r.length (ab (eI .i64) r))) l d
def qz:Env:=(Am.ext bm 21 false fX)
theorem Dx:bG prog qz:=(bG.none.add sf false)
theorem eu:type_of% (ai @w<|ai @Bx<|ai @fX.eq_1<|@qz.eq_1):=⟨@w,@Bx,@fX.eq_1,@qz.eq_1⟩
theorem Eo:bX prog 23 mK:=bX.gP (mode := .clean) tok Dx mixed func23 (by kernel_rfl) (fun _ _=>rfl) (fun _=>by kernel_rfl) fun p0 r U=>by
 replace U:p5 p0=some r:=U;apply aG rfl ntmps23 results23;simp only[gQ];unfold p5 at U;obtain⟨r1,O,U⟩:=ae U;try simp only[eu,seval,O]
 obtain⟨o7,ao,U⟩:=ae U;refine aC (fun s t H e=>match s with|(al,aj)=>∃Y:Nat,t 3=.buf 3 Y 1 0 (aj).length∧t 7=.sl false false r1.length (ab (eI .i64) r1)∧t 8=.int .i64 (r1.length:Int)∧t 9=.int .i64 al∧H 3=some ⟨Y,3,ab (eI .i64) aj,false,true,false⟩) (fun o x t H e=>match o with|Z=>x=.exit 0∧∃aa:Nat,t 3=.buf 3 aa 1 0 (Z).length∧H 3=some ⟨aa,3,ab (eI .i64) Z,false,true,false⟩) ao ?_ ?_ ?_
 ·refine⟨1,?_⟩;and_intros<;>first|rfl|(simp only[eu,seval,O]<;>rfl)
 ·rintro⟨al,aj⟩ t H e ⟨Y,Za⟩ c U;simp only[ua]at U;try simp only[eu,seval,O,Za]
  apply sp ak U<;>intro _ U
  ·obtain⟨x9,aq,U⟩:=ae U;have X:=bn (eI .i64) aq;simp only[bS]at X;try simp only[eu,seval,O,Za,X]
   apply sp ak U<;>intro _ U
   ·obtain⟨au,an,U⟩:=ae U;obtain⟨ag,ad,ah,ai⟩:=iG (eI .i64) an;simp only[bS]at ad;cases U;try simp only[eu,seval,O,Za,X,ag,ad,ah,ai]
    apply iS;refine⟨e+1+1+1,?_⟩;and_intros<;>first|rfl|(simp only[eu,seval,O,Za,X,ag,ad,ah,ai]<;>rfl)
   ·cases U;try simp only[eu,seval,O,Za,X]
    apply iS;refine⟨Y,?_⟩;and_intros<;>first|rfl|(simp only[eu,seval,O,Za,X]<;>rfl)
  ·cases U;try simp only[eu,seval,O,Za]
   apply ka;refine⟨rfl,⟨Y,?_⟩⟩;and_intros<;>first|rfl|(simp only[eu,seval,O,Za]<;>rfl)
 ·rintro x t H e hx;obtain⟨Z,rfl⟩:∃z,z=o7:=⟨_,rfl⟩;dsimp only at hx U;obtain⟨rfl,⟨aa,ar⟩⟩:=hx;cases U;try simp only[eu,seval,O,ar]
def rB (l:Option (D×Row)) (d:List D):=dV (as0) (fun x:Unit=>tV) (fun r:Bool =>.clean (.bool r)) l d
theorem w9 (X:Int) (O:(List bJ)) (Y:Int) (U:(List bJ)):wb none [.agg [.int .i64 X,.sl false false O.length (ab bj O)],.agg [.int .i64 Y,.sl false false U.length (ab bj U)]]=(uk (fA.mk X O) (fA.mk Y U)).map fun r:Bool=>(.clean (.bool r),none):=cP _ _ _ ((fA.mk X O),(fA.mk Y U))
theorem jv (O:(List Int)) (U:(List Int)):oM none [.sl false false O.length (ab (eI .i64) O),.sl false false U.length (ab (eI .i64) U)]=(iK O U).map fun r:Bool=>(.clean (.bool r),none):=cP _ _ _ (O,U)
def wH:Env:=(Am.ext (Am.ext (Am.ext (Am.ext (Am.ext (Am.ext (Am.ext (Am.ext (Am.ext (Am.ext (Am.ext (Am.ext bm 10 false ji) 12 false qK) 14 false wb) 15 false fY) 17 false gT) 18 false rC) 20 false oM) 21 false fX) 23 false mK) 25 false ma) 31 false mI) 32 false rA)
theorem MN:bG prog wH:=((((((((((((bG.none.add yf false).add Ij false).add OE false).add sg false).add ud false).add OB false).add Bq false).add sf false).add Eo false).add Ev false).add Em false).add Oz false)
theorem b6:type_of% (ai @w<|ai @V2<|ai @ji.eq_1<|ai @qK.eq_1<|ai @w9<|ai @Bx<|ai @fY.eq_1<|ai @sX<|ai @gT.eq_1<|ai @aeJ<|ai @rC.eq_1<|ai @jv<|ai @fX.eq_1<|ai @mK.eq_1<|ai @KT<|ai @ma.eq_1<|ai @aeD<|ai @mI.eq_1<|ai @sh8<|ai @rA.eq_1<|@wH.eq_1):=⟨@w,@V2,@ji.eq_1,@qK.eq_1,@w9,@Bx,@fY.eq_1,@sX,@gT.eq_1,@aeJ,@rC.eq_1,@jv,@fX.eq_1,@mK.eq_1,@KT,@ma.eq_1,@aeD,@mI.eq_1,@sh8,@rA.eq_1,@wH.eq_1⟩
theorem OA:bX prog 7 rB:=bX.gP (mode := .clean) tok MN mixed func7 (by kernel_rfl) (fun _ _=>rfl) (fun _=>by kernel_rfl) fun _ r O=>by
 replace O:tV=some r:=O;apply aG rfl ntmps7 results7;simp only[gQ];unfold tV at O;obtain⟨r1,U,O⟩:=ae O;obtain⟨r2,X,O⟩:=ae O;obtain⟨r3,Y,O⟩:=ae O;try simp only[b6,seval,U,X,Y]
 obtain⟨o4,az,O⟩:=ae O;refine bB 0 (fun s t H e=>match s with|av=>t 41=.bool av) (fun s=>s=o4) ?_ ?_
 ·rintro av t H e ad rfl;try dsimp only at O
  try simp only[b6,seval,U,X,Y,ad]
  apply sp ak O<;>intro _ O
  ·cases O;try simp only[b6,seval,U,X,Y,ad]
  ·obtain⟨r6,ah,O⟩:=ae O;obtain⟨r7,ai,O⟩:=ae O;obtain⟨r8,aj,O⟩:=ae O;obtain⟨r9,al,O⟩:=ae O;obtain⟨aE,Z,O⟩:=ae O;try simp only[b6,seval,U,X,Y,ad,ah,ai,aj,al,Z]
   apply sp e7 O<;>intro _ O
   ·obtain⟨aB,aa,O⟩:=ae O;have i13:=jv aB ([(-1),(-1)]);simp only[bg,bS,List.length_cons,List.length_nil,ahE,Nat.reduceAdd,aiY]at i13;obtain⟨aF,ab,O⟩:=ae O;try simp only[b6,seval,U,X,Y,ad,ah,ai,aj,al,Z,aa,i13,ab]
    apply sp e7 O<;>intro _ O
    ·obtain⟨aC,ao,O⟩:=ae O;have i17:=jv aC ([0,1]);simp only[bg,bS,List.length_cons,List.length_nil,ahE,Nat.reduceAdd,aiY]at i17;obtain⟨aH,aq,O⟩:=ae O;try simp only[b6,seval,U,X,Y,ad,ah,ai,aj,al,Z,aa,i13,ab,ao,i17,aq]
     apply sp e7 O<;>intro _ O
     ·try simp only[b6,seval,U,X,Y,ad,ah,ai,aj,al,Z,aa,i13,ab,ao,i17,aq]
      apply sp e7 O<;>intro _ O
      ·try simp only[b6,seval,U,X,Y,ad,ah,ai,aj,al,Z,aa,i13,ab,ao,i17,aq]
       apply sp e7 O<;>intro _ O
       ·obtain⟨aI,ay,O⟩:=ae O;cases O;try simp only[b6,seval,U,X,Y,ad,ah,ai,aj,al,Z,aa,i13,ab,ao,i17,aq,ay]
       ·cases O;try simp only[b6,seval,U,X,Y,ad,ah,ai,aj,al,Z,aa,i13,ab,ao,i17,aq]
      ·cases O;try simp only[b6,seval,U,X,Y,ad,ah,ai,aj,al,Z,aa,i13,ab,ao,i17,aq]
     ·cases O;try simp only[b6,seval,U,X,Y,ad,ah,ai,aj,al,Z,aa,i13,ab,ao,i17,aq]
    ·cases O;try simp only[b6,seval,U,X,Y,ad,ah,ai,aj,al,Z,aa,i13,ab]
   ·cases O;try simp only[b6,seval,U,X,Y,ad,ah,ai,aj,al,Z]
 ·clear O;have O:=az;try simp only[b6,seval,U,X,Y]
  apply sp aP O<;>intro _ O
  ·cases O;try simp only[b6,seval,U,X,Y]
   rw[an];refine⟨_,rfl,?_⟩;refine ?_;all_goals first|rfl|(simp only[b6,seval,U,X,Y]<;>rfl)
  ·have i24:=w9 r3.1.aA r3.1.aK 2 ([(bJ.mk 0 1 r1),(bJ.mk 1 0 r1)]);simp only[bg,bS,List.length_cons,List.length_nil,ahE,Nat.reduceAdd,aiY]at i24;obtain⟨aJ,ag,O⟩:=ae O;try simp only[b6,seval,U,X,Y,i24,ag]
   apply sp aP O<;>intro _ O
   ·cases O;try simp only[b6,seval,U,X,Y,i24,ag]
    rw[an];refine⟨_,rfl,?_⟩;refine ?_;all_goals first|rfl|(simp only[b6,seval,U,X,Y,i24,ag]<;>rfl)
   ·obtain⟨aD,ar,O⟩:=ae O;have i28:=jv aD ([0,0]);simp only[bg,bS,List.length_cons,List.length_nil,ahE,Nat.reduceAdd,aiY]at i28;obtain⟨aL,au,O⟩:=ae O;try simp only[b6,seval,U,X,Y,i24,ag,ar,i28,au]
    apply sp aP O<;>intro _ O
    ·cases O;try simp only[b6,seval,U,X,Y,i24,ag,ar,i28,au]
     rw[an];refine⟨_,rfl,?_⟩;refine ?_;all_goals first|rfl|(simp only[b6,seval,U,X,Y,i24,ag,ar,i28,au]<;>rfl)
    ·obtain⟨aM,aw,O⟩:=ae O;obtain⟨aN,ax,O⟩:=ae O;cases O;try simp only[b6,seval,U,X,Y,i24,ag,ar,i28,au,aw,ax]
     rw[an];refine⟨_,rfl,?_⟩;refine ?_;all_goals first|rfl|(simp only[b6,seval,U,X,Y,i24,ag,ar,i28,au,aw,ax]<;>rfl)
def uL (l:Option (D×Row)) (d:List D):=dV (ie (bD aF) (dT (aI .i64))) (fun x:aw×Int=>vk x.1 x.2) (fun r:Bool =>.clean (.bool r)) l d
theorem aeK {β:Type} {F:aw×Int->Option β} {R:β->RK} (X:Int) (O:(List Int)) (Y:Int) (U:(List Int)) (Z:Int):dV (ie (bD aF) (dT (aI .i64))) F R none [.agg [.int .i64 X,.sl false false O.length (ab (eI .i64) O),.int .i64 Y,.sl false false U.length (ab (eI .i64) U)],.int .i64 Z]=(F ((aw.mk (aB.mk X O) (aB.mk Y U)),Z)).map fun r=>(R r,none):=cP _ _ _ ((aw.mk (aB.mk X O) (aB.mk Y U)),Z)
theorem Rf:bX prog 34 uL:=bX.gP (mode := .clean) tok bG.none mixed func34 (by kernel_rfl) (fun _ _=>rfl) (fun _=>by kernel_rfl) fun⟨U,X⟩ r O=>by
 replace O:vk U X=some r:=O;apply aG rfl ntmps34 results34;simp only[gQ];unfold vk at O;try simp only[w,seval]
 apply sp e7 O<;>intro _ O
 ·cases O;try simp only[w,seval]
 ·cases O;try simp only[w,seval]
def mO (l:Option (D×Row)) (d:List D):=dV (dT (bD wq)) (fun x:fH=>jx x) (fun r:Bool =>.clean (.bool r)) l d
def qC:Env:=(Am.ext bm 34 false uL)
theorem DA:bG prog qC:=(bG.none.add Rf false)
theorem aT:type_of% (ai @w<|ai @aeK<|ai @uL.eq_1<|@qC.eq_1):=⟨@w,@aeK,@uL.eq_1,@qC.eq_1⟩
theorem Ez:bX prog 33 mO:=bX.gP (mode := .clean) tok DA mixed func33 (by kernel_rfl) (fun _ _=>rfl) (fun _=>by kernel_rfl) fun X r U=>by
 replace U:jx X=some r:=U;apply aG rfl ntmps33 results33;simp only[gQ];unfold jx at U;try simp only[aT,seval]
 obtain⟨o1,ay,U⟩:=ae U;refine bB 0 (fun s t H e=>match s with|ag=>∃aa:Nat,t 1=.ptr 1 aa 0∧t 20=.bool ag∧H 1=some ⟨aa,52,[.sl false false X.al.length (ab bh X.al),.sl false false X.aJ.length (ab dU X.aJ),.sl false false X.aD.length (ab (jW aF) X.aD)],false,false,false⟩) (fun s=>s=o1) ?_ ?_
 ·rintro ag t H e ⟨aa,aj⟩ rfl;try dsimp only at U
  try simp only[aT,seval,aj]
  apply sp ak U<;>intro _ U
  ·cases U;try simp only[aT,seval,aj]
  ·try simp only[aT,seval,aj]
   obtain⟨az,ar,U⟩:=ae U;refine aC (fun s t H e=>match s with|ao=>∃aq:Nat,t 1=.ptr 1 aq 0∧t 3=.int .i64 ao∧H 1=some ⟨aq,52,[.sl false false X.al.length (ab bh X.al),.sl false false X.aJ.length (ab dU X.aJ),.sl false false X.aD.length (ab (jW aF) X.aD)],false,false,false⟩) (fun o x t H e=>match o with|(.inl _)=>x=.exit 0|(.inr r)=>x=.ret∧fF .clean tab none [.tmp 2] ⟨t,EH H,e⟩=some (.clean (.bool r),none)) ar ?_ ?_ ?_
   ·refine⟨aa,?_⟩;and_intros<;>first|rfl|(simp only[aT,seval,aj]<;>rfl)
   ·rintro ao t H e ⟨aq,Zb⟩ c U;simp only[lL]at U;try simp only[aT,seval,Zb]
    apply sp ak U<;>intro _ U
    ·obtain⟨aB,ah,U⟩:=ae U;have O:=bn (jW aF) ah;simp only[bS]at O;try simp only[aT,seval,Zb,O]
     apply sp ak U<;>intro _ U
     ·cases U;try simp only[aT,seval,Zb,O]
      refine qH ⟨rfl,?_⟩;try simp only[aT,seval,Zb,O]
     ·try simp only[aT,seval,Zb,O]
      obtain⟨aA,au,U⟩:=ae U;refine aC (fun s t H e=>match s with|av=>∃ai:Nat,t 1=.ptr 1 ai 0∧t 3=.int .i64 ao∧t 4=.int .i64 av∧H 1=some ⟨ai,52,[.sl false false X.al.length (ab bh X.al),.sl false false X.aJ.length (ab dU X.aJ),.sl false false X.aD.length (ab (jW aF) X.aD)],false,false,false⟩) (fun o x t H e=>match o with|(.inl _)=>x=.exit 2∧∃ad:Nat,t 1=.ptr 1 ad 0∧t 3=.int .i64 ao∧H 1=some ⟨ad,52,[.sl false false X.al.length (ab bh X.al),.sl false false X.aJ.length (ab dU X.aJ),.sl false false X.aD.length (ab (jW aF) X.aD)],false,false,false⟩|(.inr r)=>x=.ret∧fF .clean tab none [.tmp 2] ⟨t,EH H,e⟩=some (.clean (.bool r),none)) au ?_ ?_ ?_
      ·refine⟨aq,?_⟩;and_intros<;>first|rfl|(simp only[aT,seval,Zb,O]<;>rfl)
      ·rintro av t H e ⟨ai,Zd⟩ c U;simp only[eo]at U;have O:=bn (jW aF) ah;simp only[bS]at O;try simp only[aT,seval,O,Zd,O]
       apply sp ak U<;>intro _ U
       ·have O:=bn (jW aF) ah;simp only[bS]at O;obtain⟨aE,aw,U⟩:=ae U;have Y:=bn aF aw;simp only[bS]at Y;obtain⟨aH,Z,U⟩:=ae U;try simp only[aT,seval,O,Zd,O,O,Y,Z]
        apply sp ak U<;>intro _ U
        ·cases U;try simp only[aT,seval,O,Zd,O,O,Y,Z]
         refine qH ⟨rfl,?_⟩;try simp only[aT,seval,O,Zd,O,O,Y,Z]
        ·cases U;try simp only[aT,seval,O,Zd,O,O,Y,Z]
         apply iS;refine⟨ai,?_⟩;and_intros<;>first|rfl|(simp only[aT,seval,O,Zd,O,O,Y,Z]<;>rfl)
       ·cases U;try simp only[aT,seval,O,Zd,O]
        apply ka;refine⟨rfl,⟨ai,?_⟩⟩;and_intros<;>first|rfl|(simp only[aT,seval,O,Zd,O]<;>rfl)
      ·rintro x t H e hx;rcases aA with _|rd
       ·dsimp only at hx U;obtain⟨rfl,⟨ad,ax⟩⟩:=hx;cases U;try simp only[aT,seval,O,ax]
        apply iS;refine⟨ad,?_⟩;and_intros<;>first|rfl|(simp only[aT,seval,O,ax]<;>rfl)
       ·dsimp only at hx U;obtain⟨rfl,hE⟩:=hx;cases U;try simp only[bd,aX,bk,cJ,cI,ca,cc]
        apply qH;first|exact⟨rfl,hE⟩|(simp only[aT,seval]at hE;exact⟨rfl,hE⟩)
    ·cases U;try simp only[aT,seval,Zb]
     apply ka;exact rfl
   ·rintro x t H e hx;rcases az with _|rb
    ·dsimp only at hx U;subst hx;cases U;try simp only[aT,seval]
    ·dsimp only at hx U;obtain⟨rfl,hE⟩:=hx;cases U;try simp only[bd,aX,bk,cJ,cI,ca,cc]
     exact hE
 ·clear U;have U:=ay;try simp only[aT,seval]
  apply sp aP U<;>intro _ U
  ·cases U;try simp only[aT,seval]
   rw[an];refine⟨_,rfl,?_⟩;refine⟨0,?_⟩;and_intros<;>first|rfl|(simp only[aT,seval]<;>rfl)
  ·try simp only[aT,seval]
   apply sp aP U<;>intro _ U
   ·cases U;try simp only[aT,seval]
    rw[an];refine⟨_,rfl,?_⟩;refine⟨0,?_⟩;and_intros<;>first|rfl|(simp only[aT,seval]<;>rfl)
   ·cases U;try simp only[aT,seval]
    rw[an];refine⟨_,rfl,?_⟩;refine⟨0,?_⟩;and_intros<;>first|rfl|(simp only[aT,seval]<;>rfl)
def uN (l:Option (D×Row)) (d:List D):=dV (dT (bD nY)) (fun x:bC=>vl x) (fun r:Bool =>.clean (.bool r)) l d
def zn:Env:=(Am.ext bm 33 false mO)
theorem QU:bG prog zn:=(bG.none.add Ez false)
theorem cH:type_of% (ai @w<|ai @abm<|ai @mO.eq_1<|@zn.eq_1):=⟨@w,@abm,@mO.eq_1,@zn.eq_1⟩
theorem Rh:bX prog 8 uN:=bX.gP (mode := .clean) tok QU mixed func8 (by kernel_rfl) (fun _ _=>rfl) (fun _=>by kernel_rfl) fun p0 r U=>by
 replace U:vl p0=some r:=U;apply aG rfl ntmps8 results8;simp only[gQ];unfold vl at U;try simp only[cH,seval]
 obtain⟨o1,al,U⟩:=ae U;refine bB 0 (fun s t H e=>match s with|aa=>∃Y:Nat,t 1=.ptr 1 Y 0∧t 13=.bool aa∧H 1=some ⟨Y,25,[.sl false false p0.ah.length (ab (eI .i64) p0.ah),.sl false false p0.au.length (ab b9 p0.au)],false,false,false⟩) (fun s=>s=o1) ?_ ?_
 ·rintro aa t H e ⟨Y,ag⟩ rfl;try dsimp only at U
  try simp only[cH,seval,ag]
  apply sp ak U<;>intro _ U
  ·cases U;try simp only[cH,seval,ag]
  ·try simp only[cH,seval,ag]
   obtain⟨o9,ao,U⟩:=ae U;refine aC (fun s t H e=>match s with|aj=>∃ai:Nat,t 1=.ptr 1 ai 0∧t 3=.int .i64 aj∧H 1=some ⟨ai,25,[.sl false false p0.ah.length (ab (eI .i64) p0.ah),.sl false false p0.au.length (ab b9 p0.au)],false,false,false⟩) (fun o x t H e=>match o with|(.inl _)=>x=.exit 0|(.inr r)=>x=.ret∧fF .clean tab none [.tmp 2] ⟨t,EH H,e⟩=some (.clean (.bool r),none)) ao ?_ ?_ ?_
   ·refine⟨Y,?_⟩;and_intros<;>first|rfl|(simp only[cH,seval,ag]<;>rfl)
   ·rintro aj t H e ⟨ai,Z⟩ c U;simp only[sk]at U;try simp only[cH,seval,Z]
    apply sp ak U<;>intro _ U
    ·obtain⟨aq,ad,U⟩:=ae U;have O:=bn b9 ad;simp only[bS]at O;obtain⟨ar,X,U⟩:=ae U;try simp only[cH,seval,Z,O,X]
     apply sp aP U<;>intro _ U
     ·cases U;try simp only[cH,seval,Z,O,X]
      refine qH ⟨rfl,?_⟩;try simp only[cH,seval,Z,O,X]
     ·have O:=bn b9 ad;simp only[bS]at O;try simp only[cH,seval,Z,O,X,O]
      apply sp aP U<;>intro _ U
      ·cases U;try simp only[cH,seval,Z,O,X,O]
       refine qH ⟨rfl,?_⟩;try simp only[cH,seval,Z,O,X,O]
      ·have O:=bn b9 ad;simp only[bS]at O;try simp only[cH,seval,Z,O,X,O,O]
       apply sp ak U<;>intro _ U
       ·cases U;try simp only[cH,seval,Z,O,X,O,O]
        refine qH ⟨rfl,?_⟩;try simp only[cH,seval,Z,O,X,O,O]
       ·cases U;try simp only[cH,seval,Z,O,X,O,O]
        apply iS;refine⟨ai,?_⟩;and_intros<;>first|rfl|(simp only[cH,seval,Z,O,X,O,O]<;>rfl)
    ·cases U;try simp only[cH,seval,Z]
     apply ka;exact rfl
   ·rintro x t H e hx;rcases o9 with _|rb
    ·dsimp only at hx U;subst hx;cases U;try simp only[cH,seval]
    ·dsimp only at hx U;obtain⟨rfl,hE⟩:=hx;cases U;try simp only[bd,aX,bk,cJ,cI,ca,cc]
     exact hE
 ·clear U;have U:=al;try simp only[cH,seval]
  apply sp aP U<;>intro _ U
  ·cases U;try simp only[cH,seval]
   rw[an];refine⟨_,rfl,?_⟩;refine⟨0,?_⟩;and_intros<;>first|rfl|(simp only[cH,seval]<;>rfl)
  ·cases U;try simp only[cH,seval]
   rw[an];refine⟨_,rfl,?_⟩;refine⟨0,?_⟩;and_intros<;>first|rfl|(simp only[cH,seval]<;>rfl)
def Fw (l:Option (D×Row)) (d:List D):=dV (ie (bD nY) (ie (aI .u8) (dT (aI .u16)))) (fun x:bC×Int×Int=>jn x.1 x.2.1 x.2.2) (fun r:Bool =>.clean (.bool r)) l d
theorem EJ (O:(List Int)) (U:(List bY)):qK none [.agg [.sl false false O.length (ab (eI .i64) O),.sl false false U.length (ab b9 U)]]=(qE (bC.mk O U)).map fun r:fA×Int=>(.clean (.tup [.agg [.int .i64 r.1.aA,.sl false false r.1.aK.length (ab bj r.1.aK)],.int .i64 r.2]),none):=cP _ _ _ ((bC.mk O U))
def qv:Env:=(Am.sW 11 (3,1,0) (Am.ext (Am.ext (Am.ext (Am.ext (Am.ext (Am.ext (Am.ext bm 7 false rB) 8 false uN) 12 false qK) 17 false gT) 21 false fX) 29 false kA) 30 false kf))
theorem Du:bG prog qv:=(bG.sW (((((((bG.none.add OA false).add Rh false).add Ij false).add ud false).add sf false).add AQ false).add zB false) 11 (3,1,0))
theorem ay:type_of% (ai @w<|ai @sh8<|ai @rB.eq_1<|ai @V2<|ai @uN.eq_1<|ai @EJ<|ai @sX<|ai @gT.eq_1<|ai @Bx<|ai @fX.eq_1<|ai @kA.eq_1<|ai @Uc<|ai @kf.eq_1<|@qv.eq_1):=⟨@w,@sh8,@rB.eq_1,@V2,@uN.eq_1,@EJ,@sX,@gT.eq_1,@Bx,@fX.eq_1,@kA.eq_1,@Uc,@kf.eq_1,@qv.eq_1⟩
theorem El:bX prog 6 Fw:=bX.gP (mode := .clean) tok Du mixed func6 (by kernel_rfl) (fun _ _=>rfl) (fun _=>by kernel_rfl) fun⟨p0,p1,p2⟩ r hh=>by
 replace hh:jn p0 p1 p2=some r:=hh;apply aG rfl ntmps6 results6;simp only[gQ];unfold jn at hh;obtain⟨r1,al,hh⟩:=ae hh;obtain⟨r2,ao,hh⟩:=ae hh;try simp only[ay,seval,al,ao]
 obtain⟨o3,bI,hh⟩:=ae hh;refine bB 0 (fun s t H e=>match s with|bc=>∃aR:Nat,t 1=.int .u8 p1∧t 2=.int .u16 p2∧t 3=.ptr 3 aR 0∧t 7=.bool r1∧t 32=.bool bc∧H 3=some ⟨aR,25,[.sl false false p0.ah.length (ab (eI .i64) p0.ah),.sl false false p0.au.length (ab b9 p0.au)],false,false,false⟩) (fun s=>s=o3) ?_ ?_
 ·rintro bc t H e ⟨aR,aS⟩ rfl;try dsimp only at hh
  try simp only[ay,seval,al,ao,aS]
  apply sp ak hh<;>intro _ hh
  ·cases hh;try simp only[ay,seval,al,ao,aS]
  ·obtain⟨x5,bJ,hh⟩:=ae hh;have q6:=vb bJ;obtain⟨r7,ar,hh⟩:=ae hh;try simp only[ay,seval,al,ao,aS,q6,ar]
   obtain⟨o8,bK,hh⟩:=ae hh;refine bB 0 (fun s t H e=>match s with|bf=>∃aH:Nat,∃aI:Nat,t 2=.int .u16 p2∧t 3=.ptr 3 aH 0∧t 7=.bool r1∧t 8=.int .i64 x5∧t 9=.ptr 9 aI 0∧t 57=.bool bf∧H 3=some ⟨aH,25,[.sl false false p0.ah.length (ab (eI .i64) p0.ah),.sl false false p0.au.length (ab b9 p0.au)],false,false,false⟩∧H 9=some ⟨aI,28,[.int .i64 r7.1.aA,.sl false false r7.1.aK.length (ab bj r7.1.aK)],false,false,false⟩) (fun s=>s=o8) ?_ ?_
   ·rintro bf t H e ⟨aH,aI,aB⟩ rfl;try dsimp only at hh
    try simp only[ay,seval,al,ao,q6,ar,aB]
    apply sp ak hh<;>intro _ hh
    ·cases hh;try simp only[ay,seval,al,ao,q6,ar,aB]
    ·obtain⟨bO,bx,hh⟩:=ae hh;obtain⟨bh,Y,Z⟩:=xk bx;replace bh:=bh.symm;subst bh;have ad:bump (4*(e)+2) (e+1)=some (4*(e+1)+1):=xm (by omega);obtain⟨bl,a6,hh⟩:=ae hh;have O:=bn (eI .i64) a6;simp only[bS]at O;have O:=bn (eI .i64) a6;simp only[bS]at O;have ax:=fK (eI .i64) (x':=IntKind.i64.wrap (bl+(IntKind.i64.wrap p2))) (fo:=0) (cs:=[.int .i64 (IntKind.i64.wrap (bl+(IntKind.i64.wrap p2)))]) a6 rfl (aiG rfl);simp only[bS,Nat.add_zero]at ax;have X:=ax;simp only[putCells,List.length_cons,List.length_nil,ahE,Nat.reduceAdd]at X;try simp only[ay,seval,al,ao,q6,ar,aB,Y,Z,ad,O,O,ax,X]
     refine bH (by kernel_rfl) ?_;have i16:=EJ (p0.ah.set (x5).toNat (IntKind.i64.wrap (bl+(IntKind.i64.wrap p2)))) p0.au;simp only[bg,bS,List.length_cons,List.length_nil,ahE,Nat.reduceAdd,aiY]at i16;obtain⟨aL,ag,hh⟩:=ae hh;obtain⟨aT,ai,hh⟩:=ae hh;try simp only[ay,seval,al,ao,q6,ar,aB,Y,Z,ad,O,O,ax,X,i16,ag,ai]
     obtain⟨bL,bz,hh⟩:=ae hh;refine bB 0 (fun s t H e=>match s with|a7=>∃bm:Nat,∃a8:Nat,∃aZ:Nat,∃aM:Nat,∃aN:Nat,t 3=.ptr 3 bm 0∧t 7=.bool r1∧t 8=.int .i64 x5∧t 9=.ptr 9 a8 0∧t 11=.ptr 11 aZ 0∧t 12=.ptr 12 aM 0∧t 14=.sl false false aT.length (ab (eI .i64) aT)∧t 102=.bool a7∧H 3=some ⟨bm,25,[.sl false false p0.ah.length (ab (eI .i64) p0.ah),.sl false false p0.au.length (ab b9 p0.au)],false,false,false⟩∧H 9=some ⟨a8,28,[.int .i64 r7.1.aA,.sl false false r7.1.aK.length (ab bj r7.1.aK)],false,false,false⟩∧H 11=some ⟨aZ,25,[.nr 3 1 aN [.sl false false (p0.ah.set (x5).toNat (IntKind.i64.wrap (bl+(IntKind.i64.wrap p2)))).length (ab (eI .i64) (p0.ah.set (x5).toNat (IntKind.i64.wrap (bl+(IntKind.i64.wrap p2))))),.sl false false p0.au.length (ab b9 p0.au)]],false,false,true⟩∧H 12=some ⟨aM,28,[.int .i64 aL.1.aA,.sl false false aL.1.aK.length (ab bj aL.1.aK)],false,false,false⟩∧aN<=4*e) (fun s=>s=bL) ?_ ?_
     ·rintro a7 t H e ⟨bm,a8,aZ,aM,aN,bo⟩ rfl;try dsimp only at hh
      try simp only[ay,seval,al,ao,q6,ar,Y,Z,ad,O,O,ax,X,i16,ag,ai,bo]
      apply sp ak hh<;>intro _ hh
      ·cases hh;try simp only[ay,seval,al,ao,q6,ar,Y,Z,ad,O,O,ax,X,i16,ag,ai,bo]
      ·have O:=bn (eI .i64) a6;simp only[bS]at O;obtain⟨bP,bA,hh⟩:=ae hh;have av:=bn (eI .i64) bA;simp only[bS,aiY]at av;obtain⟨aD,aw,hh⟩:=ae hh;try simp only[ay,seval,al,ao,q6,ar,Y,Z,ad,O,O,ax,X,i16,ag,ai,bo,O,av,aw]
       refine bH (by kernel_rfl) ?_;try simp only[ay,seval,al,ao,q6,ar,Y,Z,ad,O,O,ax,X,i16,ag,ai,bo,O,av,aw]
       obtain⟨bM,bD,hh⟩:=ae hh;refine aC (fun s t H e=>match s with|bp=>∃bq:Nat,∃aU:Nat,∃aV:Nat,t 7=.bool r1∧t 8=.int .i64 x5∧t 9=.ptr 9 bq 0∧t 12=.ptr 12 aU 0∧t 14=.sl false false aT.length (ab (eI .i64) aT)∧t 15=.ptr 15 aV 0∧t 17=.int .i64 bp∧H 9=some ⟨bq,28,[.int .i64 r7.1.aA,.sl false false r7.1.aK.length (ab bj r7.1.aK)],false,false,false⟩∧H 12=some ⟨aU,28,[.int .i64 aL.1.aA,.sl false false aL.1.aK.length (ab bj aL.1.aK)],false,false,false⟩∧H 15=some ⟨aV,42,[.int .i64 aD.1.cv.aj,.sl false false aD.1.cv.aa.length (ab (eI .i64) aD.1.cv.aa),.int .i64 aD.1.cu.aj,.sl false false aD.1.cu.aa.length (ab (eI .i64) aD.1.cu.aa)],false,false,false⟩) (fun o x t H e=>match o with|(.inl _)=>x=.exit 0∧t 7=.bool r1∧t 8=.int .i64 x5∧t 14=.sl false false aT.length (ab (eI .i64) aT)|(.inr r)=>x=.ret∧fF .clean tab none [.tmp 6] ⟨t,EH H,e⟩=some (.clean (.bool r),none)) bD ?_ ?_ ?_
       ·refine⟨a8,aM,e,?_⟩;and_intros<;>first|rfl|(simp only[ay,seval,al,ao,q6,ar,Y,Z,ad,O,O,ax,X,i16,ag,ai,bo,O,av,aw]<;>rfl)
       ·rintro bp t H e ⟨bq,aU,aV,Zd⟩ c hh;simp only[jo]at hh;try simp only[ay,seval,al,ao,q6,ar,Y,Z,ad,O,O,ax,X,i16,ag,ai,O,av,aw,Zd]
        apply sp ak hh<;>intro _ hh
        ·obtain⟨bQ,ba,hh⟩:=ae hh;have U:=bn bj ba;simp only[bS]at U;have U:=bn bj ba;simp only[bS]at U;try simp only[ay,seval,al,ao,q6,ar,Y,Z,ad,O,O,ax,X,i16,ag,ai,O,av,aw,Zd,U,U]
         obtain⟨bN,bE,hh⟩:=ae hh;refine jA 0 (fun s t H e=>match s with|(aW,aE,aY,aF)=>∃bb:Nat,∃aO:Nat,∃aQ:Nat,∃a1:Nat,t 7=.bool r1∧t 8=.int .i64 x5∧t 9=.ptr 9 bb 0∧t 12=.ptr 12 aO 0∧t 14=.sl false false aT.length (ab (eI .i64) aT)∧t 15=.ptr 15 aQ 0∧t 17=.int .i64 bp∧t 18=.ptr 18 a1 0∧H 9=some ⟨bb,28,[.int .i64 r7.1.aA,.sl false false r7.1.aK.length (ab bj r7.1.aK)],false,false,false⟩∧H 12=some ⟨aO,28,[.int .i64 aL.1.aA,.sl false false aL.1.aK.length (ab bj aL.1.aK)],false,false,false⟩∧H 15=some ⟨aQ,42,[.int .i64 aD.1.cv.aj,.sl false false aD.1.cv.aa.length (ab (eI .i64) aD.1.cv.aa),.int .i64 aD.1.cu.aj,.sl false false aD.1.cu.aa.length (ab (eI .i64) aD.1.cu.aa)],false,false,false⟩∧H 18=some ⟨a1,42,[.int .i64 aW,.sl false false aE.length (ab (eI .i64) aE),.int .i64 aY,.sl false false aF.length (ab (eI .i64) aF)],false,false,false⟩) (fun s=>s=bN) ?_ ?_
         ·rintro⟨aW,aE,aY,aF⟩ t H e ⟨bb,aO,aQ,a1,az⟩ rfl;try dsimp only at hh
          obtain⟨bR,br,hh⟩:=ae hh;have aq:=bn bj br;simp only[bS]at aq;have U:=bn bj ba;simp only[bS]at U;try simp only[ay,seval,al,ao,q6,ar,Y,Z,ad,O,O,ax,X,i16,ag,ai,O,av,aw,U,U,az,aq,U]
          apply sp pG hh<;>intro _ hh
          ·try simp only[ay,seval,al,ao,q6,ar,Y,Z,ad,O,O,ax,X,i16,ag,ai,O,av,aw,U,U,az,aq,U]
           refine bH (by kernel_rfl) ?_;cases hh;try simp only[ay,seval,al,ao,q6,ar,Y,Z,ad,O,O,ax,X,i16,ag,ai,O,av,aw,U,U,az,aq,U]
           refine qH ⟨rfl,?_⟩;try simp only[ay,seval,al,ao,q6,ar,Y,Z,ad,O,O,ax,X,i16,ag,ai,O,av,aw,U,U,az,aq,U]
          ·have aq:=bn bj br;simp only[bS]at aq;have U:=bn bj ba;simp only[bS]at U;try simp only[ay,seval,al,ao,q6,ar,Y,Z,ad,O,O,ax,X,i16,ag,ai,O,av,aw,U,U,az,aq,U,aq,U]
           apply sp pG hh<;>intro _ hh
           ·try simp only[ay,seval,al,ao,q6,ar,Y,Z,ad,O,O,ax,X,i16,ag,ai,O,av,aw,U,U,az,aq,U,aq,U]
            refine bH (by kernel_rfl) ?_;cases hh;try simp only[ay,seval,al,ao,q6,ar,Y,Z,ad,O,O,ax,X,i16,ag,ai,O,av,aw,U,U,az,aq,U,aq,U]
            refine qH ⟨rfl,?_⟩;try simp only[ay,seval,al,ao,q6,ar,Y,Z,ad,O,O,ax,X,i16,ag,ai,O,av,aw,U,U,az,aq,U,aq,U]
           ·have aq:=bn bj br;simp only[bS]at aq;obtain⟨bT,aJ,hh⟩:=ae hh;try simp only[ay,seval,al,ao,q6,ar,Y,Z,ad,O,O,ax,X,i16,ag,ai,O,av,aw,U,U,az,aq,U,aq,U,aq,aJ]
            refine bH (by kernel_rfl) ?_;try simp only[ay,seval,al,ao,q6,ar,Y,Z,ad,O,O,ax,X,i16,ag,ai,O,av,aw,U,U,az,aq,U,aq,U,aq,aJ]
            apply sp ak hh<;>intro _ hh
            ·cases hh;try simp only[ay,seval,al,ao,q6,ar,Y,Z,ad,O,O,ax,X,i16,ag,ai,O,av,aw,U,U,az,aq,U,aq,U,aq,aJ]
             refine qH ⟨rfl,?_⟩;try simp only[ay,seval,al,ao,q6,ar,Y,Z,ad,O,O,ax,X,i16,ag,ai,O,av,aw,U,U,az,aq,U,aq,U,aq,aJ]
            ·cases hh;try simp only[ay,seval,al,ao,q6,ar,Y,Z,ad,O,O,ax,X,i16,ag,ai,O,av,aw,U,U,az,aq,U,aq,U,aq,aJ]
             apply iS;refine⟨bb,aO,aQ,?_⟩;and_intros<;>first|rfl|(simp only[ay,seval,al,ao,q6,ar,Y,Z,ad,O,O,ax,X,i16,ag,ai,O,av,aw,U,U,az,aq,U,aq,U,aq,aJ]<;>rfl)
         ·clear hh;have hh:=bE;try simp only[ay,seval,al,ao,q6,ar,Y,Z,ad,O,O,ax,X,i16,ag,ai,O,av,aw,Zd,U,U]
          apply sp ak hh<;>intro _ hh
          ·obtain⟨bU,bt,hh⟩:=ae hh;cases hh;try simp only[ay,seval,al,ao,q6,ar,Y,Z,ad,O,O,ax,X,i16,ag,ai,O,av,aw,Zd,U,U,bt]
           rw[an];refine⟨_,rfl,?_⟩;refine⟨bq,aU,aV,e+1,?_⟩;and_intros<;>first|rfl|(simp only[ay,seval,al,ao,q6,ar,Y,Z,ad,O,O,ax,X,i16,ag,ai,O,av,aw,Zd,U,U,bt]<;>rfl)
          ·cases hh;try simp only[ay,seval,al,ao,q6,ar,Y,Z,ad,O,O,ax,X,i16,ag,ai,O,av,aw,Zd,U,U]
           rw[an];refine⟨_,rfl,?_⟩;refine⟨bq,aU,aV,e+1,?_⟩;and_intros<;>first|rfl|(simp only[ay,seval,al,ao,q6,ar,Y,Z,ad,O,O,ax,X,i16,ag,ai,O,av,aw,Zd,U,U]<;>rfl)
        ·cases hh;try simp only[ay,seval,al,ao,q6,ar,Y,Z,ad,O,O,ax,X,i16,ag,ai,O,av,aw,Zd]
         apply ka;refine⟨rfl,?_⟩;and_intros<;>first|rfl|(simp only[ay,seval,al,ao,q6,ar,Y,Z,ad,O,O,ax,X,i16,ag,ai,O,av,aw,Zd]<;>rfl)
       ·rintro x t H e hx;rcases bM with _|rd
        ·dsimp only at hx hh;obtain⟨rfl,bw⟩:=hx;try simp only[ay,seval,al,ao,q6,ar,Y,Z,ad,O,O,ax,X,i16,ag,ai,O,av,aw,bw]
         apply sp e7 hh<;>intro _ hh
         ·obtain⟨bV,bF,hh⟩:=ae hh;have bu:=bn (eI .i64) bF;simp only[bS]at bu;cases hh;try simp only[ay,seval,al,ao,q6,ar,Y,Z,ad,O,O,ax,X,i16,ag,ai,O,av,aw,bw,bu]
         ·cases hh;try simp only[ay,seval,al,ao,q6,ar,Y,Z,ad,O,O,ax,X,i16,ag,ai,O,av,aw,bw]
        ·dsimp only at hx hh;obtain⟨rfl,hE⟩:=hx;cases hh;try simp only[bd,aX,bk,cJ,cI,ca,cc]
         exact hE
     ·clear hh;have hh:=bz;try simp only[ay,seval,al,ao,q6,ar,aB,Y,Z,ad,O,O,ax,X,i16,ag,ai]
      apply sp aP hh<;>intro _ hh
      ·cases hh;try simp only[ay,seval,al,ao,q6,ar,aB,Y,Z,ad,O,O,ax,X,i16,ag,ai]
       rw[an];refine⟨_,rfl,?_⟩;refine⟨aH,aI,e,e+1+1+1,4*(e+1)+1,?_,?_,?_,?_,?_,?_,?_,?_,?_,?_,?_,?_,?_⟩;all_goals (first|rfl|omega|(simp only[ay,seval,al,ao,q6,ar,aB,Y,Z,ad,O,O,ax,X,i16,ag,ai]<;>rfl))
      ·try simp only[ay,seval,al,ao,q6,ar,aB,Y,Z,ad,O,O,ax,X,i16,ag,ai]
       apply sp aP hh<;>intro _ hh
       ·cases hh;try simp only[ay,seval,al,ao,q6,ar,aB,Y,Z,ad,O,O,ax,X,i16,ag,ai]
        rw[an];refine⟨_,rfl,?_⟩;refine⟨aH,aI,e,e+1+1+1,4*(e+1)+1,?_,?_,?_,?_,?_,?_,?_,?_,?_,?_,?_,?_,?_⟩;all_goals (first|rfl|omega|(simp only[ay,seval,al,ao,q6,ar,aB,Y,Z,ad,O,O,ax,X,i16,ag,ai]<;>rfl))
       ·cases hh;try simp only[ay,seval,al,ao,q6,ar,aB,Y,Z,ad,O,O,ax,X,i16,ag,ai]
        rw[an];refine⟨_,rfl,?_⟩;refine⟨aH,aI,e,e+1+1+1,4*(e+1)+1,?_,?_,?_,?_,?_,?_,?_,?_,?_,?_,?_,?_,?_⟩;all_goals (first|rfl|omega|(simp only[ay,seval,al,ao,q6,ar,aB,Y,Z,ad,O,O,ax,X,i16,ag,ai]<;>rfl))
   ·clear hh;have hh:=bK;try simp only[ay,seval,al,ao,aS,q6,ar]
    apply sp aP hh<;>intro _ hh
    ·cases hh;try simp only[ay,seval,al,ao,aS,q6,ar]
     rw[an];refine⟨_,rfl,?_⟩;refine⟨aR,e+1,?_⟩;and_intros<;>first|rfl|(simp only[ay,seval,al,ao,aS,q6,ar]<;>rfl)
    ·obtain⟨bW,bG,hh⟩:=ae hh;have bs:=bn (eI .i64) bG;simp only[bS]at bs;cases hh;try simp only[ay,seval,al,ao,aS,q6,ar,bs]
     rw[an];refine⟨_,rfl,?_⟩;refine⟨aR,e+1,?_⟩;and_intros<;>first|rfl|(simp only[ay,seval,al,ao,aS,q6,ar,bs]<;>rfl)
 ·clear hh;have hh:=bI;try simp only[ay,seval,al,ao]
  apply sp aP hh<;>intro _ hh
  ·cases hh;try simp only[ay,seval,al,ao]
   rw[an];refine⟨_,rfl,?_⟩;refine⟨0,?_⟩;and_intros<;>first|rfl|(simp only[ay,seval,al,ao]<;>rfl)
  ·try simp only[ay,seval,al,ao]
   apply sp aP hh<;>intro _ hh
   ·cases hh;try simp only[ay,seval,al,ao]
    rw[an];refine⟨_,rfl,?_⟩;refine⟨0,?_⟩;and_intros<;>first|rfl|(simp only[ay,seval,al,ao]<;>rfl)
   ·cases hh;try simp only[ay,seval,al,ao]
    rw[an];refine⟨_,rfl,?_⟩;refine⟨0,?_⟩;and_intros<;>first|rfl|(simp only[ay,seval,al,ao]<;>rfl)
end Go.Proofs.YtoioidmblipblaaGreat.Am
namespace Go.Proofs.YtoioidmblipblaaGreat.Am
open Go.ChangeShapes Go.WideShapes Go.ChangeAt Go.RowKit Go.Proofs.YtoioidmblipblaaGreat.P
set_option maxRecDepth 100000
theorem Tryz.own:ownKnob Tryz.prog.godebug=none:=by kernel_rfl
theorem Tryz.laidOut:laidOutB prog=true:=by kernel_rfl
theorem FT (n:Nat):Bb tab (n+1) 3 (eI .i64) (fun x=>(Lit.int .i64 x).wf=true):=opI UF rfl rfl
theorem YU (n:Nat):Bb tab (n+2) 22 (jW (eI .i64)) (fun x=>(x.length*8<=140737488351232∧∀y∈x,(Lit.int .i64 y).wf=true)):=Ri Kz rfl rfl (by rw[UF];rfl) (FT n)
def wV (x:fI):Prop:=(Lit.int .i64 x.bl).wf=true∧((Lit.int .i64 x.aQ).wf=true∧((Lit.int .i64 x.aN).wf=true))
theorem aew (n:Nat):Bb tab (n+2) 95 bh (fun x=>wV x):=opS (g:=fun y=>fI.mk y.1 y.2.1 y.2.2) KF rfl rfl (fun _=>rfl) (zD (FT n) rfl (zD (FT n) rfl (OH (FT n))))
theorem aeo (n:Nat):Bb tab (n+3) 48 (jW bh) (fun x=>(x.length*24<=140737488351232∧∀y∈x,wV y)):=Ri Rx rfl rfl (by rw[KF];rfl) (aew n)
theorem af5 (n:Nat):Bb tab (n+1) 9 XV (fun x=>x.size<=140737488351232):=aek ZX rfl rfl
def Kb (x:s7):Prop:=(Lit.int .i64 x.bl).wf=true∧((Lit.int .i64 x.aQ).wf=true∧((Lit.int .i64 x.aN).wf=true∧(x.Dh.size<=140737488351232)))
theorem aex (n:Nat):Bb tab (n+2) 97 dU (fun x=>Kb x):=opS (g:=fun y=>s7.mk y.1 y.2.1 y.2.2.1 y.2.2.2) KG rfl rfl (fun _=>rfl) (zD (FT n) rfl (zD (FT n) rfl (zD (FT n) rfl (OH (af5 n)))))
theorem aep (n:Nat):Bb tab (n+3) 49 (jW dU) (fun x=>(x.length*40<=140737488351232∧∀y∈x,Kb y)):=Ri Ry rfl rfl (by rw[KG];rfl) (aex n)
def Ka (x:aB):Prop:=(Lit.int .i64 x.aj).wf=true∧((x.aa.length*8<=140737488351232∧∀y∈x.aa,(Lit.int .i64 y).wf=true))
theorem acw (n:Nat):Bb tab (n+3) 40 dF (fun x=>Ka x):=opS (g:=fun y=>aB.mk y.1 y.2) Rw rfl rfl (fun _=>rfl) (zD (FT (n+1)) rfl (OH (YU n)))
def ye (x:aw):Prop:=Ka x.cv∧(Ka x.cu)
theorem aen (n:Nat):Bb tab (n+4) 42 aF (fun x=>ye x):=opS (g:=fun y=>aw.mk y.1 y.2) KB rfl rfl (fun _=>rfl) (zD (acw n) rfl (OH (acw n)))
theorem aev (n:Nat):Bb tab (n+5) 85 (jW aF) (fun x=>(x.length*64<=140737488351232∧∀y∈x,ye y)):=Ri KE rfl rfl (by rw[KB];rfl) (aen n)
theorem aeq (n:Nat):Bb tab (n+6) 50 (jW (jW aF)) (fun x=>(x.length*24<=140737488351232∧∀y∈x,(y.length*64<=140737488351232∧∀z∈y,ye z))):=Ri Rz rfl rfl (by rw[KE];rfl) (aev n)
def Ow (x:fH):Prop:=(x.al.length*24<=140737488351232∧∀y∈x.al,wV y)∧((x.aJ.length*40<=140737488351232∧∀y∈x.aJ,Kb y)∧((x.aD.length*24<=140737488351232∧∀y∈x.aD,(y.length*64<=140737488351232∧∀z∈y,ye z))))
theorem aer (n:Nat):Bb tab (n+7) 52 wq (fun x=>Ow x):=opS (g:=fun y=>fH.mk y.1 y.2.1 y.2.2) RA rfl rfl (fun _=>rfl) (zD (aeo (n+3)) rfl (zD (aep (n+3)) rfl (OH (aeq n))))
def Kc (x:fQ):Prop:=(Lit.int .i64 x.bT).wf=true∧((Lit.int .i64 x.aN).wf=true)
theorem aeu (n:Nat):Bb tab (n+2) 57 fk (fun x=>Kc x):=opS (g:=fun y=>fQ.mk y.1 y.2) KD rfl rfl (fun _=>rfl) (zD (FT n) rfl (OH (FT n)))
theorem aes (n:Nat):Bb tab (n+3) 53 (jW fk) (fun x=>(x.length*16<=140737488351232∧∀y∈x,Kc y)):=Ri RB rfl rfl (by rw[KD];rfl) (aeu n)
def Ed (x:bY):Prop:=Ow x.ao∧((x.a7.length*16<=140737488351232∧∀y∈x.a7,Kc y)∧((x.aA.length*8<=140737488351232∧∀y∈x.aA,(Lit.int .i64 y).wf=true)))
theorem aet (n:Nat):Bb tab (n+8) 55 b9 (fun x=>Ed x):=opS (g:=fun y=>bY.mk y.1 y.2.1 y.2.2) KC rfl rfl (fun _=>rfl) (zD (aer n) rfl (zD (aes (n+4)) rfl (OH (YU (n+5)))))
theorem ael (n:Nat):Bb tab (n+9) 23 (jW b9) (fun x=>(x.length*120<=140737488351232∧∀y∈x,Ed y)):=Ri Rv rfl rfl (by rw[KC];rfl) (aet n)
def vd (x:bC):Prop:=(x.ah.length*8<=140737488351232∧∀y∈x.ah,(Lit.int .i64 y).wf=true)∧((x.au.length*120<=140737488351232∧∀y∈x.au,Ed y))
theorem aem (n:Nat):Bb tab (n+10) 25 nY (fun x=>vd x):=opS (g:=fun y=>bC.mk y.1 y.2) KA rfl rfl (fun _=>rfl) (zD (YU (n+7)) rfl (OH (ael n)))
theorem yh:WD tab 11 [25,5,62] (ie (bD nY) (ie (aI .u8) (dT (aI .u16)))) (fun x=>vd x.1∧((Lit.int .u8 x.2.1).wf=true∧((Lit.int .u16 x.2.2).wf=true))):=(aej (oaS KA rfl (aem 1)) (aej (oaI ZN rfl) (af4 (oaI RD rfl))))
theorem wR (law:∀(a0:bC) (X:Int) (a2:Int),(vd a0)->((Lit.int .u8 X).wf=true)->((Lit.int .u16 a2).wf=true)->P.jn a0 X a2=some true) (os:Os) (started:os.Started) (H:Type) (enc:TypeId×Value->H) :
  ReturnsInHanded {} Tryz.checked os 6 .any (Rows.netMoreSpec.pre6 enc prog Tryz.f6 Rows.netMoreRow.domain false) (Rows.netMoreSpec.post enc prog Tryz.f6 false true false false):=by
 refine Rp (C:=Tryz.checked) (T:=tab) (tb:=4) (n:=11) tok Tryz.own started (by kernel_rfl) func6
  (ChangeSpec.witness6 (enc:=enc) (C:=Tryz.checked) false ⟨#[],#[.agg #[.slice none 0 0,.slice none 0 0],.int .u8 0,.int .u16 0],[]⟩ 8 (by kernel_rfl) (by kernel_rfl) (by kernel_rfl) (by kernel_rfl)) Tryz.laidOut (by kernel_rfl) rfl (by kernel_rfl) rfl (fun ds O =>?_) (fun Z Y hs =>?_)
 ·rw[Tryz.params6]at O
  match ds,O with
  | [d0,d1,d2],_=>exact⟨rfl,rfl,rfl⟩
 ·rw[Tryz.params6]at Y hs;exact ac5 yh El (fun x U=>law x.1 x.2.1 x.2.2 U.1 U.2.1 U.2.2) Z Y hs
theorem xR (law:∀(a0:bC) (O:Int) (a2:Int),(vd a0)->((Lit.int .u8 O).wf=true)->((Lit.int .u16 a2).wf=true)->P.jn a0 O a2=some true):Rows.NetMoreSaid :=
 OpenClaim.holds_of_wide 6 Tryz.f6 rfl rfl rfl rfl rfl rfl rfl ⟨rfl,rfl,rfl,rfl,rfl⟩ rfl rfl rfl rfl rfl (by kernel_rfl) func6 (by kernel_rfl)
  (of_decide_eq_true (by kernel_rfl)) (by unfold Func.isWrapper;first|(rw[if_pos (by decide +kernel)];kernel_rfl)|(rw[if_neg (by decide +kernel)];exact⟨rfl,rfl⟩))
  (fun os started H enc _=>wR law os started H enc)
end Go.Proofs.YtoioidmblipblaaGreat.Am
namespace Go.Proofs.YtoioidmblipblaaGreat.P
open Go.RowKit
def aO (n:Nat):List Int:=if h:n=0 then [] else ((n % 1048576:Nat):Int)::aO (n / 1048576)
termination_by n
decreasing_by omega
def dv:List Int->Int
 | []=>0
 | d::l=>d+1048576*dv l
def Dg (l:List Int):Prop:=∀d∈l,0<=d∧d<1048576
def pw (i:Nat):Int:=1048576 ^ i
theorem mP:pw 0=1:=rfl
theorem ij (i:Nat):pw (i+1)=1048576*pw i:=by unfold pw;rw[Int.pow_succ,ai6]
theorem mz (i:Nat):0<pw i:=by unfold pw;exact Int.pow_pos (by decide)
theorem EG (i j:Nat):pw (i+j)=pw i*pw j:=by unfold pw;rw[Int.pow_add]
theorem p8 {i j:Nat} (h:i<=j):pw i<=pw j:=by
 obtain⟨k,rfl⟩:=Nat.le.dest h;rw[EG];have h1:=mz i;have h2:=mz k
 calc pw i=pw i*1:=by rw[ai7]
  _<=pw i*pw k:=ai8 (by omega) (by omega)
theorem cF:aO 0=[]:=by rw[aO];rfl
theorem mU {n:Nat} (h:n≠0):aO n=((n % 1048576:Nat):Int)::aO (n / 1048576):=by rw[aO,dif_neg h]
theorem qQ {n:Nat} : aO n=[]↔n=0:=by
 constructor
 ·intro h;rcases ag7 n with O|O
  ·exact O
  ·rw[mU (by omega)]at h;cases h
 ·rintro rfl;exact cF
theorem bx:∀n:Nat,dv (aO n)=n:=by
 intro n
 induction n using Nat.strongRecOn with
 | _ n U =>
  rcases ag7 n with O|O
  ·subst O;rw[cF];rfl
  ·rw[mU (by omega),dv,U (n / 1048576) (by omega)];omega
theorem cy:∀n:Nat,Dg (aO n):=by
 intro n
 induction n using Nat.strongRecOn with
 | _ n X =>
  rcases ag7 n with U|U
  ·subst U;rw[cF];intro d O;cases O
  ·rw[mU (by omega)];intro d O;rcases agW.1 O with rfl|O
   ·omega
   ·exact X (n / 1048576) (by omega) d O
theorem Dg.nil:Dg []:=fun d O=>by cases O
theorem Dg.cons {d:Int} {l:List Int} (h:Dg (d::l)):(0<=d∧d<1048576)∧Dg l:=⟨h d air,fun x O=>h x (ais _ O)⟩
theorem Dg.mk {d:Int} {l:List Int} (h:0<=d∧d<1048576) (U:Dg l):Dg (d::l):=fun x O=>by
 rcases agW.1 O with rfl|O
 ·exact h
 ·exact U x O
theorem Dg.append {l m:List Int} (h:Dg l) (hm:Dg m):Dg (l++m):=fun x O=>(ah7.1 O).elim (h x) (hm x)
theorem Dg.take {l:List Int} (h:Dg l) (n:Nat):Dg (l.take n):=fun x O=>h x (ahz O)
theorem Dg.drop {l:List Int} (h:Dg l) (n:Nat):Dg (l.drop n):=fun x O=>h x (ahx O)
theorem Dg.rep (n:Nat):Dg (List.replicate n 0):=fun x O=>by rw[(List.mem_replicate.1 O).2];omega
theorem Dg.set {l:List Int} (h:Dg l) (i:Nat) {x:Int} (U:0<=x∧x<1048576):Dg (l.set i x):=fun y O=>by
 rcases List.mem_or_eq_of_mem_set O with O|rfl
 ·exact h y O
 ·exact U
theorem Dg.get {l:List Int} (h:Dg l) {i:Nat} (O:i<l.length):0<=l[i]∧l[i]<1048576:=h _ (ag1 O)
theorem cN:∀ {l:List Int},Dg l->0<=dv l
 | [],_=>Int.le_refl _
 | d::l,h=>by
  have h1:=h.cons;have:=cN h1.2;simp only[dv];omega
theorem nK:∀ {l:List Int},Dg l->dv l<pw l.length
 | [],_=>by simp[dv,mP]
 | d::l,h=>by
  have h1:=h.cons;have:=nK h1.2;simp only[dv,List.length_cons,ij];omega
theorem gj:∀l m:List Int,dv (l++m)=dv l+pw l.length*dv m
 | [],m=>by simp[dv,mP]
 | d::l,m=>by
  rw[aiQ,dv,dv,gj l m,ahf,ij,ai9,aja];omega
theorem yS:∀n:Nat,dv (List.replicate n 0)=0
 | 0=>rfl
 | n+1=>by rw[ahM,dv,yS n];rfl
theorem fT {l:List Int} {i:Nat} (h:i<l.length):dv (l.take (i+1))=dv (l.take i)+pw i*l[i]:=by
 have e:l.take (i+1)=l.take i++[l[i]]:=by rw[ajb];simp[h]
 rw[e,gj,ag8,ah4 (by omega)];simp[dv]
theorem iO (l:List Int) {i:Nat} (h:i<=l.length):dv l=dv (l.take i)+pw i*dv (l.drop i):=by
 have:=gj (l.take i) (l.drop i);rw[aiL,ag8,ah4 h]at this;exact this
theorem rV {l:List Int} {i:Nat} (h:i<l.length) (x:Int):dv (l.set i x)=dv l+pw i*(x-l[i]):=by
 induction l generalizing i with
 | nil=>simp at h
 | cons d l O =>
  cases i with
  | zero=>simp only[List.set_cons_zero,dv,mP,List.getElem_cons_zero];omega
  | succ i =>
   have:=O (i:=i) (by simpa using h);simp only[List.set_cons_succ,dv,this,ij,List.getElem_cons_succ,ai9,aja];omega
theorem BG:∀ {l:List Int},Dg l->(∀h:l≠[],l.getLast h≠0)->aO (dv l).toNat=l
 | [],_,_=>by simp[dv,cF]
 | d::l,h,O=>by
  have h1:=h.cons;have h2:=cN h1.2;have U:(dv (d::l)).toNat≠0:=by
   simp only[dv];intro h0;have X:d=0:=by omega
   have Z:dv l=0:=by omega
   cases l with
   | nil=>exact O (by simp) (by simpa using X)
   | cons e m =>
    have Y:=BG h1.2 (fun hh=>by have:=O (by simp);simpa using this);rw[Z]at Y;simp[cF]at Y
  rw[mU U];have e1:(dv (d::l)).toNat % 1048576=d.toNat:=by simp only[dv];omega
  have e2:(dv (d::l)).toNat / 1048576=(dv l).toNat:=by simp only[dv];omega
  rw[e1,e2];have X:(d.toNat:Int)=d:=by omega
  rw[X];cases l with
  | nil=>simp[dv,cF]
  | cons e m=>rw[BG h1.2 (fun hh=>by have:=O (by simp);simpa using this)]
theorem U7:∀(n:Nat) (h:aO n≠[]),(aO n).getLast h≠0:=by
 intro n
 induction n using Nat.strongRecOn with
 | _ n X =>
  intro h;have Y:n≠0:=fun U=>h (qQ.2 U);have e:=mU Y
  by_cases hq:n / 1048576=0
  ·have:aO n=[((n % 1048576:Nat):Int)]:=by rw[e,hq,cF]
   simp only[this,List.getLast_singleton];omega
  ·have O:aO (n / 1048576)≠[]:=fun U=>hq (qQ.1 U);have:=X (n / 1048576) (by omega) O;simp only[e];rw[List.getLast_cons O];exact this
theorem XA {a b:Nat} (h:aO a=aO b):a=b:=by
 have:=congrArg dv h;rw[bx,bx]at this;omega
theorem gI {n k:Nat} (h:(n:Int)<pw k):(aO n).length<=k:=by
 induction k generalizing n with
 | zero =>
  rw[mP]at h;have:n=0:=by omega
  rw[this,cF];simp
 | succ k U =>
  by_cases O:n=0
  ·rw[O,cF];simp
  ·rw[mU O,ahf];rw[ij]at h;have:=U (n:=n / 1048576) (by omega);omega
theorem fO (n:Nat):(n:Int)<pw (aO n).length:=by
 have:=nK (cy n)
 rwa [bx]at this
theorem xw {n:Nat} (h:n≠0):pw ((aO n).length-1)<=n∧0<(aO n).length:=by
 induction n using Nat.strongRecOn with
 | _ n U =>
  rw[mU h,ahf];refine⟨?_,by omega⟩
  by_cases O:n / 1048576=0
  ·rw[O,cF];simp[mP];omega
  ·obtain⟨h1,h2⟩:=U (n / 1048576) (by omega) O;have:(aO (n / 1048576)).length+1-1=((aO (n / 1048576)).length-1)+1:=by omega
   rw[this,ij];omega
theorem s8 {x:Int} (h1 : -9223372036854775808<=x) (h2:x<9223372036854775808):j0 .and .i64 x 1048575=x % 1048576:=by
 unfold j0;simp only;have e1:(BitVec.ofInt IntKind.i64.bits x &&& BitVec.ofInt IntKind.i64.bits 1048575).toNat=((x % 18446744073709551616).toNat) % 1048576:=by
  rw[BitVec.toNat_and,BitVec.toNat_ofInt,BitVec.toNat_ofInt];have e:((1048575:Int) % ((2 ^ IntKind.i64.bits:Nat):Int)).toNat=2 ^ 20-1:=by decide
  rw[e,ajc];rfl
 rw[e1,wrap64 (by omega) (by omega)];omega
theorem aaB {x:Int} (h1 : -9223372036854775808<=x) (h2:x<9223372036854775808):j0 .and .i64 x 1=x % 2:=by
 unfold j0;simp only;have e1:(BitVec.ofInt IntKind.i64.bits x &&& BitVec.ofInt IntKind.i64.bits 1).toNat=((x % 18446744073709551616).toNat) % 2:=by
  rw[BitVec.toNat_and,BitVec.toNat_ofInt,BitVec.toNat_ofInt];have e:((1:Int) % ((2 ^ IntKind.i64.bits:Nat):Int)).toNat=2 ^ 1-1:=by decide
  rw[e,ajc];rfl
 rw[e1,wrap64 (by omega) (by omega)];omega
theorem Pb (x:Int):By .i64 x 20=some (x / 1048576):=by
 unfold By;rw[if_neg (by decide)];have e:(2:Int) ^ (min (Int.toNat 20) IntKind.i64.bits)=1048576:=by decide
 rw[e,Int.fdiv_eq_ediv_of_nonneg _ (by decide)]
theorem Zj {x:Int} (O:0<=x) (h:x<8796093022208):FY .i64 x 20=some (1048576*x):=by
 unfold FY;rw[if_neg (by decide)];have e:(2:Int) ^ (min (Int.toNat 20) IntKind.i64.bits)=1048576:=by decide
 rw[e,wrap64 (by omega) (by omega),ai6]
end Go.Proofs.YtoioidmblipblaaGreat.P
