import Derived.Test.YtoioidmblipblaaGreatIe
set_option linter.unusedSimpArgs false
set_option linter.unusedVariables false
noncomputable section
open Go.Proofs.Tryz
namespace Go.Proofs.YtoioidmblipblaaGreat.Am
open Go.RowKit Go.Proofs.YtoioidmblipblaaGreat.P
set_option maxRecDepth 100000
set_option maxHeartbeats 4000000
theorem DM:bT prog 120 lL:=bT.gJ (mode := .clean) tok PW mixed func120 (by kernel_rfl) (fun _ _=>rfl) (fun _=>by kernel_rfl) fun⟨p0,p1⟩ r U=>by
 replace U:qU p0 p1=some r:=U;apply aF rfl ntmps120 results120;simp only[gK];unfold qU at U;obtain⟨r1,ah,U⟩:=ae U;try simp only[aY,seval,-Int.reduceToNat,ah]
 apply sp aj U<;>intro _ U
 ·obtain⟨r3,b9,U⟩:=ae U;cases U;try simp only[aY,seval,-Int.reduceToNat,ah,b9]
 ·try simp only[aY,seval,-Int.reduceToNat,ah]
  apply sp aj U<;>intro _ U
  ·obtain⟨x5,ca,U⟩:=ae U;have bF:=bC (eI .i64) ca;simp only[bX]at bF;obtain⟨r6,cb,U⟩:=ae U;have i7:=mh ([r6.2]);simp only[bh,bX,List.length_cons,List.length_nil,agt,Nat.reduceAdd,ahI]at i7;obtain⟨r8,cc,U⟩:=ae U;cases U;try simp only[aY,seval,-Int.reduceToNat,ah,bF,cb,i7,cc]
  ·try simp only[aY,seval,-Int.reduceToNat,ah]
   obtain⟨cd,bG,U⟩:=ae U;refine aC (fun s t H e=>match s with|bI=>t 0=.sl false false p0.length (ab (eI .i64) p0)∧t 1=.sl false false p1.length (ab (eI .i64) p1)∧t 8=.int .i64 bI) (fun o x t H e=>match o with|az=>x=.exit 0∧t 0=.sl false false p0.length (ab (eI .i64) p0)∧t 1=.sl false false p1.length (ab (eI .i64) p1)∧t 8=.int .i64 az) bG ?_ ?_ ?_
   ·and_intros<;>first|rfl|(simp only[aY,seval,-Int.reduceToNat,ah]<;>rfl)
   ·rintro bI t H e Za c U;simp only[qV]at U;obtain⟨cp,bJ,U⟩:=ae U;have aH:=bC (eI .i64) bJ;simp only[bX]at aH;try simp only[aY,seval,-Int.reduceToNat,ah,Za,aH]
    apply sp aj U<;>intro _ U
    ·cases U;try simp only[aY,seval,-Int.reduceToNat,ah,Za,aH]
     apply iP;and_intros<;>first|rfl|(simp only[aY,seval,-Int.reduceToNat,ah,Za,aH]<;>rfl)
    ·cases U;try simp only[aY,seval,-Int.reduceToNat,ah,Za,aH]
     apply jW;refine⟨rfl,?_⟩;and_intros<;>first|rfl|(simp only[aY,seval,-Int.reduceToNat,ah,Za,aH]<;>rfl)
   ·rintro x t H e hx;obtain⟨az,rfl⟩:∃z,z=cd:=⟨_,rfl⟩;dsimp only at hx U;obtain⟨rfl,a7⟩:=hx;have i14:=uv p0 ([az]);simp only[bh,bX,List.length_cons,List.length_nil,agt,Nat.reduceAdd,ahI]at i14;obtain⟨cq,Y,U⟩:=ae U;obtain⟨cr,bK,U⟩:=ae U;obtain⟨Z,X,aa,ad⟩:=ir (eI .i64) bK;simp only[bX]at X;have i18:=uv p1 ([az]);simp only[bh,bX,List.length_cons,List.length_nil,agt,Nat.reduceAdd,ahI]at i18;obtain⟨ay,ag,U⟩:=ae U;try simp only[aY,seval,-Int.reduceToNat,ah,a7,i14,Y,Z,X,aa,ad,i18,ag]
    obtain⟨cf,bL,U⟩:=ae U;refine j9 0 (fun s t H e=>match s with|ba=>∃aV:Nat,∃aK:Nat,t 8=.int .i64 az∧t 9=.buf 9 aV 1 0 (ba).length∧t 10=.buf 10 aK 1 0 (ay).length∧H 9=some ⟨aV,3,ab (eI .i64) ba,false,true,false⟩∧H 10=some ⟨aK,3,ab (eI .i64) ay,false,true,false⟩) (fun s=>s=cf) ?_ ?_
    ·rintro ba t H e ⟨aV,aK,bM⟩ rfl;try dsimp only at U
     obtain⟨ct,bN,U⟩:=ae U;obtain⟨ak,an,ao,ai,aq⟩:=mk_one (eI .i64) bN;simp only[bX]at ai;try simp only[aY,seval,-Int.reduceToNat,ah,i14,Y,Z,X,aa,ad,i18,ag,bM,ak,an,ao,ai,aq]
     obtain⟨cg,bO,U⟩:=ae U;refine aC (fun s t H e=>match s with|(aB,aD,aA)=>∃bb:Nat,∃aW:Nat,∃aO:Nat,∃bc:Bool,t 8=.int .i64 az∧t 9=.buf 9 bb 1 0 (aD).length∧t 10=.buf 10 aW 1 0 (ay).length∧t 11=.int .i64 ((ay).length:Int)∧t 12=.buf 12 aO 1 0 (aA).length∧t 13=.int .i64 aB∧H 9=some ⟨bb,3,ab (eI .i64) aD,false,true,false⟩∧H 10=some ⟨aW,3,ab (eI .i64) ay,bc,true,false⟩∧H 12=some ⟨aO,3,ab (eI .i64) aA,false,true,false⟩) (fun o x t H e=>match o with|(bd,aS)=>x=.exit 2∧∃bf:Nat,∃aT:Nat,t 8=.int .i64 az∧t 9=.buf 9 bf 1 0 (bd).length∧t 12=.buf 12 aT 1 0 (aS).length∧H 9=some ⟨bf,3,ab (eI .i64) bd,false,true,false⟩∧H 12=some ⟨aT,3,ab (eI .i64) aS,false,true,false⟩) bO ?_ ?_ ?_
     ·refine⟨aV,aK,e+1,false,?_⟩;and_intros<;>first|rfl|(simp only[aY,seval,-Int.reduceToNat,ah,i14,Y,Z,X,aa,ad,i18,ag,bM,ak,an,ao,ai,aq]<;>rfl)
     ·rintro⟨aB,aD,aA⟩ t H e ⟨bb,aW,aO,bc,Zc⟩ c U;simp only[qW]at U;try simp only[aY,seval,-Int.reduceToNat,ah,i14,Y,Z,X,aa,ad,i18,ag,ak,an,ao,ai,aq,Zc]
      apply sp aj U<;>intro _ U
      ·obtain⟨cu,bP,U⟩:=ae U;have ar:=bC (eI .i64) bP;simp only[bX]at ar;obtain⟨cv,bQ,U⟩:=ae U;have av:=Bl bQ;obtain⟨cw,bR,U⟩:=ae U;have au:=bC (eI .i64) bR;simp only[bX]at au;try simp only[aY,seval,-Int.reduceToNat,ah,i14,Y,Z,X,aa,ad,i18,ag,ak,an,ao,ai,aq,Zc,ar,av,au]
       refine bH (by kernel_rfl) ?_;obtain⟨cx,bg,U⟩:=ae U;have O:=bC (eI .i64) bg;simp only[bX]at O;obtain⟨cy,bS,U⟩:=ae U;have aw:=rf bS;have O:=bC (eI .i64) bg;simp only[bX]at O;obtain⟨cz,bU,U⟩:=ae U;have ax:=uq bU;try simp only[aY,seval,-Int.reduceToNat,ah,i14,Y,Z,X,aa,ad,i18,ag,ak,an,ao,ai,aq,Zc,ar,av,au,O,aw,O,ax]
       refine bH (by kernel_rfl) ?_;try simp only[aY,seval,-Int.reduceToNat,ah,i14,Y,Z,X,aa,ad,i18,ag,ak,an,ao,ai,aq,Zc,ar,av,au,O,aw,O,ax]
       obtain⟨ch,bV,U⟩:=ae U;refine aC (fun s t H e=>match s with|(bj,bk)=>∃a8:Nat,∃aI:Nat,∃aJ:Nat,∃aP:Bool,t 8=.int .i64 az∧t 9=.buf 9 a8 1 0 (aD).length∧t 10=.buf 10 aI 1 0 (ay).length∧t 11=.int .i64 ((ay).length:Int)∧t 12=.buf 12 aJ 1 0 (aA).length∧t 13=.int .i64 aB∧t 15=.int .i64 bj∧t 16=.int .i64 bk∧H 9=some ⟨a8,3,ab (eI .i64) aD,false,true,false⟩∧H 10=some ⟨aI,3,ab (eI .i64) ay,aP,true,false⟩∧H 12=some ⟨aJ,3,ab (eI .i64) aA,false,true,false⟩) (fun o x t H e=>match o with|aU=>x=.exit 4∧∃aX:Nat,∃aL:Nat,∃aM:Nat,∃bl:Bool,t 8=.int .i64 az∧t 9=.buf 9 aX 1 0 (aD).length∧t 10=.buf 10 aL 1 0 (ay).length∧t 11=.int .i64 ((ay).length:Int)∧t 12=.buf 12 aM 1 0 (aA).length∧t 13=.int .i64 aB∧t 15=.int .i64 aU∧H 9=some ⟨aX,3,ab (eI .i64) aD,false,true,false⟩∧H 10=some ⟨aL,3,ab (eI .i64) ay,bl,true,false⟩∧H 12=some ⟨aM,3,ab (eI .i64) aA,false,true,false⟩) bV ?_ ?_ ?_
       ·refine⟨bb,aW,aO,bc,?_⟩;and_intros<;>first|rfl|(simp only[aY,seval,-Int.reduceToNat,ah,i14,Y,Z,X,aa,ad,i18,ag,ak,an,ao,ai,aq,Zc,ar,av,au,O,aw,O,ax]<;>rfl)
       ·rintro⟨bj,bk⟩ t H e ⟨a8,aI,aJ,aP,Zg⟩ c U;simp only[qX]at U;try simp only[aY,seval,-Int.reduceToNat,ah,i14,Y,Z,X,aa,ad,i18,ag,ak,an,ao,ai,aq,ar,av,au,O,aw,O,ax,Zg]
        obtain⟨cj,bW,U⟩:=ae U;refine OS 0 (fun s t H e=>match s with|aZ=>∃aQ:Nat,∃aE:Nat,∃aG:Nat,∃aN:Bool,t 8=.int .i64 az∧t 9=.buf 9 aQ 1 0 (aD).length∧t 10=.buf 10 aE 1 0 (ay).length∧t 11=.int .i64 ((ay).length:Int)∧t 12=.buf 12 aG 1 0 (aA).length∧t 13=.int .i64 aB∧t 15=.int .i64 bj∧t 16=.int .i64 bk∧t 137=.bool aZ∧H 9=some ⟨aQ,3,ab (eI .i64) aD,false,true,false⟩∧H 10=some ⟨aE,3,ab (eI .i64) ay,aN,true,false⟩∧H 12=some ⟨aG,3,ab (eI .i64) aA,false,true,false⟩) (fun s=>s=cj) ?_ ?_
        ·rintro aZ t H e ⟨aQ,aE,aG,aN,bm⟩ rfl;try dsimp only at U
         try simp only[aY,seval,-Int.reduceToNat,ah,i14,Y,Z,X,aa,ad,i18,ag,ak,an,ao,ai,aq,ar,av,au,O,aw,O,ax,bm]
         apply sp aj U<;>intro _ U
         ·have O:=bC (eI .i64) bg;simp only[bX]at O;cases U;try simp only[aY,seval,-Int.reduceToNat,ah,i14,Y,Z,X,aa,ad,i18,ag,ak,an,ao,ai,aq,ar,av,au,O,aw,O,ax,bm,O]
          apply iP;refine⟨aQ,aE,aG,aN,?_⟩;and_intros<;>first|rfl|(simp only[aY,seval,-Int.reduceToNat,ah,i14,Y,Z,X,aa,ad,i18,ag,ak,an,ao,ai,aq,ar,av,au,O,aw,O,ax,bm,O]<;>rfl)
         ·cases U;try simp only[aY,seval,-Int.reduceToNat,ah,i14,Y,Z,X,aa,ad,i18,ag,ak,an,ao,ai,aq,ar,av,au,O,aw,O,ax,bm]
          apply jW;refine⟨rfl,⟨aQ,aE,aG,aN,?_⟩⟩;and_intros<;>first|rfl|(simp only[aY,seval,-Int.reduceToNat,ah,i14,Y,Z,X,aa,ad,i18,ag,ak,an,ao,ai,aq,ar,av,au,O,aw,O,ax,bm]<;>rfl)
        ·clear U;have U:=bW;try simp only[aY,seval,-Int.reduceToNat,ah,i14,Y,Z,X,aa,ad,i18,ag,ak,an,ao,ai,aq,ar,av,au,O,aw,O,ax,Zg]
         apply sp mY U<;>intro _ U
         ·try simp only[aY,seval,-Int.reduceToNat,ah,i14,Y,Z,X,aa,ad,i18,ag,ak,an,ao,ai,aq,ar,av,au,O,aw,O,ax,Zg]
          refine bH (by kernel_rfl) ?_;cases U;try simp only[aY,seval,-Int.reduceToNat,ah,i14,Y,Z,X,aa,ad,i18,ag,ak,an,ao,ai,aq,ar,av,au,O,aw,O,ax,Zg]
          rw[al];refine⟨_,rfl,?_⟩;refine⟨a8,aI,aJ,aP,?_⟩;and_intros<;>first|rfl|(simp only[aY,seval,-Int.reduceToNat,ah,i14,Y,Z,X,aa,ad,i18,ag,ak,an,ao,ai,aq,ar,av,au,O,aw,O,ax,Zg]<;>rfl)
         ·try simp only[aY,seval,-Int.reduceToNat,ah,i14,Y,Z,X,aa,ad,i18,ag,ak,an,ao,ai,aq,ar,av,au,O,aw,O,ax,Zg]
          apply sp TT U<;>intro _ U
          ·obtain⟨cA,bY,U⟩:=ae U;have a1:=bC (eI .i64) bY;simp only[bX]at a1;obtain⟨cB,bZ,U⟩:=ae U;have bE:=Bl bZ;obtain⟨cC,b1,U⟩:=ae U;have a6:=bC (eI .i64) b1;simp only[bX]at a6;try simp only[aY,seval,-Int.reduceToNat,ah,i14,Y,Z,X,aa,ad,i18,ag,ak,an,ao,ai,aq,ar,av,au,O,aw,O,ax,Zg,a1,bE,a6]
           refine bH (by kernel_rfl) ?_;cases U;try simp only[aY,seval,-Int.reduceToNat,ah,i14,Y,Z,X,aa,ad,i18,ag,ak,an,ao,ai,aq,ar,av,au,O,aw,O,ax,Zg,a1,bE,a6]
           rw[al];refine⟨_,rfl,?_⟩;refine⟨a8,aI,aJ,aP,?_⟩;and_intros<;>first|rfl|(simp only[aY,seval,-Int.reduceToNat,ah,i14,Y,Z,X,aa,ad,i18,ag,ak,an,ao,ai,aq,ar,av,au,O,aw,O,ax,Zg,a1,bE,a6]<;>rfl)
          ·try simp only[aY,seval,-Int.reduceToNat,ah,i14,Y,Z,X,aa,ad,i18,ag,ak,an,ao,ai,aq,ar,av,au,O,aw,O,ax,Zg]
           refine bH (by kernel_rfl) ?_;cases U;try simp only[aY,seval,-Int.reduceToNat,ah,i14,Y,Z,X,aa,ad,i18,ag,ak,an,ao,ai,aq,ar,av,au,O,aw,O,ax,Zg]
           rw[al];refine⟨_,rfl,?_⟩;refine⟨a8,aI,aJ,aP,?_⟩;and_intros<;>first|rfl|(simp only[aY,seval,-Int.reduceToNat,ah,i14,Y,Z,X,aa,ad,i18,ag,ak,an,ao,ai,aq,ar,av,au,O,aw,O,ax,Zg]<;>rfl)
       ·rintro x t H e hx;obtain⟨aU,rfl⟩:∃z,z=ch:=⟨_,rfl⟩;dsimp only at hx U;obtain⟨rfl,⟨aX,aL,aM,bl,b2⟩⟩:=hx;obtain⟨ck,aR,U⟩:=ae U;obtain⟨bt,bu,bw,cn,bn⟩:=acm (eI .i64) aR;simp only[bX]at bn;have i89:=D8 (ab (eI .i64) (aD.take (aB).toNat)) (ab (eI .i64) (aD.drop (IntKind.i64.wrap ((IntKind.i64.wrap (aB+((ay).length:Int)))+1)).toNat)) ck ay aU;simp only[aaw,aax (eI .i64) aR,aay (eI .i64) aR,abw aR,bX,Int.toNat_zero,ahx,Nat.sub_zero]at i89;obtain⟨b3,bo,U⟩:=ae U;have b4:=yL bo;have bx:=Zo aR b4;obtain⟨cD,bz,U⟩:=ae U;have bp:=bC (eI .i64) bz;simp only[bX]at bp;have bs:=fP (eI .i64) (x':=b3.2) (fo:=0) (cs:=[.int .i64 b3.2]) bz rfl (ahr rfl);simp only[bX,Nat.add_zero]at bs;have bq:=bs;simp only[putCells,List.length_cons,List.length_nil,agt,Nat.reduceAdd]at bq;cases U;try simp only[aY,seval,-Int.reduceToNat,ah,i14,Y,Z,X,aa,ad,i18,ag,ak,an,ao,ai,aq,ar,av,au,O,aw,O,ax,b2,bt,bu,bw,bn,i89,bo,bx,bp,bs,bq]
        apply iP;refine⟨aX,aL,aM,true,?_⟩;and_intros<;>first|rfl|(simp only[aY,seval,-Int.reduceToNat,ah,i14,Y,Z,X,aa,ad,i18,ag,ak,an,ao,ai,aq,ar,av,au,O,aw,O,ax,b2,bt,bu,bw,bn,i89,bo,bx,bp,bs,bq]<;>rfl)
      ·cases U;try simp only[aY,seval,-Int.reduceToNat,ah,i14,Y,Z,X,aa,ad,i18,ag,ak,an,ao,ai,aq,Zc]
       apply jW;refine⟨rfl,⟨bb,aO,?_⟩⟩;and_intros<;>first|rfl|(simp only[aY,seval,-Int.reduceToNat,ah,i14,Y,Z,X,aa,ad,i18,ag,ak,an,ao,ai,aq,Zc]<;>rfl)
     ·rintro x t H e hx;rcases cg with⟨bd,aS⟩;dsimp only at hx U;obtain⟨rfl,⟨bf,aT,cm⟩⟩:=hx;obtain⟨cE,b5,U⟩:=ae U;obtain⟨cF,b6,U⟩:=ae U;obtain⟨cG,b7,U⟩:=ae U;cases U;try simp only[aY,seval,-Int.reduceToNat,ah,i14,Y,Z,X,aa,ad,i18,ag,ak,an,ao,ai,aq,cm,b5,b6,b7]
    ·clear U;have U:=bL;try simp only[aY,seval,-Int.reduceToNat,ah,a7,i14,Y,Z,X,aa,ad,i18,ag]
     apply sp aj U<;>intro _ U
     ·obtain⟨cH,b8,U⟩:=ae U;obtain⟨bA,br,bB,bD⟩:=ir (eI .i64) b8;simp only[bX]at br;cases U;try simp only[aY,seval,-Int.reduceToNat,ah,a7,i14,Y,Z,X,aa,ad,i18,ag,bA,br,bB,bD]
      rw[al];refine⟨_,rfl,?_⟩;refine⟨e+1+1,e,?_⟩;and_intros<;>first|rfl|(simp only[aY,seval,-Int.reduceToNat,ah,a7,i14,Y,Z,X,aa,ad,i18,ag,bA,br,bB,bD]<;>rfl)
     ·cases U;try simp only[aY,seval,-Int.reduceToNat,ah,a7,i14,Y,Z,X,aa,ad,i18,ag]
      rw[al];refine⟨_,rfl,?_⟩;refine⟨e,e,?_⟩;and_intros<;>first|rfl|(simp only[aY,seval,-Int.reduceToNat,ah,a7,i14,Y,Z,X,aa,ad,i18,ag]<;>rfl)
def lJ (l:Option (D×Row)) (d:List D):=dP (gX (bt dB) (dL (bt dB))) (fun x:az×az=>pk x.1 x.2) (fun r:az×Int =>.clean (.tup [.agg [.int .i64 r.1.ah,.sl false false r.1.aa.length (ab (eI .i64) r.1.aa)],.int .i64 r.2])) l d
theorem fl (X:Bool) (U:Int) (O:(List Int)):jX none [.bool X,.agg [.int .i64 U,.sl false false O.length (ab (eI .i64) O)]]=(ep X (az.mk U O)).map fun r:az×Int=>(.clean (.tup [.agg [.int .i64 r.1.ah,.sl false false r.1.aa.length (ab (eI .i64) r.1.aa)],.int .i64 r.2]),none):=cI _ _ _ (X,(az.mk U O))
def ym:Env:=(Am.keep 6 (Am.ext (Am.ext (Am.ext (Am.ext (Am.ext bk 79 false bn) 87 false b9) 88 false hZ) 89 false jX) 120 false lL))
theorem PR:bF prog ym:=(bF.keep (((((bF.none.add fN false).add iG false).add kj false).add oQ false).add DM false) 6)
theorem eu:type_of% (ai @w<|ai @qC<|ai @bn.eq_1<|ai @Bj<|ai @b9.eq_1<|ai @fw<|ai @fl<|ai @As<|ai @lL.eq_1<|@ym.eq_1):=⟨@w,@qC,@bn.eq_1,@Bj,@b9.eq_1,@fw,@fl,@As,@lL.eq_1,@ym.eq_1⟩
theorem DJ:bT prog 80 lJ:=bT.gJ (mode := .clean) tok PR mixed func80 (by kernel_rfl) (fun _ _=>rfl) (fun _=>by kernel_rfl) fun⟨p0,p1⟩ r O=>by
 replace O:pk p0 p1=some r:=O;apply aF rfl ntmps80 results80;simp only[gK];unfold pk at O;obtain⟨r1,U,O⟩:=ae O;try simp only[eu,seval,U]
 obtain⟨o2,az,O⟩:=ae O;refine bz 0 (fun s t H e=>match s with|Z=>∃ad:Nat,∃ag:Nat,∃Y:Nat,t 2=.ptr 2 ad 0∧t 3=.ptr 3 ag 0∧t 4=.ptr 4 Y 0∧t 17=.bool Z∧H 2=some ⟨ad,40,[.int .i64 p0.ah,.sl false false p0.aa.length (ab (eI .i64) p0.aa)],false,false,false⟩∧H 3=some ⟨ag,40,[.int .i64 p1.ah,.sl false false p1.aa.length (ab (eI .i64) p1.aa)],false,false,false⟩∧H 4=some ⟨Y,40,[.int .i64 0,.sl true true 0 []],false,false,false⟩) (fun s=>s=o2) ?_ ?_
 ·rintro Z t H e ⟨ad,ag,Y,ai⟩ rfl;try dsimp only at O
  try simp only[eu,seval,U,ai]
  apply sp aj O<;>intro _ O
  ·have i4:=fl false 0 ([]);simp only[bh,bX,List.length_cons,List.length_nil,agt,Nat.reduceAdd,ahI]at i4;obtain⟨r5,aA,O⟩:=ae O;cases O;try simp only[eu,seval,U,ai,i4,aA]
  ·obtain⟨r6,X,O⟩:=ae O;try simp only[eu,seval,U,ai,X]
   refine bH (by kernel_rfl) ?_;try simp only[eu,seval,U,ai,X]
   obtain⟨o9,aB,O⟩:=ae O;refine aC (fun s t H e=>match s with|(au,av)=>∃ak:Nat,t 4=.ptr 4 ak 0∧t 6=.sl false false au.length (ab (eI .i64) au)∧t 7=.sl false false av.length (ab (eI .i64) av)∧H 4=some ⟨ak,40,[.int .i64 0,.sl true true 0 []],false,false,false⟩) (fun o x t H e=>match o with|an=>x=.exit 0∧∃ao:Nat,t 4=.ptr 4 ao 0∧t 6=.sl false false an.length (ab (eI .i64) an)∧H 4=some ⟨ao,40,[.int .i64 0,.sl true true 0 []],false,false,false⟩) aB ?_ ?_ ?_
   ·refine⟨Y,?_⟩;and_intros<;>first|rfl|(simp only[eu,seval,U,ai,X]<;>rfl)
   ·rintro⟨au,av⟩ t H e ⟨ak,Zb⟩ c O;simp only[oh]at O;try simp only[eu,seval,U,X,Zb]
    apply sp aj O<;>intro _ O
    ·obtain⟨aE,aq,O⟩:=ae O;cases O;try simp only[eu,seval,U,X,Zb,aq]
     apply iP;refine⟨ak,?_⟩;and_intros<;>first|rfl|(simp only[eu,seval,U,X,Zb,aq]<;>rfl)
    ·cases O;try simp only[eu,seval,U,X,Zb]
     apply jW;refine⟨rfl,⟨ak,?_⟩⟩;and_intros<;>first|rfl|(simp only[eu,seval,U,X,Zb]<;>rfl)
   ·rintro x t H e hx;obtain⟨an,rfl⟩:∃z,z=o9:=⟨_,rfl⟩;dsimp only at hx O;obtain⟨rfl,⟨ao,aD⟩⟩:=hx;obtain⟨aG,aw,O⟩:=ae O;obtain⟨aH,ax,O⟩:=ae O;obtain⟨aI,ay,O⟩:=ae O;cases O;try simp only[eu,seval,U,X,aD,aw,ax,ay]
 ·clear O;have O:=az;try simp only[eu,seval,U]
  apply sp aO O<;>intro _ O
  ·cases O;try simp only[eu,seval,U]
   rw[al];refine⟨_,rfl,?_⟩;refine⟨0,0,0,?_⟩;and_intros<;>first|rfl|(simp only[eu,seval,U]<;>rfl)
  ·obtain⟨aJ,ar,O⟩:=ae O;cases O;try simp only[eu,seval,U,ar]
   rw[al];refine⟨_,rfl,?_⟩;refine⟨0,0,0,?_⟩;and_intros<;>first|rfl|(simp only[eu,seval,U,ar]<;>rfl)
def tK (l:Option (D×Row)) (d:List D):=dP (dL (bt dB)) (fun x:az=>tY x) (fun r:Int×Bool =>.clean (.tup [.int .i64 r.1,.bool r.2])) l d
def yn:Env:=(Am.ext bk 79 false bn)
theorem PS:bF prog yn:=(bF.none.add fN false)
theorem bl:type_of% (ai @w<|ai @qC<|ai @bn.eq_1<|@yn.eq_1):=⟨@w,@qC,@bn.eq_1,@yn.eq_1⟩
theorem Qp:bT prog 121 tK:=bT.gJ (mode := .clean) tok PS mixed func121 (by kernel_rfl) (fun _ _=>rfl) (fun _=>by kernel_rfl) fun Y r U=>by
 replace U:tY Y=some r:=U;apply aF rfl ntmps121 results121;simp only[gK];unfold tY at U;obtain⟨r1,O,U⟩:=ae U;try simp only[bl,seval,-Int.reduceToNat,O]
 obtain⟨o2,aI,U⟩:=ae U;refine bz 0 (fun s t H e=>match s with|aq=>∃ag:Nat,t 1=.ptr 1 ag 0∧t 15=.bool aq∧H 1=some ⟨ag,40,[.int .i64 Y.ah,.sl false false Y.aa.length (ab (eI .i64) Y.aa)],false,false,false⟩) (fun s=>s=o2) ?_ ?_
 ·rintro aq t H e ⟨ag,ay⟩ rfl;try dsimp only at U
  try simp only[bl,seval,-Int.reduceToNat,O,ay]
  apply sp aj U<;>intro _ U
  ·cases U;try simp only[bl,seval,-Int.reduceToNat,O,ay]
  ·try simp only[bl,seval,-Int.reduceToNat,O,ay]
   obtain⟨aJ,aA,U⟩:=ae U;refine aC (fun s t H e=>match s with|(az,ai)=>∃an:Nat,t 1=.ptr 1 an 0∧t 4=.int .u64 az∧t 17=.sl false false Y.aa.length (ab (eI .i64) Y.aa)∧t 18=.int .i64 (Y.aa.length:Int)∧t 19=.int .i64 ai∧H 1=some ⟨an,40,[.int .i64 Y.ah,.sl false false Y.aa.length (ab (eI .i64) Y.aa)],false,false,false⟩) (fun o x t H e=>match o with|(.inl ar)=>x=.exit 0∧∃Z:Nat,t 1=.ptr 1 Z 0∧t 4=.int .u64 ar∧H 1=some ⟨Z,40,[.int .i64 Y.ah,.sl false false Y.aa.length (ab (eI .i64) Y.aa)],false,false,false⟩|(.inr r)=>x=.ret∧fH .clean tab none [.tmp 2,.tmp 3] ⟨t,EH H,e⟩=some (.clean (.tup [.int .i64 r.1,.bool r.2]),none)) aA ?_ ?_ ?_
   ·refine⟨ag,?_⟩;and_intros<;>first|rfl|(simp only[bl,seval,-Int.reduceToNat,O,ay]<;>rfl)
   ·rintro⟨az,ai⟩ t H e ⟨an,Zb⟩ c U;simp only[qS]at U;try simp only[bl,seval,-Int.reduceToNat,O,Zb]
    apply sp aj U<;>intro _ U
    ·obtain⟨aK,aB,U⟩:=ae U;have X:=bC (eI .i64) aB;simp only[bX]at X;try simp only[bl,seval,-Int.reduceToNat,O,Zb,X]
     obtain⟨aL,aD,U⟩:=ae U;refine bz 0 (fun s t H e=>match s with|au=>∃ak:Nat,t 1=.ptr 1 ak 0∧t 4=.int .u64 az∧t 5=.int .i64 ai∧t 6=.int .i64 aK∧t 17=.sl false false Y.aa.length (ab (eI .i64) Y.aa)∧t 18=.int .i64 (Y.aa.length:Int)∧t 19=.int .i64 ai∧t 29=.bool au∧H 1=some ⟨ak,40,[.int .i64 Y.ah,.sl false false Y.aa.length (ab (eI .i64) Y.aa)],false,false,false⟩) (fun s=>s=aL) ?_ ?_
     ·rintro au t H e ⟨ak,av⟩ rfl;try dsimp only at U
      try simp only[bl,seval,-Int.reduceToNat,O,X,av]
      apply sp aj U<;>intro _ U
      ·cases U;try simp only[bl,seval,-Int.reduceToNat,O,X,av]
       refine rv ⟨rfl,?_⟩;try simp only[bl,seval,-Int.reduceToNat,O,X,av]
      ·obtain⟨aN,aE,U⟩:=ae U;have aG:=Bl aE;cases U;try simp only[bl,seval,-Int.reduceToNat,O,X,av,aG]
       apply iP;refine⟨ak,?_⟩;and_intros<;>first|rfl|(simp only[bl,seval,-Int.reduceToNat,O,X,av,aG]<;>rfl)
     ·clear U;have U:=aD;try simp only[bl,seval,-Int.reduceToNat,O,Zb,X]
      apply sp eW U<;>intro _ U
      ·cases U;try simp only[bl,seval,-Int.reduceToNat,O,Zb,X]
       rw[al];refine⟨_,rfl,?_⟩;refine⟨an,?_⟩;and_intros<;>first|rfl|(simp only[bl,seval,-Int.reduceToNat,O,Zb,X]<;>rfl)
      ·cases U;try simp only[bl,seval,-Int.reduceToNat,O,Zb,X]
       rw[al];refine⟨_,rfl,?_⟩;refine⟨an,?_⟩;and_intros<;>first|rfl|(simp only[bl,seval,-Int.reduceToNat,O,Zb,X]<;>rfl)
    ·cases U;try simp only[bl,seval,-Int.reduceToNat,O,Zb]
     apply jW;refine⟨rfl,⟨an,?_⟩⟩;and_intros<;>first|rfl|(simp only[bl,seval,-Int.reduceToNat,O,Zb]<;>rfl)
   ·rintro x t H e hx;rcases aJ with ar|rb
    ·dsimp only at hx U;obtain⟨rfl,⟨Z,ao⟩⟩:=hx;try simp only[bl,seval,-Int.reduceToNat,O,ao]
     obtain⟨aM,aH,U⟩:=ae U;refine bz 0 (fun s t H e=>match s with|aw=>∃ax:Nat,t 1=.ptr 1 ax 0∧t 4=.int .u64 ar∧t 38=.bool aw∧H 1=some ⟨ax,40,[.int .i64 Y.ah,.sl false false Y.aa.length (ab (eI .i64) Y.aa)],false,false,false⟩) (fun s=>s=aM) ?_ ?_
     ·rintro aw t H e ⟨ax,ad⟩ rfl;try dsimp only at U
      try simp only[bl,seval,-Int.reduceToNat,O,ad]
      apply sp aj U<;>intro _ U
      ·cases U;try simp only[bl,seval,-Int.reduceToNat,O,ad]
      ·try simp only[bl,seval,-Int.reduceToNat,O,ad]
       apply sp eW U<;>intro _ U
       ·try simp only[bl,seval,-Int.reduceToNat,O,ad]
        apply sp aj U<;>intro _ U
        ·cases U;try simp only[bl,seval,-Int.reduceToNat,O,ad]
        ·cases U;try simp only[bl,seval,-Int.reduceToNat,O,ad]
       ·cases U;try simp only[bl,seval,-Int.reduceToNat,O,ad]
     ·clear U;have U:=aH;try simp only[bl,seval,-Int.reduceToNat,O,ao]
      apply sp eW U<;>intro _ U
      ·cases U;try simp only[bl,seval,-Int.reduceToNat,O,ao]
       rw[al];refine⟨_,rfl,?_⟩;refine⟨Z,?_⟩;and_intros<;>first|rfl|(simp only[bl,seval,-Int.reduceToNat,O,ao]<;>rfl)
      ·cases U;try simp only[bl,seval,-Int.reduceToNat,O,ao]
       rw[al];refine⟨_,rfl,?_⟩;refine⟨Z,?_⟩;and_intros<;>first|rfl|(simp only[bl,seval,-Int.reduceToNat,O,ao]<;>rfl)
    ·dsimp only at hx U;obtain⟨rfl,hE⟩:=hx;cases U;try simp only[bc,aX,bj,cJ,cG,cc,cd]
     exact hE
 ·clear U;have U:=aI;try simp only[bl,seval,-Int.reduceToNat,O]
  apply sp aO U<;>intro _ U
  ·cases U;try simp only[bl,seval,-Int.reduceToNat,O]
   rw[al];refine⟨_,rfl,?_⟩;refine⟨0,?_⟩;and_intros<;>first|rfl|(simp only[bl,seval,-Int.reduceToNat,O]<;>rfl)
  ·cases U;try simp only[bl,seval,-Int.reduceToNat,O]
   rw[al];refine⟨_,rfl,?_⟩;refine⟨0,?_⟩;and_intros<;>first|rfl|(simp only[bl,seval,-Int.reduceToNat,O]<;>rfl)
def qG (l:Option (D×Row)) (d:List D):=dP (dL (bt dB)) (fun x:az=>qn x) (fun r:Bool =>.clean (.bool r)) l d
def vL:Env:=(Am.ext bk 121 false tK)
theorem L5:bF prog vL:=(bF.none.add Qp false)
theorem wx:type_of% (ai @w<|ai @qC<|ai @tK.eq_1<|@vL.eq_1):=⟨@w,@qC,@tK.eq_1,@vL.eq_1⟩
theorem NQ:bT prog 81 qG:=bT.gJ (mode := .clean) tok L5 mixed func81 (by kernel_rfl) (fun _ _=>rfl) (fun _=>by kernel_rfl) fun X r O=>by
 replace O:qn X=some r:=O;apply aF rfl ntmps81 results81;simp only[gK];unfold qn at O;obtain⟨Y,U,O⟩:=ae O;try simp only[wx,seval,U]
 apply sp eW O<;>intro _ O
 ·cases O;try simp only[wx,seval,U]
 ·cases O;try simp only[wx,seval,U]
def bJ (l:Option (D×Row)) (d:List D):=dP (dL (bt aD)) (fun x:aw=>dp x) (fun r:Bool =>.clean (.bool r)) l d
def rl:Env:=(Am.ext (Am.ext (Am.ext bk 79 false bn) 80 false lJ) 81 false qG)
theorem E8:bF prog rl:=(((bF.none.add fN false).add DJ false).add NQ false)
theorem dt:type_of% (ai @w<|ai @qC<|ai @bn.eq_1<|ai @xX<|ai @lJ.eq_1<|ai @qG.eq_1<|@rl.eq_1):=⟨@w,@qC,@bn.eq_1,@xX,@lJ.eq_1,@qG.eq_1,@rl.eq_1⟩
theorem gS:bT prog 47 bJ:=bT.gJ (mode := .clean) tok E8 mixed func47 (by kernel_rfl) (fun _ _=>rfl) (fun _=>by kernel_rfl) fun p0 r O=>by
 replace O:dp p0=some r:=O;apply aF rfl ntmps47 results47;simp only[gK];unfold dp at O;obtain⟨r1,U,O⟩:=ae O;try simp only[dt,seval,U]
 obtain⟨o2,ai,O⟩:=ae O;refine bz 0 (fun s t H e=>match s with|X=>∃Y:Nat,t 1=.ptr 1 Y 0∧t 20=.bool X∧H 1=some ⟨Y,42,[.int .i64 p0.cD.ah,.sl false false p0.cD.aa.length (ab (eI .i64) p0.cD.aa),.int .i64 p0.cw.ah,.sl false false p0.cw.aa.length (ab (eI .i64) p0.cw.aa)],false,false,false⟩) (fun s=>s=o2) ?_ ?_
 ·rintro X t H e ⟨Y,Z⟩ rfl;try dsimp only at O
  try simp only[dt,seval,U,Z]
  apply sp aj O<;>intro _ O
  ·cases O;try simp only[dt,seval,U,Z]
  ·obtain⟨r4,ag,O⟩:=ae O;try simp only[dt,seval,U,Z,ag]
   apply sp eW O<;>intro _ O
   ·obtain⟨r6,ak,O⟩:=ae O;cases O;try simp only[dt,seval,U,Z,ag,ak]
   ·cases O;try simp only[dt,seval,U,Z,ag]
 ·clear O;have O:=ai;try simp only[dt,seval,U]
  apply sp aO O<;>intro _ O
  ·cases O;try simp only[dt,seval,U]
   rw[al];refine⟨_,rfl,?_⟩;refine⟨0,?_⟩;and_intros<;>first|rfl|(simp only[dt,seval,U]<;>rfl)
  ·obtain⟨r8,ad,O⟩:=ae O;try simp only[dt,seval,U,ad]
   apply sp aO O<;>intro _ O
   ·cases O;try simp only[dt,seval,U,ad]
    rw[al];refine⟨_,rfl,?_⟩;refine⟨0,?_⟩;and_intros<;>first|rfl|(simp only[dt,seval,U,ad]<;>rfl)
   ·cases O;try simp only[dt,seval,U,ad]
    rw[al];refine⟨_,rfl,?_⟩;refine⟨0,?_⟩;and_intros<;>first|rfl|(simp only[dt,seval,U,ad]<;>rfl)
def dh (l:Option (D×Row)) (d:List D):=dP (dL (bt aD)) (fun x:aw=>ib x) (fun r:Int =>.clean (.int .i64 r)) l d
def s4:Env:=(Am.ext bk 47 false bJ)
theorem Jh:bF prog s4:=(bF.none.add gS false)
theorem tF:type_of% (ai @w<|ai @Bk<|ai @bJ.eq_1<|@s4.eq_1):=⟨@w,@Bk,@bJ.eq_1,@s4.eq_1⟩
theorem lq:bT prog 48 dh:=bT.gJ (mode := .clean) tok Jh mixed func48 (by kernel_rfl) (fun _ _=>rfl) (fun _=>by kernel_rfl) fun X r O=>by
 replace O:ib X=some r:=O;apply aF rfl ntmps48 results48;simp only[gK];unfold ib at O;obtain⟨Y,U,O⟩:=ae O;try simp only[tF,seval,U]
 apply sp aj O<;>intro _ O
 ·cases O;try simp only[tF,seval,U]
 ·cases O;try simp only[tF,seval,U]
def tL (l:Option (D×Row)) (d:List D):=dP (gX (bt dB) (dL (bt dB))) (fun x:az×az=>tZ x.1 x.2) (fun r:az×Int =>.clean (.tup [.agg [.int .i64 r.1.ah,.sl false false r.1.aa.length (ab (eI .i64) r.1.aa)],.int .i64 r.2])) l d
def yo:Env:=(Am.ext (Am.ext (Am.ext (Am.ext bk 79 false bn) 87 false b9) 89 false jX) 126 false nS)
theorem PT:bF prog yo:=((((bF.none.add fN false).add iG false).add oQ false).add DN false)
theorem iJ:type_of% (ai @w<|ai @qC<|ai @bn.eq_1<|ai @Bj<|ai @b9.eq_1<|ai @fl<|ai @As<|ai @nS.eq_1<|@yo.eq_1):=⟨@w,@qC,@bn.eq_1,@Bj,@b9.eq_1,@fl,@As,@nS.eq_1,@yo.eq_1⟩
theorem Qq:bT prog 93 tL:=bT.gJ (mode := .clean) tok PT mixed func93 (by kernel_rfl) (fun _ _=>rfl) (fun _=>by kernel_rfl) fun⟨p0,p1⟩ r O=>by
 replace O:tZ p0 p1=some r:=O;apply aF rfl ntmps93 results93;simp only[gK];unfold tZ at O;obtain⟨r1,U,O⟩:=ae O;try simp only[iJ,seval,U]
 obtain⟨o2,aq,O⟩:=ae O;refine bz 0 (fun s t H e=>match s with|X=>∃Y:Nat,∃Z:Nat,∃ad:Nat,t 2=.ptr 2 Y 0∧t 3=.ptr 3 Z 0∧t 4=.ptr 4 ad 0∧t 13=.bool X∧H 2=some ⟨Y,40,[.int .i64 p0.ah,.sl false false p0.aa.length (ab (eI .i64) p0.aa)],false,false,false⟩∧H 3=some ⟨Z,40,[.int .i64 p1.ah,.sl false false p1.aa.length (ab (eI .i64) p1.aa)],false,false,false⟩∧H 4=some ⟨ad,40,[.int .i64 0,.sl true true 0 []],false,false,false⟩) (fun s=>s=o2) ?_ ?_
 ·rintro X t H e ⟨Y,Z,ad,ag⟩ rfl;try dsimp only at O
  try simp only[iJ,seval,U,ag]
  apply sp aj O<;>intro _ O
  ·have i4:=fl false 0 ([]);simp only[bh,bX,List.length_cons,List.length_nil,agt,Nat.reduceAdd,ahI]at i4;obtain⟨r5,ar,O⟩:=ae O;cases O;try simp only[iJ,seval,U,ag,i4,ar]
  ·obtain⟨r6,ak,O⟩:=ae O;obtain⟨r7,an,O⟩:=ae O;obtain⟨r8,ao,O⟩:=ae O;try simp only[iJ,seval,U,ag,ak,an,ao]
   refine bH (by kernel_rfl) ?_;cases O;try simp only[iJ,seval,U,ag,ak,an,ao]
 ·clear O;have O:=aq;try simp only[iJ,seval,U]
  apply sp aO O<;>intro _ O
  ·cases O;try simp only[iJ,seval,U]
   rw[al];refine⟨_,rfl,?_⟩;refine⟨0,0,0,?_⟩;and_intros<;>first|rfl|(simp only[iJ,seval,U]<;>rfl)
  ·obtain⟨au,ai,O⟩:=ae O;cases O;try simp only[iJ,seval,U,ai]
   rw[al];refine⟨_,rfl,?_⟩;refine⟨0,0,0,?_⟩;and_intros<;>first|rfl|(simp only[iJ,seval,U,ai]<;>rfl)
def fi (l:Option (D×Row)) (d:List D):=dP (gX (bt dB) (dL (bt dB))) (fun x:az×az=>cQ x.1 x.2) (fun r:az =>.clean (.agg [.int .i64 r.ah,.sl false false r.aa.length (ab (eI .i64) r.aa)])) l d
def rm:Env:=(Am.ext bk 93 false tL)
theorem E9:bF prog rm:=(bF.none.add Qq false)
theorem Ka:type_of% (ai @w<|ai @xX<|ai @tL.eq_1<|@rm.eq_1):=⟨@w,@xX,@tL.eq_1,@rm.eq_1⟩
theorem pY:bT prog 57 fi:=bT.gJ (mode := .clean) tok E9 mixed func57 (by kernel_rfl) (fun _ _=>rfl) (fun _=>by kernel_rfl) fun⟨X,Y⟩ r O=>by
 replace O:cQ X Y=some r:=O;apply aF rfl ntmps57 results57;simp only[gK];unfold cQ at O;obtain⟨Z,U,O⟩:=ae O;cases O;try simp only[Ka,seval,U]
def wC (l:Option (D×Row)) (d:List D):=dP (dL (mG (eI .i64))) (fun x:(List Int)=>sI x) (fun r:Int =>.clean (.int .i64 r)) l d
theorem HD:bT prog 75 wC:=bT.gJ (mode := .clean) tok bF.none mixed func75 (by kernel_rfl) (fun _ _=>rfl) (fun _=>by kernel_rfl) fun Z r O=>by
 replace O:sI Z=some r:=O;apply aF rfl ntmps75 results75;simp only[gK];unfold sI at O;try simp only[w,seval]
 obtain⟨o4,aa,O⟩:=ae O;refine aC (fun s t H e=>match s with|Y=>t 3=.int .i64 0∧t 6=.sl false false Z.length (ab (eI .i64) Z)∧t 7=.int .i64 (Z.length:Int)∧t 8=.int .i64 Y) (fun o x t H e=>match o with|(.inl _)=>x=.exit 0∧t 3=.int .i64 0|(.inr r)=>x=.ret∧fH .clean tab none [.tmp 2] ⟨t,EH H,e⟩=some (.clean (.int .i64 r),none)) aa ?_ ?_ ?_
 ·and_intros<;>first|rfl|(simp only[w,seval]<;>rfl)
 ·rintro Y t H e X c O;simp only[ud]at O;try simp only[w,seval,X]
  apply sp aj O<;>intro _ O
  ·obtain⟨x6,ad,O⟩:=ae O;have U:=bC (eI .i64) ad;simp only[bX]at U;try simp only[w,seval,X,U]
   apply sp aj O<;>intro _ O
   ·cases O;try simp only[w,seval,X,U]
    refine rv ⟨rfl,?_⟩;try simp only[w,seval,X,U]
   ·cases O;try simp only[w,seval,X,U]
    apply iP;and_intros<;>first|rfl|(simp only[w,seval,X,U]<;>rfl)
  ·cases O;try simp only[w,seval,X]
   apply jW;refine⟨rfl,?_⟩;and_intros<;>first|rfl|(simp only[w,seval,X]<;>rfl)
 ·rintro x t H e hx;rcases o4 with _|ra
  ·dsimp only at hx O;obtain⟨rfl,ag⟩:=hx;cases O;try simp only[w,seval,ag]
  ·dsimp only at hx O;obtain⟨rfl,hE⟩:=hx;cases O;try simp only[bc,aX,bj,cJ,cG,cc,cd]
   exact hE
def nR (l:Option (D×Row)) (d:List D):=dP (gX (mG (eI .i64)) (dL (mG (eI .i64)))) (fun x:(List Int)×(List Int)=>pn x.1 x.2) (fun r:(List Int) =>.clean (.sl false false r.length (ab (eI .i64) r))) l d
def yr:Env:=(Am.ext bk 125 false e8)
theorem PV:bF prog yr:=(bF.none.add mT false)
theorem dy:type_of% (ai @w<|ai @mh<|@yr.eq_1):=⟨@w,@mh,@yr.eq_1⟩
theorem DL:bT prog 90 nR:=bT.gJ (mode := .clean) tok PV mixed func90 (by kernel_rfl) (fun _ _=>rfl) (fun _=>by kernel_rfl) fun⟨p0,p1⟩ r U=>by
 replace U:pn p0 p1=some r:=U;apply aF rfl ntmps90 results90;simp only[gK];unfold pn at U;try simp only[dy,seval,-Int.reduceToNat]
 obtain⟨o1,aR,U⟩:=ae U;refine j9 0 (fun s t H e=>match s with|(O,ah)=>t 0=.sl false false O.length (ab (eI .i64) O)∧t 1=.sl false false ah.length (ab (eI .i64) ah)) (fun s=>s=o1) ?_ ?_
 ·rintro⟨O,ah⟩ t H e aH rfl;try dsimp only at U
  obtain⟨x2,aS,U⟩:=ae U;obtain⟨Y,Z,aa,X,ad⟩:=mk_one (eI .i64) aS;simp only[bX]at X;try simp only[dy,seval,-Int.reduceToNat,aH,Y,Z,aa,X,ad]
  obtain⟨aT,aI,U⟩:=ae U;refine aC (fun s t H e=>match s with|(aJ,ak,au)=>∃ar:Nat,t 0=.sl false false O.length (ab (eI .i64) O)∧t 1=.sl false false ah.length (ab (eI .i64) ah)∧t 5=.buf 5 ar 1 0 (au).length∧t 6=.int .i64 aJ∧t 20=.sl false false O.length (ab (eI .i64) O)∧t 21=.int .i64 (O.length:Int)∧t 22=.int .i64 ak∧H 5=some ⟨ar,3,ab (eI .i64) au,false,true,false⟩) (fun o x t H e=>match o with|(ai,an)=>x=.exit 0∧∃av:Nat,t 0=.sl false false O.length (ab (eI .i64) O)∧t 5=.buf 5 av 1 0 (an).length∧t 6=.int .i64 ai∧H 5=some ⟨av,3,ab (eI .i64) an,false,true,false⟩) aI ?_ ?_ ?_
  ·refine⟨e,?_⟩;and_intros<;>first|rfl|(simp only[dy,seval,-Int.reduceToNat,aH,Y,Z,aa,X,ad]<;>rfl)
  ·rintro⟨aJ,ak,au⟩ t H e ⟨ar,Zb⟩ c U;simp only[oo]at U;try simp only[dy,seval,-Int.reduceToNat,Y,Z,aa,X,ad,Zb]
   apply sp aj U<;>intro _ U
   ·obtain⟨aW,aK,U⟩:=ae U;have ag:=bC (eI .i64) aK;simp only[bX]at ag;try simp only[dy,seval,-Int.reduceToNat,Y,Z,aa,X,ad,Zb,ag]
    obtain⟨aU,aL,U⟩:=ae U;refine j9 0 (fun s t H e=>match s with|ao=>∃aq:Nat,t 0=.sl false false O.length (ab (eI .i64) O)∧t 1=.sl false false ah.length (ab (eI .i64) ah)∧t 5=.buf 5 aq 1 0 (au).length∧t 6=.int .i64 ao∧t 7=.int .i64 ak∧t 20=.sl false false O.length (ab (eI .i64) O)∧t 21=.int .i64 (O.length:Int)∧t 22=.int .i64 ak∧H 5=some ⟨aq,3,ab (eI .i64) au,false,true,false⟩) (fun s=>s=aU) ?_ ?_
    ·rintro ao t H e ⟨aq,aM⟩ rfl;try dsimp only at U
     obtain⟨aX,aA,U⟩:=ae U;have aw:=bC (eI .i64) aA;simp only[bX]at aw;have az:=fP (eI .i64) (x':=jQ .and .i64 ao 1048575) (fo:=0) (cs:=[.int .i64 (jQ .and .i64 ao 1048575)]) aA rfl (ahr rfl);simp only[bX,Nat.add_zero]at az;have ax:=az;simp only[putCells,List.length_cons,List.length_nil,agt,Nat.reduceAdd]at ax;obtain⟨aY,aN,U⟩:=ae U;have aO:=uH aN;cases U;try simp only[dy,seval,-Int.reduceToNat,Y,Z,aa,X,ad,ag,aM,aw,az,ax,aO]
     apply iP;refine⟨aq,?_⟩;and_intros<;>first|rfl|(simp only[dy,seval,-Int.reduceToNat,Y,Z,aa,X,ad,ag,aM,aw,az,ax,aO]<;>rfl)
    ·clear U;have U:=aL;try simp only[dy,seval,-Int.reduceToNat,Y,Z,aa,X,ad,Zb,ag]
     apply sp aj U<;>intro _ U
     ·obtain⟨aZ,aP,U⟩:=ae U;have ay:=bC (eI .i64) aP;simp only[bX]at ay;cases U;try simp only[dy,seval,-Int.reduceToNat,Y,Z,aa,X,ad,Zb,ag,ay]
      rw[al];refine⟨_,rfl,?_⟩;refine⟨ar,?_⟩;and_intros<;>first|rfl|(simp only[dy,seval,-Int.reduceToNat,Y,Z,aa,X,ad,Zb,ag,ay]<;>rfl)
     ·cases U;try simp only[dy,seval,-Int.reduceToNat,Y,Z,aa,X,ad,Zb,ag]
      rw[al];refine⟨_,rfl,?_⟩;refine⟨ar,?_⟩;and_intros<;>first|rfl|(simp only[dy,seval,-Int.reduceToNat,Y,Z,aa,X,ad,Zb,ag]<;>rfl)
   ·cases U;try simp only[dy,seval,-Int.reduceToNat,Y,Z,aa,X,ad,Zb]
    apply jW;refine⟨rfl,⟨ar,?_⟩⟩;and_intros<;>first|rfl|(simp only[dy,seval,-Int.reduceToNat,Y,Z,aa,X,ad,Zb]<;>rfl)
  ·rintro x t H e hx;rcases aT with⟨ai,an⟩;dsimp only at hx U;obtain⟨rfl,⟨av,aV⟩⟩:=hx;obtain⟨a1,aB,U⟩:=ae U;have aD:=bC (eI .i64) aB;simp only[bX]at aD;have aG:=fP (eI .i64) (x':=ai) (fo:=0) (cs:=[.int .i64 ai]) aB rfl (ahr rfl);simp only[bX,Nat.add_zero]at aG;have aE:=aG;simp only[putCells,List.length_cons,List.length_nil,agt,Nat.reduceAdd]at aE;have i25:=mh (an.set ((O.length:Int)).toNat ai);simp only[bh,bX,List.length_cons,List.length_nil,agt,Nat.reduceAdd,ahI]at i25;obtain⟨a6,aQ,U⟩:=ae U;cases U;try simp only[dy,seval,-Int.reduceToNat,Y,Z,aa,X,ad,aV,aD,aG,aE,i25,aQ]
 ·clear U;have U:=aR;try simp only[dy,seval,-Int.reduceToNat]
  apply sp aj U<;>intro _ U
  ·cases U;try simp only[dy,seval,-Int.reduceToNat]
   rw[al];refine⟨_,rfl,?_⟩;and_intros<;>first|rfl|(simp only[dy,seval,-Int.reduceToNat]<;>rfl)
  ·cases U;try simp only[dy,seval,-Int.reduceToNat]
   rw[al];refine⟨_,rfl,?_⟩;and_intros<;>first|rfl|(simp only[dy,seval,-Int.reduceToNat]<;>rfl)
def lM (l:Option (D×Row)) (d:List D):=dP (gX (mG (eI .i64)) (dL (mG (eI .i64)))) (fun x:(List Int)×(List Int)=>po x.1 x.2) (fun r:(List Int) =>.clean (.sl false false r.length (ab (eI .i64) r))) l d
def yv:Env:=(Am.ext (Am.ext bk 88 false hZ) 125 false e8)
theorem PY:bF prog yv:=((bF.none.add kj false).add mT false)
theorem fE:type_of% (ai @w<|ai @fw<|ai @Tr<|ai @e8.eq_1<|@yv.eq_1):=⟨@w,@fw,@Tr,@e8.eq_1,@yv.eq_1⟩
theorem DO:bT prog 92 lM:=bT.gJ (mode := .clean) tok PY mixed func92 (by kernel_rfl) (fun _ _=>rfl) (fun _=>by kernel_rfl) fun⟨p0,p1⟩ r U=>by
 replace U:po p0 p1=some r:=U;apply aF rfl ntmps92 results92;simp only[gK];unfold po at U;obtain⟨r1,X,U⟩:=ae U;try simp only[fE,seval,-Int.reduceToNat,X]
 obtain⟨aB,ar,U⟩:=ae U;refine aC (fun s t H e=>match s with|(au,Y,ag)=>∃ad:Nat,t 1=.sl false false p1.length (ab (eI .i64) p1)∧t 5=.buf 5 ad 1 0 (ag).length∧t 6=.int .i64 au∧t 12=.int .i64 ((r1).length:Int)∧t 13=.int .i64 Y∧H 5=some ⟨ad,3,ab (eI .i64) ag,false,true,false⟩) (fun o x t H e=>match o with|ah=>x=.exit 0∧∃ai:Nat,t 5=.buf 5 ai 1 0 (ah).length∧H 5=some ⟨ai,3,ab (eI .i64) ah,false,true,false⟩) ar ?_ ?_ ?_
 ·refine⟨1,?_⟩;and_intros<;>first|rfl|(simp only[fE,seval,-Int.reduceToNat,X]<;>rfl)
 ·rintro⟨au,Y,ag⟩ t H e ⟨ad,Za⟩ c U;simp only[q8]at U;try simp only[fE,seval,-Int.reduceToNat,X,Za]
  apply sp aj U<;>intro _ U
  ·obtain⟨aG,ak,U⟩:=ae U;have O:=bC (eI .i64) ak;simp only[bX]at O;try simp only[fE,seval,-Int.reduceToNat,X,Za,O]
   obtain⟨aD,av,U⟩:=ae U;refine j9 0 (fun s t H e=>match s with|Z=>∃aa:Nat,t 1=.sl false false p1.length (ab (eI .i64) p1)∧t 5=.buf 5 aa 1 0 (ag).length∧t 7=.int .i64 Y∧t 8=.int .i64 Z∧t 12=.int .i64 ((r1).length:Int)∧t 13=.int .i64 Y∧H 5=some ⟨aa,3,ab (eI .i64) ag,false,true,false⟩) (fun s=>s=aD) ?_ ?_
   ·rintro Z t H e ⟨aa,aw⟩ rfl;try dsimp only at U
    obtain⟨aH,ax,U⟩:=ae U;have ay:=uH ax;have O:=bC (eI .i64) ak;simp only[bX]at O;have aq:=fP (eI .i64) (x':=jQ .and .i64 Z 1048575) (fo:=0) (cs:=[.int .i64 (jQ .and .i64 Z 1048575)]) ak rfl (ahr rfl);simp only[bX,Nat.add_zero]at aq;have an:=aq;simp only[putCells,List.length_cons,List.length_nil,agt,Nat.reduceAdd]at an;cases U;try simp only[fE,seval,-Int.reduceToNat,X,O,aw,ay,O,aq,an]
    apply iP;refine⟨aa,?_⟩;and_intros<;>first|rfl|(simp only[fE,seval,-Int.reduceToNat,X,O,aw,ay,O,aq,an]<;>rfl)
   ·clear U;have U:=av;try simp only[fE,seval,-Int.reduceToNat,X,Za,O]
    apply sp aj U<;>intro _ U
    ·obtain⟨aI,az,U⟩:=ae U;have ao:=bC (eI .i64) az;simp only[bX]at ao;cases U;try simp only[fE,seval,-Int.reduceToNat,X,Za,O,ao]
     rw[al];refine⟨_,rfl,?_⟩;refine⟨ad,?_⟩;and_intros<;>first|rfl|(simp only[fE,seval,-Int.reduceToNat,X,Za,O,ao]<;>rfl)
    ·cases U;try simp only[fE,seval,-Int.reduceToNat,X,Za,O]
     rw[al];refine⟨_,rfl,?_⟩;refine⟨ad,?_⟩;and_intros<;>first|rfl|(simp only[fE,seval,-Int.reduceToNat,X,Za,O]<;>rfl)
  ·cases U;try simp only[fE,seval,-Int.reduceToNat,X,Za]
   apply jW;refine⟨rfl,⟨ad,?_⟩⟩;and_intros<;>first|rfl|(simp only[fE,seval,-Int.reduceToNat,X,Za]<;>rfl)
 ·rintro x t H e hx;obtain⟨ah,rfl⟩:∃z,z=aB:=⟨_,rfl⟩;dsimp only at hx U;obtain⟨rfl,⟨ai,aE⟩⟩:=hx;obtain⟨aJ,aA,U⟩:=ae U;cases U;try simp only[fE,seval,-Int.reduceToNat,X,aE,aA]
def tI (l:Option (D×Row)) (d:List D):=dP (gX (bt dB) (dL (bt dB))) (fun x:az×az=>tX x.1 x.2) (fun r:az×Int =>.clean (.tup [.agg [.int .i64 r.1.ah,.sl false false r.1.aa.length (ab (eI .i64) r.1.aa)],.int .i64 r.2])) l d
theorem qu (O:(List Int)):wC none [.sl false false O.length (ab (eI .i64) O)]=(sI O).map fun r:Int=>(.clean (.int .i64 r),none):=cI _ _ _ (O)
def yk:Env:=(Am.ext (Am.ext (Am.ext (Am.ext (Am.ext (Am.ext (Am.ext bk 75 false wC) 79 false bn) 87 false b9) 89 false jX) 90 false nR) 91 false eJ) 92 false lM)
theorem PO:bF prog yk:=(((((((bF.none.add HD false).add fN false).add iG false).add oQ false).add DL false).add oR false).add DO false)
theorem eT:type_of% (ai @w<|ai @qu<|ai @qC<|ai @bn.eq_1<|ai @Bj<|ai @b9.eq_1<|ai @fl<|ai @As<|ai @nR.eq_1<|ai @eJ.eq_1<|ai @lM.eq_1<|@yk.eq_1):=⟨@w,@qu,@qC,@bn.eq_1,@Bj,@b9.eq_1,@fl,@As,@nR.eq_1,@eJ.eq_1,@lM.eq_1,@yk.eq_1⟩
theorem Qn:bT prog 56 tI:=bT.gJ (mode := .clean) tok PO mixed func56 (by kernel_rfl) (fun _ _=>rfl) (fun _=>by kernel_rfl) fun⟨p0,p1⟩ r O=>by
 replace O:tX p0 p1=some r:=O;apply aF rfl ntmps56 results56;simp only[gK];unfold tX at O;obtain⟨r1,U,O⟩:=ae O;try simp only[eT,seval,U]
 obtain⟨o2,aA,O⟩:=ae O;refine bz 0 (fun s t H e=>match s with|Z=>∃ad:Nat,∃ag:Nat,∃ai:Nat,t 2=.ptr 2 ad 0∧t 3=.ptr 3 ag 0∧t 4=.ptr 4 ai 0∧t 13=.bool Z∧H 2=some ⟨ad,40,[.int .i64 p0.ah,.sl false false p0.aa.length (ab (eI .i64) p0.aa)],false,false,false⟩∧H 3=some ⟨ag,40,[.int .i64 p1.ah,.sl false false p1.aa.length (ab (eI .i64) p1.aa)],false,false,false⟩∧H 4=some ⟨ai,40,[.int .i64 0,.sl true true 0 []],false,false,false⟩) (fun s=>s=o2) ?_ ?_
 ·rintro Z t H e ⟨ad,ag,ai,X⟩ rfl;try dsimp only at O
  try simp only[eT,seval,U,X]
  apply sp aj O<;>intro _ O
  ·have i4:=fl false 0 ([]);simp only[bh,bX,List.length_cons,List.length_nil,agt,Nat.reduceAdd,ahI]at i4;obtain⟨r5,aB,O⟩:=ae O;cases O;try simp only[eT,seval,U,X,i4,aB]
  ·try simp only[eT,seval,U,X]
   apply sp aj O<;>intro _ O
   ·have i7:=qu ([p0.ah,p1.ah]);simp only[bh,bX,List.length_cons,List.length_nil,agt,Nat.reduceAdd,ahI]at i7;obtain⟨r8,ay,O⟩:=ae O;obtain⟨r9,az,O⟩:=ae O;obtain⟨aC,ak,O⟩:=ae O;obtain⟨aD,an,O⟩:=ae O;try simp only[eT,seval,U,X,i7,ay,az,ak,an]
    refine bH (by kernel_rfl) ?_;cases O;try simp only[eT,seval,U,X,i7,ay,az,ak,an]
   ·obtain⟨aE,Y,O⟩:=ae O;try simp only[eT,seval,U,X,Y]
    apply sp aj O<;>intro _ O
    ·obtain⟨aG,ao,O⟩:=ae O;obtain⟨aH,aq,O⟩:=ae O;obtain⟨aI,ar,O⟩:=ae O;try simp only[eT,seval,U,X,Y,ao,aq,ar]
     refine bH (by kernel_rfl) ?_;cases O;try simp only[eT,seval,U,X,Y,ao,aq,ar]
    ·obtain⟨aJ,au,O⟩:=ae O;obtain⟨aK,av,O⟩:=ae O;obtain⟨aL,aw,O⟩:=ae O;try simp only[eT,seval,U,X,Y,au,av,aw]
     refine bH (by kernel_rfl) ?_;cases O;try simp only[eT,seval,U,X,Y,au,av,aw]
 ·clear O;have O:=aA;try simp only[eT,seval,U]
  apply sp aO O<;>intro _ O
  ·cases O;try simp only[eT,seval,U]
   rw[al];refine⟨_,rfl,?_⟩;refine⟨0,0,0,?_⟩;and_intros<;>first|rfl|(simp only[eT,seval,U]<;>rfl)
  ·obtain⟨aM,ax,O⟩:=ae O;cases O;try simp only[eT,seval,U,ax]
   rw[al];refine⟨_,rfl,?_⟩;refine⟨0,0,0,?_⟩;and_intros<;>first|rfl|(simp only[eT,seval,U,ax]<;>rfl)
def lK (l:Option (D×Row)) (d:List D):=dP (dL (bt dB)) (fun x:az=>nE x) (fun r:az =>.clean (.agg [.int .i64 r.ah,.sl false false r.aa.length (ab (eI .i64) r.aa)])) l d
def yp:Env:=(Am.ext (Am.ext (Am.ext bk 79 false bn) 87 false b9) 88 false hZ)
theorem PU:bF prog yp:=(((bF.none.add fN false).add iG false).add kj false)
theorem uN:type_of% (ai @w<|ai @qC<|ai @bn.eq_1<|ai @Bj<|ai @b9.eq_1<|ai @fw<|@yp.eq_1):=⟨@w,@qC,@bn.eq_1,@Bj,@b9.eq_1,@fw,@yp.eq_1⟩
theorem DK:bT prog 55 lK:=bT.gJ (mode := .clean) tok PU mixed func55 (by kernel_rfl) (fun _ _=>rfl) (fun _=>by kernel_rfl) fun Z r O=>by
 replace O:nE Z=some r:=O;apply aF rfl ntmps55 results55;simp only[gK];unfold nE at O;obtain⟨r1,U,O⟩:=ae O;try simp only[uN,seval,U]
 apply sp aj O<;>intro _ O
 ·cases O;try simp only[uN,seval,U]
 ·obtain⟨r3,X,O⟩:=ae O;obtain⟨r4,Y,O⟩:=ae O;try simp only[uN,seval,U,X,Y]
  refine bH (by kernel_rfl) ?_;cases O;try simp only[uN,seval,U,X,Y]
def tJ (l:Option (D×Row)) (d:List D):=dP (gX (bt dB) (dL (bt dB))) (fun x:az×az=>nD x.1 x.2) (fun r:az×az×Int =>.clean (.tup [.agg [.int .i64 r.1.ah,.sl false false r.1.aa.length (ab (eI .i64) r.1.aa)],.agg [.int .i64 r.2.1.ah,.sl false false r.2.1.aa.length (ab (eI .i64) r.2.1.aa)],.int .i64 r.2.2])) l d
theorem yX (O:(List Int)) (U:(List Int)):nR none [.sl false false O.length (ab (eI .i64) O),.sl false false U.length (ab (eI .i64) U)]=(pn O U).map fun r:(List Int)=>(.clean (.sl false false r.length (ab (eI .i64) r)),none):=cI _ _ _ (O,U)
def yl:Env:=(Am.ext (Am.ext (Am.ext (Am.ext (Am.ext bk 79 false bn) 87 false b9) 90 false nR) 92 false lM) 120 false lL)
theorem PQ:bF prog yl:=(((((bF.none.add fN false).add iG false).add DL false).add DO false).add DM false)
theorem de:type_of% (ai @w<|ai @qC<|ai @bn.eq_1<|ai @Bj<|ai @b9.eq_1<|ai @yX<|ai @As<|ai @lM.eq_1<|ai @lL.eq_1<|@yl.eq_1):=⟨@w,@qC,@bn.eq_1,@Bj,@b9.eq_1,@yX,@As,@lM.eq_1,@lL.eq_1,@yl.eq_1⟩
theorem Qo:bT prog 94 tJ:=bT.gJ (mode := .clean) tok PQ mixed func94 (by kernel_rfl) (fun _ _=>rfl) (fun _=>by kernel_rfl) fun⟨p0,p1⟩ r O=>by
 replace O:nD p0 p1=some r:=O;apply aF rfl ntmps94 results94;simp only[gK];unfold nD at O;obtain⟨r1,U,O⟩:=ae O;try simp only[de,seval,U]
 obtain⟨o2,aD,O⟩:=ae O;refine bz 0 (fun s t H e=>match s with|av=>∃Z:Nat,∃ad:Nat,∃ag:Nat,∃ai:Nat,t 2=.ptr 2 Z 0∧t 3=.ptr 3 ad 0∧t 4=.ptr 4 ag 0∧t 5=.ptr 5 ai 0∧t 9=.bool av∧H 2=some ⟨Z,40,[.int .i64 p0.ah,.sl false false p0.aa.length (ab (eI .i64) p0.aa)],false,false,false⟩∧H 3=some ⟨ad,40,[.int .i64 p1.ah,.sl false false p1.aa.length (ab (eI .i64) p1.aa)],false,false,false⟩∧H 4=some ⟨ag,40,[.int .i64 0,.sl true true 0 []],false,false,false⟩∧H 5=some ⟨ai,40,[.int .i64 0,.sl true true 0 []],false,false,false⟩) (fun s=>s=o2) ?_ ?_
 ·rintro av t H e ⟨Z,ad,ag,ai,Y⟩ rfl;try dsimp only at O
  try simp only[de,seval,U,Y]
  apply sp aj O<;>intro _ O
  ·cases O;try simp only[de,seval,U,Y]
  ·try simp only[de,seval,U,Y]
   apply sp aj O<;>intro _ O
   ·cases O;try simp only[de,seval,U,Y]
   ·obtain⟨r5,X,O⟩:=ae O;try simp only[de,seval,U,Y,X]
    obtain⟨o6,aE,O⟩:=ae O;refine bz 0 (fun s t H e=>match s with|ak=>∃an:Nat,∃ao:Nat,∃aq:Nat,∃ar:Nat,t 2=.ptr 2 an 0∧t 3=.ptr 3 ao 0∧t 4=.ptr 4 aq 0∧t 5=.ptr 5 ar 0∧t 7=.sl false false r5.1.length (ab (eI .i64) r5.1)∧t 8=.sl false false r5.2.length (ab (eI .i64) r5.2)∧t 44=.bool ak∧H 2=some ⟨an,40,[.int .i64 p0.ah,.sl false false p0.aa.length (ab (eI .i64) p0.aa)],false,false,false⟩∧H 3=some ⟨ao,40,[.int .i64 p1.ah,.sl false false p1.aa.length (ab (eI .i64) p1.aa)],false,false,false⟩∧H 4=some ⟨aq,40,[.int .i64 0,.sl true true 0 []],false,false,false⟩∧H 5=some ⟨ar,40,[.int .i64 0,.sl true true 0 []],false,false,false⟩) (fun s=>s=o6) ?_ ?_
    ·rintro ak t H e ⟨an,ao,aq,ar,au⟩ rfl;try dsimp only at O
     try simp only[de,seval,U,X,au]
     apply sp aj O<;>intro _ O
     ·have i8:=yX r5.1 ([1]);simp only[bh,bX,List.length_cons,List.length_nil,agt,Nat.reduceAdd,ahI]at i8;obtain⟨r9,aC,O⟩:=ae O;obtain⟨aG,aw,O⟩:=ae O;obtain⟨aH,ax,O⟩:=ae O;obtain⟨aI,ay,O⟩:=ae O;try simp only[de,seval,U,X,au,i8,aC,aw,ax,ay]
      refine bH (by kernel_rfl) ?_;cases O;try simp only[de,seval,U,X,au,i8,aC,aw,ax,ay]
     ·obtain⟨aJ,az,O⟩:=ae O;obtain⟨aK,aA,O⟩:=ae O;try simp only[de,seval,U,X,au,az,aA]
      refine bH (by kernel_rfl) ?_;cases O;try simp only[de,seval,U,X,au,az,aA]
    ·clear O;have O:=aE;try simp only[de,seval,U,Y,X]
     apply sp eW O<;>intro _ O
     ·cases O;try simp only[de,seval,U,Y,X]
      rw[al];refine⟨_,rfl,?_⟩;refine⟨Z,ad,ag,ai,?_⟩;and_intros<;>first|rfl|(simp only[de,seval,U,Y,X]<;>rfl)
     ·cases O;try simp only[de,seval,U,Y,X]
      rw[al];refine⟨_,rfl,?_⟩;refine⟨Z,ad,ag,ai,?_⟩;and_intros<;>first|rfl|(simp only[de,seval,U,Y,X]<;>rfl)
 ·clear O;have O:=aD;try simp only[de,seval,U]
  apply sp aO O<;>intro _ O
  ·cases O;try simp only[de,seval,U]
   rw[al];refine⟨_,rfl,?_⟩;refine⟨0,0,0,0,?_⟩;and_intros<;>first|rfl|(simp only[de,seval,U]<;>rfl)
  ·obtain⟨aL,aB,O⟩:=ae O;cases O;try simp only[de,seval,U,aB]
   rw[al];refine⟨_,rfl,?_⟩;refine⟨0,0,0,0,?_⟩;and_intros<;>first|rfl|(simp only[de,seval,U,aB]<;>rfl)
def gL (l:Option (D×Row)) (d:List D):=dP (gX (bt dB) (dL (bt dB))) (fun x:az×az=>mM x.1 x.2) (fun r:aw×Int =>.clean (.tup [.agg [.int .i64 r.1.cD.ah,.sl false false r.1.cD.aa.length (ab (eI .i64) r.1.cD.aa),.int .i64 r.1.cw.ah,.sl false false r.1.cw.aa.length (ab (eI .i64) r.1.cw.aa)],.int .i64 r.2])) l d
def vJ:Env:=(Am.ext (Am.ext (Am.ext (Am.ext bk 55 false lK) 79 false bn) 80 false lJ) 94 false tJ)
theorem L3:bF prog vJ:=((((bF.none.add DK false).add fN false).add DJ false).add Qo false)
theorem dq:type_of% (ai @w<|ai @qC<|ai @lK.eq_1<|ai @bn.eq_1<|ai @xX<|ai @lJ.eq_1<|ai @tJ.eq_1<|@vJ.eq_1):=⟨@w,@qC,@lK.eq_1,@bn.eq_1,@xX,@lJ.eq_1,@tJ.eq_1,@vJ.eq_1⟩
theorem tv:bT prog 58 gL:=bT.gJ (mode := .clean) tok L3 mixed func58 (by kernel_rfl) (fun _ _=>rfl) (fun _=>by kernel_rfl) fun⟨p0,p1⟩ r O=>by
 replace O:mM p0 p1=some r:=O;apply aF rfl ntmps58 results58;simp only[gK];unfold mM at O;obtain⟨r1,U,O⟩:=ae O;try simp only[dq,seval,U]
 obtain⟨o2,ay,O⟩:=ae O;refine bz 0 (fun s t H e=>match s with|ao=>∃ad:Nat,∃ag:Nat,∃ai:Nat,t 2=.ptr 2 ad 0∧t 3=.ptr 3 ag 0∧t 4=.ptr 4 ai 0∧t 14=.bool ao∧H 2=some ⟨ad,40,[.int .i64 p0.ah,.sl false false p0.aa.length (ab (eI .i64) p0.aa)],false,false,false⟩∧H 3=some ⟨ag,40,[.int .i64 p1.ah,.sl false false p1.aa.length (ab (eI .i64) p1.aa)],false,false,false⟩∧H 4=some ⟨ai,42,[.int .i64 0,.sl true true 0 [],.int .i64 0,.sl true true 0 []],false,false,false⟩) (fun s=>s=o2) ?_ ?_
 ·rintro ao t H e ⟨ad,ag,ai,X⟩ rfl;try dsimp only at O
  try simp only[dq,seval,U,X]
  apply sp aj O<;>intro _ O
  ·cases O;try simp only[dq,seval,U,X]
  ·try simp only[dq,seval,U,X]
   apply sp aj O<;>intro _ O
   ·cases O;try simp only[dq,seval,U,X]
   ·try simp only[dq,seval,U,X]
    obtain⟨o5,az,O⟩:=ae O;refine j9 0 (fun s t H e=>match s with|(ak,Y,an,Z)=>∃aq:Nat,∃ar:Nat,∃au:Nat,t 2=.ptr 2 aq 0∧t 3=.ptr 3 ar 0∧t 4=.ptr 4 au 0∧H 2=some ⟨aq,40,[.int .i64 ak,.sl false false Y.length (ab (eI .i64) Y)],false,false,false⟩∧H 3=some ⟨ar,40,[.int .i64 an,.sl false false Z.length (ab (eI .i64) Z)],false,false,false⟩∧H 4=some ⟨au,42,[.int .i64 0,.sl true true 0 [],.int .i64 0,.sl true true 0 []],false,false,false⟩) (fun s=>s=o5) ?_ ?_
    ·rintro⟨ak,Y,an,Z⟩ t H e ⟨aq,ar,au,aA⟩ rfl;try dsimp only at O
     obtain⟨r6,aB,O⟩:=ae O;obtain⟨r7,aC,O⟩:=ae O;obtain⟨r8,aD,O⟩:=ae O;cases O;try simp only[dq,seval,U,aA,aB,aC,aD]
    ·clear O;have O:=az;try simp only[dq,seval,U,X]
     apply sp aj O<;>intro _ O
     ·obtain⟨aE,av,O⟩:=ae O;obtain⟨aG,aw,O⟩:=ae O;try simp only[dq,seval,U,X,av,aw]
      refine bH (by kernel_rfl) ?_;cases O;try simp only[dq,seval,U,X,av,aw]
      rw[al];refine⟨_,rfl,?_⟩;refine⟨ad,ag,ai,?_⟩;and_intros<;>first|rfl|(simp only[dq,seval,U,X,av,aw]<;>rfl)
     ·cases O;try simp only[dq,seval,U,X]
      rw[al];refine⟨_,rfl,?_⟩;refine⟨ad,ag,ai,?_⟩;and_intros<;>first|rfl|(simp only[dq,seval,U,X]<;>rfl)
 ·clear O;have O:=ay;try simp only[dq,seval,U]
  apply sp aO O<;>intro _ O
  ·cases O;try simp only[dq,seval,U]
   rw[al];refine⟨_,rfl,?_⟩;refine⟨0,0,0,?_⟩;and_intros<;>first|rfl|(simp only[dq,seval,U]<;>rfl)
  ·obtain⟨aH,ax,O⟩:=ae O;cases O;try simp only[dq,seval,U,ax]
   rw[al];refine⟨_,rfl,?_⟩;refine⟨0,0,0,?_⟩;and_intros<;>first|rfl|(simp only[dq,seval,U,ax]<;>rfl)
def kn (l:Option (D×Row)) (d:List D):=dP (gX (bt aD) (dL (bt aD))) (fun x:aw×aw=>oJ x.1 x.2) (fun r:aw×Int =>.clean (.tup [.agg [.int .i64 r.1.cD.ah,.sl false false r.1.cD.aa.length (ab (eI .i64) r.1.cD.aa),.int .i64 r.1.cw.ah,.sl false false r.1.cw.aa.length (ab (eI .i64) r.1.cw.aa)],.int .i64 r.2])) l d
def vF:Env:=(Am.ext (Am.ext (Am.ext (Am.ext bk 47 false bJ) 56 false tI) 57 false fi) 58 false gL)
theorem L0:bF prog vF:=((((bF.none.add gS false).add Qn false).add pY false).add tv false)
theorem gm:type_of% (ai @w<|ai @Bk<|ai @bJ.eq_1<|ai @xX<|ai @tI.eq_1<|ai @fi.eq_1<|ai @gL.eq_1<|@vF.eq_1):=⟨@w,@Bk,@bJ.eq_1,@xX,@tI.eq_1,@fi.eq_1,@gL.eq_1,@vF.eq_1⟩
theorem Ab:bT prog 27 kn:=bT.gJ (mode := .clean) tok L0 mixed func27 (by kernel_rfl) (fun _ _=>rfl) (fun _=>by kernel_rfl) fun⟨p0,p1⟩ r O=>by
 replace O:oJ p0 p1=some r:=O;apply aF rfl ntmps27 results27;simp only[gK];unfold oJ at O;obtain⟨r1,U,O⟩:=ae O;try simp only[gm,seval,U]
 obtain⟨o2,au,O⟩:=ae O;refine bz 0 (fun s t H e=>match s with|X=>∃Y:Nat,∃Z:Nat,∃ad:Nat,t 2=.ptr 2 Y 0∧t 3=.ptr 3 Z 0∧t 4=.ptr 4 ad 0∧t 15=.bool X∧H 2=some ⟨Y,42,[.int .i64 p0.cD.ah,.sl false false p0.cD.aa.length (ab (eI .i64) p0.cD.aa),.int .i64 p0.cw.ah,.sl false false p0.cw.aa.length (ab (eI .i64) p0.cw.aa)],false,false,false⟩∧H 3=some ⟨Z,42,[.int .i64 p1.cD.ah,.sl false false p1.cD.aa.length (ab (eI .i64) p1.cD.aa),.int .i64 p1.cw.ah,.sl false false p1.cw.aa.length (ab (eI .i64) p1.cw.aa)],false,false,false⟩∧H 4=some ⟨ad,42,[.int .i64 0,.sl true true 0 [],.int .i64 0,.sl true true 0 []],false,false,false⟩) (fun s=>s=o2) ?_ ?_
 ·rintro X t H e ⟨Y,Z,ad,ag⟩ rfl;try dsimp only at O
  try simp only[gm,seval,U,ag]
  apply sp aj O<;>intro _ O
  ·cases O;try simp only[gm,seval,U,ag]
  ·obtain⟨r4,ak,O⟩:=ae O;obtain⟨r5,an,O⟩:=ae O;obtain⟨r6,ao,O⟩:=ae O;try simp only[gm,seval,U,ag,ak,an,ao]
   refine bH (by kernel_rfl) ?_;obtain⟨r7,aq,O⟩:=ae O;obtain⟨r8,ar,O⟩:=ae O;try simp only[gm,seval,U,ag,ak,an,ao,aq,ar]
   refine bH (by kernel_rfl) ?_;cases O;try simp only[gm,seval,U,ag,ak,an,ao,aq,ar]
 ·clear O;have O:=au;try simp only[gm,seval,U]
  apply sp aO O<;>intro _ O
  ·cases O;try simp only[gm,seval,U]
   rw[al];refine⟨_,rfl,?_⟩;refine⟨0,0,0,?_⟩;and_intros<;>first|rfl|(simp only[gm,seval,U]<;>rfl)
  ·obtain⟨av,ai,O⟩:=ae O;cases O;try simp only[gm,seval,U,ai]
   rw[al];refine⟨_,rfl,?_⟩;refine⟨0,0,0,?_⟩;and_intros<;>first|rfl|(simp only[gm,seval,U,ai]<;>rfl)
def lN (l:Option (D×Row)) (d:List D):=dP (gX (bt aD) (dL (bt aD))) (fun x:aw×aw=>nO x.1 x.2) (fun r:aw =>.clean (.agg [.int .i64 r.cD.ah,.sl false false r.cD.aa.length (ab (eI .i64) r.cD.aa),.int .i64 r.cw.ah,.sl false false r.cw.aa.length (ab (eI .i64) r.cw.aa)])) l d
def yx:Env:=(Am.ext bk 27 false kn)
theorem P0:bF prog yx:=(bF.none.add Ab false)
theorem Vv:type_of% (ai @w<|ai @uT<|ai @kn.eq_1<|@yx.eq_1):=⟨@w,@uT,@kn.eq_1,@yx.eq_1⟩
theorem DS:bT prog 72 lN:=bT.gJ (mode := .clean) tok P0 mixed func72 (by kernel_rfl) (fun _ _=>rfl) (fun _=>by kernel_rfl) fun⟨X,Y⟩ r O=>by
 replace O:nO X Y=some r:=O;apply aF rfl ntmps72 results72;simp only[gK];unfold nO at O;obtain⟨Z,U,O⟩:=ae O;cases O;try simp only[Vv,seval,U]
def mu (l:Option (D×Row)) (d:List D):=dP (gX (bt dB) (dL (bt dB))) (fun x:az×az=>kF x.1 x.2) (fun r:Int =>.clean (.int .i64 r)) l d
def pO:Env:=(Am.ext (Am.ext (Am.ext bk 76 false eK) 79 false bn) 91 false eJ)
theorem CS:bF prog pO:=(((bF.none.add oS false).add fN false).add oR false)
theorem dF:type_of% (ai @w<|ai @Vz<|ai @eK.eq_1<|ai @qC<|ai @bn.eq_1<|ai @As<|ai @eJ.eq_1<|@pO.eq_1):=⟨@w,@Vz,@eK.eq_1,@qC,@bn.eq_1,@As,@eJ.eq_1,@pO.eq_1⟩
theorem DI:bT prog 144 mu:=bT.gJ (mode := .clean) tok CS mixed func144 (by kernel_rfl) (fun _ _=>rfl) (fun _=>by kernel_rfl) fun⟨p0,p1⟩ r O=>by
 replace O:kF p0 p1=some r:=O;apply aF rfl ntmps144 results144;simp only[gK];unfold kF at O;obtain⟨r1,U,O⟩:=ae O;try simp only[dF,seval,U]
 obtain⟨o2,ak,O⟩:=ae O;refine bz 0 (fun s t H e=>match s with|Y=>∃Z:Nat,∃ad:Nat,t 2=.ptr 2 Z 0∧t 3=.ptr 3 ad 0∧t 12=.bool Y∧H 2=some ⟨Z,40,[.int .i64 p0.ah,.sl false false p0.aa.length (ab (eI .i64) p0.aa)],false,false,false⟩∧H 3=some ⟨ad,40,[.int .i64 p1.ah,.sl false false p1.aa.length (ab (eI .i64) p1.aa)],false,false,false⟩) (fun s=>s=o2) ?_ ?_
 ·rintro Y t H e ⟨Z,ad,X⟩ rfl;try dsimp only at O
  try simp only[dF,seval,U,X]
  apply sp aj O<;>intro _ O
  ·cases O;try simp only[dF,seval,U,X]
  ·try simp only[dF,seval,U,X]
   apply sp aj O<;>intro _ O
   ·obtain⟨r5,an,O⟩:=ae O;cases O;try simp only[dF,seval,U,X,an]
   ·obtain⟨r6,ag,O⟩:=ae O;try simp only[dF,seval,U,X,ag]
    refine bH (by kernel_rfl) ?_;cases O;try simp only[dF,seval,U,X,ag]
 ·clear O;have O:=ak;try simp only[dF,seval,U]
  apply sp aO O<;>intro _ O
  ·cases O;try simp only[dF,seval,U]
   rw[al];refine⟨_,rfl,?_⟩;refine⟨0,0,?_⟩;and_intros<;>first|rfl|(simp only[dF,seval,U]<;>rfl)
  ·obtain⟨r8,ai,O⟩:=ae O;cases O;try simp only[dF,seval,U,ai]
   rw[al];refine⟨_,rfl,?_⟩;refine⟨0,0,?_⟩;and_intros<;>first|rfl|(simp only[dF,seval,U,ai]<;>rfl)
def kT (l:Option (D×Row)) (d:List D):=dP (gX (bt aD) (dL (bt aD))) (fun x:aw×aw=>iu x.1 x.2) (fun r:Int =>.clean (.int .i64 r)) l d
def oK:Env:=(Am.ext (Am.ext (Am.ext bk 47 false bJ) 57 false fi) 144 false mu)
theorem AM:bF prog oK:=(((bF.none.add gS false).add pY false).add DI false)
theorem dZ:type_of% (ai @w<|ai @Bk<|ai @bJ.eq_1<|ai @xX<|ai @fi.eq_1<|ai @mu.eq_1<|@oK.eq_1):=⟨@w,@Bk,@bJ.eq_1,@xX,@fi.eq_1,@mu.eq_1,@oK.eq_1⟩
theorem AU:bT prog 131 kT:=bT.gJ (mode := .clean) tok AM mixed func131 (by kernel_rfl) (fun _ _=>rfl) (fun _=>by kernel_rfl) fun⟨p0,p1⟩ r O=>by
 replace O:iu p0 p1=some r:=O;apply aF rfl ntmps131 results131;simp only[gK];unfold iu at O;obtain⟨r1,U,O⟩:=ae O;try simp only[dZ,seval,U]
 obtain⟨o2,ao,O⟩:=ae O;refine bz 0 (fun s t H e=>match s with|X=>∃Y:Nat,∃Z:Nat,t 2=.ptr 2 Y 0∧t 3=.ptr 3 Z 0∧t 12=.bool X∧H 2=some ⟨Y,42,[.int .i64 p0.cD.ah,.sl false false p0.cD.aa.length (ab (eI .i64) p0.cD.aa),.int .i64 p0.cw.ah,.sl false false p0.cw.aa.length (ab (eI .i64) p0.cw.aa)],false,false,false⟩∧H 3=some ⟨Z,42,[.int .i64 p1.cD.ah,.sl false false p1.cD.aa.length (ab (eI .i64) p1.cD.aa),.int .i64 p1.cw.ah,.sl false false p1.cw.aa.length (ab (eI .i64) p1.cw.aa)],false,false,false⟩) (fun s=>s=o2) ?_ ?_
 ·rintro X t H e ⟨Y,Z,ad⟩ rfl;try dsimp only at O
  try simp only[dZ,seval,U,ad]
  apply sp aj O<;>intro _ O
  ·cases O;try simp only[dZ,seval,U,ad]
  ·obtain⟨r4,ag,O⟩:=ae O;obtain⟨r5,ai,O⟩:=ae O;obtain⟨r6,ak,O⟩:=ae O;try simp only[dZ,seval,U,ad,ag,ai,ak]
   refine bH (by kernel_rfl) ?_;cases O;try simp only[dZ,seval,U,ad,ag,ai,ak]
 ·clear O;have O:=ao;try simp only[dZ,seval,U]
  apply sp aO O<;>intro _ O
  ·cases O;try simp only[dZ,seval,U]
   rw[al];refine⟨_,rfl,?_⟩;refine⟨0,0,?_⟩;and_intros<;>first|rfl|(simp only[dZ,seval,U]<;>rfl)
  ·obtain⟨r8,an,O⟩:=ae O;cases O;try simp only[dZ,seval,U,an]
   rw[al];refine⟨_,rfl,?_⟩;refine⟨0,0,?_⟩;and_intros<;>first|rfl|(simp only[dZ,seval,U,an]<;>rfl)
def pf (l:Option (D×Row)) (d:List D):=dP (dL (mG aD)) (fun x:(List aw)=>nX x) (fun r:Bool =>.clean (.bool r)) l d
theorem adv {β:Type} {F:(List aw)->Option β} {R:β->RK} (O:(List aw)):dP (dL (mG aD)) F R none [.sl false false O.length (ab aD O)]=(F (O)).map fun r=>(R r,none):=cI _ _ _ (O)
def s9:Env:=(Am.ext (Am.ext (Am.ext (Am.ext (Am.ext bk 47 false bJ) 48 false dh) 72 false lN) 83 false ko) 131 false kT)
theorem Jm:bF prog s9:=(((((bF.none.add gS false).add lq false).add DS false).add Ac false).add AU false)
theorem dD:type_of% (ai @w<|ai @Bk<|ai @bJ.eq_1<|ai @dh.eq_1<|ai @uT<|ai @lN.eq_1<|ai @Kc<|ai @ko.eq_1<|ai @kT.eq_1<|@s9.eq_1):=⟨@w,@Bk,@bJ.eq_1,@dh.eq_1,@uT,@lN.eq_1,@Kc,@ko.eq_1,@kT.eq_1,@s9.eq_1⟩
theorem JB:bT prog 100 pf:=bT.gJ (mode := .clean) tok Jm mixed func100 (by kernel_rfl) (fun _ _=>rfl) (fun _=>by kernel_rfl) fun p0 r O=>by
 replace O:nX p0=some r:=O;apply aF rfl ntmps100 results100;simp only[gK];unfold nX at O;obtain⟨r1,U,O⟩:=ae O;try simp only[dD,seval,U]
 obtain⟨o9,az,O⟩:=ae O;refine aC (fun s t H e=>match s with|(aw,al,ag,an,ah)=>∃ao:Nat,t 3=.ptr 3 ao 0∧t 7=.sl false false p0.length (ab aD p0)∧t 8=.int .i64 (p0.length:Int)∧t 9=.int .i64 aw∧H 3=some ⟨ao,42,[.int .i64 al,.sl false false ag.length (ab (eI .i64) ag),.int .i64 an,.sl false false ah.length (ab (eI .i64) ah)],false,false,false⟩) (fun o x t H e=>match o with|(.inl (ai,Z,ak,aa))=>x=.exit 0∧∃aq:Nat,t 3=.ptr 3 aq 0∧H 3=some ⟨aq,42,[.int .i64 ai,.sl false false Z.length (ab (eI .i64) Z),.int .i64 ak,.sl false false aa.length (ab (eI .i64) aa)],false,false,false⟩|(.inr r)=>x=.ret∧fH .clean tab none [.tmp 2] ⟨t,EH H,e⟩=some (.clean (.bool r),none)) az ?_ ?_ ?_
 ·refine⟨1,?_⟩;and_intros<;>first|rfl|(simp only[dD,seval,U]<;>rfl)
 ·rintro⟨aw,al,ag,an,ah⟩ t H e ⟨ao,Za⟩ c O;simp only[nP]at O;try simp only[dD,seval,U,Za]
  apply sp aj O<;>intro _ O
  ·obtain⟨aA,ax,O⟩:=ae O;have X:=bC aD ax;simp only[bX]at X;obtain⟨aB,Y,O⟩:=ae O;try simp only[dD,seval,U,Za,X,Y]
   apply sp aO O<;>intro _ O
   ·cases O;try simp only[dD,seval,U,Za,X,Y]
    refine rv ⟨rfl,?_⟩;try simp only[dD,seval,U,Za,X,Y]
   ·obtain⟨aE,ad,O⟩:=ae O;try simp only[dD,seval,U,Za,X,Y,ad]
    apply sp aj O<;>intro _ O
    ·cases O;try simp only[dD,seval,U,Za,X,Y,ad]
     refine rv ⟨rfl,?_⟩;try simp only[dD,seval,U,Za,X,Y,ad]
    ·obtain⟨aG,ar,O⟩:=ae O;cases O;try simp only[dD,seval,U,Za,X,Y,ad,ar]
     apply iP;refine⟨ao,?_⟩;and_intros<;>first|rfl|(simp only[dD,seval,U,Za,X,Y,ad,ar]<;>rfl)
  ·cases O;try simp only[dD,seval,U,Za]
   apply jW;refine⟨rfl,⟨ao,?_⟩⟩;and_intros<;>first|rfl|(simp only[dD,seval,U,Za]<;>rfl)
 ·rintro x t H e hx;rcases o9 with⟨ai,Z,ak,aa⟩|ra
  ·dsimp only at hx O;obtain⟨rfl,⟨aq,ay⟩⟩:=hx;obtain⟨aH,au,O⟩:=ae O;obtain⟨aI,av,O⟩:=ae O;try simp only[dD,seval,U,ay,au,av]
   refine bH (by kernel_rfl) ?_;cases O;try simp only[dD,seval,U,ay,au,av]
  ·dsimp only at hx O;obtain⟨rfl,hE⟩:=hx;cases O;try simp only[bc,aX,bj,cJ,cG,cc,cd]
   exact hE
def kc (l:Option (D×Row)) (d:List D):=dP (dL (bt vw)) (fun x:fJ=>iF x) (fun r:Bool =>.clean (.bool r)) l d
theorem aaj {β:Type} {F:fJ->Option β} {R:β->RK} (O:(List gn)) (U:(List sr)) (X:(List (List aw))):dP (dL (bt vw)) F R none [.agg [.sl false false O.length (ab bg O),.sl false false U.length (ab dO U),.sl false false X.length (ab (jM aD) X)]]=(F ((fJ.mk O U X))).map fun r=>(R r,none):=cI _ _ _ ((fJ.mk O U X))
def ng:Env:=(Am.ext (Am.ext bk 35 false ca) 100 false pf)
theorem yJ:bF prog ng:=((bF.none.add iH false).add JB false)
theorem av:type_of% (ai @w<|ai @A0<|ai @ca.eq_1<|ai @adv<|ai @pf.eq_1<|@ng.eq_1):=⟨@w,@A0,@ca.eq_1,@adv,@pf.eq_1,@ng.eq_1⟩
theorem yR:bT prog 62 kc:=bT.gJ (mode := .clean) tok yJ mixed func62 (by kernel_rfl) (fun _ _=>rfl) (fun _=>by kernel_rfl) fun p0 r O=>by
 replace O:iF p0=some r:=O;apply aF rfl ntmps62 results62;simp only[gK];unfold iF at O;try simp only[av,seval]
 obtain⟨o1,bp,O⟩:=ae O;refine bz 0 (fun s t H e=>match s with|aG=>∃ay:Nat,t 1=.ptr 1 ay 0∧t 27=.bool aG∧H 1=some ⟨ay,52,[.sl false false p0.ak.length (ab bg p0.ak),.sl false false p0.aH.length (ab dO p0.aH),.sl false false p0.aB.length (ab (jM aD) p0.aB)],false,false,false⟩) (fun s=>s=o1) ?_ ?_
 ·rintro aG t H e ⟨ay,aV⟩ rfl;try dsimp only at O
  try simp only[av,seval,aV]
  apply sp aj O<;>intro _ O
  ·cases O;try simp only[av,seval,aV]
  ·try simp only[av,seval,aV]
   obtain⟨bq,ba,O⟩:=ae O;refine aC (fun s t H e=>match s with|aZ=>∃aI:Nat,t 1=.ptr 1 aI 0∧t 29=.sl false false p0.aH.length (ab dO p0.aH)∧t 30=.int .i64 (p0.aH.length:Int)∧t 31=.int .i64 aZ∧H 1=some ⟨aI,52,[.sl false false p0.ak.length (ab bg p0.ak),.sl false false p0.aH.length (ab dO p0.aH),.sl false false p0.aB.length (ab (jM aD) p0.aB)],false,false,false⟩) (fun o x t H e=>match o with|(.inl _)=>x=.exit 0∧∃az:Nat,t 1=.ptr 1 az 0∧H 1=some ⟨az,52,[.sl false false p0.ak.length (ab bg p0.ak),.sl false false p0.aH.length (ab dO p0.aH),.sl false false p0.aB.length (ab (jM aD) p0.aB)],false,false,false⟩|(.inr r)=>x=.ret∧fH .clean tab none [.tmp 2] ⟨t,EH H,e⟩=some (.clean (.bool r),none)) ba ?_ ?_ ?_
   ·refine⟨ay,?_⟩;and_intros<;>first|rfl|(simp only[av,seval,aV]<;>rfl)
   ·rintro aZ t H e ⟨aI,Zb⟩ c O;simp only[jD]at O;try simp only[av,seval,Zb]
    apply sp aj O<;>intro _ O
    ·obtain⟨bt,bb,O⟩:=ae O;have ai:=bC dO bb;simp only[bX]at ai;obtain⟨bw,an,O⟩:=ae O;try simp only[av,seval,Zb,ai,an]
     apply sp mY O<;>intro _ O
     ·try simp only[av,seval,Zb,ai,an]
      refine bH (by kernel_rfl) ?_;cases O;try simp only[av,seval,Zb,ai,an]
      refine rv ⟨rfl,?_⟩;try simp only[av,seval,Zb,ai,an]
     ·try simp only[av,seval,Zb,ai,an]
      apply sp mY O<;>intro _ O
      ·try simp only[av,seval,Zb,ai,an]
       refine bH (by kernel_rfl) ?_;cases O;try simp only[av,seval,Zb,ai,an]
       refine rv ⟨rfl,?_⟩;try simp only[av,seval,Zb,ai,an]
      ·obtain⟨bx,bd,O⟩:=ae O;have aq:=bC (jM aD) bd;simp only[bX]at aq;try simp only[av,seval,Zb,ai,an,aq]
       refine bH (by kernel_rfl) ?_;try simp only[av,seval,Zb,ai,an,aq]
       apply sp aj O<;>intro _ O
       ·cases O;try simp only[av,seval,Zb,ai,an,aq]
        refine rv ⟨rfl,?_⟩;try simp only[av,seval,Zb,ai,an,aq]
       ·cases O;try simp only[av,seval,Zb,ai,an,aq]
        apply iP;refine⟨aI,?_⟩;and_intros<;>first|rfl|(simp only[av,seval,Zb,ai,an,aq]<;>rfl)
    ·cases O;try simp only[av,seval,Zb]
     apply jW;refine⟨rfl,⟨aI,?_⟩⟩;and_intros<;>first|rfl|(simp only[av,seval,Zb]<;>rfl)
   ·rintro x t H e hx;rcases bq with _|rb
    ·dsimp only at hx O;obtain⟨rfl,⟨az,bf⟩⟩:=hx;try simp only[av,seval,bf]
     obtain⟨br,bh,O⟩:=ae O;refine aC (fun s t H e=>match s with|au=>∃aW:Nat,t 1=.ptr 1 aW 0∧t 59=.sl false false p0.ak.length (ab bg p0.ak)∧t 60=.int .i64 (p0.ak.length:Int)∧t 61=.int .i64 au∧H 1=some ⟨aW,52,[.sl false false p0.ak.length (ab bg p0.ak),.sl false false p0.aH.length (ab dO p0.aH),.sl false false p0.aB.length (ab (jM aD) p0.aB)],false,false,false⟩) (fun o x t H e=>match o with|(.inl _)=>x=.exit 2|(.inr r)=>x=.ret∧fH .clean tab none [.tmp 2] ⟨t,EH H,e⟩=some (.clean (.bool r),none)) bh ?_ ?_ ?_
     ·refine⟨az,?_⟩;and_intros<;>first|rfl|(simp only[av,seval,bf]<;>rfl)
     ·rintro au t H e ⟨aW,Zc⟩ c O;simp only[jE]at O;try simp only[av,seval,Zc]
      apply sp aj O<;>intro _ O
      ·obtain⟨aE,bk,O⟩:=ae O;have U:=bC bg bk;simp only[bX]at U;obtain⟨bA,bl,O⟩:=ae O;obtain⟨Y,Z,ad,X,ag⟩:=mk_one aD bl;simp only[bX]at X;try simp only[av,seval,Zc,U,Y,Z,ad,X,ag]
       obtain⟨bs,bm,O⟩:=ae O;refine aC (fun s t H e=>match s with|(a1,a8)=>∃aJ:Nat,∃aK:Nat,∃aM:Nat,t 1=.ptr 1 aJ 0∧t 5=.int .i64 au∧t 6=.ptr 6 aK 0∧t 7=.buf 7 aM 4 0 (a8).length∧t 59=.sl false false p0.ak.length (ab bg p0.ak)∧t 60=.int .i64 (p0.ak.length:Int)∧t 61=.int .i64 au∧t 72=.int .i64 (p0.aH.length:Int)∧t 73=.int .i64 a1∧H 1=some ⟨aJ,52,[.sl false false p0.ak.length (ab bg p0.ak),.sl false false p0.aH.length (ab dO p0.aH),.sl false false p0.aB.length (ab (jM aD) p0.aB)],false,false,false⟩∧H 6=some ⟨aK,95,[.int .i64 aE.bu,.int .i64 aE.a7,.int .i64 aE.aL],false,false,false⟩∧H 7=some ⟨aM,42,ab aD a8,false,true,false⟩) (fun o x t H e=>match o with|aN=>x=.exit 4∧∃aA:Nat,∃aP:Nat,∃aQ:Nat,t 1=.ptr 1 aA 0∧t 6=.ptr 6 aP 0∧t 7=.buf 7 aQ 4 0 (aN).length∧t 59=.sl false false p0.ak.length (ab bg p0.ak)∧t 60=.int .i64 (p0.ak.length:Int)∧t 61=.int .i64 au∧H 1=some ⟨aA,52,[.sl false false p0.ak.length (ab bg p0.ak),.sl false false p0.aH.length (ab dO p0.aH),.sl false false p0.aB.length (ab (jM aD) p0.aB)],false,false,false⟩∧H 6=some ⟨aP,95,[.int .i64 aE.bu,.int .i64 aE.a7,.int .i64 aE.aL],false,false,false⟩∧H 7=some ⟨aQ,42,ab aD aN,false,true,false⟩) bm ?_ ?_ ?_
       ·refine⟨aW,e+1,e+1+1,?_⟩;and_intros<;>first|rfl|(simp only[av,seval,Zc,U,Y,Z,ad,X,ag]<;>rfl)
       ·rintro⟨a1,a8⟩ t H e ⟨aJ,aK,aM,Ze⟩ c O;simp only[fZ]at O;try simp only[av,seval,U,Y,Z,ad,X,ag,Ze]
        apply sp aj O<;>intro _ O
        ·obtain⟨bB,bn,O⟩:=ae O;have aR:=bC (jM aD) bn;simp only[bX]at aR;obtain⟨ax,bo,O⟩:=ae O;have aS:=bC aD bo;simp only[bX]at aS;obtain⟨bD,a6,O⟩:=ae O;have aT:=bC aD a6;simp only[bX]at aT;have aY:=fP aD (x':=ax) (fo:=0) (cs:=[.int .i64 ax.cD.ah,.sl false false ax.cD.aa.length (ab (eI .i64) ax.cD.aa),.int .i64 ax.cw.ah,.sl false false ax.cw.aa.length (ab (eI .i64) ax.cw.aa)]) a6 rfl (ahr rfl);simp only[bX,Nat.add_zero]at aY;have aU:=aY;simp only[putCells,List.length_cons,List.length_nil,agt,Nat.reduceAdd]at aU;cases O;try simp only[av,seval,U,Y,Z,ad,X,ag,Ze,aR,aS,aT,aY,aU]
         apply iP;refine⟨aJ,aK,aM,?_⟩;and_intros<;>first|rfl|(simp only[av,seval,U,Y,Z,ad,X,ag,Ze,aR,aS,aT,aY,aU]<;>rfl)
        ·cases O;try simp only[av,seval,U,Y,Z,ad,X,ag,Ze]
         apply jW;refine⟨rfl,⟨aJ,aK,aM,?_⟩⟩;and_intros<;>first|rfl|(simp only[av,seval,U,Y,Z,ad,X,ag,Ze]<;>rfl)
       ·rintro x t H e hx;obtain⟨aN,rfl⟩:∃z,z=bs:=⟨_,rfl⟩;dsimp only at hx O;obtain⟨rfl,⟨aA,aP,aQ,ar⟩⟩:=hx;obtain⟨bE,ao,O⟩:=ae O;try simp only[av,seval,U,Y,Z,ad,X,ag,ar,ao]
        apply sp aO O<;>intro _ O
        ·cases O;try simp only[av,seval,U,Y,Z,ad,X,ag,ar,ao]
         refine rv ⟨rfl,?_⟩;try simp only[av,seval,U,Y,Z,ad,X,ag,ar,ao]
        ·try simp only[av,seval,U,Y,Z,ad,X,ag,ar,ao]
         apply sp aO O<;>intro _ O
         ·cases O;try simp only[av,seval,U,Y,Z,ad,X,ag,ar,ao]
          refine rv ⟨rfl,?_⟩;try simp only[av,seval,U,Y,Z,ad,X,ag,ar,ao]
         ·obtain⟨bF,aw,O⟩:=ae O;try simp only[av,seval,U,Y,Z,ad,X,ag,ar,ao,aw]
          apply sp aj O<;>intro _ O
          ·cases O;try simp only[av,seval,U,Y,Z,ad,X,ag,ar,ao,aw]
           refine rv ⟨rfl,?_⟩;try simp only[av,seval,U,Y,Z,ad,X,ag,ar,ao,aw]
          ·cases O;try simp only[av,seval,U,Y,Z,ad,X,ag,ar,ao,aw]
           apply iP;refine⟨aA,?_⟩;and_intros<;>first|rfl|(simp only[av,seval,U,Y,Z,ad,X,ag,ar,ao,aw]<;>rfl)
      ·cases O;try simp only[av,seval,Zc]
       apply jW;exact rfl
     ·rintro x t H e hx;rcases br with _|rc
      ·dsimp only at hx O;subst hx;cases O;try simp only[av,seval]
      ·dsimp only at hx O;obtain⟨rfl,hE⟩:=hx;cases O;try simp only[bc,aX,bj,cJ,cG,cc,cd]
       exact hE
    ·dsimp only at hx O;obtain⟨rfl,hE⟩:=hx;cases O;try simp only[bc,aX,bj,cJ,cG,cc,cd]
     exact hE
 ·clear O;have O:=bp;try simp only[av,seval]
  apply sp aO O<;>intro _ O
  ·cases O;try simp only[av,seval]
   rw[al];refine⟨_,rfl,?_⟩;refine⟨0,?_⟩;and_intros<;>first|rfl|(simp only[av,seval]<;>rfl)
  ·try simp only[av,seval]
   apply sp aO O<;>intro _ O
   ·cases O;try simp only[av,seval]
    rw[al];refine⟨_,rfl,?_⟩;refine⟨0,?_⟩;and_intros<;>first|rfl|(simp only[av,seval]<;>rfl)
   ·cases O;try simp only[av,seval]
    rw[al];refine⟨_,rfl,?_⟩;refine⟨0,?_⟩;and_intros<;>first|rfl|(simp only[av,seval]<;>rfl)
def nA (l:Option (D×Row)) (d:List D):=dP (gX (bt fe) (dL (T9 (eI .i64)))) (fun x:gN×Int=>mf x.1 x.2) (fun r:Bool =>.clean (.bool r)) l d
theorem adw {β:Type} {F:gN×Int->Option β} {R:β->RK} (O:Int) (U:Int) (X:Int):dP (gX (bt fe) (dL (T9 (eI .i64)))) F R none [.agg [.int .i64 O,.int .i64 U],.ip [.int .i64 X]]=(F ((gN.mk O U),X)).map fun r=>(R r,none):=cI _ _ _ ((gN.mk O U),X)
def rp:Env:=(Am.ext bk 35 false ca)
theorem Fb:bF prog rp:=(bF.none.add iH false)
theorem rR:type_of% (ai @w<|ai @A0<|ai @ca.eq_1<|@rp.eq_1):=⟨@w,@A0,@ca.eq_1,@rp.eq_1⟩
theorem Fg:bT prog 63 nA:=bT.gJ (mode := .clean) tok Fb mixed func63 (by kernel_rfl) (fun _ _=>rfl) (fun _=>by kernel_rfl) fun⟨Y,Z⟩ r O=>by
 replace O:mf Y Z=some r:=O;apply aF rfl ntmps63 results63;simp only[gK];unfold mf at O;obtain⟨r1,U,O⟩:=ae O;try simp only[rR,seval,U]
 apply sp aO O<;>intro _ O
 ·cases O;try simp only[rR,seval,U]
 ·obtain⟨r3,X,O⟩:=ae O;cases O;try simp only[rR,seval,U,X]
def nB (l:Option (D×Row)) (d:List D):=dP (gX (aI .i64) (dL (T9 (eI .i64)))) (fun x:Int×Int=>mg x.1 x.2) (fun r:Bool =>.clean (.bool r)) l d
theorem adx {β:Type} {F:Int×Int->Option β} {R:β->RK} (O:Int) (U:Int):dP (gX (aI .i64) (dL (T9 (eI .i64)))) F R none [.int .i64 O,.ip [.int .i64 U]]=(F (O,U)).map fun r=>(R r,none):=cI _ _ _ (O,U)
def rq:Env:=(Am.ext bk 35 false ca)
theorem Fc:bF prog rq:=(bF.none.add iH false)
theorem Kb:type_of% (ai @w<|ai @A0<|ai @ca.eq_1<|@rq.eq_1):=⟨@w,@A0,@ca.eq_1,@rq.eq_1⟩
theorem Fh:bT prog 64 nB:=bT.gJ (mode := .clean) tok Fc mixed func64 (by kernel_rfl) (fun _ _=>rfl) (fun _=>by kernel_rfl) fun⟨X,Y⟩ r O=>by
 replace O:mg X Y=some r:=O;apply aF rfl ntmps64 results64;simp only[gK];unfold mg at O;obtain⟨Z,U,O⟩:=ae O;cases O;try simp only[Kb,seval,U]
def nc:=dP (dL (mG (eI .i64))) (fun x:(List Int)=>mE x) (fun r:(List Int) =>.clean (.clo 134 0 [.ip [.sl false false r.length (ab (eI .i64) r)]]))
theorem rY (O:(List Int)):nc none [.sl false false O.length (ab (eI .i64) O)]=(mE O).map fun r:(List Int)=>(.clean (.clo 134 0 [.ip [.sl false false r.length (ab (eI .i64) r)]]),none):=cI _ _ _ O
theorem yS:bT prog 102 nc:=Vq
def du:=dP (dL (IQ 134 0 (dL (T9 (jM (eI .i64)))))) (fun x:(List Int)=>cy x) (fun r:(List Int) =>.fresh 3 1 r.length (ab (eI .i64) r))
theorem fh (O:(List Int)):du none [.clo 134 0 [.ip [.sl false false O.length (ab (eI .i64) O)]]]=(cy O).map fun r:(List Int)=>(.fresh 3 1 r.length (ab (eI .i64) r),none):=cI _ _ _ O
theorem iR:bT prog 101 du:=U9
def mz (l:Option (D×Row)) (d:List D):=dP (gX (mG (eI .i64)) (dL (aI .i64))) (fun x:(List Int)×Int=>jd x.1 x.2) (fun r:Bool =>.clean (.bool r)) l d
def pU:Env:=(Am.ext (Am.ext bk 101 false du) 102 false nc)
theorem CY:bF prog pU:=((bF.none.add iR false).add yS false)
theorem ee:type_of% (ai @w<|ai @fh<|ai @rY<|@pU.eq_1):=⟨@w,@fh,@rY,@pU.eq_1⟩
theorem DT:bT prog 65 mz:=bT.gJ (mode := .clean) tok CY mixed func65 (by kernel_rfl) (fun _ _=>rfl) (fun _=>by kernel_rfl) fun⟨p0,p1⟩ r O=>by
 replace O:jd p0 p1=some r:=O;apply aF rfl ntmps65 results65;simp only[gK];unfold jd at O;obtain⟨r1,U,O⟩:=ae O;obtain⟨r2,X,O⟩:=ae O;try simp only[ee,seval,U,X]
 obtain⟨o6,ag,O⟩:=ae O;refine aC (fun s t H e=>match s with|ad=>∃Y:Nat,t 1=.int .i64 p1∧t 5=.buf 5 Y 1 0 (r2).length∧t 11=.buf 5 Y 1 0 (r2).length∧t 12=.int .i64 ((r2).length:Int)∧t 13=.int .i64 ad∧H 5=some ⟨Y,3,ab (eI .i64) r2,false,true,false⟩) (fun o x t H e=>match o with|(.inl _)=>x=.exit 0∧∃aa:Nat,t 1=.int .i64 p1∧t 5=.buf 5 aa 1 0 (r2).length∧H 5=some ⟨aa,3,ab (eI .i64) r2,false,true,false⟩|(.inr r)=>x=.ret∧fH .clean tab none [.tmp 4] ⟨t,EH H,e⟩=some (.clean (.bool r),none)) ag ?_ ?_ ?_
 ·refine⟨1,?_⟩;and_intros<;>first|rfl|(simp only[ee,seval,U,X]<;>rfl)
 ·rintro ad t H e ⟨Y,Za⟩ c O;simp only[lp]at O;try simp only[ee,seval,U,X,Za]
  apply sp aj O<;>intro _ O
  ·obtain⟨x8,ah,O⟩:=ae O;have Z:=bC (eI .i64) ah;simp only[bX]at Z;try simp only[ee,seval,U,X,Za,Z]
   apply sp aj O<;>intro _ O
   ·cases O;try simp only[ee,seval,U,X,Za,Z]
    refine rv ⟨rfl,?_⟩;try simp only[ee,seval,U,X,Za,Z]
   ·cases O;try simp only[ee,seval,U,X,Za,Z]
    apply iP;refine⟨Y,?_⟩;and_intros<;>first|rfl|(simp only[ee,seval,U,X,Za,Z]<;>rfl)
  ·cases O;try simp only[ee,seval,U,X,Za]
   apply jW;refine⟨rfl,⟨Y,?_⟩⟩;and_intros<;>first|rfl|(simp only[ee,seval,U,X,Za]<;>rfl)
 ·rintro x t H e hx;rcases o6 with _|ra
  ·dsimp only at hx O;obtain⟨rfl,⟨aa,ai⟩⟩:=hx;cases O;try simp only[ee,seval,U,X,ai]
  ·dsimp only at hx O;obtain⟨rfl,hE⟩:=hx;cases O;try simp only[bc,aX,bj,cJ,cG,cc,cd]
   exact hE
def da (l:Option (D×Row)) (d:List D):=dP (gX (mG fe) (dL (IQ 63 0 (dL (T9 (eI .i64)))))) (fun x:(List gN)×(Int)=>cA x.1 x.2) (fun r:Int =>.clean (.int .i64 r)) l d
theorem aak {β:Type} {F:(List gN)×(Int)->Option β} {R:β->RK} (U:(List gN)) (O:Int):dP (gX (mG fe) (dL (IQ 63 0 (dL (T9 (eI .i64)))))) F R none [.sl false false U.length (ab fe U),.clo 63 0 [.ip [.int .i64 O]]]=(F (U,(O))).map fun r=>(R r,none):=cI _ _ _ (U,(O))
def eD:Env:=(Am.ext bk 63 false nA)
theorem kv:bF prog eD:=(bF.none.add Fg false)
theorem aU:type_of% (ai @w<|ai @adw<|ai @nA.eq_1<|@eD.eq_1):=⟨@w,@adw,@nA.eq_1,@eD.eq_1⟩
theorem kz:bT prog 103 da:=bT.gJ (mode := .clean) tok kv mixed func103 (by kernel_rfl) (fun _ _=>rfl) (fun _=>by kernel_rfl) fun⟨p0,Y⟩ r O=>by
 replace O:cA p0 Y=some r:=O;apply aF rfl ntmps103 results103;simp only[gK];unfold cA at O;try simp only[aU,seval]
 obtain⟨o5,ad,O⟩:=ae O;refine aC (fun s t H e=>match s with|aa=>t 0=.sl false false p0.length (ab fe p0)∧t 1=.clo 63 0 [.ip [.int .i64 Y]]∧t 7=.int .i64 (p0.length:Int)∧t 8=.int .i64 aa) (fun o x t H e=>match o with|(.inl _)=>x=.exit 0|(.inr r)=>x=.ret∧fH .clean tab none [.tmp 4] ⟨t,EH H,e⟩=some (.clean (.int .i64 r),none)) ad ?_ ?_ ?_
 ·and_intros<;>first|rfl|(simp only[aU,seval]<;>rfl)
 ·rintro aa t H e Z c O;simp only[cU]at O;try simp only[aU,seval,Z]
  apply sp aj O<;>intro _ O
  ·obtain⟨x7,ag,O⟩:=ae O;have U:=bC fe ag;simp only[bX]at U;obtain⟨r8,X,O⟩:=ae O;try simp only[aU,seval,Z,U,X]
   apply sp aj O<;>intro _ O
   ·cases O;try simp only[aU,seval,Z,U,X]
    refine rv ⟨rfl,?_⟩;try simp only[aU,seval,Z,U,X]
   ·cases O;try simp only[aU,seval,Z,U,X]
    apply iP;and_intros<;>first|rfl|(simp only[aU,seval,Z,U,X]<;>rfl)
  ·cases O;try simp only[aU,seval,Z]
   apply jW;exact rfl
 ·rintro x t H e hx;rcases o5 with _|ra
  ·dsimp only at hx O;subst hx;cases O;try simp only[aU,seval]
  ·dsimp only at hx O;obtain⟨rfl,hE⟩:=hx;cases O;try simp only[bc,aX,bj,cJ,cG,cc,cd]
   exact hE
def cK (l:Option (D×Row)) (d:List D):=dP (gX (mG fe) (dL (IQ 63 0 (dL (T9 (eI .i64)))))) (fun x:(List gN)×(Int)=>bR x.1 x.2) (fun r:Bool =>.clean (.bool r)) l d
def dV:Env:=(Am.ext bk 103 false da)
theorem jR:bF prog dV:=(bF.none.add kz false)
theorem ka:type_of% (ai @w<|ai @aak<|ai @da.eq_1<|@dV.eq_1):=⟨@w,@aak,@da.eq_1,@dV.eq_1⟩
theorem jT:bT prog 66 cK:=bT.gJ (mode := .clean) tok jR mixed func66 (by kernel_rfl) (fun _ _=>rfl) (fun _=>by kernel_rfl) fun⟨Y,U⟩ r O=>by
 replace O:bR Y U=some r:=O;apply aF rfl ntmps66 results66;simp only[gK];unfold bR at O;obtain⟨Z,X,O⟩:=ae O;cases O;try simp only[ka,seval,X]
def db (l:Option (D×Row)) (d:List D):=dP (gX (mG (eI .i64)) (dL (IQ 64 0 (dL (T9 (eI .i64)))))) (fun x:(List Int)×(Int)=>cB x.1 x.2) (fun r:Int =>.clean (.int .i64 r)) l d
theorem aal {β:Type} {F:(List Int)×(Int)->Option β} {R:β->RK} (U:(List Int)) (O:Int):dP (gX (mG (eI .i64)) (dL (IQ 64 0 (dL (T9 (eI .i64)))))) F R none [.sl false false U.length (ab (eI .i64) U),.clo 64 0 [.ip [.int .i64 O]]]=(F (U,(O))).map fun r=>(R r,none):=cI _ _ _ (U,(O))
def eE:Env:=(Am.ext bk 64 false nB)
theorem kx:bF prog eE:=(bF.none.add Fh false)
theorem aV:type_of% (ai @w<|ai @adx<|ai @nB.eq_1<|@eE.eq_1):=⟨@w,@adx,@nB.eq_1,@eE.eq_1⟩
theorem kA:bT prog 104 db:=bT.gJ (mode := .clean) tok kx mixed func104 (by kernel_rfl) (fun _ _=>rfl) (fun _=>by kernel_rfl) fun⟨p0,Y⟩ r O=>by
 replace O:cB p0 Y=some r:=O;apply aF rfl ntmps104 results104;simp only[gK];unfold cB at O;try simp only[aV,seval]
 obtain⟨o5,ad,O⟩:=ae O;refine aC (fun s t H e=>match s with|aa=>t 0=.sl false false p0.length (ab (eI .i64) p0)∧t 1=.clo 64 0 [.ip [.int .i64 Y]]∧t 7=.int .i64 (p0.length:Int)∧t 8=.int .i64 aa) (fun o x t H e=>match o with|(.inl _)=>x=.exit 0|(.inr r)=>x=.ret∧fH .clean tab none [.tmp 4] ⟨t,EH H,e⟩=some (.clean (.int .i64 r),none)) ad ?_ ?_ ?_
 ·and_intros<;>first|rfl|(simp only[aV,seval]<;>rfl)
 ·rintro aa t H e Z c O;simp only[cV]at O;try simp only[aV,seval,Z]
  apply sp aj O<;>intro _ O
  ·obtain⟨x7,ag,O⟩:=ae O;have U:=bC (eI .i64) ag;simp only[bX]at U;obtain⟨r8,X,O⟩:=ae O;try simp only[aV,seval,Z,U,X]
   apply sp aj O<;>intro _ O
   ·cases O;try simp only[aV,seval,Z,U,X]
    refine rv ⟨rfl,?_⟩;try simp only[aV,seval,Z,U,X]
   ·cases O;try simp only[aV,seval,Z,U,X]
    apply iP;and_intros<;>first|rfl|(simp only[aV,seval,Z,U,X]<;>rfl)
  ·cases O;try simp only[aV,seval,Z]
   apply jW;exact rfl
 ·rintro x t H e hx;rcases o5 with _|ra
  ·dsimp only at hx O;subst hx;cases O;try simp only[aV,seval]
  ·dsimp only at hx O;obtain⟨rfl,hE⟩:=hx;cases O;try simp only[bc,aX,bj,cJ,cG,cc,cd]
   exact hE
def cL (l:Option (D×Row)) (d:List D):=dP (gX (mG (eI .i64)) (dL (IQ 64 0 (dL (T9 (eI .i64)))))) (fun x:(List Int)×(Int)=>bS x.1 x.2) (fun r:Bool =>.clean (.bool r)) l d
def dW:Env:=(Am.ext bk 104 false db)
theorem jS:bF prog dW:=(bF.none.add kA false)
theorem kb:type_of% (ai @w<|ai @aal<|ai @db.eq_1<|@dW.eq_1):=⟨@w,@aal,@db.eq_1,@dW.eq_1⟩
theorem jU:bT prog 67 cL:=bT.gJ (mode := .clean) tok jS mixed func67 (by kernel_rfl) (fun _ _=>rfl) (fun _=>by kernel_rfl) fun⟨Y,U⟩ r O=>by
 replace O:bS Y U=some r:=O;apply aF rfl ntmps67 results67;simp only[gK];unfold bS at O;obtain⟨Z,X,O⟩:=ae O;cases O;try simp only[kb,seval,X]
def qK (l:Option (D×Row)) (d:List D):=dP (gX (bt b6) (dL (aI .i64))) (fun x:bV×Int=>qt x.1 x.2) (fun r:Bool =>.clean (.bool r)) l d
theorem ady {β:Type} {F:bV×Int->Option β} {R:β->RK} (O:(List gn)) (U:(List sr)) (X:(List (List aw))) (Y:(List gN)) (Z:(List Int)) (p1:Int):dP (gX (bt b6) (dL (aI .i64))) F R none [.agg [.sl false false O.length (ab bg O),.sl false false U.length (ab dO U),.sl false false X.length (ab (jM aD) X),.sl false false Y.length (ab fe Y),.sl false false Z.length (ab (eI .i64) Z)],.int .i64 p1]=(F ((bV.mk (fJ.mk O U X) Y Z),p1)).map fun r=>(R r,none):=cI _ _ _ ((bV.mk (fJ.mk O U X) Y Z),p1)
def vP:Env:=(Am.ext (Am.ext (Am.ext (Am.ext bk 62 false kc) 65 false mz) 66 false cK) 67 false cL)
theorem L9:bF prog vP:=((((bF.none.add yR false).add DT false).add jT false).add jU false)
theorem bE:type_of% (ai @w<|ai @aaj<|ai @kc.eq_1<|ai @Vy<|ai @mz.eq_1<|ai @aak<|ai @cK.eq_1<|ai @aal<|ai @cL.eq_1<|@vP.eq_1):=⟨@w,@aaj,@kc.eq_1,@Vy,@mz.eq_1,@aak,@cK.eq_1,@aal,@cL.eq_1,@vP.eq_1⟩
theorem NU:bT prog 36 qK:=bT.gJ (mode := .clean) tok L9 mixed func36 (by kernel_rfl) (fun _ _=>rfl) (fun _=>by kernel_rfl) fun⟨X,p1⟩ r U=>by
 replace U:qt X p1=some r:=U;apply aF rfl ntmps36 results36;simp only[gK];unfold qt at U;obtain⟨r1,O,U⟩:=ae U;try simp only[bE,seval,O]
 apply sp aj U<;>intro _ U
 ·cases U;try simp only[bE,seval,O]
 ·try simp only[bE,seval,O]
  obtain⟨o8,bd,U⟩:=ae U;refine aC (fun s t H e=>match s with|(aP,aX)=>∃aq:Nat,∃ar:Nat,∃az:Nat,∃av:Nat,t 2=.ptr 2 aq 0∧t 3=.ptr 3 ar 0∧t 5=.buf 5 az 1 0 (aX).length∧t 6=.buf 6 av 1 0 0∧t 19=.sl false false X.au.ak.length (ab bg X.au.ak)∧t 20=.int .i64 (X.au.ak.length:Int)∧t 21=.int .i64 aP∧H 2=some ⟨aq,55,[.sl false false X.au.ak.length (ab bg X.au.ak),.sl false false X.au.aH.length (ab dO X.au.aH),.sl false false X.au.aB.length (ab (jM aD) X.au.aB),.sl false false X.aZ.length (ab fe X.aZ),.sl false false X.aA.length (ab (eI .i64) X.aA)],false,false,false⟩∧H 3=some ⟨ar,3,[.int .i64 p1],false,false,false⟩∧H 5=some ⟨az,3,ab (eI .i64) aX,false,true,false⟩∧H 6=some ⟨av,3,[],false,true,false⟩) (fun o x t H e=>match o with|Y=>x=.exit 0∧∃ai:Nat,∃al:Nat,∃an:Nat,∃ao:Nat,t 2=.ptr 2 ai 0∧t 3=.ptr 3 al 0∧t 5=.buf 5 an 1 0 (Y).length∧t 6=.buf 6 ao 1 0 0∧H 2=some ⟨ai,55,[.sl false false X.au.ak.length (ab bg X.au.ak),.sl false false X.au.aH.length (ab dO X.au.aH),.sl false false X.au.aB.length (ab (jM aD) X.au.aB),.sl false false X.aZ.length (ab fe X.aZ),.sl false false X.aA.length (ab (eI .i64) X.aA)],false,false,false⟩∧H 3=some ⟨al,3,[.int .i64 p1],false,false,false⟩∧H 5=some ⟨an,3,ab (eI .i64) Y,false,true,false⟩∧H 6=some ⟨ao,3,[],false,true,false⟩) bd ?_ ?_ ?_
  ·refine⟨0,0,2,2,?_⟩;and_intros<;>first|rfl|(simp only[bE,seval,O]<;>rfl)
  ·rintro⟨aP,aX⟩ t H e ⟨aq,ar,az,av,Za⟩ c U;simp only[kK]at U;try simp only[bE,seval,O,Za]
   apply sp aj U<;>intro _ U
   ·obtain⟨bh,a1,U⟩:=ae U;have aa:=bC bg a1;simp only[bX]at aa;try simp only[bE,seval,O,Za,aa]
    apply sp aj U<;>intro _ U
    ·obtain⟨bj,a6,U⟩:=ae U;obtain⟨aQ,aE,aR,aS⟩:=ir (eI .i64) a6;simp only[bX]at aE;cases U;try simp only[bE,seval,O,Za,aa,aQ,aE,aR,aS]
     apply iP;refine⟨aq,ar,e+1+1+1,av,?_⟩;and_intros<;>first|rfl|(simp only[bE,seval,O,Za,aa,aQ,aE,aR,aS]<;>rfl)
    ·cases U;try simp only[bE,seval,O,Za,aa]
     apply iP;refine⟨aq,ar,az,av,?_⟩;and_intros<;>first|rfl|(simp only[bE,seval,O,Za,aa]<;>rfl)
   ·cases U;try simp only[bE,seval,O,Za]
    apply jW;refine⟨rfl,⟨aq,ar,az,av,?_⟩⟩;and_intros<;>first|rfl|(simp only[bE,seval,O,Za]<;>rfl)
  ·rintro x t H e hx;obtain⟨Y,rfl⟩:∃z,z=o8:=⟨_,rfl⟩;dsimp only at hx U;obtain⟨rfl,⟨ai,al,an,ao,a7⟩⟩:=hx;try simp only[bE,seval,O,a7]
   obtain⟨bf,a8,U⟩:=ae U;refine aC (fun s t H e=>match s with|(aT,aY)=>∃aw:Nat,∃ax:Nat,∃ay:Nat,∃aG:Nat,t 2=.ptr 2 aw 0∧t 3=.ptr 3 ax 0∧t 5=.buf 5 ay 1 0 (Y).length∧t 6=.buf 6 aG 1 0 (aY).length∧t 36=.sl false false X.au.aH.length (ab dO X.au.aH)∧t 37=.int .i64 (X.au.aH.length:Int)∧t 38=.int .i64 aT∧H 2=some ⟨aw,55,[.sl false false X.au.ak.length (ab bg X.au.ak),.sl false false X.au.aH.length (ab dO X.au.aH),.sl false false X.au.aB.length (ab (jM aD) X.au.aB),.sl false false X.aZ.length (ab fe X.aZ),.sl false false X.aA.length (ab (eI .i64) X.aA)],false,false,false⟩∧H 3=some ⟨ax,3,[.int .i64 p1],false,false,false⟩∧H 5=some ⟨ay,3,ab (eI .i64) Y,false,true,false⟩∧H 6=some ⟨aG,3,ab (eI .i64) aY,false,true,false⟩) (fun o x t H e=>match o with|aI=>x=.exit 2∧∃aJ:Nat,∃aK:Nat,∃aL:Nat,∃aM:Nat,t 2=.ptr 2 aJ 0∧t 3=.ptr 3 aK 0∧t 5=.buf 5 aL 1 0 (Y).length∧t 6=.buf 6 aM 1 0 (aI).length∧H 2=some ⟨aJ,55,[.sl false false X.au.ak.length (ab bg X.au.ak),.sl false false X.au.aH.length (ab dO X.au.aH),.sl false false X.au.aB.length (ab (jM aD) X.au.aB),.sl false false X.aZ.length (ab fe X.aZ),.sl false false X.aA.length (ab (eI .i64) X.aA)],false,false,false⟩∧H 3=some ⟨aK,3,[.int .i64 p1],false,false,false⟩∧H 5=some ⟨aL,3,ab (eI .i64) Y,false,true,false⟩∧H 6=some ⟨aM,3,ab (eI .i64) aI,false,true,false⟩) a8 ?_ ?_ ?_
   ·refine⟨ai,al,an,ao,?_⟩;and_intros<;>first|rfl|(simp only[bE,seval,O,a7]<;>rfl)
   ·rintro⟨aT,aY⟩ t H e ⟨aw,ax,ay,aG,Zb⟩ c U;simp only[kL]at U;try simp only[bE,seval,O,Zb]
    apply sp aj U<;>intro _ U
    ·obtain⟨bk,ba,U⟩:=ae U;have ad:=bC dO ba;simp only[bX]at ad;try simp only[bE,seval,O,Zb,ad]
     apply sp aj U<;>intro _ U
     ·obtain⟨bl,bb,U⟩:=ae U;obtain⟨aU,aN,aV,aW⟩:=ir (eI .i64) bb;simp only[bX]at aN;cases U;try simp only[bE,seval,O,Zb,ad,aU,aN,aV,aW]
      apply iP;refine⟨aw,ax,ay,e+1+1+1,?_⟩;and_intros<;>first|rfl|(simp only[bE,seval,O,Zb,ad,aU,aN,aV,aW]<;>rfl)
     ·cases U;try simp only[bE,seval,O,Zb,ad]
      apply iP;refine⟨aw,ax,ay,aG,?_⟩;and_intros<;>first|rfl|(simp only[bE,seval,O,Zb,ad]<;>rfl)
    ·cases U;try simp only[bE,seval,O,Zb]
     apply jW;refine⟨rfl,⟨aw,ax,ay,aG,?_⟩⟩;and_intros<;>first|rfl|(simp only[bE,seval,O,Zb]<;>rfl)
   ·rintro x t H e hx;obtain⟨aI,rfl⟩:∃z,z=bf:=⟨_,rfl⟩;dsimp only at hx U;obtain⟨rfl,⟨aJ,aK,aL,aM,ah⟩⟩:=hx;obtain⟨bm,Z,U⟩:=ae U;try simp only[bE,seval,O,ah,Z]
    apply sp eW U<;>intro _ U
    ·obtain⟨bn,ag,U⟩:=ae U;try simp only[bE,seval,O,ah,Z,ag]
     apply sp eW U<;>intro _ U
     ·obtain⟨bo,aO,U⟩:=ae U;try simp only[bE,seval,O,ah,Z,ag,aO]
      apply sp eW U<;>intro _ U
      ·obtain⟨bp,bc,U⟩:=ae U;cases U;try simp only[bE,seval,O,ah,Z,ag,aO,bc]
      ·cases U;try simp only[bE,seval,O,ah,Z,ag,aO]
     ·cases U;try simp only[bE,seval,O,ah,Z,ag]
    ·cases U;try simp only[bE,seval,O,ah,Z]
def fQ (l:Option (D×Row)) (d:List D):=dP (dL (bt nJ)) (fun x:bA=>jt x) (fun r:Int×Int =>.clean (.tup [.int .i64 r.1,.int .i64 r.2])) l d
theorem U6 {β:Type} {F:bA->Option β} {R:β->RK} (O:(List Int)) (U:(List bV)):dP (dL (bt nJ)) F R none [.agg [.sl false false O.length (ab (eI .i64) O),.sl false false U.length (ab b6 U)]]=(F ((bA.mk O U))).map fun r=>(R r,none):=cI _ _ _ ((bA.mk O U))
def s5:Env:=(Am.ext (Am.ext bk 35 false ca) 36 false qK)
theorem Ji:bF prog s5:=((bF.none.add iH false).add NU false)
theorem ay:type_of% (ai @w<|ai @A0<|ai @ca.eq_1<|ai @ady<|ai @qK.eq_1<|@s5.eq_1):=⟨@w,@A0,@ca.eq_1,@ady,@qK.eq_1,@s5.eq_1⟩
theorem rC:bT prog 10 fQ:=bT.gJ (mode := .clean) tok Ji mixed func10 (by kernel_rfl) (fun _ _=>rfl) (fun _=>by kernel_rfl) fun p0 r hh=>by
 replace hh:jt p0=some r:=hh;apply aF rfl ntmps10 results10;simp only[gK];unfold jt at hh;try simp only[ay,seval]
 obtain⟨o1,cq,hh⟩:=ae hh;refine bz 0 (fun s t H e=>match s with|bh=>∃aQ:Nat,t 1=.ptr 1 aQ 0∧t 27=.bool bh∧H 1=some ⟨aQ,25,[.sl false false p0.ax.length (ab (eI .i64) p0.ax),.sl false false p0.ao.length (ab b6 p0.ao)],false,false,false⟩) (fun s=>s=o1) ?_ ?_
 ·rintro bh t H e ⟨aQ,bL⟩ rfl;try dsimp only at hh
  try simp only[ay,seval,bL]
  apply sp aj hh<;>intro _ hh
  ·cases hh;try simp only[ay,seval,bL]
  ·try simp only[ay,seval,bL]
   obtain⟨o7,cr,hh⟩:=ae hh;refine aC (fun s t H e=>match s with|bS=>∃bk:Nat,t 1=.ptr 1 bk 0∧t 29=.sl false false p0.ax.length (ab (eI .i64) p0.ax)∧t 30=.int .i64 (p0.ax.length:Int)∧t 31=.int .i64 bS∧H 1=some ⟨bk,25,[.sl false false p0.ax.length (ab (eI .i64) p0.ax),.sl false false p0.ao.length (ab b6 p0.ao)],false,false,false⟩) (fun o x t H e=>match o with|(.inl _)=>x=.exit 0∧∃aR:Nat,t 1=.ptr 1 aR 0∧H 1=some ⟨aR,25,[.sl false false p0.ax.length (ab (eI .i64) p0.ax),.sl false false p0.ao.length (ab b6 p0.ao)],false,false,false⟩|(.inr r)=>x=.ret∧fH .clean tab none [.tmp 2,.tmp 3] ⟨t,EH H,e⟩=some (.clean (.tup [.int .i64 r.1,.int .i64 r.2]),none)) cr ?_ ?_ ?_
   ·refine⟨aQ,?_⟩;and_intros<;>first|rfl|(simp only[ay,seval,bL]<;>rfl)
   ·rintro bS t H e ⟨bk,Zb⟩ c hh;simp only[ju]at hh;try simp only[ay,seval,Zb]
    apply sp aj hh<;>intro _ hh
    ·obtain⟨x9,ct,hh⟩:=ae hh;have bf:=bC (eI .i64) ct;simp only[bX]at bf;obtain⟨cz,aN,hh⟩:=ae hh;try simp only[ay,seval,Zb,bf,aN]
     apply sp aj hh<;>intro _ hh
     ·cases hh;try simp only[ay,seval,Zb,bf,aN]
      refine rv ⟨rfl,?_⟩;try simp only[ay,seval,Zb,bf,aN]
     ·cases hh;try simp only[ay,seval,Zb,bf,aN]
      apply iP;refine⟨bk,?_⟩;and_intros<;>first|rfl|(simp only[ay,seval,Zb,bf,aN]<;>rfl)
    ·cases hh;try simp only[ay,seval,Zb]
     apply jW;refine⟨rfl,⟨bk,?_⟩⟩;and_intros<;>first|rfl|(simp only[ay,seval,Zb]<;>rfl)
   ·rintro x t H e hx;rcases o7 with _|rb
    ·dsimp only at hx hh;obtain⟨rfl,⟨aR,bY⟩⟩:=hx;obtain⟨cA,bU,hh⟩:=ae hh;obtain⟨X,Y,Z,O,aa⟩:=mk_one (eI .i64) bU;simp only[bX]at O;obtain⟨ad,ag,ah,U,ai⟩:=mk_one (eI .i64) bU;simp only[bX]at U;try simp only[ay,seval,bY,X,Y,Z,O,aa,ad,ag,ah,U,ai]
     refine bH (by kernel_rfl) ?_;try simp only[ay,seval,bY,X,Y,Z,O,aa,ad,ag,ah,U,ai]
     obtain⟨cu,b3,hh⟩:=ae hh;refine aC (fun s t H e=>match s with|(aI,bZ,aP)=>∃bl:Nat,∃bm:Nat,∃bn:Nat,t 1=.ptr 1 bl 0∧t 6=.buf 6 bm 1 0 (bZ).length∧t 7=.buf 7 bn 1 0 (aP).length∧t 50=.sl false false p0.ao.length (ab b6 p0.ao)∧t 51=.int .i64 (p0.ao.length:Int)∧t 52=.int .i64 aI∧H 1=some ⟨bl,25,[.sl false false p0.ax.length (ab (eI .i64) p0.ax),.sl false false p0.ao.length (ab b6 p0.ao)],false,false,false⟩∧H 6=some ⟨bm,3,ab (eI .i64) bZ,false,true,false⟩∧H 7=some ⟨bn,3,ab (eI .i64) aP,false,true,false⟩) (fun o x t H e=>match o with|(.inl (aJ,av))=>x=.exit 2∧∃aS:Nat,∃aT:Nat,∃aU:Nat,t 1=.ptr 1 aS 0∧t 6=.buf 6 aT 1 0 (aJ).length∧t 7=.buf 7 aU 1 0 (av).length∧H 1=some ⟨aS,25,[.sl false false p0.ax.length (ab (eI .i64) p0.ax),.sl false false p0.ao.length (ab b6 p0.ao)],false,false,false⟩∧H 6=some ⟨aT,3,ab (eI .i64) aJ,false,true,false⟩∧H 7=some ⟨aU,3,ab (eI .i64) av,false,true,false⟩|(.inr r)=>x=.ret∧fH .clean tab none [.tmp 2,.tmp 3] ⟨t,EH H,e⟩=some (.clean (.tup [.int .i64 r.1,.int .i64 r.2]),none)) b3 ?_ ?_ ?_
     ·refine⟨aR,e,e,?_⟩;and_intros<;>first|rfl|(simp only[ay,seval,bY,X,Y,Z,O,aa,ad,ag,ah,U,ai]<;>rfl)
     ·rintro⟨aI,bZ,aP⟩ t H e ⟨bl,bm,bn,Zc⟩ c hh;simp only[iy]at hh;try simp only[ay,seval,X,Y,Z,O,aa,ad,ag,ah,U,ai,Zc]
      apply sp aj hh<;>intro _ hh
      ·obtain⟨ar,b4,hh⟩:=ae hh;have an:=bC b6 b4;simp only[bX]at an;obtain⟨cB,aq,hh⟩:=ae hh;try simp only[ay,seval,X,Y,Z,O,aa,ad,ag,ah,U,ai,Zc,an,aq]
       apply sp aj hh<;>intro _ hh
       ·cases hh;try simp only[ay,seval,X,Y,Z,O,aa,ad,ag,ah,U,ai,Zc,an,aq]
        refine rv ⟨rfl,?_⟩;try simp only[ay,seval,X,Y,Z,O,aa,ad,ag,ah,U,ai,Zc,an,aq]
       ·try simp only[ay,seval,X,Y,Z,O,aa,ad,ag,ah,U,ai,Zc,an,aq]
        obtain⟨cv,b5,hh⟩:=ae hh;refine aC (fun s t H e=>match s with|(bV,b1)=>∃bo:Nat,∃bp:Nat,∃bq:Nat,∃br:Nat,t 1=.ptr 1 bo 0∧t 6=.buf 6 bp 1 0 (b1).length∧t 7=.buf 7 bq 1 0 (aP).length∧t 9=.ptr 9 br 0∧t 50=.sl false false p0.ao.length (ab b6 p0.ao)∧t 51=.int .i64 (p0.ao.length:Int)∧t 52=.int .i64 aI∧t 65=.sl false false ar.aA.length (ab (eI .i64) ar.aA)∧t 66=.int .i64 (ar.aA.length:Int)∧t 67=.int .i64 bV∧H 1=some ⟨bo,25,[.sl false false p0.ax.length (ab (eI .i64) p0.ax),.sl false false p0.ao.length (ab b6 p0.ao)],false,false,false⟩∧H 6=some ⟨bp,3,ab (eI .i64) b1,false,true,false⟩∧H 7=some ⟨bq,3,ab (eI .i64) aP,false,true,false⟩∧H 9=some ⟨br,55,[.sl false false ar.au.ak.length (ab bg ar.au.ak),.sl false false ar.au.aH.length (ab dO ar.au.aH),.sl false false ar.au.aB.length (ab (jM aD) ar.au.aB),.sl false false ar.aZ.length (ab fe ar.aZ),.sl false false ar.aA.length (ab (eI .i64) ar.aA)],false,false,false⟩) (fun o x t H e=>match o with|aE=>x=.exit 4∧∃aV:Nat,∃aW:Nat,∃aY:Nat,∃bs:Nat,t 1=.ptr 1 aV 0∧t 6=.buf 6 aW 1 0 (aE).length∧t 7=.buf 7 aY 1 0 (aP).length∧t 9=.ptr 9 bs 0∧t 50=.sl false false p0.ao.length (ab b6 p0.ao)∧t 51=.int .i64 (p0.ao.length:Int)∧t 52=.int .i64 aI∧H 1=some ⟨aV,25,[.sl false false p0.ax.length (ab (eI .i64) p0.ax),.sl false false p0.ao.length (ab b6 p0.ao)],false,false,false⟩∧H 6=some ⟨aW,3,ab (eI .i64) aE,false,true,false⟩∧H 7=some ⟨aY,3,ab (eI .i64) aP,false,true,false⟩∧H 9=some ⟨bs,55,[.sl false false ar.au.ak.length (ab bg ar.au.ak),.sl false false ar.au.aH.length (ab dO ar.au.aH),.sl false false ar.au.aB.length (ab (jM aD) ar.au.aB),.sl false false ar.aZ.length (ab fe ar.aZ),.sl false false ar.aA.length (ab (eI .i64) ar.aA)],false,false,false⟩) b5 ?_ ?_ ?_
        ·refine⟨bl,bm,bn,e+1,?_⟩;and_intros<;>first|rfl|(simp only[ay,seval,X,Y,Z,O,aa,ad,ag,ah,U,ai,Zc,an,aq]<;>rfl)
        ·rintro⟨bV,b1⟩ t H e ⟨bo,bp,bq,br,Zf⟩ c hh;simp only[jv]at hh;try simp only[ay,seval,X,Y,Z,O,aa,ad,ag,ah,U,ai,an,aq,Zf]
         apply sp aj hh<;>intro _ hh
         ·obtain⟨cC,b7,hh⟩:=ae hh;have bt:=bC (eI .i64) b7;simp only[bX]at bt;obtain⟨b8,bu,hh⟩:=ae hh;have aG:=bC (eI .i64) bu;simp only[bX]at aG;have aG:=bC (eI .i64) bu;simp only[bX]at aG;have bM:=fP (eI .i64) (x':=IntKind.i64.wrap (b8+1)) (fo:=0) (cs:=[.int .i64 (IntKind.i64.wrap (b8+1))]) bu rfl (ahr rfl);simp only[bX,Nat.add_zero]at bM;have bw:=bM;simp only[putCells,List.length_cons,List.length_nil,agt,Nat.reduceAdd]at bw;cases hh;try simp only[ay,seval,X,Y,Z,O,aa,ad,ag,ah,U,ai,an,aq,Zf,bt,aG,aG,bM,bw]
          apply iP;refine⟨bo,bp,bq,br,?_⟩;and_intros<;>first|rfl|(simp only[ay,seval,X,Y,Z,O,aa,ad,ag,ah,U,ai,an,aq,Zf,bt,aG,aG,bM,bw]<;>rfl)
         ·cases hh;try simp only[ay,seval,X,Y,Z,O,aa,ad,ag,ah,U,ai,an,aq,Zf]
          apply jW;refine⟨rfl,⟨bo,bp,bq,br,?_⟩⟩;and_intros<;>first|rfl|(simp only[ay,seval,X,Y,Z,O,aa,ad,ag,ah,U,ai,an,aq,Zf]<;>rfl)
        ·rintro x t H e hx;obtain⟨aE,rfl⟩:∃z,z=cv:=⟨_,rfl⟩;dsimp only at hx hh;obtain⟨rfl,⟨aV,aW,aY,bs,b9⟩⟩:=hx;try simp only[ay,seval,X,Y,Z,O,aa,ad,ag,ah,U,ai,an,aq,b9]
         obtain⟨cw,ca,hh⟩:=ae hh;refine aC (fun s t H e=>match s with|(bW,b2)=>∃bx:Nat,∃bA:Nat,∃bB:Nat,t 1=.ptr 1 bx 0∧t 6=.buf 6 bA 1 0 (aE).length∧t 7=.buf 7 bB 1 0 (b2).length∧t 50=.sl false false p0.ao.length (ab b6 p0.ao)∧t 51=.int .i64 (p0.ao.length:Int)∧t 52=.int .i64 aI∧t 79=.sl false false ar.aZ.length (ab fe ar.aZ)∧t 80=.int .i64 (ar.aZ.length:Int)∧t 81=.int .i64 bW∧H 1=some ⟨bx,25,[.sl false false p0.ax.length (ab (eI .i64) p0.ax),.sl false false p0.ao.length (ab b6 p0.ao)],false,false,false⟩∧H 6=some ⟨bA,3,ab (eI .i64) aE,false,true,false⟩∧H 7=some ⟨bB,3,ab (eI .i64) b2,false,true,false⟩) (fun o x t H e=>match o with|bD=>x=.exit 6∧∃a1:Nat,∃a6:Nat,∃a7:Nat,t 1=.ptr 1 a1 0∧t 6=.buf 6 a6 1 0 (aE).length∧t 7=.buf 7 a7 1 0 (bD).length∧t 50=.sl false false p0.ao.length (ab b6 p0.ao)∧t 51=.int .i64 (p0.ao.length:Int)∧t 52=.int .i64 aI∧H 1=some ⟨a1,25,[.sl false false p0.ax.length (ab (eI .i64) p0.ax),.sl false false p0.ao.length (ab b6 p0.ao)],false,false,false⟩∧H 6=some ⟨a6,3,ab (eI .i64) aE,false,true,false⟩∧H 7=some ⟨a7,3,ab (eI .i64) bD,false,true,false⟩) ca ?_ ?_ ?_
         ·refine⟨aV,aW,aY,?_⟩;and_intros<;>first|rfl|(simp only[ay,seval,X,Y,Z,O,aa,ad,ag,ah,U,ai,an,aq,b9]<;>rfl)
         ·rintro⟨bW,b2⟩ t H e ⟨bx,bA,bB,Zg⟩ c hh;simp only[jw]at hh;try simp only[ay,seval,X,Y,Z,O,aa,ad,ag,ah,U,ai,an,aq,Zg]
          apply sp aj hh<;>intro _ hh
          ·obtain⟨bN,cb,hh⟩:=ae hh;have a8:=bC fe cb;simp only[bX]at a8;obtain⟨bO,bE,hh⟩:=ae hh;have aw:=bC (eI .i64) bE;simp only[bX]at aw;have aw:=bC (eI .i64) bE;simp only[bX]at aw;have bF:=fP (eI .i64) (x':=(if 1099511627777<(IntKind.i64.wrap (bO+bN.aL)) then 1099511627777 else IntKind.i64.wrap (bO+bN.aL))) (fo:=0) (cs:=[.int .i64 (if 1099511627777<(IntKind.i64.wrap (bO+bN.aL)) then 1099511627777 else IntKind.i64.wrap (bO+bN.aL))]) bE rfl (ahr rfl);simp only[bX,Nat.add_zero]at bF;have ba:=bF;simp only[putCells,List.length_cons,List.length_nil,agt,Nat.reduceAdd]at ba;try simp only[ay,seval,X,Y,Z,O,aa,ad,ag,ah,U,ai,an,aq,Zg,a8,aw,aw,bF,ba]
           refine bH (by kernel_rfl) ?_;cases hh;try simp only[ay,seval,X,Y,Z,O,aa,ad,ag,ah,U,ai,an,aq,Zg,a8,aw,aw,bF,ba]
           apply iP;refine⟨bx,bA,bB,?_⟩;and_intros<;>first|rfl|(simp only[ay,seval,X,Y,Z,O,aa,ad,ag,ah,U,ai,an,aq,Zg,a8,aw,aw,bF,ba]<;>rfl)
          ·cases hh;try simp only[ay,seval,X,Y,Z,O,aa,ad,ag,ah,U,ai,an,aq,Zg]
           apply jW;refine⟨rfl,⟨bx,bA,bB,?_⟩⟩;and_intros<;>first|rfl|(simp only[ay,seval,X,Y,Z,O,aa,ad,ag,ah,U,ai,an,aq,Zg]<;>rfl)
         ·rintro x t H e hx;obtain⟨bD,rfl⟩:∃z,z=cw:=⟨_,rfl⟩;dsimp only at hx hh;obtain⟨rfl,⟨a1,a6,a7,cf⟩⟩:=hx;cases hh;try simp only[ay,seval,X,Y,Z,O,aa,ad,ag,ah,U,ai,an,aq,cf]
          apply iP;refine⟨a1,a6,a7,?_⟩;and_intros<;>first|rfl|(simp only[ay,seval,X,Y,Z,O,aa,ad,ag,ah,U,ai,an,aq,cf]<;>rfl)
      ·cases hh;try simp only[ay,seval,X,Y,Z,O,aa,ad,ag,ah,U,ai,Zc]
       apply jW;refine⟨rfl,⟨bl,bm,bn,?_⟩⟩;and_intros<;>first|rfl|(simp only[ay,seval,X,Y,Z,O,aa,ad,ag,ah,U,ai,Zc]<;>rfl)
     ·rintro x t H e hx;rcases cu with⟨aJ,av⟩|rc
      ·dsimp only at hx hh;obtain⟨rfl,⟨aS,aT,aU,cg⟩⟩:=hx;try simp only[ay,seval,X,Y,Z,O,aa,ad,ag,ah,U,ai,cg]
       obtain⟨cx,ch,hh⟩:=ae hh;refine aC (fun s t H e=>match s with|bG=>∃bI:Nat,∃bP:Nat,∃bJ:Nat,t 1=.ptr 1 bI 0∧t 7=.buf 7 bJ 1 0 (av).length∧t 100=.buf 6 bP 1 0 (aJ).length∧t 101=.int .i64 ((aJ).length:Int)∧t 102=.int .i64 bG∧H 1=some ⟨bI,25,[.sl false false p0.ax.length (ab (eI .i64) p0.ax),.sl false false p0.ao.length (ab b6 p0.ao)],false,false,false⟩∧H 6=some ⟨bP,3,ab (eI .i64) aJ,false,true,false⟩∧H 7=some ⟨bJ,3,ab (eI .i64) av,false,true,false⟩) (fun o x t H e=>match o with|(.inl _)=>x=.exit 8∧∃bb:Nat,∃bd:Nat,t 1=.ptr 1 bb 0∧t 7=.buf 7 bd 1 0 (av).length∧H 1=some ⟨bb,25,[.sl false false p0.ax.length (ab (eI .i64) p0.ax),.sl false false p0.ao.length (ab b6 p0.ao)],false,false,false⟩∧H 7=some ⟨bd,3,ab (eI .i64) av,false,true,false⟩|(.inr r)=>x=.ret∧fH .clean tab none [.tmp 2,.tmp 3] ⟨t,EH H,e⟩=some (.clean (.tup [.int .i64 r.1,.int .i64 r.2]),none)) ch ?_ ?_ ?_
       ·refine⟨aS,aT,aU,?_⟩;and_intros<;>first|rfl|(simp only[ay,seval,X,Y,Z,O,aa,ad,ag,ah,U,ai,cg]<;>rfl)
       ·rintro bG t H e ⟨bI,bP,bJ,Zh⟩ c hh;simp only[jx]at hh;try simp only[ay,seval,X,Y,Z,O,aa,ad,ag,ah,U,ai,Zh]
        apply sp aj hh<;>intro _ hh
        ·obtain⟨cD,cj,hh⟩:=ae hh;have az:=bC (eI .i64) cj;simp only[bX]at az;try simp only[ay,seval,X,Y,Z,O,aa,ad,ag,ah,U,ai,Zh,az]
         apply sp aj hh<;>intro _ hh
         ·cases hh;try simp only[ay,seval,X,Y,Z,O,aa,ad,ag,ah,U,ai,Zh,az]
          refine rv ⟨rfl,?_⟩;try simp only[ay,seval,X,Y,Z,O,aa,ad,ag,ah,U,ai,Zh,az]
         ·try simp only[ay,seval,X,Y,Z,O,aa,ad,ag,ah,U,ai,Zh,az]
          apply sp aj hh<;>intro _ hh
          ·cases hh;try simp only[ay,seval,X,Y,Z,O,aa,ad,ag,ah,U,ai,Zh,az]
           refine rv ⟨rfl,?_⟩;try simp only[ay,seval,X,Y,Z,O,aa,ad,ag,ah,U,ai,Zh,az]
          ·cases hh;try simp only[ay,seval,X,Y,Z,O,aa,ad,ag,ah,U,ai,Zh,az]
           apply iP;refine⟨bI,bP,bJ,?_⟩;and_intros<;>first|rfl|(simp only[ay,seval,X,Y,Z,O,aa,ad,ag,ah,U,ai,Zh,az]<;>rfl)
        ·cases hh;try simp only[ay,seval,X,Y,Z,O,aa,ad,ag,ah,U,ai,Zh]
         apply jW;refine⟨rfl,⟨bI,bJ,?_⟩⟩;and_intros<;>first|rfl|(simp only[ay,seval,X,Y,Z,O,aa,ad,ag,ah,U,ai,Zh]<;>rfl)
       ·rintro x t H e hx;rcases cx with _|rh
        ·dsimp only at hx hh;obtain⟨rfl,⟨bb,bd,ck⟩⟩:=hx;try simp only[ay,seval,X,Y,Z,O,aa,ad,ag,ah,U,ai,ck]
         obtain⟨cy,cm,hh⟩:=ae hh;refine aC (fun s t H e=>match s with|bK=>∃bQ:Nat,∃bR:Nat,t 1=.ptr 1 bQ 0∧t 116=.buf 7 bR 1 0 (av).length∧t 117=.int .i64 ((av).length:Int)∧t 118=.int .i64 bK∧H 1=some ⟨bQ,25,[.sl false false p0.ax.length (ab (eI .i64) p0.ax),.sl false false p0.ao.length (ab b6 p0.ao)],false,false,false⟩∧H 7=some ⟨bR,3,ab (eI .i64) av,false,true,false⟩) (fun o x t H e=>match o with|(.inl _)=>x=.exit 11|(.inr r)=>x=.ret∧fH .clean tab none [.tmp 2,.tmp 3] ⟨t,EH H,e⟩=some (.clean (.tup [.int .i64 r.1,.int .i64 r.2]),none)) cm ?_ ?_ ?_
         ·refine⟨bb,bd,?_⟩;and_intros<;>first|rfl|(simp only[ay,seval,X,Y,Z,O,aa,ad,ag,ah,U,ai,ck]<;>rfl)
         ·rintro bK t H e ⟨bQ,bR,Zi⟩ c hh;simp only[jy]at hh;try simp only[ay,seval,X,Y,Z,O,aa,ad,ag,ah,U,ai,Zi]
          apply sp aj hh<;>intro _ hh
          ·obtain⟨cE,cn,hh⟩:=ae hh;have aK:=bC (eI .i64) cn;simp only[bX]at aK;obtain⟨cF,cp,hh⟩:=ae hh;have aM:=bC (eI .i64) cp;simp only[bX]at aM;try simp only[ay,seval,X,Y,Z,O,aa,ad,ag,ah,U,ai,Zi,aK,aM]
           apply sp aj hh<;>intro _ hh
           ·cases hh;try simp only[ay,seval,X,Y,Z,O,aa,ad,ag,ah,U,ai,Zi,aK,aM]
            refine rv ⟨rfl,?_⟩;try simp only[ay,seval,X,Y,Z,O,aa,ad,ag,ah,U,ai,Zi,aK,aM]
           ·cases hh;try simp only[ay,seval,X,Y,Z,O,aa,ad,ag,ah,U,ai,Zi,aK,aM]
            apply iP;refine⟨bQ,bR,?_⟩;and_intros<;>first|rfl|(simp only[ay,seval,X,Y,Z,O,aa,ad,ag,ah,U,ai,Zi,aK,aM]<;>rfl)
          ·cases hh;try simp only[ay,seval,X,Y,Z,O,aa,ad,ag,ah,U,ai,Zi]
           apply jW;exact rfl
         ·rintro x t H e hx;rcases cy with _|ri
          ·dsimp only at hx hh;subst hx;cases hh;try simp only[ay,seval,X,Y,Z,O,aa,ad,ag,ah,U,ai]
          ·dsimp only at hx hh;obtain⟨rfl,hE⟩:=hx;cases hh;try simp only[bc,aX,bj,cJ,cG,cc,cd]
           exact hE
        ·dsimp only at hx hh;obtain⟨rfl,hE⟩:=hx;cases hh;try simp only[bc,aX,bj,cJ,cG,cc,cd]
         exact hE
      ·dsimp only at hx hh;obtain⟨rfl,hE⟩:=hx;cases hh;try simp only[bc,aX,bj,cJ,cG,cc,cd]
       exact hE
    ·dsimp only at hx hh;obtain⟨rfl,hE⟩:=hx;cases hh;try simp only[bc,aX,bj,cJ,cG,cc,cd]
     exact hE
 ·clear hh;have hh:=cq;try simp only[ay,seval]
  apply sp aO hh<;>intro _ hh
  ·cases hh;try simp only[ay,seval]
   rw[al];refine⟨_,rfl,?_⟩;refine⟨0,?_⟩;and_intros<;>first|rfl|(simp only[ay,seval]<;>rfl)
  ·cases hh;try simp only[ay,seval]
   rw[al];refine⟨_,rfl,?_⟩;refine⟨0,?_⟩;and_intros<;>first|rfl|(simp only[ay,seval]<;>rfl)
def tM (l:Option (D×Row)) (d:List D):=dP (gX (aI .i64) (dL (aI .i64))) (fun x:Int×Int=>uo x.1 x.2) (fun r:aw×Int =>.clean (.tup [.agg [.int .i64 r.1.cD.ah,.sl false false r.1.cD.aa.length (ab (eI .i64) r.1.cD.aa),.int .i64 r.1.cw.ah,.sl false false r.1.cw.aa.length (ab (eI .i64) r.1.cw.aa)],.int .i64 r.2])) l d
def yw:Env:=(Am.ext (Am.ext bk 58 false gL) 107 false n5)
theorem PZ:bF prog yw:=((bF.none.add tv false).add HC false)
theorem Vu:type_of% (ai @w<|ai @xX<|ai @gL.eq_1<|ai @Kc<|ai @n5.eq_1<|@yw.eq_1):=⟨@w,@xX,@gL.eq_1,@Kc,@n5.eq_1,@yw.eq_1⟩
theorem Qr:bT prog 71 tM:=bT.gJ (mode := .clean) tok PZ mixed func71 (by kernel_rfl) (fun _ _=>rfl) (fun _=>by kernel_rfl) fun⟨Z,p1⟩ r O=>by
 replace O:uo Z p1=some r:=O;apply aF rfl ntmps71 results71;simp only[gK];unfold uo at O;obtain⟨r1,U,O⟩:=ae O;obtain⟨r2,X,O⟩:=ae O;obtain⟨r3,Y,O⟩:=ae O;cases O;try simp only[Vu,seval,U,X,Y]
def qE (l:Option (D×Row)) (d:List D):=dP (gX (bt aD) (dL (bt aD))) (fun x:aw×aw=>ql x.1 x.2) (fun r:aw×Int =>.clean (.tup [.agg [.int .i64 r.1.cD.ah,.sl false false r.1.cD.aa.length (ab (eI .i64) r.1.cD.aa),.int .i64 r.1.cw.ah,.sl false false r.1.cw.aa.length (ab (eI .i64) r.1.cw.aa)],.int .i64 r.2])) l d
def vH:Env:=(Am.ext (Am.ext (Am.ext bk 47 false bJ) 57 false fi) 58 false gL)
theorem L2:bF prog vH:=(((bF.none.add gS false).add pY false).add tv false)
theorem gT:type_of% (ai @w<|ai @Bk<|ai @bJ.eq_1<|ai @xX<|ai @fi.eq_1<|ai @gL.eq_1<|@vH.eq_1):=⟨@w,@Bk,@bJ.eq_1,@xX,@fi.eq_1,@gL.eq_1,@vH.eq_1⟩
theorem NO:bT prog 29 qE:=bT.gJ (mode := .clean) tok L2 mixed func29 (by kernel_rfl) (fun _ _=>rfl) (fun _=>by kernel_rfl) fun⟨p0,p1⟩ r O=>by
 replace O:ql p0 p1=some r:=O;apply aF rfl ntmps29 results29;simp only[gK];unfold ql at O;obtain⟨r1,U,O⟩:=ae O;try simp only[gT,seval,U]
 obtain⟨o2,aq,O⟩:=ae O;refine bz 0 (fun s t H e=>match s with|X=>∃Y:Nat,∃Z:Nat,∃ad:Nat,t 2=.ptr 2 Y 0∧t 3=.ptr 3 Z 0∧t 4=.ptr 4 ad 0∧t 13=.bool X∧H 2=some ⟨Y,42,[.int .i64 p0.cD.ah,.sl false false p0.cD.aa.length (ab (eI .i64) p0.cD.aa),.int .i64 p0.cw.ah,.sl false false p0.cw.aa.length (ab (eI .i64) p0.cw.aa)],false,false,false⟩∧H 3=some ⟨Z,42,[.int .i64 p1.cD.ah,.sl false false p1.cD.aa.length (ab (eI .i64) p1.cD.aa),.int .i64 p1.cw.ah,.sl false false p1.cw.aa.length (ab (eI .i64) p1.cw.aa)],false,false,false⟩∧H 4=some ⟨ad,42,[.int .i64 0,.sl true true 0 [],.int .i64 0,.sl true true 0 []],false,false,false⟩) (fun s=>s=o2) ?_ ?_
 ·rintro X t H e ⟨Y,Z,ad,ag⟩ rfl;try dsimp only at O
  try simp only[gT,seval,U,ag]
  apply sp aj O<;>intro _ O
  ·cases O;try simp only[gT,seval,U,ag]
  ·obtain⟨r4,ai,O⟩:=ae O;obtain⟨r5,ak,O⟩:=ae O;obtain⟨r6,an,O⟩:=ae O;try simp only[gT,seval,U,ag,ai,ak,an]
   refine bH (by kernel_rfl) ?_;cases O;try simp only[gT,seval,U,ag,ai,ak,an]
 ·clear O;have O:=aq;try simp only[gT,seval,U]
  apply sp aO O<;>intro _ O
  ·cases O;try simp only[gT,seval,U]
   rw[al];refine⟨_,rfl,?_⟩;refine⟨0,0,0,?_⟩;and_intros<;>first|rfl|(simp only[gT,seval,U]<;>rfl)
  ·obtain⟨r8,ao,O⟩:=ae O;cases O;try simp only[gT,seval,U,ao]
   rw[al];refine⟨_,rfl,?_⟩;refine⟨0,0,0,?_⟩;and_intros<;>first|rfl|(simp only[gT,seval,U,ao]<;>rfl)
def mZ:=mkM 74 (bt aD) (gX (mG (eI .i64)) (dL (bt b6))) (fun (l:(List ((Int×Int)×aw))) (x:(List Int)×bV)=>gR l x.1 x.2) (fun r:Unit =>.clean (.tup []))
theorem AY (p0:(List ((Int×Int)×aw))) (p1:(List Int)) (O:(List gn)) (U:(List sr)) (X:(List (List aw))) (Y:(List gN)) (Z:(List Int)):mZ (some (.mp 0 0,⟨0,74,[.mpc (dC p0) (fu (bt aD) p0)],false,true,true⟩)) [.sl false false p1.length (ab (eI .i64) p1),.agg [.sl false false O.length (ab bg O),.sl false false U.length (ab dO U),.sl false false X.length (ab (jM aD) X),.sl false false Y.length (ab fe Y),.sl false false Z.length (ab (eI .i64) Z)]]=(gR p0 p1 (bV.mk (fJ.mk O U X) Y Z)).map fun r=>(.clean (.tup []),some ⟨0,74,[.mpc (dC r.1) (fu (bt aD) r.1)],false,true,true⟩):=ab3 _ _ _ _ _ p0 (p1,(bV.mk (fJ.mk O U X) Y Z))
def kh:Env:=(Am.ext (Am.ext (Am.ext (Am.ext bk 29 false qE) 48 false dh) 71 false tM) 72 false lN)
theorem yI:bF prog kh:=((((bF.none.add NO false).add lq false).add Qr false).add DS false)
theorem aJ:type_of% (ai @w<|ai @uT<|ai @qE.eq_1<|ai @Bk<|ai @dh.eq_1<|ai @Vz<|ai @tM.eq_1<|ai @lN.eq_1<|@kh.eq_1):=⟨@w,@uT,@qE.eq_1,@Bk,@dh.eq_1,@Vz,@tM.eq_1,@lN.eq_1,@kh.eq_1⟩
theorem AP (p0:(List ((Int×Int)×aw))) (p1:(List Int)) (Z:bV) (r:(List ((Int×Int)×aw))×(Unit)) (hh:gR p0 p1 Z=some r):jO .clean tab kh FU Tryz.f41 (some (.mp 0 0,⟨0,74,[.mpc (dC p0) (fu (bt aD) p0)],false,true,true⟩)) [.sl false false p1.length (ab (eI .i64) p1),.agg [.sl false false Z.au.ak.length (ab bg Z.au.ak),.sl false false Z.au.aH.length (ab dO Z.au.aH),.sl false false Z.au.aB.length (ab (jM aD) Z.au.aB),.sl false false Z.aZ.length (ab fe Z.aZ),.sl false false Z.aA.length (ab (eI .i64) Z.aA)]]=some (.clean (.tup []),some ⟨0,74,[.mpc (dC r.1) (fu (bt aD) r.1)],false,true,true⟩):=by
 apply O2 rfl ntmps41 results41;unfold gR at hh;try simp only[aJ,seval]
 obtain⟨bo,a6,hh⟩:=ae hh;refine aC (fun s t H e=>match s with|(an,a1)=>∃aK:Nat,t 0=.mp 0 0∧t 1=.sl false false p1.length (ab (eI .i64) p1)∧t 5=.ptr 5 aK 0∧t 20=.sl false false Z.au.ak.length (ab bg Z.au.ak)∧t 21=.int .i64 (Z.au.ak.length:Int)∧t 22=.int .i64 an∧H 0=some ⟨0,74,[.mpc (dC a1) (fu (bt aD) a1)],false,true,true⟩∧H 5=some ⟨aK,55,[.sl false false Z.au.ak.length (ab bg Z.au.ak),.sl false false Z.au.aH.length (ab dO Z.au.aH),.sl false false Z.au.aB.length (ab (jM aD) Z.au.aB),.sl false false Z.aZ.length (ab fe Z.aZ),.sl false false Z.aA.length (ab (eI .i64) Z.aA)],false,false,false⟩) (fun o x t H e=>match o with|aM=>x=.exit 0∧t 0=.mp 0 0∧H 0=some ⟨0,74,[.mpc (dC aM) (fu (bt aD) aM)],false,true,true⟩) a6 ?_ ?_ ?_
 ·refine⟨1,?_⟩;and_intros<;>first|rfl|(simp only[aJ,seval]<;>rfl)
 ·rintro⟨an,a1⟩ t H e ⟨aK,Za⟩ c hh;simp only[ic]at hh;try simp only[aJ,seval,Za]
  apply sp aj hh<;>intro _ hh
  ·obtain⟨bs,a8,hh⟩:=ae hh;have O:=bC bg a8;simp only[bX]at O;try simp only[aJ,seval,Za,O]
   apply sp aj hh<;>intro _ hh
   ·cases hh;try simp only[aJ,seval,Za,O]
    apply iP;refine⟨aK,?_⟩;and_intros<;>first|rfl|(simp only[aJ,seval,Za,O]<;>rfl)
   ·obtain⟨aV,ba,hh⟩:=ae hh;have U:=bC fe ba;simp only[bX]at U;obtain⟨bw,bb,hh⟩:=ae hh;have X:=bC (eI .i64) bb;simp only[bX]at X;obtain⟨ai,Y,hh⟩:=ae hh;try simp only[aJ,seval,Za,O,U,X,Y]
    refine bH (by kernel_rfl) ?_;try simp only[aJ,seval,Za,O,U,X,Y]
    obtain⟨bp,bc,hh⟩:=ae hh;refine aC (fun s t H e=>match s with|(aF,aN)=>∃aI:Nat,∃aP:Nat,∃aQ:Nat,t 0=.mp 0 0∧t 1=.sl false false p1.length (ab (eI .i64) p1)∧t 5=.ptr 5 aI 0∧t 6=.int .i64 an∧t 8=.ptr 8 aP 0∧t 9=.ptr 9 aQ 0∧t 20=.sl false false Z.au.ak.length (ab bg Z.au.ak)∧t 21=.int .i64 (Z.au.ak.length:Int)∧t 22=.int .i64 an∧t 49=.sl false false Z.au.aH.length (ab dO Z.au.aH)∧t 50=.int .i64 (Z.au.aH.length:Int)∧t 51=.int .i64 aF∧H 0=some ⟨0,74,[.mpc (dC aN) (fu (bt aD) aN)],false,true,true⟩∧H 5=some ⟨aI,55,[.sl false false Z.au.ak.length (ab bg Z.au.ak),.sl false false Z.au.aH.length (ab dO Z.au.aH),.sl false false Z.au.aB.length (ab (jM aD) Z.au.aB),.sl false false Z.aZ.length (ab fe Z.aZ),.sl false false Z.aA.length (ab (eI .i64) Z.aA)],false,false,false⟩∧H 8=some ⟨aP,57,[.int .i64 aV.ck,.int .i64 aV.aL],false,false,false⟩∧H 9=some ⟨aQ,42,[.int .i64 ai.1.cD.ah,.sl false false ai.1.cD.aa.length (ab (eI .i64) ai.1.cD.aa),.int .i64 ai.1.cw.ah,.sl false false ai.1.cw.aa.length (ab (eI .i64) ai.1.cw.aa)],false,false,false⟩) (fun o x t H e=>match o with|aR=>x=.exit 2∧∃aG:Nat,t 0=.mp 0 0∧t 1=.sl false false p1.length (ab (eI .i64) p1)∧t 5=.ptr 5 aG 0∧t 20=.sl false false Z.au.ak.length (ab bg Z.au.ak)∧t 21=.int .i64 (Z.au.ak.length:Int)∧t 22=.int .i64 an∧H 0=some ⟨0,74,[.mpc (dC aR) (fu (bt aD) aR)],false,true,true⟩∧H 5=some ⟨aG,55,[.sl false false Z.au.ak.length (ab bg Z.au.ak),.sl false false Z.au.aH.length (ab dO Z.au.aH),.sl false false Z.au.aB.length (ab (jM aD) Z.au.aB),.sl false false Z.aZ.length (ab fe Z.aZ),.sl false false Z.aA.length (ab (eI .i64) Z.aA)],false,false,false⟩) bc ?_ ?_ ?_
    ·refine⟨aK,e+1+1+1,e+1+1+1+1,?_⟩;and_intros<;>first|rfl|(simp only[aJ,seval,Za,O,U,X,Y]<;>rfl)
    ·rintro⟨aF,aN⟩ t H e ⟨aI,aP,aQ,Ze⟩ c hh;simp only[fY]at hh;try simp only[aJ,seval,O,U,X,Y,Ze]
     apply sp aj hh<;>intro _ hh
     ·obtain⟨aW,bd,hh⟩:=ae hh;have ad:=bC dO bd;simp only[bX]at ad;try simp only[aJ,seval,O,U,X,Y,Ze,ad]
      obtain⟨bq,bf,hh⟩:=ae hh;refine bz 0 (fun s t H e=>match s with|aS=>∃av:Nat,∃ax:Nat,∃ay:Nat,∃aE:Nat,t 0=.mp 0 0∧t 1=.sl false false p1.length (ab (eI .i64) p1)∧t 5=.ptr 5 av 0∧t 6=.int .i64 an∧t 8=.ptr 8 ax 0∧t 9=.ptr 9 ay 0∧t 11=.int .i64 aF∧t 12=.ptr 12 aE 0∧t 20=.sl false false Z.au.ak.length (ab bg Z.au.ak)∧t 21=.int .i64 (Z.au.ak.length:Int)∧t 22=.int .i64 an∧t 49=.sl false false Z.au.aH.length (ab dO Z.au.aH)∧t 50=.int .i64 (Z.au.aH.length:Int)∧t 51=.int .i64 aF∧t 71=.bool aS∧H 0=some ⟨0,74,[.mpc (dC aN) (fu (bt aD) aN)],false,true,true⟩∧H 5=some ⟨av,55,[.sl false false Z.au.ak.length (ab bg Z.au.ak),.sl false false Z.au.aH.length (ab dO Z.au.aH),.sl false false Z.au.aB.length (ab (jM aD) Z.au.aB),.sl false false Z.aZ.length (ab fe Z.aZ),.sl false false Z.aA.length (ab (eI .i64) Z.aA)],false,false,false⟩∧H 8=some ⟨ax,57,[.int .i64 aV.ck,.int .i64 aV.aL],false,false,false⟩∧H 9=some ⟨ay,42,[.int .i64 ai.1.cD.ah,.sl false false ai.1.cD.aa.length (ab (eI .i64) ai.1.cD.aa),.int .i64 ai.1.cw.ah,.sl false false ai.1.cw.aa.length (ab (eI .i64) ai.1.cw.aa)],false,false,false⟩∧H 12=some ⟨aE,97,[.int .i64 aW.bu,.int .i64 aW.a7,.int .i64 aW.aL,.str aW.CJ],false,false,false⟩) (fun s=>s=bq) ?_ ?_
      ·rintro aS t H e ⟨av,ax,ay,aE,ar⟩ rfl;try dsimp only at hh
       try simp only[aJ,seval,O,U,X,Y,ad,ar]
       apply sp aj hh<;>intro _ hh
       ·cases hh;try simp only[aJ,seval,O,U,X,Y,ad,ar]
        apply iP;refine⟨av,ax,ay,?_⟩;and_intros<;>first|rfl|(simp only[aJ,seval,O,U,X,Y,ad,ar]<;>rfl)
       ·obtain⟨bx,bh,hh⟩:=ae hh;have ag:=bC (eI .i64) bh;simp only[bX]at ag;try simp only[aJ,seval,O,U,X,Y,ad,ar,ag]
        refine bH (by kernel_rfl) ?_;obtain⟨bA,bj,hh⟩:=ae hh;have ao:=bC (jM aD) bj;simp only[bX]at ao;obtain⟨bB,bk,hh⟩:=ae hh;have aq:=bC aD bk;simp only[bX]at aq;obtain⟨bD,az,hh⟩:=ae hh;try simp only[aJ,seval,O,U,X,Y,ad,ar,ag,ao,aq,az]
        refine bH (by kernel_rfl) ?_;try simp only[aJ,seval,O,U,X,Y,ad,ar,ag,ao,aq,az]
        apply sp aj hh<;>intro _ hh
        ·obtain⟨bE,aX,hh⟩:=ae hh;cases hh;try simp only[aJ,seval,O,U,X,Y,ad,ar,ag,ao,aq,az,aX]
         apply iP;refine⟨av,ax,ay,?_⟩;and_intros<;>first|rfl|(simp only[aJ,seval,O,U,X,Y,ad,ar,ag,ao,aq,az,aX]<;>rfl)
        ·cases hh;try simp only[aJ,seval,O,U,X,Y,ad,ar,ag,ao,aq,az]
         apply iP;refine⟨av,ax,ay,?_⟩;and_intros<;>first|rfl|(simp only[aJ,seval,O,U,X,Y,ad,ar,ag,ao,aq,az]<;>rfl)
      ·clear hh;have hh:=bf;try simp only[aJ,seval,O,U,X,Y,Ze,ad]
       apply sp aO hh<;>intro _ hh
       ·cases hh;try simp only[aJ,seval,O,U,X,Y,Ze,ad]
        rw[al];refine⟨_,rfl,?_⟩;refine⟨aI,aP,aQ,e+1,?_⟩;and_intros<;>first|rfl|(simp only[aJ,seval,O,U,X,Y,Ze,ad]<;>rfl)
       ·obtain⟨bF,bl,hh⟩:=ae hh;have aT:=bC (jM aD) bl;simp only[bX]at aT;obtain⟨bG,bm,hh⟩:=ae hh;have aU:=bC aD bm;simp only[bX]at aU;obtain⟨bI,aY,hh⟩:=ae hh;cases hh;try simp only[aJ,seval,O,U,X,Y,Ze,ad,aT,aU,aY]
        rw[al];refine⟨_,rfl,?_⟩;refine⟨aI,aP,aQ,e+1,?_⟩;and_intros<;>first|rfl|(simp only[aJ,seval,O,U,X,Y,Ze,ad,aT,aU,aY]<;>rfl)
     ·cases hh;try simp only[aJ,seval,O,U,X,Y,Ze]
      apply jW;refine⟨rfl,⟨aI,?_⟩⟩;and_intros<;>first|rfl|(simp only[aJ,seval,O,U,X,Y,Ze]<;>rfl)
    ·rintro x t H e hx;obtain⟨aR,rfl⟩:∃z,z=bp:=⟨_,rfl⟩;dsimp only at hx hh;obtain⟨rfl,⟨aG,bn⟩⟩:=hx;cases hh;try simp only[aJ,seval,O,U,X,Y,bn]
     apply iP;refine⟨aG,?_⟩;and_intros<;>first|rfl|(simp only[aJ,seval,O,U,X,Y,bn]<;>rfl)
  ·cases hh;try simp only[aJ,seval,Za]
   apply jW;refine⟨rfl,?_⟩;and_intros<;>first|rfl|(simp only[aJ,seval,Za]<;>rfl)
 ·rintro x t H e hx;obtain⟨aM,rfl⟩:∃z,z=bo:=⟨_,rfl⟩;dsimp only at hx hh;obtain⟨rfl,br⟩:=hx;cases hh;try simp only[aJ,seval,br]
theorem yQ:bT prog 41 mZ:=bT.XC tok yI mixed func41 (by kernel_rfl) ⟨by kernel_rfl,by kernel_rfl⟩ (fun _=>ahr (by kernel_rfl)) (fun l x l' r h=>AP l x.1 x.2 (l',r) h)
def ny (l:Option (D×Row)) (d:List D):=dP (gX (bt bD) (dL (bt bD))) (fun x:bG×bG=>me x.1 x.2) (fun r:Int =>.clean (.int .i64 r)) l d
theorem adz {β:Type} {F:bG×bG->Option β} {R:β->RK} (Z:Int) (aa:Int) (ad:Int) (O:(List Int)) (ae:Int) (U:(List Int)) (ag:Int) (ah:Int) (ai:Int) (X:(List Int)) (aj:Int) (Y:(List Int)):dP (gX (bt bD) (dL (bt bD))) F R none [.agg [.int .i64 Z,.int .i64 aa,.int .i64 ad,.sl false false O.length (ab (eI .i64) O),.int .i64 ae,.sl false false U.length (ab (eI .i64) U)],.agg [.int .i64 ag,.int .i64 ah,.int .i64 ai,.sl false false X.length (ab (eI .i64) X),.int .i64 aj,.sl false false Y.length (ab (eI .i64) Y)]]=(F ((bG.mk Z aa (aw.mk (az.mk ad O) (az.mk ae U))),(bG.mk ag ah (aw.mk (az.mk ai X) (az.mk aj Y))))).map fun r=>(R r,none):=cI _ _ _ ((bG.mk Z aa (aw.mk (az.mk ad O) (az.mk ae U))),(bG.mk ag ah (aw.mk (az.mk ai X) (az.mk aj Y))))
def rn:Env:=(Am.ext (Am.ext bk 75 false wC) 76 false eK)
theorem Fa:bF prog rn:=((bF.none.add HD false).add oS false)
theorem xW:type_of% (ai @w<|ai @qu<|ai @Vz<|ai @eK.eq_1<|@rn.eq_1):=⟨@w,@qu,@Vz,@eK.eq_1,@rn.eq_1⟩
theorem Ff:bT prog 43 ny:=bT.gJ (mode := .clean) tok Fa mixed func43 (by kernel_rfl) (fun _ _=>rfl) (fun _=>by kernel_rfl) fun⟨Z,p1⟩ r O=>by
 replace O:me Z p1=some r:=O;apply aF rfl ntmps43 results43;simp only[gK];unfold me at O;obtain⟨r1,U,O⟩:=ae O;obtain⟨r2,X,O⟩:=ae O;have i3:=qu ([r1,r2]);simp only[bh,bX,List.length_cons,List.length_nil,agt,Nat.reduceAdd,ahI]at i3;obtain⟨r4,Y,O⟩:=ae O;try simp only[xW,seval,U,X,i3,Y]
 refine bH (by kernel_rfl) ?_;cases O;try simp only[xW,seval,U,X,i3,Y]
def oa (l:Option (D×Row)) (d:List D):=dP (dL (bt nJ)) (fun x:bA=>rA x) (fun r:eM×Int =>.clean (.tup [.agg [.int .i64 r.1.aA,.sl false false r.1.aN.length (ab bD r.1.aN)],.int .i64 r.2])) l d
def xe:Env:=(Am.uS 9 (65,6,1) (Am.ext (Am.ext bk 10 false fQ) 41 true mZ))
theorem Uy:bF prog xe:=(bF.uS ((bF.none.add rC false).add yQ true) 9 (65,6,1))
theorem ig:type_of% (ai @w<|ai @CM<|ai @U6<|ai @fQ.eq_1<|@xe.eq_1):=⟨@w,@CM,@U6,@fQ.eq_1,@xe.eq_1⟩
theorem XF (Z:bA) (r:eM×Int) (U:rA Z=some r):Ri tab xe FU 5 Tryz.f12 [.agg [.sl false false Z.ax.length (ab (eI .i64) Z.ax),.sl false false Z.ao.length (ab b6 Z.ao)]] (vE tab Tryz.f12.results.toList (.clean (.tup [.agg [.int .i64 r.1.aA,.sl false false r.1.aN.length (ab bD r.1.aN)],.int .i64 r.2]),none) (acJ r)):=by
 apply Vr rfl ntmps12 results12;simp only[Jd,Je];unfold rA at U;obtain⟨r1,O,U⟩:=ae U;try simp only[ig,seval,O]
 apply sp aj U<;>intro _ U
 ·cases U;try simp only[ig,seval,O]
 ·try simp only[ig,seval,O]
  obtain⟨o7,ay,U⟩:=ae U;refine aC (fun s t H e=>match s with|(aq,ad)=>∃ah:Nat,∃ai:Nat,∃aa:Nat,t 1=.ptr 1 ah 0∧t 2=.ptr 2 ai 0∧t 6=.mp 21 aa∧t 23=.sl false false Z.ao.length (ab b6 Z.ao)∧t 24=.int .i64 (Z.ao.length:Int)∧t 25=.int .i64 aq∧H 1=some ⟨ah,25,[.sl false false Z.ax.length (ab (eI .i64) Z.ax),.sl false false Z.ao.length (ab b6 Z.ao)],false,false,false⟩∧H 2=some ⟨ai,28,[.int .i64 0,.sl true true 0 []],false,false,false⟩∧H 21=some ⟨aa,74,[.mpc (dC ad) (fu (bt aD) ad)],false,true,true⟩) (fun o x t H e=>match o with|X=>x=.exit 0∧∃al:Nat,∃ag:Nat,∃Y:Nat,t 1=.ptr 1 al 0∧t 2=.ptr 2 ag 0∧t 6=.mp 21 Y∧H 1=some ⟨al,25,[.sl false false Z.ax.length (ab (eI .i64) Z.ax),.sl false false Z.ao.length (ab b6 Z.ao)],false,false,false⟩∧H 2=some ⟨ag,28,[.int .i64 0,.sl true true 0 []],false,false,false⟩∧H 21=some ⟨Y,74,[.mpc (dC X) (fu (bt aD) X)],false,true,true⟩) ay ?_ ?_ ?_
  ·refine⟨0,0,3,?_⟩;and_intros<;>first|rfl|(simp only[ig,seval,O]<;>rfl)
  ·rintro⟨aq,ad⟩ t H e ⟨ah,ai,aa,Za⟩ c U;simp only[nW]at U;try simp only[ig,seval,O,Za]
   apply sp aj U<;>intro _ U
   ·obtain⟨x9,az,U⟩:=ae U;have aw:=bC b6 az;simp only[bX]at aw;have i10:=AY ad Z.ax x9.au.ak x9.au.aH x9.au.aB x9.aZ x9.aA;try simp only[bX]at i10
    obtain⟨aE,ar,U⟩:=ae U;cases U;try simp only[ig,seval,O,Za,aw,i10,ar]
    apply iP;refine⟨ah,ai,aa,?_⟩;and_intros<;>first|rfl|(simp only[ig,seval,O,Za,aw,i10,ar]<;>rfl)
   ·cases U;try simp only[ig,seval,O,Za]
    apply jW;refine⟨rfl,⟨ah,ai,aa,?_⟩⟩;and_intros<;>first|rfl|(simp only[ig,seval,O,Za]<;>rfl)
  ·rintro x t H e hx;obtain⟨X,rfl⟩:∃z,z=o7:=⟨_,rfl⟩;dsimp only at hx U;obtain⟨rfl,⟨al,ag,Y,an⟩⟩:=hx;try simp only[ig,seval,O,an]
   apply sp aj U<;>intro _ U
   ·cases U;try simp only[ig,seval,O,an]
   ·have av:bump (4*(e+1)+2) (e+1)=some (4*(e+1)+3):=Wi rfl;try simp only[ig,seval,O,an,av]
    rw[E6];refine⟨X,(Z.ax.length:Int),Y,e+1,ag,(4*(e+1)+3),?_,?_,?_,?_,?_,?_,by omega,U⟩;all_goals first|rfl|(simp only[ig,seval,O,an,av]<;>rfl)
theorem HE:bT prog 12 oa:=bT.front tok Uy mixed func12 rfl (by kernel_rfl) ⟨by kernel_rfl,by kernel_rfl⟩ (fun _=>ahr (by kernel_rfl)) (ahr (by kernel_rfl)) (fun x r h=>XF x r h) (fun r=>XO r)
def mB (l:Option (D×Row)) (d:List D):=dP (gX (bt dB) (dL (bt dB))) (fun x:az×az=>jh x.1 x.2) (fun r:Bool =>.clean (.bool r)) l d
theorem DZ:bT prog 54 mB:=bT.gJ (mode := .clean) tok bF.none mixed func54 (by kernel_rfl) (fun _ _=>rfl) (fun _=>by kernel_rfl) fun⟨p0,p1⟩ r O=>by
 replace O:jh p0 p1=some r:=O;apply aF rfl ntmps54 results54;simp only[gK];unfold jh at O;try simp only[w,seval]
 obtain⟨o1,aq,O⟩:=ae O;refine bz 0 (fun s t H e=>match s with|ad=>∃Y:Nat,∃Z:Nat,t 2=.ptr 2 Y 0∧t 3=.ptr 3 Z 0∧t 19=.bool ad∧H 2=some ⟨Y,40,[.int .i64 p0.ah,.sl false false p0.aa.length (ab (eI .i64) p0.aa)],false,false,false⟩∧H 3=some ⟨Z,40,[.int .i64 p1.ah,.sl false false p1.aa.length (ab (eI .i64) p1.aa)],false,false,false⟩) (fun s=>s=o1) ?_ ?_
 ·rintro ad t H e ⟨Y,Z,ag⟩ rfl;try dsimp only at O
  try simp only[w,seval,ag]
  apply sp aj O<;>intro _ O
  ·cases O;try simp only[w,seval,ag]
  ·try simp only[w,seval,ag]
   obtain⟨o7,ar,O⟩:=ae O;refine aC (fun s t H e=>match s with|an=>∃ai:Nat,∃ak:Nat,t 2=.ptr 2 ai 0∧t 3=.ptr 3 ak 0∧t 5=.int .i64 an∧H 2=some ⟨ai,40,[.int .i64 p0.ah,.sl false false p0.aa.length (ab (eI .i64) p0.aa)],false,false,false⟩∧H 3=some ⟨ak,40,[.int .i64 p1.ah,.sl false false p1.aa.length (ab (eI .i64) p1.aa)],false,false,false⟩) (fun o x t H e=>match o with|(.inl _)=>x=.exit 0|(.inr r)=>x=.ret∧fH .clean tab none [.tmp 4] ⟨t,EH H,e⟩=some (.clean (.bool r),none)) ar ?_ ?_ ?_
   ·refine⟨Y,Z,?_⟩;and_intros<;>first|rfl|(simp only[w,seval,ag]<;>rfl)
   ·rintro an t H e ⟨ai,ak,Zb⟩ c O;simp only[lx]at O;try simp only[w,seval,Zb]
    apply sp aj O<;>intro _ O
    ·obtain⟨x9,au,O⟩:=ae O;have X:=bC (eI .i64) au;simp only[bX]at X;obtain⟨av,ao,O⟩:=ae O;have U:=bC (eI .i64) ao;simp only[bX]at U;try simp only[w,seval,Zb,X,U]
     refine bH (by kernel_rfl) ?_;try simp only[w,seval,Zb,X,U]
     apply sp aj O<;>intro _ O
     ·cases O;try simp only[w,seval,Zb,X,U]
      refine rv ⟨rfl,?_⟩;try simp only[w,seval,Zb,X,U]
     ·cases O;try simp only[w,seval,Zb,X,U]
      apply iP;refine⟨ai,ak,?_⟩;and_intros<;>first|rfl|(simp only[w,seval,Zb,X,U]<;>rfl)
    ·cases O;try simp only[w,seval,Zb]
     apply jW;exact rfl
   ·rintro x t H e hx;rcases o7 with _|rb
    ·dsimp only at hx O;subst hx;cases O;try simp only[w,seval]
    ·dsimp only at hx O;obtain⟨rfl,hE⟩:=hx;cases O;try simp only[bc,aX,bj,cJ,cG,cc,cd]
     exact hE
 ·clear O;have O:=aq;try simp only[w,seval]
  apply sp aO O<;>intro _ O
  ·cases O;try simp only[w,seval]
   rw[al];refine⟨_,rfl,?_⟩;refine⟨0,0,?_⟩;and_intros<;>first|rfl|(simp only[w,seval]<;>rfl)
  ·cases O;try simp only[w,seval]
   rw[al];refine⟨_,rfl,?_⟩;refine⟨0,0,?_⟩;and_intros<;>first|rfl|(simp only[w,seval]<;>rfl)
def kq (l:Option (D×Row)) (d:List D):=dP (gX (bt aD) (dL (bt aD))) (fun x:aw×aw=>lv x.1 x.2) (fun r:Bool =>.clean (.bool r)) l d
def vU:Env:=(Am.ext bk 54 false mB)
theorem Me:bF prog vU:=(bF.none.add DZ false)
theorem wz:type_of% (ai @w<|ai @xX<|ai @mB.eq_1<|@vU.eq_1):=⟨@w,@xX,@mB.eq_1,@vU.eq_1⟩
theorem Af:bT prog 17 kq:=bT.gJ (mode := .clean) tok Me mixed func17 (by kernel_rfl) (fun _ _=>rfl) (fun _=>by kernel_rfl) fun⟨Y,Z⟩ r O=>by
 replace O:lv Y Z=some r:=O;apply aF rfl ntmps17 results17;simp only[gK];unfold lv at O;obtain⟨r1,U,O⟩:=ae O;try simp only[wz,seval,U]
 apply sp eW O<;>intro _ O
 ·obtain⟨r3,X,O⟩:=ae O;cases O;try simp only[wz,seval,U,X]
 ·cases O;try simp only[wz,seval,U]
def lT (l:Option (D×Row)) (d:List D):=dP (gX (bt qg) (dL (bt qg))) (fun x:eM×eM=>j0 x.1 x.2) (fun r:Bool =>.clean (.bool r)) l d
theorem adA {β:Type} {F:eM×eM->Option β} {R:β->RK} (X:Int) (O:(List bG)) (Y:Int) (U:(List bG)):dP (gX (bt qg) (dL (bt qg))) F R none [.agg [.int .i64 X,.sl false false O.length (ab bD O)],.agg [.int .i64 Y,.sl false false U.length (ab bD U)]]=(F ((eM.mk X O),(eM.mk Y U))).map fun r=>(R r,none):=cI _ _ _ ((eM.mk X O),(eM.mk Y U))
def vV:Env:=(Am.ext bk 17 false kq)
theorem Mf:bF prog vV:=(bF.none.add Af false)
theorem bP:type_of% (ai @w<|ai @uT<|ai @kq.eq_1<|@vV.eq_1):=⟨@w,@uT,@kq.eq_1,@vV.eq_1⟩
theorem Ag:bT prog 14 lT:=bT.gJ (mode := .clean) tok Mf mixed func14 (by kernel_rfl) (fun _ _=>rfl) (fun _=>by kernel_rfl) fun⟨p0,p1⟩ r X=>by
 replace X:j0 p0 p1=some r:=X;apply aF rfl ntmps14 results14;simp only[gK];unfold j0 at X;try simp only[bP,seval]
 obtain⟨o1,au,X⟩:=ae X;refine bz 0 (fun s t H e=>match s with|ag=>∃aa:Nat,∃ad:Nat,t 2=.ptr 2 aa 0∧t 3=.ptr 3 ad 0∧t 19=.bool ag∧H 2=some ⟨aa,28,[.int .i64 p0.aA,.sl false false p0.aN.length (ab bD p0.aN)],false,false,false⟩∧H 3=some ⟨ad,28,[.int .i64 p1.aA,.sl false false p1.aN.length (ab bD p1.aN)],false,false,false⟩) (fun s=>s=o1) ?_ ?_
 ·rintro ag t H e ⟨aa,ad,ak⟩ rfl;try dsimp only at X
  try simp only[bP,seval,ak]
  apply sp aj X<;>intro _ X
  ·cases X;try simp only[bP,seval,ak]
  ·try simp only[bP,seval,ak]
   obtain⟨av,aq,X⟩:=ae X;refine aC (fun s t H e=>match s with|ar=>∃an:Nat,∃ao:Nat,t 2=.ptr 2 an 0∧t 3=.ptr 3 ao 0∧t 5=.int .i64 ar∧H 2=some ⟨an,28,[.int .i64 p0.aA,.sl false false p0.aN.length (ab bD p0.aN)],false,false,false⟩∧H 3=some ⟨ao,28,[.int .i64 p1.aA,.sl false false p1.aN.length (ab bD p1.aN)],false,false,false⟩) (fun o x t H e=>match o with|(.inl _)=>x=.exit 0|(.inr r)=>x=.ret∧fH .clean tab none [.tmp 4] ⟨t,EH H,e⟩=some (.clean (.bool r),none)) aq ?_ ?_ ?_
   ·refine⟨aa,ad,?_⟩;and_intros<;>first|rfl|(simp only[bP,seval,ak]<;>rfl)
   ·rintro ar t H e ⟨an,ao,Z⟩ c X;simp only[pH]at X;try simp only[bP,seval,Z]
    apply sp aj X<;>intro _ X
    ·obtain⟨aw,ah,X⟩:=ae X;have O:=bC bD ah;simp only[bX]at O;obtain⟨ax,ai,X⟩:=ae X;have U:=bC bD ai;simp only[bX]at U;try simp only[bP,seval,Z,O,U]
     apply sp mY X<;>intro _ X
     ·try simp only[bP,seval,Z,O,U]
      refine bH (by kernel_rfl) ?_;cases X;try simp only[bP,seval,Z,O,U]
      refine rv ⟨rfl,?_⟩;try simp only[bP,seval,Z,O,U]
     ·have O:=bC bD ah;simp only[bX]at O;have U:=bC bD ai;simp only[bX]at U;try simp only[bP,seval,Z,O,U,O,U]
      apply sp mY X<;>intro _ X
      ·try simp only[bP,seval,Z,O,U,O,U]
       refine bH (by kernel_rfl) ?_;cases X;try simp only[bP,seval,Z,O,U,O,U]
       refine rv ⟨rfl,?_⟩;try simp only[bP,seval,Z,O,U,O,U]
      ·have O:=bC bD ah;simp only[bX]at O;have U:=bC bD ai;simp only[bX]at U;obtain⟨ay,Y,X⟩:=ae X;try simp only[bP,seval,Z,O,U,O,U,O,U,Y]
       refine bH (by kernel_rfl) ?_;try simp only[bP,seval,Z,O,U,O,U,O,U,Y]
       apply sp aj X<;>intro _ X
       ·cases X;try simp only[bP,seval,Z,O,U,O,U,O,U,Y]
        refine rv ⟨rfl,?_⟩;try simp only[bP,seval,Z,O,U,O,U,O,U,Y]
       ·cases X;try simp only[bP,seval,Z,O,U,O,U,O,U,Y]
        apply iP;refine⟨an,ao,?_⟩;and_intros<;>first|rfl|(simp only[bP,seval,Z,O,U,O,U,O,U,Y]<;>rfl)
    ·cases X;try simp only[bP,seval,Z]
     apply jW;exact rfl
   ·rintro x t H e hx;rcases av with _|rb
    ·dsimp only at hx X;subst hx;cases X;try simp only[bP,seval]
    ·dsimp only at hx X;obtain⟨rfl,hE⟩:=hx;cases X;try simp only[bc,aX,bj,cJ,cG,cc,cd]
     exact hE
 ·clear X;have X:=au;try simp only[bP,seval]
  apply sp aO X<;>intro _ X
  ·cases X;try simp only[bP,seval]
   rw[al];refine⟨_,rfl,?_⟩;refine⟨0,0,?_⟩;and_intros<;>first|rfl|(simp only[bP,seval]<;>rfl)
  ·cases X;try simp only[bP,seval]
   rw[al];refine⟨_,rfl,?_⟩;refine⟨0,0,?_⟩;and_intros<;>first|rfl|(simp only[bP,seval]<;>rfl)
def qF (l:Option (D×Row)) (d:List D):=dP (gX (bt aD) (dL (bt aD))) (fun x:aw×aw=>qm x.1 x.2) (fun r:aw×Int =>.clean (.tup [.agg [.int .i64 r.1.cD.ah,.sl false false r.1.cD.aa.length (ab (eI .i64) r.1.cD.aa),.int .i64 r.1.cw.ah,.sl false false r.1.cw.aa.length (ab (eI .i64) r.1.cw.aa)],.int .i64 r.2])) l d
def vK:Env:=(Am.ext (Am.ext (Am.ext bk 27 false kn) 47 false bJ) 55 false lK)
theorem L4:bF prog vK:=(((bF.none.add Ab false).add gS false).add DK false)
theorem gU:type_of% (ai @w<|ai @uT<|ai @kn.eq_1<|ai @Bk<|ai @bJ.eq_1<|ai @qC<|ai @lK.eq_1<|@vK.eq_1):=⟨@w,@uT,@kn.eq_1,@Bk,@bJ.eq_1,@qC,@lK.eq_1,@vK.eq_1⟩
theorem NP:bT prog 26 qF:=bT.gJ (mode := .clean) tok L4 mixed func26 (by kernel_rfl) (fun _ _=>rfl) (fun _=>by kernel_rfl) fun⟨p0,p1⟩ r O=>by
 replace O:qm p0 p1=some r:=O;apply aF rfl ntmps26 results26;simp only[gK];unfold qm at O;obtain⟨r1,U,O⟩:=ae O;try simp only[gU,seval,U]
 obtain⟨o2,ao,O⟩:=ae O;refine bz 0 (fun s t H e=>match s with|X=>∃Y:Nat,∃Z:Nat,∃ad:Nat,t 2=.ptr 2 Y 0∧t 3=.ptr 3 Z 0∧t 4=.ptr 4 ad 0∧t 13=.bool X∧H 2=some ⟨Y,42,[.int .i64 p0.cD.ah,.sl false false p0.cD.aa.length (ab (eI .i64) p0.cD.aa),.int .i64 p0.cw.ah,.sl false false p0.cw.aa.length (ab (eI .i64) p0.cw.aa)],false,false,false⟩∧H 3=some ⟨Z,42,[.int .i64 p1.cD.ah,.sl false false p1.cD.aa.length (ab (eI .i64) p1.cD.aa),.int .i64 p1.cw.ah,.sl false false p1.cw.aa.length (ab (eI .i64) p1.cw.aa)],false,false,false⟩∧H 4=some ⟨ad,42,[.int .i64 0,.sl true true 0 [],.int .i64 0,.sl true true 0 []],false,false,false⟩) (fun s=>s=o2) ?_ ?_
 ·rintro X t H e ⟨Y,Z,ad,ag⟩ rfl;try dsimp only at O
  try simp only[gU,seval,U,ag]
  apply sp aj O<;>intro _ O
  ·cases O;try simp only[gU,seval,U,ag]
  ·obtain⟨r4,ai,O⟩:=ae O;obtain⟨r5,ak,O⟩:=ae O;try simp only[gU,seval,U,ag,ai,ak]
   refine bH (by kernel_rfl) ?_;cases O;try simp only[gU,seval,U,ag,ai,ak]
 ·clear O;have O:=ao;try simp only[gU,seval,U]
  apply sp aO O<;>intro _ O
  ·cases O;try simp only[gU,seval,U]
   rw[al];refine⟨_,rfl,?_⟩;refine⟨0,0,0,?_⟩;and_intros<;>first|rfl|(simp only[gU,seval,U]<;>rfl)
  ·obtain⟨r7,an,O⟩:=ae O;cases O;try simp only[gU,seval,U,an]
   rw[al];refine⟨_,rfl,?_⟩;refine⟨0,0,0,?_⟩;and_intros<;>first|rfl|(simp only[gU,seval,U,an]<;>rfl)
def fT (l:Option (D×Row)) (d:List D):=dP (dL (bt qg)) (fun x:eM=>kM x) (fun r:(List aw) =>.clean (.sl false false r.length (ab aD r))) l d
theorem A1 {β:Type} {F:eM->Option β} {R:β->RK} (U:Int) (O:(List bG)):dP (dL (bt qg)) F R none [.agg [.int .i64 U,.sl false false O.length (ab bD O)]]=(F ((eM.mk U O))).map fun r=>(R r,none):=cI _ _ _ ((eM.mk U O))
def s8:Env:=(Am.ext (Am.ext bk 26 false qF) 83 false ko)
theorem Jl:bF prog s8:=((bF.none.add NP false).add Ac false)
theorem dj:type_of% (ai @w<|ai @uT<|ai @qF.eq_1<|ai @Kc<|ai @ko.eq_1<|@s8.eq_1):=⟨@w,@uT,@qF.eq_1,@Kc,@ko.eq_1,@s8.eq_1⟩
theorem rF:bT prog 50 fT:=bT.gJ (mode := .clean) tok Jl mixed func50 (by kernel_rfl) (fun _ _=>rfl) (fun _=>by kernel_rfl) fun p0 r U=>by
 replace U:kM p0=some r:=U;apply aF rfl ntmps50 results50;simp only[gK];unfold kM at U;obtain⟨x1,aS,U⟩:=ae U;obtain⟨X,Y,Z,O,ad⟩:=mk_one aD aS;simp only[bX]at O;try simp only[dj,seval,X,Y,Z,O,ad]
 obtain⟨o7,aT,U⟩:=ae U;refine aC (fun s t H e=>match s with|(aI,aL)=>∃ao:Nat,∃aq:Nat,t 1=.ptr 1 ao 0∧t 3=.buf 3 aq 4 0 (aL).length∧t 11=.int .i64 ((x1).length:Int)∧t 12=.int .i64 aI∧H 1=some ⟨ao,28,[.int .i64 p0.aA,.sl false false p0.aN.length (ab bD p0.aN)],false,false,false⟩∧H 3=some ⟨aq,42,ab aD aL,false,true,false⟩) (fun o x t H e=>match o with|ar=>x=.exit 0∧∃au:Nat,∃ak:Nat,t 1=.ptr 1 au 0∧t 3=.buf 3 ak 4 0 (ar).length∧H 1=some ⟨au,28,[.int .i64 p0.aA,.sl false false p0.aN.length (ab bD p0.aN)],false,false,false⟩∧H 3=some ⟨ak,42,ab aD ar,false,true,false⟩) aT ?_ ?_ ?_
 ·refine⟨0,1,?_⟩;and_intros<;>first|rfl|(simp only[dj,seval,X,Y,Z,O,ad]<;>rfl)
 ·rintro⟨aI,aL⟩ t H e ⟨ao,aq,Za⟩ c U;simp only[ll]at U;try simp only[dj,seval,X,Y,Z,O,ad,Za]
  apply sp aj U<;>intro _ U
  ·obtain⟨r9,aO,U⟩:=ae U;obtain⟨aW,aJ,U⟩:=ae U;have av:=bC aD aJ;simp only[bX]at av;have aH:=fP aD (x':=r9) (fo:=0) (cs:=[.int .i64 r9.cD.ah,.sl false false r9.cD.aa.length (ab (eI .i64) r9.cD.aa),.int .i64 r9.cw.ah,.sl false false r9.cw.aa.length (ab (eI .i64) r9.cw.aa)]) aJ rfl (ahr rfl);simp only[bX,Nat.add_zero]at aH;have aw:=aH;simp only[putCells,List.length_cons,List.length_nil,agt,Nat.reduceAdd]at aw;cases U;try simp only[dj,seval,X,Y,Z,O,ad,Za,aO,av,aH,aw]
   apply iP;refine⟨ao,aq,?_⟩;and_intros<;>first|rfl|(simp only[dj,seval,X,Y,Z,O,ad,Za,aO,av,aH,aw]<;>rfl)
  ·cases U;try simp only[dj,seval,X,Y,Z,O,ad,Za]
   apply jW;refine⟨rfl,⟨ao,aq,?_⟩⟩;and_intros<;>first|rfl|(simp only[dj,seval,X,Y,Z,O,ad,Za]<;>rfl)
 ·rintro x t H e hx;obtain⟨ar,rfl⟩:∃z,z=o7:=⟨_,rfl⟩;dsimp only at hx U;obtain⟨rfl,⟨au,ak,aP⟩⟩:=hx;try simp only[dj,seval,X,Y,Z,O,ad,aP]
  obtain⟨aU,aQ,U⟩:=ae U;refine aC (fun s t H e=>match s with|(aK,aM)=>∃ax:Nat,t 3=.buf 3 ax 4 0 (aM).length∧t 21=.sl false false p0.aN.length (ab bD p0.aN)∧t 22=.int .i64 (p0.aN.length:Int)∧t 23=.int .i64 aK∧H 3=some ⟨ax,42,ab aD aM,false,true,false⟩) (fun o x t H e=>match o with|ay=>x=.exit 2∧∃az:Nat,t 3=.buf 3 az 4 0 (ay).length∧H 3=some ⟨az,42,ab aD ay,false,true,false⟩) aQ ?_ ?_ ?_
  ·refine⟨ak,?_⟩;and_intros<;>first|rfl|(simp only[dj,seval,X,Y,Z,O,ad,aP]<;>rfl)
  ·rintro⟨aK,aM⟩ t H e ⟨ax,Zb⟩ c U;simp only[ln]at U;try simp only[dj,seval,X,Y,Z,O,ad,Zb]
   apply sp aj U<;>intro _ U
   ·obtain⟨aX,aR,U⟩:=ae U;have al:=bC bD aR;simp only[bX]at al;obtain⟨aY,aB,U⟩:=ae U;have ag:=bC aD aB;simp only[bX]at ag;obtain⟨ai,aE,U⟩:=ae U;have ag:=bC aD aB;simp only[bX]at ag;have aG:=fP aD (x':=ai.1) (fo:=0) (cs:=[.int .i64 ai.1.cD.ah,.sl false false ai.1.cD.aa.length (ab (eI .i64) ai.1.cD.aa),.int .i64 ai.1.cw.ah,.sl false false ai.1.cw.aa.length (ab (eI .i64) ai.1.cw.aa)]) aB rfl (ahr rfl);simp only[bX,Nat.add_zero]at aG;have an:=aG;simp only[putCells,List.length_cons,List.length_nil,agt,Nat.reduceAdd]at an;try simp only[dj,seval,X,Y,Z,O,ad,Zb,al,ag,aE,ag,aG,an]
    refine bH (by kernel_rfl) ?_;cases U;try simp only[dj,seval,X,Y,Z,O,ad,Zb,al,ag,aE,ag,aG,an]
    apply iP;refine⟨ax,?_⟩;and_intros<;>first|rfl|(simp only[dj,seval,X,Y,Z,O,ad,Zb,al,ag,aE,ag,aG,an]<;>rfl)
   ·cases U;try simp only[dj,seval,X,Y,Z,O,ad,Zb]
    apply jW;refine⟨rfl,⟨ax,?_⟩⟩;and_intros<;>first|rfl|(simp only[dj,seval,X,Y,Z,O,ad,Zb]<;>rfl)
  ·rintro x t H e hx;obtain⟨ay,rfl⟩:∃z,z=aU:=⟨_,rfl⟩;dsimp only at hx U;obtain⟨rfl,⟨az,aV⟩⟩:=hx;cases U;try simp only[dj,seval,X,Y,Z,O,ad,aV]
def mw (l:Option (D×Row)) (d:List D):=dP (dL (bt aD)) (fun x:aw=>mS x) (fun r:Bool =>.clean (.bool r)) l d
def pS:Env:=(Am.ext bk 48 false dh)
theorem CW:bF prog pS:=(bF.none.add lq false)
theorem Fx:type_of% (ai @w<|ai @Bk<|ai @dh.eq_1<|@pS.eq_1):=⟨@w,@Bk,@dh.eq_1,@pS.eq_1⟩
theorem DQ:bT prog 51 mw:=bT.gJ (mode := .clean) tok CW mixed func51 (by kernel_rfl) (fun _ _=>rfl) (fun _=>by kernel_rfl) fun X r O=>by
 replace O:mS X=some r:=O;apply aF rfl ntmps51 results51;simp only[gK];unfold mS at O;obtain⟨Y,U,O⟩:=ae O;cases O;try simp only[Fx,seval,U]
def dH (l:Option (D×Row)) (d:List D):=dP (gX (mG aD) (dL (aFn 51))) (fun x:(List aw)×Unit=>cY x.1) (fun r:Int =>.clean (.int .i64 r)) l d
theorem aam {β:Type} {F:(List aw)×Unit->Option β} {R:β->RK} (O:(List aw)):dP (gX (mG aD) (dL (aFn 51))) F R none [.sl false false O.length (ab aD O),.fn 51]=(F (O,())).map fun r=>(R r,none):=cI _ _ _ (O,())
def fa:Env:=(Am.ext bk 51 false mw)
theorem lC:bF prog fa:=(bF.none.add DQ false)
theorem bd:type_of% (ai @w<|ai @Bk<|ai @mw.eq_1<|@fa.eq_1):=⟨@w,@Bk,@mw.eq_1,@fa.eq_1⟩
theorem lD:bT prog 82 dH:=bT.gJ (mode := .clean) tok lC mixed func82 (by kernel_rfl) (fun _ _=>rfl) (fun _=>by kernel_rfl) fun⟨p0,_⟩ r O=>by
 replace O:cY p0=some r:=O;apply aF rfl ntmps82 results82;simp only[gK];unfold cY at O;try simp only[bd,seval]
 obtain⟨o5,aa,O⟩:=ae O;refine aC (fun s t H e=>match s with|Z=>t 0=.sl false false p0.length (ab aD p0)∧t 1=.fn 51∧t 7=.int .i64 (p0.length:Int)∧t 8=.int .i64 Z) (fun o x t H e=>match o with|(.inl _)=>x=.exit 0|(.inr r)=>x=.ret∧fH .clean tab none [.tmp 4] ⟨t,EH H,e⟩=some (.clean (.int .i64 r),none)) aa ?_ ?_ ?_
 ·and_intros<;>first|rfl|(simp only[bd,seval]<;>rfl)
 ·rintro Z t H e Y c O;simp only[dz]at O;try simp only[bd,seval,Y]
  apply sp aj O<;>intro _ O
  ·obtain⟨x7,ad,O⟩:=ae O;have U:=bC aD ad;simp only[bX]at U;obtain⟨r8,X,O⟩:=ae O;try simp only[bd,seval,Y,U,X]
   apply sp aj O<;>intro _ O
   ·cases O;try simp only[bd,seval,Y,U,X]
    refine rv ⟨rfl,?_⟩;try simp only[bd,seval,Y,U,X]
   ·cases O;try simp only[bd,seval,Y,U,X]
    apply iP;and_intros<;>first|rfl|(simp only[bd,seval,Y,U,X]<;>rfl)
  ·cases O;try simp only[bd,seval,Y]
   apply jW;exact rfl
 ·rintro x t H e hx;rcases o5 with _|ra
  ·dsimp only at hx O;subst hx;cases O;try simp only[bd,seval]
  ·dsimp only at hx O;obtain⟨rfl,hE⟩:=hx;cases O;try simp only[bc,aX,bj,cJ,cG,cc,cd]
   exact hE
def cZ (l:Option (D×Row)) (d:List D):=dP (gX (mG aD) (dL (aFn 51))) (fun x:(List aw)×Unit=>b8 x.1) (fun r:Bool =>.clean (.bool r)) l d
def eC:Env:=(Am.ext bk 82 false dH)
theorem ku:bF prog eC:=(bF.none.add lD false)
theorem kS:type_of% (ai @w<|ai @aam<|ai @dH.eq_1<|@eC.eq_1):=⟨@w,@aam,@dH.eq_1,@eC.eq_1⟩
theorem ky:bT prog 49 cZ:=bT.gJ (mode := .clean) tok ku mixed func49 (by kernel_rfl) (fun _ _=>rfl) (fun _=>by kernel_rfl) fun⟨X,_⟩ r O=>by
 replace O:b8 X=some r:=O;apply aF rfl ntmps49 results49;simp only[gK];unfold b8 at O;obtain⟨Y,U,O⟩:=ae O;cases O;try simp only[kS,seval,U]
def fS (l:Option (D×Row)) (d:List D):=dP (dL (bt qg)) (fun x:eM=>kJ x) (fun r:Bool =>.clean (.bool r)) l d
def s7:Env:=(Am.ext (Am.ext (Am.ext (Am.ext (Am.ext (Am.ext bk 35 false ca) 43 false ny) 47 false bJ) 48 false dh) 49 false cZ) 50 false fT)
theorem Jk:bF prog s7:=((((((bF.none.add iH false).add Ff false).add gS false).add lq false).add ky false).add rF false)
theorem aR:type_of% (ai @w<|ai @A0<|ai @ca.eq_1<|ai @adz<|ai @ny.eq_1<|ai @Bk<|ai @bJ.eq_1<|ai @dh.eq_1<|ai @aam<|ai @cZ.eq_1<|ai @A1<|ai @fT.eq_1<|@s7.eq_1):=⟨@w,@A0,@ca.eq_1,@adz,@ny.eq_1,@Bk,@bJ.eq_1,@dh.eq_1,@aam,@cZ.eq_1,@A1,@fT.eq_1,@s7.eq_1⟩
theorem rE:bT prog 15 fS:=bT.gJ (mode := .clean) tok Jk mixed func15 (by kernel_rfl) (fun _ _=>rfl) (fun _=>by kernel_rfl) fun p0 r Y=>by
 replace Y:kJ p0=some r:=Y;apply aF rfl ntmps15 results15;simp only[gK];unfold kJ at Y;obtain⟨r1,U,Y⟩:=ae Y;try simp only[aR,seval,U]
 obtain⟨o2,aK,Y⟩:=ae Y;refine bz 0 (fun s t H e=>match s with|av=>∃ar:Nat,t 1=.ptr 1 ar 0∧t 14=.bool av∧H 1=some ⟨ar,28,[.int .i64 p0.aA,.sl false false p0.aN.length (ab bD p0.aN)],false,false,false⟩) (fun s=>s=o2) ?_ ?_
 ·rintro av t H e ⟨ar,az⟩ rfl;try dsimp only at Y
  try simp only[aR,seval,U,az]
  apply sp aj Y<;>intro _ Y
  ·cases Y;try simp only[aR,seval,U,az]
  ·try simp only[aR,seval,U,az]
   obtain⟨aL,aD,Y⟩:=ae Y;refine aC (fun s t H e=>match s with|au=>∃ak:Nat,t 1=.ptr 1 ak 0∧t 16=.sl false false p0.aN.length (ab bD p0.aN)∧t 17=.int .i64 (p0.aN.length:Int)∧t 18=.int .i64 au∧H 1=some ⟨ak,28,[.int .i64 p0.aA,.sl false false p0.aN.length (ab bD p0.aN)],false,false,false⟩) (fun o x t H e=>match o with|(.inl _)=>x=.exit 0∧∃aw:Nat,t 1=.ptr 1 aw 0∧H 1=some ⟨aw,28,[.int .i64 p0.aA,.sl false false p0.aN.length (ab bD p0.aN)],false,false,false⟩|(.inr r)=>x=.ret∧fH .clean tab none [.tmp 2] ⟨t,EH H,e⟩=some (.clean (.bool r),none)) aD ?_ ?_ ?_
   ·refine⟨ar,?_⟩;and_intros<;>first|rfl|(simp only[aR,seval,U,az]<;>rfl)
   ·rintro au t H e ⟨ak,Zb⟩ c Y;simp only[lk]at Y;try simp only[aR,seval,U,Zb]
    apply sp aj Y<;>intro _ Y
    ·obtain⟨an,aE,Y⟩:=ae Y;have O:=bC bD aE;simp only[bX]at O;obtain⟨aQ,X,Y⟩:=ae Y;try simp only[aR,seval,U,Zb,O,X]
     obtain⟨aM,aG,Y⟩:=ae Y;refine bz 0 (fun s t H e=>match s with|ax=>∃ao:Nat,∃ay:Nat,t 1=.ptr 1 ao 0∧t 3=.int .i64 au∧t 4=.ptr 4 ay 0∧t 16=.sl false false p0.aN.length (ab bD p0.aN)∧t 17=.int .i64 (p0.aN.length:Int)∧t 18=.int .i64 au∧t 50=.bool ax∧H 1=some ⟨ao,28,[.int .i64 p0.aA,.sl false false p0.aN.length (ab bD p0.aN)],false,false,false⟩∧H 4=some ⟨ay,65,[.int .i64 an.ct,.int .i64 an.iO,.int .i64 an.eB.cD.ah,.sl false false an.eB.cD.aa.length (ab (eI .i64) an.eB.cD.aa),.int .i64 an.eB.cw.ah,.sl false false an.eB.cw.aa.length (ab (eI .i64) an.eB.cw.aa)],false,false,false⟩) (fun s=>s=aM) ?_ ?_
     ·rintro ax t H e ⟨ao,ay,Z⟩ rfl;try dsimp only at Y
      try simp only[aR,seval,U,O,X,Z]
      apply sp aj Y<;>intro _ Y
      ·cases Y;try simp only[aR,seval,U,O,X,Z]
       refine rv ⟨rfl,?_⟩;try simp only[aR,seval,U,O,X,Z]
      ·try simp only[aR,seval,U,O,X,Z]
       apply sp TT Y<;>intro _ Y
       ·obtain⟨aS,aH,Y⟩:=ae Y;have ag:=bC bD aH;simp only[bX]at ag;obtain⟨aT,ai,Y⟩:=ae Y;try simp only[aR,seval,U,O,X,Z,ag,ai]
        refine bH (by kernel_rfl) ?_;try simp only[aR,seval,U,O,X,Z,ag,ai]
        apply sp aj Y<;>intro _ Y
        ·cases Y;try simp only[aR,seval,U,O,X,Z,ag,ai]
         refine rv ⟨rfl,?_⟩;try simp only[aR,seval,U,O,X,Z,ag,ai]
        ·cases Y;try simp only[aR,seval,U,O,X,Z,ag,ai]
         apply iP;refine⟨ao,?_⟩;and_intros<;>first|rfl|(simp only[aR,seval,U,O,X,Z,ag,ai]<;>rfl)
       ·try simp only[aR,seval,U,O,X,Z]
        refine bH (by kernel_rfl) ?_;cases Y;try simp only[aR,seval,U,O,X,Z]
        apply iP;refine⟨ao,?_⟩;and_intros<;>first|rfl|(simp only[aR,seval,U,O,X,Z]<;>rfl)
     ·clear Y;have Y:=aG;try simp only[aR,seval,U,Zb,O,X]
      apply sp aO Y<;>intro _ Y
      ·cases Y;try simp only[aR,seval,U,Zb,O,X]
       rw[al];refine⟨_,rfl,?_⟩;refine⟨ak,e+1,?_⟩;and_intros<;>first|rfl|(simp only[aR,seval,U,Zb,O,X]<;>rfl)
      ·obtain⟨aU,ad,Y⟩:=ae Y;try simp only[aR,seval,U,Zb,O,X,ad]
       apply sp aO Y<;>intro _ Y
       ·cases Y;try simp only[aR,seval,U,Zb,O,X,ad]
        rw[al];refine⟨_,rfl,?_⟩;refine⟨ak,e+1,?_⟩;and_intros<;>first|rfl|(simp only[aR,seval,U,Zb,O,X,ad]<;>rfl)
       ·obtain⟨aV,aq,Y⟩:=ae Y;try simp only[aR,seval,U,Zb,O,X,ad,aq]
        apply sp aO Y<;>intro _ Y
        ·cases Y;try simp only[aR,seval,U,Zb,O,X,ad,aq]
         rw[al];refine⟨_,rfl,?_⟩;refine⟨ak,e+1,?_⟩;and_intros<;>first|rfl|(simp only[aR,seval,U,Zb,O,X,ad,aq]<;>rfl)
        ·obtain⟨aW,aB,Y⟩:=ae Y;cases Y;try simp only[aR,seval,U,Zb,O,X,ad,aq,aB]
         rw[al];refine⟨_,rfl,?_⟩;refine⟨ak,e+1,?_⟩;and_intros<;>first|rfl|(simp only[aR,seval,U,Zb,O,X,ad,aq,aB]<;>rfl)
    ·cases Y;try simp only[aR,seval,U,Zb]
     apply jW;refine⟨rfl,⟨ak,?_⟩⟩;and_intros<;>first|rfl|(simp only[aR,seval,U,Zb]<;>rfl)
   ·rintro x t H e hx;rcases aL with _|rb
    ·dsimp only at hx Y;obtain⟨rfl,⟨aw,aP⟩⟩:=hx;obtain⟨aY,aI,Y⟩:=ae Y;obtain⟨aZ,aJ,Y⟩:=ae Y;cases Y;try simp only[aR,seval,U,aP,aI,aJ]
    ·dsimp only at hx Y;obtain⟨rfl,hE⟩:=hx;cases Y;try simp only[bc,aX,bj,cJ,cG,cc,cd]
     exact hE
 ·clear Y;have Y:=aK;try simp only[aR,seval,U]
  apply sp aO Y<;>intro _ Y
  ·cases Y;try simp only[aR,seval,U]
   rw[al];refine⟨_,rfl,?_⟩;refine⟨0,?_⟩;and_intros<;>first|rfl|(simp only[aR,seval,U]<;>rfl)
  ·cases Y;try simp only[aR,seval,U]
   rw[al];refine⟨_,rfl,?_⟩;refine⟨0,?_⟩;and_intros<;>first|rfl|(simp only[aR,seval,U]<;>rfl)
def fR (l:Option (D×Row)) (d:List D):=dP (dL (bt qg)) (fun x:eM=>fD x) (fun r:(List Int) =>.clean (.sl false false r.length (ab (eI .i64) r))) l d
def s6:Env:=(Am.uS 18 (3,1,0) (Am.ext (Am.ext (Am.ext bk 15 false fS) 48 false dh) 50 false fT))
theorem Jj:bF prog s6:=(bF.uS (((bF.none.add rE false).add lq false).add rF false) 18 (3,1,0))
theorem aS:type_of% (ai @w<|ai @A1<|ai @fS.eq_1<|ai @Bk<|ai @dh.eq_1<|ai @fT.eq_1<|@s6.eq_1):=⟨@w,@A1,@fS.eq_1,@Bk,@dh.eq_1,@fT.eq_1,@s6.eq_1⟩
theorem rD:bT prog 21 fR:=bT.gJ (mode := .clean) tok Jj mixed func21 (by kernel_rfl) (fun _ _=>rfl) (fun _=>by kernel_rfl) fun p0 r Y=>by
 replace Y:fD p0=some r:=Y;apply aF rfl ntmps21 results21;simp only[gK];unfold fD at Y;obtain⟨r1,ai,Y⟩:=ae Y;try simp only[aS,seval,-Int.reduceToNat,ai]
 apply sp aj Y<;>intro _ Y
 ·cases Y;try simp only[aS,seval,-Int.reduceToNat,ai]
 ·obtain⟨x3,dt,Y⟩:=ae Y;have ak:=Z3 (E:=(EU (eI .i64))) (ty':=3) (s:=1) (f:=0) (k := .i64) JT (by rfl) rfl rfl rfl rfl rfl dt;obtain⟨al,dU,dV,dW,dX⟩:=mk_one (EU (eI .i64)) dt;try simp only[aS,seval,-Int.reduceToNat,ai,ak,al]
  obtain⟨dP,du,Y⟩:=ae Y;refine aC (fun s t H e=>match s with|(cS,b5)=>∃b6:Nat,∃br:Nat,∃ba:Nat,t 1=.ptr 1 b6 0∧t 3=.buf 18 br 1 0 (b5).length∧t 20=.sl false false p0.aN.length (ab bD p0.aN)∧t 21=.int .i64 (p0.aN.length:Int)∧t 22=.int .i64 cS∧H 1=some ⟨b6,28,[.int .i64 p0.aA,.sl false false p0.aN.length (ab bD p0.aN)],false,false,false⟩∧H 18=some ⟨br,22,[.nr 3 1 ba (ab (EU (eI .i64)) b5)],false,true,true⟩∧ba<=4*e) (fun o x t H e=>match o with|aq=>x=.exit 0∧∃b7:Nat,∃bk:Nat,∃a6:Nat,t 1=.ptr 1 b7 0∧t 3=.buf 18 bk 1 0 (aq).length∧H 1=some ⟨b7,28,[.int .i64 p0.aA,.sl false false p0.aN.length (ab bD p0.aN)],false,false,false⟩∧H 18=some ⟨bk,22,[.nr 3 1 a6 (ab (EU (eI .i64)) aq)],false,true,true⟩∧a6<=4*e) du ?_ ?_ ?_
  ·refine⟨0,2,4*(2)+2,?_,?_,?_,?_,?_,?_,?_,?_⟩;all_goals (first|rfl|omega|(simp only[aS,seval,-Int.reduceToNat,ai,ak,al]<;>rfl))
  ·rintro⟨cS,b5⟩ t H e ⟨b6,br,ba,Za⟩ c Y;simp only[jz]at Y;try simp only[aS,seval,-Int.reduceToNat,ai,ak,al,Za]
   apply sp aj Y<;>intro _ Y
   ·obtain⟨dY,dv,Y⟩:=ae Y;have bL:=bC bD dv;simp only[bX]at bL;obtain⟨dZ,bM,Y⟩:=ae Y;have aP:=bC (EU (eI .i64)) bM;simp only[bX]at aP;obtain⟨di,dw,Y⟩:=ae Y;obtain⟨b8,bN,b9,ca⟩:=ir (eI .i64) dw;simp only[bX]at bN;have aP:=bC (EU (eI .i64)) bM;simp only[bX]at aP;have cb:=X5 (EU (eI .i64)) (x':=di) 0 .und (.nx di.length (ab (eI .i64) di)) bM rfl (ahr rfl);have bs:=aac (EU (eI .i64)) 0 .und bM (ahr rfl);simp only[bX,Nat.add_zero]at cb bs;have bO:=cb;simp only[putCells,List.length_cons,List.length_nil,agt,Nat.reduceAdd]at bO;have bl:=bs;simp only[putCells,List.length_cons,List.length_nil,agt,Nat.reduceAdd]at bl;have cc:bump ba (e+1+1)=some (4*(e+1+1)+1):=A8 (by omega);try simp only[aS,seval,-Int.reduceToNat,ai,ak,al,Za,bL,aP,b8,bN,b9,ca,aP,cb,bO,bs,bl,cc]
    refine bH (by kernel_rfl) ?_;cases Y;try simp only[aS,seval,-Int.reduceToNat,ai,ak,al,Za,bL,aP,b8,bN,b9,ca,aP,cb,bO,bs,bl,cc]
    apply iP;refine⟨b6,br,4*(e+1+1)+1,?_,?_,?_,?_,?_,?_,?_,?_⟩;all_goals (first|rfl|omega|(simp only[aS,seval,-Int.reduceToNat,ai,ak,al,Za,bL,aP,b8,bN,b9,ca,aP,cb,bO,bs,bl,cc]<;>rfl))
   ·cases Y;try simp only[aS,seval,-Int.reduceToNat,ai,ak,al,Za]
    apply jW;refine⟨rfl,⟨b6,br,ba,?_,?_,?_,?_,?_⟩⟩;all_goals (first|rfl|omega|(simp only[aS,seval,-Int.reduceToNat,ai,ak,al,Za]<;>rfl))
  ·rintro x t H e hx;obtain⟨aq,rfl⟩:∃z,z=dP:=⟨_,rfl⟩;dsimp only at hx Y;obtain⟨rfl,⟨b7,bk,a6,dx⟩⟩:=hx;obtain⟨ea,dy,Y⟩:=ae Y;obtain⟨Z,aa,ad,X,ag⟩:=mk_one (eI .i64) dy;simp only[bX]at X;obtain⟨dj,ah,Y⟩:=ae Y;try simp only[aS,seval,-Int.reduceToNat,ai,ak,al,dx,Z,aa,ad,X,ag,ah]
   obtain⟨dQ,dz,Y⟩:=ae Y;refine aC (fun s t H e=>match s with|(cT,dk,dm)=>∃b3:Nat,∃cd:Nat,∃bc:Nat,∃aQ:Nat,∃cf:Nat,∃cg:List D,t 3=.buf 18 bc 1 0 (aq).length∧t 6=.buf 6 b3 1 0 (dk).length∧t 7=.buf 7 cd 1 cf (dm).length∧t 44=.sl false false dj.length (ab aD dj)∧t 45=.int .i64 (dj.length:Int)∧t 46=.int .i64 cT∧H 6=some ⟨b3,3,ab (eI .i64) dk,false,true,false⟩∧H 7=some ⟨cd,3,cg,false,true,false⟩∧H 18=some ⟨bc,22,[.nr 3 1 aQ (ab (EU (eI .i64)) aq)],false,true,true⟩∧aQ<=4*e∧sg (eI .i64) cg cf dm) (fun o x t H e=>match o with|(ch,cj)=>x=.exit 2∧∃bP:Nat,∃bQ:Nat,∃bm:Nat,∃a7:Nat,∃bR:Nat,∃bS:List D,t 3=.buf 18 bm 1 0 (aq).length∧t 6=.buf 6 bP 1 0 (ch).length∧t 7=.buf 7 bQ 1 bR (cj).length∧H 6=some ⟨bP,3,ab (eI .i64) ch,false,true,false⟩∧H 7=some ⟨bQ,3,bS,false,true,false⟩∧H 18=some ⟨bm,22,[.nr 3 1 a7 (ab (EU (eI .i64)) aq)],false,true,true⟩∧a7<=4*e∧sg (eI .i64) bS bR cj) dz ?_ ?_ ?_
   ·refine⟨e,e+1,bk,a6,0,(ab (eI .i64) ([])),?_,?_,?_,?_,?_,?_,?_,?_,?_,?_,(sg.self (eI .i64) ([]))⟩;all_goals (first|rfl|omega|(simp only[aS,seval,-Int.reduceToNat,ai,ak,al,dx,Z,aa,ad,X,ag,ah]<;>rfl))
   ·rintro⟨cT,dk,dm⟩ t H e ⟨b3,cd,bc,aQ,cf,cg,bt,bu,bw,aR,aT,aU,bx,bz,aV,aK,cL⟩ c Y;simp only[jA]at Y;have ay:=cL.fit;have az:=cL.eq;simp only[bX]at ay az;try simp only[aS,seval,-Int.reduceToNat,ai,ak,al,Z,aa,ad,X,ag,ah,bt,bu,bw,aR,aT,aU,bx,bz,aV,aK,ay,az]
    apply sp aj Y<;>intro _ Y
    ·obtain⟨eb,dA,Y⟩:=ae Y;have bd:=bC aD dA;simp only[bX]at bd;obtain⟨ec,cU,Y⟩:=ae Y;have bf:=bC (eI .i64) cU;simp only[bX]at bf;have bK:=fP (eI .i64) (x':=(-1)) (fo:=0) (cs:=[.int .i64 (-1)]) cU rfl (ahr rfl);simp only[bX,Nat.add_zero]at bK;have bg:=bK;simp only[putCells,List.length_cons,List.length_nil,agt,Nat.reduceAdd]at bg;obtain⟨ed,bA,Y⟩:=ae Y;try simp only[aS,seval,-Int.reduceToNat,ai,ak,al,Z,aa,ad,X,ag,ah,bt,bu,bw,aR,aT,aU,bx,bz,aV,aK,ay,az,bd,bf,bK,bg,bA]
     apply sp aj Y<;>intro _ Y
     ·obtain⟨ee,cV,Y⟩:=ae Y;have ck:=bC (eI .i64) cV;simp only[bX,ahI]at ck;have cM:=fP (eI .i64) (x':=0) (fo:=0) (cs:=[.int .i64 0]) cV rfl (ahr rfl);simp only[bX,Nat.add_zero]at cM;have cm:=cM;simp only[putCells,List.length_cons,List.length_nil,agt,Nat.reduceAdd]at cm;obtain⟨dB,dC,Y⟩:=ae Y;obtain⟨cW,cn,cX,cY⟩:=ir (eI .i64) dC;simp only[bX]at cn;cases Y;try simp only[aS,seval,-Int.reduceToNat,ai,ak,al,Z,aa,ad,X,ag,ah,bt,bu,bw,aR,aT,aU,bx,bz,aV,aK,ay,az,bd,bf,bK,bg,bA,ck,cM,cm,cW,cn,cX,cY]
      apply iP;refine⟨b3,e+1+1+1+1+1,bc,aQ,0,(ab (eI .i64) dB),?_,?_,?_,?_,?_,?_,?_,?_,?_,?_,(sg.self (eI .i64) dB)⟩;all_goals (first|rfl|omega|(simp only[aS,seval,-Int.reduceToNat,ai,ak,al,Z,aa,ad,X,ag,ah,bt,bu,bw,aR,aT,aU,bx,bz,aV,aK,ay,az,bd,bf,bK,bg,bA,ck,cM,cm,cW,cn,cX,cY]<;>rfl))
     ·cases Y;try simp only[aS,seval,-Int.reduceToNat,ai,ak,al,Z,aa,ad,X,ag,ah,bt,bu,bw,aR,aT,aU,bx,bz,aV,aK,ay,az,bd,bf,bK,bg,bA]
      apply iP;refine⟨b3,cd,bc,aQ,cf,cg,?_,?_,?_,?_,?_,?_,?_,?_,?_,?_,cL⟩;all_goals (first|rfl|omega|(simp only[aS,seval,-Int.reduceToNat,ai,ak,al,Z,aa,ad,X,ag,ah,bt,bu,bw,aR,aT,aU,bx,bz,aV,aK,ay,az,bd,bf,bK,bg,bA]<;>rfl))
    ·cases Y;try simp only[aS,seval,-Int.reduceToNat,ai,ak,al,Z,aa,ad,X,ag,ah,bt,bu,bw,aR,aT,aU,bx,bz,aV,aK,ay,az]
     apply jW;refine⟨rfl,⟨b3,cd,bc,aQ,cf,cg,?_,?_,?_,?_,?_,?_,?_,cL⟩⟩;all_goals (first|rfl|omega|(simp only[aS,seval,-Int.reduceToNat,ai,ak,al,Z,aa,ad,X,ag,ah,bt,bu,bw,aR,aT,aU,bx,bz,aV,aK,ay,az]<;>rfl))
   ·rintro x t H e hx;rcases dQ with⟨ch,cj⟩;dsimp only at hx Y;obtain⟨rfl,⟨bP,bQ,bm,a7,bR,bS,cZ,c0,c3,c4,c5,cp,bU,cq⟩⟩:=hx;have O:=cq.fit;have U:=cq.eq;simp only[bX]at O U;try simp only[aS,seval,-Int.reduceToNat,ai,ak,al,Z,aa,ad,X,ag,ah,cZ,c0,c3,c4,c5,cp,bU,O,U]
    obtain⟨dR,dD,Y⟩:=ae Y;refine aC (fun s t H e=>match s with|(dn,dp)=>∃cr:Nat,∃dq:Nat,∃bV:Nat,∃bn:Nat,∃cN:Nat,∃cO:List D,t 3=.buf 18 bV 1 0 (aq).length∧t 6=.buf 6 cr 1 0 (dn).length∧t 7=.buf 7 dq 1 cN (dp).length∧H 6=some ⟨cr,3,ab (eI .i64) dn,false,true,false⟩∧H 7=some ⟨dq,3,cO,false,true,false⟩∧H 18=some ⟨bV,22,[.nr 3 1 bn (ab (EU (eI .i64)) aq)],false,true,true⟩∧bn<=4*e∧sg (eI .i64) cO cN dp) (fun o x t H e=>match o with|ct=>x=.exit 4∧∃cu:Nat,t 6=.buf 6 cu 1 0 (ct).length∧H 6=some ⟨cu,3,ab (eI .i64) ct,false,true,false⟩) dD ?_ ?_ ?_
    ·refine⟨bP,bQ,bm,a7,bR,bS,?_,?_,?_,?_,?_,?_,?_,cq⟩;all_goals (first|rfl|omega|(simp only[aS,seval,-Int.reduceToNat,ai,ak,al,Z,aa,ad,X,ag,ah,cZ,c0,c3,c4,c5,cp,bU,O,U]<;>rfl))
    ·rintro⟨dn,dp⟩ t H e ⟨cr,dq,bV,bn,cN,cO,cv,cw,cx,cy,cz,bB,bb,cP⟩ c Y;simp only[jB]at Y;have an:=cP.fit;have ao:=cP.eq;simp only[bX]at an ao;try simp only[aS,seval,-Int.reduceToNat,ai,ak,al,Z,aa,ad,X,ag,ah,O,U,cv,cw,cx,cy,cz,bB,bb,an,ao]
     apply sp aj Y<;>intro _ Y
     ·obtain⟨dE,c6,Y⟩:=ae Y;have aG:=Jq c6;obtain⟨ar,dF,au⟩:=cP.idx c6;simp only[bX]at au ar;obtain⟨ef,c7,Y⟩:=ae Y;obtain⟨aH,aI,aJ,av,aw⟩:=QK (eI .i64) c7;simp only[bX]at aw;have dG:=sg.tail cP c7;obtain⟨dH,dI,Y⟩:=ae Y;have ax:=bC (EU (eI .i64)) dI;simp only[bX]at ax;try simp only[aS,seval,-Int.reduceToNat,ai,ak,al,Z,aa,ad,X,ag,ah,O,U,cv,cw,cx,cy,cz,bB,bb,an,ao,aG,au,ar,aH,aI,aJ,aw,ax]
      obtain⟨dS,dJ,Y⟩:=ae Y;refine aC (fun s t H e=>match s with|(c8,dr,ds)=>∃b4:Nat,∃cA:Nat,∃bh:Nat,∃aO:Nat,∃cB:Nat,∃cC:List D,t 3=.buf 18 bh 1 0 (aq).length∧t 6=.buf 6 b4 1 0 (dr).length∧t 7=.buf 7 cA 1 cB (ds).length∧t 10=.int .i64 dE∧t 76=.buf (NK 18 ((dE:Int).toNat*1)) aO 1 0 (dH).length∧t 77=.int .i64 ((dH).length:Int)∧t 78=.int .i64 c8∧H 6=some ⟨b4,3,ab (eI .i64) dr,false,true,false⟩∧H 7=some ⟨cA,3,cC,false,true,false⟩∧H 18=some ⟨bh,22,[.nr 3 1 aO (ab (EU (eI .i64)) aq)],false,true,true⟩∧aO<=4*e∧sg (eI .i64) cC cB ds) (fun o x t H e=>match o with|(cD,cE)=>x=.exit 6∧∃bW:Nat,∃bY:Nat,∃bo:Nat,∃a8:Nat,∃bZ:Nat,∃b1:List D,t 3=.buf 18 bo 1 0 (aq).length∧t 6=.buf 6 bW 1 0 (cD).length∧t 7=.buf 7 bY 1 bZ (cE).length∧H 6=some ⟨bW,3,ab (eI .i64) cD,false,true,false⟩∧H 7=some ⟨bY,3,b1,false,true,false⟩∧H 18=some ⟨bo,22,[.nr 3 1 a8 (ab (EU (eI .i64)) aq)],false,true,true⟩∧a8<=4*e∧sg (eI .i64) b1 bZ cE) dJ ?_ ?_ ?_
      ·refine⟨cr,e+1+1,bV,bn,(cN+(1:Int).toNat*1),(cO),?_,?_,?_,?_,?_,?_,?_,?_,?_,?_,?_,dG⟩;all_goals (first|rfl|omega|(simp only[aS,seval,-Int.reduceToNat,ai,ak,al,Z,aa,ad,X,ag,ah,O,U,cv,cw,cx,cy,cz,bB,bb,an,ao,aG,au,ar,aH,aI,aJ,aw,ax,av]<;>rfl))
      ·rintro⟨c8,dr,ds⟩ t H e ⟨b4,cA,bh,aO,cB,cC,bE,bF,bG,aW,aX,aY,aZ,bI,bJ,a1,aL,cQ⟩ c Y;simp only[jC]at Y;have aB:=cQ.fit;have aE:=cQ.eq;simp only[bX]at aB aE;try simp only[aS,seval,-Int.reduceToNat,ai,ak,al,Z,aa,ad,X,ag,ah,O,U,an,ao,aG,au,ar,aH,aI,aJ,aw,ax,av,bE,bF,bG,aW,aX,aY,aZ,bI,bJ,a1,aL,aB,aE]
       apply sp aj Y<;>intro _ Y
       ·obtain⟨eg,dK,Y⟩:=ae Y;have bj:=bC (eI .i64) dK;simp only[bX]at bj;obtain⟨eh,cF,Y⟩:=ae Y;have aM:=bC (eI .i64) cF;simp only[bX]at aM;try simp only[aS,seval,-Int.reduceToNat,ai,ak,al,Z,aa,ad,X,ag,ah,O,U,an,ao,aG,au,ar,aH,aI,aJ,aw,ax,av,bE,bF,bG,aW,aX,aY,aZ,bI,bJ,a1,aL,aB,aE,bj,aM]
        apply sp aj Y<;>intro _ Y
        ·obtain⟨dL,dM,Y⟩:=ae Y;have cG:=bC (eI .i64) dM;simp only[bX]at cG;have aM:=bC (eI .i64) cF;simp only[bX]at aM;have cR:=fP (eI .i64) (x':=IntKind.i64.wrap (dL+1)) (fo:=0) (cs:=[.int .i64 (IntKind.i64.wrap (dL+1))]) cF rfl (ahr rfl);simp only[bX,Nat.add_zero]at cR;have cH:=cR;simp only[putCells,List.length_cons,List.length_nil,agt,Nat.reduceAdd]at cH;obtain⟨dN,dO,Y⟩:=ae Y;obtain⟨c9,cI,da,db⟩:=ir (eI .i64) dO;simp only[bX]at cI;cases Y;try simp only[aS,seval,-Int.reduceToNat,ai,ak,al,Z,aa,ad,X,ag,ah,O,U,an,ao,aG,au,ar,aH,aI,aJ,aw,ax,av,bE,bF,bG,aW,aX,aY,aZ,bI,bJ,a1,aL,aB,aE,bj,aM,cG,aM,cR,cH,c9,cI,da,db]
         apply iP;refine⟨b4,e+1+1+1+1,bh,aO,0,(ab (eI .i64) dN),?_,?_,?_,?_,?_,?_,?_,?_,?_,?_,?_,(sg.self (eI .i64) dN)⟩;all_goals (first|rfl|omega|(simp only[aS,seval,-Int.reduceToNat,ai,ak,al,Z,aa,ad,X,ag,ah,O,U,an,ao,aG,au,ar,aH,aI,aJ,aw,ax,av,bE,bF,bG,aW,aX,aY,aZ,bI,bJ,a1,aL,aB,aE,bj,aM,cG,aM,cR,cH,c9,cI,da,db]<;>rfl))
        ·cases Y;try simp only[aS,seval,-Int.reduceToNat,ai,ak,al,Z,aa,ad,X,ag,ah,O,U,an,ao,aG,au,ar,aH,aI,aJ,aw,ax,av,bE,bF,bG,aW,aX,aY,aZ,bI,bJ,a1,aL,aB,aE,bj,aM]
         apply iP;refine⟨b4,cA,bh,aO,cB,cC,?_,?_,?_,?_,?_,?_,?_,?_,?_,?_,?_,cQ⟩;all_goals (first|rfl|omega|(simp only[aS,seval,-Int.reduceToNat,ai,ak,al,Z,aa,ad,X,ag,ah,O,U,an,ao,aG,au,ar,aH,aI,aJ,aw,ax,av,bE,bF,bG,aW,aX,aY,aZ,bI,bJ,a1,aL,aB,aE,bj,aM]<;>rfl))
       ·cases Y;try simp only[aS,seval,-Int.reduceToNat,ai,ak,al,Z,aa,ad,X,ag,ah,O,U,an,ao,aG,au,ar,aH,aI,aJ,aw,ax,av,bE,bF,bG,aW,aX,aY,aZ,bI,bJ,a1,aL,aB,aE]
        apply jW;refine⟨rfl,⟨b4,cA,bh,aO,cB,cC,?_,?_,?_,?_,?_,?_,?_,cQ⟩⟩;all_goals (first|rfl|omega|(simp only[aS,seval,-Int.reduceToNat,ai,ak,al,Z,aa,ad,X,ag,ah,O,U,an,ao,aG,au,ar,aH,aI,aJ,aw,ax,av,bE,bF,bG,aW,aX,aY,aZ,bI,bJ,a1,aL,aB,aE]<;>rfl))
      ·rintro x t H e hx;rcases dS with⟨cD,cE⟩;dsimp only at hx Y;obtain⟨rfl,⟨bW,bY,bo,a8,bZ,b1,dc,dd,de,df,dh,cJ,b2,cK⟩⟩:=hx;have bp:=cK.fit;have bq:=cK.eq;simp only[bX]at bp bq;cases Y;try simp only[aS,seval,-Int.reduceToNat,ai,ak,al,Z,aa,ad,X,ag,ah,O,U,an,ao,aG,au,ar,aH,aI,aJ,aw,ax,av,av,dc,dd,de,df,dh,cJ,b2,bp,bq]
       apply iP;refine⟨bW,bY,bo,a8,bZ,b1,?_,?_,?_,?_,?_,?_,?_,cK⟩;all_goals (first|rfl|omega|(simp only[aS,seval,-Int.reduceToNat,ai,ak,al,Z,aa,ad,X,ag,ah,O,U,an,ao,aG,au,ar,aH,aI,aJ,aw,ax,av,av,dc,dd,de,df,dh,cJ,b2,bp,bq]<;>rfl))
     ·cases Y;try simp only[aS,seval,-Int.reduceToNat,ai,ak,al,Z,aa,ad,X,ag,ah,O,U,cv,cw,cx,cy,cz,bB,bb,an,ao]
      apply jW;refine⟨rfl,⟨cr,?_⟩⟩;and_intros<;>first|rfl|(simp only[aS,seval,-Int.reduceToNat,ai,ak,al,Z,aa,ad,X,ag,ah,O,U,cv,cw,cx,cy,cz,bB,bb,an,ao]<;>rfl)
    ·rintro x t H e hx;obtain⟨ct,rfl⟩:∃z,z=dR:=⟨_,rfl⟩;dsimp only at hx Y;obtain⟨rfl,⟨cu,dT⟩⟩:=hx;cases Y;try simp only[aS,seval,-Int.reduceToNat,ai,ak,al,Z,aa,ad,X,ag,ah,O,U,dT]
def hX (l:Option (D×Row)) (d:List D):=dP (gX (mG (eI .i64)) (dL (mG (eI .i64)))) (fun x:(List Int)×(List Int)=>fm x.1 x.2) (fun r:Bool =>.clean (.bool r)) l d
theorem rX:bT prog 20 hX:=bT.gJ (mode := .clean) tok bF.none mixed func20 (by kernel_rfl) (fun _ _=>rfl) (fun _=>by kernel_rfl) fun⟨p0,p1⟩ r O=>by
 replace O:fm p0 p1=some r:=O;apply aF rfl ntmps20 results20;simp only[gK];unfold fm at O;try simp only[w,seval]
 apply sp aj O<;>intro _ O
 ·cases O;try simp only[w,seval]
 ·try simp only[w,seval]
  obtain⟨o6,aa,O⟩:=ae O;refine aC (fun s t H e=>match s with|Z=>t 0=.sl false false p0.length (ab (eI .i64) p0)∧t 1=.sl false false p1.length (ab (eI .i64) p1)∧t 5=.int .i64 Z) (fun o x t H e=>match o with|(.inl _)=>x=.exit 0|(.inr r)=>x=.ret∧fH .clean tab none [.tmp 4] ⟨t,EH H,e⟩=some (.clean (.bool r),none)) aa ?_ ?_ ?_
  ·and_intros<;>first|rfl|(simp only[w,seval]<;>rfl)
  ·rintro Z t H e Y c O;simp only[kl]at O;try simp only[w,seval,Y]
   apply sp aj O<;>intro _ O
   ·obtain⟨x8,ad,O⟩:=ae O;have U:=bC (eI .i64) ad;simp only[bX]at U;obtain⟨x9,ag,O⟩:=ae O;have X:=bC (eI .i64) ag;simp only[bX]at X;try simp only[w,seval,Y,U,X]
    refine bH (by kernel_rfl) ?_;try simp only[w,seval,Y,U,X]
    apply sp aj O<;>intro _ O
    ·cases O;try simp only[w,seval,Y,U,X]
     refine rv ⟨rfl,?_⟩;try simp only[w,seval,Y,U,X]
    ·cases O;try simp only[w,seval,Y,U,X]
     apply iP;and_intros<;>first|rfl|(simp only[w,seval,Y,U,X]<;>rfl)
   ·cases O;try simp only[w,seval,Y]
    apply jW;exact rfl
  ·rintro x t H e hx;rcases o6 with _|ra
   ·dsimp only at hx O;subst hx;cases O;try simp only[w,seval]
   ·dsimp only at hx O;obtain⟨rfl,hE⟩:=hx;cases O;try simp only[bc,aX,bj,cJ,cG,cc,cd]
    exact hE
def qJ (l:Option (D×Row)) (d:List D):=dP (gX (bt qg) (dL (aI .i64))) (fun x:eM×Int=>xo x.1 x.2) (fun r:aw =>.clean (.agg [.int .i64 r.cD.ah,.sl false false r.cD.aa.length (ab (eI .i64) r.cD.aa),.int .i64 r.cw.ah,.sl false false r.cw.aa.length (ab (eI .i64) r.cw.aa)])) l d
theorem adB {β:Type} {F:eM×Int->Option β} {R:β->RK} (U:Int) (O:(List bG)) (X:Int):dP (gX (bt qg) (dL (aI .i64))) F R none [.agg [.int .i64 U,.sl false false O.length (ab bD O)],.int .i64 X]=(F ((eM.mk U O),X)).map fun r=>(R r,none):=cI _ _ _ ((eM.mk U O),X)
def vO:Env:=(Am.ext (Am.ext (Am.ext bk 15 false fS) 35 false ca) 50 false fT)
theorem L8:bF prog vO:=(((bF.none.add rE false).add iH false).add rF false)
theorem oY:type_of% (ai @w<|ai @A1<|ai @fS.eq_1<|ai @A0<|ai @ca.eq_1<|ai @fT.eq_1<|@vO.eq_1):=⟨@w,@A1,@fS.eq_1,@A0,@ca.eq_1,@fT.eq_1,@vO.eq_1⟩
theorem NT:bT prog 18 qJ:=bT.gJ (mode := .clean) tok L8 mixed func18 (by kernel_rfl) (fun _ _=>rfl) (fun _=>by kernel_rfl) fun⟨p0,p1⟩ r O=>by
 replace O:xo p0 p1=some r:=O;apply aF rfl ntmps18 results18;simp only[gK];unfold xo at O;obtain⟨r1,U,O⟩:=ae O;try simp only[oY,seval,U]
 apply sp aO O<;>intro _ O
 ·cases O;try simp only[oY,seval,U]
 ·obtain⟨r3,X,O⟩:=ae O;try simp only[oY,seval,U,X]
  apply sp aj O<;>intro _ O
  ·cases O;try simp only[oY,seval,U,X]
  ·obtain⟨r5,Z,O⟩:=ae O;obtain⟨x6,aa,O⟩:=ae O;have Y:=bC aD aa;simp only[bX]at Y;cases O;try simp only[oY,seval,U,X,Z,Y]
def my (l:Option (D×Row)) (d:List D):=dP (dL (bt qg)) (fun x:eM=>pB x) (fun r:(List Int) =>.clean (.sl false false r.length (ab (eI .i64) r))) l d
def pT:Env:=(Am.ext bk 21 false fR)
theorem CX:bF prog pT:=(bF.none.add rD false)
theorem ec:type_of% (ai @w<|ai @A1<|ai @fR.eq_1<|@pT.eq_1):=⟨@w,@A1,@fR.eq_1,@pT.eq_1⟩
theorem DR:bT prog 23 my:=bT.gJ (mode := .clean) tok CX mixed func23 (by kernel_rfl) (fun _ _=>rfl) (fun _=>by kernel_rfl) fun p0 r U=>by
 replace U:pB p0=some r:=U;apply aF rfl ntmps23 results23;simp only[gK];unfold pB at U;obtain⟨r1,O,U⟩:=ae U;try simp only[ec,seval,O]
 obtain⟨o7,ao,U⟩:=ae U;refine aC (fun s t H e=>match s with|(al,ak)=>∃Y:Nat,t 3=.buf 3 Y 1 0 (ak).length∧t 7=.sl false false r1.length (ab (eI .i64) r1)∧t 8=.int .i64 (r1.length:Int)∧t 9=.int .i64 al∧H 3=some ⟨Y,3,ab (eI .i64) ak,false,true,false⟩) (fun o x t H e=>match o with|Z=>x=.exit 0∧∃aa:Nat,t 3=.buf 3 aa 1 0 (Z).length∧H 3=some ⟨aa,3,ab (eI .i64) Z,false,true,false⟩) ao ?_ ?_ ?_
 ·refine⟨1,?_⟩;and_intros<;>first|rfl|(simp only[ec,seval,O]<;>rfl)
 ·rintro⟨al,ak⟩ t H e ⟨Y,Za⟩ c U;simp only[tr]at U;try simp only[ec,seval,O,Za]
  apply sp aj U<;>intro _ U
  ·obtain⟨x9,aq,U⟩:=ae U;have X:=bC (eI .i64) aq;simp only[bX]at X;try simp only[ec,seval,O,Za,X]
   apply sp aj U<;>intro _ U
   ·obtain⟨au,an,U⟩:=ae U;obtain⟨ag,ad,ah,ai⟩:=ir (eI .i64) an;simp only[bX]at ad;cases U;try simp only[ec,seval,O,Za,X,ag,ad,ah,ai]
    apply iP;refine⟨e+1+1+1,?_⟩;and_intros<;>first|rfl|(simp only[ec,seval,O,Za,X,ag,ad,ah,ai]<;>rfl)
   ·cases U;try simp only[ec,seval,O,Za,X]
    apply iP;refine⟨Y,?_⟩;and_intros<;>first|rfl|(simp only[ec,seval,O,Za,X]<;>rfl)
  ·cases U;try simp only[ec,seval,O,Za]
   apply jW;refine⟨rfl,⟨Y,?_⟩⟩;and_intros<;>first|rfl|(simp only[ec,seval,O,Za]<;>rfl)
 ·rintro x t H e hx;obtain⟨Z,rfl⟩:∃z,z=o7:=⟨_,rfl⟩;dsimp only at hx U;obtain⟨rfl,⟨aa,ar⟩⟩:=hx;cases U;try simp only[ec,seval,O,ar]
def qI (l:Option (D×Row)) (d:List D):=dP (as0) (fun x:Unit=>tl) (fun r:Bool =>.clean (.bool r)) l d
theorem wk (X:Int) (O:(List bG)) (Y:Int) (U:(List bG)):lT none [.agg [.int .i64 X,.sl false false O.length (ab bD O)],.agg [.int .i64 Y,.sl false false U.length (ab bD U)]]=(j0 (eM.mk X O) (eM.mk Y U)).map fun r:Bool=>(.clean (.bool r),none):=cI _ _ _ ((eM.mk X O),(eM.mk Y U))
theorem jf (O:(List Int)) (U:(List Int)):hX none [.sl false false O.length (ab (eI .i64) O),.sl false false U.length (ab (eI .i64) U)]=(fm O U).map fun r:Bool=>(.clean (.bool r),none):=cI _ _ _ (O,U)
def vN:Env:=(Am.ext (Am.ext (Am.ext (Am.ext (Am.ext (Am.ext (Am.ext (Am.ext (Am.ext (Am.ext (Am.ext (Am.ext bk 10 false fQ) 12 false oa) 14 false lT) 15 false fS) 17 false kq) 18 false qJ) 20 false hX) 21 false fR) 23 false my) 25 false lR) 31 false mv) 32 false qH)
theorem L7:bF prog vN:=((((((((((((bF.none.add rC false).add HE false).add Ag false).add rE false).add Af false).add NT false).add rX false).add rD false).add DR false).add DX false).add DP false).add NR false)
theorem bY:type_of% (ai @w<|ai @U6<|ai @fQ.eq_1<|ai @oa.eq_1<|ai @wk<|ai @A1<|ai @fS.eq_1<|ai @uT<|ai @kq.eq_1<|ai @adB<|ai @qJ.eq_1<|ai @jf<|ai @fR.eq_1<|ai @my.eq_1<|ai @Kc<|ai @lR.eq_1<|ai @adu<|ai @mv.eq_1<|ai @sh8<|ai @qH.eq_1<|@vN.eq_1):=⟨@w,@U6,@fQ.eq_1,@oa.eq_1,@wk,@A1,@fS.eq_1,@uT,@kq.eq_1,@adB,@qJ.eq_1,@jf,@fR.eq_1,@my.eq_1,@Kc,@lR.eq_1,@adu,@mv.eq_1,@sh8,@qH.eq_1,@vN.eq_1⟩
theorem NS:bT prog 7 qI:=bT.gJ (mode := .clean) tok L7 mixed func7 (by kernel_rfl) (fun _ _=>rfl) (fun _=>by kernel_rfl) fun _ r O=>by
 replace O:tl=some r:=O;apply aF rfl ntmps7 results7;simp only[gK];unfold tl at O;obtain⟨r1,U,O⟩:=ae O;obtain⟨r2,X,O⟩:=ae O;obtain⟨r3,Y,O⟩:=ae O;try simp only[bY,seval,U,X,Y]
 obtain⟨o4,az,O⟩:=ae O;refine bz 0 (fun s t H e=>match s with|av=>t 41=.bool av) (fun s=>s=o4) ?_ ?_
 ·rintro av t H e ad rfl;try dsimp only at O
  try simp only[bY,seval,U,X,Y,ad]
  apply sp aj O<;>intro _ O
  ·cases O;try simp only[bY,seval,U,X,Y,ad]
  ·obtain⟨r6,ah,O⟩:=ae O;obtain⟨r7,ai,O⟩:=ae O;obtain⟨r8,ak,O⟩:=ae O;obtain⟨r9,an,O⟩:=ae O;obtain⟨aE,Z,O⟩:=ae O;try simp only[bY,seval,U,X,Y,ad,ah,ai,ak,an,Z]
   apply sp eW O<;>intro _ O
   ·obtain⟨aB,aa,O⟩:=ae O;have i13:=jf aB ([(-1),(-1)]);simp only[bh,bX,List.length_cons,List.length_nil,agt,Nat.reduceAdd,ahI]at i13;obtain⟨aG,ab,O⟩:=ae O;try simp only[bY,seval,U,X,Y,ad,ah,ai,ak,an,Z,aa,i13,ab]
    apply sp eW O<;>intro _ O
    ·obtain⟨aC,ao,O⟩:=ae O;have i17:=jf aC ([0,1]);simp only[bh,bX,List.length_cons,List.length_nil,agt,Nat.reduceAdd,ahI]at i17;obtain⟨aH,aq,O⟩:=ae O;try simp only[bY,seval,U,X,Y,ad,ah,ai,ak,an,Z,aa,i13,ab,ao,i17,aq]
     apply sp eW O<;>intro _ O
     ·try simp only[bY,seval,U,X,Y,ad,ah,ai,ak,an,Z,aa,i13,ab,ao,i17,aq]
      apply sp eW O<;>intro _ O
      ·try simp only[bY,seval,U,X,Y,ad,ah,ai,ak,an,Z,aa,i13,ab,ao,i17,aq]
       apply sp eW O<;>intro _ O
       ·obtain⟨aI,ay,O⟩:=ae O;cases O;try simp only[bY,seval,U,X,Y,ad,ah,ai,ak,an,Z,aa,i13,ab,ao,i17,aq,ay]
       ·cases O;try simp only[bY,seval,U,X,Y,ad,ah,ai,ak,an,Z,aa,i13,ab,ao,i17,aq]
      ·cases O;try simp only[bY,seval,U,X,Y,ad,ah,ai,ak,an,Z,aa,i13,ab,ao,i17,aq]
     ·cases O;try simp only[bY,seval,U,X,Y,ad,ah,ai,ak,an,Z,aa,i13,ab,ao,i17,aq]
    ·cases O;try simp only[bY,seval,U,X,Y,ad,ah,ai,ak,an,Z,aa,i13,ab]
   ·cases O;try simp only[bY,seval,U,X,Y,ad,ah,ai,ak,an,Z]
 ·clear O;have O:=az;try simp only[bY,seval,U,X,Y]
  apply sp aO O<;>intro _ O
  ·cases O;try simp only[bY,seval,U,X,Y]
   rw[al];refine⟨_,rfl,?_⟩;refine ?_;all_goals first|rfl|(simp only[bY,seval,U,X,Y]<;>rfl)
  ·have i24:=wk r3.1.aA r3.1.aN 2 ([(bG.mk 0 1 r1),(bG.mk 1 0 r1)]);simp only[bh,bX,List.length_cons,List.length_nil,agt,Nat.reduceAdd,ahI]at i24;obtain⟨aJ,ag,O⟩:=ae O;try simp only[bY,seval,U,X,Y,i24,ag]
   apply sp aO O<;>intro _ O
   ·cases O;try simp only[bY,seval,U,X,Y,i24,ag]
    rw[al];refine⟨_,rfl,?_⟩;refine ?_;all_goals first|rfl|(simp only[bY,seval,U,X,Y,i24,ag]<;>rfl)
   ·obtain⟨aD,ar,O⟩:=ae O;have i28:=jf aD ([0,0]);simp only[bh,bX,List.length_cons,List.length_nil,agt,Nat.reduceAdd,ahI]at i28;obtain⟨aK,au,O⟩:=ae O;try simp only[bY,seval,U,X,Y,i24,ag,ar,i28,au]
    apply sp aO O<;>intro _ O
    ·cases O;try simp only[bY,seval,U,X,Y,i24,ag,ar,i28,au]
     rw[al];refine⟨_,rfl,?_⟩;refine ?_;all_goals first|rfl|(simp only[bY,seval,U,X,Y,i24,ag,ar,i28,au]<;>rfl)
    ·obtain⟨aL,aw,O⟩:=ae O;obtain⟨aM,ax,O⟩:=ae O;cases O;try simp only[bY,seval,U,X,Y,i24,ag,ar,i28,au,aw,ax]
     rw[al];refine⟨_,rfl,?_⟩;refine ?_;all_goals first|rfl|(simp only[bY,seval,U,X,Y,i24,ag,ar,i28,au,aw,ax]<;>rfl)
def tR (l:Option (D×Row)) (d:List D):=dP (gX (bt aD) (dL (aI .i64))) (fun x:aw×Int=>uA x.1 x.2) (fun r:Bool =>.clean (.bool r)) l d
theorem adC {β:Type} {F:aw×Int->Option β} {R:β->RK} (X:Int) (O:(List Int)) (Y:Int) (U:(List Int)) (Z:Int):dP (gX (bt aD) (dL (aI .i64))) F R none [.agg [.int .i64 X,.sl false false O.length (ab (eI .i64) O),.int .i64 Y,.sl false false U.length (ab (eI .i64) U)],.int .i64 Z]=(F ((aw.mk (az.mk X O) (az.mk Y U)),Z)).map fun r=>(R r,none):=cI _ _ _ ((aw.mk (az.mk X O) (az.mk Y U)),Z)
theorem Qw:bT prog 34 tR:=bT.gJ (mode := .clean) tok bF.none mixed func34 (by kernel_rfl) (fun _ _=>rfl) (fun _=>by kernel_rfl) fun⟨U,X⟩ r O=>by
 replace O:uA U X=some r:=O;apply aF rfl ntmps34 results34;simp only[gK];unfold uA at O;try simp only[w,seval]
 apply sp eW O<;>intro _ O
 ·cases O;try simp only[w,seval]
 ·cases O;try simp only[w,seval]
def mC (l:Option (D×Row)) (d:List D):=dP (dL (bt vw)) (fun x:fJ=>ji x) (fun r:Bool =>.clean (.bool r)) l d
def pW:Env:=(Am.ext bk 34 false tR)
theorem C0:bF prog pW:=(bF.none.add Qw false)
theorem aQ:type_of% (ai @w<|ai @adC<|ai @tR.eq_1<|@pW.eq_1):=⟨@w,@adC,@tR.eq_1,@pW.eq_1⟩
theorem D0:bT prog 33 mC:=bT.gJ (mode := .clean) tok C0 mixed func33 (by kernel_rfl) (fun _ _=>rfl) (fun _=>by kernel_rfl) fun X r U=>by
 replace U:ji X=some r:=U;apply aF rfl ntmps33 results33;simp only[gK];unfold ji at U;try simp only[aQ,seval]
 obtain⟨o1,ay,U⟩:=ae U;refine bz 0 (fun s t H e=>match s with|ag=>∃aa:Nat,t 1=.ptr 1 aa 0∧t 20=.bool ag∧H 1=some ⟨aa,52,[.sl false false X.ak.length (ab bg X.ak),.sl false false X.aH.length (ab dO X.aH),.sl false false X.aB.length (ab (jM aD) X.aB)],false,false,false⟩) (fun s=>s=o1) ?_ ?_
 ·rintro ag t H e ⟨aa,an⟩ rfl;try dsimp only at U
  try simp only[aQ,seval,an]
  apply sp aj U<;>intro _ U
  ·cases U;try simp only[aQ,seval,an]
  ·try simp only[aQ,seval,an]
   obtain⟨az,ar,U⟩:=ae U;refine aC (fun s t H e=>match s with|ao=>∃aq:Nat,t 1=.ptr 1 aq 0∧t 3=.int .i64 ao∧H 1=some ⟨aq,52,[.sl false false X.ak.length (ab bg X.ak),.sl false false X.aH.length (ab dO X.aH),.sl false false X.aB.length (ab (jM aD) X.aB)],false,false,false⟩) (fun o x t H e=>match o with|(.inl _)=>x=.exit 0|(.inr r)=>x=.ret∧fH .clean tab none [.tmp 2] ⟨t,EH H,e⟩=some (.clean (.bool r),none)) ar ?_ ?_ ?_
   ·refine⟨aa,?_⟩;and_intros<;>first|rfl|(simp only[aQ,seval,an]<;>rfl)
   ·rintro ao t H e ⟨aq,Zb⟩ c U;simp only[ly]at U;try simp only[aQ,seval,Zb]
    apply sp aj U<;>intro _ U
    ·obtain⟨aE,ah,U⟩:=ae U;have O:=bC (jM aD) ah;simp only[bX]at O;try simp only[aQ,seval,Zb,O]
     apply sp aj U<;>intro _ U
     ·cases U;try simp only[aQ,seval,Zb,O]
      refine rv ⟨rfl,?_⟩;try simp only[aQ,seval,Zb,O]
     ·try simp only[aQ,seval,Zb,O]
      obtain⟨aA,au,U⟩:=ae U;refine aC (fun s t H e=>match s with|av=>∃ai:Nat,t 1=.ptr 1 ai 0∧t 3=.int .i64 ao∧t 4=.int .i64 av∧H 1=some ⟨ai,52,[.sl false false X.ak.length (ab bg X.ak),.sl false false X.aH.length (ab dO X.aH),.sl false false X.aB.length (ab (jM aD) X.aB)],false,false,false⟩) (fun o x t H e=>match o with|(.inl _)=>x=.exit 2∧∃ad:Nat,t 1=.ptr 1 ad 0∧t 3=.int .i64 ao∧H 1=some ⟨ad,52,[.sl false false X.ak.length (ab bg X.ak),.sl false false X.aH.length (ab dO X.aH),.sl false false X.aB.length (ab (jM aD) X.aB)],false,false,false⟩|(.inr r)=>x=.ret∧fH .clean tab none [.tmp 2] ⟨t,EH H,e⟩=some (.clean (.bool r),none)) au ?_ ?_ ?_
      ·refine⟨aq,?_⟩;and_intros<;>first|rfl|(simp only[aQ,seval,Zb,O]<;>rfl)
      ·rintro av t H e ⟨ai,Zd⟩ c U;simp only[dX]at U;have O:=bC (jM aD) ah;simp only[bX]at O;try simp only[aQ,seval,O,Zd,O]
       apply sp aj U<;>intro _ U
       ·have O:=bC (jM aD) ah;simp only[bX]at O;obtain⟨aG,aw,U⟩:=ae U;have Y:=bC aD aw;simp only[bX]at Y;obtain⟨aI,Z,U⟩:=ae U;try simp only[aQ,seval,O,Zd,O,O,Y,Z]
        apply sp aj U<;>intro _ U
        ·cases U;try simp only[aQ,seval,O,Zd,O,O,Y,Z]
         refine rv ⟨rfl,?_⟩;try simp only[aQ,seval,O,Zd,O,O,Y,Z]
        ·cases U;try simp only[aQ,seval,O,Zd,O,O,Y,Z]
         apply iP;refine⟨ai,?_⟩;and_intros<;>first|rfl|(simp only[aQ,seval,O,Zd,O,O,Y,Z]<;>rfl)
       ·cases U;try simp only[aQ,seval,O,Zd,O]
        apply jW;refine⟨rfl,⟨ai,?_⟩⟩;and_intros<;>first|rfl|(simp only[aQ,seval,O,Zd,O]<;>rfl)
      ·rintro x t H e hx;rcases aA with _|rd
       ·dsimp only at hx U;obtain⟨rfl,⟨ad,ax⟩⟩:=hx;cases U;try simp only[aQ,seval,O,ax]
        apply iP;refine⟨ad,?_⟩;and_intros<;>first|rfl|(simp only[aQ,seval,O,ax]<;>rfl)
       ·dsimp only at hx U;obtain⟨rfl,hE⟩:=hx;cases U;try simp only[bc,aX,bj,cJ,cG,cc,cd]
        apply rv;first|exact⟨rfl,hE⟩|(simp only[aQ,seval]at hE;exact⟨rfl,hE⟩)
    ·cases U;try simp only[aQ,seval,Zb]
     apply jW;exact rfl
   ·rintro x t H e hx;rcases az with _|rb
    ·dsimp only at hx U;subst hx;cases U;try simp only[aQ,seval]
    ·dsimp only at hx U;obtain⟨rfl,hE⟩:=hx;cases U;try simp only[bc,aX,bj,cJ,cG,cc,cd]
     exact hE
 ·clear U;have U:=ay;try simp only[aQ,seval]
  apply sp aO U<;>intro _ U
  ·cases U;try simp only[aQ,seval]
   rw[al];refine⟨_,rfl,?_⟩;refine⟨0,?_⟩;and_intros<;>first|rfl|(simp only[aQ,seval]<;>rfl)
  ·try simp only[aQ,seval]
   apply sp aO U<;>intro _ U
   ·cases U;try simp only[aQ,seval]
    rw[al];refine⟨_,rfl,?_⟩;refine⟨0,?_⟩;and_intros<;>first|rfl|(simp only[aQ,seval]<;>rfl)
   ·cases U;try simp only[aQ,seval]
    rw[al];refine⟨_,rfl,?_⟩;refine⟨0,?_⟩;and_intros<;>first|rfl|(simp only[aQ,seval]<;>rfl)
def tT (l:Option (D×Row)) (d:List D):=dP (dL (bt nJ)) (fun x:bA=>uB x) (fun r:Bool =>.clean (.bool r)) l d
def yH:Env:=(Am.ext bk 33 false mC)
theorem Qc:bF prog yH:=(bF.none.add D0 false)
theorem cz:type_of% (ai @w<|ai @aaj<|ai @mC.eq_1<|@yH.eq_1):=⟨@w,@aaj,@mC.eq_1,@yH.eq_1⟩
theorem Qy:bT prog 8 tT:=bT.gJ (mode := .clean) tok Qc mixed func8 (by kernel_rfl) (fun _ _=>rfl) (fun _=>by kernel_rfl) fun p0 r U=>by
 replace U:uB p0=some r:=U;apply aF rfl ntmps8 results8;simp only[gK];unfold uB at U;try simp only[cz,seval]
 obtain⟨o1,ak,U⟩:=ae U;refine bz 0 (fun s t H e=>match s with|aa=>∃Y:Nat,t 1=.ptr 1 Y 0∧t 13=.bool aa∧H 1=some ⟨Y,25,[.sl false false p0.ax.length (ab (eI .i64) p0.ax),.sl false false p0.ao.length (ab b6 p0.ao)],false,false,false⟩) (fun s=>s=o1) ?_ ?_
 ·rintro aa t H e ⟨Y,ag⟩ rfl;try dsimp only at U
  try simp only[cz,seval,ag]
  apply sp aj U<;>intro _ U
  ·cases U;try simp only[cz,seval,ag]
  ·try simp only[cz,seval,ag]
   obtain⟨o9,an,U⟩:=ae U;refine aC (fun s t H e=>match s with|ai=>∃ah:Nat,t 1=.ptr 1 ah 0∧t 3=.int .i64 ai∧H 1=some ⟨ah,25,[.sl false false p0.ax.length (ab (eI .i64) p0.ax),.sl false false p0.ao.length (ab b6 p0.ao)],false,false,false⟩) (fun o x t H e=>match o with|(.inl _)=>x=.exit 0|(.inr r)=>x=.ret∧fH .clean tab none [.tmp 2] ⟨t,EH H,e⟩=some (.clean (.bool r),none)) an ?_ ?_ ?_
   ·refine⟨Y,?_⟩;and_intros<;>first|rfl|(simp only[cz,seval,ag]<;>rfl)
   ·rintro ai t H e ⟨ah,Z⟩ c U;simp only[rI]at U;try simp only[cz,seval,Z]
    apply sp aj U<;>intro _ U
    ·obtain⟨aq,ad,U⟩:=ae U;have O:=bC b6 ad;simp only[bX]at O;obtain⟨ar,X,U⟩:=ae U;try simp only[cz,seval,Z,O,X]
     apply sp aO U<;>intro _ U
     ·cases U;try simp only[cz,seval,Z,O,X]
      refine rv ⟨rfl,?_⟩;try simp only[cz,seval,Z,O,X]
     ·have O:=bC b6 ad;simp only[bX]at O;try simp only[cz,seval,Z,O,X,O]
      apply sp aO U<;>intro _ U
      ·cases U;try simp only[cz,seval,Z,O,X,O]
       refine rv ⟨rfl,?_⟩;try simp only[cz,seval,Z,O,X,O]
      ·have O:=bC b6 ad;simp only[bX]at O;try simp only[cz,seval,Z,O,X,O,O]
       apply sp aj U<;>intro _ U
       ·cases U;try simp only[cz,seval,Z,O,X,O,O]
        refine rv ⟨rfl,?_⟩;try simp only[cz,seval,Z,O,X,O,O]
       ·cases U;try simp only[cz,seval,Z,O,X,O,O]
        apply iP;refine⟨ah,?_⟩;and_intros<;>first|rfl|(simp only[cz,seval,Z,O,X,O,O]<;>rfl)
    ·cases U;try simp only[cz,seval,Z]
     apply jW;exact rfl
   ·rintro x t H e hx;rcases o9 with _|rb
    ·dsimp only at hx U;subst hx;cases U;try simp only[cz,seval]
    ·dsimp only at hx U;obtain⟨rfl,hE⟩:=hx;cases U;try simp only[bc,aX,bj,cJ,cG,cc,cd]
     exact hE
 ·clear U;have U:=ak;try simp only[cz,seval]
  apply sp aO U<;>intro _ U
  ·cases U;try simp only[cz,seval]
   rw[al];refine⟨_,rfl,?_⟩;refine⟨0,?_⟩;and_intros<;>first|rfl|(simp only[cz,seval]<;>rfl)
  ·cases U;try simp only[cz,seval]
   rw[al];refine⟨_,rfl,?_⟩;refine⟨0,?_⟩;and_intros<;>first|rfl|(simp only[cz,seval]<;>rfl)
def Br (l:Option (D×Row)) (d:List D):=dP (gX (bt nJ) (dL (aI .u8))) (fun x:bA×Int=>iw x.1 x.2) (fun r:Bool =>.clean (.bool r)) l d
def oL:Env:=(Am.ext (Am.ext (Am.ext (Am.ext (Am.ext (Am.ext (Am.ext bk 7 false qI) 8 false tT) 10 false fQ) 12 false oa) 14 false lT) 20 false hX) 21 false fR)
theorem AN:bF prog oL:=(((((((bF.none.add NS false).add Qy false).add rC false).add HE false).add Ag false).add rX false).add rD false)
theorem aM:type_of% (ai @w<|ai @sh8<|ai @qI.eq_1<|ai @U6<|ai @tT.eq_1<|ai @fQ.eq_1<|ai @oa.eq_1<|ai @adA<|ai @lT.eq_1<|ai @As<|ai @hX.eq_1<|ai @A1<|ai @fR.eq_1<|@oL.eq_1):=⟨@w,@sh8,@qI.eq_1,@U6,@tT.eq_1,@fQ.eq_1,@oa.eq_1,@adA,@lT.eq_1,@As,@hX.eq_1,@A1,@fR.eq_1,@oL.eq_1⟩
theorem AV:bT prog 5 Br:=bT.gJ (mode := .clean) tok AN mixed func5 (by kernel_rfl) (fun _ _=>rfl) (fun _=>by kernel_rfl) fun⟨p0,p1⟩ r hh=>by
 replace hh:iw p0 p1=some r:=hh;apply aF rfl ntmps5 results5;simp only[gK];unfold iw at hh;obtain⟨r1,aw,hh⟩:=ae hh;obtain⟨r2,ay,hh⟩:=ae hh;try simp only[aM,seval,aw,ay]
 obtain⟨o3,aW,hh⟩:=ae hh;refine bz 0 (fun s t H e=>match s with|aK=>∃aG:Nat,t 1=.int .u8 p1∧t 2=.ptr 2 aG 0∧t 5=.bool r1∧t 25=.bool aK∧H 2=some ⟨aG,25,[.sl false false p0.ax.length (ab (eI .i64) p0.ax),.sl false false p0.ao.length (ab b6 p0.ao)],false,false,false⟩) (fun s=>s=o3) ?_ ?_
 ·rintro aK t H e ⟨aG,aE⟩ rfl;try dsimp only at hh
  try simp only[aM,seval,aw,ay,aE]
  apply sp aj hh<;>intro _ hh
  ·cases hh;try simp only[aM,seval,aw,ay,aE]
  ·obtain⟨x5,aX,hh⟩:=ae hh;have q6:=uq aX;obtain⟨x7,aY,hh⟩:=ae hh;obtain⟨aB,aC,aD,aA,az⟩:=QK b6 aY;simp only[bX]at az;obtain⟨x9,aZ,hh⟩:=ae hh;obtain⟨aL,Z,aa⟩:=wF aZ;replace aL:=aL.symm;subst aL;obtain⟨a8,aT,hh⟩:=ae hh;obtain⟨ad,ag,ah,O,U⟩:=Es b6 aT;simp only[bX]at U;have X:=aA;have Y:=az;try simp only[O]at X Y
   obtain⟨ba,aU,hh⟩:=ae hh;obtain⟨ai,ak,an,aq⟩:=RN b6 aU;try simp only[aM,seval,aw,ay,aE,q6,aB,aC,aD,aA,az,Z,aa,ad,ag,ah,O,U,X,Y,ai,ak,an,aq]
   refine bH (by kernel_rfl) ?_;obtain⟨a1,ar,hh⟩:=ae hh;obtain⟨bb,au,hh⟩:=ae hh;obtain⟨a6,av,hh⟩:=ae hh;try simp only[aM,seval,aw,ay,aE,q6,aB,aC,aD,aA,az,Z,aa,ad,ag,ah,O,U,X,Y,ai,ak,an,aq,ar,au,av]
   obtain⟨a7,aV,hh⟩:=ae hh;refine OS 0 (fun s t H e=>match s with|aN=>∃aP:Nat,t 2=.ptr 2 aP 0∧t 5=.bool r1∧t 9=.int .i64 a1.2∧t 13=.int .i64 a6.2∧t 82=.bool aN∧H 2=some ⟨aP,25,[.sl false false p0.ax.length (ab (eI .i64) p0.ax),.sl false false p0.ao.length (ab b6 p0.ao)],false,false,false⟩) (fun s=>s=a7) ?_ ?_
   ·rintro aN t H e ⟨aP,aJ⟩ rfl;try dsimp only at hh
    try simp only[aM,seval,aw,ay,q6,aB,aC,aD,aA,az,Z,aa,ad,ag,ah,O,U,X,Y,ai,ak,an,aq,ar,au,av,aJ]
    apply sp aj hh<;>intro _ hh
    ·cases hh;try simp only[aM,seval,aw,ay,q6,aB,aC,aD,aA,az,Z,aa,ad,ag,ah,O,U,X,Y,ai,ak,an,aq,ar,au,av,aJ]
    ·obtain⟨bc,aI,hh⟩:=ae hh;try simp only[aM,seval,aw,ay,q6,aB,aC,aD,aA,az,Z,aa,ad,ag,ah,O,U,X,Y,ai,ak,an,aq,ar,au,av,aJ,aI]
     apply sp eW hh<;>intro _ hh
     ·try simp only[aM,seval,aw,ay,q6,aB,aC,aD,aA,az,Z,aa,ad,ag,ah,O,U,X,Y,ai,ak,an,aq,ar,au,av,aJ,aI]
      apply sp aO hh<;>intro _ hh
      ·cases hh;try simp only[aM,seval,aw,ay,q6,aB,aC,aD,aA,az,Z,aa,ad,ag,ah,O,U,X,Y,ai,ak,an,aq,ar,au,av,aJ,aI]
      ·cases hh;try simp only[aM,seval,aw,ay,q6,aB,aC,aD,aA,az,Z,aa,ad,ag,ah,O,U,X,Y,ai,ak,an,aq,ar,au,av,aJ,aI]
     ·cases hh;try simp only[aM,seval,aw,ay,q6,aB,aC,aD,aA,az,Z,aa,ad,ag,ah,O,U,X,Y,ai,ak,an,aq,ar,au,av,aJ,aI]
   ·clear hh;have hh:=aV;try simp only[aM,seval,aw,ay,aE,q6,aB,aC,aD,aA,az,Z,aa,ad,ag,ah,O,U,X,Y,ai,ak,an,aq,ar,au,av]
    apply sp mY hh<;>intro _ hh
    ·try simp only[aM,seval,aw,ay,aE,q6,aB,aC,aD,aA,az,Z,aa,ad,ag,ah,O,U,X,Y,ai,ak,an,aq,ar,au,av]
     refine bH (by kernel_rfl) ?_;cases hh;try simp only[aM,seval,aw,ay,aE,q6,aB,aC,aD,aA,az,Z,aa,ad,ag,ah,O,U,X,Y,ai,ak,an,aq,ar,au,av]
     rw[al];refine⟨_,rfl,?_⟩;refine⟨aG,?_⟩;and_intros<;>first|rfl|(simp only[aM,seval,aw,ay,aE,q6,aB,aC,aD,aA,az,Z,aa,ad,ag,ah,O,U,X,Y,ai,ak,an,aq,ar,au,av]<;>rfl)
    ·try simp only[aM,seval,aw,ay,aE,q6,aB,aC,aD,aA,az,Z,aa,ad,ag,ah,O,U,X,Y,ai,ak,an,aq,ar,au,av]
     apply sp mY hh<;>intro _ hh
     ·try simp only[aM,seval,aw,ay,aE,q6,aB,aC,aD,aA,az,Z,aa,ad,ag,ah,O,U,X,Y,ai,ak,an,aq,ar,au,av]
      refine bH (by kernel_rfl) ?_;cases hh;try simp only[aM,seval,aw,ay,aE,q6,aB,aC,aD,aA,az,Z,aa,ad,ag,ah,O,U,X,Y,ai,ak,an,aq,ar,au,av]
      rw[al];refine⟨_,rfl,?_⟩;refine⟨aG,?_⟩;and_intros<;>first|rfl|(simp only[aM,seval,aw,ay,aE,q6,aB,aC,aD,aA,az,Z,aa,ad,ag,ah,O,U,X,Y,ai,ak,an,aq,ar,au,av]<;>rfl)
     ·obtain⟨bd,aH,hh⟩:=ae hh;try simp only[aM,seval,aw,ay,aE,q6,aB,aC,aD,aA,az,Z,aa,ad,ag,ah,O,U,X,Y,ai,ak,an,aq,ar,au,av,aH]
      apply sp mY hh<;>intro _ hh
      ·try simp only[aM,seval,aw,ay,aE,q6,aB,aC,aD,aA,az,Z,aa,ad,ag,ah,O,U,X,Y,ai,ak,an,aq,ar,au,av,aH]
       refine bH (by kernel_rfl) ?_;cases hh;try simp only[aM,seval,aw,ay,aE,q6,aB,aC,aD,aA,az,Z,aa,ad,ag,ah,O,U,X,Y,ai,ak,an,aq,ar,au,av,aH]
       rw[al];refine⟨_,rfl,?_⟩;refine⟨aG,?_⟩;and_intros<;>first|rfl|(simp only[aM,seval,aw,ay,aE,q6,aB,aC,aD,aA,az,Z,aa,ad,ag,ah,O,U,X,Y,ai,ak,an,aq,ar,au,av,aH]<;>rfl)
      ·obtain⟨bf,aQ,hh⟩:=ae hh;obtain⟨bg,aR,hh⟩:=ae hh;obtain⟨bh,aS,hh⟩:=ae hh;try simp only[aM,seval,aw,ay,aE,q6,aB,aC,aD,aA,az,Z,aa,ad,ag,ah,O,U,X,Y,ai,ak,an,aq,ar,au,av,aH,aQ,aR,aS]
       refine bH (by kernel_rfl) ?_;cases hh;try simp only[aM,seval,aw,ay,aE,q6,aB,aC,aD,aA,az,Z,aa,ad,ag,ah,O,U,X,Y,ai,ak,an,aq,ar,au,av,aH,aQ,aR,aS]
       rw[al];refine⟨_,rfl,?_⟩;refine⟨aG,?_⟩;and_intros<;>first|rfl|(simp only[aM,seval,aw,ay,aE,q6,aB,aC,aD,aA,az,Z,aa,ad,ag,ah,O,U,X,Y,ai,ak,an,aq,ar,au,av,aH,aQ,aR,aS]<;>rfl)
 ·clear hh;have hh:=aW;try simp only[aM,seval,aw,ay]
  apply sp aO hh<;>intro _ hh
  ·cases hh;try simp only[aM,seval,aw,ay]
   rw[al];refine⟨_,rfl,?_⟩;refine⟨0,?_⟩;and_intros<;>first|rfl|(simp only[aM,seval,aw,ay]<;>rfl)
  ·cases hh;try simp only[aM,seval,aw,ay]
   rw[al];refine⟨_,rfl,?_⟩;refine⟨0,?_⟩;and_intros<;>first|rfl|(simp only[aM,seval,aw,ay]<;>rfl)
end Go.Proofs.YtoioidmblipblaaGreat.Am
namespace Go.Proofs.YtoioidmblipblaaGreat.Am
open Go.ChangeShapes Go.WideShapes Go.ChangeAt Go.RowKit Go.Proofs.YtoioidmblipblaaGreat.P
set_option maxRecDepth 100000
theorem Tryz.own:ownKnob Tryz.prog.godebug=none:=by kernel_rfl
theorem Tryz.laidOut:laidOutB prog=true:=by kernel_rfl
theorem Fi (n:Nat):AF tab (n+1) 3 (eI .i64) (fun x=>(Lit.int .i64 x).wf=true):=opI TR rfl rfl
theorem X1 (n:Nat):AF tab (n+2) 22 (jM (eI .i64)) (fun x=>(x.length*8<=140737488351232∧∀y∈x,(Lit.int .i64 y).wf=true)):=Qz JT rfl rfl (by rw[TR];rfl) (Fi n)
def v7 (x:gn):Prop:=(Lit.int .i64 x.bu).wf=true∧((Lit.int .i64 x.a7).wf=true∧((Lit.int .i64 x.aL).wf=true))
theorem adn (n:Nat):AF tab (n+2) 95 bg (fun x=>v7 x):=opS (g:=fun y=>gn.mk y.1 y.2.1 y.2.2) JZ rfl rfl (fun _=>rfl) (yT (Fi n) rfl (yT (Fi n) rfl (NY (Fi n))))
theorem adf (n:Nat):AF tab (n+3) 48 (jM bg) (fun x=>(x.length*24<=140737488351232∧∀y∈x,v7 y)):=Qz QP rfl rfl (by rw[JZ];rfl) (adn n)
theorem aeW (n:Nat):AF tab (n+1) 9 W2 (fun x=>x.size<=140737488351232):=ac9 YR rfl rfl
def Jw (x:sr):Prop:=(Lit.int .i64 x.bu).wf=true∧((Lit.int .i64 x.a7).wf=true∧((Lit.int .i64 x.aL).wf=true∧(x.CJ.size<=140737488351232)))
theorem ado (n:Nat):AF tab (n+2) 97 dO (fun x=>Jw x):=opS (g:=fun y=>sr.mk y.1 y.2.1 y.2.2.1 y.2.2.2) J0 rfl rfl (fun _=>rfl) (yT (Fi n) rfl (yT (Fi n) rfl (yT (Fi n) rfl (NY (aeW n)))))
theorem adg (n:Nat):AF tab (n+3) 49 (jM dO) (fun x=>(x.length*40<=140737488351232∧∀y∈x,Jw y)):=Qz QQ rfl rfl (by rw[J0];rfl) (ado n)
def Jv (x:az):Prop:=(Lit.int .i64 x.ah).wf=true∧((x.aa.length*8<=140737488351232∧∀y∈x.aa,(Lit.int .i64 y).wf=true))
theorem abo (n:Nat):AF tab (n+3) 40 dB (fun x=>Jv x):=opS (g:=fun y=>az.mk y.1 y.2) QO rfl rfl (fun _=>rfl) (yT (Fi (n+1)) rfl (NY (X1 n)))
def xt (x:aw):Prop:=Jv x.cD∧(Jv x.cw)
theorem ade (n:Nat):AF tab (n+4) 42 aD (fun x=>xt x):=opS (g:=fun y=>aw.mk y.1 y.2) JV rfl rfl (fun _=>rfl) (yT (abo n) rfl (NY (abo n)))
theorem adm (n:Nat):AF tab (n+5) 85 (jM aD) (fun x=>(x.length*64<=140737488351232∧∀y∈x,xt y)):=Qz JY rfl rfl (by rw[JV];rfl) (ade n)
theorem adh (n:Nat):AF tab (n+6) 50 (jM (jM aD)) (fun x=>(x.length*24<=140737488351232∧∀y∈x,(y.length*64<=140737488351232∧∀z∈y,xt z))):=Qz QR rfl rfl (by rw[JY];rfl) (adm n)
def NN (x:fJ):Prop:=(x.ak.length*24<=140737488351232∧∀y∈x.ak,v7 y)∧((x.aH.length*40<=140737488351232∧∀y∈x.aH,Jw y)∧((x.aB.length*24<=140737488351232∧∀y∈x.aB,(y.length*64<=140737488351232∧∀z∈y,xt z))))
theorem adi (n:Nat):AF tab (n+7) 52 vw (fun x=>NN x):=opS (g:=fun y=>fJ.mk y.1 y.2.1 y.2.2) QS rfl rfl (fun _=>rfl) (yT (adf (n+3)) rfl (yT (adg (n+3)) rfl (NY (adh n))))
def Jy (x:gN):Prop:=(Lit.int .i64 x.ck).wf=true∧((Lit.int .i64 x.aL).wf=true)
theorem adl (n:Nat):AF tab (n+2) 57 fe (fun x=>Jy x):=opS (g:=fun y=>gN.mk y.1 y.2) JX rfl rfl (fun _=>rfl) (yT (Fi n) rfl (NY (Fi n)))
theorem adj (n:Nat):AF tab (n+3) 53 (jM fe) (fun x=>(x.length*16<=140737488351232∧∀y∈x,Jy y)):=Qz QT rfl rfl (by rw[JX];rfl) (adl n)
def DH (x:bV):Prop:=NN x.au∧((x.aZ.length*16<=140737488351232∧∀y∈x.aZ,Jy y)∧((x.aA.length*8<=140737488351232∧∀y∈x.aA,(Lit.int .i64 y).wf=true)))
theorem adk (n:Nat):AF tab (n+8) 55 b6 (fun x=>DH x):=opS (g:=fun y=>bV.mk y.1 y.2.1 y.2.2) JW rfl rfl (fun _=>rfl) (yT (adi n) rfl (yT (adj (n+4)) rfl (NY (X1 (n+5)))))
theorem ada (n:Nat):AF tab (n+9) 23 (jM b6) (fun x=>(x.length*120<=140737488351232∧∀y∈x,DH y)):=Qz QN rfl rfl (by rw[JW];rfl) (adk n)
def uu (x:bA):Prop:=(x.ax.length*8<=140737488351232∧∀y∈x.ax,(Lit.int .i64 y).wf=true)∧((x.ao.length*120<=140737488351232∧∀y∈x.ao,DH y))
theorem adb (n:Nat):AF tab (n+10) 25 nJ (fun x=>uu x):=opS (g:=fun y=>bA.mk y.1 y.2) JU rfl rfl (fun _=>rfl) (yT (X1 (n+7)) rfl (NY (ada n)))
theorem wa:VM tab 11 [25,5] (gX (bt nJ) (dL (aI .u8))) (fun x=>uu x.1∧((Lit.int .u8 x.2).wf=true)):=(aeV (oaS JU rfl (adb 1)) (aeU (oaI YG rfl)))
theorem uR (law:∀(a0:bA) (U:Int),(uu a0)->((Lit.int .u8 U).wf=true)->P.iw a0 U=some true) (os:Os) (started:os.Started) (H:Type) (enc:TypeId×Value->H) :
  ReturnsInHanded {} Tryz.checked os 5 .any (Rows.netOrderSpec.pre6 enc prog Tryz.f5 Rows.netOrderRow.domain false) (Rows.netOrderSpec.post enc prog Tryz.f5 false true false false):=by
 refine QG (C:=Tryz.checked) (T:=tab) (tb:=4) (n:=11) tok Tryz.own started (by kernel_rfl) func5
  (ChangeSpec.witness6 (enc:=enc) (C:=Tryz.checked) false ⟨#[],#[.agg #[.slice none 0 0,.slice none 0 0],.int .u8 0],[]⟩ 8 (by kernel_rfl) (by kernel_rfl) (by kernel_rfl) (by kernel_rfl)) Tryz.laidOut (by kernel_rfl) rfl (by kernel_rfl) rfl (fun ds O =>?_) (fun Z X hs =>?_)
 ·rw[Tryz.params5]at O
  match ds,O with
  | [d0,d1],_=>exact⟨rfl,rfl,rfl⟩
 ·rw[Tryz.params5]at X hs;exact abX wa AV (fun x Y=>law x.1 x.2 Y.1 Y.2) Z X hs
theorem vW (law:∀(a0:bA) (O:Int),(uu a0)->((Lit.int .u8 O).wf=true)->P.iw a0 O=some true):Rows.NetOrderSaid :=
 OpenClaim.holds_of_wide 5 Tryz.f5 rfl rfl rfl rfl rfl rfl rfl ⟨rfl,rfl,rfl,rfl,rfl⟩ rfl rfl rfl rfl rfl (by kernel_rfl) func5 (by kernel_rfl)
  (of_decide_eq_true (by kernel_rfl)) (by unfold Func.isWrapper;first|(rw[if_pos (by decide +kernel)];kernel_rfl)|(rw[if_neg (by decide +kernel)];exact⟨rfl,rfl⟩))
  (fun os started H enc _=>uR law os started H enc)
end Go.Proofs.YtoioidmblipblaaGreat.Am
namespace Go.Proofs.YtoioidmblipblaaGreat.P
open Go.RowKit
def bf (n:Nat):List Int:=if h:n=0 then [] else ((n % 1048576:Nat):Int)::bf (n / 1048576)
termination_by n
decreasing_by omega
def dv:List Int->Int
 | []=>0
 | d::l=>d+1048576*dv l
def Dg (l:List Int):Prop:=∀d∈l,0<=d∧d<1048576
def pw (i:Nat):Int:=1048576 ^ i
theorem pF:pw 0=1:=rfl
theorem jF (i:Nat):pw (i+1)=1048576*pw i:=by unfold pw;rw[Int.pow_succ,ahP]
theorem oU (i:Nat):0<pw i:=by unfold pw;exact Int.pow_pos (by decide)
theorem JJ (i j:Nat):pw (i+j)=pw i*pw j:=by unfold pw;rw[Int.pow_add]
theorem rH {i j:Nat} (h:i<=j):pw i<=pw j:=by
 obtain⟨k,rfl⟩:=Nat.le.dest h;rw[JJ];have h1:=oU i;have h2:=oU k
 calc pw i=pw i*1:=by rw[ahQ]
  _<=pw i*pw k:=ahR (by omega) (by omega)
theorem dw:bf 0=[]:=by rw[bf];rfl
theorem mJ {n:Nat} (h:n≠0):bf n=((n % 1048576:Nat):Int)::bf (n / 1048576):=by rw[bf,dif_neg h]
theorem sK {n:Nat} : bf n=[]↔n=0:=by
 constructor
 ·intro h;rcases afV n with O|O
  ·exact O
  ·rw[mJ (by omega)]at h;cases h
 ·rintro rfl;exact dw
theorem cj:∀n:Nat,dv (bf n)=n:=by
 intro n
 induction n using Nat.strongRecOn with
 | _ n U =>
  rcases afV n with O|O
  ·subst O;rw[dw];rfl
  ·rw[mJ (by omega),dv,U (n / 1048576) (by omega)];omega
theorem eA:∀n:Nat,Dg (bf n):=by
 intro n
 induction n using Nat.strongRecOn with
 | _ n X =>
  rcases afV n with U|U
  ·subst U;rw[dw];intro d O;cases O
  ·rw[mJ (by omega)];intro d O;rcases afK.1 O with rfl|O
   ·omega
   ·exact X (n / 1048576) (by omega) d O
theorem Dg.nil:Dg []:=fun d O=>by cases O
theorem Dg.cons {d:Int} {l:List Int} (h:Dg (d::l)):(0<=d∧d<1048576)∧Dg l:=⟨h d ahd,fun x O=>h x (ahe _ O)⟩
theorem Dg.mk {d:Int} {l:List Int} (h:0<=d∧d<1048576) (U:Dg l):Dg (d::l):=fun x O=>by
 rcases afK.1 O with rfl|O
 ·exact h
 ·exact U x O
theorem Dg.append {l m:List Int} (h:Dg l) (hm:Dg m):Dg (l++m):=fun x O=>(agV.1 O).elim (h x) (hm x)
theorem Dg.take {l:List Int} (h:Dg l) (n:Nat):Dg (l.take n):=fun x O=>h x (ago O)
theorem Dg.drop {l:List Int} (h:Dg l) (n:Nat):Dg (l.drop n):=fun x O=>h x (agm O)
theorem Dg.rep (n:Nat):Dg (List.replicate n 0):=fun x O=>by rw[(List.mem_replicate.1 O).2];omega
theorem Dg.set {l:List Int} (h:Dg l) (i:Nat) {x:Int} (U:0<=x∧x<1048576):Dg (l.set i x):=fun y O=>by
 rcases List.mem_or_eq_of_mem_set O with O|rfl
 ·exact h y O
 ·exact U
theorem Dg.get {l:List Int} (h:Dg l) {i:Nat} (O:i<l.length):0<=l[i]∧l[i]<1048576:=h _ (afP O)
theorem dx:∀ {l:List Int},Dg l->0<=dv l
 | [],_=>Int.le_refl _
 | d::l,h=>by
  have h1:=h.cons;have:=dx h1.2;simp only[dv];omega
theorem pr:∀ {l:List Int},Dg l->dv l<pw l.length
 | [],_=>by simp[dv,pF]
 | d::l,h=>by
  have h1:=h.cons;have:=pr h1.2;simp only[dv,List.length_cons,jF];omega
theorem jo:∀l m:List Int,dv (l++m)=dv l+pw l.length*dv m
 | [],m=>by simp[dv,pF]
 | d::l,m=>by
  rw[ahA,dv,dv,jo l m,af3,jF,ahS,ahT];omega
theorem Cn:∀n:Nat,dv (List.replicate n 0)=0
 | 0=>rfl
 | n+1=>by rw[agA,dv,Cn n];rfl
theorem jq {l:List Int} {i:Nat} (h:i<l.length):dv (l.take (i+1))=dv (l.take i)+pw i*l[i]:=by
 have e:l.take (i+1)=l.take i++[l[i]]:=by rw[List.take_add_one];simp[h]
 rw[e,jo,afW,agS (by omega)];simp[dv]
theorem iW (l:List Int) {i:Nat} (h:i<=l.length):dv l=dv (l.take i)+pw i*dv (l.drop i):=by
 have:=jo (l.take i) (l.drop i);rw[ahw,afW,agS h]at this;exact this
theorem sP {l:List Int} {i:Nat} (h:i<l.length) (x:Int):dv (l.set i x)=dv l+pw i*(x-l[i]):=by
 induction l generalizing i with
 | nil=>simp at h
 | cons d l O =>
  cases i with
  | zero=>simp only[List.set_cons_zero,dv,pF,List.getElem_cons_zero];omega
  | succ i =>
   have:=O (i:=i) (by simpa using h);simp only[List.set_cons_succ,dv,this,jF,List.getElem_cons_succ,ahS,ahT];omega
theorem A9:∀ {l:List Int},Dg l->(∀h:l≠[],l.getLast h≠0)->bf (dv l).toNat=l
 | [],_,_=>by simp[dv,dw]
 | d::l,h,O=>by
  have h1:=h.cons;have h2:=dx h1.2;have U:(dv (d::l)).toNat≠0:=by
   simp only[dv];intro h0;have X:d=0:=by omega
   have Z:dv l=0:=by omega
   cases l with
   | nil=>exact O (by simp) (by simpa using X)
   | cons e m =>
    have Y:=A9 h1.2 (fun hh=>by have:=O (by simp);simpa using this);rw[Z]at Y;simp[dw]at Y
  rw[mJ U];have e1:(dv (d::l)).toNat % 1048576=d.toNat:=by simp only[dv];omega
  have e2:(dv (d::l)).toNat / 1048576=(dv l).toNat:=by simp only[dv];omega
  rw[e1,e2];have X:(d.toNat:Int)=d:=by omega
  rw[X];cases l with
  | nil=>simp[dv,dw]
  | cons e m=>rw[A9 h1.2 (fun hh=>by have:=O (by simp);simpa using this)]
theorem Uj:∀(n:Nat) (h:bf n≠[]),(bf n).getLast h≠0:=by
 intro n
 induction n using Nat.strongRecOn with
 | _ n X =>
  intro h;have Y:n≠0:=fun U=>h (sK.2 U);have e:=mJ Y
  by_cases hq:n / 1048576=0
  ·have:bf n=[((n % 1048576:Nat):Int)]:=by rw[e,hq,dw]
   simp only[this,List.getLast_singleton];omega
  ·have O:bf (n / 1048576)≠[]:=fun U=>hq (sK.1 U);have:=X (n / 1048576) (by omega) O;simp only[e];rw[List.getLast_cons O];exact this
theorem WG {a b:Nat} (h:bf a=bf b):a=b:=by
 have:=congrArg dv h;rw[cj,cj]at this;omega
theorem kG {n k:Nat} (h:(n:Int)<pw k):(bf n).length<=k:=by
 induction k generalizing n with
 | zero =>
  rw[pF]at h;have:n=0:=by omega
  rw[this,dw];simp
 | succ k U =>
  by_cases O:n=0
  ·rw[O,dw];simp
  ·rw[mJ O,af3];rw[jF]at h;have:=U (n:=n / 1048576) (by omega);omega
theorem jc (n:Nat):(n:Int)<pw (bf n).length:=by
 have:=pr (eA n)
 rwa [cj]at this
theorem wP {n:Nat} (h:n≠0):pw ((bf n).length-1)<=n∧0<(bf n).length:=by
 induction n using Nat.strongRecOn with
 | _ n U =>
  rw[mJ h,af3];refine⟨?_,by omega⟩
  by_cases O:n / 1048576=0
  ·rw[O,dw];simp[pF];omega
  ·obtain⟨h1,h2⟩:=U (n / 1048576) (by omega) O;have:(bf (n / 1048576)).length+1-1=((bf (n / 1048576)).length-1)+1:=by omega
   rw[this,jF];omega
theorem ss {x:Int} (h1 : -9223372036854775808<=x) (h2:x<9223372036854775808):jQ .and .i64 x 1048575=x % 1048576:=by
 unfold jQ;simp only;have O:(BitVec.ofInt IntKind.i64.bits x &&& BitVec.ofInt IntKind.i64.bits 1048575).toNat=((x % 18446744073709551616).toNat) % 1048576:=by
  rw[BitVec.toNat_and,BitVec.toNat_ofInt,BitVec.toNat_ofInt];have e:((1048575:Int) % ((2 ^ IntKind.i64.bits:Nat):Int)).toNat=2 ^ 20-1:=by decide
  rw[e,ahU];rfl
 rw[O,wrap64 (by omega) (by omega)];omega
theorem ZB {x:Int} (h1 : -9223372036854775808<=x) (h2:x<9223372036854775808):jQ .and .i64 x 1=x % 2:=by
 unfold jQ;simp only;have O:(BitVec.ofInt IntKind.i64.bits x &&& BitVec.ofInt IntKind.i64.bits 1).toNat=((x % 18446744073709551616).toNat) % 2:=by
  rw[BitVec.toNat_and,BitVec.toNat_ofInt,BitVec.toNat_ofInt];have e:((1:Int) % ((2 ^ IntKind.i64.bits:Nat):Int)).toNat=2 ^ 1-1:=by decide
  rw[e,ahU];rfl
 rw[O,wrap64 (by omega) (by omega)];omega
theorem Ou (x:Int):A2 .i64 x 20=some (x / 1048576):=by
 unfold A2;rw[if_neg (by decide)];have e:(2:Int) ^ (min (Int.toNat 20) IntKind.i64.bits)=1048576:=by decide
 rw[e,Int.fdiv_eq_ediv_of_nonneg _ (by decide)]
theorem Yf {x:Int} (O:0<=x) (h:x<8796093022208):Fm .i64 x 20=some (1048576*x):=by
 unfold Fm;rw[if_neg (by decide)];have e:(2:Int) ^ (min (Int.toNat 20) IntKind.i64.bits)=1048576:=by decide
 rw[e,wrap64 (by omega) (by omega),ahP]
theorem QA {x y:Int} (Y:0<=x) (h:x<8796093022208) (Z:0<=y∧y<1048576):jQ .or .i64 (1048576*x) y=1048576*x+y:=by
 unfold jQ;simp only;have O:(BitVec.ofInt IntKind.i64.bits (1048576*x) ||| BitVec.ofInt IntKind.i64.bits y).toNat=1048576*x.toNat+y.toNat:=by
  rw[BitVec.toNat_or,BitVec.toNat_ofInt,BitVec.toNat_ofInt];have e:((2 ^ IntKind.i64.bits:Nat):Int)=18446744073709551616:=by decide
  rw[e];have U:((1048576*x) % 18446744073709551616).toNat=x.toNat <<< 20:=by rw[Nat.shiftLeft_eq];omega
  have X:(y % 18446744073709551616).toNat=y.toNat:=by omega
  rw[U,X,<- Nat.shiftLeft_add_eq_or_of_lt (by omega),Nat.shiftLeft_eq];omega
 rw[O,wrap64 (by omega) (by omega)];omega
theorem mk0 {n:Nat} (h:n<=17592186044416):Hl 8 (n:Int) (n:Int) (0:Int)=some (List.replicate n 0):=by
 unfold Hl;rw[if_pos]
 ·simp
 ·have:(17592186044416:Int)<=maxLen:=by decide
  refine⟨by omega,by omega,by omega,?_⟩;simp only[Int.toNat_natCast];omega
theorem IS {l m:List Int} (h:l.length+m.length<=17592186044416):kr 8 l m=some (l++m):=by
 unfold kr;have:(17592186044416:Nat)<=maxLen:=by decide
 rw[if_pos ⟨by omega,by omega⟩]
theorem eQ {σ ρ:Type} {body:σ->Option (σ⊕ρ)} (I:Nat->σ->Prop) (n:Nat) (Q:ρ->Prop) {s:σ} (X:I 0 s) (hn:n+1<FU)
  (O:∀i s,i<=n->I i s->(i<n∧∃U,body s=some (.inl U)∧I (i+1) U)∨(∃r,body s=some (.inr r)∧Q r)):∃r,ba body s=some r∧Q r:=by
 have key:∀(k i:Nat) (s:σ),i<=n->n-i<k->I i s->∃r,ns body k s=some r∧Q r:=by
  intro k
  induction k with
  | zero=>intro i s _ h;omega
  | succ k Y =>
   intro i s Z hk X;rcases O i s Z X with⟨aa,U,h1,h2⟩|⟨r,h1,h2⟩
   ·obtain⟨r,h3,h4⟩:=Y (i+1) U (by omega) (by omega) h2;exact⟨r,by simp only[ns,h1];exact h3,h4⟩
   ·exact⟨r,by simp only[ns,h1],h2⟩
 exact key FU 0 s (afE _) (by omega) X
theorem aag (i:Nat) (x:Int):pw (i+1)*x=pw i*(1048576*x):=by rw[jF,ahP 1048576 (pw i),ahT]
theorem yW (i:Nat) (t:Int):pw i*(t % 1048576)+pw (i+1)*(t / 1048576)=pw i*t:=by
 rw[aag,<- ahS];congr 1;omega
theorem mN {n:Nat} (h:n<=17592186044416):n+1<FU:=by unfold FU;omega
abbrev Fit (l:List Int):Prop:=l.length<=17592186044416
theorem jn {x:Int} (h : -4611686018427387904<=x∧x<=4611686018427387904):IntKind.i64.wrap x=x:=wrap64 (by omega) (by omega)
theorem tu {α:Type} (o:Option α):(o.bind fun r=>some r)=o:=by cases o<;>rfl
theorem Vg {l:List Int} (Z:Fit l):∃r,ba (mH l) (l.length:Int)=some r∧∃k:Nat,r=k∧k<=l.length∧(∀j (O:j<l.length),k<=j->l[j]=0)∧(∀h:0<k,∀hk:k-1<l.length,l[k-1]≠0):=by
 unfold Fit at Z;refine eQ (I:=fun i s=>s=((l.length-i:Nat):Int)∧(∀j (O:j<l.length),l.length-i<=j->l[j]=0)) l.length _ ⟨rfl,fun j O h=>by omega⟩ (mN Z) ?_;rintro i s hi ⟨rfl,U⟩;generalize hk:l.length-i=k at *;simp only[mH]
 by_cases h0:0<k
 ·have X:k-1<l.length:=by omega
  have e:IntKind.i64.wrap ((k:Int)-1)=((k-1:Nat):Int):=by rw[jn (by omega)];omega
  rw[if_pos (by simp;omega),e,cR X,ahg]
  by_cases hx:l[k-1]=0
  ·left;refine⟨by omega,_,by rw[if_pos (by simpa using hx)],by rw[show l.length-(i+1)=k-1 by omega],fun j O h =>?_⟩
   by_cases Y:j=k-1
   ·subst Y;exact hx
   ·exact U j O (by omega)
  ·right;exact⟨_,by rw[if_neg (by simpa using hx)],k,rfl,by omega,U,fun _ _=>hx⟩
 ·right;exact⟨_,by rw[if_neg (by simp;omega)],k,rfl,by omega,U,fun h=>absurd h h0⟩
theorem WZ {l:List Int} {k:Nat} (O:∀j (X:j<l.length),k<=j->l[j]=0):dv (l.drop k)=0:=by
 have:l.drop k=List.replicate (l.drop k).length 0:=by
  refine List.eq_replicate_of_mem fun x U =>?_;obtain⟨i,Y,rfl⟩:=List.mem_iff_getElem.1 U;rw[List.getElem_drop];exact O _ _ (by omega)
 rw[this,Cn]
theorem xP {l:List Int} (Y:Fit l) (Z:Dg l):er l=some (bf (dv l).toNat):=by
 obtain⟨r,h1,k,rfl,hk,hz,O⟩:=Vg Y;unfold er;rw[h1,ahg,aao hk,ahg];congr 1;have h2:dv l=dv (l.take k):=by rw[iW l hk,WZ hz];omega
 rw[h2];refine (A9 (Z.take k) fun U =>?_).symm;have X:0<k:=by
  rcases afV k with h|h
  ·subst h;simp at U
  ·exact h
 have:=O X (by omega);rw[List.getLast_eq_getElem];simp only[afW,List.getElem_take,agS hk];exact this
theorem Bn {l:List Int} {n:Nat} (O:Fit l) (U:Dg l) (X:dv l=n):er l=some (bf n):=by
 rw[xP O U,X];rfl
def gd (l:List Int) (i:Nat):Int:=if h:i<l.length then l[i] else 0
theorem SF {l:List Int} (h:Dg l) (i:Nat):0<=gd l i∧gd l i<1048576:=by
 unfold gd;split
 ·exact h.get _
 ·omega
theorem xf {l:List Int} (i:Nat):dv (l.take (i+1))=dv (l.take i)+pw i*gd l i:=by
 unfold gd;split
 ·exact jq _
 ·rw[ag6 (by omega),ag6 (by omega)];simp
theorem CR {l:List Int} {i:Nat} (h:l.length<=i):dv (l.take i)=dv l:=by rw[ag6 h]
theorem VW {a b:List Int} (ha:Dg a) (hb:Dg b) (hf:a.length<17592186044416) (Y:b.length<=a.length) :
  ∃r,ba (oo a b) (0,0,List.replicate (a.length+1) 0)=some r∧r.2.length=a.length+1∧Dg r.2∧(∀j (X:j<r.2.length),a.length<=j->r.2[j]=0)∧(0<=r.1∧r.1<=1)∧dv r.2+pw a.length*r.1=dv a+dv b:=by
 refine eQ (I:=fun i s=>s.2.1=(i:Int)∧s.2.2.length=a.length+1∧Dg s.2.2∧(∀j (X:j<s.2.2.length),i<=j->s.2.2[j]=0)∧(0<=s.1∧s.1<=1)∧dv s.2.2+pw i*s.1=dv (a.take i)+dv (b.take i))
  a.length _ ⟨rfl,by simp,Dg.rep _,fun j X _=>by simp,by simp,by simp[Cn,dv]⟩ (mN (by omega)) ?_
 rintro i ⟨c,s,l⟩ hi ⟨h1,Z,hd,hz,hc,he⟩;simp only at h1 Z hd hz hc he;subst h1;simp only[oo]
 by_cases O:i<a.length
 ·left;rw[if_pos (by simpa using O),cR O,ahg];have ga:=ha.get O;have gb:=SF hb i;have hT:(if decide ((i:Int)<(b.length:Int))=true then (P.idx b (i:Int)).bind fun aa=>some (IntKind.i64.wrap ((IntKind.i64.wrap (c+a[i]))+aa)) else some (IntKind.i64.wrap (c+a[i])))=some (c+a[i]+gd b i):=by
   by_cases U:i<b.length
   ·rw[if_pos (by simpa using U),cR U,ahg];have:gd b i=b[i]:=by unfold gd;rw[dif_pos U]
    rw[this]at gb ⊢;rw[jn (x:=c+a[i]) (by omega),jn (by omega)]
   ·rw[if_neg (by simpa using U)];have:gd b i=0:=by unfold gd;rw[dif_neg U]
    rw[this,jn (by omega)];simp
  rw[hT,ahg,cR (by omega),ahg,Ou,ahg,ss (by omega) (by omega)];have ab:l[i]=0:=hz i (by omega) (afD _);have e1:IntKind.i64.wrap ((i:Int)+1)=((i+1:Nat):Int):=by rw[jn (by omega)];omega
  refine⟨O,_,rfl,e1,by simpa using Z,hd.set _ (by omega),fun j X ag =>?_,by simp only;omega,?_⟩
  ·simp only[Int.toNat_natCast]at X ⊢;rw[ahV (by omega)];exact hz j (by simpa using X) (by omega)
  ·simp only[Int.toNat_natCast];rw[sP (by omega),ab,xf,xf];have ad:gd a i=a[i]:=by unfold gd;rw[dif_pos O]
   rw[ad];have hp:=yW i (c+a[i]+gd b i);rw[ahS,ahS]at hp;rw[Int.sub_zero];omega
 ·right;have ae:i=a.length:=by omega
  subst ae;refine⟨_,by rw[if_neg (by simp)],Z,hd,fun j X h=>hz j X h,hc,?_⟩;rw[he,CR (afD _),CR Y]
theorem add_eq {a b:List Int} (Z:Dg a) (hb:Dg b) (U:a.length<17592186044416) (aa:b.length<17592186044416):pn a b=some (bf (dv a+dv b).toNat):=by
 have main:∀ {a b:List Int},Dg a->Dg b->a.length<17592186044416->b.length<=a.length ->
   ((Hl 8 (IntKind.i64.wrap ((a.length:Int)+1)) (IntKind.i64.wrap ((a.length:Int)+1)) 0).bind fun x2 =>
    (ba (oo a b) (0,0,x2)).bind fun q=>match q with
    | (Y,O) =>
     (P.idx O (a.length:Int)).bind fun ae =>
     (er (O.set ((a.length:Int)).toNat Y)).bind fun ab =>
     some ab)=some (bf (dv a+dv b).toNat):=by
  intro a b Z hb U ad;have e:IntKind.i64.wrap ((a.length:Int)+1)=((a.length+1:Nat):Int):=by rw[jn (by omega)];omega
  rw[e,mk0 (by omega),ahg];obtain⟨⟨c,l⟩,h1,h2,h3,h4,h5,h6⟩:=VW Z hb U ad;rw[h1];simp only[Option.bind_some]at h2 h3 h4 h5 h6 ⊢;have X:a.length<l.length:=by omega
  rw[cR X,ahg,agF,tu];have hv:dv (l.set a.length c)=dv a+dv b:=by
   rw[sP X,h4 _ X (afD _),Int.sub_zero,h6]
  rw[xP (by simp[Fit];omega) (h3.set _ (by omega)),hv]
 unfold pn
 by_cases h:a.length<b.length
 ·rw[if_pos (by simpa using h),ahg,Int.add_comm];exact main hb Z aa (by omega)
 ·rw[if_neg (by simpa using h),ahg];exact main Z hb U (by omega)
theorem sH {l:List Int} (h:Fit l):cT l=some l:=by
 unfold cT;rw[IS (by simpa using h),ahq]
theorem Xo {l:List Int} {i:Nat} (h:i<l.length):gd l i=l[i]:=by unfold gd;rw[dif_pos h]
theorem Xn {l:List Int} {i:Nat} (h:l.length<=i):gd l i=0:=by unfold gd;rw[dif_neg (by omega)]
end Go.Proofs.YtoioidmblipblaaGreat.P
