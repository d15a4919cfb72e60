/- Part of a proof. -/
import Derived.Test.YtmcncjgbkobjnaaGreatIe
set_option linter.unusedSimpArgs false
set_option linter.unusedVariables false
noncomputable section
namespace Go.Proofs.YtmcncjgbkobjnaaGreat.Am
open Go.RowKit Go.Proofs.YtmcncjgbkobjnaaGreat.P
set_option maxRecDepth 100000
set_option maxHeartbeats 4000000
def uw:Env:=(Am.ext (Am.ext (Am.ext (Am.ext (Am.ext (Am.ext aY 106 false ey) 150 false jr) 196 false jN) 197 false tN) 215 false sk) 216 true ns)
theorem Qf:bA Tryz.prog uw:=((((((bA.none.add gq false).add n5 false).add mh false).add DX false).add J3 false).add Bc true)
theorem aU:type_of% (ai @w<|ai @da<|ai @ib<|ai @fa<|ai @nh<|ai @AA<|@uw.eq_1):=⟨@w,@da,@ib,@fa,@nh,@AA,@uw.eq_1⟩
theorem Vi (p0:(List Int)) (p1:(List Int)) (r:(List Int)×(List Int)) (hh:oD p0 p1=some r):aW .clean tab uw FU Tryz.f191 none [.sl false false p0.length (ab (eI .i64) p0),.sl false false p1.length (ab (eI .i64) p1)]=some (.clean (.tup [.sl false false r.1.length (ab (eI .i64) r.1),.sl false false r.2.length (ab (eI .i64) r.2)]),none):=by
 apply aA rfl Tryz.ntmps191 Tryz.results191
 unfold oD at hh
 obtain⟨r1,hr1,hh⟩:=ah hh
 try simp only[aU,seval,-Int.reduceToNat,hr1]
 apply sp ak hh<;>intro _ hh
 ·obtain⟨r3,hr3,hh⟩:=ah hh
  cases hh
  try simp only[aU,seval,-Int.reduceToNat,hr3]
 ·try simp only[aU,seval,-Int.reduceToNat]
  apply sp ak hh<;>intro _ hh
  ·obtain⟨x5,hx5,hh⟩:=ah hh
   have ax5:=bs (eI .i64) hx5
   simp only[bN]at ax5
   obtain⟨r6,hr6,hh⟩:=ah hh
   have i7:=fa ([r6.2])
   simp only[bn,bN,List.length_cons,agj]at i7
   obtain⟨r8,hr8,hh⟩:=ah hh
   cases hh
   try simp only[aU,seval,-Int.reduceToNat,ax5,hr6,i7,hr8]
  ·try simp only[aU,seval,-Int.reduceToNat]
   obtain⟨o11,ho11,hh⟩:=ah hh
   refine ay (fun s t H e=>match s with|s8a=>t 0=.sl false false p0.length (ab (eI .i64) p0)∧t 1=.sl false false p1.length (ab (eI .i64) p1)∧t 8=.int .i64 s8a) (fun o x t H e=>match o with|s8ax=>x=.exit 0∧t 0=.sl false false p0.length (ab (eI .i64) p0)∧t 1=.sl false false p1.length (ab (eI .i64) p1)∧t 8=.int .i64 s8ax) ho11 ?_ ?_ ?_
   ·refine⟨?_,?_,?_⟩
    all_goals first|rfl|(simp only[aU,seval,-Int.reduceToNat,hr1]<;>rfl)
   ·rintro s8a t H e Za c hh
    simp only[qC]at hh
    obtain⟨x12,hx12,hh⟩:=ah hh
    have ax12:=bs (eI .i64) hx12
    simp only[bN]at ax12
    try simp only[aU,seval,-Int.reduceToNat,Za,ax12]
    apply sp ak hh<;>intro _ hh
    ·cases hh
     try simp only[aU,seval,-Int.reduceToNat,Za]
     apply gV
     refine⟨?_,?_,?_⟩
     all_goals first|rfl|(simp only[aU,seval,-Int.reduceToNat,Za]<;>rfl)
    ·cases hh
     try simp only[aU,seval,-Int.reduceToNat]
     apply jo
     refine⟨rfl,⟨?_,?_,?_⟩⟩
     all_goals first|rfl|(simp only[aU,seval,-Int.reduceToNat,Za]<;>rfl)
   ·rintro x t H e hx
    obtain⟨s8ax,rfl⟩:∃z,z=o11:=⟨_,rfl⟩
    dsimp only at hx hh
    obtain⟨rfl,Zax⟩:=hx
    have i14:=nh p0 ([s8ax])
    simp only[bn,bN,List.length_cons,agj]at i14
    obtain⟨r15,hr15,hh⟩:=ah hh
    obtain⟨x16,hx16,hh⟩:=ah hh
    obtain⟨q17a,q17b,q17c,q17d⟩:=gL (eI .i64) hx16
    simp only[bN]at q17b
    have i18:=nh p1 ([s8ax])
    simp only[bn,bN,List.length_cons,agj]at i18
    obtain⟨r19,hr19,hh⟩:=ah hh
    try simp only[aU,seval,-Int.reduceToNat,Zax,i14,hr15,q17a,q17b,q17c,q17d,i18,hr19]
    obtain⟨o20,ho20,hh⟩:=ah hh
    refine jB 0 (fun s t H e=>match s with|l9j2=>∃v9j2:Nat,∃v10j2:Nat,t 8=.int .i64 s8ax∧t 9=.buf 9 v9j2 1 0 (l9j2).length∧t 10=.buf 10 v10j2 1 0 (r19).length∧H 9=some ⟨v9j2,3,ab (eI .i64) l9j2,false,true,false⟩∧H 10=some ⟨v10j2,3,ab (eI .i64) r19,false,true,false⟩) (fun s=>s=o20) ?_ ?_
    ·rintro l9j2 t H e ⟨v9j2,v10j2,Zj2⟩ rfl
     try dsimp only at hh
     obtain⟨x21,hx21,hh⟩:=ah hh
     obtain⟨q22a,q22b,q22c,q22d,q22e⟩:=mk_one (eI .i64) hx21
     simp only[bN]at q22d
     try simp only[aU,seval,-Int.reduceToNat,Zj2,q22a,q22b,q22c,q22d,q22e]
     obtain⟨o58,ho58,hh⟩:=ah hh
     refine ay (fun s t H e=>match s with|(s13c,l9c,l12c)=>∃v9c:Nat,∃v10c:Nat,∃v12c:Nat,∃z10c:Bool,t 8=.int .i64 s8ax∧t 9=.buf 9 v9c 1 0 (l9c).length∧t 10=.buf 10 v10c 1 0 (r19).length∧t 11=.int .i64 ((r19).length:Int)∧t 12=.buf 12 v12c 1 0 (l12c).length∧t 13=.int .i64 s13c∧H 9=some ⟨v9c,3,ab (eI .i64) l9c,false,true,false⟩∧H 10=some ⟨v10c,3,ab (eI .i64) r19,z10c,true,false⟩∧H 12=some ⟨v12c,3,ab (eI .i64) l12c,false,true,false⟩) (fun o x t H e=>match o with|(l9cx,l12cx)=>x=.exit 2∧∃v9cx:Nat,∃v12cx:Nat,t 8=.int .i64 s8ax∧t 9=.buf 9 v9cx 1 0 (l9cx).length∧t 12=.buf 12 v12cx 1 0 (l12cx).length∧H 9=some ⟨v9cx,3,ab (eI .i64) l9cx,false,true,false⟩∧H 12=some ⟨v12cx,3,ab (eI .i64) l12cx,false,true,false⟩) ho58 ?_ ?_ ?_
     ·refine⟨v9j2,v10j2,e+1,false,?_,?_,?_,?_,?_,?_,?_,?_,?_⟩
      all_goals first|rfl|(simp only[aU,seval,-Int.reduceToNat,Zj2]<;>rfl)
     ·rintro⟨s13c,l9c,l12c⟩ t H e ⟨v9c,v10c,v12c,z10c,Zc⟩ c hh
      simp only[qD]at hh
      try simp only[aU,seval,-Int.reduceToNat,Zc]
      apply sp ak hh<;>intro _ hh
      ·obtain⟨x60,hx60,hh⟩:=ah hh
       have ax60:=bs (eI .i64) hx60
       simp only[bN]at ax60
       obtain⟨x61,hx61,hh⟩:=ah hh
       have q62:=BB hx61
       obtain⟨x63,hx63,hh⟩:=ah hh
       have ax63:=bs (eI .i64) hx63
       simp only[bN]at ax63
       try simp only[aU,seval,-Int.reduceToNat,Zc,ax60,q62,ax63]
       refine bB (by kernel_rfl) ?_
       obtain⟨x64,hx64,hh⟩:=ah hh
       have ax64:=bs (eI .i64) hx64
       simp only[bN]at ax64
       obtain⟨x65,hx65,hh⟩:=ah hh
       have q66:=qK hx65
       have ax64:=bs (eI .i64) hx64
       simp only[bN]at ax64
       obtain⟨x67,hx67,hh⟩:=ah hh
       have q68:=xJ hx67
       try simp only[aU,seval,-Int.reduceToNat,Zc,q66,ax64,q68]
       refine bB (by kernel_rfl) ?_
       try simp only[aU,seval,-Int.reduceToNat,hr1,i14,hr15,q17a,q17b,q17c,q17d,i18,hr19,q22a,q22b,q22c,q22d,q22e,Zc,ax60,q62,ax63,ax64,q66,ax64,q68]
       obtain⟨o78,ho78,hh⟩:=ah hh
       refine ay (fun s t H e=>match s with|(s15g,s16g)=>∃v9g:Nat,∃v10g:Nat,∃v12g:Nat,∃z10g:Bool,t 8=.int .i64 s8ax∧t 9=.buf 9 v9g 1 0 (l9c).length∧t 10=.buf 10 v10g 1 0 (r19).length∧t 11=.int .i64 ((r19).length:Int)∧t 12=.buf 12 v12g 1 0 (l12c).length∧t 13=.int .i64 s13c∧t 15=.int .i64 s15g∧t 16=.int .i64 s16g∧H 9=some ⟨v9g,3,ab (eI .i64) l9c,false,true,false⟩∧H 10=some ⟨v10g,3,ab (eI .i64) r19,z10g,true,false⟩∧H 12=some ⟨v12g,3,ab (eI .i64) l12c,false,true,false⟩) (fun o x t H e=>match o with|s15gx=>x=.exit 4∧∃v9gx:Nat,∃v10gx:Nat,∃v12gx:Nat,∃z10gx:Bool,t 8=.int .i64 s8ax∧t 9=.buf 9 v9gx 1 0 (l9c).length∧t 10=.buf 10 v10gx 1 0 (r19).length∧t 11=.int .i64 ((r19).length:Int)∧t 12=.buf 12 v12gx 1 0 (l12c).length∧t 13=.int .i64 s13c∧t 15=.int .i64 s15gx∧H 9=some ⟨v9gx,3,ab (eI .i64) l9c,false,true,false⟩∧H 10=some ⟨v10gx,3,ab (eI .i64) r19,z10gx,true,false⟩∧H 12=some ⟨v12gx,3,ab (eI .i64) l12c,false,true,false⟩) ho78 ?_ ?_ ?_
       ·refine⟨v9c,v10c,v12c,z10c,?_,?_,?_,?_,?_,?_,?_,?_,?_,?_,?_⟩
        all_goals first|rfl|(simp only[aU,seval,-Int.reduceToNat,Zc]<;>rfl)
       ·rintro⟨s15g,s16g⟩ t H e ⟨v9g,v10g,v12g,z10g,Zg⟩ c hh
        simp only[qE]at hh
        try simp only[aU,seval,-Int.reduceToNat,Zg]
        obtain⟨o79,ho79,hh⟩:=ah hh
        refine ZJ 0 (fun s t H e=>match s with|s137j9=>∃v9j9:Nat,∃v10j9:Nat,∃v12j9:Nat,∃z10j9:Bool,t 8=.int .i64 s8ax∧t 9=.buf 9 v9j9 1 0 (l9c).length∧t 10=.buf 10 v10j9 1 0 (r19).length∧t 11=.int .i64 ((r19).length:Int)∧t 12=.buf 12 v12j9 1 0 (l12c).length∧t 13=.int .i64 s13c∧t 15=.int .i64 s15g∧t 16=.int .i64 s16g∧t 137=.bool s137j9∧H 9=some ⟨v9j9,3,ab (eI .i64) l9c,false,true,false⟩∧H 10=some ⟨v10j9,3,ab (eI .i64) r19,z10j9,true,false⟩∧H 12=some ⟨v12j9,3,ab (eI .i64) l12c,false,true,false⟩) (fun s=>s=o79) ?_ ?_
        ·rintro s137j9 t H e ⟨v9j9,v10j9,v12j9,z10j9,Zj9⟩ rfl
         try dsimp only at hh
         try simp only[aU,seval,-Int.reduceToNat,Zj9]
         apply sp ak hh<;>intro _ hh
         ·have ax64:=bs (eI .i64) hx64
          simp only[bN]at ax64
          cases hh
          try simp only[aU,seval,-Int.reduceToNat,Zj9,ax64]
          apply gV
          refine⟨v9j9,v10j9,v12j9,z10j9,?_,?_,?_,?_,?_,?_,?_,?_,?_,?_,?_⟩
          all_goals first|rfl|(simp only[aU,seval,-Int.reduceToNat,Zj9]<;>rfl)
         ·cases hh
          try simp only[aU,seval,-Int.reduceToNat]
          apply jo
          refine⟨rfl,⟨v9j9,v10j9,v12j9,z10j9,?_,?_,?_,?_,?_,?_,?_,?_,?_,?_⟩⟩
          all_goals first|rfl|(simp only[aU,seval,-Int.reduceToNat,Zj9]<;>rfl)
        ·clear hh
         have hh:=ho79
         try simp only[aU,seval,-Int.reduceToNat]
         apply sp oo hh<;>intro _ hh
         ·try simp only[aU,seval,-Int.reduceToNat]
          refine bB (by kernel_rfl) ?_
          cases hh
          try simp only[aU,seval,-Int.reduceToNat,hr1,i14,hr15,q17a,q17b,q17c,q17d,i18,hr19,q22a,q22b,q22c,q22d,q22e,ax60,q62,ax63,ax64,q66,ax64,q68,Zg]
          rw[an]
          refine⟨_,rfl,?_⟩
          refine⟨v9g,v10g,v12g,z10g,?_,?_,?_,?_,?_,?_,?_,?_,?_,?_,?_,?_⟩
          all_goals first|rfl|(simp only[aU,seval,-Int.reduceToNat,Zg]<;>rfl)
         ·try simp only[aU,seval,-Int.reduceToNat,Zg]
          apply sp Ku hh<;>intro _ hh
          ·obtain⟨x83,hx83,hh⟩:=ah hh
           have ax83:=bs (eI .i64) hx83
           simp only[bN]at ax83
           obtain⟨x84,hx84,hh⟩:=ah hh
           have q85:=BB hx84
           obtain⟨x86,hx86,hh⟩:=ah hh
           have ax86:=bs (eI .i64) hx86
           simp only[bN]at ax86
           try simp only[aU,seval,-Int.reduceToNat,q62,Zg,ax83,q85,ax86]
           refine bB (by kernel_rfl) ?_
           cases hh
           try simp only[aU,seval,-Int.reduceToNat,hr1,i14,hr15,q17a,q17b,q17c,q17d,i18,hr19,q22a,q22b,q22c,q22d,q22e,ax60,q62,ax63,ax64,q66,ax64,q68,Zg,ax83,q85,ax86]
           rw[an]
           refine⟨_,rfl,?_⟩
           refine⟨v9g,v10g,v12g,z10g,?_,?_,?_,?_,?_,?_,?_,?_,?_,?_,?_,?_⟩
           all_goals first|rfl|(simp only[aU,seval,-Int.reduceToNat,Zg]<;>rfl)
          ·try simp only[aU,seval,-Int.reduceToNat]
           refine bB (by kernel_rfl) ?_
           cases hh
           try simp only[aU,seval,-Int.reduceToNat,hr1,i14,hr15,q17a,q17b,q17c,q17d,i18,hr19,q22a,q22b,q22c,q22d,q22e,ax60,q62,ax63,ax64,q66,ax64,q68,Zg]
           rw[an]
           refine⟨_,rfl,?_⟩
           refine⟨v9g,v10g,v12g,z10g,?_,?_,?_,?_,?_,?_,?_,?_,?_,?_,?_,?_⟩
           all_goals first|rfl|(simp only[aU,seval,-Int.reduceToNat,Zg]<;>rfl)
       ·rintro x t H e hx
        obtain⟨s15gx,rfl⟩:∃z,z=o78:=⟨_,rfl⟩
        dsimp only at hx hh
        obtain⟨rfl,⟨v9gx,v10gx,v12gx,z10gx,Zgx⟩⟩:=hx
        obtain⟨x87,hx87,hh⟩:=ah hh
        obtain⟨q88a,q88b,q88c,q88d,q88e⟩:=acv (eI .i64) hx87
        simp only[bN]at q88e
        have i89:=Eh (ab (eI .i64) (l9c.take (s13c).toNat)) (ab (eI .i64) (l9c.drop (IntKind.i64.wrap ((IntKind.i64.wrap (s13c+((r19).length:Int)))+1)).toNat)) x87 r19 s15gx
        simp only[aaP,aaQ (eI .i64) hx87,aaR (eI .i64) hx87,abG hx87,bN]at i89
        obtain⟨r90,hr90,hh⟩:=ah hh
        have q91l:=y4 hr90
        have q91m:=ZR hx87 q91l
        obtain⟨x92,hx92,hh⟩:=ah hh
        have ax92:=bs (eI .i64) hx92
        simp only[bN]at ax92
        have p93:=eV (eI .i64) (x':=r90.2) (fo:=0) (cs:=[.int .i64 r90.2]) hx92 rfl (ahf rfl)
        simp only[bN,Nat.add_zero]at p93
        have up93:=p93
        simp only[putCells,List.length_cons,List.length_nil,agj]at up93
        cases hh
        try simp only[aU,seval,-Int.reduceToNat,Zgx,q88a,q88b,q88c,i89,hr90,ax92,up93]
        apply gV
        refine⟨v9gx,v10gx,v12gx,true,?_,?_,?_,?_,?_,?_,?_,?_,?_⟩
        all_goals first|rfl|(simp only[aU,seval,-Int.reduceToNat,Zgx,q91m]<;>rfl)
      ·cases hh
       try simp only[aU,seval,-Int.reduceToNat]
       apply jo
       refine⟨rfl,⟨v9c,v12c,?_,?_,?_,?_,?_⟩⟩
       all_goals first|rfl|(simp only[aU,seval,-Int.reduceToNat,Zc]<;>rfl)
     ·rintro x t H e hx
      rcases o58 with⟨l9cx,l12cx⟩
      dsimp only at hx hh
      obtain⟨rfl,⟨v9cx,v12cx,Zcx⟩⟩:=hx
      obtain⟨r94,hr94,hh⟩:=ah hh
      obtain⟨r95,hr95,hh⟩:=ah hh
      obtain⟨r96,hr96,hh⟩:=ah hh
      cases hh
      try simp only[aU,seval,-Int.reduceToNat,Zcx,hr94,hr95,hr96]
    ·clear hh
     have hh:=ho20
     try simp only[aU,seval,-Int.reduceToNat]
     apply sp ak hh<;>intro _ hh
     ·obtain⟨x98,hx98,hh⟩:=ah hh
      obtain⟨q99a,q99b,q99c,q99d⟩:=gL (eI .i64) hx98
      simp only[bN]at q99b
      cases hh
      try simp only[aU,seval,-Int.reduceToNat,q99a,q99b,q99c,q99d]
      rw[an]
      refine⟨_,rfl,?_⟩
      refine⟨e+1+1,e,?_,?_,?_,?_,?_⟩
      all_goals first|rfl|(simp only[aU,seval,-Int.reduceToNat,Zax]<;>rfl)
     ·cases hh
      try simp only[aU,seval,-Int.reduceToNat]
      rw[an]
      refine⟨_,rfl,?_⟩
      refine⟨e,e,?_,?_,?_,?_,?_⟩
      all_goals first|rfl|(simp only[aU,seval,-Int.reduceToNat,Zax]<;>rfl)
theorem DW:bP Tryz.prog 191 tM:=bP.of (mode := .clean) tok Qf mixed Tryz.func191 (by kernel_rfl) ⟨by kernel_rfl,by kernel_rfl⟩ (fun _=>ahf (by kernel_rfl)) (fun x r h=>Vi x.1 x.2 r h)
def tJ:=fc (kp (bL dw) (eQ (bL dw))) (fun x:aj×aj=>mG x.1 x.2) (fun r:aj×Int =>.clean (.tup [.agg [.int .i64 r.1.ae,.sl false false r.1.aa.length (ab (eI .i64) r.1.aa)],.int .i64 r.2]))
theorem uO (p0_0:Int) (p0_1:(List Int)) (p1_0:Int) (p1_1:(List Int)):tJ none [.agg [.int .i64 p0_0,.sl false false p0_1.length (ab (eI .i64) p0_1)],.agg [.int .i64 p1_0,.sl false false p1_1.length (ab (eI .i64) p1_1)]]=(mG (aj.mk p0_0 p0_1) (aj.mk p1_0 p1_1)).map fun r:aj×Int=>(.clean (.tup [.agg [.int .i64 r.1.ae,.sl false false r.1.aa.length (ab (eI .i64) r.1.aa)],.int .i64 r.2]),none):=aJ _ _ _ ((aj.mk p0_0 p0_1),(aj.mk p1_0 p1_1))
def uo:Env:=(Am.keep 6 (Am.ext (Am.ext (Am.ext (Am.ext (Am.ext aY 106 false ey) 140 false eK) 147 false fQ) 148 false jq) 191 false tM))
theorem Qa:bA Tryz.prog uo:=(bA.keep (((((bA.none.add gq false).add fm false).add hZ false).add nZ false).add DW false) 6)
theorem dN:type_of% (ai @w<|ai @da<|ai @cc<|ai @dH<|ai @eJ<|ai @uQ<|@uo.eq_1):=⟨@w,@da,@cc,@dH,@eJ,@uQ,@uo.eq_1⟩
theorem Vd (p0:aj) (p1:aj) (r:aj×Int) (hh:mG p0 p1=some r):aW .clean tab uo FU Tryz.f141 none [.agg [.int .i64 p0.ae,.sl false false p0.aa.length (ab (eI .i64) p0.aa)],.agg [.int .i64 p1.ae,.sl false false p1.aa.length (ab (eI .i64) p1.aa)]]=some (.clean (.tup [.agg [.int .i64 r.1.ae,.sl false false r.1.aa.length (ab (eI .i64) r.1.aa)],.int .i64 r.2]),none):=by
 apply aA rfl Tryz.ntmps141 Tryz.results141
 unfold mG at hh
 obtain⟨r1,hr1,hh⟩:=ah hh
 try simp only[dN,seval,hr1]
 obtain⟨o2,ho2,hh⟩:=ah hh
 refine bq 0 (fun s t H e=>match s with|s17j1=>∃v2j1:Nat,∃v3j1:Nat,∃v4j1:Nat,t 2=.ptr 2 v2j1 0∧t 3=.ptr 3 v3j1 0∧t 4=.ptr 4 v4j1 0∧t 17=.bool s17j1∧H 2=some ⟨v2j1,40,[.int .i64 p0.ae,.sl false false p0.aa.length (ab (eI .i64) p0.aa)],false,false,false⟩∧H 3=some ⟨v3j1,40,[.int .i64 p1.ae,.sl false false p1.aa.length (ab (eI .i64) p1.aa)],false,false,false⟩∧H 4=some ⟨v4j1,40,[.int .i64 0,.sl true true 0 []],false,false,false⟩) (fun s=>s=o2) ?_ ?_
 ·rintro s17j1 t H e ⟨v2j1,v3j1,v4j1,Zj1⟩ rfl
  try dsimp only at hh
  try simp only[dN,seval,Zj1]
  apply sp ak hh<;>intro _ hh
  ·have i4:=eJ false 0 ([])
   simp only[bN]at i4
   obtain⟨r5,hr5,hh⟩:=ah hh
   cases hh
   try simp only[dN,seval,Zj1,i4,hr5]
  ·obtain⟨r6,hr6,hh⟩:=ah hh
   try simp only[dN,seval,Zj1,hr6]
   refine bB (by kernel_rfl) ?_
   try simp only[dN,seval,hr1,Zj1,hr6]
   obtain⟨o9,ho9,hh⟩:=ah hh
   refine ay (fun s t H e=>match s with|(s6b,s7b)=>∃v4b:Nat,t 4=.ptr 4 v4b 0∧t 6=.sl false false s6b.length (ab (eI .i64) s6b)∧t 7=.sl false false s7b.length (ab (eI .i64) s7b)∧H 4=some ⟨v4b,40,[.int .i64 0,.sl true true 0 []],false,false,false⟩) (fun o x t H e=>match o with|s6bx=>x=.exit 0∧∃v4bx:Nat,t 4=.ptr 4 v4bx 0∧t 6=.sl false false s6bx.length (ab (eI .i64) s6bx)∧H 4=some ⟨v4bx,40,[.int .i64 0,.sl true true 0 []],false,false,false⟩) ho9 ?_ ?_ ?_
   ·refine⟨v4j1,?_,?_,?_,?_⟩
    all_goals first|rfl|(simp only[dN,seval,Zj1]<;>rfl)
   ·rintro⟨s6b,s7b⟩ t H e ⟨v4b,Zb⟩ c hh
    simp only[nC]at hh
    try simp only[dN,seval,Zb]
    apply sp ak hh<;>intro _ hh
    ·obtain⟨r11,hr11,hh⟩:=ah hh
     cases hh
     try simp only[dN,seval,Zb,hr11]
     apply gV
     refine⟨v4b,?_,?_,?_,?_⟩
     all_goals first|rfl|(simp only[dN,seval,Zb]<;>rfl)
    ·cases hh
     try simp only[dN,seval]
     apply jo
     refine⟨rfl,⟨v4b,?_,?_,?_⟩⟩
     all_goals first|rfl|(simp only[dN,seval,Zb]<;>rfl)
   ·rintro x t H e hx
    obtain⟨s6bx,rfl⟩:∃z,z=o9:=⟨_,rfl⟩
    dsimp only at hx hh
    obtain⟨rfl,⟨v4bx,Zbx⟩⟩:=hx
    obtain⟨r12,hr12,hh⟩:=ah hh
    obtain⟨r13,hr13,hh⟩:=ah hh
    obtain⟨r14,hr14,hh⟩:=ah hh
    cases hh
    try simp only[dN,seval,Zbx,hr12,hr13,hr14]
 ·clear hh
  have hh:=ho2
  try simp only[dN,seval]
  apply sp aO hh<;>intro _ hh
  ·cases hh
   try simp only[dN,seval]
   rw[an]
   refine⟨_,rfl,?_⟩
   refine⟨0,0,0,?_,?_,?_,?_,?_,?_,?_⟩
   all_goals first|rfl|(simp only[dN,seval,hr1]<;>rfl)
  ·obtain⟨r16,hr16,hh⟩:=ah hh
   cases hh
   try simp only[dN,seval,hr16]
   rw[an]
   refine⟨_,rfl,?_⟩
   refine⟨0,0,0,?_,?_,?_,?_,?_,?_,?_⟩
   all_goals first|rfl|(simp only[dN,seval,hr1,hr16]<;>rfl)
theorem DT:bP Tryz.prog 141 tJ:=bP.of (mode := .clean) tok Qa mixed Tryz.func141 (by kernel_rfl) ⟨by kernel_rfl,by kernel_rfl⟩ (fun _=>ahf (by kernel_rfl)) (fun x r h=>Vd x.1 x.2 r h)
def yE:=fc (eQ (bL dw)) (fun x:aj=>qz x) (fun r:Int×Bool =>.clean (.tup [.int .i64 r.1,.bool r.2]))
theorem H5 (p0_0:Int) (p0_1:(List Int)):yE none [.agg [.int .i64 p0_0,.sl false false p0_1.length (ab (eI .i64) p0_1)]]=(qz (aj.mk p0_0 p0_1)).map fun r:Int×Bool=>(.clean (.tup [.int .i64 r.1,.bool r.2]),none):=aJ _ _ _ ((aj.mk p0_0 p0_1))
def uq:Env:=(Am.ext aY 140 false eK)
theorem Qb:bA Tryz.prog uq:=(bA.none.add fm false)
theorem bk:type_of% (ai @w<|ai @cc<|@uq.eq_1):=⟨@w,@cc,@uq.eq_1⟩
theorem Ve (p0:aj) (r:Int×Bool) (hh:qz p0=some r):aW .clean tab uq FU Tryz.f192 none [.agg [.int .i64 p0.ae,.sl false false p0.aa.length (ab (eI .i64) p0.aa)]]=some (.clean (.tup [.int .i64 r.1,.bool r.2]),none):=by
 apply aA rfl Tryz.ntmps192 Tryz.results192
 unfold qz at hh
 obtain⟨r1,hr1,hh⟩:=ah hh
 try simp only[bk,seval,-Int.reduceToNat,hr1]
 obtain⟨o2,ho2,hh⟩:=ah hh
 refine bq 0 (fun s t H e=>match s with|s15j1=>∃v1j1:Nat,t 1=.ptr 1 v1j1 0∧t 15=.bool s15j1∧H 1=some ⟨v1j1,40,[.int .i64 p0.ae,.sl false false p0.aa.length (ab (eI .i64) p0.aa)],false,false,false⟩) (fun s=>s=o2) ?_ ?_
 ·rintro s15j1 t H e ⟨v1j1,Zj1⟩ rfl
  try dsimp only at hh
  try simp only[bk,seval,-Int.reduceToNat,Zj1]
  apply sp ak hh<;>intro _ hh
  ·cases hh
   try simp only[bk,seval,-Int.reduceToNat]
  ·try simp only[bk,seval,-Int.reduceToNat,Zj1]
   obtain⟨o11,ho11,hh⟩:=ah hh
   refine ay (fun s t H e=>match s with|(s4b,s19b)=>∃v1b:Nat,t 1=.ptr 1 v1b 0∧t 4=.int .u64 s4b∧t 17=.sl false false p0.aa.length (ab (eI .i64) p0.aa)∧t 18=.int .i64 (p0.aa.length:Int)∧t 19=.int .i64 s19b∧H 1=some ⟨v1b,40,[.int .i64 p0.ae,.sl false false p0.aa.length (ab (eI .i64) p0.aa)],false,false,false⟩) (fun o x t H e=>match o with|(.inl s4bx)=>x=.exit 0∧∃v1bx:Nat,t 1=.ptr 1 v1bx 0∧t 4=.int .u64 s4bx∧H 1=some ⟨v1bx,40,[.int .i64 p0.ae,.sl false false p0.aa.length (ab (eI .i64) p0.aa)],false,false,false⟩|(.inr r)=>x=.ret∧eZ .clean tab none [.tmp 2,.tmp 3] ⟨t,EH H,e⟩=some (.clean (.tup [.int .i64 r.1,.bool r.2]),none)) ho11 ?_ ?_ ?_
   ·refine⟨v1j1,?_,?_,?_,?_,?_,?_⟩
    all_goals first|rfl|(simp only[bk,seval,-Int.reduceToNat,Zj1]<;>rfl)
   ·rintro⟨s4b,s19b⟩ t H e ⟨v1b,Zb⟩ c hh
    simp only[qA]at hh
    try simp only[bk,seval,-Int.reduceToNat,Zb]
    apply sp ak hh<;>intro _ hh
    ·obtain⟨x13,hx13,hh⟩:=ah hh
     have ax13:=bs (eI .i64) hx13
     simp only[bN]at ax13
     try simp only[bk,seval,-Int.reduceToNat,Zb,ax13]
     obtain⟨o14,ho14,hh⟩:=ah hh
     refine bq 0 (fun s t H e=>match s with|s29j4=>∃v1j4:Nat,t 1=.ptr 1 v1j4 0∧t 4=.int .u64 s4b∧t 5=.int .i64 s19b∧t 6=.int .i64 x13∧t 17=.sl false false p0.aa.length (ab (eI .i64) p0.aa)∧t 18=.int .i64 (p0.aa.length:Int)∧t 19=.int .i64 s19b∧t 29=.bool s29j4∧H 1=some ⟨v1j4,40,[.int .i64 p0.ae,.sl false false p0.aa.length (ab (eI .i64) p0.aa)],false,false,false⟩) (fun s=>s=o14) ?_ ?_
     ·rintro s29j4 t H e ⟨v1j4,Zj4⟩ rfl
      try dsimp only at hh
      try simp only[bk,seval,-Int.reduceToNat,Zj4]
      apply sp ak hh<;>intro _ hh
      ·cases hh
       try simp only[bk,seval,-Int.reduceToNat]
       refine rT ⟨rfl,?_⟩
       try simp only[bk,seval,-Int.reduceToNat]
      ·obtain⟨x16,hx16,hh⟩:=ah hh
       have q17:=BB hx16
       cases hh
       try simp only[bk,seval,-Int.reduceToNat,Zj4,q17]
       apply gV
       refine⟨v1j4,?_,?_,?_,?_,?_,?_⟩
       all_goals first|rfl|(simp only[bk,seval,-Int.reduceToNat,Zj4]<;>rfl)
     ·clear hh
      have hh:=ho14
      try simp only[bk,seval,-Int.reduceToNat]
      apply sp cP hh<;>intro _ hh
      ·cases hh
       try simp only[bk,seval,-Int.reduceToNat]
       rw[an]
       refine⟨_,rfl,?_⟩
       refine⟨v1b,?_,?_,?_,?_,?_,?_,?_,?_,?_⟩
       all_goals first|rfl|(simp only[bk,seval,-Int.reduceToNat,Zb]<;>rfl)
      ·cases hh
       try simp only[bk,seval,-Int.reduceToNat]
       rw[an]
       refine⟨_,rfl,?_⟩
       refine⟨v1b,?_,?_,?_,?_,?_,?_,?_,?_,?_⟩
       all_goals first|rfl|(simp only[bk,seval,-Int.reduceToNat,Zb]<;>rfl)
    ·cases hh
     try simp only[bk,seval,-Int.reduceToNat]
     apply jo
     refine⟨rfl,⟨v1b,?_,?_,?_⟩⟩
     all_goals first|rfl|(simp only[bk,seval,-Int.reduceToNat,Zb]<;>rfl)
   ·rintro x t H e hx
    rcases o11 with s4bx|rb
    ·dsimp only at hx hh
     obtain⟨rfl,⟨v1bx,Zbx⟩⟩:=hx
     try simp only[bk,seval,-Int.reduceToNat,Zbx]
     obtain⟨o19,ho19,hh⟩:=ah hh
     refine bq 0 (fun s t H e=>match s with|s38j5=>∃v1j5:Nat,t 1=.ptr 1 v1j5 0∧t 4=.int .u64 s4bx∧t 38=.bool s38j5∧H 1=some ⟨v1j5,40,[.int .i64 p0.ae,.sl false false p0.aa.length (ab (eI .i64) p0.aa)],false,false,false⟩) (fun s=>s=o19) ?_ ?_
     ·rintro s38j5 t H e ⟨v1j5,Zj5⟩ rfl
      try dsimp only at hh
      try simp only[bk,seval,-Int.reduceToNat,Zj5]
      apply sp ak hh<;>intro _ hh
      ·cases hh
       try simp only[bk,seval,-Int.reduceToNat,Zj5]
      ·try simp only[bk,seval,-Int.reduceToNat,Zj5]
       apply sp cP hh<;>intro _ hh
       ·try simp only[bk,seval,-Int.reduceToNat,Zj5]
        apply sp ak hh<;>intro _ hh
        ·cases hh
         try simp only[bk,seval,-Int.reduceToNat,Zj5]
        ·cases hh
         try simp only[bk,seval,-Int.reduceToNat]
       ·cases hh
        try simp only[bk,seval,-Int.reduceToNat]
     ·clear hh
      have hh:=ho19
      try simp only[bk,seval,-Int.reduceToNat]
      apply sp cP hh<;>intro _ hh
      ·cases hh
       try simp only[bk,seval,-Int.reduceToNat,Zbx]
       rw[an]
       refine⟨_,rfl,?_⟩
       refine⟨v1bx,?_,?_,?_,?_⟩
       all_goals first|rfl|(simp only[bk,seval,-Int.reduceToNat,Zbx]<;>rfl)
      ·cases hh
       try simp only[bk,seval,-Int.reduceToNat]
       rw[an]
       refine⟨_,rfl,?_⟩
       refine⟨v1bx,?_,?_,?_,?_⟩
       all_goals first|rfl|(simp only[bk,seval,-Int.reduceToNat,Zbx]<;>rfl)
    ·dsimp only at hx hh
     obtain⟨rfl,hE⟩:=hx
     cases hh
     try simp only[a7,bh,cr,cn]
     exact hE
 ·clear hh
  have hh:=ho2
  try simp only[bk,seval,-Int.reduceToNat]
  apply sp aO hh<;>intro _ hh
  ·cases hh
   try simp only[bk,seval,-Int.reduceToNat]
   rw[an]
   refine⟨_,rfl,?_⟩
   refine⟨0,?_,?_,?_⟩
   all_goals first|rfl|(simp only[bk,seval,-Int.reduceToNat,hr1]<;>rfl)
  ·cases hh
   try simp only[bk,seval,-Int.reduceToNat]
   rw[an]
   refine⟨_,rfl,?_⟩
   refine⟨0,?_,?_,?_⟩
   all_goals first|rfl|(simp only[bk,seval,-Int.reduceToNat,hr1]<;>rfl)
theorem QU:bP Tryz.prog 192 yE:=bP.of (mode := .clean) tok Qb mixed Tryz.func192 (by kernel_rfl) ⟨by kernel_rfl,by kernel_rfl⟩ (fun _=>ahf (by kernel_rfl)) (fun x r h=>Ve x r h)
def v8:=fc (eQ (bL dw)) (fun x:aj=>nS x) (fun r:Bool =>.clean (.bool r))
theorem Ek (p0_0:Int) (p0_1:(List Int)):v8 none [.agg [.int .i64 p0_0,.sl false false p0_1.length (ab (eI .i64) p0_1)]]=(nS (aj.mk p0_0 p0_1)).map fun r:Bool=>(.clean (.bool r),none):=aJ _ _ _ ((aj.mk p0_0 p0_1))
def qQ:Env:=(Am.ext aY 192 false yE)
theorem Mt:bA Tryz.prog qQ:=(bA.none.add QU false)
theorem wM:type_of% (ai @w<|ai @H5<|@qQ.eq_1):=⟨@w,@H5,@qQ.eq_1⟩
theorem QD (p0:aj) (r:Bool) (hh:nS p0=some r):aW .clean tab qQ FU Tryz.f142 none [.agg [.int .i64 p0.ae,.sl false false p0.aa.length (ab (eI .i64) p0.aa)]]=some (.clean (.bool r),none):=by
 apply aA rfl Tryz.ntmps142 Tryz.results142
 unfold nS at hh
 obtain⟨r1,hr1,hh⟩:=ah hh
 try simp only[wM,seval,hr1]
 apply sp cP hh<;>intro _ hh
 ·cases hh
  try simp only[wM,seval]
 ·cases hh
  try simp only[wM,seval]
theorem Oi:bP Tryz.prog 142 v8:=bP.of (mode := .clean) tok Mt mixed Tryz.func142 (by kernel_rfl) ⟨by kernel_rfl,by kernel_rfl⟩ (fun _=>ahf (by kernel_rfl)) (fun x r h=>QD x r h)
def fj:=fc (eQ (bL aB)) (fun x:ao=>cy x) (fun r:Bool =>.clean (.bool r))
theorem cO (p0_0:Int) (p0_1:(List Int)) (p0_2:Int) (p0_3:(List Int)):fj none [.agg [.int .i64 p0_0,.sl false false p0_1.length (ab (eI .i64) p0_1),.int .i64 p0_2,.sl false false p0_3.length (ab (eI .i64) p0_3)]]=(cy (ao.mk (aj.mk p0_0 p0_1) (aj.mk p0_2 p0_3))).map fun r:Bool=>(.clean (.bool r),none):=aJ _ _ _ ((ao.mk (aj.mk p0_0 p0_1) (aj.mk p0_2 p0_3)))
def mP:Env:=(Am.ext (Am.ext (Am.ext aY 140 false eK) 141 false tJ) 142 false v8)
theorem Fh:bA Tryz.prog mP:=(((bA.none.add fm false).add DT false).add Oi false)
theorem cQ:type_of% (ai @w<|ai @cc<|ai @uO<|ai @Ek<|@mP.eq_1):=⟨@w,@cc,@uO,@Ek,@mP.eq_1⟩
theorem JQ (p0:ao) (r:Bool) (hh:cy p0=some r):aW .clean tab mP FU Tryz.f83 none [.agg [.int .i64 p0.aZ.ae,.sl false false p0.aZ.aa.length (ab (eI .i64) p0.aZ.aa),.int .i64 p0.aX.ae,.sl false false p0.aX.aa.length (ab (eI .i64) p0.aX.aa)]]=some (.clean (.bool r),none):=by
 apply aA rfl Tryz.ntmps83 Tryz.results83
 unfold cy at hh
 obtain⟨r1,hr1,hh⟩:=ah hh
 try simp only[cQ,seval,hr1]
 obtain⟨o2,ho2,hh⟩:=ah hh
 refine bq 0 (fun s t H e=>match s with|s20j1=>∃v1j1:Nat,t 1=.ptr 1 v1j1 0∧t 20=.bool s20j1∧H 1=some ⟨v1j1,42,[.int .i64 p0.aZ.ae,.sl false false p0.aZ.aa.length (ab (eI .i64) p0.aZ.aa),.int .i64 p0.aX.ae,.sl false false p0.aX.aa.length (ab (eI .i64) p0.aX.aa)],false,false,false⟩) (fun s=>s=o2) ?_ ?_
 ·rintro s20j1 t H e ⟨v1j1,Zj1⟩ rfl
  try dsimp only at hh
  try simp only[cQ,seval,Zj1]
  apply sp ak hh<;>intro _ hh
  ·cases hh
   try simp only[cQ,seval]
  ·obtain⟨r4,hr4,hh⟩:=ah hh
   try simp only[cQ,seval,Zj1,hr4]
   apply sp cP hh<;>intro _ hh
   ·obtain⟨r6,hr6,hh⟩:=ah hh
    cases hh
    try simp only[cQ,seval,hr6]
   ·cases hh
    try simp only[cQ,seval]
 ·clear hh
  have hh:=ho2
  try simp only[cQ,seval]
  apply sp aO hh<;>intro _ hh
  ·cases hh
   try simp only[cQ,seval]
   rw[an]
   refine⟨_,rfl,?_⟩
   refine⟨0,?_,?_,?_⟩
   all_goals first|rfl|(simp only[cQ,seval,hr1]<;>rfl)
  ·obtain⟨r8,hr8,hh⟩:=ah hh
   try simp only[cQ,seval,hr8]
   apply sp aO hh<;>intro _ hh
   ·cases hh
    try simp only[cQ,seval]
    rw[an]
    refine⟨_,rfl,?_⟩
    refine⟨0,?_,?_,?_⟩
    all_goals first|rfl|(simp only[cQ,seval,hr1,hr8]<;>rfl)
   ·cases hh
    try simp only[cQ,seval]
    rw[an]
    refine⟨_,rfl,?_⟩
    refine⟨0,?_,?_,?_⟩
    all_goals first|rfl|(simp only[cQ,seval,hr1,hr8]<;>rfl)
theorem gh:bP Tryz.prog 83 fj:=bP.of (mode := .clean) tok Fh mixed Tryz.func83 (by kernel_rfl) ⟨by kernel_rfl,by kernel_rfl⟩ (fun _=>ahf (by kernel_rfl)) (fun x r h=>JQ x r h)
def gE:=fc (eQ (bL aB)) (fun x:ao=>eT x) (fun r:Int =>.clean (.int .i64 r))
theorem ej (p0_0:Int) (p0_1:(List Int)) (p0_2:Int) (p0_3:(List Int)):gE none [.agg [.int .i64 p0_0,.sl false false p0_1.length (ab (eI .i64) p0_1),.int .i64 p0_2,.sl false false p0_3.length (ab (eI .i64) p0_3)]]=(eT (ao.mk (aj.mk p0_0 p0_1) (aj.mk p0_2 p0_3))).map fun r:Int=>(.clean (.int .i64 r),none):=aJ _ _ _ ((ao.mk (aj.mk p0_0 p0_1) (aj.mk p0_2 p0_3)))
def oJ:Env:=(Am.ext aY 83 false fj)
theorem JD:bA Tryz.prog oJ:=(bA.none.add gh false)
theorem tG:type_of% (ai @w<|ai @cO<|@oJ.eq_1):=⟨@w,@cO,@oJ.eq_1⟩
theorem NA (p0:ao) (r:Int) (hh:eT p0=some r):aW .clean tab oJ FU Tryz.f39 none [.agg [.int .i64 p0.aZ.ae,.sl false false p0.aZ.aa.length (ab (eI .i64) p0.aZ.aa),.int .i64 p0.aX.ae,.sl false false p0.aX.aa.length (ab (eI .i64) p0.aX.aa)]]=some (.clean (.int .i64 r),none):=by
 apply aA rfl Tryz.ntmps39 Tryz.results39
 unfold eT at hh
 obtain⟨r1,hr1,hh⟩:=ah hh
 try simp only[tG,seval,hr1]
 apply sp ak hh<;>intro _ hh
 ·cases hh
  try simp only[tG,seval]
 ·cases hh
  try simp only[tG,seval]
theorem iV:bP Tryz.prog 39 gE:=bP.of (mode := .clean) tok JD mixed Tryz.func39 (by kernel_rfl) ⟨by kernel_rfl,by kernel_rfl⟩ (fun _=>ahf (by kernel_rfl)) (fun x r h=>NA x r h)
def yF:=fc (kp (bL dw) (eQ (bL dw))) (fun x:aj×aj=>qB x.1 x.2) (fun r:aj×Int =>.clean (.tup [.agg [.int .i64 r.1.ae,.sl false false r.1.aa.length (ab (eI .i64) r.1.aa)],.int .i64 r.2]))
theorem H6 (p0_0:Int) (p0_1:(List Int)) (p1_0:Int) (p1_1:(List Int)):yF none [.agg [.int .i64 p0_0,.sl false false p0_1.length (ab (eI .i64) p0_1)],.agg [.int .i64 p1_0,.sl false false p1_1.length (ab (eI .i64) p1_1)]]=(qB (aj.mk p0_0 p0_1) (aj.mk p1_0 p1_1)).map fun r:aj×Int=>(.clean (.tup [.agg [.int .i64 r.1.ae,.sl false false r.1.aa.length (ab (eI .i64) r.1.aa)],.int .i64 r.2]),none):=aJ _ _ _ ((aj.mk p0_0 p0_1),(aj.mk p1_0 p1_1))
def ur:Env:=(Am.ext (Am.ext (Am.ext (Am.ext aY 140 false eK) 147 false fQ) 148 false jq) 197 false tN)
theorem Qc:bA Tryz.prog ur:=((((bA.none.add fm false).add hZ false).add nZ false).add DX false)
theorem jb:type_of% (ai @w<|ai @cc<|ai @dH<|ai @eJ<|ai @nh<|@ur.eq_1):=⟨@w,@cc,@dH,@eJ,@nh,@ur.eq_1⟩
theorem Vf (p0:aj) (p1:aj) (r:aj×Int) (hh:qB p0 p1=some r):aW .clean tab ur FU Tryz.f152 none [.agg [.int .i64 p0.ae,.sl false false p0.aa.length (ab (eI .i64) p0.aa)],.agg [.int .i64 p1.ae,.sl false false p1.aa.length (ab (eI .i64) p1.aa)]]=some (.clean (.tup [.agg [.int .i64 r.1.ae,.sl false false r.1.aa.length (ab (eI .i64) r.1.aa)],.int .i64 r.2]),none):=by
 apply aA rfl Tryz.ntmps152 Tryz.results152
 unfold qB at hh
 obtain⟨r1,hr1,hh⟩:=ah hh
 try simp only[jb,seval,hr1]
 obtain⟨o2,ho2,hh⟩:=ah hh
 refine bq 0 (fun s t H e=>match s with|s13j1=>∃v2j1:Nat,∃v3j1:Nat,∃v4j1:Nat,t 2=.ptr 2 v2j1 0∧t 3=.ptr 3 v3j1 0∧t 4=.ptr 4 v4j1 0∧t 13=.bool s13j1∧H 2=some ⟨v2j1,40,[.int .i64 p0.ae,.sl false false p0.aa.length (ab (eI .i64) p0.aa)],false,false,false⟩∧H 3=some ⟨v3j1,40,[.int .i64 p1.ae,.sl false false p1.aa.length (ab (eI .i64) p1.aa)],false,false,false⟩∧H 4=some ⟨v4j1,40,[.int .i64 0,.sl true true 0 []],false,false,false⟩) (fun s=>s=o2) ?_ ?_
 ·rintro s13j1 t H e ⟨v2j1,v3j1,v4j1,Zj1⟩ rfl
  try dsimp only at hh
  try simp only[jb,seval,Zj1]
  apply sp ak hh<;>intro _ hh
  ·have i4:=eJ false 0 ([])
   simp only[bN]at i4
   obtain⟨r5,hr5,hh⟩:=ah hh
   cases hh
   try simp only[jb,seval,Zj1,i4,hr5]
  ·obtain⟨r6,hr6,hh⟩:=ah hh
   obtain⟨r7,hr7,hh⟩:=ah hh
   obtain⟨r8,hr8,hh⟩:=ah hh
   try simp only[jb,seval,Zj1,hr6,hr7,hr8]
   refine bB (by kernel_rfl) ?_
   cases hh
   try simp only[seval]
 ·clear hh
  have hh:=ho2
  try simp only[jb,seval]
  apply sp aO hh<;>intro _ hh
  ·cases hh
   try simp only[jb,seval]
   rw[an]
   refine⟨_,rfl,?_⟩
   refine⟨0,0,0,?_,?_,?_,?_,?_,?_,?_⟩
   all_goals first|rfl|(simp only[jb,seval,hr1]<;>rfl)
  ·obtain⟨r10,hr10,hh⟩:=ah hh
   cases hh
   try simp only[jb,seval,hr10]
   rw[an]
   refine⟨_,rfl,?_⟩
   refine⟨0,0,0,?_,?_,?_,?_,?_,?_,?_⟩
   all_goals first|rfl|(simp only[jb,seval,hr1,hr10]<;>rfl)
theorem QV:bP Tryz.prog 152 yF:=bP.of (mode := .clean) tok Qc mixed Tryz.func152 (by kernel_rfl) ⟨by kernel_rfl,by kernel_rfl⟩ (fun _=>ahf (by kernel_rfl)) (fun x r h=>Vf x.1 x.2 r h)
def kx:=fc (kp (bL dw) (eQ (bL dw))) (fun x:aj×aj=>dt x.1 x.2) (fun r:aj =>.clean (.agg [.int .i64 r.ae,.sl false false r.aa.length (ab (eI .i64) r.aa)]))
theorem iY (p0_0:Int) (p0_1:(List Int)) (p1_0:Int) (p1_1:(List Int)):kx none [.agg [.int .i64 p0_0,.sl false false p0_1.length (ab (eI .i64) p0_1)],.agg [.int .i64 p1_0,.sl false false p1_1.length (ab (eI .i64) p1_1)]]=(dt (aj.mk p0_0 p0_1) (aj.mk p1_0 p1_1)).map fun r:aj=>(.clean (.agg [.int .i64 r.ae,.sl false false r.aa.length (ab (eI .i64) r.aa)]),none):=aJ _ _ _ ((aj.mk p0_0 p0_1),(aj.mk p1_0 p1_1))
def mQ:Env:=(Am.ext aY 152 false yF)
theorem Fi:bA Tryz.prog mQ:=(bA.none.add QV false)
theorem KB:type_of% (ai @w<|ai @H6<|@mQ.eq_1):=⟨@w,@H6,@mQ.eq_1⟩
theorem JR (p0:aj) (p1:aj) (r:aj) (hh:dt p0 p1=some r):aW .clean tab mQ FU Tryz.f92 none [.agg [.int .i64 p0.ae,.sl false false p0.aa.length (ab (eI .i64) p0.aa)],.agg [.int .i64 p1.ae,.sl false false p1.aa.length (ab (eI .i64) p1.aa)]]=some (.clean (.agg [.int .i64 r.ae,.sl false false r.aa.length (ab (eI .i64) r.aa)]),none):=by
 apply aA rfl Tryz.ntmps92 Tryz.results92
 unfold dt at hh
 obtain⟨r1,hr1,hh⟩:=ah hh
 cases hh
 try simp only[KB,seval,hr1]
theorem pz:bP Tryz.prog 92 kx:=bP.of (mode := .clean) tok Fi mixed Tryz.func92 (by kernel_rfl) ⟨by kernel_rfl,by kernel_rfl⟩ (fun _=>ahf (by kernel_rfl)) (fun x r h=>JR x.1 x.2 r h)
def wS:=fc (eQ (po (eI .i64))) (fun x:(List Int)=>sK x) (fun r:Int =>.clean (.int .i64 r))
theorem pX (p0:(List Int)):wS none [.sl false false p0.length (ab (eI .i64) p0)]=(sK p0).map fun r:Int=>(.clean (.int .i64 r),none):=aJ _ _ _ (p0)
theorem XX (p0:(List Int)) (r:Int) (hh:sK p0=some r):aW .clean tab aY FU Tryz.f138 none [.sl false false p0.length (ab (eI .i64) p0)]=some (.clean (.int .i64 r),none):=by
 apply aA rfl Tryz.ntmps138 Tryz.results138
 unfold sK at hh
 try simp only[w,seval]
 obtain⟨o4,ho4,hh⟩:=ah hh
 refine ay (fun s t H e=>match s with|s8a=>t 3=.int .i64 0∧t 6=.sl false false p0.length (ab (eI .i64) p0)∧t 7=.int .i64 (p0.length:Int)∧t 8=.int .i64 s8a) (fun o x t H e=>match o with|(.inl _)=>x=.exit 0∧t 3=.int .i64 0|(.inr r)=>x=.ret∧eZ .clean tab none [.tmp 2] ⟨t,EH H,e⟩=some (.clean (.int .i64 r),none)) ho4 ?_ ?_ ?_
 ·refine⟨?_,?_,?_,?_⟩
  all_goals first|rfl|(simp only[w,seval]<;>rfl)
 ·rintro s8a t H e Za c hh
  simp only[ub]at hh
  try simp only[w,seval,Za]
  apply sp ak hh<;>intro _ hh
  ·obtain⟨x6,hx6,hh⟩:=ah hh
   have ax6:=bs (eI .i64) hx6
   simp only[bN]at ax6
   try simp only[w,seval,Za,ax6]
   apply sp ak hh<;>intro _ hh
   ·cases hh
    try simp only[w,seval]
    refine rT ⟨rfl,?_⟩
    try simp only[w,seval]
   ·cases hh
    try simp only[w,seval,Za]
    apply gV
    refine⟨?_,?_,?_,?_⟩
    all_goals first|rfl|(simp only[w,seval,Za]<;>rfl)
  ·cases hh
   try simp only[w,seval]
   apply jo
   refine⟨rfl,?_⟩
   all_goals first|rfl|(simp only[w,seval,Za]<;>rfl)
 ·rintro x t H e hx
  rcases o4 with _|ra
  ·dsimp only at hx hh
   obtain⟨rfl,Zax⟩:=hx
   cases hh
   try simp only[w,seval,Zax]
  ·dsimp only at hx hh
   obtain⟨rfl,hE⟩:=hx
   cases hh
   try simp only[a7,bh,cr,cn]
   exact hE
theorem HU:bP Tryz.prog 138 wS:=bP.of (mode := .clean) tok bA.none mixed Tryz.func138 (by kernel_rfl) ⟨by kernel_rfl,by kernel_rfl⟩ (fun _=>ahf (by kernel_rfl)) (fun x r h=>XX x r h)
def tL:=fc (kp (po (eI .i64)) (eQ (po (eI .i64)))) (fun x:(List Int)×(List Int)=>oC x.1 x.2) (fun r:(List Int) =>.clean (.sl false false r.length (ab (eI .i64) r)))
theorem pW (p0:(List Int)) (p1:(List Int)):tL none [.sl false false p0.length (ab (eI .i64) p0),.sl false false p1.length (ab (eI .i64) p1)]=(oC p0 p1).map fun r:(List Int)=>(.clean (.sl false false r.length (ab (eI .i64) r)),none):=aJ _ _ _ (p0,p1)
def uv:Env:=(Am.ext aY 196 false jN)
theorem Qe:bA Tryz.prog uv:=(bA.none.add mh false)
theorem cW:type_of% (ai @w<|ai @fa<|@uv.eq_1):=⟨@w,@fa,@uv.eq_1⟩
theorem Vh (p0:(List Int)) (p1:(List Int)) (r:(List Int)) (hh:oC p0 p1=some r):aW .clean tab uv FU Tryz.f149 none [.sl false false p0.length (ab (eI .i64) p0),.sl false false p1.length (ab (eI .i64) p1)]=some (.clean (.sl false false r.length (ab (eI .i64) r)),none):=by
 apply aA rfl Tryz.ntmps149 Tryz.results149
 unfold oC at hh
 try simp only[cW,seval,-Int.reduceToNat]
 obtain⟨o1,ho1,hh⟩:=ah hh
 refine jB 0 (fun s t H e=>match s with|(s0j1,s1j1)=>t 0=.sl false false s0j1.length (ab (eI .i64) s0j1)∧t 1=.sl false false s1j1.length (ab (eI .i64) s1j1)) (fun s=>s=o1) ?_ ?_
 ·rintro⟨s0j1,s1j1⟩ t H e Zj1 rfl
  try dsimp only at hh
  obtain⟨x2,hx2,hh⟩:=ah hh
  obtain⟨q3a,q3b,q3c,q3d,q3e⟩:=mk_one (eI .i64) hx2
  simp only[bN]at q3d
  try simp only[cW,seval,-Int.reduceToNat,Zj1,q3a,q3b,q3c,q3d,q3e]
  obtain⟨o13,ho13,hh⟩:=ah hh
  refine ay (fun s t H e=>match s with|(s6b,s22b,l5b)=>∃v5b:Nat,t 0=.sl false false s0j1.length (ab (eI .i64) s0j1)∧t 1=.sl false false s1j1.length (ab (eI .i64) s1j1)∧t 5=.buf 5 v5b 1 0 (l5b).length∧t 6=.int .i64 s6b∧t 20=.sl false false s0j1.length (ab (eI .i64) s0j1)∧t 21=.int .i64 (s0j1.length:Int)∧t 22=.int .i64 s22b∧H 5=some ⟨v5b,3,ab (eI .i64) l5b,false,true,false⟩) (fun o x t H e=>match o with|(s6bx,l5bx)=>x=.exit 0∧∃v5bx:Nat,t 0=.sl false false s0j1.length (ab (eI .i64) s0j1)∧t 5=.buf 5 v5bx 1 0 (l5bx).length∧t 6=.int .i64 s6bx∧H 5=some ⟨v5bx,3,ab (eI .i64) l5bx,false,true,false⟩) ho13 ?_ ?_ ?_
  ·refine⟨e,?_,?_,?_,?_,?_,?_,?_,?_⟩
   all_goals first|rfl|(simp only[cW,seval,-Int.reduceToNat,Zj1]<;>rfl)
  ·rintro⟨s6b,s22b,l5b⟩ t H e ⟨v5b,Zb⟩ c hh
   simp only[nD]at hh
   try simp only[cW,seval,-Int.reduceToNat,Zb]
   apply sp ak hh<;>intro _ hh
   ·obtain⟨x15,hx15,hh⟩:=ah hh
    have ax15:=bs (eI .i64) hx15
    simp only[bN]at ax15
    try simp only[cW,seval,-Int.reduceToNat,Zb,ax15]
    obtain⟨o16,ho16,hh⟩:=ah hh
    refine jB 0 (fun s t H e=>match s with|s6j4=>∃v5j4:Nat,t 0=.sl false false s0j1.length (ab (eI .i64) s0j1)∧t 1=.sl false false s1j1.length (ab (eI .i64) s1j1)∧t 5=.buf 5 v5j4 1 0 (l5b).length∧t 6=.int .i64 s6j4∧t 7=.int .i64 s22b∧t 20=.sl false false s0j1.length (ab (eI .i64) s0j1)∧t 21=.int .i64 (s0j1.length:Int)∧t 22=.int .i64 s22b∧H 5=some ⟨v5j4,3,ab (eI .i64) l5b,false,true,false⟩) (fun s=>s=o16) ?_ ?_
    ·rintro s6j4 t H e ⟨v5j4,Zj4⟩ rfl
     try dsimp only at hh
     obtain⟨x17,hx17,hh⟩:=ah hh
     have ax17:=bs (eI .i64) hx17
     simp only[bN]at ax17
     have p18:=eV (eI .i64) (x':=jh .and .i64 s6j4 1048575) (fo:=0) (cs:=[.int .i64 (jh .and .i64 s6j4 1048575)]) hx17 rfl (ahf rfl)
     simp only[bN,Nat.add_zero]at p18
     have up18:=p18
     simp only[putCells,List.length_cons,List.length_nil,agj]at up18
     obtain⟨x19,hx19,hh⟩:=ah hh
     have q20:=va hx19
     cases hh
     try simp only[cW,seval,-Int.reduceToNat,ax15,Zj4,ax17,up18,q20]
     apply gV
     refine⟨v5j4,?_,?_,?_,?_,?_,?_,?_,?_⟩
     all_goals first|rfl|(simp only[cW,seval,-Int.reduceToNat,Zj4]<;>rfl)
    ·clear hh
     have hh:=ho16
     try simp only[cW,seval,-Int.reduceToNat]
     apply sp ak hh<;>intro _ hh
     ·obtain⟨x22,hx22,hh⟩:=ah hh
      have ax22:=bs (eI .i64) hx22
      simp only[bN]at ax22
      cases hh
      try simp only[cW,seval,-Int.reduceToNat,Zb,ax15,ax22]
      rw[an]
      refine⟨_,rfl,?_⟩
      refine⟨v5b,?_,?_,?_,?_,?_,?_,?_,?_,?_⟩
      all_goals first|rfl|(simp only[cW,seval,-Int.reduceToNat,Zb]<;>rfl)
     ·cases hh
      try simp only[cW,seval,-Int.reduceToNat]
      rw[an]
      refine⟨_,rfl,?_⟩
      refine⟨v5b,?_,?_,?_,?_,?_,?_,?_,?_,?_⟩
      all_goals first|rfl|(simp only[cW,seval,-Int.reduceToNat,Zb]<;>rfl)
   ·cases hh
    try simp only[cW,seval,-Int.reduceToNat]
    apply jo
    refine⟨rfl,⟨v5b,?_,?_,?_,?_⟩⟩
    all_goals first|rfl|(simp only[cW,seval,-Int.reduceToNat,Zb]<;>rfl)
  ·rintro x t H e hx
   rcases o13 with⟨s6bx,l5bx⟩
   dsimp only at hx hh
   obtain⟨rfl,⟨v5bx,Zbx⟩⟩:=hx
   obtain⟨x23,hx23,hh⟩:=ah hh
   have ax23:=bs (eI .i64) hx23
   simp only[bN]at ax23
   have p24:=eV (eI .i64) (x':=s6bx) (fo:=0) (cs:=[.int .i64 s6bx]) hx23 rfl (ahf rfl)
   simp only[bN,Nat.add_zero]at p24
   have up24:=p24
   simp only[putCells,List.length_cons,List.length_nil,agj]at up24
   have i25:=fa (l5bx.set ((s0j1.length:Int)).toNat s6bx)
   simp only[ahv]at i25
   obtain⟨r26,hr26,hh⟩:=ah hh
   cases hh
   try simp only[cW,seval,-Int.reduceToNat,Zbx,ax23,up24,i25,hr26]
 ·clear hh
  have hh:=ho1
  try simp only[cW,seval,-Int.reduceToNat]
  apply sp ak hh<;>intro _ hh
  ·cases hh
   try simp only[cW,seval,-Int.reduceToNat]
   rw[an]
   refine⟨_,rfl,?_⟩
   refine⟨?_,?_⟩
   all_goals first|rfl|(simp only[cW,seval,-Int.reduceToNat]<;>rfl)
  ·cases hh
   try simp only[cW,seval,-Int.reduceToNat]
   rw[an]
   refine⟨_,rfl,?_⟩
   refine⟨?_,?_⟩
   all_goals first|rfl|(simp only[cW,seval,-Int.reduceToNat]<;>rfl)
theorem DV:bP Tryz.prog 149 tL:=bP.of (mode := .clean) tok Qe mixed Tryz.func149 (by kernel_rfl) ⟨by kernel_rfl,by kernel_rfl⟩ (fun _=>ahf (by kernel_rfl)) (fun x r h=>Vh x.1 x.2 r h)
def tO:=fc (kp (po (eI .i64)) (eQ (po (eI .i64)))) (fun x:(List Int)×(List Int)=>mK x.1 x.2) (fun r:(List Int) =>.clean (.sl false false r.length (ab (eI .i64) r)))
theorem uR (p0:(List Int)) (p1:(List Int)):tO none [.sl false false p0.length (ab (eI .i64) p0),.sl false false p1.length (ab (eI .i64) p1)]=(mK p0 p1).map fun r:(List Int)=>(.clean (.sl false false r.length (ab (eI .i64) r)),none):=aJ _ _ _ (p0,p1)
def uA:Env:=(Am.ext (Am.ext aY 106 false ey) 196 false jN)
theorem Qh:bA Tryz.prog uA:=((bA.none.add gq false).add mh false)
theorem eW:type_of% (ai @w<|ai @da<|ai @fa<|@uA.eq_1):=⟨@w,@da,@fa,@uA.eq_1⟩
theorem Vk (p0:(List Int)) (p1:(List Int)) (r:(List Int)) (hh:mK p0 p1=some r):aW .clean tab uA FU Tryz.f151 none [.sl false false p0.length (ab (eI .i64) p0),.sl false false p1.length (ab (eI .i64) p1)]=some (.clean (.sl false false r.length (ab (eI .i64) r)),none):=by
 apply aA rfl Tryz.ntmps151 Tryz.results151
 unfold mK at hh
 obtain⟨r1,hr1,hh⟩:=ah hh
 try simp only[eW,seval,-Int.reduceToNat,hr1]
 obtain⟨o10,ho10,hh⟩:=ah hh
 refine ay (fun s t H e=>match s with|(s6a,s13a,l5a)=>∃v5a:Nat,t 1=.sl false false p1.length (ab (eI .i64) p1)∧t 5=.buf 5 v5a 1 0 (l5a).length∧t 6=.int .i64 s6a∧t 12=.int .i64 ((r1).length:Int)∧t 13=.int .i64 s13a∧H 5=some ⟨v5a,3,ab (eI .i64) l5a,false,true,false⟩) (fun o x t H e=>match o with|l5ax=>x=.exit 0∧∃v5ax:Nat,t 5=.buf 5 v5ax 1 0 (l5ax).length∧H 5=some ⟨v5ax,3,ab (eI .i64) l5ax,false,true,false⟩) ho10 ?_ ?_ ?_
 ·refine⟨1,?_,?_,?_,?_,?_,?_⟩
  all_goals first|rfl|(simp only[eW,seval,-Int.reduceToNat,hr1]<;>rfl)
 ·rintro⟨s6a,s13a,l5a⟩ t H e ⟨v5a,Za⟩ c hh
  simp only[qH]at hh
  try simp only[eW,seval,-Int.reduceToNat,Za]
  apply sp ak hh<;>intro _ hh
  ·obtain⟨x12,hx12,hh⟩:=ah hh
   have ax12:=bs (eI .i64) hx12
   simp only[bN]at ax12
   try simp only[eW,seval,-Int.reduceToNat,Za,ax12]
   obtain⟨o13,ho13,hh⟩:=ah hh
   refine jB 0 (fun s t H e=>match s with|s8j3=>∃v5j3:Nat,t 1=.sl false false p1.length (ab (eI .i64) p1)∧t 5=.buf 5 v5j3 1 0 (l5a).length∧t 7=.int .i64 s13a∧t 8=.int .i64 s8j3∧t 12=.int .i64 ((r1).length:Int)∧t 13=.int .i64 s13a∧H 5=some ⟨v5j3,3,ab (eI .i64) l5a,false,true,false⟩) (fun s=>s=o13) ?_ ?_
   ·rintro s8j3 t H e ⟨v5j3,Zj3⟩ rfl
    try dsimp only at hh
    obtain⟨x14,hx14,hh⟩:=ah hh
    have q15:=va hx14
    have ax12:=bs (eI .i64) hx12
    simp only[bN]at ax12
    have p16:=eV (eI .i64) (x':=jh .and .i64 s8j3 1048575) (fo:=0) (cs:=[.int .i64 (jh .and .i64 s8j3 1048575)]) hx12 rfl (ahf rfl)
    simp only[bN,Nat.add_zero]at p16
    have up16:=p16
    simp only[putCells,List.length_cons,List.length_nil,agj]at up16
    cases hh
    try simp only[eW,seval,-Int.reduceToNat,Zj3,q15,ax12,up16]
    apply gV
    refine⟨v5j3,?_,?_,?_,?_,?_,?_⟩
    all_goals first|rfl|(simp only[eW,seval,-Int.reduceToNat,Zj3]<;>rfl)
   ·clear hh
    have hh:=ho13
    try simp only[eW,seval,-Int.reduceToNat]
    apply sp ak hh<;>intro _ hh
    ·obtain⟨x18,hx18,hh⟩:=ah hh
     have ax18:=bs (eI .i64) hx18
     simp only[bN]at ax18
     cases hh
     try simp only[eW,seval,-Int.reduceToNat,Za,ax12,ax18]
     rw[an]
     refine⟨_,rfl,?_⟩
     refine⟨v5a,?_,?_,?_,?_,?_,?_,?_⟩
     all_goals first|rfl|(simp only[eW,seval,-Int.reduceToNat,Za]<;>rfl)
    ·cases hh
     try simp only[eW,seval,-Int.reduceToNat]
     rw[an]
     refine⟨_,rfl,?_⟩
     refine⟨v5a,?_,?_,?_,?_,?_,?_,?_⟩
     all_goals first|rfl|(simp only[eW,seval,-Int.reduceToNat,Za]<;>rfl)
  ·cases hh
   try simp only[eW,seval,-Int.reduceToNat]
   apply jo
   refine⟨rfl,⟨v5a,?_,?_⟩⟩
   all_goals first|rfl|(simp only[eW,seval,-Int.reduceToNat,Za]<;>rfl)
 ·rintro x t H e hx
  obtain⟨l5ax,rfl⟩:∃z,z=o10:=⟨_,rfl⟩
  dsimp only at hx hh
  obtain⟨rfl,⟨v5ax,Zax⟩⟩:=hx
  obtain⟨r19,hr19,hh⟩:=ah hh
  cases hh
  try simp only[eW,seval,-Int.reduceToNat,Zax,hr19]
theorem DY:bP Tryz.prog 151 tO:=bP.of (mode := .clean) tok Qh mixed Tryz.func151 (by kernel_rfl) ⟨by kernel_rfl,by kernel_rfl⟩ (fun _=>ahf (by kernel_rfl)) (fun x r h=>Vk x.1 x.2 r h)
def yC:=fc (kp (bL dw) (eQ (bL dw))) (fun x:aj×aj=>qy x.1 x.2) (fun r:aj×Int =>.clean (.tup [.agg [.int .i64 r.1.ae,.sl false false r.1.aa.length (ab (eI .i64) r.1.aa)],.int .i64 r.2]))
theorem H3 (p0_0:Int) (p0_1:(List Int)) (p1_0:Int) (p1_1:(List Int)):yC none [.agg [.int .i64 p0_0,.sl false false p0_1.length (ab (eI .i64) p0_1)],.agg [.int .i64 p1_0,.sl false false p1_1.length (ab (eI .i64) p1_1)]]=(qy (aj.mk p0_0 p0_1) (aj.mk p1_0 p1_1)).map fun r:aj×Int=>(.clean (.tup [.agg [.int .i64 r.1.ae,.sl false false r.1.aa.length (ab (eI .i64) r.1.aa)],.int .i64 r.2]),none):=aJ _ _ _ ((aj.mk p0_0 p0_1),(aj.mk p1_0 p1_1))
def uk:Env:=(Am.ext (Am.ext (Am.ext (Am.ext (Am.ext (Am.ext (Am.ext aY 138 false wS) 140 false eK) 147 false fQ) 148 false jq) 149 false tL) 150 false jr) 151 false tO)
theorem P8:bA Tryz.prog uk:=(((((((bA.none.add HU false).add fm false).add hZ false).add nZ false).add DV false).add n5 false).add DY false)
theorem fv:type_of% (ai @w<|ai @pX<|ai @cc<|ai @dH<|ai @eJ<|ai @pW<|ai @ib<|ai @uR<|@uk.eq_1):=⟨@w,@pX,@cc,@dH,@eJ,@pW,@ib,@uR,@uk.eq_1⟩
theorem Vb (p0:aj) (p1:aj) (r:aj×Int) (hh:qy p0 p1=some r):aW .clean tab uk FU Tryz.f91 none [.agg [.int .i64 p0.ae,.sl false false p0.aa.length (ab (eI .i64) p0.aa)],.agg [.int .i64 p1.ae,.sl false false p1.aa.length (ab (eI .i64) p1.aa)]]=some (.clean (.tup [.agg [.int .i64 r.1.ae,.sl false false r.1.aa.length (ab (eI .i64) r.1.aa)],.int .i64 r.2]),none):=by
 apply aA rfl Tryz.ntmps91 Tryz.results91
 unfold qy at hh
 obtain⟨r1,hr1,hh⟩:=ah hh
 try simp only[fv,seval,hr1]
 obtain⟨o2,ho2,hh⟩:=ah hh
 refine bq 0 (fun s t H e=>match s with|s13j1=>∃v2j1:Nat,∃v3j1:Nat,∃v4j1:Nat,t 2=.ptr 2 v2j1 0∧t 3=.ptr 3 v3j1 0∧t 4=.ptr 4 v4j1 0∧t 13=.bool s13j1∧H 2=some ⟨v2j1,40,[.int .i64 p0.ae,.sl false false p0.aa.length (ab (eI .i64) p0.aa)],false,false,false⟩∧H 3=some ⟨v3j1,40,[.int .i64 p1.ae,.sl false false p1.aa.length (ab (eI .i64) p1.aa)],false,false,false⟩∧H 4=some ⟨v4j1,40,[.int .i64 0,.sl true true 0 []],false,false,false⟩) (fun s=>s=o2) ?_ ?_
 ·rintro s13j1 t H e ⟨v2j1,v3j1,v4j1,Zj1⟩ rfl
  try dsimp only at hh
  try simp only[fv,seval,Zj1]
  apply sp ak hh<;>intro _ hh
  ·have i4:=eJ false 0 ([])
   simp only[bN]at i4
   obtain⟨r5,hr5,hh⟩:=ah hh
   cases hh
   try simp only[fv,seval,Zj1,i4,hr5]
  ·try simp only[fv,seval,Zj1]
   apply sp ak hh<;>intro _ hh
   ·have i7:=pX ([p0.ae,p1.ae])
    simp only[bn,bN,List.length_cons,agj,Nat.reduceAdd]at i7
    obtain⟨r8,hr8,hh⟩:=ah hh
    obtain⟨r9,hr9,hh⟩:=ah hh
    obtain⟨r10,hr10,hh⟩:=ah hh
    obtain⟨r11,hr11,hh⟩:=ah hh
    try simp only[fv,seval,Zj1,i7,hr8,hr9,hr10,hr11]
    refine bB (by kernel_rfl) ?_
    cases hh
    try simp only[seval]
   ·obtain⟨r12,hr12,hh⟩:=ah hh
    try simp only[fv,seval,Zj1,hr12]
    apply sp ak hh<;>intro _ hh
    ·obtain⟨r14,hr14,hh⟩:=ah hh
     obtain⟨r15,hr15,hh⟩:=ah hh
     obtain⟨r16,hr16,hh⟩:=ah hh
     try simp only[fv,seval,Zj1,hr14,hr15,hr16]
     refine bB (by kernel_rfl) ?_
     cases hh
     try simp only[seval]
    ·obtain⟨r17,hr17,hh⟩:=ah hh
     obtain⟨r18,hr18,hh⟩:=ah hh
     obtain⟨r19,hr19,hh⟩:=ah hh
     try simp only[fv,seval,Zj1,hr17,hr18,hr19]
     refine bB (by kernel_rfl) ?_
     cases hh
     try simp only[seval]
 ·clear hh
  have hh:=ho2
  try simp only[fv,seval]
  apply sp aO hh<;>intro _ hh
  ·cases hh
   try simp only[fv,seval]
   rw[an]
   refine⟨_,rfl,?_⟩
   refine⟨0,0,0,?_,?_,?_,?_,?_,?_,?_⟩
   all_goals first|rfl|(simp only[fv,seval,hr1]<;>rfl)
  ·obtain⟨r21,hr21,hh⟩:=ah hh
   cases hh
   try simp only[fv,seval,hr21]
   rw[an]
   refine⟨_,rfl,?_⟩
   refine⟨0,0,0,?_,?_,?_,?_,?_,?_,?_⟩
   all_goals first|rfl|(simp only[fv,seval,hr1,hr21]<;>rfl)
theorem QS:bP Tryz.prog 91 yC:=bP.of (mode := .clean) tok P8 mixed Tryz.func91 (by kernel_rfl) ⟨by kernel_rfl,by kernel_rfl⟩ (fun _=>ahf (by kernel_rfl)) (fun x r h=>Vb x.1 x.2 r h)
def tK:=fc (eQ (bL dw)) (fun x:aj=>lE x) (fun r:aj =>.clean (.agg [.int .i64 r.ae,.sl false false r.aa.length (ab (eI .i64) r.aa)]))
theorem uP (p0_0:Int) (p0_1:(List Int)):tK none [.agg [.int .i64 p0_0,.sl false false p0_1.length (ab (eI .i64) p0_1)]]=(lE (aj.mk p0_0 p0_1)).map fun r:aj=>(.clean (.agg [.int .i64 r.ae,.sl false false r.aa.length (ab (eI .i64) r.aa)]),none):=aJ _ _ _ ((aj.mk p0_0 p0_1))
def uu:Env:=(Am.ext (Am.ext (Am.ext aY 106 false ey) 140 false eK) 147 false fQ)
theorem Qd:bA Tryz.prog uu:=(((bA.none.add gq false).add fm false).add hZ false)
theorem zq:type_of% (ai @w<|ai @da<|ai @cc<|ai @dH<|@uu.eq_1):=⟨@w,@da,@cc,@dH,@uu.eq_1⟩
theorem Vg (p0:aj) (r:aj) (hh:lE p0=some r):aW .clean tab uu FU Tryz.f90 none [.agg [.int .i64 p0.ae,.sl false false p0.aa.length (ab (eI .i64) p0.aa)]]=some (.clean (.agg [.int .i64 r.ae,.sl false false r.aa.length (ab (eI .i64) r.aa)]),none):=by
 apply aA rfl Tryz.ntmps90 Tryz.results90
 unfold lE at hh
 obtain⟨r1,hr1,hh⟩:=ah hh
 try simp only[zq,seval,hr1]
 apply sp ak hh<;>intro _ hh
 ·cases hh
  try simp only[zq,seval]
 ·obtain⟨r3,hr3,hh⟩:=ah hh
  obtain⟨r4,hr4,hh⟩:=ah hh
  try simp only[zq,seval,hr3,hr4]
  refine bB (by kernel_rfl) ?_
  cases hh
  try simp only[seval]
theorem DU:bP Tryz.prog 90 tK:=bP.of (mode := .clean) tok Qd mixed Tryz.func90 (by kernel_rfl) ⟨by kernel_rfl,by kernel_rfl⟩ (fun _=>ahf (by kernel_rfl)) (fun x r h=>Vg x r h)
def yD:=fc (kp (bL dw) (eQ (bL dw))) (fun x:aj×aj=>lD x.1 x.2) (fun r:aj×aj×Int =>.clean (.tup [.agg [.int .i64 r.1.ae,.sl false false r.1.aa.length (ab (eI .i64) r.1.aa)],.agg [.int .i64 r.2.1.ae,.sl false false r.2.1.aa.length (ab (eI .i64) r.2.1.aa)],.int .i64 r.2.2]))
theorem H4 (p0_0:Int) (p0_1:(List Int)) (p1_0:Int) (p1_1:(List Int)):yD none [.agg [.int .i64 p0_0,.sl false false p0_1.length (ab (eI .i64) p0_1)],.agg [.int .i64 p1_0,.sl false false p1_1.length (ab (eI .i64) p1_1)]]=(lD (aj.mk p0_0 p0_1) (aj.mk p1_0 p1_1)).map fun r:aj×aj×Int=>(.clean (.tup [.agg [.int .i64 r.1.ae,.sl false false r.1.aa.length (ab (eI .i64) r.1.aa)],.agg [.int .i64 r.2.1.ae,.sl false false r.2.1.aa.length (ab (eI .i64) r.2.1.aa)],.int .i64 r.2.2]),none):=aJ _ _ _ ((aj.mk p0_0 p0_1),(aj.mk p1_0 p1_1))
def um:Env:=(Am.ext (Am.ext (Am.ext (Am.ext (Am.ext aY 140 false eK) 147 false fQ) 149 false tL) 151 false tO) 191 false tM)
theorem P9:bA Tryz.prog um:=(((((bA.none.add fm false).add hZ false).add DV false).add DY false).add DW false)
theorem dn:type_of% (ai @w<|ai @cc<|ai @dH<|ai @pW<|ai @uR<|ai @uQ<|@um.eq_1):=⟨@w,@cc,@dH,@pW,@uR,@uQ,@um.eq_1⟩
theorem Vc (p0:aj) (p1:aj) (r:aj×aj×Int) (hh:lD p0 p1=some r):aW .clean tab um FU Tryz.f153 none [.agg [.int .i64 p0.ae,.sl false false p0.aa.length (ab (eI .i64) p0.aa)],.agg [.int .i64 p1.ae,.sl false false p1.aa.length (ab (eI .i64) p1.aa)]]=some (.clean (.tup [.agg [.int .i64 r.1.ae,.sl false false r.1.aa.length (ab (eI .i64) r.1.aa)],.agg [.int .i64 r.2.1.ae,.sl false false r.2.1.aa.length (ab (eI .i64) r.2.1.aa)],.int .i64 r.2.2]),none):=by
 apply aA rfl Tryz.ntmps153 Tryz.results153
 unfold lD at hh
 obtain⟨r1,hr1,hh⟩:=ah hh
 try simp only[dn,seval,hr1]
 obtain⟨o2,ho2,hh⟩:=ah hh
 refine bq 0 (fun s t H e=>match s with|s9j1=>∃v2j1:Nat,∃v3j1:Nat,∃v4j1:Nat,∃v5j1:Nat,t 2=.ptr 2 v2j1 0∧t 3=.ptr 3 v3j1 0∧t 4=.ptr 4 v4j1 0∧t 5=.ptr 5 v5j1 0∧t 9=.bool s9j1∧H 2=some ⟨v2j1,40,[.int .i64 p0.ae,.sl false false p0.aa.length (ab (eI .i64) p0.aa)],false,false,false⟩∧H 3=some ⟨v3j1,40,[.int .i64 p1.ae,.sl false false p1.aa.length (ab (eI .i64) p1.aa)],false,false,false⟩∧H 4=some ⟨v4j1,40,[.int .i64 0,.sl true true 0 []],false,false,false⟩∧H 5=some ⟨v5j1,40,[.int .i64 0,.sl true true 0 []],false,false,false⟩) (fun s=>s=o2) ?_ ?_
 ·rintro s9j1 t H e ⟨v2j1,v3j1,v4j1,v5j1,Zj1⟩ rfl
  try dsimp only at hh
  try simp only[dn,seval,Zj1]
  apply sp ak hh<;>intro _ hh
  ·cases hh
   try simp only[dn,seval,Zj1]
  ·try simp only[dn,seval,Zj1]
   apply sp ak hh<;>intro _ hh
   ·cases hh
    try simp only[dn,seval,Zj1]
   ·obtain⟨r5,hr5,hh⟩:=ah hh
    try simp only[dn,seval,Zj1,hr5]
    obtain⟨o6,ho6,hh⟩:=ah hh
    refine bq 0 (fun s t H e=>match s with|s44j2=>∃v2j2:Nat,∃v3j2:Nat,∃v4j2:Nat,∃v5j2:Nat,t 2=.ptr 2 v2j2 0∧t 3=.ptr 3 v3j2 0∧t 4=.ptr 4 v4j2 0∧t 5=.ptr 5 v5j2 0∧t 7=.sl false false r5.1.length (ab (eI .i64) r5.1)∧t 8=.sl false false r5.2.length (ab (eI .i64) r5.2)∧t 44=.bool s44j2∧H 2=some ⟨v2j2,40,[.int .i64 p0.ae,.sl false false p0.aa.length (ab (eI .i64) p0.aa)],false,false,false⟩∧H 3=some ⟨v3j2,40,[.int .i64 p1.ae,.sl false false p1.aa.length (ab (eI .i64) p1.aa)],false,false,false⟩∧H 4=some ⟨v4j2,40,[.int .i64 0,.sl true true 0 []],false,false,false⟩∧H 5=some ⟨v5j2,40,[.int .i64 0,.sl true true 0 []],false,false,false⟩) (fun s=>s=o6) ?_ ?_
    ·rintro s44j2 t H e ⟨v2j2,v3j2,v4j2,v5j2,Zj2⟩ rfl
     try dsimp only at hh
     try simp only[dn,seval,Zj2]
     apply sp ak hh<;>intro _ hh
     ·have i8:=pW r5.1 ([1])
      simp only[bn,bN,List.length_cons,agj]at i8
      obtain⟨r9,hr9,hh⟩:=ah hh
      obtain⟨r10,hr10,hh⟩:=ah hh
      obtain⟨r11,hr11,hh⟩:=ah hh
      obtain⟨r12,hr12,hh⟩:=ah hh
      try simp only[dn,seval,Zj2,i8,hr9,hr10,hr11,hr12]
      refine bB (by kernel_rfl) ?_
      cases hh
      try simp only[seval]
     ·obtain⟨r13,hr13,hh⟩:=ah hh
      obtain⟨r14,hr14,hh⟩:=ah hh
      try simp only[dn,seval,Zj2,hr13,hr14]
      refine bB (by kernel_rfl) ?_
      cases hh
      try simp only[seval]
    ·clear hh
     have hh:=ho6
     try simp only[dn,seval]
     apply sp cP hh<;>intro _ hh
     ·cases hh
      try simp only[dn,seval]
      rw[an]
      refine⟨_,rfl,?_⟩
      refine⟨v2j1,v3j1,v4j1,v5j1,?_,?_,?_,?_,?_,?_,?_,?_,?_,?_,?_⟩
      all_goals first|rfl|(simp only[dn,seval,Zj1]<;>rfl)
     ·cases hh
      try simp only[dn,seval]
      rw[an]
      refine⟨_,rfl,?_⟩
      refine⟨v2j1,v3j1,v4j1,v5j1,?_,?_,?_,?_,?_,?_,?_,?_,?_,?_,?_⟩
      all_goals first|rfl|(simp only[dn,seval,Zj1]<;>rfl)
 ·clear hh
  have hh:=ho2
  try simp only[dn,seval]
  apply sp aO hh<;>intro _ hh
  ·cases hh
   try simp only[dn,seval]
   rw[an]
   refine⟨_,rfl,?_⟩
   refine⟨0,0,0,0,?_,?_,?_,?_,?_,?_,?_,?_,?_⟩
   all_goals first|rfl|(simp only[dn,seval,hr1]<;>rfl)
  ·obtain⟨r17,hr17,hh⟩:=ah hh
   cases hh
   try simp only[dn,seval,hr17]
   rw[an]
   refine⟨_,rfl,?_⟩
   refine⟨0,0,0,0,?_,?_,?_,?_,?_,?_,?_,?_,?_⟩
   all_goals first|rfl|(simp only[dn,seval,hr1,hr17]<;>rfl)
theorem QT:bP Tryz.prog 153 yD:=bP.of (mode := .clean) tok P9 mixed Tryz.func153 (by kernel_rfl) ⟨by kernel_rfl,by kernel_rfl⟩ (fun _=>ahf (by kernel_rfl)) (fun x r h=>Vc x.1 x.2 r h)
def nw:=fc (kp (bL dw) (eQ (bL dw))) (fun x:aj×aj=>kG x.1 x.2) (fun r:ao×Int =>.clean (.tup [.agg [.int .i64 r.1.aZ.ae,.sl false false r.1.aZ.aa.length (ab (eI .i64) r.1.aZ.aa),.int .i64 r.1.aX.ae,.sl false false r.1.aX.aa.length (ab (eI .i64) r.1.aX.aa)],.int .i64 r.2]))
theorem lx (p0_0:Int) (p0_1:(List Int)) (p1_0:Int) (p1_1:(List Int)):nw none [.agg [.int .i64 p0_0,.sl false false p0_1.length (ab (eI .i64) p0_1)],.agg [.int .i64 p1_0,.sl false false p1_1.length (ab (eI .i64) p1_1)]]=(kG (aj.mk p0_0 p0_1) (aj.mk p1_0 p1_1)).map fun r:ao×Int=>(.clean (.tup [.agg [.int .i64 r.1.aZ.ae,.sl false false r.1.aZ.aa.length (ab (eI .i64) r.1.aZ.aa),.int .i64 r.1.aX.ae,.sl false false r.1.aX.aa.length (ab (eI .i64) r.1.aX.aa)],.int .i64 r.2]),none):=aJ _ _ _ ((aj.mk p0_0 p0_1),(aj.mk p1_0 p1_1))
def qO:Env:=(Am.ext (Am.ext (Am.ext (Am.ext aY 90 false tK) 140 false eK) 141 false tJ) 153 false yD)
theorem Mr:bA Tryz.prog qO:=((((bA.none.add DU false).add fm false).add DT false).add QT false)
theorem cL:type_of% (ai @w<|ai @uP<|ai @cc<|ai @uO<|ai @H4<|@qO.eq_1):=⟨@w,@uP,@cc,@uO,@H4,@qO.eq_1⟩
theorem QB (p0:aj) (p1:aj) (r:ao×Int) (hh:kG p0 p1=some r):aW .clean tab qO FU Tryz.f93 none [.agg [.int .i64 p0.ae,.sl false false p0.aa.length (ab (eI .i64) p0.aa)],.agg [.int .i64 p1.ae,.sl false false p1.aa.length (ab (eI .i64) p1.aa)]]=some (.clean (.tup [.agg [.int .i64 r.1.aZ.ae,.sl false false r.1.aZ.aa.length (ab (eI .i64) r.1.aZ.aa),.int .i64 r.1.aX.ae,.sl false false r.1.aX.aa.length (ab (eI .i64) r.1.aX.aa)],.int .i64 r.2]),none):=by
 apply aA rfl Tryz.ntmps93 Tryz.results93
 unfold kG at hh
 obtain⟨r1,hr1,hh⟩:=ah hh
 try simp only[cL,seval,hr1]
 obtain⟨o2,ho2,hh⟩:=ah hh
 refine bq 0 (fun s t H e=>match s with|s14j1=>∃v2j1:Nat,∃v3j1:Nat,∃v4j1:Nat,t 2=.ptr 2 v2j1 0∧t 3=.ptr 3 v3j1 0∧t 4=.ptr 4 v4j1 0∧t 14=.bool s14j1∧H 2=some ⟨v2j1,40,[.int .i64 p0.ae,.sl false false p0.aa.length (ab (eI .i64) p0.aa)],false,false,false⟩∧H 3=some ⟨v3j1,40,[.int .i64 p1.ae,.sl false false p1.aa.length (ab (eI .i64) p1.aa)],false,false,false⟩∧H 4=some ⟨v4j1,42,[.int .i64 0,.sl true true 0 [],.int .i64 0,.sl true true 0 []],false,false,false⟩) (fun s=>s=o2) ?_ ?_
 ·rintro s14j1 t H e ⟨v2j1,v3j1,v4j1,Zj1⟩ rfl
  try dsimp only at hh
  try simp only[cL,seval,Zj1]
  apply sp ak hh<;>intro _ hh
  ·cases hh
   try simp only[cL,seval,Zj1]
  ·try simp only[cL,seval,Zj1]
   apply sp ak hh<;>intro _ hh
   ·cases hh
    try simp only[cL,seval,Zj1]
   ·try simp only[cL,seval,Zj1]
    obtain⟨o5,ho5,hh⟩:=ah hh
    refine jB 0 (fun s t H e=>match s with|(r2_0j2,r2_1j2,r3_0j2,r3_1j2)=>∃v2j2:Nat,∃v3j2:Nat,∃v4j2:Nat,t 2=.ptr 2 v2j2 0∧t 3=.ptr 3 v3j2 0∧t 4=.ptr 4 v4j2 0∧H 2=some ⟨v2j2,40,[.int .i64 r2_0j2,.sl false false r2_1j2.length (ab (eI .i64) r2_1j2)],false,false,false⟩∧H 3=some ⟨v3j2,40,[.int .i64 r3_0j2,.sl false false r3_1j2.length (ab (eI .i64) r3_1j2)],false,false,false⟩∧H 4=some ⟨v4j2,42,[.int .i64 0,.sl true true 0 [],.int .i64 0,.sl true true 0 []],false,false,false⟩) (fun s=>s=o5) ?_ ?_
    ·rintro⟨r2_0j2,r2_1j2,r3_0j2,r3_1j2⟩ t H e ⟨v2j2,v3j2,v4j2,Zj2⟩ rfl
     try dsimp only at hh
     obtain⟨r6,hr6,hh⟩:=ah hh
     obtain⟨r7,hr7,hh⟩:=ah hh
     obtain⟨r8,hr8,hh⟩:=ah hh
     cases hh
     try simp only[cL,seval,Zj2,hr6,hr7,hr8]
    ·clear hh
     have hh:=ho5
     try simp only[cL,seval]
     apply sp ak hh<;>intro _ hh
     ·obtain⟨r10,hr10,hh⟩:=ah hh
      obtain⟨r11,hr11,hh⟩:=ah hh
      try simp only[cL,seval,Zj1,hr10,hr11]
      refine bB (by kernel_rfl) ?_
      cases hh
      try simp only[cL,seval,hr1,Zj1,hr10,hr11]
      rw[an]
      refine⟨_,rfl,?_⟩
      refine⟨v2j1,v3j1,v4j1,?_,?_,?_,?_,?_,?_⟩
      all_goals first|rfl|(simp only[cL,seval,Zj1]<;>rfl)
     ·cases hh
      try simp only[cL,seval]
      rw[an]
      refine⟨_,rfl,?_⟩
      refine⟨v2j1,v3j1,v4j1,?_,?_,?_,?_,?_,?_⟩
      all_goals first|rfl|(simp only[cL,seval,Zj1]<;>rfl)
 ·clear hh
  have hh:=ho2
  try simp only[cL,seval]
  apply sp aO hh<;>intro _ hh
  ·cases hh
   try simp only[cL,seval]
   rw[an]
   refine⟨_,rfl,?_⟩
   refine⟨0,0,0,?_,?_,?_,?_,?_,?_,?_⟩
   all_goals first|rfl|(simp only[cL,seval,hr1]<;>rfl)
  ·obtain⟨r13,hr13,hh⟩:=ah hh
   cases hh
   try simp only[cL,seval,hr13]
   rw[an]
   refine⟨_,rfl,?_⟩
   refine⟨0,0,0,?_,?_,?_,?_,?_,?_,?_⟩
   all_goals first|rfl|(simp only[cL,seval,hr1,hr13]<;>rfl)
theorem tu:bP Tryz.prog 93 nw:=bP.of (mode := .clean) tok Mr mixed Tryz.func93 (by kernel_rfl) ⟨by kernel_rfl,by kernel_rfl⟩ (fun _=>ahf (by kernel_rfl)) (fun x r h=>QB x.1 x.2 r h)
def qf:=fc (kp (bL aB) (eQ (bL aB))) (fun x:ao×ao=>l9 x.1 x.2) (fun r:ao×Int =>.clean (.tup [.agg [.int .i64 r.1.aZ.ae,.sl false false r.1.aZ.aa.length (ab (eI .i64) r.1.aZ.aa),.int .i64 r.1.aX.ae,.sl false false r.1.aX.aa.length (ab (eI .i64) r.1.aX.aa)],.int .i64 r.2]))
theorem ru (p0_0:Int) (p0_1:(List Int)) (p0_2:Int) (p0_3:(List Int)) (p1_0:Int) (p1_1:(List Int)) (p1_2:Int) (p1_3:(List Int)):qf none [.agg [.int .i64 p0_0,.sl false false p0_1.length (ab (eI .i64) p0_1),.int .i64 p0_2,.sl false false p0_3.length (ab (eI .i64) p0_3)],.agg [.int .i64 p1_0,.sl false false p1_1.length (ab (eI .i64) p1_1),.int .i64 p1_2,.sl false false p1_3.length (ab (eI .i64) p1_3)]]=(l9 (ao.mk (aj.mk p0_0 p0_1) (aj.mk p0_2 p0_3)) (ao.mk (aj.mk p1_0 p1_1) (aj.mk p1_2 p1_3))).map fun r:ao×Int=>(.clean (.tup [.agg [.int .i64 r.1.aZ.ae,.sl false false r.1.aZ.aa.length (ab (eI .i64) r.1.aZ.aa),.int .i64 r.1.aX.ae,.sl false false r.1.aX.aa.length (ab (eI .i64) r.1.aX.aa)],.int .i64 r.2]),none):=aJ _ _ _ ((ao.mk (aj.mk p0_0 p0_1) (aj.mk p0_2 p0_3)),(ao.mk (aj.mk p1_0 p1_1) (aj.mk p1_2 p1_3)))
def qL:Env:=(Am.ext (Am.ext (Am.ext (Am.ext aY 83 false fj) 91 false yC) 92 false kx) 93 false nw)
theorem Mo:bA Tryz.prog qL:=((((bA.none.add gh false).add QS false).add pz false).add tu false)
theorem gi:type_of% (ai @w<|ai @cO<|ai @H3<|ai @iY<|ai @lx<|@qL.eq_1):=⟨@w,@cO,@H3,@iY,@lx,@qL.eq_1⟩
theorem Qy (p0:ao) (p1:ao) (r:ao×Int) (hh:l9 p0 p1=some r):aW .clean tab qL FU Tryz.f36 none [.agg [.int .i64 p0.aZ.ae,.sl false false p0.aZ.aa.length (ab (eI .i64) p0.aZ.aa),.int .i64 p0.aX.ae,.sl false false p0.aX.aa.length (ab (eI .i64) p0.aX.aa)],.agg [.int .i64 p1.aZ.ae,.sl false false p1.aZ.aa.length (ab (eI .i64) p1.aZ.aa),.int .i64 p1.aX.ae,.sl false false p1.aX.aa.length (ab (eI .i64) p1.aX.aa)]]=some (.clean (.tup [.agg [.int .i64 r.1.aZ.ae,.sl false false r.1.aZ.aa.length (ab (eI .i64) r.1.aZ.aa),.int .i64 r.1.aX.ae,.sl false false r.1.aX.aa.length (ab (eI .i64) r.1.aX.aa)],.int .i64 r.2]),none):=by
 apply aA rfl Tryz.ntmps36 Tryz.results36
 unfold l9 at hh
 obtain⟨r1,hr1,hh⟩:=ah hh
 try simp only[gi,seval,hr1]
 obtain⟨o2,ho2,hh⟩:=ah hh
 refine bq 0 (fun s t H e=>match s with|s15j1=>∃v2j1:Nat,∃v3j1:Nat,∃v4j1:Nat,t 2=.ptr 2 v2j1 0∧t 3=.ptr 3 v3j1 0∧t 4=.ptr 4 v4j1 0∧t 15=.bool s15j1∧H 2=some ⟨v2j1,42,[.int .i64 p0.aZ.ae,.sl false false p0.aZ.aa.length (ab (eI .i64) p0.aZ.aa),.int .i64 p0.aX.ae,.sl false false p0.aX.aa.length (ab (eI .i64) p0.aX.aa)],false,false,false⟩∧H 3=some ⟨v3j1,42,[.int .i64 p1.aZ.ae,.sl false false p1.aZ.aa.length (ab (eI .i64) p1.aZ.aa),.int .i64 p1.aX.ae,.sl false false p1.aX.aa.length (ab (eI .i64) p1.aX.aa)],false,false,false⟩∧H 4=some ⟨v4j1,42,[.int .i64 0,.sl true true 0 [],.int .i64 0,.sl true true 0 []],false,false,false⟩) (fun s=>s=o2) ?_ ?_
 ·rintro s15j1 t H e ⟨v2j1,v3j1,v4j1,Zj1⟩ rfl
  try dsimp only at hh
  try simp only[gi,seval,Zj1]
  apply sp ak hh<;>intro _ hh
  ·cases hh
   try simp only[gi,seval,Zj1]
  ·obtain⟨r4,hr4,hh⟩:=ah hh
   obtain⟨r5,hr5,hh⟩:=ah hh
   obtain⟨r6,hr6,hh⟩:=ah hh
   try simp only[gi,seval,Zj1,hr4,hr5,hr6]
   refine bB (by kernel_rfl) ?_
   obtain⟨r7,hr7,hh⟩:=ah hh
   obtain⟨r8,hr8,hh⟩:=ah hh
   try simp only[gi,seval,Zj1,hr7,hr8]
   refine bB (by kernel_rfl) ?_
   cases hh
   try simp only[seval]
 ·clear hh
  have hh:=ho2
  try simp only[gi,seval]
  apply sp aO hh<;>intro _ hh
  ·cases hh
   try simp only[gi,seval]
   rw[an]
   refine⟨_,rfl,?_⟩
   refine⟨0,0,0,?_,?_,?_,?_,?_,?_,?_⟩
   all_goals first|rfl|(simp only[gi,seval,hr1]<;>rfl)
  ·obtain⟨r10,hr10,hh⟩:=ah hh
   cases hh
   try simp only[gi,seval,hr10]
   rw[an]
   refine⟨_,rfl,?_⟩
   refine⟨0,0,0,?_,?_,?_,?_,?_,?_,?_⟩
   all_goals first|rfl|(simp only[gi,seval,hr1,hr10]<;>rfl)
theorem Ar:bP Tryz.prog 36 qf:=bP.of (mode := .clean) tok Mo mixed Tryz.func36 (by kernel_rfl) ⟨by kernel_rfl,by kernel_rfl⟩ (fun _=>ahf (by kernel_rfl)) (fun x r h=>Qy x.1 x.2 r h)
def tP:=fc (kp (bL aB) (eQ (bL aB))) (fun x:ao×ao=>uN x.1 x.2) (fun r:ao =>.clean (.agg [.int .i64 r.aZ.ae,.sl false false r.aZ.aa.length (ab (eI .i64) r.aZ.aa),.int .i64 r.aX.ae,.sl false false r.aX.aa.length (ab (eI .i64) r.aX.aa)]))
theorem uS (p0_0:Int) (p0_1:(List Int)) (p0_2:Int) (p0_3:(List Int)) (p1_0:Int) (p1_1:(List Int)) (p1_2:Int) (p1_3:(List Int)):tP none [.agg [.int .i64 p0_0,.sl false false p0_1.length (ab (eI .i64) p0_1),.int .i64 p0_2,.sl false false p0_3.length (ab (eI .i64) p0_3)],.agg [.int .i64 p1_0,.sl false false p1_1.length (ab (eI .i64) p1_1),.int .i64 p1_2,.sl false false p1_3.length (ab (eI .i64) p1_3)]]=(uN (ao.mk (aj.mk p0_0 p0_1) (aj.mk p0_2 p0_3)) (ao.mk (aj.mk p1_0 p1_1) (aj.mk p1_2 p1_3))).map fun r:ao=>(.clean (.agg [.int .i64 r.aZ.ae,.sl false false r.aZ.aa.length (ab (eI .i64) r.aZ.aa),.int .i64 r.aX.ae,.sl false false r.aX.aa.length (ab (eI .i64) r.aX.aa)]),none):=aJ _ _ _ ((ao.mk (aj.mk p0_0 p0_1) (aj.mk p0_2 p0_3)),(ao.mk (aj.mk p1_0 p1_1) (aj.mk p1_2 p1_3)))
def uC:Env:=(Am.ext aY 36 false qf)
theorem Qj:bA Tryz.prog uC:=(bA.none.add Ar false)
theorem V4:type_of% (ai @w<|ai @ru<|@uC.eq_1):=⟨@w,@ru,@uC.eq_1⟩
theorem Vm (p0:ao) (p1:ao) (r:ao) (hh:uN p0 p1=some r):aW .clean tab uC FU Tryz.f135 none [.agg [.int .i64 p0.aZ.ae,.sl false false p0.aZ.aa.length (ab (eI .i64) p0.aZ.aa),.int .i64 p0.aX.ae,.sl false false p0.aX.aa.length (ab (eI .i64) p0.aX.aa)],.agg [.int .i64 p1.aZ.ae,.sl false false p1.aZ.aa.length (ab (eI .i64) p1.aZ.aa),.int .i64 p1.aX.ae,.sl false false p1.aX.aa.length (ab (eI .i64) p1.aX.aa)]]=some (.clean (.agg [.int .i64 r.aZ.ae,.sl false false r.aZ.aa.length (ab (eI .i64) r.aZ.aa),.int .i64 r.aX.ae,.sl false false r.aX.aa.length (ab (eI .i64) r.aX.aa)]),none):=by
 apply aA rfl Tryz.ntmps135 Tryz.results135
 unfold uN at hh
 obtain⟨r1,hr1,hh⟩:=ah hh
 cases hh
 try simp only[V4,seval,hr1]
theorem D2:bP Tryz.prog 135 tP:=bP.of (mode := .clean) tok Qj mixed Tryz.func135 (by kernel_rfl) ⟨by kernel_rfl,by kernel_rfl⟩ (fun _=>ahf (by kernel_rfl)) (fun x r h=>Vm x.1 x.2 r h)
def pc:=fc (kp (bL dw) (eQ (bL dw))) (fun x:aj×aj=>lT x.1 x.2) (fun r:Int =>.clean (.int .i64 r))
theorem vL (p0_0:Int) (p0_1:(List Int)) (p1_0:Int) (p1_1:(List Int)):pc none [.agg [.int .i64 p0_0,.sl false false p0_1.length (ab (eI .i64) p0_1)],.agg [.int .i64 p1_0,.sl false false p1_1.length (ab (eI .i64) p1_1)]]=(lT (aj.mk p0_0 p0_1) (aj.mk p1_0 p1_1)).map fun r:Int=>(.clean (.int .i64 r),none):=aJ _ _ _ ((aj.mk p0_0 p0_1),(aj.mk p1_0 p1_1))
def lG:Env:=(Am.ext (Am.ext (Am.ext aY 139 false js) 140 false eK) 150 false jr)
theorem C3:bA Tryz.prog lG:=(((bA.none.add n9 false).add fm false).add n5 false)
theorem dD:type_of% (ai @w<|ai @ic<|ai @cc<|ai @ib<|@lG.eq_1):=⟨@w,@ic,@cc,@ib,@lG.eq_1⟩
theorem Fo (p0:aj) (p1:aj) (r:Int) (hh:lT p0 p1=some r):aW .clean tab lG FU Tryz.f108 none [.agg [.int .i64 p0.ae,.sl false false p0.aa.length (ab (eI .i64) p0.aa)],.agg [.int .i64 p1.ae,.sl false false p1.aa.length (ab (eI .i64) p1.aa)]]=some (.clean (.int .i64 r),none):=by
 apply aA rfl Tryz.ntmps108 Tryz.results108
 unfold lT at hh
 obtain⟨r1,hr1,hh⟩:=ah hh
 try simp only[dD,seval,hr1]
 obtain⟨o2,ho2,hh⟩:=ah hh
 refine bq 0 (fun s t H e=>match s with|s12j1=>∃v2j1:Nat,∃v3j1:Nat,t 2=.ptr 2 v2j1 0∧t 3=.ptr 3 v3j1 0∧t 12=.bool s12j1∧H 2=some ⟨v2j1,40,[.int .i64 p0.ae,.sl false false p0.aa.length (ab (eI .i64) p0.aa)],false,false,false⟩∧H 3=some ⟨v3j1,40,[.int .i64 p1.ae,.sl false false p1.aa.length (ab (eI .i64) p1.aa)],false,false,false⟩) (fun s=>s=o2) ?_ ?_
 ·rintro s12j1 t H e ⟨v2j1,v3j1,Zj1⟩ rfl
  try dsimp only at hh
  try simp only[dD,seval,Zj1]
  apply sp ak hh<;>intro _ hh
  ·cases hh
   try simp only[dD,seval]
  ·try simp only[dD,seval,Zj1]
   apply sp ak hh<;>intro _ hh
   ·obtain⟨r5,hr5,hh⟩:=ah hh
    cases hh
    try simp only[dD,seval,Zj1,hr5]
   ·obtain⟨r6,hr6,hh⟩:=ah hh
    try simp only[dD,seval,Zj1,hr6]
    refine bB (by kernel_rfl) ?_
    cases hh
    try simp only[seval]
 ·clear hh
  have hh:=ho2
  try simp only[dD,seval]
  apply sp aO hh<;>intro _ hh
  ·cases hh
   try simp only[dD,seval]
   rw[an]
   refine⟨_,rfl,?_⟩
   refine⟨0,0,?_,?_,?_,?_,?_⟩
   all_goals first|rfl|(simp only[dD,seval,hr1]<;>rfl)
  ·obtain⟨r8,hr8,hh⟩:=ah hh
   cases hh
   try simp only[dD,seval,hr8]
   rw[an]
   refine⟨_,rfl,?_⟩
   refine⟨0,0,?_,?_,?_,?_,?_⟩
   all_goals first|rfl|(simp only[dD,seval,hr1,hr8]<;>rfl)
theorem DS:bP Tryz.prog 108 pc:=bP.of (mode := .clean) tok C3 mixed Tryz.func108 (by kernel_rfl) ⟨by kernel_rfl,by kernel_rfl⟩ (fun _=>ahf (by kernel_rfl)) (fun x r h=>Fo x.1 x.2 r h)
def nt:=fc (kp (bL aB) (eQ (bL aB))) (fun x:ao×ao=>kF x.1 x.2) (fun r:Int =>.clean (.int .i64 r))
theorem tw (p0_0:Int) (p0_1:(List Int)) (p0_2:Int) (p0_3:(List Int)) (p1_0:Int) (p1_1:(List Int)) (p1_2:Int) (p1_3:(List Int)):nt none [.agg [.int .i64 p0_0,.sl false false p0_1.length (ab (eI .i64) p0_1),.int .i64 p0_2,.sl false false p0_3.length (ab (eI .i64) p0_3)],.agg [.int .i64 p1_0,.sl false false p1_1.length (ab (eI .i64) p1_1),.int .i64 p1_2,.sl false false p1_3.length (ab (eI .i64) p1_3)]]=(kF (ao.mk (aj.mk p0_0 p0_1) (aj.mk p0_2 p0_3)) (ao.mk (aj.mk p1_0 p1_1) (aj.mk p1_2 p1_3))).map fun r:Int=>(.clean (.int .i64 r),none):=aJ _ _ _ ((ao.mk (aj.mk p0_0 p0_1) (aj.mk p0_2 p0_3)),(ao.mk (aj.mk p1_0 p1_1) (aj.mk p1_2 p1_3)))
def kH:Env:=(Am.ext (Am.ext (Am.ext aY 83 false fj) 92 false kx) 108 false pc)
theorem A5:bA Tryz.prog kH:=(((bA.none.add gh false).add pz false).add DS false)
theorem ee:type_of% (ai @w<|ai @cO<|ai @iY<|ai @vL<|@kH.eq_1):=⟨@w,@cO,@iY,@vL,@kH.eq_1⟩
theorem Dz (p0:ao) (p1:ao) (r:Int) (hh:kF p0 p1=some r):aW .clean tab kH FU Tryz.f51 none [.agg [.int .i64 p0.aZ.ae,.sl false false p0.aZ.aa.length (ab (eI .i64) p0.aZ.aa),.int .i64 p0.aX.ae,.sl false false p0.aX.aa.length (ab (eI .i64) p0.aX.aa)],.agg [.int .i64 p1.aZ.ae,.sl false false p1.aZ.aa.length (ab (eI .i64) p1.aZ.aa),.int .i64 p1.aX.ae,.sl false false p1.aX.aa.length (ab (eI .i64) p1.aX.aa)]]=some (.clean (.int .i64 r),none):=by
 apply aA rfl Tryz.ntmps51 Tryz.results51
 unfold kF at hh
 obtain⟨r1,hr1,hh⟩:=ah hh
 try simp only[ee,seval,hr1]
 obtain⟨o2,ho2,hh⟩:=ah hh
 refine bq 0 (fun s t H e=>match s with|s12j1=>∃v2j1:Nat,∃v3j1:Nat,t 2=.ptr 2 v2j1 0∧t 3=.ptr 3 v3j1 0∧t 12=.bool s12j1∧H 2=some ⟨v2j1,42,[.int .i64 p0.aZ.ae,.sl false false p0.aZ.aa.length (ab (eI .i64) p0.aZ.aa),.int .i64 p0.aX.ae,.sl false false p0.aX.aa.length (ab (eI .i64) p0.aX.aa)],false,false,false⟩∧H 3=some ⟨v3j1,42,[.int .i64 p1.aZ.ae,.sl false false p1.aZ.aa.length (ab (eI .i64) p1.aZ.aa),.int .i64 p1.aX.ae,.sl false false p1.aX.aa.length (ab (eI .i64) p1.aX.aa)],false,false,false⟩) (fun s=>s=o2) ?_ ?_
 ·rintro s12j1 t H e ⟨v2j1,v3j1,Zj1⟩ rfl
  try dsimp only at hh
  try simp only[ee,seval,Zj1]
  apply sp ak hh<;>intro _ hh
  ·cases hh
   try simp only[ee,seval]
  ·obtain⟨r4,hr4,hh⟩:=ah hh
   obtain⟨r5,hr5,hh⟩:=ah hh
   obtain⟨r6,hr6,hh⟩:=ah hh
   try simp only[ee,seval,Zj1,hr4,hr5,hr6]
   refine bB (by kernel_rfl) ?_
   cases hh
   try simp only[seval]
 ·clear hh
  have hh:=ho2
  try simp only[ee,seval]
  apply sp aO hh<;>intro _ hh
  ·cases hh
   try simp only[ee,seval]
   rw[an]
   refine⟨_,rfl,?_⟩
   refine⟨0,0,?_,?_,?_,?_,?_⟩
   all_goals first|rfl|(simp only[ee,seval,hr1]<;>rfl)
  ·obtain⟨r8,hr8,hh⟩:=ah hh
   cases hh
   try simp only[ee,seval,hr8]
   rw[an]
   refine⟨_,rfl,?_⟩
   refine⟨0,0,?_,?_,?_,?_,?_⟩
   all_goals first|rfl|(simp only[ee,seval,hr1,hr8]<;>rfl)
theorem Bd:bP Tryz.prog 51 nt:=bP.of (mode := .clean) tok A5 mixed Tryz.func51 (by kernel_rfl) ⟨by kernel_rfl,by kernel_rfl⟩ (fun _=>ahf (by kernel_rfl)) (fun x r h=>Dz x.1 x.2 r h)
def so:=fc (eQ (po aB)) (fun x:(List ao)=>pV x) (fun r:Bool =>.clean (.bool r))
theorem AD (p0:(List ao)):so none [.sl false false p0.length (ab aB p0)]=(pV p0).map fun r:Bool=>(.clean (.bool r),none):=aJ _ _ _ (p0)
def oO:Env:=(Am.ext (Am.ext (Am.ext (Am.ext (Am.ext aY 39 false gE) 51 false nt) 52 false qg) 83 false fj) 135 false tP)
theorem JI:bA Tryz.prog oO:=(((((bA.none.add iV false).add Bd false).add As false).add gh false).add D2 false)
theorem dx:type_of% (ai @w<|ai @ej<|ai @tw<|ai @rv<|ai @cO<|ai @uS<|@oO.eq_1):=⟨@w,@ej,@tw,@rv,@cO,@uS,@oO.eq_1⟩
theorem NG (p0:(List ao)) (r:Bool) (hh:pV p0=some r):aW .clean tab oO FU Tryz.f173 none [.sl false false p0.length (ab aB p0)]=some (.clean (.bool r),none):=by
 apply aA rfl Tryz.ntmps173 Tryz.results173
 unfold pV at hh
 obtain⟨r1,hr1,hh⟩:=ah hh
 try simp only[dx,seval,hr1]
 obtain⟨o9,ho9,hh⟩:=ah hh
 refine ay (fun s t H e=>match s with|(s9a,r3_0a,r3_1a,r3_2a,r3_3a)=>∃v3a:Nat,t 3=.ptr 3 v3a 0∧t 7=.sl false false p0.length (ab aB p0)∧t 8=.int .i64 (p0.length:Int)∧t 9=.int .i64 s9a∧H 3=some ⟨v3a,42,[.int .i64 r3_0a,.sl false false r3_1a.length (ab (eI .i64) r3_1a),.int .i64 r3_2a,.sl false false r3_3a.length (ab (eI .i64) r3_3a)],false,false,false⟩) (fun o x t H e=>match o with|(.inl (r3_0ax,r3_1ax,r3_2ax,r3_3ax))=>x=.exit 0∧∃v3ax:Nat,t 3=.ptr 3 v3ax 0∧H 3=some ⟨v3ax,42,[.int .i64 r3_0ax,.sl false false r3_1ax.length (ab (eI .i64) r3_1ax),.int .i64 r3_2ax,.sl false false r3_3ax.length (ab (eI .i64) r3_3ax)],false,false,false⟩|(.inr r)=>x=.ret∧eZ .clean tab none [.tmp 2] ⟨t,EH H,e⟩=some (.clean (.bool r),none)) ho9 ?_ ?_ ?_
 ·refine⟨1,?_,?_,?_,?_,?_⟩
  all_goals first|rfl|(simp only[dx,seval,hr1]<;>rfl)
 ·rintro⟨s9a,r3_0a,r3_1a,r3_2a,r3_3a⟩ t H e ⟨v3a,Za⟩ c hh
  simp only[xQ]at hh
  try simp only[dx,seval,Za]
  apply sp ak hh<;>intro _ hh
  ·obtain⟨x11,hx11,hh⟩:=ah hh
   have ax11:=bs aB hx11
   simp only[bN]at ax11
   obtain⟨r12,hr12,hh⟩:=ah hh
   try simp only[dx,seval,Za,ax11,hr12]
   apply sp aO hh<;>intro _ hh
   ·cases hh
    try simp only[dx,seval]
    refine rT ⟨rfl,?_⟩
    try simp only[dx,seval]
   ·obtain⟨r14,hr14,hh⟩:=ah hh
    try simp only[dx,seval,hr14]
    apply sp ak hh<;>intro _ hh
    ·cases hh
     try simp only[dx,seval]
     refine rT ⟨rfl,?_⟩
     try simp only[dx,seval]
    ·obtain⟨r16,hr16,hh⟩:=ah hh
     cases hh
     try simp only[dx,seval,Za,hr16]
     apply gV
     refine⟨v3a,?_,?_,?_,?_,?_⟩
     all_goals first|rfl|(simp only[dx,seval,Za]<;>rfl)
  ·cases hh
   try simp only[dx,seval]
   apply jo
   refine⟨rfl,⟨v3a,?_,?_⟩⟩
   all_goals first|rfl|(simp only[dx,seval,Za]<;>rfl)
 ·rintro x t H e hx
  rcases o9 with⟨r3_0ax,r3_1ax,r3_2ax,r3_3ax⟩|ra
  ·dsimp only at hx hh
   obtain⟨rfl,⟨v3ax,Zax⟩⟩:=hx
   obtain⟨r17,hr17,hh⟩:=ah hh
   obtain⟨r18,hr18,hh⟩:=ah hh
   try simp only[dx,seval,Zax,hr17,hr18]
   refine bB (by kernel_rfl) ?_
   cases hh
   try simp only[seval]
  ·dsimp only at hx hh
   obtain⟨rfl,hE⟩:=hx
   cases hh
   try simp only[a7,bh,cr,cn]
   exact hE
theorem J5:bP Tryz.prog 173 so:=bP.of (mode := .clean) tok JI mixed Tryz.func173 (by kernel_rfl) ⟨by kernel_rfl,by kernel_rfl⟩ (fun _=>ahf (by kernel_rfl)) (fun x r h=>NG x r h)
def mu:=fc (eQ (bL Jn)) (fun x:kz=>jz x) (fun r:Bool =>.clean (.bool r))
theorem rU (p0_0:(List kA)) (p0_1:(List BR)) (p0_2:(List (List ao))):mu none [.agg [.sl false false p0_0.length (ab bj p0_0),.sl false false p0_1.length (ab dV p0_1),.sl false false p0_2.length (ab (kV aB) p0_2)]]=(jz (kz.mk p0_0 p0_1 p0_2)).map fun r:Bool=>(.clean (.bool r),none):=aJ _ _ _ ((kz.mk p0_0 p0_1 p0_2))
def jH:Env:=(Am.ext (Am.ext aY 71 false fR) 173 false so)
theorem yZ:bA Tryz.prog jH:=((bA.none.add ia false).add J5 false)
theorem av:type_of% (ai @w<|ai @dI<|ai @AD<|@jH.eq_1):=⟨@w,@dI,@AD,@jH.eq_1⟩
theorem A9 (p0:kz) (r:Bool) (hh:jz p0=some r):aW .clean tab jH FU Tryz.f126 none [.agg [.sl false false p0.az.length (ab bj p0.az),.sl false false p0.bg.length (ab dV p0.bg),.sl false false p0.ba.length (ab (kV aB) p0.ba)]]=some (.clean (.bool r),none):=by
 apply aA rfl Tryz.ntmps126 Tryz.results126
 unfold jz at hh
 try simp only[av,seval]
 obtain⟨o1,ho1,hh⟩:=ah hh
 refine bq 0 (fun s t H e=>match s with|s27j1=>∃v1j1:Nat,t 1=.ptr 1 v1j1 0∧t 27=.bool s27j1∧H 1=some ⟨v1j1,52,[.sl false false p0.az.length (ab bj p0.az),.sl false false p0.bg.length (ab dV p0.bg),.sl false false p0.ba.length (ab (kV aB) p0.ba)],false,false,false⟩) (fun s=>s=o1) ?_ ?_
 ·rintro s27j1 t H e ⟨v1j1,Zj1⟩ rfl
  try dsimp only at hh
  try simp only[av,seval,Zj1]
  apply sp ak hh<;>intro _ hh
  ·cases hh
   try simp only[av,seval]
  ·try simp only[av,seval,Zj1]
   obtain⟨o10,ho10,hh⟩:=ah hh
   refine ay (fun s t H e=>match s with|s31b=>∃v1b:Nat,t 1=.ptr 1 v1b 0∧t 29=.sl false false p0.bg.length (ab dV p0.bg)∧t 30=.int .i64 (p0.bg.length:Int)∧t 31=.int .i64 s31b∧H 1=some ⟨v1b,52,[.sl false false p0.az.length (ab bj p0.az),.sl false false p0.bg.length (ab dV p0.bg),.sl false false p0.ba.length (ab (kV aB) p0.ba)],false,false,false⟩) (fun o x t H e=>match o with|(.inl _)=>x=.exit 0∧∃v1bx:Nat,t 1=.ptr 1 v1bx 0∧H 1=some ⟨v1bx,52,[.sl false false p0.az.length (ab bj p0.az),.sl false false p0.bg.length (ab dV p0.bg),.sl false false p0.ba.length (ab (kV aB) p0.ba)],false,false,false⟩|(.inr r)=>x=.ret∧eZ .clean tab none [.tmp 2] ⟨t,EH H,e⟩=some (.clean (.bool r),none)) ho10 ?_ ?_ ?_
   ·refine⟨v1j1,?_,?_,?_,?_,?_⟩
    all_goals first|rfl|(simp only[av,seval,Zj1]<;>rfl)
   ·rintro s31b t H e ⟨v1b,Zb⟩ c hh
    simp only[pS]at hh
    try simp only[av,seval,Zb]
    apply sp ak hh<;>intro _ hh
    ·obtain⟨x12,hx12,hh⟩:=ah hh
     have ax12:=bs dV hx12
     simp only[bN]at ax12
     obtain⟨r13,hr13,hh⟩:=ah hh
     try simp only[av,seval,Zb,ax12,hr13]
     apply sp oo hh<;>intro _ hh
     ·try simp only[av,seval]
      refine bB (by kernel_rfl) ?_
      cases hh
      try simp only[av,seval,Zb,ax12,hr13]
      refine rT ⟨rfl,?_⟩
      try simp only[av,seval]
     ·try simp only[av,seval]
      apply sp oo hh<;>intro _ hh
      ·try simp only[av,seval]
       refine bB (by kernel_rfl) ?_
       cases hh
       try simp only[av,seval,Zb,ax12,hr13]
       refine rT ⟨rfl,?_⟩
       try simp only[av,seval]
      ·obtain⟨x16,hx16,hh⟩:=ah hh
       have ax16:=bs (kV aB) hx16
       simp only[bN]at ax16
       try simp only[av,seval,Zb,ax12,ax16]
       refine bB (by kernel_rfl) ?_
       try simp only[av,seval,Zb,ax12,hr13,ax16]
       apply sp ak hh<;>intro _ hh
       ·cases hh
        try simp only[av,seval]
        refine rT ⟨rfl,?_⟩
        try simp only[av,seval]
       ·cases hh
        try simp only[av,seval,Zb]
        apply gV
        refine⟨v1b,?_,?_,?_,?_,?_⟩
        all_goals first|rfl|(simp only[av,seval,Zb]<;>rfl)
    ·cases hh
     try simp only[av,seval]
     apply jo
     refine⟨rfl,⟨v1b,?_,?_⟩⟩
     all_goals first|rfl|(simp only[av,seval,Zb]<;>rfl)
   ·rintro x t H e hx
    rcases o10 with _|rb
    ·dsimp only at hx hh
     obtain⟨rfl,⟨v1bx,Zbx⟩⟩:=hx
     try simp only[av,seval,Zbx]
     obtain⟨o38,ho38,hh⟩:=ah hh
     refine ay (fun s t H e=>match s with|s61c=>∃v1c:Nat,t 1=.ptr 1 v1c 0∧t 59=.sl false false p0.az.length (ab bj p0.az)∧t 60=.int .i64 (p0.az.length:Int)∧t 61=.int .i64 s61c∧H 1=some ⟨v1c,52,[.sl false false p0.az.length (ab bj p0.az),.sl false false p0.bg.length (ab dV p0.bg),.sl false false p0.ba.length (ab (kV aB) p0.ba)],false,false,false⟩) (fun o x t H e=>match o with|(.inl _)=>x=.exit 2|(.inr r)=>x=.ret∧eZ .clean tab none [.tmp 2] ⟨t,EH H,e⟩=some (.clean (.bool r),none)) ho38 ?_ ?_ ?_
     ·refine⟨v1bx,?_,?_,?_,?_,?_⟩
      all_goals first|rfl|(simp only[av,seval,Zbx]<;>rfl)
     ·rintro s61c t H e ⟨v1c,Zc⟩ c hh
      simp only[pT]at hh
      try simp only[av,seval,Zc]
      apply sp ak hh<;>intro _ hh
      ·obtain⟨x40,hx40,hh⟩:=ah hh
       have ax40:=bs bj hx40
       simp only[bN]at ax40
       obtain⟨x41,hx41,hh⟩:=ah hh
       obtain⟨q42a,q42b,q42c,q42d,q42e⟩:=mk_one aB hx41
       simp only[bN]at q42d
       try simp only[av,seval,Zc,ax40,q42a,q42b,q42c,q42d,q42e]
       obtain⟨o48,ho48,hh⟩:=ah hh
       refine ay (fun s t H e=>match s with|(s73e,l7e)=>∃v1e:Nat,∃v6e:Nat,∃v7e:Nat,t 1=.ptr 1 v1e 0∧t 5=.int .i64 s61c∧t 6=.ptr 6 v6e 0∧t 7=.buf 7 v7e 4 0 (l7e).length∧t 59=.sl false false p0.az.length (ab bj p0.az)∧t 60=.int .i64 (p0.az.length:Int)∧t 61=.int .i64 s61c∧t 72=.int .i64 (p0.bg.length:Int)∧t 73=.int .i64 s73e∧H 1=some ⟨v1e,52,[.sl false false p0.az.length (ab bj p0.az),.sl false false p0.bg.length (ab dV p0.bg),.sl false false p0.ba.length (ab (kV aB) p0.ba)],false,false,false⟩∧H 6=some ⟨v6e,98,[.int .i64 x40.ji,.int .i64 x40.gp,.int .i64 x40.b5],false,false,false⟩∧H 7=some ⟨v7e,42,ab aB l7e,false,true,false⟩) (fun o x t H e=>match o with|l7ex=>x=.exit 4∧∃v1ex:Nat,∃v6ex:Nat,∃v7ex:Nat,t 1=.ptr 1 v1ex 0∧t 6=.ptr 6 v6ex 0∧t 7=.buf 7 v7ex 4 0 (l7ex).length∧t 59=.sl false false p0.az.length (ab bj p0.az)∧t 60=.int .i64 (p0.az.length:Int)∧t 61=.int .i64 s61c∧H 1=some ⟨v1ex,52,[.sl false false p0.az.length (ab bj p0.az),.sl false false p0.bg.length (ab dV p0.bg),.sl false false p0.ba.length (ab (kV aB) p0.ba)],false,false,false⟩∧H 6=some ⟨v6ex,98,[.int .i64 x40.ji,.int .i64 x40.gp,.int .i64 x40.b5],false,false,false⟩∧H 7=some ⟨v7ex,42,ab aB l7ex,false,true,false⟩) ho48 ?_ ?_ ?_
       ·refine⟨v1c,e+1,e+1+1,?_,?_,?_,?_,?_,?_,?_,?_,?_,?_,?_,?_⟩
        all_goals first|rfl|(simp only[av,seval,Zc]<;>rfl)
       ·rintro⟨s73e,l7e⟩ t H e ⟨v1e,v6e,v7e,Ze⟩ c hh
        simp only[pU]at hh
        try simp only[av,seval,Ze]
        apply sp ak hh<;>intro _ hh
        ·obtain⟨x50,hx50,hh⟩:=ah hh
         have ax50:=bs (kV aB) hx50
         simp only[bN]at ax50
         obtain⟨x51,hx51,hh⟩:=ah hh
         have ax51:=bs aB hx51
         simp only[bN]at ax51
         obtain⟨x52,hx52,hh⟩:=ah hh
         have ax52:=bs aB hx52
         simp only[bN]at ax52
         have p53:=eV aB (x':=x51) (fo:=0) (cs:=[.int .i64 x51.aZ.ae,.sl false false x51.aZ.aa.length (ab (eI .i64) x51.aZ.aa),.int .i64 x51.aX.ae,.sl false false x51.aX.aa.length (ab (eI .i64) x51.aX.aa)]) hx52 rfl (ahf rfl)
         simp only[bN,Nat.add_zero]at p53
         have up53:=p53
         simp only[putCells,List.length_cons,List.length_nil,agj,Nat.reduceAdd]at up53
         cases hh
         try simp only[av,seval,ax40,Ze,ax50,ax51,ax52,up53]
         apply gV
         refine⟨v1e,v6e,v7e,?_,?_,?_,?_,?_,?_,?_,?_,?_,?_,?_,?_⟩
         all_goals first|rfl|(simp only[av,seval,Ze]<;>rfl)
        ·cases hh
         try simp only[av,seval]
         apply jo
         refine⟨rfl,⟨v1e,v6e,v7e,?_,?_,?_,?_,?_,?_,?_,?_,?_⟩⟩
         all_goals first|rfl|(simp only[av,seval,Ze]<;>rfl)
       ·rintro x t H e hx
        obtain⟨l7ex,rfl⟩:∃z,z=o48:=⟨_,rfl⟩
        dsimp only at hx hh
        obtain⟨rfl,⟨v1ex,v6ex,v7ex,Zex⟩⟩:=hx
        obtain⟨r54,hr54,hh⟩:=ah hh
        try simp only[av,seval,Zex,hr54]
        apply sp aO hh<;>intro _ hh
        ·cases hh
         try simp only[av,seval]
         refine rT ⟨rfl,?_⟩
         try simp only[av,seval]
        ·try simp only[av,seval,Zex]
         apply sp aO hh<;>intro _ hh
         ·cases hh
          try simp only[av,seval]
          refine rT ⟨rfl,?_⟩
          try simp only[av,seval]
         ·obtain⟨r57,hr57,hh⟩:=ah hh
          try simp only[av,seval,Zex,hr57]
          apply sp ak hh<;>intro _ hh
          ·cases hh
           try simp only[av,seval]
           refine rT ⟨rfl,?_⟩
           try simp only[av,seval]
          ·cases hh
           try simp only[av,seval,Zex]
           apply gV
           refine⟨v1ex,?_,?_,?_,?_,?_⟩
           all_goals first|rfl|(simp only[av,seval,Zex]<;>rfl)
      ·cases hh
       try simp only[av,seval]
       apply jo
       exact rfl
     ·rintro x t H e hx
      rcases o38 with _|rc
      ·dsimp only at hx hh
       subst hx
       cases hh
       try simp only[av,seval]
      ·dsimp only at hx hh
       obtain⟨rfl,hE⟩:=hx
       cases hh
       try simp only[a7,bh,cr,cn]
       exact hE
    ·dsimp only at hx hh
     obtain⟨rfl,hE⟩:=hx
     cases hh
     try simp only[a7,bh,cr,cn]
     exact hE
 ·clear hh
  have hh:=ho1
  try simp only[av,seval]
  apply sp aO hh<;>intro _ hh
  ·cases hh
   try simp only[av,seval]
   rw[an]
   refine⟨_,rfl,?_⟩
   refine⟨0,?_,?_,?_⟩
   all_goals first|rfl|(simp only[av,seval]<;>rfl)
  ·try simp only[av,seval]
   apply sp aO hh<;>intro _ hh
   ·cases hh
    try simp only[av,seval]
    rw[an]
    refine⟨_,rfl,?_⟩
    refine⟨0,?_,?_,?_⟩
    all_goals first|rfl|(simp only[av,seval]<;>rfl)
   ·cases hh
    try simp only[av,seval]
    rw[an]
    refine⟨_,rfl,?_⟩
    refine⟨0,?_,?_,?_⟩
    all_goals first|rfl|(simp only[av,seval]<;>rfl)
theorem y8:bP Tryz.prog 126 mu:=bP.of (mode := .clean) tok yZ mixed Tryz.func126 (by kernel_rfl) ⟨by kernel_rfl,by kernel_rfl⟩ (fun _=>ahf (by kernel_rfl)) (fun x r h=>A9 x r h)
def ql:=fc (kp (bL eE) (eQ (Z3 (eI .i64)))) (fun x:mF×Int=>nW x.1 x.2) (fun r:Bool =>.clean (.bool r))
theorem xZ (p0_0:Int) (p0_1:Int) (p1:Int):ql none [.agg [.int .i64 p0_0,.int .i64 p0_1],.ip [.int .i64 p1]]=(nW (mF.mk p0_0 p0_1) p1).map fun r:Bool=>(.clean (.bool r),none):=aJ _ _ _ ((mF.mk p0_0 p0_1),p1)
def mS:Env:=(Am.ext aY 71 false fR)
theorem Fk:bA Tryz.prog mS:=(bA.none.add ia false)
theorem rM:type_of% (ai @w<|ai @dI<|@mS.eq_1):=⟨@w,@dI,@mS.eq_1⟩
theorem JT (p0:mF) (p1:Int) (r:Bool) (hh:nW p0 p1=some r):aW .clean tab mS FU Tryz.f127 none [.agg [.int .i64 p0.jP,.int .i64 p0.b5],.ip [.int .i64 p1]]=some (.clean (.bool r),none):=by
 apply aA rfl Tryz.ntmps127 Tryz.results127
 unfold nW at hh
 obtain⟨r1,hr1,hh⟩:=ah hh
 try simp only[rM,seval,hr1]
 apply sp aO hh<;>intro _ hh
 ·cases hh
  try simp only[rM,seval]
 ·obtain⟨r3,hr3,hh⟩:=ah hh
  cases hh
  try simp only[rM,seval,hr3]
theorem FC:bP Tryz.prog 127 ql:=bP.of (mode := .clean) tok Fk mixed Tryz.func127 (by kernel_rfl) ⟨by kernel_rfl,by kernel_rfl⟩ (fun _=>ahf (by kernel_rfl)) (fun x r h=>JT x.1 x.2 r h)
def qm:=fc (kp (aI .i64) (eQ (Z3 (eI .i64)))) (fun x:Int×Int=>nX x.1 x.2) (fun r:Bool =>.clean (.bool r))
theorem x4 (p0:Int) (p1:Int):qm none [.int .i64 p0,.ip [.int .i64 p1]]=(nX p0 p1).map fun r:Bool=>(.clean (.bool r),none):=aJ _ _ _ (p0,p1)
def mT:Env:=(Am.ext aY 71 false fR)
theorem Fl:bA Tryz.prog mT:=(bA.none.add ia false)
theorem KD:type_of% (ai @w<|ai @dI<|@mT.eq_1):=⟨@w,@dI,@mT.eq_1⟩
theorem JU (p0:Int) (p1:Int) (r:Bool) (hh:nX p0 p1=some r):aW .clean tab mT FU Tryz.f128 none [.int .i64 p0,.ip [.int .i64 p1]]=some (.clean (.bool r),none):=by
 apply aA rfl Tryz.ntmps128 Tryz.results128
 unfold nX at hh
 obtain⟨r1,hr1,hh⟩:=ah hh
 cases hh
 try simp only[KD,seval,hr1]
theorem FD:bP Tryz.prog 128 qm:=bP.of (mode := .clean) tok Fl mixed Tryz.func128 (by kernel_rfl) ⟨by kernel_rfl,by kernel_rfl⟩ (fun _=>ahf (by kernel_rfl)) (fun x r h=>JU x.1 x.2 r h)
def mv:=fc (eQ (po (eI .i64))) (fun x:(List Int)=>pA x) (fun r:(List Int) =>.clean (.clo 208 0 [.ip [.sl false false r.length (ab (eI .i64) r)]]))
theorem rV (p0:(List Int)):mv none [.sl false false p0.length (ab (eI .i64) p0)]=(pA p0).map fun r:(List Int)=>(.clean (.clo 208 0 [.ip [.sl false false r.length (ab (eI .i64) r)]]),none):=aJ _ _ _ p0
theorem y9:bP Tryz.prog 175 mv:=VZ
def cR:=fc (eQ (Uw 208 0 (eQ (Z3 (kV (eI .i64)))))) (fun x:(List Int)=>dm x) (fun r:(List Int) =>.fresh 3 1 r.length (ab (eI .i64) r))
theorem eF (p0:(List Int)):cR none [.clo 208 0 [.ip [.sl false false p0.length (ab (eI .i64) p0)]]]=(dm p0).map fun r:(List Int)=>(.fresh 3 1 r.length (ab (eI .i64) r),none):=aJ _ _ _ p0
theorem il:bP Tryz.prog 174 cR:=VL
def pj:=fc (kp (po (eI .i64)) (eQ (aI .i64))) (fun x:(List Int)×Int=>kf x.1 x.2) (fun r:Bool =>.clean (.bool r))
theorem vP (p0:(List Int)) (p1:Int):pj none [.sl false false p0.length (ab (eI .i64) p0),.int .i64 p1]=(kf p0 p1).map fun r:Bool=>(.clean (.bool r),none):=aJ _ _ _ (p0,p1)
def lM:Env:=(Am.ext (Am.ext aY 174 false cR) 175 false mv)
theorem C9:bA Tryz.prog lM:=((bA.none.add il false).add y9 false)
theorem dG:type_of% (ai @w<|ai @eF<|ai @rV<|@lM.eq_1):=⟨@w,@eF,@rV,@lM.eq_1⟩
theorem Fw (p0:(List Int)) (p1:Int) (r:Bool) (hh:kf p0 p1=some r):aW .clean tab lM FU Tryz.f129 none [.sl false false p0.length (ab (eI .i64) p0),.int .i64 p1]=some (.clean (.bool r),none):=by
 apply aA rfl Tryz.ntmps129 Tryz.results129
 unfold kf at hh
 obtain⟨r1,hr1,hh⟩:=ah hh
 obtain⟨r2,hr2,hh⟩:=ah hh
 try simp only[dG,seval,hr1,hr2]
 obtain⟨o6,ho6,hh⟩:=ah hh
 refine ay (fun s t H e=>match s with|s13a=>∃v5a:Nat,t 1=.int .i64 p1∧t 5=.buf 5 v5a 1 0 (r2).length∧t 11=.buf 5 v5a 1 0 (r2).length∧t 12=.int .i64 ((r2).length:Int)∧t 13=.int .i64 s13a∧H 5=some ⟨v5a,3,ab (eI .i64) r2,false,true,false⟩) (fun o x t H e=>match o with|(.inl _)=>x=.exit 0∧∃v5ax:Nat,t 1=.int .i64 p1∧t 5=.buf 5 v5ax 1 0 (r2).length∧H 5=some ⟨v5ax,3,ab (eI .i64) r2,false,true,false⟩|(.inr r)=>x=.ret∧eZ .clean tab none [.tmp 4] ⟨t,EH H,e⟩=some (.clean (.bool r),none)) ho6 ?_ ?_ ?_
 ·refine⟨1,?_,?_,?_,?_,?_,?_⟩
  all_goals first|rfl|(simp only[dG,seval,hr1,hr2]<;>rfl)
 ·rintro s13a t H e ⟨v5a,Za⟩ c hh
  simp only[tq]at hh
  try simp only[dG,seval,Za]
  apply sp ak hh<;>intro _ hh
  ·obtain⟨x8,hx8,hh⟩:=ah hh
   have ax8:=bs (eI .i64) hx8
   simp only[bN]at ax8
   try simp only[dG,seval,Za,ax8]
   apply sp ak hh<;>intro _ hh
   ·cases hh
    try simp only[dG,seval]
    refine rT ⟨rfl,?_⟩
    try simp only[dG,seval]
   ·cases hh
    try simp only[dG,seval,Za]
    apply gV
    refine⟨v5a,?_,?_,?_,?_,?_,?_⟩
    all_goals first|rfl|(simp only[dG,seval,Za]<;>rfl)
  ·cases hh
   try simp only[dG,seval]
   apply jo
   refine⟨rfl,⟨v5a,?_,?_,?_⟩⟩
   all_goals first|rfl|(simp only[dG,seval,Za]<;>rfl)
 ·rintro x t H e hx
  rcases o6 with _|ra
  ·dsimp only at hx hh
   obtain⟨rfl,⟨v5ax,Zax⟩⟩:=hx
   cases hh
   try simp only[dG,seval,Zax]
  ·dsimp only at hx hh
   obtain⟨rfl,hE⟩:=hx
   cases hh
   try simp only[a7,bh,cr,cn]
   exact hE
theorem D3:bP Tryz.prog 129 pj:=bP.of (mode := .clean) tok C9 mixed Tryz.func129 (by kernel_rfl) ⟨by kernel_rfl,by kernel_rfl⟩ (fun _=>ahf (by kernel_rfl)) (fun x r h=>Fw x.1 x.2 r h)
def dS:=fc (kp (po eE) (eQ (Uw 127 0 (eQ (Z3 (eI .i64)))))) (fun x:(List mF)×(Int)=>b9 x.1 x.2) (fun r:Int =>.clean (.int .i64 r))
theorem fK (p0:(List mF)) (p1c0:Int):dS none [.sl false false p0.length (ab eE p0),.clo 127 0 [.ip [.int .i64 p1c0]]]=(b9 p0 p1c0).map fun r:Int=>(.clean (.int .i64 r),none):=aJ _ _ _ (p0,(p1c0))
def cF:Env:=(Am.ext aY 127 false ql)
theorem jS:bA Tryz.prog cF:=(bA.none.add FC false)
theorem aP:type_of% (ai @w<|ai @xZ<|@cF.eq_1):=⟨@w,@xZ,@cF.eq_1⟩
theorem kr (p0:(List mF)) (p1c0:Int) (r:Int) (hh:b9 p0 p1c0=some r):aW .clean tab cF FU Tryz.f176 none [.sl false false p0.length (ab eE p0),.clo 127 0 [.ip [.int .i64 p1c0]]]=some (.clean (.int .i64 r),none):=by
 apply aA rfl Tryz.ntmps176 Tryz.results176
 unfold b9 at hh
 try simp only[aP,seval]
 obtain⟨o5,ho5,hh⟩:=ah hh
 refine ay (fun s t H e=>match s with|s8a=>t 0=.sl false false p0.length (ab eE p0)∧t 1=.clo 127 0 [.ip [.int .i64 p1c0]]∧t 7=.int .i64 (p0.length:Int)∧t 8=.int .i64 s8a) (fun o x t H e=>match o with|(.inl _)=>x=.exit 0|(.inr r)=>x=.ret∧eZ .clean tab none [.tmp 4] ⟨t,EH H,e⟩=some (.clean (.int .i64 r),none)) ho5 ?_ ?_ ?_
 ·refine⟨?_,?_,?_,?_⟩
  all_goals first|rfl|(simp only[aP,seval]<;>rfl)
 ·rintro s8a t H e Za c hh
  simp only[fE]at hh
  try simp only[aP,seval,Za]
  apply sp ak hh<;>intro _ hh
  ·obtain⟨x7,hx7,hh⟩:=ah hh
   have ax7:=bs eE hx7
   simp only[bN]at ax7
   obtain⟨r8,hr8,hh⟩:=ah hh
   try simp only[aP,seval,Za,ax7,hr8]
   apply sp ak hh<;>intro _ hh
   ·cases hh
    try simp only[aP,seval]
    refine rT ⟨rfl,?_⟩
    try simp only[aP,seval]
   ·cases hh
    try simp only[aP,seval,Za]
    apply gV
    refine⟨?_,?_,?_,?_⟩
    all_goals first|rfl|(simp only[aP,seval,Za]<;>rfl)
  ·cases hh
   try simp only[aP,seval]
   apply jo
   exact rfl
 ·rintro x t H e hx
  rcases o5 with _|ra
  ·dsimp only at hx hh
   subst hx
   cases hh
   try simp only[aP,seval]
  ·dsimp only at hx hh
   obtain⟨rfl,hE⟩:=hx
   cases hh
   try simp only[a7,bh,cr,cn]
   exact hE
theorem jX:bP Tryz.prog 176 dS:=bP.of (mode := .clean) tok jS mixed Tryz.func176 (by kernel_rfl) ⟨by kernel_rfl,by kernel_rfl⟩ (fun _=>ahf (by kernel_rfl)) (fun x r h=>kr x.1 x.2 r h)
def dq:=fc (kp (po eE) (eQ (Uw 127 0 (eQ (Z3 (eI .i64)))))) (fun x:(List mF)×(Int)=>bW x.1 x.2) (fun r:Bool =>.clean (.bool r))
theorem ff (p0:(List mF)) (p1c0:Int):dq none [.sl false false p0.length (ab eE p0),.clo 127 0 [.ip [.int .i64 p1c0]]]=(bW p0 p1c0).map fun r:Bool=>(.clean (.bool r),none):=aJ _ _ _ (p0,(p1c0))
def ch:Env:=(Am.ext aY 176 false dS)
theorem iN:bA Tryz.prog ch:=(bA.none.add jX false)
theorem jm:type_of% (ai @w<|ai @fK<|@ch.eq_1):=⟨@w,@fK,@ch.eq_1⟩
theorem jj (p0:(List mF)) (p1c0:Int) (r:Bool) (hh:bW p0 p1c0=some r):aW .clean tab ch FU Tryz.f130 none [.sl false false p0.length (ab eE p0),.clo 127 0 [.ip [.int .i64 p1c0]]]=some (.clean (.bool r),none):=by
 apply aA rfl Tryz.ntmps130 Tryz.results130
 unfold bW at hh
 obtain⟨r1,hr1,hh⟩:=ah hh
 cases hh
 try simp only[jm,seval,hr1]
theorem iW:bP Tryz.prog 130 dq:=bP.of (mode := .clean) tok iN mixed Tryz.func130 (by kernel_rfl) ⟨by kernel_rfl,by kernel_rfl⟩ (fun _=>ahf (by kernel_rfl)) (fun x r h=>jj x.1 x.2 r h)
def dT:=fc (kp (po (eI .i64)) (eQ (Uw 128 0 (eQ (Z3 (eI .i64)))))) (fun x:(List Int)×(Int)=>ca x.1 x.2) (fun r:Int =>.clean (.int .i64 r))
theorem fL (p0:(List Int)) (p1c0:Int):dT none [.sl false false p0.length (ab (eI .i64) p0),.clo 128 0 [.ip [.int .i64 p1c0]]]=(ca p0 p1c0).map fun r:Int=>(.clean (.int .i64 r),none):=aJ _ _ _ (p0,(p1c0))
def cG:Env:=(Am.ext aY 128 false qm)
theorem jT:bA Tryz.prog cG:=(bA.none.add FD false)
theorem aQ:type_of% (ai @w<|ai @x4<|@cG.eq_1):=⟨@w,@x4,@cG.eq_1⟩
theorem ku (p0:(List Int)) (p1c0:Int) (r:Int) (hh:ca p0 p1c0=some r):aW .clean tab cG FU Tryz.f177 none [.sl false false p0.length (ab (eI .i64) p0),.clo 128 0 [.ip [.int .i64 p1c0]]]=some (.clean (.int .i64 r),none):=by
 apply aA rfl Tryz.ntmps177 Tryz.results177
 unfold ca at hh
 try simp only[aQ,seval]
 obtain⟨o5,ho5,hh⟩:=ah hh
 refine ay (fun s t H e=>match s with|s8a=>t 0=.sl false false p0.length (ab (eI .i64) p0)∧t 1=.clo 128 0 [.ip [.int .i64 p1c0]]∧t 7=.int .i64 (p0.length:Int)∧t 8=.int .i64 s8a) (fun o x t H e=>match o with|(.inl _)=>x=.exit 0|(.inr r)=>x=.ret∧eZ .clean tab none [.tmp 4] ⟨t,EH H,e⟩=some (.clean (.int .i64 r),none)) ho5 ?_ ?_ ?_
 ·refine⟨?_,?_,?_,?_⟩
  all_goals first|rfl|(simp only[aQ,seval]<;>rfl)
 ·rintro s8a t H e Za c hh
  simp only[fF]at hh
  try simp only[aQ,seval,Za]
  apply sp ak hh<;>intro _ hh
  ·obtain⟨x7,hx7,hh⟩:=ah hh
   have ax7:=bs (eI .i64) hx7
   simp only[bN]at ax7
   obtain⟨r8,hr8,hh⟩:=ah hh
   try simp only[aQ,seval,Za,ax7,hr8]
   apply sp ak hh<;>intro _ hh
   ·cases hh
    try simp only[aQ,seval]
    refine rT ⟨rfl,?_⟩
    try simp only[aQ,seval]
   ·cases hh
    try simp only[aQ,seval,Za]
    apply gV
    refine⟨?_,?_,?_,?_⟩
    all_goals first|rfl|(simp only[aQ,seval,Za]<;>rfl)
  ·cases hh
   try simp only[aQ,seval]
   apply jo
   exact rfl
 ·rintro x t H e hx
  rcases o5 with _|ra
  ·dsimp only at hx hh
   subst hx
   cases hh
   try simp only[aQ,seval]
  ·dsimp only at hx hh
   obtain⟨rfl,hE⟩:=hx
   cases hh
   try simp only[a7,bh,cr,cn]
   exact hE
theorem jY:bP Tryz.prog 177 dT:=bP.of (mode := .clean) tok jT mixed Tryz.func177 (by kernel_rfl) ⟨by kernel_rfl,by kernel_rfl⟩ (fun _=>ahf (by kernel_rfl)) (fun x r h=>ku x.1 x.2 r h)
def dr:=fc (kp (po (eI .i64)) (eQ (Uw 128 0 (eQ (Z3 (eI .i64)))))) (fun x:(List Int)×(Int)=>bX x.1 x.2) (fun r:Bool =>.clean (.bool r))
theorem fh (p0:(List Int)) (p1c0:Int):dr none [.sl false false p0.length (ab (eI .i64) p0),.clo 128 0 [.ip [.int .i64 p1c0]]]=(bX p0 p1c0).map fun r:Bool=>(.clean (.bool r),none):=aJ _ _ _ (p0,(p1c0))
def cj:Env:=(Am.ext aY 177 false dT)
theorem iO:bA Tryz.prog cj:=(bA.none.add jY false)
theorem jn:type_of% (ai @w<|ai @fL<|@cj.eq_1):=⟨@w,@fL,@cj.eq_1⟩
theorem jk (p0:(List Int)) (p1c0:Int) (r:Bool) (hh:bX p0 p1c0=some r):aW .clean tab cj FU Tryz.f131 none [.sl false false p0.length (ab (eI .i64) p0),.clo 128 0 [.ip [.int .i64 p1c0]]]=some (.clean (.bool r),none):=by
 apply aA rfl Tryz.ntmps131 Tryz.results131
 unfold bX at hh
 obtain⟨r1,hr1,hh⟩:=ah hh
 cases hh
 try simp only[jn,seval,hr1]
theorem iX:bP Tryz.prog 131 dr:=bP.of (mode := .clean) tok iO mixed Tryz.func131 (by kernel_rfl) ⟨by kernel_rfl,by kernel_rfl⟩ (fun _=>ahf (by kernel_rfl)) (fun x r h=>jk x.1 x.2 r h)
def wc:=fc (kp (bL cm) (eQ (aI .i64))) (fun x:gS×Int=>tp x.1 x.2) (fun r:Bool =>.clean (.bool r))
theorem En (p0_0:(List kA)) (p0_1:(List BR)) (p0_2:(List (List ao))) (p0_3:(List mF)) (p0_4:(List Int)) (p1:Int):wc none [.agg [.sl false false p0_0.length (ab bj p0_0),.sl false false p0_1.length (ab dV p0_1),.sl false false p0_2.length (ab (kV aB) p0_2),.sl false false p0_3.length (ab eE p0_3),.sl false false p0_4.length (ab (eI .i64) p0_4)],.int .i64 p1]=(tp (gS.mk (kz.mk p0_0 p0_1 p0_2) p0_3 p0_4) p1).map fun r:Bool=>(.clean (.bool r),none):=aJ _ _ _ ((gS.mk (kz.mk p0_0 p0_1 p0_2) p0_3 p0_4),p1)
def qV:Env:=(Am.ext (Am.ext (Am.ext (Am.ext aY 126 false mu) 129 false pj) 130 false dq) 131 false dr)
theorem Mx:bA Tryz.prog qV:=((((bA.none.add y8 false).add D3 false).add iW false).add iX false)
theorem bx:type_of% (ai @w<|ai @rU<|ai @vP<|ai @ff<|ai @fh<|@qV.eq_1):=⟨@w,@rU,@vP,@ff,@fh,@qV.eq_1⟩
theorem QH (p0:gS) (p1:Int) (r:Bool) (hh:tp p0 p1=some r):aW .clean tab qV FU Tryz.f72 none [.agg [.sl false false p0.aF.az.length (ab bj p0.aF.az),.sl false false p0.aF.bg.length (ab dV p0.aF.bg),.sl false false p0.aF.ba.length (ab (kV aB) p0.aF.ba),.sl false false p0.cK.length (ab eE p0.cK),.sl false false p0.aC.length (ab (eI .i64) p0.aC)],.int .i64 p1]=some (.clean (.bool r),none):=by
 apply aA rfl Tryz.ntmps72 Tryz.results72
 unfold tp at hh
 obtain⟨r1,hr1,hh⟩:=ah hh
 try simp only[bx,seval,hr1]
 apply sp ak hh<;>intro _ hh
 ·cases hh
  try simp only[bx,seval]
 ·try simp only[bx,seval]
  obtain⟨o8,ho8,hh⟩:=ah hh
  refine ay (fun s t H e=>match s with|(s21a,l5a)=>∃v2a:Nat,∃v3a:Nat,∃v5a:Nat,∃v6a:Nat,t 2=.ptr 2 v2a 0∧t 3=.ptr 3 v3a 0∧t 5=.buf 5 v5a 1 0 (l5a).length∧t 6=.buf 6 v6a 1 0 0∧t 19=.sl false false p0.aF.az.length (ab bj p0.aF.az)∧t 20=.int .i64 (p0.aF.az.length:Int)∧t 21=.int .i64 s21a∧H 2=some ⟨v2a,55,[.sl false false p0.aF.az.length (ab bj p0.aF.az),.sl false false p0.aF.bg.length (ab dV p0.aF.bg),.sl false false p0.aF.ba.length (ab (kV aB) p0.aF.ba),.sl false false p0.cK.length (ab eE p0.cK),.sl false false p0.aC.length (ab (eI .i64) p0.aC)],false,false,false⟩∧H 3=some ⟨v3a,3,[.int .i64 p1],false,false,false⟩∧H 5=some ⟨v5a,3,ab (eI .i64) l5a,false,true,false⟩∧H 6=some ⟨v6a,3,[],false,true,false⟩) (fun o x t H e=>match o with|l5ax=>x=.exit 0∧∃v2ax:Nat,∃v3ax:Nat,∃v5ax:Nat,∃v6ax:Nat,t 2=.ptr 2 v2ax 0∧t 3=.ptr 3 v3ax 0∧t 5=.buf 5 v5ax 1 0 (l5ax).length∧t 6=.buf 6 v6ax 1 0 0∧H 2=some ⟨v2ax,55,[.sl false false p0.aF.az.length (ab bj p0.aF.az),.sl false false p0.aF.bg.length (ab dV p0.aF.bg),.sl false false p0.aF.ba.length (ab (kV aB) p0.aF.ba),.sl false false p0.cK.length (ab eE p0.cK),.sl false false p0.aC.length (ab (eI .i64) p0.aC)],false,false,false⟩∧H 3=some ⟨v3ax,3,[.int .i64 p1],false,false,false⟩∧H 5=some ⟨v5ax,3,ab (eI .i64) l5ax,false,true,false⟩∧H 6=some ⟨v6ax,3,[],false,true,false⟩) ho8 ?_ ?_ ?_
  ·refine⟨0,0,2,2,?_,?_,?_,?_,?_,?_,?_,?_,?_,?_,?_⟩
   all_goals first|rfl|(simp only[bx,seval,hr1]<;>rfl)
  ·rintro⟨s21a,l5a⟩ t H e ⟨v2a,v3a,v5a,v6a,Za⟩ c hh
   simp only[Ao]at hh
   try simp only[bx,seval,Za]
   apply sp ak hh<;>intro _ hh
   ·obtain⟨x10,hx10,hh⟩:=ah hh
    have ax10:=bs bj hx10
    simp only[bN]at ax10
    try simp only[bx,seval,Za,ax10]
    apply sp ak hh<;>intro _ hh
    ·obtain⟨x12,hx12,hh⟩:=ah hh
     obtain⟨q13a,q13b,q13c,q13d⟩:=gL (eI .i64) hx12
     simp only[bN]at q13b
     cases hh
     try simp only[bx,seval,Za,q13a,q13b,q13c,q13d]
     apply gV
     refine⟨v2a,v3a,e+1+1+1,v6a,?_,?_,?_,?_,?_,?_,?_,?_,?_,?_,?_⟩
     all_goals first|rfl|(simp only[bx,seval,Za]<;>rfl)
    ·cases hh
     try simp only[bx,seval,Za]
     apply gV
     refine⟨v2a,v3a,v5a,v6a,?_,?_,?_,?_,?_,?_,?_,?_,?_,?_,?_⟩
     all_goals first|rfl|(simp only[bx,seval,Za]<;>rfl)
   ·cases hh
    try simp only[bx,seval]
    apply jo
    refine⟨rfl,⟨v2a,v3a,v5a,v6a,?_,?_,?_,?_,?_,?_,?_,?_⟩⟩
    all_goals first|rfl|(simp only[bx,seval,Za]<;>rfl)
  ·rintro x t H e hx
   obtain⟨l5ax,rfl⟩:∃z,z=o8:=⟨_,rfl⟩
   dsimp only at hx hh
   obtain⟨rfl,⟨v2ax,v3ax,v5ax,v6ax,Zax⟩⟩:=hx
   try simp only[bx,seval,Zax]
   obtain⟨o19,ho19,hh⟩:=ah hh
   refine ay (fun s t H e=>match s with|(s38b,l6b)=>∃v2b:Nat,∃v3b:Nat,∃v5b:Nat,∃v6b:Nat,t 2=.ptr 2 v2b 0∧t 3=.ptr 3 v3b 0∧t 5=.buf 5 v5b 1 0 (l5ax).length∧t 6=.buf 6 v6b 1 0 (l6b).length∧t 36=.sl false false p0.aF.bg.length (ab dV p0.aF.bg)∧t 37=.int .i64 (p0.aF.bg.length:Int)∧t 38=.int .i64 s38b∧H 2=some ⟨v2b,55,[.sl false false p0.aF.az.length (ab bj p0.aF.az),.sl false false p0.aF.bg.length (ab dV p0.aF.bg),.sl false false p0.aF.ba.length (ab (kV aB) p0.aF.ba),.sl false false p0.cK.length (ab eE p0.cK),.sl false false p0.aC.length (ab (eI .i64) p0.aC)],false,false,false⟩∧H 3=some ⟨v3b,3,[.int .i64 p1],false,false,false⟩∧H 5=some ⟨v5b,3,ab (eI .i64) l5ax,false,true,false⟩∧H 6=some ⟨v6b,3,ab (eI .i64) l6b,false,true,false⟩) (fun o x t H e=>match o with|l6bx=>x=.exit 2∧∃v2bx:Nat,∃v3bx:Nat,∃v5bx:Nat,∃v6bx:Nat,t 2=.ptr 2 v2bx 0∧t 3=.ptr 3 v3bx 0∧t 5=.buf 5 v5bx 1 0 (l5ax).length∧t 6=.buf 6 v6bx 1 0 (l6bx).length∧H 2=some ⟨v2bx,55,[.sl false false p0.aF.az.length (ab bj p0.aF.az),.sl false false p0.aF.bg.length (ab dV p0.aF.bg),.sl false false p0.aF.ba.length (ab (kV aB) p0.aF.ba),.sl false false p0.cK.length (ab eE p0.cK),.sl false false p0.aC.length (ab (eI .i64) p0.aC)],false,false,false⟩∧H 3=some ⟨v3bx,3,[.int .i64 p1],false,false,false⟩∧H 5=some ⟨v5bx,3,ab (eI .i64) l5ax,false,true,false⟩∧H 6=some ⟨v6bx,3,ab (eI .i64) l6bx,false,true,false⟩) ho19 ?_ ?_ ?_
   ·refine⟨v2ax,v3ax,v5ax,v6ax,?_,?_,?_,?_,?_,?_,?_,?_,?_,?_,?_⟩
    all_goals first|rfl|(simp only[bx,seval,Zax]<;>rfl)
   ·rintro⟨s38b,l6b⟩ t H e ⟨v2b,v3b,v5b,v6b,Zb⟩ c hh
    simp only[Ap]at hh
    try simp only[bx,seval,Zb]
    apply sp ak hh<;>intro _ hh
    ·obtain⟨x21,hx21,hh⟩:=ah hh
     have ax21:=bs dV hx21
     simp only[bN]at ax21
     try simp only[bx,seval,Zb,ax21]
     apply sp ak hh<;>intro _ hh
     ·obtain⟨x23,hx23,hh⟩:=ah hh
      obtain⟨q24a,q24b,q24c,q24d⟩:=gL (eI .i64) hx23
      simp only[bN]at q24b
      cases hh
      try simp only[bx,seval,Zb,q24a,q24b,q24c,q24d]
      apply gV
      refine⟨v2b,v3b,v5b,e+1+1+1,?_,?_,?_,?_,?_,?_,?_,?_,?_,?_,?_⟩
      all_goals first|rfl|(simp only[bx,seval,Zb]<;>rfl)
     ·cases hh
      try simp only[bx,seval,Zb]
      apply gV
      refine⟨v2b,v3b,v5b,v6b,?_,?_,?_,?_,?_,?_,?_,?_,?_,?_,?_⟩
      all_goals first|rfl|(simp only[bx,seval,Zb]<;>rfl)
    ·cases hh
     try simp only[bx,seval]
     apply jo
     refine⟨rfl,⟨v2b,v3b,v5b,v6b,?_,?_,?_,?_,?_,?_,?_,?_⟩⟩
     all_goals first|rfl|(simp only[bx,seval,Zb]<;>rfl)
   ·rintro x t H e hx
    obtain⟨l6bx,rfl⟩:∃z,z=o19:=⟨_,rfl⟩
    dsimp only at hx hh
    obtain⟨rfl,⟨v2bx,v3bx,v5bx,v6bx,Zbx⟩⟩:=hx
    obtain⟨r25,hr25,hh⟩:=ah hh
    try simp only[bx,seval,Zbx,hr25]
    apply sp cP hh<;>intro _ hh
    ·obtain⟨r27,hr27,hh⟩:=ah hh
     try simp only[bx,seval,Zbx,hr27]
     apply sp cP hh<;>intro _ hh
     ·obtain⟨r29,hr29,hh⟩:=ah hh
      try simp only[bx,seval,Zbx,hr29]
      apply sp cP hh<;>intro _ hh
      ·obtain⟨r31,hr31,hh⟩:=ah hh
       cases hh
       try simp only[bx,seval,Zbx,hr31]
      ·cases hh
       try simp only[bx,seval]
     ·cases hh
      try simp only[bx,seval]
    ·cases hh
     try simp only[bx,seval]
theorem Om:bP Tryz.prog 72 wc:=bP.of (mode := .clean) tok Mx mixed Tryz.func72 (by kernel_rfl) ⟨by kernel_rfl,by kernel_rfl⟩ (fun _=>ahf (by kernel_rfl)) (fun x r h=>QH x.1 x.2 r h)
def ox:=fc (eQ (bL Bu)) (fun x:fw=>ng x) (fun r:Int×Int =>.clean (.tup [.int .i64 r.1,.int .i64 r.2]))
theorem oY (p0_0:(List Int)) (p0_1:(List gS)):ox none [.agg [.sl false false p0_0.length (ab (eI .i64) p0_0),.sl false false p0_1.length (ab cm p0_1)]]=(ng (fw.mk p0_0 p0_1)).map fun r:Int×Int=>(.clean (.tup [.int .i64 r.1,.int .i64 r.2]),none):=aJ _ _ _ ((fw.mk p0_0 p0_1))
def oK:Env:=(Am.ext (Am.ext aY 71 false fR) 72 false wc)
theorem JE:bA Tryz.prog oK:=((bA.none.add ia false).add Om false)
theorem ax:type_of% (ai @w<|ai @dI<|ai @En<|@oK.eq_1):=⟨@w,@dI,@En,@oK.eq_1⟩
theorem NB (p0:fw) (r:Int×Int) (hh:ng p0=some r):aW .clean tab oK FU Tryz.f19 none [.agg [.sl false false p0.bd.length (ab (eI .i64) p0.bd),.sl false false p0.aT.length (ab cm p0.aT)]]=some (.clean (.tup [.int .i64 r.1,.int .i64 r.2]),none):=by
 apply aA rfl Tryz.ntmps19 Tryz.results19
 unfold ng at hh
 try simp only[ax,seval]
 obtain⟨o1,ho1,hh⟩:=ah hh
 refine bq 0 (fun s t H e=>match s with|s27j1=>∃v1j1:Nat,t 1=.ptr 1 v1j1 0∧t 27=.bool s27j1∧H 1=some ⟨v1j1,25,[.sl false false p0.bd.length (ab (eI .i64) p0.bd),.sl false false p0.aT.length (ab cm p0.aT)],false,false,false⟩) (fun s=>s=o1) ?_ ?_
 ·rintro s27j1 t H e ⟨v1j1,Zj1⟩ rfl
  try dsimp only at hh
  try simp only[ax,seval,Zj1]
  apply sp ak hh<;>intro _ hh
  ·cases hh
   try simp only[ax,seval]
  ·try simp only[ax,seval,Zj1]
   obtain⟨o7,ho7,hh⟩:=ah hh
   refine ay (fun s t H e=>match s with|s31b=>∃v1b:Nat,t 1=.ptr 1 v1b 0∧t 29=.sl false false p0.bd.length (ab (eI .i64) p0.bd)∧t 30=.int .i64 (p0.bd.length:Int)∧t 31=.int .i64 s31b∧H 1=some ⟨v1b,25,[.sl false false p0.bd.length (ab (eI .i64) p0.bd),.sl false false p0.aT.length (ab cm p0.aT)],false,false,false⟩) (fun o x t H e=>match o with|(.inl _)=>x=.exit 0∧∃v1bx:Nat,t 1=.ptr 1 v1bx 0∧H 1=some ⟨v1bx,25,[.sl false false p0.bd.length (ab (eI .i64) p0.bd),.sl false false p0.aT.length (ab cm p0.aT)],false,false,false⟩|(.inr r)=>x=.ret∧eZ .clean tab none [.tmp 2,.tmp 3] ⟨t,EH H,e⟩=some (.clean (.tup [.int .i64 r.1,.int .i64 r.2]),none)) ho7 ?_ ?_ ?_
   ·refine⟨v1j1,?_,?_,?_,?_,?_⟩
    all_goals first|rfl|(simp only[ax,seval,Zj1]<;>rfl)
   ·rintro s31b t H e ⟨v1b,Zb⟩ c hh
    simp only[xK]at hh
    try simp only[ax,seval,Zb]
    apply sp ak hh<;>intro _ hh
    ·obtain⟨x9,hx9,hh⟩:=ah hh
     have ax9:=bs (eI .i64) hx9
     simp only[bN]at ax9
     obtain⟨r10,hr10,hh⟩:=ah hh
     try simp only[ax,seval,Zb,ax9,hr10]
     apply sp ak hh<;>intro _ hh
     ·cases hh
      try simp only[ax,seval]
      refine rT ⟨rfl,?_⟩
      try simp only[ax,seval]
     ·cases hh
      try simp only[ax,seval,Zb]
      apply gV
      refine⟨v1b,?_,?_,?_,?_,?_⟩
      all_goals first|rfl|(simp only[ax,seval,Zb]<;>rfl)
    ·cases hh
     try simp only[ax,seval]
     apply jo
     refine⟨rfl,⟨v1b,?_,?_⟩⟩
     all_goals first|rfl|(simp only[ax,seval,Zb]<;>rfl)
   ·rintro x t H e hx
    rcases o7 with _|rb
    ·dsimp only at hx hh
     obtain⟨rfl,⟨v1bx,Zbx⟩⟩:=hx
     obtain⟨x12,hx12,hh⟩:=ah hh
     obtain⟨q13a,q13b,q13c,q13d,q13e⟩:=mk_one (eI .i64) hx12
     simp only[bN]at q13d
     obtain⟨q14a,q14b,q14c,q14d,q14e⟩:=mk_one (eI .i64) hx12
     simp only[bN]at q14d
     try simp only[ax,seval,Zbx,q13a,q13b,q13c,q13d,q13e]
     refine bB (by kernel_rfl) ?_
     try simp only[ax,seval,Zbx,q13a,q13b,q13c,q13d,q13e,q14a,q14b,q14c,q14d,q14e]
     obtain⟨o37,ho37,hh⟩:=ah hh
     refine ay (fun s t H e=>match s with|(s52c,l6c,l7c)=>∃v1c:Nat,∃v6c:Nat,∃v7c:Nat,t 1=.ptr 1 v1c 0∧t 6=.buf 6 v6c 1 0 (l6c).length∧t 7=.buf 7 v7c 1 0 (l7c).length∧t 50=.sl false false p0.aT.length (ab cm p0.aT)∧t 51=.int .i64 (p0.aT.length:Int)∧t 52=.int .i64 s52c∧H 1=some ⟨v1c,25,[.sl false false p0.bd.length (ab (eI .i64) p0.bd),.sl false false p0.aT.length (ab cm p0.aT)],false,false,false⟩∧H 6=some ⟨v6c,3,ab (eI .i64) l6c,false,true,false⟩∧H 7=some ⟨v7c,3,ab (eI .i64) l7c,false,true,false⟩) (fun o x t H e=>match o with|(.inl (l6cx,l7cx))=>x=.exit 2∧∃v1cx:Nat,∃v6cx:Nat,∃v7cx:Nat,t 1=.ptr 1 v1cx 0∧t 6=.buf 6 v6cx 1 0 (l6cx).length∧t 7=.buf 7 v7cx 1 0 (l7cx).length∧H 1=some ⟨v1cx,25,[.sl false false p0.bd.length (ab (eI .i64) p0.bd),.sl false false p0.aT.length (ab cm p0.aT)],false,false,false⟩∧H 6=some ⟨v6cx,3,ab (eI .i64) l6cx,false,true,false⟩∧H 7=some ⟨v7cx,3,ab (eI .i64) l7cx,false,true,false⟩|(.inr r)=>x=.ret∧eZ .clean tab none [.tmp 2,.tmp 3] ⟨t,EH H,e⟩=some (.clean (.tup [.int .i64 r.1,.int .i64 r.2]),none)) ho37 ?_ ?_ ?_
     ·refine⟨v1bx,e,e,?_,?_,?_,?_,?_,?_,?_,?_,?_⟩
      all_goals first|rfl|(simp only[ax,seval,Zbx]<;>rfl)
     ·rintro⟨s52c,l6c,l7c⟩ t H e ⟨v1c,v6c,v7c,Zc⟩ c hh
      simp only[xL]at hh
      try simp only[ax,seval,Zc]
      apply sp ak hh<;>intro _ hh
      ·obtain⟨x39,hx39,hh⟩:=ah hh
       have ax39:=bs cm hx39
       simp only[bN]at ax39
       obtain⟨r40,hr40,hh⟩:=ah hh
       try simp only[ax,seval,Zc,ax39,hr40]
       apply sp ak hh<;>intro _ hh
       ·cases hh
        try simp only[ax,seval]
        refine rT ⟨rfl,?_⟩
        try simp only[ax,seval]
       ·try simp only[ax,seval]
        obtain⟨o46,ho46,hh⟩:=ah hh
        refine ay (fun s t H e=>match s with|(s67f,l6f)=>∃v1f:Nat,∃v6f:Nat,∃v7f:Nat,∃v9f:Nat,t 1=.ptr 1 v1f 0∧t 6=.buf 6 v6f 1 0 (l6f).length∧t 7=.buf 7 v7f 1 0 (l7c).length∧t 9=.ptr 9 v9f 0∧t 50=.sl false false p0.aT.length (ab cm p0.aT)∧t 51=.int .i64 (p0.aT.length:Int)∧t 52=.int .i64 s52c∧t 65=.sl false false x39.aC.length (ab (eI .i64) x39.aC)∧t 66=.int .i64 (x39.aC.length:Int)∧t 67=.int .i64 s67f∧H 1=some ⟨v1f,25,[.sl false false p0.bd.length (ab (eI .i64) p0.bd),.sl false false p0.aT.length (ab cm p0.aT)],false,false,false⟩∧H 6=some ⟨v6f,3,ab (eI .i64) l6f,false,true,false⟩∧H 7=some ⟨v7f,3,ab (eI .i64) l7c,false,true,false⟩∧H 9=some ⟨v9f,55,[.sl false false x39.aF.az.length (ab bj x39.aF.az),.sl false false x39.aF.bg.length (ab dV x39.aF.bg),.sl false false x39.aF.ba.length (ab (kV aB) x39.aF.ba),.sl false false x39.cK.length (ab eE x39.cK),.sl false false x39.aC.length (ab (eI .i64) x39.aC)],false,false,false⟩) (fun o x t H e=>match o with|l6fx=>x=.exit 4∧∃v1fx:Nat,∃v6fx:Nat,∃v7fx:Nat,∃v9fx:Nat,t 1=.ptr 1 v1fx 0∧t 6=.buf 6 v6fx 1 0 (l6fx).length∧t 7=.buf 7 v7fx 1 0 (l7c).length∧t 9=.ptr 9 v9fx 0∧t 50=.sl false false p0.aT.length (ab cm p0.aT)∧t 51=.int .i64 (p0.aT.length:Int)∧t 52=.int .i64 s52c∧H 1=some ⟨v1fx,25,[.sl false false p0.bd.length (ab (eI .i64) p0.bd),.sl false false p0.aT.length (ab cm p0.aT)],false,false,false⟩∧H 6=some ⟨v6fx,3,ab (eI .i64) l6fx,false,true,false⟩∧H 7=some ⟨v7fx,3,ab (eI .i64) l7c,false,true,false⟩∧H 9=some ⟨v9fx,55,[.sl false false x39.aF.az.length (ab bj x39.aF.az),.sl false false x39.aF.bg.length (ab dV x39.aF.bg),.sl false false x39.aF.ba.length (ab (kV aB) x39.aF.ba),.sl false false x39.cK.length (ab eE x39.cK),.sl false false x39.aC.length (ab (eI .i64) x39.aC)],false,false,false⟩) ho46 ?_ ?_ ?_
        ·refine⟨v1c,v6c,v7c,e+1,?_,?_,?_,?_,?_,?_,?_,?_,?_,?_,?_,?_,?_,?_⟩
         all_goals first|rfl|(simp only[ax,seval,Zc]<;>rfl)
        ·rintro⟨s67f,l6f⟩ t H e ⟨v1f,v6f,v7f,v9f,Zf⟩ c hh
         simp only[xM]at hh
         try simp only[ax,seval,Zf]
         apply sp ak hh<;>intro _ hh
         ·obtain⟨x48,hx48,hh⟩:=ah hh
          have ax48:=bs (eI .i64) hx48
          simp only[bN]at ax48
          obtain⟨x49,hx49,hh⟩:=ah hh
          have ax49:=bs (eI .i64) hx49
          simp only[bN]at ax49
          have ax49:=bs (eI .i64) hx49
          simp only[bN]at ax49
          have p50:=eV (eI .i64) (x':=IntKind.i64.wrap (x49+1)) (fo:=0) (cs:=[.int .i64 (IntKind.i64.wrap (x49+1))]) hx49 rfl (ahf rfl)
          simp only[bN,Nat.add_zero]at p50
          have up50:=p50
          simp only[putCells,List.length_cons,List.length_nil,agj]at up50
          cases hh
          try simp only[ax,seval,Zf,ax48,ax49,up50]
          apply gV
          refine⟨v1f,v6f,v7f,v9f,?_,?_,?_,?_,?_,?_,?_,?_,?_,?_,?_,?_,?_,?_⟩
          all_goals first|rfl|(simp only[ax,seval,Zf]<;>rfl)
         ·cases hh
          try simp only[ax,seval]
          apply jo
          refine⟨rfl,⟨v1f,v6f,v7f,v9f,?_,?_,?_,?_,?_,?_,?_,?_,?_,?_,?_⟩⟩
          all_goals first|rfl|(simp only[ax,seval,Zf]<;>rfl)
        ·rintro x t H e hx
         obtain⟨l6fx,rfl⟩:∃z,z=o46:=⟨_,rfl⟩
         dsimp only at hx hh
         obtain⟨rfl,⟨v1fx,v6fx,v7fx,v9fx,Zfx⟩⟩:=hx
         try simp only[ax,seval,Zfx]
         obtain⟨o55,ho55,hh⟩:=ah hh
         refine ay (fun s t H e=>match s with|(s81g,l7g)=>∃v1g:Nat,∃v6g:Nat,∃v7g:Nat,t 1=.ptr 1 v1g 0∧t 6=.buf 6 v6g 1 0 (l6fx).length∧t 7=.buf 7 v7g 1 0 (l7g).length∧t 50=.sl false false p0.aT.length (ab cm p0.aT)∧t 51=.int .i64 (p0.aT.length:Int)∧t 52=.int .i64 s52c∧t 79=.sl false false x39.cK.length (ab eE x39.cK)∧t 80=.int .i64 (x39.cK.length:Int)∧t 81=.int .i64 s81g∧H 1=some ⟨v1g,25,[.sl false false p0.bd.length (ab (eI .i64) p0.bd),.sl false false p0.aT.length (ab cm p0.aT)],false,false,false⟩∧H 6=some ⟨v6g,3,ab (eI .i64) l6fx,false,true,false⟩∧H 7=some ⟨v7g,3,ab (eI .i64) l7g,false,true,false⟩) (fun o x t H e=>match o with|l7gx=>x=.exit 6∧∃v1gx:Nat,∃v6gx:Nat,∃v7gx:Nat,t 1=.ptr 1 v1gx 0∧t 6=.buf 6 v6gx 1 0 (l6fx).length∧t 7=.buf 7 v7gx 1 0 (l7gx).length∧t 50=.sl false false p0.aT.length (ab cm p0.aT)∧t 51=.int .i64 (p0.aT.length:Int)∧t 52=.int .i64 s52c∧H 1=some ⟨v1gx,25,[.sl false false p0.bd.length (ab (eI .i64) p0.bd),.sl false false p0.aT.length (ab cm p0.aT)],false,false,false⟩∧H 6=some ⟨v6gx,3,ab (eI .i64) l6fx,false,true,false⟩∧H 7=some ⟨v7gx,3,ab (eI .i64) l7gx,false,true,false⟩) ho55 ?_ ?_ ?_
         ·refine⟨v1fx,v6fx,v7fx,?_,?_,?_,?_,?_,?_,?_,?_,?_,?_,?_,?_⟩
          all_goals first|rfl|(simp only[ax,seval,Zfx]<;>rfl)
         ·rintro⟨s81g,l7g⟩ t H e ⟨v1g,v6g,v7g,Zg⟩ c hh
          simp only[xN]at hh
          try simp only[ax,seval,Zg]
          apply sp ak hh<;>intro _ hh
          ·obtain⟨x57,hx57,hh⟩:=ah hh
           have ax57:=bs eE hx57
           simp only[bN]at ax57
           obtain⟨x58,hx58,hh⟩:=ah hh
           have ax58:=bs (eI .i64) hx58
           simp only[bN]at ax58
           have ax58:=bs (eI .i64) hx58
           simp only[bN]at ax58
           have p59:=eV (eI .i64) (x':=(if 1099511627777<(IntKind.i64.wrap (x58+x57.b5)) then 1099511627777 else IntKind.i64.wrap (x58+x57.b5))) (fo:=0) (cs:=[.int .i64 (if 1099511627777<(IntKind.i64.wrap (x58+x57.b5)) then 1099511627777 else IntKind.i64.wrap (x58+x57.b5))]) hx58 rfl (ahf rfl)
           simp only[bN,Nat.add_zero]at p59
           have up59:=p59
           simp only[putCells,List.length_cons,List.length_nil,agj]at up59
           try simp only[ax,seval,Zg,ax57,ax58,up59]
           refine bB (by kernel_rfl) ?_
           cases hh
           try simp only[ax,seval,q13a,q13b,q13c,q13d,q13e,q14a,q14b,q14c,q14d,q14e,ax39,hr40,Zg,ax57,ax58,ax58,p59,up59]
           apply gV
           refine⟨v1g,v6g,v7g,?_,?_,?_,?_,?_,?_,?_,?_,?_,?_,?_,?_⟩
           all_goals first|rfl|(simp only[ax,seval,Zg]<;>rfl)
          ·cases hh
           try simp only[ax,seval]
           apply jo
           refine⟨rfl,⟨v1g,v6g,v7g,?_,?_,?_,?_,?_,?_,?_,?_,?_⟩⟩
           all_goals first|rfl|(simp only[ax,seval,Zg]<;>rfl)
         ·rintro x t H e hx
          obtain⟨l7gx,rfl⟩:∃z,z=o55:=⟨_,rfl⟩
          dsimp only at hx hh
          obtain⟨rfl,⟨v1gx,v6gx,v7gx,Zgx⟩⟩:=hx
          cases hh
          try simp only[ax,seval,Zgx]
          apply gV
          refine⟨v1gx,v6gx,v7gx,?_,?_,?_,?_,?_,?_,?_,?_,?_⟩
          all_goals first|rfl|(simp only[ax,seval,Zgx]<;>rfl)
      ·cases hh
       try simp only[ax,seval]
       apply jo
       refine⟨rfl,⟨v1c,v6c,v7c,?_,?_,?_,?_,?_,?_⟩⟩
       all_goals first|rfl|(simp only[ax,seval,Zc]<;>rfl)
     ·rintro x t H e hx
      rcases o37 with⟨l6cx,l7cx⟩|rc
      ·dsimp only at hx hh
       obtain⟨rfl,⟨v1cx,v6cx,v7cx,Zcx⟩⟩:=hx
       try simp only[ax,seval,Zcx]
       obtain⟨o64,ho64,hh⟩:=ah hh
       refine ay (fun s t H e=>match s with|s102h=>∃v1h:Nat,∃v6h:Nat,∃v7h:Nat,t 1=.ptr 1 v1h 0∧t 7=.buf 7 v7h 1 0 (l7cx).length∧t 100=.buf 6 v6h 1 0 (l6cx).length∧t 101=.int .i64 ((l6cx).length:Int)∧t 102=.int .i64 s102h∧H 1=some ⟨v1h,25,[.sl false false p0.bd.length (ab (eI .i64) p0.bd),.sl false false p0.aT.length (ab cm p0.aT)],false,false,false⟩∧H 6=some ⟨v6h,3,ab (eI .i64) l6cx,false,true,false⟩∧H 7=some ⟨v7h,3,ab (eI .i64) l7cx,false,true,false⟩) (fun o x t H e=>match o with|(.inl _)=>x=.exit 8∧∃v1hx:Nat,∃v7hx:Nat,t 1=.ptr 1 v1hx 0∧t 7=.buf 7 v7hx 1 0 (l7cx).length∧H 1=some ⟨v1hx,25,[.sl false false p0.bd.length (ab (eI .i64) p0.bd),.sl false false p0.aT.length (ab cm p0.aT)],false,false,false⟩∧H 7=some ⟨v7hx,3,ab (eI .i64) l7cx,false,true,false⟩|(.inr r)=>x=.ret∧eZ .clean tab none [.tmp 2,.tmp 3] ⟨t,EH H,e⟩=some (.clean (.tup [.int .i64 r.1,.int .i64 r.2]),none)) ho64 ?_ ?_ ?_
       ·refine⟨v1cx,v6cx,v7cx,?_,?_,?_,?_,?_,?_,?_,?_⟩
        all_goals first|rfl|(simp only[ax,seval,Zcx]<;>rfl)
       ·rintro s102h t H e ⟨v1h,v6h,v7h,Zh⟩ c hh
        simp only[xO]at hh
        try simp only[ax,seval,Zh]
        apply sp ak hh<;>intro _ hh
        ·obtain⟨x66,hx66,hh⟩:=ah hh
         have ax66:=bs (eI .i64) hx66
         simp only[bN]at ax66
         try simp only[ax,seval,Zh,ax66]
         apply sp ak hh<;>intro _ hh
         ·cases hh
          try simp only[ax,seval]
          refine rT ⟨rfl,?_⟩
          try simp only[ax,seval]
         ·try simp only[ax,seval]
          apply sp ak hh<;>intro _ hh
          ·cases hh
           try simp only[ax,seval]
           refine rT ⟨rfl,?_⟩
           try simp only[ax,seval]
          ·cases hh
           try simp only[ax,seval,Zh]
           apply gV
           refine⟨v1h,v6h,v7h,?_,?_,?_,?_,?_,?_,?_,?_⟩
           all_goals first|rfl|(simp only[ax,seval,Zh]<;>rfl)
        ·cases hh
         try simp only[ax,seval]
         apply jo
         refine⟨rfl,⟨v1h,v7h,?_,?_,?_,?_⟩⟩
         all_goals first|rfl|(simp only[ax,seval,Zh]<;>rfl)
       ·rintro x t H e hx
        rcases o64 with _|rh
        ·dsimp only at hx hh
         obtain⟨rfl,⟨v1hx,v7hx,Zhx⟩⟩:=hx
         try simp only[ax,seval,Zhx]
         obtain⟨o73,ho73,hh⟩:=ah hh
         refine ay (fun s t H e=>match s with|s118i=>∃v1i:Nat,∃v7i:Nat,t 1=.ptr 1 v1i 0∧t 116=.buf 7 v7i 1 0 (l7cx).length∧t 117=.int .i64 ((l7cx).length:Int)∧t 118=.int .i64 s118i∧H 1=some ⟨v1i,25,[.sl false false p0.bd.length (ab (eI .i64) p0.bd),.sl false false p0.aT.length (ab cm p0.aT)],false,false,false⟩∧H 7=some ⟨v7i,3,ab (eI .i64) l7cx,false,true,false⟩) (fun o x t H e=>match o with|(.inl _)=>x=.exit 11|(.inr r)=>x=.ret∧eZ .clean tab none [.tmp 2,.tmp 3] ⟨t,EH H,e⟩=some (.clean (.tup [.int .i64 r.1,.int .i64 r.2]),none)) ho73 ?_ ?_ ?_
         ·refine⟨v1hx,v7hx,?_,?_,?_,?_,?_,?_⟩
          all_goals first|rfl|(simp only[ax,seval,Zhx]<;>rfl)
         ·rintro s118i t H e ⟨v1i,v7i,Zi⟩ c hh
          simp only[xP]at hh
          try simp only[ax,seval,Zi]
          apply sp ak hh<;>intro _ hh
          ·obtain⟨x75,hx75,hh⟩:=ah hh
           have ax75:=bs (eI .i64) hx75
           simp only[bN]at ax75
           obtain⟨x76,hx76,hh⟩:=ah hh
           have ax76:=bs (eI .i64) hx76
           simp only[bN]at ax76
           try simp only[ax,seval,Zi,ax75,ax76]
           apply sp ak hh<;>intro _ hh
           ·cases hh
            try simp only[ax,seval]
            refine rT ⟨rfl,?_⟩
            try simp only[ax,seval]
           ·cases hh
            try simp only[ax,seval,Zi]
            apply gV
            refine⟨v1i,v7i,?_,?_,?_,?_,?_,?_⟩
            all_goals first|rfl|(simp only[ax,seval,Zi]<;>rfl)
          ·cases hh
           try simp only[ax,seval]
           apply jo
           exact rfl
         ·rintro x t H e hx
          rcases o73 with _|ri
          ·dsimp only at hx hh
           subst hx
           cases hh
           try simp only[ax,seval]
          ·dsimp only at hx hh
           obtain⟨rfl,hE⟩:=hx
           cases hh
           try simp only[a7,bh,cr,cn]
           exact hE
        ·dsimp only at hx hh
         obtain⟨rfl,hE⟩:=hx
         cases hh
         try simp only[a7,bh,cr,cn]
         exact hE
      ·dsimp only at hx hh
       obtain⟨rfl,hE⟩:=hx
       cases hh
       try simp only[a7,bh,cr,cn]
       exact hE
    ·dsimp only at hx hh
     obtain⟨rfl,hE⟩:=hx
     cases hh
     try simp only[a7,bh,cr,cn]
     exact hE
 ·clear hh
  have hh:=ho1
  try simp only[ax,seval]
  apply sp aO hh<;>intro _ hh
  ·cases hh
   try simp only[ax,seval]
   rw[an]
   refine⟨_,rfl,?_⟩
   refine⟨0,?_,?_,?_⟩
   all_goals first|rfl|(simp only[ax,seval]<;>rfl)
  ·cases hh
   try simp only[ax,seval]
   rw[an]
   refine⟨_,rfl,?_⟩
   refine⟨0,?_,?_,?_⟩
   all_goals first|rfl|(simp only[ax,seval]<;>rfl)
theorem xU:bP Tryz.prog 19 ox:=bP.of (mode := .clean) tok JE mixed Tryz.func19 (by kernel_rfl) ⟨by kernel_rfl,by kernel_rfl⟩ (fun _=>ahf (by kernel_rfl)) (fun x r h=>NB x r h)
def yG:=fc (kp (aI .i64) (eQ (aI .i64))) (fun x:Int×Int=>xw x.1 x.2) (fun r:ao×Int =>.clean (.tup [.agg [.int .i64 r.1.aZ.ae,.sl false false r.1.aZ.aa.length (ab (eI .i64) r.1.aZ.aa),.int .i64 r.1.aX.ae,.sl false false r.1.aX.aa.length (ab (eI .i64) r.1.aX.aa)],.int .i64 r.2]))
theorem H7 (p0:Int) (p1:Int):yG none [.int .i64 p0,.int .i64 p1]=(xw p0 p1).map fun r:ao×Int=>(.clean (.tup [.agg [.int .i64 r.1.aZ.ae,.sl false false r.1.aZ.aa.length (ab (eI .i64) r.1.aZ.aa),.int .i64 r.1.aX.ae,.sl false false r.1.aX.aa.length (ab (eI .i64) r.1.aX.aa)],.int .i64 r.2]),none):=aJ _ _ _ (p0,p1)
def uB:Env:=(Am.ext (Am.ext aY 93 false nw) 109 false wR)
theorem Qi:bA Tryz.prog uB:=((bA.none.add tu false).add HT false)
theorem V3:type_of% (ai @w<|ai @lx<|ai @xX<|@uB.eq_1):=⟨@w,@lx,@xX,@uB.eq_1⟩
theorem Vl (p0:Int) (p1:Int) (r:ao×Int) (hh:xw p0 p1=some r):aW .clean tab uB FU Tryz.f107 none [.int .i64 p0,.int .i64 p1]=some (.clean (.tup [.agg [.int .i64 r.1.aZ.ae,.sl false false r.1.aZ.aa.length (ab (eI .i64) r.1.aZ.aa),.int .i64 r.1.aX.ae,.sl false false r.1.aX.aa.length (ab (eI .i64) r.1.aX.aa)],.int .i64 r.2]),none):=by
 apply aA rfl Tryz.ntmps107 Tryz.results107
 unfold xw at hh
 obtain⟨r1,hr1,hh⟩:=ah hh
 obtain⟨r2,hr2,hh⟩:=ah hh
 obtain⟨r3,hr3,hh⟩:=ah hh
 cases hh
 try simp only[V3,seval,hr1,hr2,hr3]
theorem QW:bP Tryz.prog 107 yG:=bP.of (mode := .clean) tok Qi mixed Tryz.func107 (by kernel_rfl) ⟨by kernel_rfl,by kernel_rfl⟩ (fun _=>ahf (by kernel_rfl)) (fun x r h=>Vl x.1 x.2 r h)
def vZ:=fc (kp (bL aB) (eQ (bL aB))) (fun x:ao×ao=>s5 x.1 x.2) (fun r:ao×Int =>.clean (.tup [.agg [.int .i64 r.1.aZ.ae,.sl false false r.1.aZ.aa.length (ab (eI .i64) r.1.aZ.aa),.int .i64 r.1.aX.ae,.sl false false r.1.aX.aa.length (ab (eI .i64) r.1.aX.aa)],.int .i64 r.2]))
theorem Ei (p0_0:Int) (p0_1:(List Int)) (p0_2:Int) (p0_3:(List Int)) (p1_0:Int) (p1_1:(List Int)) (p1_2:Int) (p1_3:(List Int)):vZ none [.agg [.int .i64 p0_0,.sl false false p0_1.length (ab (eI .i64) p0_1),.int .i64 p0_2,.sl false false p0_3.length (ab (eI .i64) p0_3)],.agg [.int .i64 p1_0,.sl false false p1_1.length (ab (eI .i64) p1_1),.int .i64 p1_2,.sl false false p1_3.length (ab (eI .i64) p1_3)]]=(s5 (ao.mk (aj.mk p0_0 p0_1) (aj.mk p0_2 p0_3)) (ao.mk (aj.mk p1_0 p1_1) (aj.mk p1_2 p1_3))).map fun r:ao×Int=>(.clean (.tup [.agg [.int .i64 r.1.aZ.ae,.sl false false r.1.aZ.aa.length (ab (eI .i64) r.1.aZ.aa),.int .i64 r.1.aX.ae,.sl false false r.1.aX.aa.length (ab (eI .i64) r.1.aX.aa)],.int .i64 r.2]),none):=aJ _ _ _ ((ao.mk (aj.mk p0_0 p0_1) (aj.mk p0_2 p0_3)),(ao.mk (aj.mk p1_0 p1_1) (aj.mk p1_2 p1_3)))
def qN:Env:=(Am.ext (Am.ext (Am.ext aY 83 false fj) 92 false kx) 93 false nw)
theorem Mq:bA Tryz.prog qN:=(((bA.none.add gh false).add pz false).add tu false)
theorem gP:type_of% (ai @w<|ai @cO<|ai @iY<|ai @lx<|@qN.eq_1):=⟨@w,@cO,@iY,@lx,@qN.eq_1⟩
theorem QA (p0:ao) (p1:ao) (r:ao×Int) (hh:s5 p0 p1=some r):aW .clean tab qN FU Tryz.f38 none [.agg [.int .i64 p0.aZ.ae,.sl false false p0.aZ.aa.length (ab (eI .i64) p0.aZ.aa),.int .i64 p0.aX.ae,.sl false false p0.aX.aa.length (ab (eI .i64) p0.aX.aa)],.agg [.int .i64 p1.aZ.ae,.sl false false p1.aZ.aa.length (ab (eI .i64) p1.aZ.aa),.int .i64 p1.aX.ae,.sl false false p1.aX.aa.length (ab (eI .i64) p1.aX.aa)]]=some (.clean (.tup [.agg [.int .i64 r.1.aZ.ae,.sl false false r.1.aZ.aa.length (ab (eI .i64) r.1.aZ.aa),.int .i64 r.1.aX.ae,.sl false false r.1.aX.aa.length (ab (eI .i64) r.1.aX.aa)],.int .i64 r.2]),none):=by
 apply aA rfl Tryz.ntmps38 Tryz.results38
 unfold s5 at hh
 obtain⟨r1,hr1,hh⟩:=ah hh
 try simp only[gP,seval,hr1]
 obtain⟨o2,ho2,hh⟩:=ah hh
 refine bq 0 (fun s t H e=>match s with|s13j1=>∃v2j1:Nat,∃v3j1:Nat,∃v4j1:Nat,t 2=.ptr 2 v2j1 0∧t 3=.ptr 3 v3j1 0∧t 4=.ptr 4 v4j1 0∧t 13=.bool s13j1∧H 2=some ⟨v2j1,42,[.int .i64 p0.aZ.ae,.sl false false p0.aZ.aa.length (ab (eI .i64) p0.aZ.aa),.int .i64 p0.aX.ae,.sl false false p0.aX.aa.length (ab (eI .i64) p0.aX.aa)],false,false,false⟩∧H 3=some ⟨v3j1,42,[.int .i64 p1.aZ.ae,.sl false false p1.aZ.aa.length (ab (eI .i64) p1.aZ.aa),.int .i64 p1.aX.ae,.sl false false p1.aX.aa.length (ab (eI .i64) p1.aX.aa)],false,false,false⟩∧H 4=some ⟨v4j1,42,[.int .i64 0,.sl true true 0 [],.int .i64 0,.sl true true 0 []],false,false,false⟩) (fun s=>s=o2) ?_ ?_
 ·rintro s13j1 t H e ⟨v2j1,v3j1,v4j1,Zj1⟩ rfl
  try dsimp only at hh
  try simp only[gP,seval,Zj1]
  apply sp ak hh<;>intro _ hh
  ·cases hh
   try simp only[gP,seval,Zj1]
  ·obtain⟨r4,hr4,hh⟩:=ah hh
   obtain⟨r5,hr5,hh⟩:=ah hh
   obtain⟨r6,hr6,hh⟩:=ah hh
   try simp only[gP,seval,Zj1,hr4,hr5,hr6]
   refine bB (by kernel_rfl) ?_
   cases hh
   try simp only[seval]
 ·clear hh
  have hh:=ho2
  try simp only[gP,seval]
  apply sp aO hh<;>intro _ hh
  ·cases hh
   try simp only[gP,seval]
   rw[an]
   refine⟨_,rfl,?_⟩
   refine⟨0,0,0,?_,?_,?_,?_,?_,?_,?_⟩
   all_goals first|rfl|(simp only[gP,seval,hr1]<;>rfl)
  ·obtain⟨r8,hr8,hh⟩:=ah hh
   cases hh
   try simp only[gP,seval,hr8]
   rw[an]
   refine⟨_,rfl,?_⟩
   refine⟨0,0,0,?_,?_,?_,?_,?_,?_,?_⟩
   all_goals first|rfl|(simp only[gP,seval,hr1,hr8]<;>rfl)
theorem Og:bP Tryz.prog 38 vZ:=bP.of (mode := .clean) tok Mq mixed Tryz.func38 (by kernel_rfl) ⟨by kernel_rfl,by kernel_rfl⟩ (fun _=>ahf (by kernel_rfl)) (fun x r h=>QA x.1 x.2 r h)
def mq:=mkM 114 (bL aB) (kp (po (eI .i64)) (eQ (bL cm))) (fun (l:(List ((Int×Int)×ao))) (x:(List Int)×gS)=>jy l x.1 x.2) (fun r:Unit =>.clean (.tup []))
theorem Bi (p0:(List ((Int×Int)×ao))) (p1:(List Int)) (p2_0:(List kA)) (p2_1:(List BR)) (p2_2:(List (List ao))) (p2_3:(List mF)) (p2_4:(List Int)):mq (some (.mp 0 0,⟨0,114,[.mpc (di p0) (e8 (bL aB) p0)],false,true,true⟩)) [.sl false false p1.length (ab (eI .i64) p1),.agg [.sl false false p2_0.length (ab bj p2_0),.sl false false p2_1.length (ab dV p2_1),.sl false false p2_2.length (ab (kV aB) p2_2),.sl false false p2_3.length (ab eE p2_3),.sl false false p2_4.length (ab (eI .i64) p2_4)]]=(jy p0 p1 (gS.mk (kz.mk p2_0 p2_1 p2_2) p2_3 p2_4)).map fun r=>(.clean (.tup []),some ⟨0,114,[.mpc (di r.1) (e8 (bL aB) r.1)],false,true,true⟩):=acf _ _ _ _ _ p0 (p1,(gS.mk (kz.mk p2_0 p2_1 p2_2) p2_3 p2_4))
def jG:Env:=(Am.ext (Am.ext (Am.ext (Am.ext aY 38 false vZ) 39 false gE) 107 false yG) 135 false tP)
theorem yY:bA Tryz.prog jG:=((((bA.none.add Og false).add iV false).add QW false).add D2 false)
theorem aG:type_of% (ai @w<|ai @Ei<|ai @ej<|ai @H7<|ai @uS<|@jG.eq_1):=⟨@w,@Ei,@ej,@H7,@uS,@jG.eq_1⟩
theorem A8 (p0:(List ((Int×Int)×ao))) (p1:(List Int)) (p2:gS) (r:(List ((Int×Int)×ao))×(Unit)) (hh:jy p0 p1 p2=some r):aW .clean tab jG FU Tryz.f77 (some (.mp 0 0,⟨0,114,[.mpc (di p0) (e8 (bL aB) p0)],false,true,true⟩)) [.sl false false p1.length (ab (eI .i64) p1),.agg [.sl false false p2.aF.az.length (ab bj p2.aF.az),.sl false false p2.aF.bg.length (ab dV p2.aF.bg),.sl false false p2.aF.ba.length (ab (kV aB) p2.aF.ba),.sl false false p2.cK.length (ab eE p2.cK),.sl false false p2.aC.length (ab (eI .i64) p2.aC)]]=some (.clean (.tup []),some ⟨0,114,[.mpc (di r.1) (e8 (bL aB) r.1)],false,true,true⟩):=by
 apply Pq rfl Tryz.ntmps77 Tryz.results77
 unfold jy at hh
 try simp only[aG,seval]
 obtain⟨o36,ho36,hh⟩:=ah hh
 refine ay (fun s t H e=>match s with|(s22a,l0a)=>∃v5a:Nat,t 0=.mp 0 0∧t 1=.sl false false p1.length (ab (eI .i64) p1)∧t 5=.ptr 5 v5a 0∧t 20=.sl false false p2.aF.az.length (ab bj p2.aF.az)∧t 21=.int .i64 (p2.aF.az.length:Int)∧t 22=.int .i64 s22a∧H 0=some ⟨0,114,[.mpc (di l0a) (e8 (bL aB) l0a)],false,true,true⟩∧H 5=some ⟨v5a,55,[.sl false false p2.aF.az.length (ab bj p2.aF.az),.sl false false p2.aF.bg.length (ab dV p2.aF.bg),.sl false false p2.aF.ba.length (ab (kV aB) p2.aF.ba),.sl false false p2.cK.length (ab eE p2.cK),.sl false false p2.aC.length (ab (eI .i64) p2.aC)],false,false,false⟩) (fun o x t H e=>match o with|l0ax=>x=.exit 0∧t 0=.mp 0 0∧H 0=some ⟨0,114,[.mpc (di l0ax) (e8 (bL aB) l0ax)],false,true,true⟩) ho36 ?_ ?_ ?_
 ·refine⟨1,?_,?_,?_,?_,?_,?_,?_,?_⟩
  all_goals first|rfl|(simp only[aG,seval]<;>rfl)
 ·rintro⟨s22a,l0a⟩ t H e ⟨v5a,Za⟩ c hh
  simp only[pQ]at hh
  try simp only[aG,seval,Za]
  apply sp ak hh<;>intro _ hh
  ·obtain⟨x38,hx38,hh⟩:=ah hh
   have ax38:=bs bj hx38
   simp only[bN]at ax38
   try simp only[aG,seval,Za,ax38]
   apply sp ak hh<;>intro _ hh
   ·cases hh
    try simp only[aG,seval,Za]
    apply gV
    refine⟨v5a,?_,?_,?_,?_,?_,?_,?_,?_⟩
    all_goals first|rfl|(simp only[aG,seval,Za]<;>rfl)
   ·obtain⟨x40,hx40,hh⟩:=ah hh
    have ax40:=bs eE hx40
    simp only[bN]at ax40
    obtain⟨x41,hx41,hh⟩:=ah hh
    have ax41:=bs (eI .i64) hx41
    simp only[bN]at ax41
    obtain⟨r42,hr42,hh⟩:=ah hh
    try simp only[aG,seval,Za,ax40,ax41,hr42]
    refine bB (by kernel_rfl) ?_
    try simp only[aG,seval,Za,ax38,ax40,ax41,hr42]
    obtain⟨o57,ho57,hh⟩:=ah hh
    refine ay (fun s t H e=>match s with|(s51e,l0e)=>∃v5e:Nat,∃v8e:Nat,∃v9e:Nat,t 0=.mp 0 0∧t 1=.sl false false p1.length (ab (eI .i64) p1)∧t 5=.ptr 5 v5e 0∧t 6=.int .i64 s22a∧t 8=.ptr 8 v8e 0∧t 9=.ptr 9 v9e 0∧t 20=.sl false false p2.aF.az.length (ab bj p2.aF.az)∧t 21=.int .i64 (p2.aF.az.length:Int)∧t 22=.int .i64 s22a∧t 49=.sl false false p2.aF.bg.length (ab dV p2.aF.bg)∧t 50=.int .i64 (p2.aF.bg.length:Int)∧t 51=.int .i64 s51e∧H 0=some ⟨0,114,[.mpc (di l0e) (e8 (bL aB) l0e)],false,true,true⟩∧H 5=some ⟨v5e,55,[.sl false false p2.aF.az.length (ab bj p2.aF.az),.sl false false p2.aF.bg.length (ab dV p2.aF.bg),.sl false false p2.aF.ba.length (ab (kV aB) p2.aF.ba),.sl false false p2.cK.length (ab eE p2.cK),.sl false false p2.aC.length (ab (eI .i64) p2.aC)],false,false,false⟩∧H 8=some ⟨v8e,57,[.int .i64 x40.jP,.int .i64 x40.b5],false,false,false⟩∧H 9=some ⟨v9e,42,[.int .i64 r42.1.aZ.ae,.sl false false r42.1.aZ.aa.length (ab (eI .i64) r42.1.aZ.aa),.int .i64 r42.1.aX.ae,.sl false false r42.1.aX.aa.length (ab (eI .i64) r42.1.aX.aa)],false,false,false⟩) (fun o x t H e=>match o with|l0ex=>x=.exit 2∧∃v5ex:Nat,t 0=.mp 0 0∧t 1=.sl false false p1.length (ab (eI .i64) p1)∧t 5=.ptr 5 v5ex 0∧t 20=.sl false false p2.aF.az.length (ab bj p2.aF.az)∧t 21=.int .i64 (p2.aF.az.length:Int)∧t 22=.int .i64 s22a∧H 0=some ⟨0,114,[.mpc (di l0ex) (e8 (bL aB) l0ex)],false,true,true⟩∧H 5=some ⟨v5ex,55,[.sl false false p2.aF.az.length (ab bj p2.aF.az),.sl false false p2.aF.bg.length (ab dV p2.aF.bg),.sl false false p2.aF.ba.length (ab (kV aB) p2.aF.ba),.sl false false p2.cK.length (ab eE p2.cK),.sl false false p2.aC.length (ab (eI .i64) p2.aC)],false,false,false⟩) ho57 ?_ ?_ ?_
    ·refine⟨v5a,e+1+1+1,e+1+1+1+1,?_,?_,?_,?_,?_,?_,?_,?_,?_,?_,?_,?_,?_,?_,?_,?_⟩
     all_goals first|rfl|(simp only[aG,seval,Za]<;>rfl)
    ·rintro⟨s51e,l0e⟩ t H e ⟨v5e,v8e,v9e,Ze⟩ c hh
     simp only[pR]at hh
     try simp only[aG,seval,Ze]
     apply sp ak hh<;>intro _ hh
     ·obtain⟨x59,hx59,hh⟩:=ah hh
      have ax59:=bs dV hx59
      simp only[bN]at ax59
      try simp only[aG,seval,Ze,ax59]
      obtain⟨o60,ho60,hh⟩:=ah hh
      refine bq 0 (fun s t H e=>match s with|s71j7=>∃v5j7:Nat,∃v8j7:Nat,∃v9j7:Nat,∃v12j7:Nat,t 0=.mp 0 0∧t 1=.sl false false p1.length (ab (eI .i64) p1)∧t 5=.ptr 5 v5j7 0∧t 6=.int .i64 s22a∧t 8=.ptr 8 v8j7 0∧t 9=.ptr 9 v9j7 0∧t 11=.int .i64 s51e∧t 12=.ptr 12 v12j7 0∧t 20=.sl false false p2.aF.az.length (ab bj p2.aF.az)∧t 21=.int .i64 (p2.aF.az.length:Int)∧t 22=.int .i64 s22a∧t 49=.sl false false p2.aF.bg.length (ab dV p2.aF.bg)∧t 50=.int .i64 (p2.aF.bg.length:Int)∧t 51=.int .i64 s51e∧t 71=.bool s71j7∧H 0=some ⟨0,114,[.mpc (di l0e) (e8 (bL aB) l0e)],false,true,true⟩∧H 5=some ⟨v5j7,55,[.sl false false p2.aF.az.length (ab bj p2.aF.az),.sl false false p2.aF.bg.length (ab dV p2.aF.bg),.sl false false p2.aF.ba.length (ab (kV aB) p2.aF.ba),.sl false false p2.cK.length (ab eE p2.cK),.sl false false p2.aC.length (ab (eI .i64) p2.aC)],false,false,false⟩∧H 8=some ⟨v8j7,57,[.int .i64 x40.jP,.int .i64 x40.b5],false,false,false⟩∧H 9=some ⟨v9j7,42,[.int .i64 r42.1.aZ.ae,.sl false false r42.1.aZ.aa.length (ab (eI .i64) r42.1.aZ.aa),.int .i64 r42.1.aX.ae,.sl false false r42.1.aX.aa.length (ab (eI .i64) r42.1.aX.aa)],false,false,false⟩∧H 12=some ⟨v12j7,85,[.int .i64 x59.ji,.int .i64 x59.gp,.int .i64 x59.b5,.str x59.Jw],false,false,false⟩) (fun s=>s=o60) ?_ ?_
      ·rintro s71j7 t H e ⟨v5j7,v8j7,v9j7,v12j7,Zj7⟩ rfl
       try dsimp only at hh
       try simp only[aG,seval,Zj7]
       apply sp ak hh<;>intro _ hh
       ·cases hh
        try simp only[aG,seval,Zj7]
        apply gV
        refine⟨v5j7,v8j7,v9j7,?_,?_,?_,?_,?_,?_,?_,?_,?_,?_,?_,?_,?_,?_,?_,?_⟩
        all_goals first|rfl|(simp only[aG,seval,Zj7]<;>rfl)
       ·obtain⟨x62,hx62,hh⟩:=ah hh
        have ax62:=bs (eI .i64) hx62
        simp only[bN]at ax62
        try simp only[aG,seval,ax59,Zj7,ax62]
        refine bB (by kernel_rfl) ?_
        obtain⟨x63,hx63,hh⟩:=ah hh
        have ax63:=bs (kV aB) hx63
        simp only[bN]at ax63
        obtain⟨x64,hx64,hh⟩:=ah hh
        have ax64:=bs aB hx64
        simp only[bN]at ax64
        obtain⟨r65,hr65,hh⟩:=ah hh
        try simp only[aG,seval,ax38,Zj7,ax63,ax64,hr65]
        refine bB (by kernel_rfl) ?_
        try simp only[aG,seval,ax38,ax40,ax41,hr42,ax59,Zj7,ax62,ax63,ax64,hr65]
        apply sp ak hh<;>intro _ hh
        ·obtain⟨r67,hr67,hh⟩:=ah hh
         cases hh
         try simp only[aG,seval,Zj7,hr67]
         apply gV
         refine⟨v5j7,v8j7,v9j7,?_,?_,?_,?_,?_,?_,?_,?_,?_,?_,?_,?_,?_,?_,?_,?_⟩
         all_goals first|rfl|(simp only[aG,seval,Zj7]<;>rfl)
        ·cases hh
         try simp only[aG,seval,Zj7]
         apply gV
         refine⟨v5j7,v8j7,v9j7,?_,?_,?_,?_,?_,?_,?_,?_,?_,?_,?_,?_,?_,?_,?_,?_⟩
         all_goals first|rfl|(simp only[aG,seval,Zj7]<;>rfl)
      ·clear hh
       have hh:=ho60
       try simp only[aG,seval]
       apply sp aO hh<;>intro _ hh
       ·cases hh
        try simp only[aG,seval]
        rw[an]
        refine⟨_,rfl,?_⟩
        refine⟨v5e,v8e,v9e,e+1,?_,?_,?_,?_,?_,?_,?_,?_,?_,?_,?_,?_,?_,?_,?_,?_,?_,?_,?_,?_⟩
        all_goals first|rfl|(simp only[aG,seval,Ze]<;>rfl)
       ·obtain⟨x69,hx69,hh⟩:=ah hh
        have ax69:=bs (kV aB) hx69
        simp only[bN]at ax69
        obtain⟨x70,hx70,hh⟩:=ah hh
        have ax70:=bs aB hx70
        simp only[bN]at ax70
        obtain⟨r71,hr71,hh⟩:=ah hh
        cases hh
        try simp only[aG,seval,ax38,Ze,ax59,ax69,ax70,hr71]
        rw[an]
        refine⟨_,rfl,?_⟩
        refine⟨v5e,v8e,v9e,e+1,?_,?_,?_,?_,?_,?_,?_,?_,?_,?_,?_,?_,?_,?_,?_,?_,?_,?_,?_,?_⟩
        all_goals first|rfl|(simp only[aG,seval,Ze]<;>rfl)
     ·cases hh
      try simp only[aG,seval]
      apply jo
      refine⟨rfl,⟨v5e,?_,?_,?_,?_,?_,?_,?_,?_⟩⟩
      all_goals first|rfl|(simp only[aG,seval,Ze]<;>rfl)
    ·rintro x t H e hx
     obtain⟨l0ex,rfl⟩:∃z,z=o57:=⟨_,rfl⟩
     dsimp only at hx hh
     obtain⟨rfl,⟨v5ex,Zex⟩⟩:=hx
     cases hh
     try simp only[aG,seval,Zex]
     apply gV
     refine⟨v5ex,?_,?_,?_,?_,?_,?_,?_,?_⟩
     all_goals first|rfl|(simp only[aG,seval,Zex]<;>rfl)
  ·cases hh
   try simp only[aG,seval]
   apply jo
   refine⟨rfl,⟨?_,?_⟩⟩
   all_goals first|rfl|(simp only[aG,seval,Za]<;>rfl)
 ·rintro x t H e hx
  obtain⟨l0ax,rfl⟩:∃z,z=o36:=⟨_,rfl⟩
  dsimp only at hx hh
  obtain⟨rfl,Zax⟩:=hx
  cases hh
  try simp only[aG,seval,Zax]
theorem y7:bP Tryz.prog 77 mq:=bP.XT tok yY mixed Tryz.func77 (by kernel_rfl) ⟨by kernel_rfl,by kernel_rfl⟩ (fun _=>ahf (by kernel_rfl)) (fun l x l' r h=>A8 l x.1 x.2 (l',r) h)
def qk:=fc (kp (bL aR) (eQ (bL aR))) (fun x:bI×bI=>jV x.1 x.2) (fun r:Int =>.clean (.int .i64 r))
theorem xY (p0_0:Int) (p0_1:Int) (p0_2:Int) (p0_3:(List Int)) (p0_4:Int) (p0_5:(List Int)) (p1_0:Int) (p1_1:Int) (p1_2:Int) (p1_3:(List Int)) (p1_4:Int) (p1_5:(List Int)):qk none [.agg [.int .i64 p0_0,.int .i64 p0_1,.int .i64 p0_2,.sl false false p0_3.length (ab (eI .i64) p0_3),.int .i64 p0_4,.sl false false p0_5.length (ab (eI .i64) p0_5)],.agg [.int .i64 p1_0,.int .i64 p1_1,.int .i64 p1_2,.sl false false p1_3.length (ab (eI .i64) p1_3),.int .i64 p1_4,.sl false false p1_5.length (ab (eI .i64) p1_5)]]=(jV (bI.mk p0_0 p0_1 (ao.mk (aj.mk p0_2 p0_3) (aj.mk p0_4 p0_5))) (bI.mk p1_0 p1_1 (ao.mk (aj.mk p1_2 p1_3) (aj.mk p1_4 p1_5)))).map fun r:Int=>(.clean (.int .i64 r),none):=aJ _ _ _ ((bI.mk p0_0 p0_1 (ao.mk (aj.mk p0_2 p0_3) (aj.mk p0_4 p0_5))),(bI.mk p1_0 p1_1 (ao.mk (aj.mk p1_2 p1_3) (aj.mk p1_4 p1_5))))
def mR:Env:=(Am.ext (Am.ext aY 138 false wS) 139 false js)
theorem Fj:bA Tryz.prog mR:=((bA.none.add HU false).add n9 false)
theorem KC:type_of% (ai @w<|ai @pX<|ai @ic<|@mR.eq_1):=⟨@w,@pX,@ic,@mR.eq_1⟩
theorem JS (p0:bI) (p1:bI) (r:Int) (hh:jV p0 p1=some r):aW .clean tab mR FU Tryz.f79 none [.agg [.int .i64 p0.bT,.int .i64 p0.gD,.int .i64 p0.bR.aZ.ae,.sl false false p0.bR.aZ.aa.length (ab (eI .i64) p0.bR.aZ.aa),.int .i64 p0.bR.aX.ae,.sl false false p0.bR.aX.aa.length (ab (eI .i64) p0.bR.aX.aa)],.agg [.int .i64 p1.bT,.int .i64 p1.gD,.int .i64 p1.bR.aZ.ae,.sl false false p1.bR.aZ.aa.length (ab (eI .i64) p1.bR.aZ.aa),.int .i64 p1.bR.aX.ae,.sl false false p1.bR.aX.aa.length (ab (eI .i64) p1.bR.aX.aa)]]=some (.clean (.int .i64 r),none):=by
 apply aA rfl Tryz.ntmps79 Tryz.results79
 unfold jV at hh
 obtain⟨r1,hr1,hh⟩:=ah hh
 obtain⟨r2,hr2,hh⟩:=ah hh
 have i3:=pX ([r1,r2])
 simp only[bn,bN,List.length_cons,agj,Nat.reduceAdd]at i3
 obtain⟨r4,hr4,hh⟩:=ah hh
 try simp only[KC,seval,hr1,hr2,i3,hr4]
 refine bB (by kernel_rfl) ?_
 cases hh
 try simp only[seval]
theorem FB:bP Tryz.prog 79 qk:=bP.of (mode := .clean) tok Fj mixed Tryz.func79 (by kernel_rfl) ⟨by kernel_rfl,by kernel_rfl⟩ (fun _=>ahf (by kernel_rfl)) (fun x r h=>JS x.1 x.2 r h)
def BH:=fc (eQ (bL Bu)) (fun x:fw=>y6 x) (fun r:cz×Int =>.clean (.tup [.agg [.int .i64 r.1.aC,.sl false false r.1.aw.length (ab aR r.1.aw)],.int .i64 r.2]))
theorem OB (p0_0:(List Int)) (p0_1:(List gS)):BH none [.agg [.sl false false p0_0.length (ab (eI .i64) p0_0),.sl false false p0_1.length (ab cm p0_1)]]=(y6 (fw.mk p0_0 p0_1)).map fun r:cz×Int=>(.clean (.tup [.agg [.int .i64 r.1.aC,.sl false false r.1.aw.length (ab aR r.1.aw)],.int .i64 r.2]),none):=aJ _ _ _ ((fw.mk p0_0 p0_1))
def xy:Env:=(Am.vp 9 (63,6,1) (Am.ext (Am.ext aY 19 false ox) 77 true mq))
theorem UT:bA Tryz.prog xy:=(bA.vp ((bA.none.add xU false).add y7 true) 9 (63,6,1))
theorem gC:type_of% (ai @w<|ai @C0<|ai @oY<|@xy.eq_1):=⟨@w,@C0,@oY,@xy.eq_1⟩
theorem XY (p0:fw) (r:cz×Int) (hh:y6 p0=some r):RB tab xy FU 5 Tryz.f21 [.agg [.sl false false p0.bd.length (ab (eI .i64) p0.bd),.sl false false p0.aT.length (ab cm p0.aT)]] (wx tab Tryz.f21.results.toList (.clean (.tup [.agg [.int .i64 r.1.aC,.sl false false r.1.aw.length (ab aR r.1.aw)],.int .i64 r.2]),none) (ac3 r)):=by
 apply V0 rfl Tryz.ntmps21 Tryz.results21
 simp only[Jz,JA]
 unfold y6 at hh
 obtain⟨r1,hr1,hh⟩:=ah hh
 try simp only[gC,seval,hr1]
 apply sp ak hh<;>intro _ hh
 ·cases hh
  try simp only[gC,seval]
 ·try simp only[gC,seval]
  obtain⟨o7,ho7,hh⟩:=ah hh
  refine ay (fun s t H e=>match s with|(s25a,l21a)=>∃v1a:Nat,∃v2a:Nat,∃v21a:Nat,t 1=.ptr 1 v1a 0∧t 2=.ptr 2 v2a 0∧t 6=.mp 21 v21a∧t 23=.sl false false p0.aT.length (ab cm p0.aT)∧t 24=.int .i64 (p0.aT.length:Int)∧t 25=.int .i64 s25a∧H 1=some ⟨v1a,25,[.sl false false p0.bd.length (ab (eI .i64) p0.bd),.sl false false p0.aT.length (ab cm p0.aT)],false,false,false⟩∧H 2=some ⟨v2a,28,[.int .i64 0,.sl true true 0 []],false,false,false⟩∧H 21=some ⟨v21a,114,[.mpc (di l21a) (e8 (bL aB) l21a)],false,true,true⟩) (fun o x t H e=>match o with|l21ax=>x=.exit 0∧∃v1ax:Nat,∃v2ax:Nat,∃v21ax:Nat,t 1=.ptr 1 v1ax 0∧t 2=.ptr 2 v2ax 0∧t 6=.mp 21 v21ax∧H 1=some ⟨v1ax,25,[.sl false false p0.bd.length (ab (eI .i64) p0.bd),.sl false false p0.aT.length (ab cm p0.aT)],false,false,false⟩∧H 2=some ⟨v2ax,28,[.int .i64 0,.sl true true 0 []],false,false,false⟩∧H 21=some ⟨v21ax,114,[.mpc (di l21ax) (e8 (bL aB) l21ax)],false,true,true⟩) ho7 ?_ ?_ ?_
  ·refine⟨0,0,3,?_,?_,?_,?_,?_,?_,?_,?_,?_⟩
   all_goals first|rfl|(simp only[gC,seval,hr1]<;>rfl)
  ·rintro⟨s25a,l21a⟩ t H e ⟨v1a,v2a,v21a,Za⟩ c hh
   simp only[HH]at hh
   try simp only[gC,seval,Za]
   apply sp ak hh<;>intro _ hh
   ·obtain⟨x9,hx9,hh⟩:=ah hh
    have ax9:=bs cm hx9
    simp only[bN]at ax9
    have i10:=Bi l21a p0.bd x9.aF.az x9.aF.bg x9.aF.ba x9.cK x9.aC
    try simp only[bN]at i10
    obtain⟨r11,hr11,hh⟩:=ah hh
    cases hh
    try simp only[gC,seval,Za,ax9,i10,hr11]
    apply gV
    refine⟨v1a,v2a,v21a,?_,?_,?_,?_,?_,?_,?_,?_,?_⟩
    all_goals first|rfl|(simp only[gC,seval,Za]<;>rfl)
   ·cases hh
    try simp only[gC,seval]
    apply jo
    refine⟨rfl,⟨v1a,v2a,v21a,?_,?_,?_,?_,?_,?_⟩⟩
    all_goals first|rfl|(simp only[gC,seval,Za]<;>rfl)
  ·rintro x t H e hx
   obtain⟨l21ax,rfl⟩:∃z,z=o7:=⟨_,rfl⟩
   dsimp only at hx hh
   obtain⟨rfl,⟨v1ax,v2ax,v21ax,Zax⟩⟩:=hx
   try simp only[gC,seval,Zax]
   apply sp ak hh<;>intro _ hh
   ·cases hh
    try simp only[gC,seval,Zax]
   ·have bp13:bump (4*(e+1)+2) (e+1)=some (4*(e+1)+3):=WC rfl
    try simp only[gC,seval,Zax,bp13]
    rw[Ff]
    refine⟨l21ax,(p0.bd.length:Int),v21ax,e+1,v2ax,(4*(e+1)+3),?_,?_,?_,?_,?_,?_,by omega,hh⟩
    all_goals first|rfl|(simp only[gC,seval,Zax]<;>rfl)
theorem VD:bP Tryz.prog 21 BH:=bP.front tok UT mixed Tryz.func21 rfl (by kernel_rfl) ⟨by kernel_rfl,by kernel_rfl⟩ (fun _=>ahf (by kernel_rfl)) (ahf (by kernel_rfl)) (fun x r h=>XY x r h) (fun r=>Yc r)
def pn:=fc (kp (bL dw) (eQ (bL dw))) (fun x:aj×aj=>kn x.1 x.2) (fun r:Bool =>.clean (.bool r))
theorem vR (p0_0:Int) (p0_1:(List Int)) (p1_0:Int) (p1_1:(List Int)):pn none [.agg [.int .i64 p0_0,.sl false false p0_1.length (ab (eI .i64) p0_1)],.agg [.int .i64 p1_0,.sl false false p1_1.length (ab (eI .i64) p1_1)]]=(kn (aj.mk p0_0 p0_1) (aj.mk p1_0 p1_1)).map fun r:Bool=>(.clean (.bool r),none):=aJ _ _ _ ((aj.mk p0_0 p0_1),(aj.mk p1_0 p1_1))
theorem Fy (p0:aj) (p1:aj) (r:Bool) (hh:kn p0 p1=some r):aW .clean tab aY FU Tryz.f89 none [.agg [.int .i64 p0.ae,.sl false false p0.aa.length (ab (eI .i64) p0.aa)],.agg [.int .i64 p1.ae,.sl false false p1.aa.length (ab (eI .i64) p1.aa)]]=some (.clean (.bool r),none):=by
 apply aA rfl Tryz.ntmps89 Tryz.results89
 unfold kn at hh
 try simp only[w,seval]
 obtain⟨o1,ho1,hh⟩:=ah hh
 refine bq 0 (fun s t H e=>match s with|s19j1=>∃v2j1:Nat,∃v3j1:Nat,t 2=.ptr 2 v2j1 0∧t 3=.ptr 3 v3j1 0∧t 19=.bool s19j1∧H 2=some ⟨v2j1,40,[.int .i64 p0.ae,.sl false false p0.aa.length (ab (eI .i64) p0.aa)],false,false,false⟩∧H 3=some ⟨v3j1,40,[.int .i64 p1.ae,.sl false false p1.aa.length (ab (eI .i64) p1.aa)],false,false,false⟩) (fun s=>s=o1) ?_ ?_
 ·rintro s19j1 t H e ⟨v2j1,v3j1,Zj1⟩ rfl
  try dsimp only at hh
  try simp only[w,seval,Zj1]
  apply sp ak hh<;>intro _ hh
  ·cases hh
   try simp only[w,seval]
  ·try simp only[w,seval]
   obtain⟨o7,ho7,hh⟩:=ah hh
   refine ay (fun s t H e=>match s with|s5b=>∃v2b:Nat,∃v3b:Nat,t 2=.ptr 2 v2b 0∧t 3=.ptr 3 v3b 0∧t 5=.int .i64 s5b∧H 2=some ⟨v2b,40,[.int .i64 p0.ae,.sl false false p0.aa.length (ab (eI .i64) p0.aa)],false,false,false⟩∧H 3=some ⟨v3b,40,[.int .i64 p1.ae,.sl false false p1.aa.length (ab (eI .i64) p1.aa)],false,false,false⟩) (fun o x t H e=>match o with|(.inl _)=>x=.exit 0|(.inr r)=>x=.ret∧eZ .clean tab none [.tmp 4] ⟨t,EH H,e⟩=some (.clean (.bool r),none)) ho7 ?_ ?_ ?_
   ·refine⟨v2j1,v3j1,?_,?_,?_,?_,?_⟩
    all_goals first|rfl|(simp only[w,seval,Zj1]<;>rfl)
   ·rintro s5b t H e ⟨v2b,v3b,Zb⟩ c hh
    simp only[tz]at hh
    try simp only[w,seval,Zb]
    apply sp ak hh<;>intro _ hh
    ·obtain⟨x9,hx9,hh⟩:=ah hh
     have ax9:=bs (eI .i64) hx9
     simp only[bN]at ax9
     obtain⟨x10,hx10,hh⟩:=ah hh
     have ax10:=bs (eI .i64) hx10
     simp only[bN]at ax10
     try simp only[w,seval,Zb,ax9,ax10]
     refine bB (by kernel_rfl) ?_
     try simp only[w,seval,Zb,ax9,ax10]
     apply sp ak hh<;>intro _ hh
     ·cases hh
      try simp only[w,seval]
      refine rT ⟨rfl,?_⟩
      try simp only[w,seval]
     ·cases hh
      try simp only[w,seval,Zb]
      apply gV
      refine⟨v2b,v3b,?_,?_,?_,?_,?_⟩
      all_goals first|rfl|(simp only[w,seval,Zb]<;>rfl)
    ·cases hh
     try simp only[w,seval]
     apply jo
     exact rfl
   ·rintro x t H e hx
    rcases o7 with _|rb
    ·dsimp only at hx hh
     subst hx
     cases hh
     try simp only[w,seval]
    ·dsimp only at hx hh
     obtain⟨rfl,hE⟩:=hx
     cases hh
     try simp only[a7,bh,cr,cn]
     exact hE
 ·clear hh
  have hh:=ho1
  try simp only[w,seval]
  apply sp aO hh<;>intro _ hh
  ·cases hh
   try simp only[w,seval]
   rw[an]
   refine⟨_,rfl,?_⟩
   refine⟨0,0,?_,?_,?_,?_,?_⟩
   all_goals first|rfl|(simp only[w,seval]<;>rfl)
  ·cases hh
   try simp only[w,seval]
   rw[an]
   refine⟨_,rfl,?_⟩
   refine⟨0,0,?_,?_,?_,?_,?_⟩
   all_goals first|rfl|(simp only[w,seval]<;>rfl)
theorem D9:bP Tryz.prog 89 pn:=bP.of (mode := .clean) tok bA.none mixed Tryz.func89 (by kernel_rfl) ⟨by kernel_rfl,by kernel_rfl⟩ (fun _=>ahf (by kernel_rfl)) (fun x r h=>Fy x.1 x.2 r h)
def qp:=fc (kp (bL aB) (eQ (bL aB))) (fun x:ao×ao=>p5 x.1 x.2) (fun r:Bool =>.clean (.bool r))
theorem rB (p0_0:Int) (p0_1:(List Int)) (p0_2:Int) (p0_3:(List Int)) (p1_0:Int) (p1_1:(List Int)) (p1_2:Int) (p1_3:(List Int)):qp none [.agg [.int .i64 p0_0,.sl false false p0_1.length (ab (eI .i64) p0_1),.int .i64 p0_2,.sl false false p0_3.length (ab (eI .i64) p0_3)],.agg [.int .i64 p1_0,.sl false false p1_1.length (ab (eI .i64) p1_1),.int .i64 p1_2,.sl false false p1_3.length (ab (eI .i64) p1_3)]]=(p5 (ao.mk (aj.mk p0_0 p0_1) (aj.mk p0_2 p0_3)) (ao.mk (aj.mk p1_0 p1_1) (aj.mk p1_2 p1_3))).map fun r:Bool=>(.clean (.bool r),none):=aJ _ _ _ ((ao.mk (aj.mk p0_0 p0_1) (aj.mk p0_2 p0_3)),(ao.mk (aj.mk p1_0 p1_1) (aj.mk p1_2 p1_3)))
def q8:Env:=(Am.ext aY 89 false pn)
theorem MC:bA Tryz.prog q8:=(bA.none.add D9 false)
theorem wO:type_of% (ai @w<|ai @vR<|@q8.eq_1):=⟨@w,@vR,@q8.eq_1⟩
theorem QO (p0:ao) (p1:ao) (r:Bool) (hh:p5 p0 p1=some r):aW .clean tab q8 FU Tryz.f26 none [.agg [.int .i64 p0.aZ.ae,.sl false false p0.aZ.aa.length (ab (eI .i64) p0.aZ.aa),.int .i64 p0.aX.ae,.sl false false p0.aX.aa.length (ab (eI .i64) p0.aX.aa)],.agg [.int .i64 p1.aZ.ae,.sl false false p1.aZ.aa.length (ab (eI .i64) p1.aZ.aa),.int .i64 p1.aX.ae,.sl false false p1.aX.aa.length (ab (eI .i64) p1.aX.aa)]]=some (.clean (.bool r),none):=by
 apply aA rfl Tryz.ntmps26 Tryz.results26
 unfold p5 at hh
 obtain⟨r1,hr1,hh⟩:=ah hh
 try simp only[wO,seval,hr1]
 apply sp cP hh<;>intro _ hh
 ·obtain⟨r3,hr3,hh⟩:=ah hh
  cases hh
  try simp only[wO,seval,hr3]
 ·cases hh
  try simp only[wO,seval]
theorem Ax:bP Tryz.prog 26 qp:=bP.of (mode := .clean) tok MC mixed Tryz.func26 (by kernel_rfl) ⟨by kernel_rfl,by kernel_rfl⟩ (fun _=>ahf (by kernel_rfl)) (fun x r h=>QO x.1 x.2 r h)
def wg:=fc (kp (bL pJ) (eQ (bL pJ))) (fun x:cz×cz=>tA x.1 x.2) (fun r:Bool =>.clean (.bool r))
theorem wH (p0_0:Int) (p0_1:(List bI)) (p1_0:Int) (p1_1:(List bI)):wg none [.agg [.int .i64 p0_0,.sl false false p0_1.length (ab aR p0_1)],.agg [.int .i64 p1_0,.sl false false p1_1.length (ab aR p1_1)]]=(tA (cz.mk p0_0 p0_1) (cz.mk p1_0 p1_1)).map fun r:Bool=>(.clean (.bool r),none):=aJ _ _ _ ((cz.mk p0_0 p0_1),(cz.mk p1_0 p1_1))
def q9:Env:=(Am.ext aY 26 false qp)
theorem MD:bA Tryz.prog q9:=(bA.none.add Ax false)
theorem bH:type_of% (ai @w<|ai @rB<|@q9.eq_1):=⟨@w,@rB,@q9.eq_1⟩
theorem QP (p0:cz) (p1:cz) (r:Bool) (hh:tA p0 p1=some r):aW .clean tab q9 FU Tryz.f23 none [.agg [.int .i64 p0.aC,.sl false false p0.aw.length (ab aR p0.aw)],.agg [.int .i64 p1.aC,.sl false false p1.aw.length (ab aR p1.aw)]]=some (.clean (.bool r),none):=by
 apply aA rfl Tryz.ntmps23 Tryz.results23
 unfold tA at hh
 try simp only[bH,seval]
 obtain⟨o1,ho1,hh⟩:=ah hh
 refine bq 0 (fun s t H e=>match s with|s19j1=>∃v2j1:Nat,∃v3j1:Nat,t 2=.ptr 2 v2j1 0∧t 3=.ptr 3 v3j1 0∧t 19=.bool s19j1∧H 2=some ⟨v2j1,28,[.int .i64 p0.aC,.sl false false p0.aw.length (ab aR p0.aw)],false,false,false⟩∧H 3=some ⟨v3j1,28,[.int .i64 p1.aC,.sl false false p1.aw.length (ab aR p1.aw)],false,false,false⟩) (fun s=>s=o1) ?_ ?_
 ·rintro s19j1 t H e ⟨v2j1,v3j1,Zj1⟩ rfl
  try dsimp only at hh
  try simp only[bH,seval,Zj1]
  apply sp ak hh<;>intro _ hh
  ·cases hh
   try simp only[bH,seval]
  ·try simp only[bH,seval]
   obtain⟨o10,ho10,hh⟩:=ah hh
   refine ay (fun s t H e=>match s with|s5b=>∃v2b:Nat,∃v3b:Nat,t 2=.ptr 2 v2b 0∧t 3=.ptr 3 v3b 0∧t 5=.int .i64 s5b∧H 2=some ⟨v2b,28,[.int .i64 p0.aC,.sl false false p0.aw.length (ab aR p0.aw)],false,false,false⟩∧H 3=some ⟨v3b,28,[.int .i64 p1.aC,.sl false false p1.aw.length (ab aR p1.aw)],false,false,false⟩) (fun o x t H e=>match o with|(.inl _)=>x=.exit 0|(.inr r)=>x=.ret∧eZ .clean tab none [.tmp 4] ⟨t,EH H,e⟩=some (.clean (.bool r),none)) ho10 ?_ ?_ ?_
   ·refine⟨v2j1,v3j1,?_,?_,?_,?_,?_⟩
    all_goals first|rfl|(simp only[bH,seval,Zj1]<;>rfl)
   ·rintro s5b t H e ⟨v2b,v3b,Zb⟩ c hh
    simp only[AL]at hh
    try simp only[bH,seval,Zb]
    apply sp ak hh<;>intro _ hh
    ·obtain⟨x12,hx12,hh⟩:=ah hh
     have ax12:=bs aR hx12
     simp only[bN]at ax12
     obtain⟨x13,hx13,hh⟩:=ah hh
     have ax13:=bs aR hx13
     simp only[bN]at ax13
     try simp only[bH,seval,Zb,ax12,ax13]
     apply sp oo hh<;>intro _ hh
     ·try simp only[bH,seval]
      refine bB (by kernel_rfl) ?_
      cases hh
      try simp only[bH,seval,Zb,ax12,ax13]
      refine rT ⟨rfl,?_⟩
      try simp only[bH,seval]
     ·have ax12:=bs aR hx12
      simp only[bN]at ax12
      have ax13:=bs aR hx13
      simp only[bN]at ax13
      try simp only[bH,seval,Zb,ax12,ax13]
      apply sp oo hh<;>intro _ hh
      ·try simp only[bH,seval]
       refine bB (by kernel_rfl) ?_
       cases hh
       try simp only[bH,seval,Zb,ax12,ax13,ax12,ax13]
       refine rT ⟨rfl,?_⟩
       try simp only[bH,seval]
      ·have ax12:=bs aR hx12
       simp only[bN]at ax12
       have ax13:=bs aR hx13
       simp only[bN]at ax13
       obtain⟨r16,hr16,hh⟩:=ah hh
       try simp only[bH,seval,Zb,ax12,ax13,hr16]
       refine bB (by kernel_rfl) ?_
       try simp only[bH,seval,Zb,ax12,ax13,ax12,ax13,ax12,ax13,hr16]
       apply sp ak hh<;>intro _ hh
       ·cases hh
        try simp only[bH,seval]
        refine rT ⟨rfl,?_⟩
        try simp only[bH,seval]
       ·cases hh
        try simp only[bH,seval,Zb]
        apply gV
        refine⟨v2b,v3b,?_,?_,?_,?_,?_⟩
        all_goals first|rfl|(simp only[bH,seval,Zb]<;>rfl)
    ·cases hh
     try simp only[bH,seval]
     apply jo
     exact rfl
   ·rintro x t H e hx
    rcases o10 with _|rb
    ·dsimp only at hx hh
     subst hx
     cases hh
     try simp only[bH,seval]
    ·dsimp only at hx hh
     obtain⟨rfl,hE⟩:=hx
     cases hh
     try simp only[a7,bh,cr,cn]
     exact hE
 ·clear hh
  have hh:=ho1
  try simp only[bH,seval]
  apply sp aO hh<;>intro _ hh
  ·cases hh
   try simp only[bH,seval]
   rw[an]
   refine⟨_,rfl,?_⟩
   refine⟨0,0,?_,?_,?_,?_,?_⟩
   all_goals first|rfl|(simp only[bH,seval]<;>rfl)
  ·cases hh
   try simp only[bH,seval]
   rw[an]
   refine⟨_,rfl,?_⟩
   refine⟨0,0,?_,?_,?_,?_,?_⟩
   all_goals first|rfl|(simp only[bH,seval]<;>rfl)
theorem Oo:bP Tryz.prog 23 wg:=bP.of (mode := .clean) tok MD mixed Tryz.func23 (by kernel_rfl) ⟨by kernel_rfl,by kernel_rfl⟩ (fun _=>ahf (by kernel_rfl)) (fun x r h=>QP x.1 x.2 r h)
def v7:=fc (kp (bL aB) (eQ (bL aB))) (fun x:ao×ao=>nR x.1 x.2) (fun r:ao×Int =>.clean (.tup [.agg [.int .i64 r.1.aZ.ae,.sl false false r.1.aZ.aa.length (ab (eI .i64) r.1.aZ.aa),.int .i64 r.1.aX.ae,.sl false false r.1.aX.aa.length (ab (eI .i64) r.1.aX.aa)],.int .i64 r.2]))
theorem Ej (p0_0:Int) (p0_1:(List Int)) (p0_2:Int) (p0_3:(List Int)) (p1_0:Int) (p1_1:(List Int)) (p1_2:Int) (p1_3:(List Int)):v7 none [.agg [.int .i64 p0_0,.sl false false p0_1.length (ab (eI .i64) p0_1),.int .i64 p0_2,.sl false false p0_3.length (ab (eI .i64) p0_3)],.agg [.int .i64 p1_0,.sl false false p1_1.length (ab (eI .i64) p1_1),.int .i64 p1_2,.sl false false p1_3.length (ab (eI .i64) p1_3)]]=(nR (ao.mk (aj.mk p0_0 p0_1) (aj.mk p0_2 p0_3)) (ao.mk (aj.mk p1_0 p1_1) (aj.mk p1_2 p1_3))).map fun r:ao×Int=>(.clean (.tup [.agg [.int .i64 r.1.aZ.ae,.sl false false r.1.aZ.aa.length (ab (eI .i64) r.1.aZ.aa),.int .i64 r.1.aX.ae,.sl false false r.1.aX.aa.length (ab (eI .i64) r.1.aX.aa)],.int .i64 r.2]),none):=aJ _ _ _ ((ao.mk (aj.mk p0_0 p0_1) (aj.mk p0_2 p0_3)),(ao.mk (aj.mk p1_0 p1_1) (aj.mk p1_2 p1_3)))
def qP:Env:=(Am.ext (Am.ext (Am.ext aY 36 false qf) 83 false fj) 90 false tK)
theorem Ms:bA Tryz.prog qP:=(((bA.none.add Ar false).add gh false).add DU false)
theorem gQ:type_of% (ai @w<|ai @ru<|ai @cO<|ai @uP<|@qP.eq_1):=⟨@w,@ru,@cO,@uP,@qP.eq_1⟩
theorem QC (p0:ao) (p1:ao) (r:ao×Int) (hh:nR p0 p1=some r):aW .clean tab qP FU Tryz.f35 none [.agg [.int .i64 p0.aZ.ae,.sl false false p0.aZ.aa.length (ab (eI .i64) p0.aZ.aa),.int .i64 p0.aX.ae,.sl false false p0.aX.aa.length (ab (eI .i64) p0.aX.aa)],.agg [.int .i64 p1.aZ.ae,.sl false false p1.aZ.aa.length (ab (eI .i64) p1.aZ.aa),.int .i64 p1.aX.ae,.sl false false p1.aX.aa.length (ab (eI .i64) p1.aX.aa)]]=some (.clean (.tup [.agg [.int .i64 r.1.aZ.ae,.sl false false r.1.aZ.aa.length (ab (eI .i64) r.1.aZ.aa),.int .i64 r.1.aX.ae,.sl false false r.1.aX.aa.length (ab (eI .i64) r.1.aX.aa)],.int .i64 r.2]),none):=by
 apply aA rfl Tryz.ntmps35 Tryz.results35
 unfold nR at hh
 obtain⟨r1,hr1,hh⟩:=ah hh
 try simp only[gQ,seval,hr1]
 obtain⟨o2,ho2,hh⟩:=ah hh
 refine bq 0 (fun s t H e=>match s with|s13j1=>∃v2j1:Nat,∃v3j1:Nat,∃v4j1:Nat,t 2=.ptr 2 v2j1 0∧t 3=.ptr 3 v3j1 0∧t 4=.ptr 4 v4j1 0∧t 13=.bool s13j1∧H 2=some ⟨v2j1,42,[.int .i64 p0.aZ.ae,.sl false false p0.aZ.aa.length (ab (eI .i64) p0.aZ.aa),.int .i64 p0.aX.ae,.sl false false p0.aX.aa.length (ab (eI .i64) p0.aX.aa)],false,false,false⟩∧H 3=some ⟨v3j1,42,[.int .i64 p1.aZ.ae,.sl false false p1.aZ.aa.length (ab (eI .i64) p1.aZ.aa),.int .i64 p1.aX.ae,.sl false false p1.aX.aa.length (ab (eI .i64) p1.aX.aa)],false,false,false⟩∧H 4=some ⟨v4j1,42,[.int .i64 0,.sl true true 0 [],.int .i64 0,.sl true true 0 []],false,false,false⟩) (fun s=>s=o2) ?_ ?_
 ·rintro s13j1 t H e ⟨v2j1,v3j1,v4j1,Zj1⟩ rfl
  try dsimp only at hh
  try simp only[gQ,seval,Zj1]
  apply sp ak hh<;>intro _ hh
  ·cases hh
   try simp only[gQ,seval,Zj1]
  ·obtain⟨r4,hr4,hh⟩:=ah hh
   obtain⟨r5,hr5,hh⟩:=ah hh
   try simp only[gQ,seval,Zj1,hr4,hr5]
   refine bB (by kernel_rfl) ?_
   cases hh
   try simp only[seval]
 ·clear hh
  have hh:=ho2
  try simp only[gQ,seval]
  apply sp aO hh<;>intro _ hh
  ·cases hh
   try simp only[gQ,seval]
   rw[an]
   refine⟨_,rfl,?_⟩
   refine⟨0,0,0,?_,?_,?_,?_,?_,?_,?_⟩
   all_goals first|rfl|(simp only[gQ,seval,hr1]<;>rfl)
  ·obtain⟨r7,hr7,hh⟩:=ah hh
   cases hh
   try simp only[gQ,seval,hr7]
   rw[an]
   refine⟨_,rfl,?_⟩
   refine⟨0,0,0,?_,?_,?_,?_,?_,?_,?_⟩
   all_goals first|rfl|(simp only[gQ,seval,hr1,hr7]<;>rfl)
theorem Oh:bP Tryz.prog 35 v7:=bP.of (mode := .clean) tok Ms mixed Tryz.func35 (by kernel_rfl) ⟨by kernel_rfl,by kernel_rfl⟩ (fun _=>ahf (by kernel_rfl)) (fun x r h=>QC x.1 x.2 r h)
def lR:=fc (eQ (bL pJ)) (fun x:cz=>iU x) (fun r:(List ao) =>.clean (.sl false false r.length (ab aB r)))
theorem kj (p0_0:Int) (p0_1:(List bI)):lR none [.agg [.int .i64 p0_0,.sl false false p0_1.length (ab aR p0_1)]]=(iU (cz.mk p0_0 p0_1)).map fun r:(List ao)=>(.clean (.sl false false r.length (ab aB r)),none):=aJ _ _ _ ((cz.mk p0_0 p0_1))
def oN:Env:=(Am.ext (Am.ext aY 35 false v7) 52 false qg)
theorem JH:bA Tryz.prog oN:=((bA.none.add Oh false).add As false)
theorem cI:type_of% (ai @w<|ai @Ej<|ai @rv<|@oN.eq_1):=⟨@w,@Ej,@rv,@oN.eq_1⟩
theorem NF (p0:cz) (r:(List ao)) (hh:iU p0=some r):aW .clean tab oN FU Tryz.f85 none [.agg [.int .i64 p0.aC,.sl false false p0.aw.length (ab aR p0.aw)]]=some (.clean (.sl false false r.length (ab aB r)),none):=by
 apply aA rfl Tryz.ntmps85 Tryz.results85
 unfold iU at hh
 obtain⟨x1,hx1,hh⟩:=ah hh
 obtain⟨q2a,q2b,q2c,q2d,q2e⟩:=mk_one aB hx1
 simp only[bN]at q2d
 try simp only[cI,seval,q2a,q2b,q2c,q2d,q2e]
 obtain⟨o7,ho7,hh⟩:=ah hh
 refine ay (fun s t H e=>match s with|(s12a,l3a)=>∃v1a:Nat,∃v3a:Nat,t 1=.ptr 1 v1a 0∧t 3=.buf 3 v3a 4 0 (l3a).length∧t 11=.int .i64 ((x1).length:Int)∧t 12=.int .i64 s12a∧H 1=some ⟨v1a,28,[.int .i64 p0.aC,.sl false false p0.aw.length (ab aR p0.aw)],false,false,false⟩∧H 3=some ⟨v3a,42,ab aB l3a,false,true,false⟩) (fun o x t H e=>match o with|l3ax=>x=.exit 0∧∃v1ax:Nat,∃v3ax:Nat,t 1=.ptr 1 v1ax 0∧t 3=.buf 3 v3ax 4 0 (l3ax).length∧H 1=some ⟨v1ax,28,[.int .i64 p0.aC,.sl false false p0.aw.length (ab aR p0.aw)],false,false,false⟩∧H 3=some ⟨v3ax,42,ab aB l3ax,false,true,false⟩) ho7 ?_ ?_ ?_
 ·refine⟨0,1,?_,?_,?_,?_,?_,?_⟩
  all_goals first|rfl|(simp only[cI,seval,q2a,q2b,q2c,q2d,q2e]<;>rfl)
 ·rintro⟨s12a,l3a⟩ t H e ⟨v1a,v3a,Za⟩ c hh
  simp only[kO]at hh
  try simp only[cI,seval,Za]
  apply sp ak hh<;>intro _ hh
  ·obtain⟨r9,hr9,hh⟩:=ah hh
   obtain⟨x10,hx10,hh⟩:=ah hh
   have ax10:=bs aB hx10
   simp only[bN]at ax10
   have p11:=eV aB (x':=r9) (fo:=0) (cs:=[.int .i64 r9.aZ.ae,.sl false false r9.aZ.aa.length (ab (eI .i64) r9.aZ.aa),.int .i64 r9.aX.ae,.sl false false r9.aX.aa.length (ab (eI .i64) r9.aX.aa)]) hx10 rfl (ahf rfl)
   simp only[bN,Nat.add_zero]at p11
   have up11:=p11
   simp only[putCells,List.length_cons,List.length_nil,agj,Nat.reduceAdd]at up11
   cases hh
   try simp only[cI,seval,Za,hr9,ax10,up11]
   apply gV
   refine⟨v1a,v3a,?_,?_,?_,?_,?_,?_⟩
   all_goals first|rfl|(simp only[cI,seval,Za]<;>rfl)
  ·cases hh
   try simp only[cI,seval]
   apply jo
   refine⟨rfl,⟨v1a,v3a,?_,?_,?_,?_⟩⟩
   all_goals first|rfl|(simp only[cI,seval,Za]<;>rfl)
 ·rintro x t H e hx
  obtain⟨l3ax,rfl⟩:∃z,z=o7:=⟨_,rfl⟩
  dsimp only at hx hh
  obtain⟨rfl,⟨v1ax,v3ax,Zax⟩⟩:=hx
  try simp only[cI,seval,Zax]
  obtain⟨o17,ho17,hh⟩:=ah hh
  refine ay (fun s t H e=>match s with|(s23b,l3b)=>∃v3b:Nat,t 3=.buf 3 v3b 4 0 (l3b).length∧t 21=.sl false false p0.aw.length (ab aR p0.aw)∧t 22=.int .i64 (p0.aw.length:Int)∧t 23=.int .i64 s23b∧H 3=some ⟨v3b,42,ab aB l3b,false,true,false⟩) (fun o x t H e=>match o with|l3bx=>x=.exit 2∧∃v3bx:Nat,t 3=.buf 3 v3bx 4 0 (l3bx).length∧H 3=some ⟨v3bx,42,ab aB l3bx,false,true,false⟩) ho17 ?_ ?_ ?_
  ·refine⟨v3ax,?_,?_,?_,?_,?_⟩
   all_goals first|rfl|(simp only[cI,seval,Zax]<;>rfl)
  ·rintro⟨s23b,l3b⟩ t H e ⟨v3b,Zb⟩ c hh
   simp only[kP]at hh
   try simp only[cI,seval,Zb]
   apply sp ak hh<;>intro _ hh
   ·obtain⟨x19,hx19,hh⟩:=ah hh
    have ax19:=bs aR hx19
    simp only[bN]at ax19
    obtain⟨x20,hx20,hh⟩:=ah hh
    have ax20:=bs aB hx20
    simp only[bN]at ax20
    obtain⟨r21,hr21,hh⟩:=ah hh
    have ax20:=bs aB hx20
    simp only[bN]at ax20
    have p22:=eV aB (x':=r21.1) (fo:=0) (cs:=[.int .i64 r21.1.aZ.ae,.sl false false r21.1.aZ.aa.length (ab (eI .i64) r21.1.aZ.aa),.int .i64 r21.1.aX.ae,.sl false false r21.1.aX.aa.length (ab (eI .i64) r21.1.aX.aa)]) hx20 rfl (ahf rfl)
    simp only[bN,Nat.add_zero]at p22
    have up22:=p22
    simp only[putCells,List.length_cons,List.length_nil,agj,Nat.reduceAdd]at up22
    try simp only[cI,seval,Zb,ax19,hr21,ax20,up22]
    refine bB (by kernel_rfl) ?_
    cases hh
    try simp only[cI,seval,q2a,q2b,q2c,q2d,q2e,Zb,ax19,ax20,hr21,ax20,p22,up22]
    apply gV
    refine⟨v3b,?_,?_,?_,?_,?_⟩
    all_goals first|rfl|(simp only[cI,seval,Zb]<;>rfl)
   ·cases hh
    try simp only[cI,seval]
    apply jo
    refine⟨rfl,⟨v3b,?_,?_⟩⟩
    all_goals first|rfl|(simp only[cI,seval,Zb]<;>rfl)
  ·rintro x t H e hx
   obtain⟨l3bx,rfl⟩:∃z,z=o17:=⟨_,rfl⟩
   dsimp only at hx hh
   obtain⟨rfl,⟨v3bx,Zbx⟩⟩:=hx
   cases hh
   try simp only[cI,seval,Zbx]
theorem rm:bP Tryz.prog 85 lR:=bP.of (mode := .clean) tok JH mixed Tryz.func85 (by kernel_rfl) ⟨by kernel_rfl,by kernel_rfl⟩ (fun _=>ahf (by kernel_rfl)) (fun x r h=>NF x r h)
def pf:=fc (eQ (bL aB)) (fun x:ao=>ke x) (fun r:Bool =>.clean (.bool r))
theorem vN (p0_0:Int) (p0_1:(List Int)) (p0_2:Int) (p0_3:(List Int)):pf none [.agg [.int .i64 p0_0,.sl false false p0_1.length (ab (eI .i64) p0_1),.int .i64 p0_2,.sl false false p0_3.length (ab (eI .i64) p0_3)]]=(ke (ao.mk (aj.mk p0_0 p0_1) (aj.mk p0_2 p0_3))).map fun r:Bool=>(.clean (.bool r),none):=aJ _ _ _ ((ao.mk (aj.mk p0_0 p0_1) (aj.mk p0_2 p0_3)))
def lK:Env:=(Am.ext aY 39 false gE)
theorem C7:bA Tryz.prog lK:=(bA.none.add iV false)
theorem FQ:type_of% (ai @w<|ai @ej<|@lK.eq_1):=⟨@w,@ej,@lK.eq_1⟩
theorem Fu (p0:ao) (r:Bool) (hh:ke p0=some r):aW .clean tab lK FU Tryz.f86 none [.agg [.int .i64 p0.aZ.ae,.sl false false p0.aZ.aa.length (ab (eI .i64) p0.aZ.aa),.int .i64 p0.aX.ae,.sl false false p0.aX.aa.length (ab (eI .i64) p0.aX.aa)]]=some (.clean (.bool r),none):=by
 apply aA rfl Tryz.ntmps86 Tryz.results86
 unfold ke at hh
 obtain⟨r1,hr1,hh⟩:=ah hh
 cases hh
 try simp only[FQ,seval,hr1]
theorem D0:bP Tryz.prog 86 pf:=bP.of (mode := .clean) tok C7 mixed Tryz.func86 (by kernel_rfl) ⟨by kernel_rfl,by kernel_rfl⟩ (fun _=>ahf (by kernel_rfl)) (fun x r h=>Fu x r h)
def ez:=fc (kp (po aB) (eQ (aFn 86))) (fun x:(List ao)×Unit=>b4 x.1) (fun r:Int =>.clean (.int .i64 r))
theorem gA (p0:(List ao)):ez none [.sl false false p0.length (ab aB p0),.fn 86]=(b4 p0).map fun r:Int=>(.clean (.int .i64 r),none):=aJ _ _ _ (p0,())
def dh:Env:=(Am.ext aY 86 false pf)
theorem kX:bA Tryz.prog dh:=(bA.none.add D0 false)
theorem a8:type_of% (ai @w<|ai @vN<|@dh.eq_1):=⟨@w,@vN,@dh.eq_1⟩
theorem lu (p0:(List ao)) (r:Int) (hh:b4 p0=some r):aW .clean tab dh FU Tryz.f143 none [.sl false false p0.length (ab aB p0),.fn 86]=some (.clean (.int .i64 r),none):=by
 apply aA rfl Tryz.ntmps143 Tryz.results143
 unfold b4 at hh
 try simp only[a8,seval]
 obtain⟨o5,ho5,hh⟩:=ah hh
 refine ay (fun s t H e=>match s with|s8a=>t 0=.sl false false p0.length (ab aB p0)∧t 1=.fn 86∧t 7=.int .i64 (p0.length:Int)∧t 8=.int .i64 s8a) (fun o x t H e=>match o with|(.inl _)=>x=.exit 0|(.inr r)=>x=.ret∧eZ .clean tab none [.tmp 4] ⟨t,EH H,e⟩=some (.clean (.int .i64 r),none)) ho5 ?_ ?_ ?_
 ·refine⟨?_,?_,?_,?_⟩
  all_goals first|rfl|(simp only[a8,seval]<;>rfl)
 ·rintro s8a t H e Za c hh
  simp only[cX]at hh
  try simp only[a8,seval,Za]
  apply sp ak hh<;>intro _ hh
  ·obtain⟨x7,hx7,hh⟩:=ah hh
   have ax7:=bs aB hx7
   simp only[bN]at ax7
   obtain⟨r8,hr8,hh⟩:=ah hh
   try simp only[a8,seval,Za,ax7,hr8]
   apply sp ak hh<;>intro _ hh
   ·cases hh
    try simp only[a8,seval]
    refine rT ⟨rfl,?_⟩
    try simp only[a8,seval]
   ·cases hh
    try simp only[a8,seval,Za]
    apply gV
    refine⟨?_,?_,?_,?_⟩
    all_goals first|rfl|(simp only[a8,seval,Za]<;>rfl)
  ·cases hh
   try simp only[a8,seval]
   apply jo
   exact rfl
 ·rintro x t H e hx
  rcases o5 with _|ra
  ·dsimp only at hx hh
   subst hx
   cases hh
   try simp only[a8,seval]
  ·dsimp only at hx hh
   obtain⟨rfl,hE⟩:=hx
   cases hh
   try simp only[a7,bh,cr,cn]
   exact hE
theorem kY:bP Tryz.prog 143 ez:=bP.of (mode := .clean) tok kX mixed Tryz.func143 (by kernel_rfl) ⟨by kernel_rfl,by kernel_rfl⟩ (fun _=>ahf (by kernel_rfl)) (fun x r h=>lu x.1 r h)
def dR:=fc (kp (po aB) (eQ (aFn 86))) (fun x:(List ao)×Unit=>bC x.1) (fun r:Bool =>.clean (.bool r))
theorem fJ (p0:(List ao)):dR none [.sl false false p0.length (ab aB p0),.fn 86]=(bC p0).map fun r:Bool=>(.clean (.bool r),none):=aJ _ _ _ (p0,())
def cD:Env:=(Am.ext aY 143 false ez)
theorem jR:bA Tryz.prog cD:=(bA.none.add kY false)
theorem kv:type_of% (ai @w<|ai @gA<|@cD.eq_1):=⟨@w,@gA,@cD.eq_1⟩
theorem kq (p0:(List ao)) (r:Bool) (hh:bC p0=some r):aW .clean tab cD FU Tryz.f84 none [.sl false false p0.length (ab aB p0),.fn 86]=some (.clean (.bool r),none):=by
 apply aA rfl Tryz.ntmps84 Tryz.results84
 unfold bC at hh
 obtain⟨r1,hr1,hh⟩:=ah hh
 cases hh
 try simp only[kv,seval,hr1]
theorem jW:bP Tryz.prog 84 dR:=bP.of (mode := .clean) tok jR mixed Tryz.func84 (by kernel_rfl) ⟨by kernel_rfl,by kernel_rfl⟩ (fun _=>ahf (by kernel_rfl)) (fun x r h=>kq x.1 r h)
def j8:=fc (eQ (bL pJ)) (fun x:cz=>gz x) (fun r:Bool =>.clean (.bool r))
theorem gH (p0_0:Int) (p0_1:(List bI)):j8 none [.agg [.int .i64 p0_0,.sl false false p0_1.length (ab aR p0_1)]]=(gz (cz.mk p0_0 p0_1)).map fun r:Bool=>(.clean (.bool r),none):=aJ _ _ _ ((cz.mk p0_0 p0_1))
def oM:Env:=(Am.ext (Am.ext (Am.ext (Am.ext (Am.ext (Am.ext aY 39 false gE) 71 false fR) 79 false qk) 83 false fj) 84 false dR) 85 false lR)
theorem JG:bA Tryz.prog oM:=((((((bA.none.add iV false).add ia false).add FB false).add gh false).add jW false).add rm false)
theorem aL:type_of% (ai @w<|ai @ej<|ai @dI<|ai @xY<|ai @cO<|ai @fJ<|ai @kj<|@oM.eq_1):=⟨@w,@ej,@dI,@xY,@cO,@fJ,@kj,@oM.eq_1⟩
theorem ND (p0:cz) (r:Bool) (hh:gz p0=some r):aW .clean tab oM FU Tryz.f24 none [.agg [.int .i64 p0.aC,.sl false false p0.aw.length (ab aR p0.aw)]]=some (.clean (.bool r),none):=by
 apply aA rfl Tryz.ntmps24 Tryz.results24
 unfold gz at hh
 obtain⟨r1,hr1,hh⟩:=ah hh
 try simp only[aL,seval,hr1]
 obtain⟨o2,ho2,hh⟩:=ah hh
 refine bq 0 (fun s t H e=>match s with|s14j1=>∃v1j1:Nat,t 1=.ptr 1 v1j1 0∧t 14=.bool s14j1∧H 1=some ⟨v1j1,28,[.int .i64 p0.aC,.sl false false p0.aw.length (ab aR p0.aw)],false,false,false⟩) (fun s=>s=o2) ?_ ?_
 ·rintro s14j1 t H e ⟨v1j1,Zj1⟩ rfl
  try dsimp only at hh
  try simp only[aL,seval,Zj1]
  apply sp ak hh<;>intro _ hh
  ·cases hh
   try simp only[aL,seval]
  ·try simp only[aL,seval,Zj1]
   obtain⟨o19,ho19,hh⟩:=ah hh
   refine ay (fun s t H e=>match s with|s18b=>∃v1b:Nat,t 1=.ptr 1 v1b 0∧t 16=.sl false false p0.aw.length (ab aR p0.aw)∧t 17=.int .i64 (p0.aw.length:Int)∧t 18=.int .i64 s18b∧H 1=some ⟨v1b,28,[.int .i64 p0.aC,.sl false false p0.aw.length (ab aR p0.aw)],false,false,false⟩) (fun o x t H e=>match o with|(.inl _)=>x=.exit 0∧∃v1bx:Nat,t 1=.ptr 1 v1bx 0∧H 1=some ⟨v1bx,28,[.int .i64 p0.aC,.sl false false p0.aw.length (ab aR p0.aw)],false,false,false⟩|(.inr r)=>x=.ret∧eZ .clean tab none [.tmp 2] ⟨t,EH H,e⟩=some (.clean (.bool r),none)) ho19 ?_ ?_ ?_
   ·refine⟨v1j1,?_,?_,?_,?_,?_⟩
    all_goals first|rfl|(simp only[aL,seval,Zj1]<;>rfl)
   ·rintro s18b t H e ⟨v1b,Zb⟩ c hh
    simp only[kN]at hh
    try simp only[aL,seval,Zb]
    apply sp ak hh<;>intro _ hh
    ·obtain⟨x21,hx21,hh⟩:=ah hh
     have ax21:=bs aR hx21
     simp only[bN]at ax21
     obtain⟨r22,hr22,hh⟩:=ah hh
     try simp only[aL,seval,Zb,ax21,hr22]
     obtain⟨o23,ho23,hh⟩:=ah hh
     refine bq 0 (fun s t H e=>match s with|s50j4=>∃v1j4:Nat,∃v4j4:Nat,t 1=.ptr 1 v1j4 0∧t 3=.int .i64 s18b∧t 4=.ptr 4 v4j4 0∧t 16=.sl false false p0.aw.length (ab aR p0.aw)∧t 17=.int .i64 (p0.aw.length:Int)∧t 18=.int .i64 s18b∧t 50=.bool s50j4∧H 1=some ⟨v1j4,28,[.int .i64 p0.aC,.sl false false p0.aw.length (ab aR p0.aw)],false,false,false⟩∧H 4=some ⟨v4j4,63,[.int .i64 x21.bT,.int .i64 x21.gD,.int .i64 x21.bR.aZ.ae,.sl false false x21.bR.aZ.aa.length (ab (eI .i64) x21.bR.aZ.aa),.int .i64 x21.bR.aX.ae,.sl false false x21.bR.aX.aa.length (ab (eI .i64) x21.bR.aX.aa)],false,false,false⟩) (fun s=>s=o23) ?_ ?_
     ·rintro s50j4 t H e ⟨v1j4,v4j4,Zj4⟩ rfl
      try dsimp only at hh
      try simp only[aL,seval,Zj4]
      apply sp ak hh<;>intro _ hh
      ·cases hh
       try simp only[aL,seval]
       refine rT ⟨rfl,?_⟩
       try simp only[aL,seval]
      ·try simp only[aL,seval,Zj4]
       apply sp Ku hh<;>intro _ hh
       ·obtain⟨x26,hx26,hh⟩:=ah hh
        have ax26:=bs aR hx26
        simp only[bN]at ax26
        obtain⟨r27,hr27,hh⟩:=ah hh
        try simp only[aL,seval,Zj4,ax26,hr27]
        refine bB (by kernel_rfl) ?_
        try simp only[aL,seval,hr1,ax21,hr22,Zj4,ax26,hr27]
        apply sp ak hh<;>intro _ hh
        ·cases hh
         try simp only[aL,seval]
         refine rT ⟨rfl,?_⟩
         try simp only[aL,seval]
        ·cases hh
         try simp only[aL,seval,Zj4]
         apply gV
         refine⟨v1j4,?_,?_,?_,?_,?_⟩
         all_goals first|rfl|(simp only[aL,seval,Zj4]<;>rfl)
       ·try simp only[aL,seval,Zj4]
        refine bB (by kernel_rfl) ?_
        cases hh
        try simp only[aL,seval,hr1,ax21,hr22,Zj4]
        apply gV
        refine⟨v1j4,?_,?_,?_,?_,?_⟩
        all_goals first|rfl|(simp only[aL,seval,Zj4]<;>rfl)
     ·clear hh
      have hh:=ho23
      try simp only[aL,seval]
      apply sp aO hh<;>intro _ hh
      ·cases hh
       try simp only[aL,seval]
       rw[an]
       refine⟨_,rfl,?_⟩
       refine⟨v1b,e+1,?_,?_,?_,?_,?_,?_,?_,?_,?_⟩
       all_goals first|rfl|(simp only[aL,seval,Zb]<;>rfl)
      ·obtain⟨r30,hr30,hh⟩:=ah hh
       try simp only[aL,seval,Zb,hr30]
       apply sp aO hh<;>intro _ hh
       ·cases hh
        try simp only[aL,seval]
        rw[an]
        refine⟨_,rfl,?_⟩
        refine⟨v1b,e+1,?_,?_,?_,?_,?_,?_,?_,?_,?_⟩
        all_goals first|rfl|(simp only[aL,seval,Zb]<;>rfl)
       ·obtain⟨r32,hr32,hh⟩:=ah hh
        try simp only[aL,seval,hr32]
        apply sp aO hh<;>intro _ hh
        ·cases hh
         try simp only[aL,seval]
         rw[an]
         refine⟨_,rfl,?_⟩
         refine⟨v1b,e+1,?_,?_,?_,?_,?_,?_,?_,?_,?_⟩
         all_goals first|rfl|(simp only[aL,seval,Zb]<;>rfl)
        ·obtain⟨r34,hr34,hh⟩:=ah hh
         cases hh
         try simp only[aL,seval,hr34]
         rw[an]
         refine⟨_,rfl,?_⟩
         refine⟨v1b,e+1,?_,?_,?_,?_,?_,?_,?_,?_,?_⟩
         all_goals first|rfl|(simp only[aL,seval,Zb]<;>rfl)
    ·cases hh
     try simp only[aL,seval]
     apply jo
     refine⟨rfl,⟨v1b,?_,?_⟩⟩
     all_goals first|rfl|(simp only[aL,seval,Zb]<;>rfl)
   ·rintro x t H e hx
    rcases o19 with _|rb
    ·dsimp only at hx hh
     obtain⟨rfl,⟨v1bx,Zbx⟩⟩:=hx
     obtain⟨r35,hr35,hh⟩:=ah hh
     obtain⟨r36,hr36,hh⟩:=ah hh
     cases hh
     try simp only[aL,seval,Zbx,hr35,hr36]
    ·dsimp only at hx hh
     obtain⟨rfl,hE⟩:=hx
     cases hh
     try simp only[a7,bh,cr,cn]
     exact hE
 ·clear hh
  have hh:=ho2
  try simp only[aL,seval]
  apply sp aO hh<;>intro _ hh
  ·cases hh
   try simp only[aL,seval]
   rw[an]
   refine⟨_,rfl,?_⟩
   refine⟨0,?_,?_,?_⟩
   all_goals first|rfl|(simp only[aL,seval,hr1]<;>rfl)
  ·cases hh
   try simp only[aL,seval]
   rw[an]
   refine⟨_,rfl,?_⟩
   refine⟨0,?_,?_,?_⟩
   all_goals first|rfl|(simp only[aL,seval,hr1]<;>rfl)
theorem mX:bP Tryz.prog 24 j8:=bP.of (mode := .clean) tok JG mixed Tryz.func24 (by kernel_rfl) ⟨by kernel_rfl,by kernel_rfl⟩ (fun _=>ahf (by kernel_rfl)) (fun x r h=>ND x r h)
def lQ:=fc (eQ (bL pJ)) (fun x:cz=>gx x) (fun r:(List Int) =>.clean (.sl false false r.length (ab (eI .i64) r)))
theorem ki (p0_0:Int) (p0_1:(List bI)):lQ none [.agg [.int .i64 p0_0,.sl false false p0_1.length (ab aR p0_1)]]=(gx (cz.mk p0_0 p0_1)).map fun r:(List Int)=>(.clean (.sl false false r.length (ab (eI .i64) r)),none):=aJ _ _ _ ((cz.mk p0_0 p0_1))
def oL:Env:=(Am.vp 18 (3,1,0) (Am.ext (Am.ext (Am.ext aY 24 false j8) 39 false gE) 85 false lR))
theorem JF:bA Tryz.prog oL:=(bA.vp (((bA.none.add mX false).add iV false).add rm false) 18 (3,1,0))
theorem aM:type_of% (ai @w<|ai @gH<|ai @ej<|ai @kj<|@oL.eq_1):=⟨@w,@gH,@ej,@kj,@oL.eq_1⟩
theorem NC (p0:cz) (r:(List Int)) (hh:gx p0=some r):aW .clean tab oL FU Tryz.f30 none [.agg [.int .i64 p0.aC,.sl false false p0.aw.length (ab aR p0.aw)]]=some (.clean (.sl false false r.length (ab (eI .i64) r)),none):=by
 apply aA rfl Tryz.ntmps30 Tryz.results30
 unfold gx at hh
 obtain⟨r1,hr1,hh⟩:=ah hh
 try simp only[aM,seval,-Int.reduceToNat,hr1]
 apply sp ak hh<;>intro _ hh
 ·cases hh
  try simp only[aM,seval,-Int.reduceToNat]
 ·obtain⟨x3,hx3,hh⟩:=ah hh
  have q4n:=aas (E:=(E3 (eI .i64))) (ty':=3) (s:=1) (f:=0) (k := .i64) Kn (by rfl) rfl rfl rfl rfl rfl hx3
  obtain⟨q4a,q4b,q4c,q4d,q4e⟩:=mk_one (E3 (eI .i64)) hx3
  try simp only[aM,seval,-Int.reduceToNat,q4n,q4a]
  obtain⟨o11,ho11,hh⟩:=ah hh
  refine ay (fun s t H e=>match s with|(s22a,l18a)=>∃v1a:Nat,∃v18a:Nat,∃vn18a:Nat,t 1=.ptr 1 v1a 0∧t 3=.buf 18 v18a 1 0 (l18a).length∧t 20=.sl false false p0.aw.length (ab aR p0.aw)∧t 21=.int .i64 (p0.aw.length:Int)∧t 22=.int .i64 s22a∧H 1=some ⟨v1a,28,[.int .i64 p0.aC,.sl false false p0.aw.length (ab aR p0.aw)],false,false,false⟩∧H 18=some ⟨v18a,22,[.nr 3 1 vn18a (ab (E3 (eI .i64)) l18a)],false,true,true⟩∧vn18a<=4*e) (fun o x t H e=>match o with|l18ax=>x=.exit 0∧∃v1ax:Nat,∃v18ax:Nat,∃vn18ax:Nat,t 1=.ptr 1 v1ax 0∧t 3=.buf 18 v18ax 1 0 (l18ax).length∧H 1=some ⟨v1ax,28,[.int .i64 p0.aC,.sl false false p0.aw.length (ab aR p0.aw)],false,false,false⟩∧H 18=some ⟨v18ax,22,[.nr 3 1 vn18ax (ab (E3 (eI .i64)) l18ax)],false,true,true⟩∧vn18ax<=4*e) ho11 ?_ ?_ ?_
  ·refine⟨0,2,4*(2)+2,?_,?_,?_,?_,?_,?_,?_,?_⟩
   all_goals (first|rfl|omega|(simp only[aM,seval,-Int.reduceToNat,hr1,q4n,q4a]<;>rfl))
  ·rintro⟨s22a,l18a⟩ t H e ⟨v1a,v18a,vn18a,Za⟩ c hh
   simp only[iQ]at hh
   try simp only[aM,seval,-Int.reduceToNat,Za]
   apply sp ak hh<;>intro _ hh
   ·obtain⟨x13,hx13,hh⟩:=ah hh
    have ax13:=bs aR hx13
    simp only[bN]at ax13
    obtain⟨x14,hx14,hh⟩:=ah hh
    have ax14:=bs (E3 (eI .i64)) hx14
    simp only[bN]at ax14
    obtain⟨x15,hx15,hh⟩:=ah hh
    obtain⟨q16a,q16b,q16c,q16d⟩:=gL (eI .i64) hx15
    simp only[bN]at q16b
    have ax14:=bs (E3 (eI .i64)) hx14
    simp only[bN]at ax14
    have p17:=Yv (E3 (eI .i64)) (x':=x15) 0 .und (.nx x15.length (ab (eI .i64) x15)) hx14 rfl (ahf rfl)
    have lp17:=aaB (E3 (eI .i64)) 0 .und hx14 (ahf rfl)
    simp only[bN,Nat.add_zero]at p17 lp17
    have up17:=p17
    simp only[putCells,List.length_cons,List.length_nil,agj]at up17
    have ulp17:=lp17
    simp only[putCells,List.length_cons,List.length_nil,agj]at ulp17
    have bp17:bump vn18a (e+1+1)=some (4*(e+1+1)+1):=Br (by omega)
    try simp only[aM,seval,-Int.reduceToNat,Za,ax13,q16a,q16b,q16c,q16d,ax14,up17,ulp17,bp17]
    refine bB (by kernel_rfl) ?_
    cases hh
    try simp only[aM,seval,-Int.reduceToNat,hr1,q4n,q4a,Za,ax13,ax14,q16a,q16b,q16c,q16d,ax14,p17,up17,lp17,ulp17,bp17]
    apply gV
    refine⟨v1a,v18a,4*(e+1+1)+1,?_,?_,?_,?_,?_,?_,?_,?_⟩
    all_goals (first|rfl|omega|(simp only[aM,seval,-Int.reduceToNat,Za]<;>rfl))
   ·cases hh
    try simp only[aM,seval,-Int.reduceToNat]
    apply jo
    refine⟨rfl,⟨v1a,v18a,vn18a,?_,?_,?_,?_,?_⟩⟩
    all_goals (first|rfl|omega|(simp only[aM,seval,-Int.reduceToNat,Za]<;>rfl))
  ·rintro x t H e hx
   obtain⟨l18ax,rfl⟩:∃z,z=o11:=⟨_,rfl⟩
   dsimp only at hx hh
   obtain⟨rfl,⟨v1ax,v18ax,vn18ax,Zax⟩⟩:=hx
   obtain⟨x18,hx18,hh⟩:=ah hh
   obtain⟨q19a,q19b,q19c,q19d,q19e⟩:=mk_one (eI .i64) hx18
   simp only[bN]at q19d
   obtain⟨r20,hr20,hh⟩:=ah hh
   try simp only[aM,seval,-Int.reduceToNat,q4a,Zax,q19b,q19c,q19d,q19e,hr20]
   obtain⟨o31,ho31,hh⟩:=ah hh
   refine ay (fun s t H e=>match s with|(s46b,l6b,l7b)=>∃v6b:Nat,∃v7b:Nat,∃v18b:Nat,∃vn18b:Nat,∃O7b:Nat,∃C7b:List D,t 3=.buf 18 v18b 1 0 (l18ax).length∧t 6=.buf 6 v6b 1 0 (l6b).length∧t 7=.buf 7 v7b 1 O7b (l7b).length∧t 44=.sl false false r20.length (ab aB r20)∧t 45=.int .i64 (r20.length:Int)∧t 46=.int .i64 s46b∧H 6=some ⟨v6b,3,ab (eI .i64) l6b,false,true,false⟩∧H 7=some ⟨v7b,3,C7b,false,true,false⟩∧H 18=some ⟨v18b,22,[.nr 3 1 vn18b (ab (E3 (eI .i64)) l18ax)],false,true,true⟩∧vn18b<=4*e∧se (eI .i64) C7b O7b l7b) (fun o x t H e=>match o with|(l6bx,l7bx)=>x=.exit 2∧∃v6bx:Nat,∃v7bx:Nat,∃v18bx:Nat,∃vn18bx:Nat,∃O7bx:Nat,∃C7bx:List D,t 3=.buf 18 v18bx 1 0 (l18ax).length∧t 6=.buf 6 v6bx 1 0 (l6bx).length∧t 7=.buf 7 v7bx 1 O7bx (l7bx).length∧H 6=some ⟨v6bx,3,ab (eI .i64) l6bx,false,true,false⟩∧H 7=some ⟨v7bx,3,C7bx,false,true,false⟩∧H 18=some ⟨v18bx,22,[.nr 3 1 vn18bx (ab (E3 (eI .i64)) l18ax)],false,true,true⟩∧vn18bx<=4*e∧se (eI .i64) C7bx O7bx l7bx) ho31 ?_ ?_ ?_
   ·refine⟨e,e+1,v18ax,vn18ax,0,(ab (eI .i64) ([])),?_,?_,?_,?_,?_,?_,?_,?_,?_,?_,(se.self (eI .i64) ([]))⟩
    all_goals (first|rfl|omega|(simp only[aM,seval,-Int.reduceToNat,Zax]<;>rfl))
   ·rintro⟨s46b,l6b,l7b⟩ t H e ⟨v6b,v7b,v18b,vn18b,O7b,C7b,t3b,t6b,t7b,t44b,t45b,t46b,H6b,H7b,H18b,Hn18b,F7b⟩ c hh
    simp only[iR]at hh
    have f1F7b:=F7b.fit
    have f2F7b:=F7b.eq
    simp only[bN]at f1F7b f2F7b
    try simp only[aM,seval,-Int.reduceToNat,t45b,t46b]
    apply sp ak hh<;>intro _ hh
    ·obtain⟨x33,hx33,hh⟩:=ah hh
     have ax33:=bs aB hx33
     simp only[bN]at ax33
     obtain⟨x34,hx34,hh⟩:=ah hh
     have ax34:=bs (eI .i64) hx34
     simp only[bN]at ax34
     have p35:=eV (eI .i64) (x':=(-1)) (fo:=0) (cs:=[.int .i64 (-1)]) hx34 rfl (ahf rfl)
     simp only[bN,Nat.add_zero]at p35
     have up35:=p35
     simp only[putCells,List.length_cons,List.length_nil,agj]at up35
     obtain⟨r36,hr36,hh⟩:=ah hh
     try simp only[aM,seval,-Int.reduceToNat,t6b,t44b,t46b,H6b,ax33,ax34,up35,hr36]
     apply sp ak hh<;>intro _ hh
     ·obtain⟨x38,hx38,hh⟩:=ah hh
      have ax38:=bs (eI .i64) hx38
      simp only[bN,ahv]at ax38
      have p39:=eV (eI .i64) (x':=0) (fo:=0) (cs:=[.int .i64 0]) hx38 rfl (ahf rfl)
      simp only[bN,Nat.add_zero]at p39
      have up39:=p39
      simp only[putCells,List.length_cons,List.length_nil,agj]at up39
      obtain⟨x40,hx40,hh⟩:=ah hh
      obtain⟨q41a,q41b,q41c,q41d⟩:=gL (eI .i64) hx40
      simp only[bN]at q41b
      cases hh
      try simp only[aM,seval,-Int.reduceToNat,t6b,t7b,t46b,H7b,f1F7b,f2F7b,ax33,ax34,up39,q41a,q41b,q41c,q41d]
      apply gV
      refine⟨v6b,e+1+1+1+1+1,v18b,vn18b,0,(ab (eI .i64) x40),?_,?_,?_,?_,?_,?_,?_,?_,?_,?_,(se.self (eI .i64) x40)⟩
      all_goals (first|rfl|omega|(simp only[aM,seval,-Int.reduceToNat,t3b,t6b,t44b,t45b,H18b]<;>rfl))
     ·cases hh
      try simp only[aM,seval,-Int.reduceToNat,t46b]
      apply gV
      refine⟨v6b,v7b,v18b,vn18b,O7b,C7b,?_,?_,?_,?_,?_,?_,?_,?_,?_,?_,F7b⟩
      all_goals (first|rfl|omega|(simp only[aM,seval,-Int.reduceToNat,t3b,t6b,t7b,t44b,t45b,H7b,H18b]<;>rfl))
    ·cases hh
     try simp only[aM,seval,-Int.reduceToNat]
     apply jo
     refine⟨rfl,⟨v6b,v7b,v18b,vn18b,O7b,C7b,?_,?_,?_,?_,?_,?_,?_,F7b⟩⟩
     all_goals (first|rfl|omega|(simp only[aM,seval,-Int.reduceToNat,t3b,t6b,t7b]<;>rfl))
   ·rintro x t H e hx
    rcases o31 with⟨l6bx,l7bx⟩
    dsimp only at hx hh
    obtain⟨rfl,⟨v6bx,v7bx,v18bx,vn18bx,O7bx,C7bx,t3bx,t6bx,t7bx,H6bx,H7bx,H18bx,Hn18bx,F7bx⟩⟩:=hx
    have f1F7bx:=F7bx.fit
    have f2F7bx:=F7bx.eq
    simp only[bN]at f1F7bx f2F7bx
    try simp only[aM,seval,-Int.reduceToNat]
    obtain⟨o64,ho64,hh⟩:=ah hh
    refine ay (fun s t H e=>match s with|(l6c,l7c)=>∃v6c:Nat,∃v7c:Nat,∃v18c:Nat,∃vn18c:Nat,∃O7c:Nat,∃C7c:List D,t 3=.buf 18 v18c 1 0 (l18ax).length∧t 6=.buf 6 v6c 1 0 (l6c).length∧t 7=.buf 7 v7c 1 O7c (l7c).length∧H 6=some ⟨v6c,3,ab (eI .i64) l6c,false,true,false⟩∧H 7=some ⟨v7c,3,C7c,false,true,false⟩∧H 18=some ⟨v18c,22,[.nr 3 1 vn18c (ab (E3 (eI .i64)) l18ax)],false,true,true⟩∧vn18c<=4*e∧se (eI .i64) C7c O7c l7c) (fun o x t H e=>match o with|l6cx=>x=.exit 4∧∃v6cx:Nat,t 6=.buf 6 v6cx 1 0 (l6cx).length∧H 6=some ⟨v6cx,3,ab (eI .i64) l6cx,false,true,false⟩) ho64 ?_ ?_ ?_
    ·refine⟨v6bx,v7bx,v18bx,vn18bx,O7bx,C7bx,?_,?_,?_,?_,?_,?_,?_,F7bx⟩
     all_goals (first|rfl|omega|(simp only[aM,seval,-Int.reduceToNat,hr1,q4n,q4a,q19a,q19b,q19c,q19d,q19e,hr20,t3bx,t6bx,t7bx,H6bx,H7bx,H18bx,Hn18bx,f1F7bx,f2F7bx]<;>rfl))
    ·rintro⟨l6c,l7c⟩ t H e ⟨v6c,v7c,v18c,vn18c,O7c,C7c,t3c,t6c,t7c,H6c,H7c,H18c,Hn18c,F7c⟩ c hh
     simp only[iS]at hh
     have f1F7c:=F7c.fit
     have f2F7c:=F7c.eq
     simp only[bN]at f1F7c f2F7c
     try simp only[aM,seval,-Int.reduceToNat,t7c,H7c]
     apply sp ak hh<;>intro _ hh
     ·obtain⟨x66,hx66,hh⟩:=ah hh
      have bx66:=JM hx66
      obtain⟨fx66,restx66,ax66⟩:=F7c.idx hx66
      simp only[bN]at ax66 fx66
      obtain⟨x67,hx67,hh⟩:=ah hh
      obtain⟨q68a,q68b,q68c,q68d,q68e⟩:=YJ (eI .i64) hx67
      simp only[bN]at q68e
      have q68F:=se.tail F7c hx67
      obtain⟨x69,hx69,hh⟩:=ah hh
      have ax69:=bs (E3 (eI .i64)) hx69
      simp only[bN]at ax69
      try simp only[aM,seval,-Int.reduceToNat,t3c,t7c,H7c,H18c,bx66,ax66,fx66,q68a,q68c,ax69]
      obtain⟨o78,ho78,hh⟩:=ah hh
      refine ay (fun s t H e=>match s with|(s78e,l6e,l7e)=>∃v6e:Nat,∃v7e:Nat,∃v18e:Nat,∃vn18e:Nat,∃O7e:Nat,∃C7e:List D,t 3=.buf 18 v18e 1 0 (l18ax).length∧t 6=.buf 6 v6e 1 0 (l6e).length∧t 7=.buf 7 v7e 1 O7e (l7e).length∧t 10=.int .i64 x66∧t 76=.buf (NK 18 ((x66:Int).toNat*1)) vn18e 1 0 (x69).length∧t 77=.int .i64 ((x69).length:Int)∧t 78=.int .i64 s78e∧H 6=some ⟨v6e,3,ab (eI .i64) l6e,false,true,false⟩∧H 7=some ⟨v7e,3,C7e,false,true,false⟩∧H 18=some ⟨v18e,22,[.nr 3 1 vn18e (ab (E3 (eI .i64)) l18ax)],false,true,true⟩∧vn18e<=4*e∧se (eI .i64) C7e O7e l7e) (fun o x t H e=>match o with|(l6ex,l7ex)=>x=.exit 6∧∃v6ex:Nat,∃v7ex:Nat,∃v18ex:Nat,∃vn18ex:Nat,∃O7ex:Nat,∃C7ex:List D,t 3=.buf 18 v18ex 1 0 (l18ax).length∧t 6=.buf 6 v6ex 1 0 (l6ex).length∧t 7=.buf 7 v7ex 1 O7ex (l7ex).length∧H 6=some ⟨v6ex,3,ab (eI .i64) l6ex,false,true,false⟩∧H 7=some ⟨v7ex,3,C7ex,false,true,false⟩∧H 18=some ⟨v18ex,22,[.nr 3 1 vn18ex (ab (E3 (eI .i64)) l18ax)],false,true,true⟩∧vn18ex<=4*e∧se (eI .i64) C7ex O7ex l7ex) ho78 ?_ ?_ ?_
      ·refine⟨v6c,e+1+1,v18c,vn18c,(O7c+(1:Int).toNat*1),(C7c),?_,?_,?_,?_,?_,?_,?_,?_,?_,?_,?_,q68F⟩
       all_goals (first|rfl|omega|(simp only[aM,seval,-Int.reduceToNat,t3c,t6c,H6c,H18c,q68d]<;>rfl))
      ·rintro⟨s78e,l6e,l7e⟩ t H e ⟨v6e,v7e,v18e,vn18e,O7e,C7e,t3e,t6e,t7e,t10e,t76e,t77e,t78e,H6e,H7e,H18e,Hn18e,F7e⟩ c hh
       simp only[iT]at hh
       have f1F7e:=F7e.fit
       have f2F7e:=F7e.eq
       simp only[bN]at f1F7e f2F7e
       try simp only[aM,seval,-Int.reduceToNat,t77e,t78e]
       apply sp ak hh<;>intro _ hh
       ·obtain⟨x80,hx80,hh⟩:=ah hh
        have ax80:=bs (eI .i64) hx80
        simp only[bN]at ax80
        obtain⟨x81,hx81,hh⟩:=ah hh
        have ax81:=bs (eI .i64) hx81
        simp only[bN]at ax81
        try simp only[aM,seval,-Int.reduceToNat,ax69,t6e,t76e,t78e,H6e,H18e,ax80,ax81]
        apply sp ak hh<;>intro _ hh
        ·obtain⟨x83,hx83,hh⟩:=ah hh
         have ax83:=bs (eI .i64) hx83
         simp only[bN]at ax83
         have ax81:=bs (eI .i64) hx81
         simp only[bN]at ax81
         have p84:=eV (eI .i64) (x':=IntKind.i64.wrap (x83+1)) (fo:=0) (cs:=[.int .i64 (IntKind.i64.wrap (x83+1))]) hx81 rfl (ahf rfl)
         simp only[bN,Nat.add_zero]at p84
         have up84:=p84
         simp only[putCells,List.length_cons,List.length_nil,agj]at up84
         obtain⟨x85,hx85,hh⟩:=ah hh
         obtain⟨q86a,q86b,q86c,q86d⟩:=gL (eI .i64) hx85
         simp only[bN]at q86b
         cases hh
         try simp only[aM,seval,-Int.reduceToNat,ax69,t6e,t7e,t10e,t78e,H6e,H7e,f1F7e,f2F7e,ax83,ax81,up84,q86a,q86b,q86c,q86d]
         apply gV
         refine⟨v6e,e+1+1+1+1,v18e,vn18e,0,(ab (eI .i64) x85),?_,?_,?_,?_,?_,?_,?_,?_,?_,?_,?_,(se.self (eI .i64) x85)⟩
         all_goals (first|rfl|omega|(simp only[aM,seval,-Int.reduceToNat,t3e,t6e,t10e,t76e,t77e,H18e]<;>rfl))
        ·cases hh
         try simp only[aM,seval,-Int.reduceToNat,t78e]
         apply gV
         refine⟨v6e,v7e,v18e,vn18e,O7e,C7e,?_,?_,?_,?_,?_,?_,?_,?_,?_,?_,?_,F7e⟩
         all_goals (first|rfl|omega|(simp only[aM,seval,-Int.reduceToNat,t3e,t6e,t7e,t10e,t76e,t77e]<;>rfl))
       ·cases hh
        try simp only[aM,seval,-Int.reduceToNat]
        apply jo
        refine⟨rfl,⟨v6e,v7e,v18e,vn18e,O7e,C7e,?_,?_,?_,?_,?_,?_,?_,F7e⟩⟩
        all_goals (first|rfl|omega|(simp only[aM,seval,-Int.reduceToNat,t3e,t6e,t7e]<;>rfl))
      ·rintro x t H e hx
       rcases o78 with⟨l6ex,l7ex⟩
       dsimp only at hx hh
       obtain⟨rfl,⟨v6ex,v7ex,v18ex,vn18ex,O7ex,C7ex,t3ex,t6ex,t7ex,H6ex,H7ex,H18ex,Hn18ex,F7ex⟩⟩:=hx
       have f1F7ex:=F7ex.fit
       have f2F7ex:=F7ex.eq
       simp only[bN]at f1F7ex f2F7ex
       cases hh
       try simp only[aM,seval,-Int.reduceToNat]
       apply gV
       refine⟨v6ex,v7ex,v18ex,vn18ex,O7ex,C7ex,?_,?_,?_,?_,?_,?_,?_,F7ex⟩
       all_goals (first|rfl|omega|(simp only[aM,seval,-Int.reduceToNat,hr1,q4n,q4a,q19a,q19b,q19c,q19d,q19e,hr20,f1F7bx,f2F7bx,f1F7c,f2F7c,bx66,ax66,fx66,q68a,q68b,q68c,q68e,ax69,q68d,q68d,t3ex,t6ex,t7ex,H6ex,H7ex,H18ex,Hn18ex,f1F7ex,f2F7ex]<;>rfl))
     ·cases hh
      try simp only[aM,seval,-Int.reduceToNat]
      apply jo
      refine⟨rfl,⟨v6c,?_,?_⟩⟩
      all_goals first|rfl|(simp only[aM,seval,-Int.reduceToNat,t6c,H6c]<;>rfl)
    ·rintro x t H e hx
     obtain⟨l6cx,rfl⟩:∃z,z=o64:=⟨_,rfl⟩
     dsimp only at hx hh
     obtain⟨rfl,⟨v6cx,Zcx⟩⟩:=hx
     cases hh
     try simp only[aM,seval,-Int.reduceToNat,Zcx]
theorem rl:bP Tryz.prog 30 lQ:=bP.of (mode := .clean) tok JF mixed Tryz.func30 (by kernel_rfl) ⟨by kernel_rfl,by kernel_rfl⟩ (fun _=>ahf (by kernel_rfl)) (fun x r h=>NC x r h)
def nA:=fc (kp (po (eI .i64)) (eQ (po (eI .i64)))) (fun x:(List Int)×(List Int)=>gN x.1 x.2) (fun r:Bool =>.clean (.bool r))
theorem iE (p0:(List Int)) (p1:(List Int)):nA none [.sl false false p0.length (ab (eI .i64) p0),.sl false false p1.length (ab (eI .i64) p1)]=(gN p0 p1).map fun r:Bool=>(.clean (.bool r),none):=aJ _ _ _ (p0,p1)
theorem DB (p0:(List Int)) (p1:(List Int)) (r:Bool) (hh:gN p0 p1=some r):aW .clean tab aY FU Tryz.f29 none [.sl false false p0.length (ab (eI .i64) p0),.sl false false p1.length (ab (eI .i64) p1)]=some (.clean (.bool r),none):=by
 apply aA rfl Tryz.ntmps29 Tryz.results29
 unfold gN at hh
 try simp only[w,seval]
 apply sp ak hh<;>intro _ hh
 ·cases hh
  try simp only[w,seval]
 ·try simp only[w,seval]
  obtain⟨o6,ho6,hh⟩:=ah hh
  refine ay (fun s t H e=>match s with|s5a=>t 0=.sl false false p0.length (ab (eI .i64) p0)∧t 1=.sl false false p1.length (ab (eI .i64) p1)∧t 5=.int .i64 s5a) (fun o x t H e=>match o with|(.inl _)=>x=.exit 0|(.inr r)=>x=.ret∧eZ .clean tab none [.tmp 4] ⟨t,EH H,e⟩=some (.clean (.bool r),none)) ho6 ?_ ?_ ?_
  ·refine⟨?_,?_,?_⟩
   all_goals first|rfl|(simp only[w,seval]<;>rfl)
  ·rintro s5a t H e Za c hh
   simp only[rW]at hh
   try simp only[w,seval,Za]
   apply sp ak hh<;>intro _ hh
   ·obtain⟨x8,hx8,hh⟩:=ah hh
    have ax8:=bs (eI .i64) hx8
    simp only[bN]at ax8
    obtain⟨x9,hx9,hh⟩:=ah hh
    have ax9:=bs (eI .i64) hx9
    simp only[bN]at ax9
    try simp only[w,seval,Za,ax8,ax9]
    refine bB (by kernel_rfl) ?_
    try simp only[w,seval,Za,ax8,ax9]
    apply sp ak hh<;>intro _ hh
    ·cases hh
     try simp only[w,seval]
     refine rT ⟨rfl,?_⟩
     try simp only[w,seval]
    ·cases hh
     try simp only[w,seval,Za]
     apply gV
     refine⟨?_,?_,?_⟩
     all_goals first|rfl|(simp only[w,seval,Za]<;>rfl)
   ·cases hh
    try simp only[w,seval]
    apply jo
    exact rfl
  ·rintro x t H e hx
   rcases o6 with _|ra
   ·dsimp only at hx hh
    subst hx
    cases hh
    try simp only[w,seval]
   ·dsimp only at hx hh
    obtain⟨rfl,hE⟩:=hx
    cases hh
    try simp only[a7,bh,cr,cn]
    exact hE
theorem Bf:bP Tryz.prog 29 nA:=bP.of (mode := .clean) tok bA.none mixed Tryz.func29 (by kernel_rfl) ⟨by kernel_rfl,by kernel_rfl⟩ (fun _=>ahf (by kernel_rfl)) (fun x r h=>DB x.1 x.2 r h)
def qh:=fc (kp (bL pJ) (eQ (aI .i64))) (fun x:cz×Int=>kM x.1 x.2) (fun r:ao =>.clean (.agg [.int .i64 r.aZ.ae,.sl false false r.aZ.aa.length (ab (eI .i64) r.aZ.aa),.int .i64 r.aX.ae,.sl false false r.aX.aa.length (ab (eI .i64) r.aX.aa)]))
theorem rz (p0_0:Int) (p0_1:(List bI)) (p1:Int):qh none [.agg [.int .i64 p0_0,.sl false false p0_1.length (ab aR p0_1)],.int .i64 p1]=(kM (cz.mk p0_0 p0_1) p1).map fun r:ao=>(.clean (.agg [.int .i64 r.aZ.ae,.sl false false r.aZ.aa.length (ab (eI .i64) r.aZ.aa),.int .i64 r.aX.ae,.sl false false r.aX.aa.length (ab (eI .i64) r.aX.aa)]),none):=aJ _ _ _ ((cz.mk p0_0 p0_1),p1)
def qU:Env:=(Am.ext (Am.ext (Am.ext aY 24 false j8) 71 false fR) 85 false lR)
theorem Mw:bA Tryz.prog qU:=(((bA.none.add mX false).add ia false).add rm false)
theorem ot:type_of% (ai @w<|ai @gH<|ai @dI<|ai @kj<|@qU.eq_1):=⟨@w,@gH,@dI,@kj,@qU.eq_1⟩
theorem QG (p0:cz) (p1:Int) (r:ao) (hh:kM p0 p1=some r):aW .clean tab qU FU Tryz.f27 none [.agg [.int .i64 p0.aC,.sl false false p0.aw.length (ab aR p0.aw)],.int .i64 p1]=some (.clean (.agg [.int .i64 r.aZ.ae,.sl false false r.aZ.aa.length (ab (eI .i64) r.aZ.aa),.int .i64 r.aX.ae,.sl false false r.aX.aa.length (ab (eI .i64) r.aX.aa)]),none):=by
 apply aA rfl Tryz.ntmps27 Tryz.results27
 unfold kM at hh
 obtain⟨r1,hr1,hh⟩:=ah hh
 try simp only[ot,seval,hr1]
 apply sp aO hh<;>intro _ hh
 ·cases hh
  try simp only[ot,seval]
 ·obtain⟨r3,hr3,hh⟩:=ah hh
  try simp only[ot,seval,hr3]
  apply sp ak hh<;>intro _ hh
  ·cases hh
   try simp only[ot,seval]
  ·obtain⟨r5,hr5,hh⟩:=ah hh
   obtain⟨x6,hx6,hh⟩:=ah hh
   have ax6:=bs aB hx6
   simp only[bN]at ax6
   cases hh
   try simp only[ot,seval,hr5,ax6]
theorem Au:bP Tryz.prog 27 qh:=bP.of (mode := .clean) tok Mw mixed Tryz.func27 (by kernel_rfl) ⟨by kernel_rfl,by kernel_rfl⟩ (fun _=>ahf (by kernel_rfl)) (fun x r h=>QG x.1 x.2 r h)
def pg:=fc (eQ (bL pJ)) (fun x:cz=>mg x) (fun r:(List Int) =>.clean (.sl false false r.length (ab (eI .i64) r)))
theorem vO (p0_0:Int) (p0_1:(List bI)):pg none [.agg [.int .i64 p0_0,.sl false false p0_1.length (ab aR p0_1)]]=(mg (cz.mk p0_0 p0_1)).map fun r:(List Int)=>(.clean (.sl false false r.length (ab (eI .i64) r)),none):=aJ _ _ _ ((cz.mk p0_0 p0_1))
def lL:Env:=(Am.ext aY 30 false lQ)
theorem C8:bA Tryz.prog lL:=(bA.none.add rl false)
theorem dF:type_of% (ai @w<|ai @ki<|@lL.eq_1):=⟨@w,@ki,@lL.eq_1⟩
theorem Fv (p0:cz) (r:(List Int)) (hh:mg p0=some r):aW .clean tab lL FU Tryz.f32 none [.agg [.int .i64 p0.aC,.sl false false p0.aw.length (ab aR p0.aw)]]=some (.clean (.sl false false r.length (ab (eI .i64) r)),none):=by
 apply aA rfl Tryz.ntmps32 Tryz.results32
 unfold mg at hh
 obtain⟨r1,hr1,hh⟩:=ah hh
 try simp only[dF,seval,hr1]
 obtain⟨o7,ho7,hh⟩:=ah hh
 refine ay (fun s t H e=>match s with|(s9a,l3a)=>∃v3a:Nat,t 3=.buf 3 v3a 1 0 (l3a).length∧t 7=.sl false false r1.length (ab (eI .i64) r1)∧t 8=.int .i64 (r1.length:Int)∧t 9=.int .i64 s9a∧H 3=some ⟨v3a,3,ab (eI .i64) l3a,false,true,false⟩) (fun o x t H e=>match o with|l3ax=>x=.exit 0∧∃v3ax:Nat,t 3=.buf 3 v3ax 1 0 (l3ax).length∧H 3=some ⟨v3ax,3,ab (eI .i64) l3ax,false,true,false⟩) ho7 ?_ ?_ ?_
 ·refine⟨1,?_,?_,?_,?_,?_⟩
  all_goals first|rfl|(simp only[dF,seval,hr1]<;>rfl)
 ·rintro⟨s9a,l3a⟩ t H e ⟨v3a,Za⟩ c hh
  simp only[tn]at hh
  try simp only[dF,seval,Za]
  apply sp ak hh<;>intro _ hh
  ·obtain⟨x9,hx9,hh⟩:=ah hh
   have ax9:=bs (eI .i64) hx9
   simp only[bN]at ax9
   try simp only[dF,seval,Za,ax9]
   apply sp ak hh<;>intro _ hh
   ·obtain⟨x11,hx11,hh⟩:=ah hh
    obtain⟨q12a,q12b,q12c,q12d⟩:=gL (eI .i64) hx11
    simp only[bN]at q12b
    cases hh
    try simp only[dF,seval,Za,q12a,q12b,q12c,q12d]
    apply gV
    refine⟨e+1+1+1,?_,?_,?_,?_,?_⟩
    all_goals first|rfl|(simp only[dF,seval,Za]<;>rfl)
   ·cases hh
    try simp only[dF,seval,Za]
    apply gV
    refine⟨v3a,?_,?_,?_,?_,?_⟩
    all_goals first|rfl|(simp only[dF,seval,Za]<;>rfl)
  ·cases hh
   try simp only[dF,seval]
   apply jo
   refine⟨rfl,⟨v3a,?_,?_⟩⟩
   all_goals first|rfl|(simp only[dF,seval,Za]<;>rfl)
 ·rintro x t H e hx
  obtain⟨l3ax,rfl⟩:∃z,z=o7:=⟨_,rfl⟩
  dsimp only at hx hh
  obtain⟨rfl,⟨v3ax,Zax⟩⟩:=hx
  cases hh
  try simp only[dF,seval,Zax]
theorem D1:bP Tryz.prog 32 pg:=bP.of (mode := .clean) tok C8 mixed Tryz.func32 (by kernel_rfl) ⟨by kernel_rfl,by kernel_rfl⟩ (fun _=>ahf (by kernel_rfl)) (fun x r h=>Fv x r h)
def wb:=fc (as0) (fun x:Unit=>pN) (fun r:Bool =>.clean (.bool r))
theorem Em:wb none []=(pN).map fun r:Bool=>(.clean (.bool r),none):=aJ _ _ _ ()
def qT:Env:=(Am.ext (Am.ext (Am.ext (Am.ext (Am.ext (Am.ext (Am.ext (Am.ext (Am.ext (Am.ext (Am.ext (Am.ext aY 19 false ox) 21 false BH) 23 false wg) 24 false j8) 26 false qp) 27 false qh) 29 false nA) 30 false lQ) 32 false pg) 34 false tS) 68 false pe) 69 false wa)
theorem Mv:bA Tryz.prog qT:=((((((((((((bA.none.add xU false).add VD false).add Oo false).add mX false).add Ax false).add Au false).add Bf false).add rl false).add D1 false).add D7 false).add DZ false).add Oj false)
theorem bQ:type_of% (ai @w<|ai @oY<|ai @OB<|ai @wH<|ai @gH<|ai @rB<|ai @rz<|ai @iE<|ai @ki<|ai @vO<|ai @uV<|ai @vM<|ai @El<|@qT.eq_1):=⟨@w,@oY,@OB,@wH,@gH,@rB,@rz,@iE,@ki,@vO,@uV,@vM,@El,@qT.eq_1⟩
theorem QF (r:Bool) (hh:pN=some r):aW .clean tab qT FU Tryz.f16 none []=some (.clean (.bool r),none):=by
 apply aA rfl Tryz.ntmps16 Tryz.results16
 unfold pN at hh
 obtain⟨r1,hr1,hh⟩:=ah hh
 obtain⟨r2,hr2,hh⟩:=ah hh
 obtain⟨r3,hr3,hh⟩:=ah hh
 try simp only[bQ,seval,hr1,hr2,hr3]
 obtain⟨o4,ho4,hh⟩:=ah hh
 refine bq 0 (fun s t H e=>match s with|s41j1=>t 41=.bool s41j1) (fun s=>s=o4) ?_ ?_
 ·rintro s41j1 t H e Zj1 rfl
  try dsimp only at hh
  try simp only[bQ,seval,Zj1]
  apply sp ak hh<;>intro _ hh
  ·cases hh
   try simp only[bQ,seval]
  ·obtain⟨r6,hr6,hh⟩:=ah hh
   obtain⟨r7,hr7,hh⟩:=ah hh
   obtain⟨r8,hr8,hh⟩:=ah hh
   obtain⟨r9,hr9,hh⟩:=ah hh
   obtain⟨r10,hr10,hh⟩:=ah hh
   try simp only[bQ,seval,hr1,hr6,hr7,hr8,hr9,hr10]
   apply sp cP hh<;>intro _ hh
   ·obtain⟨r12,hr12,hh⟩:=ah hh
    have i13:=iE r12 ([(-1),(-1)])
    simp only[bn,bN,List.length_cons,agj,Nat.reduceAdd]at i13
    obtain⟨r14,hr14,hh⟩:=ah hh
    try simp only[bQ,seval,hr12,i13,hr14]
    apply sp cP hh<;>intro _ hh
    ·obtain⟨r16,hr16,hh⟩:=ah hh
     have i17:=iE r16 ([0,1])
     simp only[bn,bN,List.length_cons,agj,Nat.reduceAdd]at i17
     obtain⟨r18,hr18,hh⟩:=ah hh
     try simp only[bQ,seval,hr16,i17,hr18]
     apply sp cP hh<;>intro _ hh
     ·try simp only[bQ,seval]
      apply sp cP hh<;>intro _ hh
      ·try simp only[bQ,seval]
       apply sp cP hh<;>intro _ hh
       ·obtain⟨r22,hr22,hh⟩:=ah hh
        cases hh
        try simp only[bQ,seval,hr22]
       ·cases hh
        try simp only[bQ,seval]
      ·cases hh
       try simp only[bQ,seval]
     ·cases hh
      try simp only[bQ,seval]
    ·cases hh
     try simp only[bQ,seval]
   ·cases hh
    try simp only[bQ,seval]
 ·clear hh
  have hh:=ho4
  try simp only[bQ,seval]
  apply sp aO hh<;>intro _ hh
  ·cases hh
   try simp only[bQ,seval]
   rw[an]
   refine⟨_,rfl,?_⟩
   refine ?_
   all_goals first|rfl|(simp only[bQ,seval,hr1,hr2,hr3]<;>rfl)
  ·have i24:=wH r3.1.aC r3.1.aw 2 ([(bI.mk 0 1 r1),(bI.mk 1 0 r1)])
   simp only[bn,bN,List.length_cons,agj,Nat.reduceAdd]at i24
   obtain⟨r25,hr25,hh⟩:=ah hh
   try simp only[bQ,seval,i24,hr25]
   apply sp aO hh<;>intro _ hh
   ·cases hh
    try simp only[bQ,seval]
    rw[an]
    refine⟨_,rfl,?_⟩
    refine ?_
    all_goals first|rfl|(simp only[bQ,seval,hr1,hr2,hr3,i24,hr25]<;>rfl)
   ·obtain⟨r27,hr27,hh⟩:=ah hh
    have i28:=iE r27 ([0,0])
    simp only[bn,bN,List.length_cons,agj,Nat.reduceAdd]at i28
    obtain⟨r29,hr29,hh⟩:=ah hh
    try simp only[bQ,seval,hr27,i28,hr29]
    apply sp aO hh<;>intro _ hh
    ·cases hh
     try simp only[bQ,seval]
     rw[an]
     refine⟨_,rfl,?_⟩
     refine ?_
     all_goals first|rfl|(simp only[bQ,seval,hr1,hr2,hr3,i24,hr25,hr27,i28,hr29]<;>rfl)
    ·obtain⟨r31,hr31,hh⟩:=ah hh
     obtain⟨r32,hr32,hh⟩:=ah hh
     cases hh
     try simp only[bQ,seval,hr1,hr31,hr32]
     rw[an]
     refine⟨_,rfl,?_⟩
     refine ?_
     all_goals first|rfl|(simp only[bQ,seval,hr1,hr2,hr3,i24,hr25,hr27,i28,hr29,hr31,hr32]<;>rfl)
theorem Ol:bP Tryz.prog 16 wb:=bP.of (mode := .clean) tok Mv mixed Tryz.func16 (by kernel_rfl) ⟨by kernel_rfl,by kernel_rfl⟩ (fun _=>ahf (by kernel_rfl)) (fun x r h=>QF  r h)
def yL:=fc (kp (bL aB) (eQ (aI .i64))) (fun x:ao×Int=>rE x.1 x.2) (fun r:Bool =>.clean (.bool r))
theorem Ic (p0_0:Int) (p0_1:(List Int)) (p0_2:Int) (p0_3:(List Int)) (p1:Int):yL none [.agg [.int .i64 p0_0,.sl false false p0_1.length (ab (eI .i64) p0_1),.int .i64 p0_2,.sl false false p0_3.length (ab (eI .i64) p0_3)],.int .i64 p1]=(rE (ao.mk (aj.mk p0_0 p0_1) (aj.mk p0_2 p0_3)) p1).map fun r:Bool=>(.clean (.bool r),none):=aJ _ _ _ ((ao.mk (aj.mk p0_0 p0_1) (aj.mk p0_2 p0_3)),p1)
theorem Vt (p0:ao) (p1:Int) (r:Bool) (hh:rE p0 p1=some r):aW .clean tab aY FU Tryz.f70 none [.agg [.int .i64 p0.aZ.ae,.sl false false p0.aZ.aa.length (ab (eI .i64) p0.aZ.aa),.int .i64 p0.aX.ae,.sl false false p0.aX.aa.length (ab (eI .i64) p0.aX.aa)],.int .i64 p1]=some (.clean (.bool r),none):=by
 apply aA rfl Tryz.ntmps70 Tryz.results70
 unfold rE at hh
 try simp only[w,seval]
 apply sp cP hh<;>intro _ hh
 ·cases hh
  try simp only[w,seval]
 ·cases hh
  try simp only[w,seval]
theorem Q1:bP Tryz.prog 70 yL:=bP.of (mode := .clean) tok bA.none mixed Tryz.func70 (by kernel_rfl) ⟨by kernel_rfl,by kernel_rfl⟩ (fun _=>ahf (by kernel_rfl)) (fun x r h=>Vt x.1 x.2 r h)
def qq:=fc (eQ (bL pJ)) (fun x:cz=>iG x) (fun r:Bool =>.clean (.bool r))
theorem yd (p0_0:Int) (p0_1:(List bI)):qq none [.agg [.int .i64 p0_0,.sl false false p0_1.length (ab aR p0_1)]]=(iG (cz.mk p0_0 p0_1)).map fun r:Bool=>(.clean (.bool r),none):=aJ _ _ _ ((cz.mk p0_0 p0_1))
def mU:Env:=(Am.ext aY 70 false yL)
theorem Fm:bA Tryz.prog mU:=(bA.none.add Q1 false)
theorem bK:type_of% (ai @w<|ai @Ic<|@mU.eq_1):=⟨@w,@Ic,@mU.eq_1⟩
theorem JW (p0:cz) (r:Bool) (hh:iG p0=some r):aW .clean tab mU FU Tryz.f18 none [.agg [.int .i64 p0.aC,.sl false false p0.aw.length (ab aR p0.aw)]]=some (.clean (.bool r),none):=by
 apply aA rfl Tryz.ntmps18 Tryz.results18
 unfold iG at hh
 try simp only[bK,seval]
 obtain⟨o7,ho7,hh⟩:=ah hh
 refine ay (fun s t H e=>match s with|s3a=>∃v1a:Nat,t 1=.ptr 1 v1a 0∧t 3=.int .i64 s3a∧H 1=some ⟨v1a,28,[.int .i64 p0.aC,.sl false false p0.aw.length (ab aR p0.aw)],false,false,false⟩) (fun o x t H e=>match o with|(.inl _)=>x=.exit 0∧∃v1ax:Nat,t 1=.ptr 1 v1ax 0∧H 1=some ⟨v1ax,28,[.int .i64 p0.aC,.sl false false p0.aw.length (ab aR p0.aw)],false,false,false⟩|(.inr r)=>x=.ret∧eZ .clean tab none [.tmp 2] ⟨t,EH H,e⟩=some (.clean (.bool r),none)) ho7 ?_ ?_ ?_
 ·refine⟨0,?_,?_,?_⟩
  all_goals first|rfl|(simp only[bK,seval]<;>rfl)
 ·rintro s3a t H e ⟨v1a,Za⟩ c hh
  simp only[lP]at hh
  try simp only[bK,seval,Za]
  obtain⟨o8,ho8,hh⟩:=ah hh
  refine bq 0 (fun s t H e=>match s with|s12j3=>∃v1j3:Nat,t 1=.ptr 1 v1j3 0∧t 3=.int .i64 s3a∧t 12=.bool s12j3∧H 1=some ⟨v1j3,28,[.int .i64 p0.aC,.sl false false p0.aw.length (ab aR p0.aw)],false,false,false⟩) (fun s=>s=o8) ?_ ?_
  ·rintro s12j3 t H e ⟨v1j3,Zj3⟩ rfl
   try dsimp only at hh
   try simp only[bK,seval,Zj3]
   apply sp ak hh<;>intro _ hh
   ·obtain⟨x10,hx10,hh⟩:=ah hh
    have ax10:=bs aR hx10
    simp only[bN]at ax10
    obtain⟨r11,hr11,hh⟩:=ah hh
    try simp only[bK,seval,Zj3,ax10,hr11]
    apply sp ak hh<;>intro _ hh
    ·cases hh
     try simp only[bK,seval]
     refine rT ⟨rfl,?_⟩
     try simp only[bK,seval]
    ·cases hh
     try simp only[bK,seval,Zj3]
     apply gV
     refine⟨v1j3,?_,?_,?_⟩
     all_goals first|rfl|(simp only[bK,seval,Zj3]<;>rfl)
   ·cases hh
    try simp only[bK,seval]
    apply jo
    refine⟨rfl,⟨v1j3,?_,?_⟩⟩
    all_goals first|rfl|(simp only[bK,seval,Zj3]<;>rfl)
  ·clear hh
   have hh:=ho8
   try simp only[bK,seval]
   apply sp cP hh<;>intro _ hh
   ·cases hh
    try simp only[bK,seval,Za]
    rw[an]
    refine⟨_,rfl,?_⟩
    refine⟨v1a,?_,?_,?_,?_⟩
    all_goals first|rfl|(simp only[bK,seval,Za]<;>rfl)
   ·cases hh
    try simp only[bK,seval]
    rw[an]
    refine⟨_,rfl,?_⟩
    refine⟨v1a,?_,?_,?_,?_⟩
    all_goals first|rfl|(simp only[bK,seval,Za]<;>rfl)
 ·rintro x t H e hx
  rcases o7 with _|ra
  ·dsimp only at hx hh
   obtain⟨rfl,⟨v1ax,Zax⟩⟩:=hx
   try simp only[bK,seval,Zax]
   apply sp aO hh<;>intro _ hh
   ·cases hh
    try simp only[bK,seval,Zax]
   ·try simp only[bK,seval,Zax]
    apply sp cP hh<;>intro _ hh
    ·cases hh
     try simp only[bK,seval,Zax]
    ·cases hh
     try simp only[bK,seval]
  ·dsimp only at hx hh
   obtain⟨rfl,hE⟩:=hx
   cases hh
   try simp only[a7,bh,cr,cn]
   exact hE
theorem FE:bP Tryz.prog 18 qq:=bP.of (mode := .clean) tok Fm mixed Tryz.func18 (by kernel_rfl) ⟨by kernel_rfl,by kernel_rfl⟩ (fun _=>ahf (by kernel_rfl)) (fun x r h=>JW x r h)
def BG:=fc (eQ (bL pJ)) (fun x:cz=>gM x) (fun r:Bool =>.clean (.bool r))
def kI:Env:=(Am.ext (Am.ext (Am.ext (Am.ext (Am.ext (Am.ext aY 16 false wb) 18 false qq) 24 false j8) 27 false qh) 30 false lQ) 39 false gE)
theorem A6:bA Tryz.prog kI:=((((((bA.none.add Ol false).add FE false).add mX false).add Au false).add rl false).add iV false)
theorem al:type_of% (ai @w<|ai @Em<|ai @yd<|ai @gH<|ai @rz<|ai @ki<|ai @ej<|@kI.eq_1):=⟨@w,@Em,@yd,@gH,@rz,@ki,@ej,@kI.eq_1⟩
theorem DA (p0:cz) (r:Bool) (hh:gM p0=some r):aW .clean tab kI FU Tryz.f5 none [.agg [.int .i64 p0.aC,.sl false false p0.aw.length (ab aR p0.aw)]]=some (.clean (.bool r),none):=by
 apply aA rfl Tryz.ntmps5 Tryz.results5
 unfold gM at hh
 obtain⟨r1,hr1,hh⟩:=ah hh
 obtain⟨r2,hr2,hh⟩:=ah hh
 try simp only[al,seval,hr1,hr2]
 obtain⟨o3,ho3,hh⟩:=ah hh
 refine bq 0 (fun s t H e=>match s with|s18j1=>∃v1j1:Nat,t 1=.ptr 1 v1j1 0∧t 3=.bool r1∧t 18=.bool s18j1∧H 1=some ⟨v1j1,28,[.int .i64 p0.aC,.sl false false p0.aw.length (ab aR p0.aw)],false,false,false⟩) (fun s=>s=o3) ?_ ?_
 ·rintro s18j1 t H e ⟨v1j1,Zj1⟩ rfl
  try dsimp only at hh
  try simp only[al,seval,hr1,hr2,Zj1]
  apply sp ak hh<;>intro _ hh
  ·cases hh
   try simp only[al,seval,hr1,hr2,Zj1]
  ·obtain⟨r5,hr5,hh⟩:=ah hh
   try simp only[al,seval,hr1,hr2,Zj1,hr5]
   apply sp ak hh<;>intro _ hh
   ·cases hh
    try simp only[al,seval,hr1,hr2,Zj1,hr5]
   ·obtain⟨x7,hx7,hh⟩:=ah hh
    obtain⟨q8a,q8b,q8c,q8d,q8e⟩:=mk_one lX hx7
    simp only[bN]at q8d
    try simp only[al,seval,hr1,hr2,Zj1,hr5,q8a,q8b,q8c,q8d,q8e]
    obtain⟨o26,ho26,hh⟩:=ah hh
    refine ay (fun s t H e=>match s with|(s6b,l5b)=>∃v1b:Nat,∃v5b:Nat,t 1=.ptr 1 v1b 0∧t 3=.bool r1∧t 4=.sl false false r5.length (ab (eI .i64) r5)∧t 5=.buf 5 v5b 1 0 (l5b).length∧t 6=.int .i64 s6b∧H 1=some ⟨v1b,28,[.int .i64 p0.aC,.sl false false p0.aw.length (ab aR p0.aw)],false,false,false⟩∧H 5=some ⟨v5b,4,ab lX l5b,false,true,false⟩) (fun o x t H e=>match o with|(.inl l5bx)=>x=.exit 0∧∃v1bx:Nat,∃v5bx:Nat,t 1=.ptr 1 v1bx 0∧t 3=.bool r1∧t 4=.sl false false r5.length (ab (eI .i64) r5)∧t 5=.buf 5 v5bx 1 0 (l5bx).length∧H 1=some ⟨v1bx,28,[.int .i64 p0.aC,.sl false false p0.aw.length (ab aR p0.aw)],false,false,false⟩∧H 5=some ⟨v5bx,4,ab lX l5bx,false,true,false⟩|(.inr r)=>x=.ret∧eZ .clean tab none [.tmp 2] ⟨t,EH H,e⟩=some (.clean (.bool r),none)) ho26 ?_ ?_ ?_
    ·refine⟨v1j1,e+1+1,?_,?_,?_,?_,?_,?_,?_⟩
     all_goals first|rfl|(simp only[al,seval,hr1,hr2,Zj1,hr5,q8a,q8b,q8c,q8d,q8e]<;>rfl)
    ·rintro⟨s6b,l5b⟩ t H e ⟨v1b,v5b,Zb⟩ c hh
     simp only[e7]at hh
     try simp only[al,seval,hr1,hr2,hr5,q8a,q8b,q8c,q8d,q8e,Zb]
     apply sp ak hh<;>intro _ hh
     ·obtain⟨x28,hx28,hh⟩:=ah hh
      have ax28:=bs aR hx28
      simp only[bN]at ax28
      obtain⟨x29,hx29,hh⟩:=ah hh
      have ax29:=bs (eI .i64) hx29
      simp only[bN]at ax29
      have ax28:=bs aR hx28
      simp only[bN]at ax28
      obtain⟨x30,hx30,hh⟩:=ah hh
      have ax30:=bs (eI .i64) hx30
      simp only[bN]at ax30
      try simp only[al,seval,hr1,hr2,hr5,q8a,q8b,q8c,q8d,q8e,Zb,ax28,ax29,ax28,ax30]
      obtain⟨o31,ho31,hh⟩:=ah hh
      refine bq 0 (fun s t H e=>match s with|s74j5=>∃v1j5:Nat,∃v5j5:Nat,t 1=.ptr 1 v1j5 0∧t 3=.bool r1∧t 4=.sl false false r5.length (ab (eI .i64) r5)∧t 5=.buf 5 v5j5 1 0 (l5b).length∧t 6=.int .i64 s6b∧t 7=.int .i64 x29∧t 8=.int .i64 x30∧t 74=.bool s74j5∧H 1=some ⟨v1j5,28,[.int .i64 p0.aC,.sl false false p0.aw.length (ab aR p0.aw)],false,false,false⟩∧H 5=some ⟨v5j5,4,ab lX l5b,false,true,false⟩) (fun s=>s=o31) ?_ ?_
      ·rintro s74j5 t H e ⟨v1j5,v5j5,Zj5⟩ rfl
       try dsimp only at hh
       try simp only[al,seval,hr1,hr2,hr5,q8a,q8b,q8c,q8d,q8e,ax28,ax29,ax28,ax30,Zj5]
       apply sp ak hh<;>intro _ hh
       ·cases hh
        try simp only[al,seval,hr1,hr2,hr5,q8a,q8b,q8c,q8d,q8e,ax28,ax29,ax28,ax30,Zj5]
        refine rT ⟨rfl,?_⟩
        try simp only[al,seval,hr1,hr2,hr5,q8a,q8b,q8c,q8d,q8e,ax28,ax29,ax28,ax30,Zj5]
       ·try simp only[al,seval,hr1,hr2,hr5,q8a,q8b,q8c,q8d,q8e,ax28,ax29,ax28,ax30,Zj5]
        obtain⟨o33,ho33,hh⟩:=ah hh
        refine bq 0 (fun s t H e=>match s with|s82j6=>∃v1j6:Nat,∃v5j6:Nat,t 1=.ptr 1 v1j6 0∧t 3=.bool r1∧t 4=.sl false false r5.length (ab (eI .i64) r5)∧t 5=.buf 5 v5j6 1 0 (l5b).length∧t 6=.int .i64 s6b∧t 82=.bool s82j6∧H 1=some ⟨v1j6,28,[.int .i64 p0.aC,.sl false false p0.aw.length (ab aR p0.aw)],false,false,false⟩∧H 5=some ⟨v5j6,4,ab lX l5b,false,true,false⟩) (fun s=>s=o33) ?_ ?_
        ·rintro s82j6 t H e ⟨v1j6,v5j6,Zj6⟩ rfl
         try dsimp only at hh
         try simp only[al,seval,hr1,hr2,hr5,q8a,q8b,q8c,q8d,q8e,ax28,ax29,ax28,ax30,Zj6]
         apply sp ak hh<;>intro _ hh
         ·have ax28:=bs aR hx28
          simp only[bN]at ax28
          obtain⟨x35,hx35,hh⟩:=ah hh
          have ax35:=bs lX hx35
          simp only[bN]at ax35
          have p36:=eV lX (x':=true) (fo:=0) (cs:=[.bool true]) hx35 rfl (ahf rfl)
          simp only[bN,Nat.add_zero]at p36
          have up36:=p36
          simp only[putCells,List.length_cons,List.length_nil,agj,Nat.reduceAdd]at up36
          cases hh
          try simp only[al,seval,hr1,hr2,hr5,q8a,q8b,q8c,q8d,q8e,ax28,ax29,ax28,ax30,Zj6,ax28,ax35,p36,up36]
          apply gV
          refine⟨v1j6,v5j6,?_,?_,?_,?_,?_,?_,?_⟩
          all_goals first|rfl|(simp only[al,seval,hr1,hr2,hr5,q8a,q8b,q8c,q8d,q8e,ax28,ax29,ax28,ax30,Zj6,ax28,ax35,p36,up36]<;>rfl)
         ·cases hh
          try simp only[al,seval,hr1,hr2,hr5,q8a,q8b,q8c,q8d,q8e,ax28,ax29,ax28,ax30,Zj6]
          apply gV
          refine⟨v1j6,v5j6,?_,?_,?_,?_,?_,?_,?_⟩
          all_goals first|rfl|(simp only[al,seval,hr1,hr2,hr5,q8a,q8b,q8c,q8d,q8e,ax28,ax29,ax28,ax30,Zj6]<;>rfl)
        ·clear hh
         have hh:=ho33
         try simp only[al,seval,hr1,hr2,hr5,q8a,q8b,q8c,q8d,q8e,ax28,ax29,ax28,ax30,Zj5]
         apply sp cP hh<;>intro _ hh
         ·cases hh
          try simp only[al,seval,hr1,hr2,hr5,q8a,q8b,q8c,q8d,q8e,ax28,ax29,ax28,ax30,Zj5]
          rw[an]
          refine⟨_,rfl,?_⟩
          refine⟨v1j5,v5j5,?_,?_,?_,?_,?_,?_,?_,?_⟩
          all_goals first|rfl|(simp only[al,seval,hr1,hr2,hr5,q8a,q8b,q8c,q8d,q8e,ax28,ax29,ax28,ax30,Zj5]<;>rfl)
         ·cases hh
          try simp only[al,seval,hr1,hr2,hr5,q8a,q8b,q8c,q8d,q8e,ax28,ax29,ax28,ax30,Zj5]
          rw[an]
          refine⟨_,rfl,?_⟩
          refine⟨v1j5,v5j5,?_,?_,?_,?_,?_,?_,?_,?_⟩
          all_goals first|rfl|(simp only[al,seval,hr1,hr2,hr5,q8a,q8b,q8c,q8d,q8e,ax28,ax29,ax28,ax30,Zj5]<;>rfl)
      ·clear hh
       have hh:=ho31
       try simp only[al,seval,hr1,hr2,hr5,q8a,q8b,q8c,q8d,q8e,Zb,ax28,ax29,ax28,ax30]
       apply sp cP hh<;>intro _ hh
       ·try simp only[al,seval,hr1,hr2,hr5,q8a,q8b,q8c,q8d,q8e,Zb,ax28,ax29,ax28,ax30]
        apply sp cP hh<;>intro _ hh
        ·try simp only[al,seval,hr1,hr2,hr5,q8a,q8b,q8c,q8d,q8e,Zb,ax28,ax29,ax28,ax30]
         apply sp aO hh<;>intro _ hh
         ·cases hh
          try simp only[al,seval,hr1,hr2,hr5,q8a,q8b,q8c,q8d,q8e,Zb,ax28,ax29,ax28,ax30]
          rw[an]
          refine⟨_,rfl,?_⟩
          refine⟨v1b,v5b,?_,?_,?_,?_,?_,?_,?_,?_,?_,?_⟩
          all_goals first|rfl|(simp only[al,seval,hr1,hr2,hr5,q8a,q8b,q8c,q8d,q8e,Zb,ax28,ax29,ax28,ax30]<;>rfl)
         ·try simp only[al,seval,hr1,hr2,hr5,q8a,q8b,q8c,q8d,q8e,Zb,ax28,ax29,ax28,ax30]
          apply sp cP hh<;>intro _ hh
          ·cases hh
           try simp only[al,seval,hr1,hr2,hr5,q8a,q8b,q8c,q8d,q8e,Zb,ax28,ax29,ax28,ax30]
           rw[an]
           refine⟨_,rfl,?_⟩
           refine⟨v1b,v5b,?_,?_,?_,?_,?_,?_,?_,?_,?_,?_⟩
           all_goals first|rfl|(simp only[al,seval,hr1,hr2,hr5,q8a,q8b,q8c,q8d,q8e,Zb,ax28,ax29,ax28,ax30]<;>rfl)
          ·cases hh
           try simp only[al,seval,hr1,hr2,hr5,q8a,q8b,q8c,q8d,q8e,Zb,ax28,ax29,ax28,ax30]
           rw[an]
           refine⟨_,rfl,?_⟩
           refine⟨v1b,v5b,?_,?_,?_,?_,?_,?_,?_,?_,?_,?_⟩
           all_goals first|rfl|(simp only[al,seval,hr1,hr2,hr5,q8a,q8b,q8c,q8d,q8e,Zb,ax28,ax29,ax28,ax30]<;>rfl)
        ·try simp only[al,seval,hr1,hr2,hr5,q8a,q8b,q8c,q8d,q8e,Zb,ax28,ax29,ax28,ax30]
         apply sp cP hh<;>intro _ hh
         ·cases hh
          try simp only[al,seval,hr1,hr2,hr5,q8a,q8b,q8c,q8d,q8e,Zb,ax28,ax29,ax28,ax30]
          rw[an]
          refine⟨_,rfl,?_⟩
          refine⟨v1b,v5b,?_,?_,?_,?_,?_,?_,?_,?_,?_,?_⟩
          all_goals first|rfl|(simp only[al,seval,hr1,hr2,hr5,q8a,q8b,q8c,q8d,q8e,Zb,ax28,ax29,ax28,ax30]<;>rfl)
         ·cases hh
          try simp only[al,seval,hr1,hr2,hr5,q8a,q8b,q8c,q8d,q8e,Zb,ax28,ax29,ax28,ax30]
          rw[an]
          refine⟨_,rfl,?_⟩
          refine⟨v1b,v5b,?_,?_,?_,?_,?_,?_,?_,?_,?_,?_⟩
          all_goals first|rfl|(simp only[al,seval,hr1,hr2,hr5,q8a,q8b,q8c,q8d,q8e,Zb,ax28,ax29,ax28,ax30]<;>rfl)
       ·try simp only[al,seval,hr1,hr2,hr5,q8a,q8b,q8c,q8d,q8e,Zb,ax28,ax29,ax28,ax30]
        apply sp cP hh<;>intro _ hh
        ·cases hh
         try simp only[al,seval,hr1,hr2,hr5,q8a,q8b,q8c,q8d,q8e,Zb,ax28,ax29,ax28,ax30]
         rw[an]
         refine⟨_,rfl,?_⟩
         refine⟨v1b,v5b,?_,?_,?_,?_,?_,?_,?_,?_,?_,?_⟩
         all_goals first|rfl|(simp only[al,seval,hr1,hr2,hr5,q8a,q8b,q8c,q8d,q8e,Zb,ax28,ax29,ax28,ax30]<;>rfl)
        ·cases hh
         try simp only[al,seval,hr1,hr2,hr5,q8a,q8b,q8c,q8d,q8e,Zb,ax28,ax29,ax28,ax30]
         rw[an]
         refine⟨_,rfl,?_⟩
         refine⟨v1b,v5b,?_,?_,?_,?_,?_,?_,?_,?_,?_,?_⟩
         all_goals first|rfl|(simp only[al,seval,hr1,hr2,hr5,q8a,q8b,q8c,q8d,q8e,Zb,ax28,ax29,ax28,ax30]<;>rfl)
     ·cases hh
      try simp only[al,seval,hr1,hr2,hr5,q8a,q8b,q8c,q8d,q8e,Zb]
      apply jo
      refine⟨rfl,⟨v1b,v5b,?_,?_,?_,?_,?_,?_⟩⟩
      all_goals first|rfl|(simp only[al,seval,hr1,hr2,hr5,q8a,q8b,q8c,q8d,q8e,Zb]<;>rfl)
    ·rintro x t H e hx
     rcases o26 with l5bx|rb
     ·dsimp only at hx hh
      obtain⟨rfl,⟨v1bx,v5bx,Zbx⟩⟩:=hx
      try simp only[al,seval,hr1,hr2,hr5,q8a,q8b,q8c,q8d,q8e,Zbx]
      obtain⟨o53,ho53,hh⟩:=ah hh
      refine ay (fun s t H e=>match s with|s9g=>∃v1g:Nat,∃v5g:Nat,t 1=.ptr 1 v1g 0∧t 3=.bool r1∧t 4=.sl false false r5.length (ab (eI .i64) r5)∧t 5=.buf 5 v5g 1 0 (l5bx).length∧t 9=.int .i64 s9g∧H 1=some ⟨v1g,28,[.int .i64 p0.aC,.sl false false p0.aw.length (ab aR p0.aw)],false,false,false⟩∧H 5=some ⟨v5g,4,ab lX l5bx,false,true,false⟩) (fun o x t H e=>match o with|(.inl _)=>x=.exit 2∧t 3=.bool r1|(.inr r)=>x=.ret∧eZ .clean tab none [.tmp 2] ⟨t,EH H,e⟩=some (.clean (.bool r),none)) ho53 ?_ ?_ ?_
      ·refine⟨v1bx,v5bx,?_,?_,?_,?_,?_,?_,?_⟩
       all_goals first|rfl|(simp only[al,seval,hr1,hr2,hr5,q8a,q8b,q8c,q8d,q8e,Zbx]<;>rfl)
      ·rintro s9g t H e ⟨v1g,v5g,Zg⟩ c hh
       simp only[jJ]at hh
       try simp only[al,seval,hr1,hr2,hr5,q8a,q8b,q8c,q8d,q8e,Zg]
       apply sp ak hh<;>intro _ hh
       ·obtain⟨x55,hx55,hh⟩:=ah hh
        have ax55:=bs (eI .i64) hx55
        simp only[bN]at ax55
        try simp only[al,seval,hr1,hr2,hr5,q8a,q8b,q8c,q8d,q8e,Zg,ax55]
        apply sp oo hh<;>intro _ hh
        ·try simp only[al,seval,hr1,hr2,hr5,q8a,q8b,q8c,q8d,q8e,Zg,ax55]
         refine bB (by kernel_rfl) ?_
         cases hh
         try simp only[al,seval,hr1,hr2,hr5,q8a,q8b,q8c,q8d,q8e,Zg,ax55]
         refine rT ⟨rfl,?_⟩
         try simp only[al,seval,hr1,hr2,hr5,q8a,q8b,q8c,q8d,q8e,Zg,ax55]
        ·have ax55:=bs (eI .i64) hx55
         simp only[bN]at ax55
         obtain⟨r57,hr57,hh⟩:=ah hh
         obtain⟨r58,hr58,hh⟩:=ah hh
         try simp only[al,seval,hr1,hr2,hr5,q8a,q8b,q8c,q8d,q8e,Zg,ax55,ax55,hr57,hr58]
         apply sp oo hh<;>intro _ hh
         ·try simp only[al,seval,hr1,hr2,hr5,q8a,q8b,q8c,q8d,q8e,Zg,ax55,ax55,hr57,hr58]
          refine bB (by kernel_rfl) ?_
          cases hh
          try simp only[al,seval,hr1,hr2,hr5,q8a,q8b,q8c,q8d,q8e,Zg,ax55,ax55,hr57,hr58]
          refine rT ⟨rfl,?_⟩
          try simp only[al,seval,hr1,hr2,hr5,q8a,q8b,q8c,q8d,q8e,Zg,ax55,ax55,hr57,hr58]
         ·have ax55:=bs (eI .i64) hx55
          simp only[bN]at ax55
          try simp only[al,seval,hr1,hr2,hr5,q8a,q8b,q8c,q8d,q8e,Zg,ax55,ax55,hr57,hr58,ax55]
          apply sp Ku hh<;>intro _ hh
          ·obtain⟨x61,hx61,hh⟩:=ah hh
           have ax61:=bs lX hx61
           simp only[bN]at ax61
           try simp only[al,seval,hr1,hr2,hr5,q8a,q8b,q8c,q8d,q8e,Zg,ax55,ax55,hr57,hr58,ax55,ax61]
           refine bB (by kernel_rfl) ?_
           try simp only[al,seval,hr1,hr2,hr5,q8a,q8b,q8c,q8d,q8e,Zg,ax55,ax55,hr57,hr58,ax55,ax61]
           apply sp ak hh<;>intro _ hh
           ·cases hh
            try simp only[al,seval,hr1,hr2,hr5,q8a,q8b,q8c,q8d,q8e,Zg,ax55,ax55,hr57,hr58,ax55,ax61]
            refine rT ⟨rfl,?_⟩
            try simp only[al,seval,hr1,hr2,hr5,q8a,q8b,q8c,q8d,q8e,Zg,ax55,ax55,hr57,hr58,ax55,ax61]
           ·cases hh
            try simp only[al,seval,hr1,hr2,hr5,q8a,q8b,q8c,q8d,q8e,Zg,ax55,ax55,hr57,hr58,ax55,ax61]
            apply gV
            refine⟨v1g,v5g,?_,?_,?_,?_,?_,?_,?_⟩
            all_goals first|rfl|(simp only[al,seval,hr1,hr2,hr5,q8a,q8b,q8c,q8d,q8e,Zg,ax55,ax55,hr57,hr58,ax55,ax61]<;>rfl)
          ·try simp only[al,seval,hr1,hr2,hr5,q8a,q8b,q8c,q8d,q8e,Zg,ax55,ax55,hr57,hr58,ax55]
           refine bB (by kernel_rfl) ?_
           cases hh
           try simp only[al,seval,hr1,hr2,hr5,q8a,q8b,q8c,q8d,q8e,Zg,ax55,ax55,hr57,hr58,ax55]
           apply gV
           refine⟨v1g,v5g,?_,?_,?_,?_,?_,?_,?_⟩
           all_goals first|rfl|(simp only[al,seval,hr1,hr2,hr5,q8a,q8b,q8c,q8d,q8e,Zg,ax55,ax55,hr57,hr58,ax55]<;>rfl)
       ·cases hh
        try simp only[al,seval,hr1,hr2,hr5,q8a,q8b,q8c,q8d,q8e,Zg]
        apply jo
        refine⟨rfl,?_⟩
        all_goals first|rfl|(simp only[al,seval,hr1,hr2,hr5,q8a,q8b,q8c,q8d,q8e,Zg]<;>rfl)
      ·rintro x t H e hx
       rcases o53 with _|rg
       ·dsimp only at hx hh
        obtain⟨rfl,Zgx⟩:=hx
        cases hh
        try simp only[al,seval,hr1,hr2,hr5,q8a,q8b,q8c,q8d,q8e,Zgx]
       ·dsimp only at hx hh
        obtain⟨rfl,hE⟩:=hx
        cases hh
        try simp only[a7,kS,bh,cr,cn,ug,uh]
        exact hE
     ·dsimp only at hx hh
      obtain⟨rfl,hE⟩:=hx
      cases hh
      try simp only[a7,kS,bh,cr,cn,ug,uh]
      exact hE
 ·clear hh
  have hh:=ho3
  try simp only[al,seval,hr1,hr2]
  apply sp aO hh<;>intro _ hh
  ·cases hh
   try simp only[al,seval,hr1,hr2]
   rw[an]
   refine⟨_,rfl,?_⟩
   refine⟨0,?_,?_,?_,?_⟩
   all_goals first|rfl|(simp only[al,seval,hr1,hr2]<;>rfl)
  ·obtain⟨r64,hr64,hh⟩:=ah hh
   cases hh
   try simp only[al,seval,hr1,hr2,hr64]
   rw[an]
   refine⟨_,rfl,?_⟩
   refine⟨0,?_,?_,?_,?_⟩
   all_goals first|rfl|(simp only[al,seval,hr1,hr2,hr64]<;>rfl)
theorem Be:bP Tryz.prog 5 BG:=bP.of (mode := .clean) tok A6 mixed Tryz.func5 (by kernel_rfl) ⟨by kernel_rfl,by kernel_rfl⟩ (fun _=>ahf (by kernel_rfl)) (fun x r h=>DA x r h)
end Go.Proofs.YtmcncjgbkobjnaaGreat.Am
