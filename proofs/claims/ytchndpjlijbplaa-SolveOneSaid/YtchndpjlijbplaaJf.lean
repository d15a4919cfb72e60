/- Part of a proof, made small by a program (wip/mini.py). -/
import Derived.Test.YtchndpjlijbplaaJe
namespace Go.Proofs.Ytchndpjlijbplaa.Am
open Go.RowKit Go.Proofs.Ytchndpjlijbplaa.P
set_option maxRecDepth 100000
set_option maxHeartbeats 4000000
set_option linter.unusedSimpArgs false
set_option linter.unusedVariables false
theorem E7 (p0:bY) (p1:(List ak)) (p2:(List ak)) (r:Bool) (hh:dS p0 p1 p2=some r):bc .clean tab mV FU Try.f15 none [.agg [.int .i64 p0.aD,.sl false false p0.av.length (ae a8 p0.av)],.sl false false p1.length (ae az p1),.sl false false p2.length (ae az p2)]=some (.clean (.bool r),none):=by
 refine aC rfl Try.ntmps15 Try.results15 ?_
 unfold dS at hh
 obtain⟨r1,hr1,hh⟩:=ah hh
 try simp only[aT,seval,hr1]
 obtain⟨o2,ho2,hh⟩:=ah hh
 refine bt 0 (fun s t H e=>match s with|s28j1=>∃v3j1:Nat,t 1=.sl false false p1.length (ae az p1)∧t 2=.sl false false p2.length (ae az p2)∧t 3=.ptr 3 v3j1 0∧t 28=.bool s28j1∧H 3=some ⟨v3j1,24,[.int .i64 p0.aD,.sl false false p0.av.length (ae a8 p0.av)],false,false,false⟩) (fun s=>s=o2) ?_ ?_
 ·rintro s28j1 t H e ⟨v3j1,Zj1⟩ rfl
  try dsimp only at hh
  try simp only[aT,seval,hr1,Zj1]
  refine sp aq hh (fun _ hh =>?_) (fun _ hh =>?_)
  ·cases hh
   try simp only[aT,seval,hr1,Zj1]
  ·obtain⟨r4,hr4,hh⟩:=ah hh
   try simp only[aT,seval,hr1,Zj1,hr4]
   obtain⟨o19,ho19,hh⟩:=ah hh
   refine aB (fun s t H e=>match s with|s33b=>t 2=.sl false false p2.length (ae az p2)∧t 31=.sl false false r4.length (ae cF r4)∧t 32=.int .i64 (r4.length:Int)∧t 33=.int .i64 s33b) (fun o x t H e=>match o with|(.inl _)=>x=.exit 0|(.inr r)=>x=.ret∧jo .clean tab none [.tmp 6] ⟨t,EH H,e⟩=some (.clean (.bool r),none)) ho19 ?_ ?_ ?_
   ·refine⟨?_,?_,?_,?_⟩
    all_goals first|rfl|(simp only[aT,seval,hr1,Zj1,hr4]<;>rfl)
   ·rintro s33b t H e Zb c hh
    simp only[jF]at hh
    try simp only[aT,seval,hr1,hr4,Zb]
    refine sp aq hh (fun _ hh =>?_) (fun _ hh =>?_)
    ·obtain⟨x21,hx21,hh⟩:=ah hh
     have ax21:=bQ cF hx21
     simp only[bI]at ax21
     try simp only[aT,seval,hr1,hr4,Zb,ax21]
     obtain⟨o26,ho26,hh⟩:=ah hh
     refine aB (fun s t H e=>match s with|(s43d,r9_0d,r9_1d,r9_2d,r9_3d)=>∃v9d:Nat,t 2=.sl false false p2.length (ae az p2)∧t 7=.int .i64 s33b∧t 9=.ptr 9 v9d 0∧t 31=.sl false false r4.length (ae cF r4)∧t 32=.int .i64 (r4.length:Int)∧t 33=.int .i64 s33b∧t 41=.sl false false x21.bk.length (ae bo x21.bk)∧t 42=.int .i64 (x21.bk.length:Int)∧t 43=.int .i64 s43d∧H 9=some ⟨v9d,41,[.int .i64 r9_0d,.sl false false r9_1d.length (ae (eI .i64) r9_1d),.int .i64 r9_2d,.sl false false r9_3d.length (ae (eI .i64) r9_3d)],false,false,false⟩) (fun o x t H e=>match o with|(r9_0dx,r9_1dx,r9_2dx,r9_3dx)=>x=.exit 2∧∃v9dx:Nat,t 2=.sl false false p2.length (ae az p2)∧t 7=.int .i64 s33b∧t 9=.ptr 9 v9dx 0∧t 31=.sl false false r4.length (ae cF r4)∧t 32=.int .i64 (r4.length:Int)∧t 33=.int .i64 s33b∧H 9=some ⟨v9dx,41,[.int .i64 r9_0dx,.sl false false r9_1dx.length (ae (eI .i64) r9_1dx),.int .i64 r9_2dx,.sl false false r9_3dx.length (ae (eI .i64) r9_3dx)],false,false,false⟩) ho26 ?_ ?_ ?_
     ·refine⟨e+1+1,?_,?_,?_,?_,?_,?_,?_,?_,?_,?_⟩
      all_goals first|rfl|(simp only[aT,seval,hr1,hr4,Zb,ax21]<;>rfl)
     ·rintro⟨s43d,r9_0d,r9_1d,r9_2d,r9_3d⟩ t H e ⟨v9d,Zd⟩ c hh
      simp only[jG]at hh
      try simp only[aT,seval,hr1,hr4,ax21,Zd]
      refine sp aq hh (fun _ hh =>?_) (fun _ hh =>?_)
      ·obtain⟨x28,hx28,hh⟩:=ah hh
       have ax28:=bQ bo hx28
       simp only[bI]at ax28
       obtain⟨x29,hx29,hh⟩:=ah hh
       have ax29:=bQ az hx29
       simp only[bI]at ax29
       obtain⟨r30,hr30,hh⟩:=ah hh
       try simp only[aT,seval,hr1,hr4,ax21,Zd,ax28,ax29,hr30]
       refine bn (by kernel_rfl) ?_
       cases hh
       try simp only[aT,seval,hr1,hr4,ax21,Zd,ax28,ax29,hr30]
       refine j6 ?_
       refine⟨v9d,?_,?_,?_,?_,?_,?_,?_,?_,?_,?_⟩
       all_goals first|rfl|(simp only[aT,seval,hr1,hr4,ax21,Zd,ax28,ax29,hr30]<;>rfl)
      ·cases hh
       try simp only[aT,seval,hr1,hr4,ax21,Zd]
       refine lj ?_
       refine⟨rfl,⟨v9d,?_,?_,?_,?_,?_,?_,?_⟩⟩
       all_goals first|rfl|(simp only[aT,seval,hr1,hr4,ax21,Zd]<;>rfl)
     ·rintro x t H e hx
      rcases o26 with⟨r9_0dx,r9_1dx,r9_2dx,r9_3dx⟩
      dsimp only at hx hh
      obtain⟨rfl,⟨v9dx,Zdx⟩⟩:=hx
      obtain⟨x31,hx31,hh⟩:=ah hh
      have ax31:=bQ az hx31
      simp only[bI]at ax31
      obtain⟨r32,hr32,hh⟩:=ah hh
      try simp only[aT,seval,hr1,hr4,ax21,Zdx,ax31,hr32]
      refine bn (by kernel_rfl) ?_
      try simp only[aT,seval,hr1,hr4,ax21,Zdx,ax31,hr32]
      refine sp aq hh (fun _ hh =>?_) (fun _ hh =>?_)
      ·cases hh
       try simp only[aT,seval,hr1,hr4,ax21,Zdx,ax31,hr32]
       refine G2 ⟨rfl,?_⟩
       try simp only[aT,seval,hr1,hr4,ax21,Zdx,ax31,hr32]
      ·cases hh
       try simp only[aT,seval,hr1,hr4,ax21,Zdx,ax31,hr32]
       refine j6 ?_
       refine⟨?_,?_,?_,?_⟩
       all_goals first|rfl|(simp only[aT,seval,hr1,hr4,ax21,Zdx,ax31,hr32]<;>rfl)
    ·cases hh
     try simp only[aT,seval,hr1,hr4,Zb]
     refine lj ?_
     exact rfl
   ·rintro x t H e hx
    rcases o19 with _|rb
    ·dsimp only at hx hh
     subst hx
     cases hh
     try simp only[aT,seval,hr1,hr4]
    ·dsimp only at hx hh
     obtain⟨rfl,hE⟩:=hx
     cases hh
     try simp only[bJ,bq,bW,ep,eo,dk,dm]
     exact hE
 ·clear hh
  have hh:=ho2
  try simp only[aT,seval,hr1]
  refine sp bd hh (fun _ hh =>?_) (fun _ hh =>?_)
  ·cases hh
   try simp only[aT,seval,hr1]
   rw[au]
   refine⟨_,rfl,?_⟩
   refine⟨0,?_,?_,?_,?_,?_⟩
   all_goals first|rfl|(simp only[aT,seval,hr1]<;>rfl)
  ·obtain⟨r35,hr35,hh⟩:=ah hh
   try simp only[aT,seval,hr1,hr35]
   refine sp bd hh (fun _ hh =>?_) (fun _ hh =>?_)
   ·cases hh
    try simp only[aT,seval,hr1,hr35]
    rw[au]
    refine⟨_,rfl,?_⟩
    refine⟨0,?_,?_,?_,?_,?_⟩
    all_goals first|rfl|(simp only[aT,seval,hr1,hr35]<;>rfl)
   ·obtain⟨r37,hr37,hh⟩:=ah hh
    cases hh
    try simp only[aT,seval,hr1,hr35,hr37]
    rw[au]
    refine⟨_,rfl,?_⟩
    refine⟨0,?_,?_,?_,?_,?_⟩
    all_goals first|rfl|(simp only[aT,seval,hr1,hr35,hr37]<;>rfl)
theorem po:b6 Try.prog 15 kd:=b6.of (mode := .clean) tok CV mixed Try.func15 (by kernel_rfl) ⟨by kernel_rfl,by kernel_rfl⟩ (fun _=>afg (by kernel_rfl)) (fun x r h=>E7 x.1 x.2.1 x.2.2 r h)
noncomputable def wO:=fX (jh (cX nO) (jh (mL (eI .i64)) (fU (mL (eI .i64))))) (fun x:bY×(List Int)×(List Int)=>ng x.1 x.2.1 x.2.2) (fun r:Bool =>.clean (.bool r))
theorem mF (p0_0:Int) (p0_1:(List dy)) (p1:(List Int)) (p2:(List Int)):wO none [.agg [.int .i64 p0_0,.sl false false p0_1.length (ae a8 p0_1)],.sl false false p1.length (ae (eI .i64) p1),.sl false false p2.length (ae (eI .i64) p2)]=(ng (bY.mk p0_0 p0_1) p1 p2).map fun r:Bool=>(.clean (.bool r),none):=aU _ _ _ ((bY.mk p0_0 p0_1),p1,p2)
noncomputable def rY:Env:=(Am.ext (Am.ext (Am.ext (Am.ext a6 13 false oI) 15 false kd) 16 false rn) 32 false rf)
theorem LZ:bA Try.prog rY:=((((bA.none.add um false).add po false).add Au false).add Aq false)
theorem iJ:type_of% (ai @w<|ai @jC<|ai @gO<|ai @sA<|ai @jA<|@rY.eq_1):=⟨@w,@jC,@gO,@sA,@jA,@rY.eq_1⟩
theorem P0 (p0:bY) (p1:(List Int)) (p2:(List Int)) (r:Bool) (hh:ng p0 p1 p2=some r):bc .clean tab rY FU Try.f33 none [.agg [.int .i64 p0.aD,.sl false false p0.av.length (ae a8 p0.av)],.sl false false p1.length (ae (eI .i64) p1),.sl false false p2.length (ae (eI .i64) p2)]=some (.clean (.bool r),none):=by
 refine aC rfl Try.ntmps33 Try.results33 ?_
 unfold ng at hh
 obtain⟨r1,hr1,hh⟩:=ah hh
 obtain⟨r2,hr2,hh⟩:=ah hh
 try simp only[iJ,seval,hr1,hr2]
 refine bn (by kernel_rfl) ?_
 try simp only[iJ,seval,hr1,hr2]
 refine sp sO hh (fun _ hh =>?_) (fun _ hh =>?_)
 ·obtain⟨r4,hr4,hh⟩:=ah hh
  obtain⟨r5,hr5,hh⟩:=ah hh
  try simp only[iJ,seval,hr1,hr2,hr4,hr5]
  refine sp sO hh (fun _ hh =>?_) (fun _ hh =>?_)
  ·obtain⟨r7,hr7,hh⟩:=ah hh
   try simp only[iJ,seval,hr1,hr2,hr4,hr5,hr7]
   refine bn (by kernel_rfl) ?_
   cases hh
   try simp only[iJ,seval,hr1,hr2,hr4,hr5,hr7]
  ·try simp only[iJ,seval,hr1,hr2,hr4,hr5]
   refine bn (by kernel_rfl) ?_
   cases hh
   try simp only[iJ,seval,hr1,hr2,hr4,hr5]
 ·try simp only[iJ,seval,hr1,hr2]
  refine bn (by kernel_rfl) ?_
  cases hh
  try simp only[iJ,seval,hr1,hr2]
theorem NI:b6 Try.prog 33 wO:=b6.of (mode := .clean) tok LZ mixed Try.func33 (by kernel_rfl) ⟨by kernel_rfl,by kernel_rfl⟩ (fun _=>afg (by kernel_rfl)) (fun x r h=>P0 x.1 x.2.1 x.2.2 r h)
noncomputable def tz:=fX (as0) (fun x:Unit=>ox) (fun r:Bool =>.clean (.bool r))
theorem Az:tz none []=(ox).map fun r:Bool=>(.clean (.bool r),none):=aU _ _ _ ()
noncomputable def pO:Env:=(Am.ext (Am.ext (Am.ext (Am.ext (Am.ext a6 13 false oI) 15 false kd) 31 false wP) 32 false rf) 33 false wO)
theorem I1:bA Try.prog pO:=(((((bA.none.add um false).add po false).add NJ false).add Aq false).add NI false)
theorem bu:type_of% (ai @w<|ai @jC<|ai @gO<|ai @DV<|ai @jA<|ai @mF<|@pO.eq_1):=⟨@w,@jC,@gO,@DV,@jA,@mF,@pO.eq_1⟩
theorem MY (r:Bool) (hh:ox=some r):bc .clean tab pO FU Try.f8 none []=some (.clean (.bool r),none):=by
 refine aC rfl Try.ntmps8 Try.results8 ?_
 unfold ox at hh
 obtain⟨r1,hr1,hh⟩:=ah hh
 obtain⟨r2,hr2,hh⟩:=ah hh
 obtain⟨r3,hr3,hh⟩:=ah hh
 obtain⟨r4,hr4,hh⟩:=ah hh
 obtain⟨r5,hr5,hh⟩:=ah hh
 obtain⟨r6,hr6,hh⟩:=ah hh
 have i7:=jA ([1,0])
 simp only[aL,bI,List.length_cons,List.length_nil,aen,Nat.reduceAdd,afz]at i7
 obtain⟨r8,hr8,hh⟩:=ah hh
 have i9:=jC 2 ([r3,r6]) r8
 simp only[aL,bI,List.length_cons,List.length_nil,aen,Nat.reduceAdd,afz]at i9
 obtain⟨r10,hr10,hh⟩:=ah hh
 try simp only[bu,seval,hr1,hr2,hr3,hr4,hr5,hr6,i7,hr8,i9,hr10]
 refine bn (by kernel_rfl) ?_
 have i11:=jA ([1])
 simp only[aL,bI,List.length_cons,List.length_nil,aen,Nat.reduceAdd,afz]at i11
 obtain⟨r12,hr12,hh⟩:=ah hh
 have i13:=jC 2 ([r1,r2]) r12
 simp only[aL,bI,List.length_cons,List.length_nil,aen,Nat.reduceAdd,afz]at i13
 obtain⟨r14,hr14,hh⟩:=ah hh
 try simp only[bu,seval,hr1,hr2,hr3,hr4,hr5,hr6,i7,hr8,i9,hr10,i11,hr12,i13,hr14]
 refine bn (by kernel_rfl) ?_
 have i15:=mF 2 ([r1,r2]) ([30,0]) ([40,20])
 simp only[aL,bI,List.length_cons,List.length_nil,aen,Nat.reduceAdd,afz]at i15
 obtain⟨r16,hr16,hh⟩:=ah hh
 try simp only[bu,seval,hr1,hr2,hr3,hr4,hr5,hr6,i7,hr8,i9,hr10,i11,hr12,i13,hr14,i15,hr16]
 obtain⟨o17,ho17,hh⟩:=ah hh
 refine bt 0 (fun s t H e=>match s with|s9j1=>∃v1j1:Nat,t 1=.ptr 1 v1j1 0∧t 6=.int .i64 r10.2∧t 8=.int .i64 r14.2∧t 9=.bool s9j1∧H 1=some ⟨v1j1,24,[.int .i64 2,.sl false false ([r1,r2]).length (ae a8 ([r1,r2]))],false,false,false⟩) (fun s=>s=o17) ?_ ?_
 ·rintro s9j1 t H e ⟨v1j1,Zj1⟩ rfl
  try dsimp only at hh
  try simp only[bu,seval,hr1,hr2,hr3,hr4,hr5,hr6,i7,hr8,i9,hr10,i11,hr12,i13,hr14,i15,hr16,Zj1]
  refine sp sO hh (fun _ hh =>?_) (fun _ hh =>?_)
  ·try simp only[bu,seval,hr1,hr2,hr3,hr4,hr5,hr6,i7,hr8,i9,hr10,i11,hr12,i13,hr14,i15,hr16,Zj1]
   refine sp sO hh (fun _ hh =>?_) (fun _ hh =>?_)
   ·try simp only[bu,seval,hr1,hr2,hr3,hr4,hr5,hr6,i7,hr8,i9,hr10,i11,hr12,i13,hr14,i15,hr16,Zj1]
    refine sp sO hh (fun _ hh =>?_) (fun _ hh =>?_)
    ·have i21:=jA ([30,0])
     simp only[aL,bI,List.length_cons,List.length_nil,aen,Nat.reduceAdd,afz]at i21
     obtain⟨r22,hr22,hh⟩:=ah hh
     have i23:=jA ([40,21])
     simp only[aL,bI,List.length_cons,List.length_nil,aen,Nat.reduceAdd,afz]at i23
     obtain⟨r24,hr24,hh⟩:=ah hh
     have i25:=gO 2 ([r1,r2]) r22 r24
     simp only[aL,bI,List.length_cons,List.length_nil,aen,Nat.reduceAdd,afz]at i25
     obtain⟨r26,hr26,hh⟩:=ah hh
     try simp only[bu,seval,hr1,hr2,hr3,hr4,hr5,hr6,i7,hr8,i9,hr10,i11,hr12,i13,hr14,i15,hr16,Zj1,i21,hr22,i23,hr24,i25,hr26]
     refine bn (by kernel_rfl) ?_
     cases hh
     try simp only[bu,seval,hr1,hr2,hr3,hr4,hr5,hr6,i7,hr8,i9,hr10,i11,hr12,i13,hr14,i15,hr16,Zj1,i21,hr22,i23,hr24,i25,hr26]
    ·try simp only[bu,seval,hr1,hr2,hr3,hr4,hr5,hr6,i7,hr8,i9,hr10,i11,hr12,i13,hr14,i15,hr16,Zj1]
     refine bn (by kernel_rfl) ?_
     cases hh
     try simp only[bu,seval,hr1,hr2,hr3,hr4,hr5,hr6,i7,hr8,i9,hr10,i11,hr12,i13,hr14,i15,hr16,Zj1]
   ·try simp only[bu,seval,hr1,hr2,hr3,hr4,hr5,hr6,i7,hr8,i9,hr10,i11,hr12,i13,hr14,i15,hr16,Zj1]
    refine bn (by kernel_rfl) ?_
    cases hh
    try simp only[bu,seval,hr1,hr2,hr3,hr4,hr5,hr6,i7,hr8,i9,hr10,i11,hr12,i13,hr14,i15,hr16,Zj1]
  ·try simp only[bu,seval,hr1,hr2,hr3,hr4,hr5,hr6,i7,hr8,i9,hr10,i11,hr12,i13,hr14,i15,hr16,Zj1]
   refine bn (by kernel_rfl) ?_
   cases hh
   try simp only[bu,seval,hr1,hr2,hr3,hr4,hr5,hr6,i7,hr8,i9,hr10,i11,hr12,i13,hr14,i15,hr16,Zj1]
 ·clear hh
  have hh:=ho17
  try simp only[bu,seval,hr1,hr2,hr3,hr4,hr5,hr6,i7,hr8,i9,hr10,i11,hr12,i13,hr14,i15,hr16]
  refine sp dp hh (fun _ hh =>?_) (fun _ hh =>?_)
  ·have i28:=mF 3 ([r3,r4]) ([6,3,0]) ([6,9,3])
   simp only[aL,bI,List.length_cons,List.length_nil,aen,Nat.reduceAdd,afz]at i28
   obtain⟨r29,hr29,hh⟩:=ah hh
   try simp only[bu,seval,hr1,hr2,hr3,hr4,hr5,hr6,i7,hr8,i9,hr10,i11,hr12,i13,hr14,i15,hr16,i28,hr29]
   refine sp dp hh (fun _ hh =>?_) (fun _ hh =>?_)
   ·have i31:=mF 1 ([r5]) ([1]) ([4])
    simp only[aL,bI,List.length_cons,List.length_nil,aen,Nat.reduceAdd,afz]at i31
    obtain⟨r32,hr32,hh⟩:=ah hh
    try simp only[bu,seval,hr1,hr2,hr3,hr4,hr5,hr6,i7,hr8,i9,hr10,i11,hr12,i13,hr14,i15,hr16,i28,hr29,i31,hr32]
    refine sp dp hh (fun _ hh =>?_) (fun _ hh =>?_)
    ·have i34:=mF 0 ([]) ([]) ([])
     simp only[aL,bI,List.length_cons,List.length_nil,aen,Nat.reduceAdd,afz]at i34
     obtain⟨r35,hr35,hh⟩:=ah hh
     cases hh
     try simp only[bu,seval,hr1,hr2,hr3,hr4,hr5,hr6,i7,hr8,i9,hr10,i11,hr12,i13,hr14,i15,hr16,i28,hr29,i31,hr32,i34,hr35]
     rw[au]
     refine⟨_,rfl,?_⟩
     refine⟨1,?_,?_,?_,?_,?_⟩
     all_goals first|rfl|(simp only[bu,seval,hr1,hr2,hr3,hr4,hr5,hr6,i7,hr8,i9,hr10,i11,hr12,i13,hr14,i15,hr16,i28,hr29,i31,hr32,i34,hr35]<;>rfl)
    ·cases hh
     try simp only[bu,seval,hr1,hr2,hr3,hr4,hr5,hr6,i7,hr8,i9,hr10,i11,hr12,i13,hr14,i15,hr16,i28,hr29,i31,hr32]
     rw[au]
     refine⟨_,rfl,?_⟩
     refine⟨1,?_,?_,?_,?_,?_⟩
     all_goals first|rfl|(simp only[bu,seval,hr1,hr2,hr3,hr4,hr5,hr6,i7,hr8,i9,hr10,i11,hr12,i13,hr14,i15,hr16,i28,hr29,i31,hr32]<;>rfl)
   ·cases hh
    try simp only[bu,seval,hr1,hr2,hr3,hr4,hr5,hr6,i7,hr8,i9,hr10,i11,hr12,i13,hr14,i15,hr16,i28,hr29]
    rw[au]
    refine⟨_,rfl,?_⟩
    refine⟨1,?_,?_,?_,?_,?_⟩
    all_goals first|rfl|(simp only[bu,seval,hr1,hr2,hr3,hr4,hr5,hr6,i7,hr8,i9,hr10,i11,hr12,i13,hr14,i15,hr16,i28,hr29]<;>rfl)
  ·cases hh
   try simp only[bu,seval,hr1,hr2,hr3,hr4,hr5,hr6,i7,hr8,i9,hr10,i11,hr12,i13,hr14,i15,hr16]
   rw[au]
   refine⟨_,rfl,?_⟩
   refine⟨1,?_,?_,?_,?_,?_⟩
   all_goals first|rfl|(simp only[bu,seval,hr1,hr2,hr3,hr4,hr5,hr6,i7,hr8,i9,hr10,i11,hr12,i13,hr14,i15,hr16]<;>rfl)
theorem Jw:b6 Try.prog 8 tz:=b6.of (mode := .clean) tok I1 mixed Try.func8 (by kernel_rfl) ⟨by kernel_rfl,by kernel_rfl⟩ (fun _=>afg (by kernel_rfl)) (fun x r h=>MY  r h)
noncomputable def uO:=fX (jh (cX az) (fU (aI .i64))) (fun x:ak×Int=>qh x.1 x.2) (fun r:Bool =>.clean (.bool r))
theorem vI (p0_0:Int) (p0_1:(List Int)) (p0_2:Int) (p0_3:(List Int)) (p1:Int):uO none [.agg [.int .i64 p0_0,.sl false false p0_1.length (ae (eI .i64) p0_1),.int .i64 p0_2,.sl false false p0_3.length (ae (eI .i64) p0_3)],.int .i64 p1]=(qh (ak.mk (al.mk p0_0 p0_1) (al.mk p0_2 p0_3)) p1).map fun r:Bool=>(.clean (.bool r),none):=aU _ _ _ ((ak.mk (al.mk p0_0 p0_1) (al.mk p0_2 p0_3)),p1)
theorem Uo (p0:ak) (p1:Int) (r:Bool) (hh:qh p0 p1=some r):bc .clean tab a6 FU Try.f21 none [.agg [.int .i64 p0.aH.ag,.sl false false p0.aH.aa.length (ae (eI .i64) p0.aH.aa),.int .i64 p0.aK.ag,.sl false false p0.aK.aa.length (ae (eI .i64) p0.aK.aa)],.int .i64 p1]=some (.clean (.bool r),none):=by
 refine aC rfl Try.ntmps21 Try.results21 ?_
 unfold qh at hh
 try simp only[w,seval]
 refine sp dp hh (fun _ hh =>?_) (fun _ hh =>?_)
 ·cases hh
  try simp only[w,seval]
 ·cases hh
  try simp only[w,seval]
theorem DI:b6 Try.prog 21 uO:=b6.of (mode := .clean) tok bA.none mixed Try.func21 (by kernel_rfl) ⟨by kernel_rfl,by kernel_rfl⟩ (fun _=>afg (by kernel_rfl)) (fun x r h=>Uo x.1 x.2 r h)
noncomputable def rm:=fX (fU (cX nO)) (fun x:bY=>kT x) (fun r:Bool =>.clean (.bool r))
theorem yw (p0_0:Int) (p0_1:(List dy)):rm none [.agg [.int .i64 p0_0,.sl false false p0_1.length (ae a8 p0_1)]]=(kT (bY.mk p0_0 p0_1)).map fun r:Bool=>(.clean (.bool r),none):=aU _ _ _ ((bY.mk p0_0 p0_1))
noncomputable def n6:Env:=(Am.ext a6 21 false uO)
theorem EV:bA Try.prog n6:=(bA.none.add DI false)
theorem bL:type_of% (ai @w<|ai @vI<|@n6.eq_1):=⟨@w,@vI,@n6.eq_1⟩
theorem Jj (p0:bY) (r:Bool) (hh:kT p0=some r):bc .clean tab n6 FU Try.f28 none [.agg [.int .i64 p0.aD,.sl false false p0.av.length (ae a8 p0.av)]]=some (.clean (.bool r),none):=by
 refine aC rfl Try.ntmps28 Try.results28 ?_
 unfold kT at hh
 try simp only[bL,seval]
 obtain⟨o7,ho7,hh⟩:=ah hh
 refine aB (fun s t H e=>match s with|s3a=>∃v1a:Nat,t 1=.ptr 1 v1a 0∧t 3=.int .i64 s3a∧H 1=some ⟨v1a,24,[.int .i64 p0.aD,.sl false false p0.av.length (ae a8 p0.av)],false,false,false⟩) (fun o x t H e=>match o with|(.inl _)=>x=.exit 0∧∃v1ax:Nat,t 1=.ptr 1 v1ax 0∧H 1=some ⟨v1ax,24,[.int .i64 p0.aD,.sl false false p0.av.length (ae a8 p0.av)],false,false,false⟩|(.inr r)=>x=.ret∧jo .clean tab none [.tmp 2] ⟨t,EH H,e⟩=some (.clean (.bool r),none)) ho7 ?_ ?_ ?_
 ·refine⟨0,?_,?_,?_⟩
  all_goals first|rfl|(simp only[bL,seval]<;>rfl)
 ·rintro s3a t H e ⟨v1a,Za⟩ c hh
  simp only[m0]at hh
  try simp only[bL,seval,Za]
  obtain⟨o8,ho8,hh⟩:=ah hh
  refine bt 0 (fun s t H e=>match s with|s12j3=>∃v1j3:Nat,t 1=.ptr 1 v1j3 0∧t 3=.int .i64 s3a∧t 12=.bool s12j3∧H 1=some ⟨v1j3,24,[.int .i64 p0.aD,.sl false false p0.av.length (ae a8 p0.av)],false,false,false⟩) (fun s=>s=o8) ?_ ?_
  ·rintro s12j3 t H e ⟨v1j3,Zj3⟩ rfl
   try dsimp only at hh
   try simp only[bL,seval,Zj3]
   refine sp aq hh (fun _ hh =>?_) (fun _ hh =>?_)
   ·obtain⟨x10,hx10,hh⟩:=ah hh
    have ax10:=bQ a8 hx10
    simp only[bI]at ax10
    obtain⟨r11,hr11,hh⟩:=ah hh
    try simp only[bL,seval,Zj3,ax10,hr11]
    refine sp aq hh (fun _ hh =>?_) (fun _ hh =>?_)
    ·cases hh
     try simp only[bL,seval,Zj3,ax10,hr11]
     refine G2 ⟨rfl,?_⟩
     try simp only[bL,seval,Zj3,ax10,hr11]
    ·cases hh
     try simp only[bL,seval,Zj3,ax10,hr11]
     refine j6 ?_
     refine⟨v1j3,?_,?_,?_⟩
     all_goals first|rfl|(simp only[bL,seval,Zj3,ax10,hr11]<;>rfl)
   ·cases hh
    try simp only[bL,seval,Zj3]
    refine lj ?_
    refine⟨rfl,⟨v1j3,?_,?_⟩⟩
    all_goals first|rfl|(simp only[bL,seval,Zj3]<;>rfl)
  ·clear hh
   have hh:=ho8
   try simp only[bL,seval,Za]
   refine sp dp hh (fun _ hh =>?_) (fun _ hh =>?_)
   ·cases hh
    try simp only[bL,seval,Za]
    rw[au]
    refine⟨_,rfl,?_⟩
    refine⟨v1a,?_,?_,?_,?_⟩
    all_goals first|rfl|(simp only[bL,seval,Za]<;>rfl)
   ·cases hh
    try simp only[bL,seval,Za]
    rw[au]
    refine⟨_,rfl,?_⟩
    refine⟨v1a,?_,?_,?_,?_⟩
    all_goals first|rfl|(simp only[bL,seval,Za]<;>rfl)
 ·rintro x t H e hx
  rcases o7 with _|ra
  ·dsimp only at hx hh
   obtain⟨rfl,⟨v1ax,Zax⟩⟩:=hx
   try simp only[bL,seval,Zax]
   refine sp bd hh (fun _ hh =>?_) (fun _ hh =>?_)
   ·cases hh
    try simp only[bL,seval,Zax]
   ·try simp only[bL,seval,Zax]
    refine sp dp hh (fun _ hh =>?_) (fun _ hh =>?_)
    ·cases hh
     try simp only[bL,seval,Zax]
    ·cases hh
     try simp only[bL,seval,Zax]
  ·dsimp only at hx hh
   obtain⟨rfl,hE⟩:=hx
   cases hh
   try simp only[bJ,bq,bW,ep,eo,dk,dm]
   exact hE
theorem Fc:b6 Try.prog 28 rm:=b6.of (mode := .clean) tok EV mixed Try.func28 (by kernel_rfl) ⟨by kernel_rfl,by kernel_rfl⟩ (fun _=>afg (by kernel_rfl)) (fun x r h=>Jj x r h)
noncomputable def uQ:=fX (jh (mL az) (fU (aI .i64))) (fun x:(List ak)×Int=>qk x.1 x.2) (fun r:Bool =>.clean (.bool r))
theorem vK (p0:(List ak)) (p1:Int):uQ none [.sl false false p0.length (ae az p0),.int .i64 p1]=(qk p0 p1).map fun r:Bool=>(.clean (.bool r),none):=aU _ _ _ (p0,p1)
noncomputable def vw:Env:=(Am.ext a6 21 false uO)
theorem PI:bA Try.prog vw:=(bA.none.add DI false)
theorem dY:type_of% (ai @w<|ai @vI<|@vw.eq_1):=⟨@w,@vI,@vw.eq_1⟩
theorem Ur (p0:(List ak)) (p1:Int) (r:Bool) (hh:qk p0 p1=some r):bc .clean tab vw FU Try.f10 none [.sl false false p0.length (ae az p0),.int .i64 p1]=some (.clean (.bool r),none):=by
 refine aC rfl Try.ntmps10 Try.results10 ?_
 unfold qk at hh
 try simp only[dY,seval]
 obtain⟨o7,ho7,hh⟩:=ah hh
 refine aB (fun s t H e=>match s with|s5a=>t 0=.sl false false p0.length (ae az p0)∧t 1=.int .i64 p1∧t 5=.int .i64 s5a) (fun o x t H e=>match o with|(.inl _)=>x=.exit 0∧t 0=.sl false false p0.length (ae az p0)|(.inr r)=>x=.ret∧jo .clean tab none [.tmp 4] ⟨t,EH H,e⟩=some (.clean (.bool r),none)) ho7 ?_ ?_ ?_
 ·refine⟨?_,?_,?_⟩
  all_goals first|rfl|(simp only[dY,seval]<;>rfl)
 ·rintro s5a t H e Za c hh
  simp only[sD]at hh
  try simp only[dY,seval,Za]
  obtain⟨o8,ho8,hh⟩:=ah hh
  refine bt 0 (fun s t H e=>match s with|s13j3=>t 0=.sl false false p0.length (ae az p0)∧t 1=.int .i64 p1∧t 5=.int .i64 s5a∧t 13=.bool s13j3) (fun s=>s=o8) ?_ ?_
  ·rintro s13j3 t H e Zj3 rfl
   try dsimp only at hh
   try simp only[dY,seval,Zj3]
   refine sp aq hh (fun _ hh =>?_) (fun _ hh =>?_)
   ·obtain⟨x10,hx10,hh⟩:=ah hh
    have ax10:=bQ az hx10
    simp only[bI]at ax10
    obtain⟨r11,hr11,hh⟩:=ah hh
    try simp only[dY,seval,Zj3,ax10,hr11]
    refine sp aq hh (fun _ hh =>?_) (fun _ hh =>?_)
    ·cases hh
     try simp only[dY,seval,Zj3,ax10,hr11]
     refine G2 ⟨rfl,?_⟩
     try simp only[dY,seval,Zj3,ax10,hr11]
    ·cases hh
     try simp only[dY,seval,Zj3,ax10,hr11]
     refine j6 ?_
     refine⟨?_,?_,?_⟩
     all_goals first|rfl|(simp only[dY,seval,Zj3,ax10,hr11]<;>rfl)
   ·cases hh
    try simp only[dY,seval,Zj3]
    refine lj ?_
    refine⟨rfl,?_⟩
    all_goals first|rfl|(simp only[dY,seval,Zj3]<;>rfl)
  ·clear hh
   have hh:=ho8
   try simp only[dY,seval,Za]
   refine sp dp hh (fun _ hh =>?_) (fun _ hh =>?_)
   ·cases hh
    try simp only[dY,seval,Za]
    rw[au]
    refine⟨_,rfl,?_⟩
    refine⟨?_,?_,?_,?_⟩
    all_goals first|rfl|(simp only[dY,seval,Za]<;>rfl)
   ·cases hh
    try simp only[dY,seval,Za]
    rw[au]
    refine⟨_,rfl,?_⟩
    refine⟨?_,?_,?_,?_⟩
    all_goals first|rfl|(simp only[dY,seval,Za]<;>rfl)
 ·rintro x t H e hx
  rcases o7 with _|ra
  ·dsimp only at hx hh
   obtain⟨rfl,Zax⟩:=hx
   cases hh
   try simp only[dY,seval,Zax]
  ·dsimp only at hx hh
   obtain⟨rfl,hE⟩:=hx
   cases hh
   try simp only[bJ,bq,bW,ep,eo,dk,dm]
   exact hE
theorem DM:b6 Try.prog 10 uQ:=b6.of (mode := .clean) tok PI mixed Try.func10 (by kernel_rfl) ⟨by kernel_rfl,by kernel_rfl⟩ (fun _=>afg (by kernel_rfl)) (fun x r h=>Ur x.1 x.2 r h)
noncomputable def yP:=fX (jh (cX nO) (fU (mL az))) (fun x:bY×(List ak)=>sj x.1 x.2) (fun r:Bool =>.clean (.bool r))
theorem HE (p0_0:Int) (p0_1:(List dy)) (p1:(List ak)):yP none [.agg [.int .i64 p0_0,.sl false false p0_1.length (ae a8 p0_1)],.sl false false p1.length (ae az p1)]=(sj (bY.mk p0_0 p0_1) p1).map fun r:Bool=>(.clean (.bool r),none):=aU _ _ _ ((bY.mk p0_0 p0_1),p1)
noncomputable def vo:Env:=(Am.ext (Am.ext a6 10 false uQ) 28 false rm)
theorem PC:bA Try.prog vo:=((bA.none.add DM false).add Fc false)
theorem zC:type_of% (ai @w<|ai @vK<|ai @yw<|@vo.eq_1):=⟨@w,@vK,@yw,@vo.eq_1⟩
theorem Uk (p0:bY) (p1:(List ak)) (r:Bool) (hh:sj p0 p1=some r):bc .clean tab vo FU Try.f9 none [.agg [.int .i64 p0.aD,.sl false false p0.av.length (ae a8 p0.av)],.sl false false p1.length (ae az p1)]=some (.clean (.bool r),none):=by
 refine aC rfl Try.ntmps9 Try.results9 ?_
 unfold sj at hh
 obtain⟨r1,hr1,hh⟩:=ah hh
 try simp only[zC,seval,hr1]
 refine sp dp hh (fun _ hh =>?_) (fun _ hh =>?_)
 ·obtain⟨r3,hr3,hh⟩:=ah hh
  cases hh
  try simp only[zC,seval,hr1,hr3]
 ·cases hh
  try simp only[zC,seval,hr1]
theorem Qj:b6 Try.prog 9 yP:=b6.of (mode := .clean) tok PC mixed Try.func9 (by kernel_rfl) ⟨by kernel_rfl,by kernel_rfl⟩ (fun _=>afg (by kernel_rfl)) (fun x r h=>Uk x.1 x.2 r h)
noncomputable def wQ:=fX (jh (cX eB) (fU (cX eB))) (fun x:al×al=>qS x.1 x.2) (fun r:Bool =>.clean (.bool r))
theorem DW (p0_0:Int) (p0_1:(List Int)) (p1_0:Int) (p1_1:(List Int)):wQ none [.agg [.int .i64 p0_0,.sl false false p0_1.length (ae (eI .i64) p0_1)],.agg [.int .i64 p1_0,.sl false false p1_1.length (ae (eI .i64) p1_1)]]=(qS (al.mk p0_0 p0_1) (al.mk p1_0 p1_1)).map fun r:Bool=>(.clean (.bool r),none):=aU _ _ _ ((al.mk p0_0 p0_1),(al.mk p1_0 p1_1))
theorem P4 (p0:al) (p1:al) (r:Bool) (hh:qS p0 p1=some r):bc .clean tab a6 FU Try.f87 none [.agg [.int .i64 p0.ag,.sl false false p0.aa.length (ae (eI .i64) p0.aa)],.agg [.int .i64 p1.ag,.sl false false p1.aa.length (ae (eI .i64) p1.aa)]]=some (.clean (.bool r),none):=by
 refine aC rfl Try.ntmps87 Try.results87 ?_
 unfold qS at hh
 try simp only[w,seval]
 obtain⟨o1,ho1,hh⟩:=ah hh
 refine bt 0 (fun s t H e=>match s with|s19j1=>∃v2j1:Nat,∃v3j1:Nat,t 2=.ptr 2 v2j1 0∧t 3=.ptr 3 v3j1 0∧t 19=.bool s19j1∧H 2=some ⟨v2j1,39,[.int .i64 p0.ag,.sl false false p0.aa.length (ae (eI .i64) p0.aa)],false,false,false⟩∧H 3=some ⟨v3j1,39,[.int .i64 p1.ag,.sl false false p1.aa.length (ae (eI .i64) p1.aa)],false,false,false⟩) (fun s=>s=o1) ?_ ?_
 ·rintro s19j1 t H e ⟨v2j1,v3j1,Zj1⟩ rfl
  try dsimp only at hh
  try simp only[w,seval,Zj1]
  refine sp aq hh (fun _ hh =>?_) (fun _ hh =>?_)
  ·cases hh
   try simp only[w,seval,Zj1]
  ·try simp only[w,seval,Zj1]
   obtain⟨o7,ho7,hh⟩:=ah hh
   refine aB (fun s t H e=>match s with|s5b=>∃v2b:Nat,∃v3b:Nat,t 2=.ptr 2 v2b 0∧t 3=.ptr 3 v3b 0∧t 5=.int .i64 s5b∧H 2=some ⟨v2b,39,[.int .i64 p0.ag,.sl false false p0.aa.length (ae (eI .i64) p0.aa)],false,false,false⟩∧H 3=some ⟨v3b,39,[.int .i64 p1.ag,.sl false false p1.aa.length (ae (eI .i64) p1.aa)],false,false,false⟩) (fun o x t H e=>match o with|(.inl _)=>x=.exit 0|(.inr r)=>x=.ret∧jo .clean tab none [.tmp 4] ⟨t,EH H,e⟩=some (.clean (.bool r),none)) ho7 ?_ ?_ ?_
   ·refine⟨v2j1,v3j1,?_,?_,?_,?_,?_⟩
    all_goals first|rfl|(simp only[w,seval,Zj1]<;>rfl)
   ·rintro s5b t H e ⟨v2b,v3b,Zb⟩ c hh
    simp only[AD]at hh
    try simp only[w,seval,Zb]
    refine sp aq hh (fun _ hh =>?_) (fun _ hh =>?_)
    ·obtain⟨x9,hx9,hh⟩:=ah hh
     have ax9:=bQ (eI .i64) hx9
     simp only[bI]at ax9
     obtain⟨x10,hx10,hh⟩:=ah hh
     have ax10:=bQ (eI .i64) hx10
     simp only[bI]at ax10
     try simp only[w,seval,Zb,ax9,ax10]
     refine bn (by kernel_rfl) ?_
     try simp only[w,seval,Zb,ax9,ax10]
     refine sp aq hh (fun _ hh =>?_) (fun _ hh =>?_)
     ·cases hh
      try simp only[w,seval,Zb,ax9,ax10]
      refine G2 ⟨rfl,?_⟩
      try simp only[w,seval,Zb,ax9,ax10]
     ·cases hh
      try simp only[w,seval,Zb,ax9,ax10]
      refine j6 ?_
      refine⟨v2b,v3b,?_,?_,?_,?_,?_⟩
      all_goals first|rfl|(simp only[w,seval,Zb,ax9,ax10]<;>rfl)
    ·cases hh
     try simp only[w,seval,Zb]
     refine lj ?_
     exact rfl
   ·rintro x t H e hx
    rcases o7 with _|rb
    ·dsimp only at hx hh
     subst hx
     cases hh
     try simp only[w,seval]
    ·dsimp only at hx hh
     obtain⟨rfl,hE⟩:=hx
     cases hh
     try simp only[bJ,bq,bW,ep,eo,dk,dm]
     exact hE
 ·clear hh
  have hh:=ho1
  try simp only[w,seval]
  refine sp bd hh (fun _ hh =>?_) (fun _ hh =>?_)
  ·cases hh
   try simp only[w,seval]
   rw[au]
   refine⟨_,rfl,?_⟩
   refine⟨0,0,?_,?_,?_,?_,?_⟩
   all_goals first|rfl|(simp only[w,seval]<;>rfl)
  ·cases hh
   try simp only[w,seval]
   rw[au]
   refine⟨_,rfl,?_⟩
   refine⟨0,0,?_,?_,?_,?_,?_⟩
   all_goals first|rfl|(simp only[w,seval]<;>rfl)
theorem NL:b6 Try.prog 87 wQ:=b6.of (mode := .clean) tok bA.none mixed Try.func87 (by kernel_rfl) ⟨by kernel_rfl,by kernel_rfl⟩ (fun _=>afg (by kernel_rfl)) (fun x r h=>P4 x.1 x.2 r h)
noncomputable def qt:=fX (jh (cX eB) (fU (cX eB))) (fun x:al×al=>jD x.1 x.2) (fun r:Int =>.clean (.int .i64 r))
theorem wD (p0_0:Int) (p0_1:(List Int)) (p1_0:Int) (p1_1:(List Int)):qt none [.agg [.int .i64 p0_0,.sl false false p0_1.length (ae (eI .i64) p0_1)],.agg [.int .i64 p1_0,.sl false false p1_1.length (ae (eI .i64) p1_1)]]=(jD (al.mk p0_0 p0_1) (al.mk p1_0 p1_1)).map fun r:Int=>(.clean (.int .i64 r),none):=aU _ _ _ ((al.mk p0_0 p0_1),(al.mk p1_0 p1_1))
noncomputable def mT:Env:=(Am.ext (Am.ext (Am.ext a6 55 false ik) 87 false wQ) 88 false rj)
theorem CT:bA Try.prog mT:=(((bA.none.add jY false).add NL false).add Ar false)
theorem bK:type_of% (ai @w<|ai @eC<|ai @DW<|ai @sv<|@mT.eq_1):=⟨@w,@eC,@DW,@sv,@mT.eq_1⟩
theorem E4 (p0:al) (p1:al) (r:Int) (hh:jD p0 p1=some r):bc .clean tab mT FU Try.f57 none [.agg [.int .i64 p0.ag,.sl false false p0.aa.length (ae (eI .i64) p0.aa)],.agg [.int .i64 p1.ag,.sl false false p1.aa.length (ae (eI .i64) p1.aa)]]=some (.clean (.int .i64 r),none):=by
 refine aC rfl Try.ntmps57 Try.results57 ?_
 unfold jD at hh
 obtain⟨r1,hr1,hh⟩:=ah hh
 try simp only[bK,seval,hr1]
 obtain⟨o2,ho2,hh⟩:=ah hh
 refine bt 0 (fun s t H e=>match s with|s17j1=>∃v2j1:Nat,∃v3j1:Nat,t 2=.ptr 2 v2j1 0∧t 3=.ptr 3 v3j1 0∧t 17=.bool s17j1∧H 2=some ⟨v2j1,39,[.int .i64 p0.ag,.sl false false p0.aa.length (ae (eI .i64) p0.aa)],false,false,false⟩∧H 3=some ⟨v3j1,39,[.int .i64 p1.ag,.sl false false p1.aa.length (ae (eI .i64) p1.aa)],false,false,false⟩) (fun s=>s=o2) ?_ ?_
 ·rintro s17j1 t H e ⟨v2j1,v3j1,Zj1⟩ rfl
  try dsimp only at hh
  try simp only[bK,seval,hr1,Zj1]
  refine sp aq hh (fun _ hh =>?_) (fun _ hh =>?_)
  ·cases hh
   try simp only[bK,seval,hr1,Zj1]
  ·try simp only[bK,seval,hr1,Zj1]
   refine sp aq hh (fun _ hh =>?_) (fun _ hh =>?_)
   ·try simp only[bK,seval,hr1,Zj1]
    refine sp aq hh (fun _ hh =>?_) (fun _ hh =>?_)
    ·cases hh
     try simp only[bK,seval,hr1,Zj1]
    ·cases hh
     try simp only[bK,seval,hr1,Zj1]
   ·obtain⟨r6,hr6,hh⟩:=ah hh
    try simp only[bK,seval,hr1,Zj1,hr6]
    refine bn (by kernel_rfl) ?_
    try simp only[bK,seval,hr1,Zj1,hr6]
    refine sp aq hh (fun _ hh =>?_) (fun _ hh =>?_)
    ·cases hh
     try simp only[bK,seval,hr1,Zj1,hr6]
    ·cases hh
     try simp only[bK,seval,hr1,Zj1,hr6]
 ·clear hh
  have hh:=ho2
  try simp only[bK,seval,hr1]
  refine sp bd hh (fun _ hh =>?_) (fun _ hh =>?_)
  ·cases hh
   try simp only[bK,seval,hr1]
   rw[au]
   refine⟨_,rfl,?_⟩
   refine⟨0,0,?_,?_,?_,?_,?_⟩
   all_goals first|rfl|(simp only[bK,seval,hr1]<;>rfl)
  ·obtain⟨r9,hr9,hh⟩:=ah hh
   try simp only[bK,seval,hr1,hr9]
   refine sp bd hh (fun _ hh =>?_) (fun _ hh =>?_)
   ·cases hh
    try simp only[bK,seval,hr1,hr9]
    rw[au]
    refine⟨_,rfl,?_⟩
    refine⟨0,0,?_,?_,?_,?_,?_⟩
    all_goals first|rfl|(simp only[bK,seval,hr1,hr9]<;>rfl)
   ·obtain⟨r11,hr11,hh⟩:=ah hh
    cases hh
    try simp only[bK,seval,hr1,hr9,hr11]
    rw[au]
    refine⟨_,rfl,?_⟩
    refine⟨0,0,?_,?_,?_,?_,?_⟩
    all_goals first|rfl|(simp only[bK,seval,hr1,hr9,hr11]<;>rfl)
theorem DG:b6 Try.prog 57 qt:=b6.of (mode := .clean) tok CT mixed Try.func57 (by kernel_rfl) ⟨by kernel_rfl,by kernel_rfl⟩ (fun _=>afg (by kernel_rfl)) (fun x r h=>E4 x.1 x.2 r h)
noncomputable def tE:=fX (fU (cX az)) (fun x:ak=>mG x) (fun r:Bool =>.clean (.bool r))
theorem AB (p0_0:Int) (p0_1:(List Int)) (p0_2:Int) (p0_3:(List Int)):tE none [.agg [.int .i64 p0_0,.sl false false p0_1.length (ae (eI .i64) p0_1),.int .i64 p0_2,.sl false false p0_3.length (ae (eI .i64) p0_3)]]=(mG (ak.mk (al.mk p0_0 p0_1) (al.mk p0_2 p0_3))).map fun r:Bool=>(.clean (.bool r),none):=aU _ _ _ ((ak.mk (al.mk p0_0 p0_1) (al.mk p0_2 p0_3)))
noncomputable def pU:Env:=(Am.ext (Am.ext (Am.ext (Am.ext a6 55 false ik) 56 false uN) 57 false qt) 58 false xw)
theorem I7:bA Try.prog pU:=((((bA.none.add jY false).add DH false).add DG false).add Hr false)
theorem dX:type_of% (ai @w<|ai @eC<|ai @vH<|ai @wD<|ai @yu<|@pU.eq_1):=⟨@w,@eC,@vH,@wD,@yu,@pU.eq_1⟩
theorem M8 (p0:ak) (r:Bool) (hh:mG p0=some r):bc .clean tab pU FU Try.f25 none [.agg [.int .i64 p0.aH.ag,.sl false false p0.aH.aa.length (ae (eI .i64) p0.aH.aa),.int .i64 p0.aK.ag,.sl false false p0.aK.aa.length (ae (eI .i64) p0.aK.aa)]]=some (.clean (.bool r),none):=by
 refine aC rfl Try.ntmps25 Try.results25 ?_
 unfold mG at hh
 obtain⟨r1,hr1,hh⟩:=ah hh
 try simp only[dX,seval,hr1]
 obtain⟨o2,ho2,hh⟩:=ah hh
 refine bt 0 (fun s t H e=>match s with|s20j1=>∃v1j1:Nat,t 1=.ptr 1 v1j1 0∧t 20=.bool s20j1∧H 1=some ⟨v1j1,41,[.int .i64 p0.aH.ag,.sl false false p0.aH.aa.length (ae (eI .i64) p0.aH.aa),.int .i64 p0.aK.ag,.sl false false p0.aK.aa.length (ae (eI .i64) p0.aK.aa)],false,false,false⟩) (fun s=>s=o2) ?_ ?_
 ·rintro s20j1 t H e ⟨v1j1,Zj1⟩ rfl
  try dsimp only at hh
  try simp only[dX,seval,hr1,Zj1]
  refine sp aq hh (fun _ hh =>?_) (fun _ hh =>?_)
  ·cases hh
   try simp only[dX,seval,hr1,Zj1]
  ·obtain⟨r4,hr4,hh⟩:=ah hh
   obtain⟨r5,hr5,hh⟩:=ah hh
   obtain⟨r6,hr6,hh⟩:=ah hh
   try simp only[dX,seval,hr1,Zj1,hr4,hr5,hr6]
   refine bn (by kernel_rfl) ?_
   cases hh
   try simp only[dX,seval,hr1,Zj1,hr4,hr5,hr6]
 ·clear hh
  have hh:=ho2
  try simp only[dX,seval,hr1]
  refine sp bd hh (fun _ hh =>?_) (fun _ hh =>?_)
  ·cases hh
   try simp only[dX,seval,hr1]
   rw[au]
   refine⟨_,rfl,?_⟩
   refine⟨0,?_,?_,?_⟩
   all_goals first|rfl|(simp only[dX,seval,hr1]<;>rfl)
  ·obtain⟨r8,hr8,hh⟩:=ah hh
   try simp only[dX,seval,hr1,hr8]
   refine sp bd hh (fun _ hh =>?_) (fun _ hh =>?_)
   ·cases hh
    try simp only[dX,seval,hr1,hr8]
    rw[au]
    refine⟨_,rfl,?_⟩
    refine⟨0,?_,?_,?_⟩
    all_goals first|rfl|(simp only[dX,seval,hr1,hr8]<;>rfl)
   ·cases hh
    try simp only[dX,seval,hr1,hr8]
    rw[au]
    refine⟨_,rfl,?_⟩
    refine⟨0,?_,?_,?_⟩
    all_goals first|rfl|(simp only[dX,seval,hr1,hr8]<;>rfl)
theorem Jz:b6 Try.prog 25 tE:=b6.of (mode := .clean) tok I7 mixed Try.func25 (by kernel_rfl) ⟨by kernel_rfl,by kernel_rfl⟩ (fun _=>afg (by kernel_rfl)) (fun x r h=>M8 x r h)
noncomputable def qv:=fX (jh (mL az) (fU (aI .i64))) (fun x:(List ak)×Int=>jE x.1 x.2) (fun r:Bool =>.clean (.bool r))
theorem wF (p0:(List ak)) (p1:Int):qv none [.sl false false p0.length (ae az p0),.int .i64 p1]=(jE p0 p1).map fun r:Bool=>(.clean (.bool r),none):=aU _ _ _ (p0,p1)
noncomputable def mU:Env:=(Am.ext a6 25 false tE)
theorem CU:bA Try.prog mU:=(bA.none.add Jz false)
theorem dJ:type_of% (ai @w<|ai @AB<|@mU.eq_1):=⟨@w,@AB,@mU.eq_1⟩
theorem E6 (p0:(List ak)) (p1:Int) (r:Bool) (hh:jE p0 p1=some r):bc .clean tab mU FU Try.f12 none [.sl false false p0.length (ae az p0),.int .i64 p1]=some (.clean (.bool r),none):=by
 refine aC rfl Try.ntmps12 Try.results12 ?_
 unfold jE at hh
 try simp only[dJ,seval]
 obtain⟨o5,ho5,hh⟩:=ah hh
 refine aB (fun s t H e=>match s with|s5a=>t 0=.sl false false p0.length (ae az p0)∧t 1=.int .i64 p1∧t 5=.int .i64 s5a) (fun o x t H e=>match o with|(.inl _)=>x=.exit 0∧t 0=.sl false false p0.length (ae az p0)∧t 1=.int .i64 p1|(.inr r)=>x=.ret∧jo .clean tab none [.tmp 4] ⟨t,EH H,e⟩=some (.clean (.bool r),none)) ho5 ?_ ?_ ?_
 ·refine⟨?_,?_,?_⟩
  all_goals first|rfl|(simp only[dJ,seval]<;>rfl)
 ·rintro s5a t H e Za c hh
  simp only[l5]at hh
  try simp only[dJ,seval,Za]
  refine sp aq hh (fun _ hh =>?_) (fun _ hh =>?_)
  ·obtain⟨x7,hx7,hh⟩:=ah hh
   have ax7:=bQ az hx7
   simp only[bI]at ax7
   obtain⟨r8,hr8,hh⟩:=ah hh
   try simp only[dJ,seval,Za,ax7,hr8]
   refine sp aq hh (fun _ hh =>?_) (fun _ hh =>?_)
   ·cases hh
    try simp only[dJ,seval,Za,ax7,hr8]
    refine G2 ⟨rfl,?_⟩
    try simp only[dJ,seval,Za,ax7,hr8]
   ·cases hh
    try simp only[dJ,seval,Za,ax7,hr8]
    refine j6 ?_
    refine⟨?_,?_,?_⟩
    all_goals first|rfl|(simp only[dJ,seval,Za,ax7,hr8]<;>rfl)
  ·cases hh
   try simp only[dJ,seval,Za]
   refine lj ?_
   refine⟨rfl,⟨?_,?_⟩⟩
   all_goals first|rfl|(simp only[dJ,seval,Za]<;>rfl)
 ·rintro x t H e hx
  rcases o5 with _|ra
  ·dsimp only at hx hh
   obtain⟨rfl,Zax⟩:=hx
   cases hh
   try simp only[dJ,seval,Zax]
  ·dsimp only at hx hh
   obtain⟨rfl,hE⟩:=hx
   cases hh
   try simp only[bJ,bq,bW,ep,eo,dk,dm]
   exact hE
theorem DL:b6 Try.prog 12 qv:=b6.of (mode := .clean) tok CU mixed Try.func12 (by kernel_rfl) ⟨by kernel_rfl,by kernel_rfl⟩ (fun _=>afg (by kernel_rfl)) (fun x r h=>E6 x.1 x.2 r h)
noncomputable def Br:=fX (jh (cX nO) (jh (mL az) (fU (mL az)))) (fun x:bY×(List ak)×(List ak)=>iF x.1 x.2.1 x.2.2) (fun r:Bool =>.clean (.bool r))
noncomputable def lO:Env:=(Am.ext (Am.ext (Am.ext (Am.ext (Am.ext (Am.ext (Am.ext (Am.ext (Am.ext (Am.ext (Am.ext (Am.ext (Am.ext a6 8 false tz) 9 false yP) 10 false uQ) 11 false kX) 12 false qv) 13 false oI) 14 false mK) 15 false kd) 16 false rn) 17 false uP) 18 false oF) 19 false q9) 20 false kW)
theorem A1:bA Try.prog lO:=(((((((((((((bA.none.add Jw false).add Qj false).add DM false).add oc false).add DL false).add um false).add uk false).add po false).add Au false).add DJ false).add ui false).add Ao false).add oa false)
theorem an:type_of% (ai @w<|ai @Az<|ai @HE<|ai @vK<|ai @iy<|ai @wF<|ai @jC<|ai @mY<|ai @gO<|ai @sA<|ai @vJ<|ai @mD<|ai @ss<|ai @iw<|@lO.eq_1):=⟨@w,@Az,@HE,@vK,@iy,@wF,@jC,@mY,@gO,@sA,@vJ,@mD,@ss,@iw,@lO.eq_1⟩
theorem De (p0:bY) (p1:(List ak)) (p2:(List ak)) (r:Bool) (hh:iF p0 p1 p2=some r):bc .clean tab lO FU Try.f3 none [.agg [.int .i64 p0.aD,.sl false false p0.av.length (ae a8 p0.av)],.sl false false p1.length (ae az p1),.sl false false p2.length (ae az p2)]=some (.clean (.bool r),none):=by
 refine aC rfl Try.ntmps3 Try.results3 ?_
 unfold iF at hh
 obtain⟨r1,hr1,hh⟩:=ah hh
 obtain⟨r2,hr2,hh⟩:=ah hh
 try simp only[an,seval,hr1,hr2]
 obtain⟨o3,ho3,hh⟩:=ah hh
 refine bt 0 (fun s t H e=>match s with|s41j1=>∃v3j1:Nat,t 1=.sl false false p1.length (ae az p1)∧t 2=.sl false false p2.length (ae az p2)∧t 3=.ptr 3 v3j1 0∧t 7=.bool r1∧t 41=.bool s41j1∧H 3=some ⟨v3j1,24,[.int .i64 p0.aD,.sl false false p0.av.length (ae a8 p0.av)],false,false,false⟩) (fun s=>s=o3) ?_ ?_
 ·rintro s41j1 t H e ⟨v3j1,Zj1⟩ rfl
  try dsimp only at hh
  try simp only[an,seval,hr1,hr2,Zj1]
  refine sp aq hh (fun _ hh =>?_) (fun _ hh =>?_)
  ·cases hh
   try simp only[an,seval,hr1,hr2,Zj1]
  ·obtain⟨r5,hr5,hh⟩:=ah hh
   obtain⟨r6,hr6,hh⟩:=ah hh
   obtain⟨r7,hr7,hh⟩:=ah hh
   try simp only[an,seval,hr1,hr2,Zj1,hr5,hr6,hr7]
   refine sp aq hh (fun _ hh =>?_) (fun _ hh =>?_)
   ·try simp only[an,seval,hr1,hr2,Zj1,hr5,hr6,hr7]
    obtain⟨o9,ho9,hh⟩:=ah hh
    refine bt 0 (fun s t H e=>match s with|s6j2=>t 6=.bool s6j2) (fun s=>s=o9) ?_ ?_
    ·rintro s6j2 t H e Zj2 rfl
     try dsimp only at hh
     cases hh
     try simp only[an,seval,hr1,hr2,hr5,hr6,hr7,Zj2]
    ·clear hh
     have hh:=ho9
     try simp only[an,seval,hr1,hr2,Zj1,hr5,hr6,hr7]
     refine sp dp hh (fun _ hh =>?_) (fun _ hh =>?_)
     ·try simp only[an,seval,hr1,hr2,Zj1,hr5,hr6,hr7]
      refine sp dp hh (fun _ hh =>?_) (fun _ hh =>?_)
      ·obtain⟨r12,hr12,hh⟩:=ah hh
       try simp only[an,seval,hr1,hr2,Zj1,hr5,hr6,hr7,hr12]
       refine sp dp hh (fun _ hh =>?_) (fun _ hh =>?_)
       ·obtain⟨r14,hr14,hh⟩:=ah hh
        cases hh
        try simp only[an,seval,hr1,hr2,Zj1,hr5,hr6,hr7,hr12,hr14]
        rw[au]
        refine⟨_,rfl,?_⟩
        refine ?_
        all_goals first|rfl|(simp only[an,seval,hr1,hr2,Zj1,hr5,hr6,hr7,hr12,hr14]<;>rfl)
       ·cases hh
        try simp only[an,seval,hr1,hr2,Zj1,hr5,hr6,hr7,hr12]
        rw[au]
        refine⟨_,rfl,?_⟩
        refine ?_
        all_goals first|rfl|(simp only[an,seval,hr1,hr2,Zj1,hr5,hr6,hr7,hr12]<;>rfl)
      ·cases hh
       try simp only[an,seval,hr1,hr2,Zj1,hr5,hr6,hr7]
       rw[au]
       refine⟨_,rfl,?_⟩
       refine ?_
       all_goals first|rfl|(simp only[an,seval,hr1,hr2,Zj1,hr5,hr6,hr7]<;>rfl)
     ·cases hh
      try simp only[an,seval,hr1,hr2,Zj1,hr5,hr6,hr7]
      rw[au]
      refine⟨_,rfl,?_⟩
      refine ?_
      all_goals first|rfl|(simp only[an,seval,hr1,hr2,Zj1,hr5,hr6,hr7]<;>rfl)
   ·try simp only[an,seval,hr1,hr2,Zj1,hr5,hr6,hr7]
    obtain⟨o15,ho15,hh⟩:=ah hh
    refine bt 0 (fun s t H e=>match s with|s82j3=>∃v3j3:Nat,t 1=.sl false false p1.length (ae az p1)∧t 2=.sl false false p2.length (ae az p2)∧t 3=.ptr 3 v3j3 0∧t 7=.bool r1∧t 10=.sl false false r6.length (ae (eI .i64) r6)∧t 11=.bool r7∧t 82=.bool s82j3∧H 3=some ⟨v3j3,24,[.int .i64 p0.aD,.sl false false p0.av.length (ae a8 p0.av)],false,false,false⟩) (fun s=>s=o15) ?_ ?_
    ·rintro s82j3 t H e ⟨v3j3,Zj3⟩ rfl
     try dsimp only at hh
     try simp only[an,seval,hr1,hr2,hr5,hr6,hr7,Zj3]
     refine sp aq hh (fun _ hh =>?_) (fun _ hh =>?_)
     ·cases hh
      try simp only[an,seval,hr1,hr2,hr5,hr6,hr7,Zj3]
     ·try simp only[an,seval,hr1,hr2,hr5,hr6,hr7,Zj3]
      refine sp aq hh (fun _ hh =>?_) (fun _ hh =>?_)
      ·cases hh
       try simp only[an,seval,hr1,hr2,hr5,hr6,hr7,Zj3]
      ·obtain⟨x18,hx18,hh⟩:=ah hh
       obtain⟨q19a,q19b,q19c,q19d,q19e⟩:=mk_one mg hx18
       simp only[bI]at q19d
       obtain⟨r20,hr20,hh⟩:=ah hh
       try simp only[an,seval,hr1,hr2,hr5,hr6,hr7,Zj3,q19a,q19b,q19c,q19d,q19e,hr20]
       obtain⟨o30,ho30,hh⟩:=ah hh
       refine aB (fun s t H e=>match s with|(s14d,l12d,r13_0d,r13_1d,r13_2d,r13_3d)=>∃v3d:Nat,∃v12d:Nat,∃v13d:Nat,t 1=.sl false false p1.length (ae az p1)∧t 2=.sl false false p2.length (ae az p2)∧t 3=.ptr 3 v3d 0∧t 7=.bool r1∧t 10=.sl false false r6.length (ae (eI .i64) r6)∧t 12=.buf 12 v12d 1 0 (l12d).length∧t 13=.ptr 13 v13d 0∧t 14=.int .i64 s14d∧H 3=some ⟨v3d,24,[.int .i64 p0.aD,.sl false false p0.av.length (ae a8 p0.av)],false,false,false⟩∧H 12=some ⟨v12d,4,ae mg l12d,false,true,false⟩∧H 13=some ⟨v13d,41,[.int .i64 r13_0d,.sl false false r13_1d.length (ae (eI .i64) r13_1d),.int .i64 r13_2d,.sl false false r13_3d.length (ae (eI .i64) r13_3d)],false,false,false⟩) (fun o x t H e=>match o with|(.inl (l12dx,r13_0dx,r13_1dx,r13_2dx,r13_3dx))=>x=.exit 0∧∃v3dx:Nat,∃v12dx:Nat,∃v13dx:Nat,t 2=.sl false false p2.length (ae az p2)∧t 3=.ptr 3 v3dx 0∧t 7=.bool r1∧t 12=.buf 12 v12dx 1 0 (l12dx).length∧t 13=.ptr 13 v13dx 0∧H 3=some ⟨v3dx,24,[.int .i64 p0.aD,.sl false false p0.av.length (ae a8 p0.av)],false,false,false⟩∧H 12=some ⟨v12dx,4,ae mg l12dx,false,true,false⟩∧H 13=some ⟨v13dx,41,[.int .i64 r13_0dx,.sl false false r13_1dx.length (ae (eI .i64) r13_1dx),.int .i64 r13_2dx,.sl false false r13_3dx.length (ae (eI .i64) r13_3dx)],false,false,false⟩|(.inr r)=>x=.ret∧jo .clean tab none [.tmp 6] ⟨t,EH H,e⟩=some (.clean (.bool r),none)) ho30 ?_ ?_ ?_
       ·refine⟨v3j3,e+1,e+1+1,?_,?_,?_,?_,?_,?_,?_,?_,?_,?_,?_⟩
        all_goals first|rfl|(simp only[an,seval,hr1,hr2,hr5,hr6,hr7,Zj3,q19a,q19b,q19c,q19d,q19e,hr20]<;>rfl)
       ·rintro⟨s14d,l12d,r13_0d,r13_1d,r13_2d,r13_3d⟩ t H e ⟨v3d,v12d,v13d,Zd⟩ c hh
        simp only[iO]at hh
        try simp only[an,seval,hr1,hr2,hr5,hr6,hr7,q19a,q19b,q19c,q19d,q19e,hr20,Zd]
        refine sp aq hh (fun _ hh =>?_) (fun _ hh =>?_)
        ·obtain⟨x32,hx32,hh⟩:=ah hh
         have ax32:=bQ (eI .i64) hx32
         simp only[bI]at ax32
         try simp only[an,seval,hr1,hr2,hr5,hr6,hr7,q19a,q19b,q19c,q19d,q19e,hr20,Zd,ax32]
         obtain⟨o33,ho33,hh⟩:=ah hh
         refine bt 0 (fun s t H e=>match s with|s107j6=>∃v3j6:Nat,∃v12j6:Nat,∃v13j6:Nat,t 1=.sl false false p1.length (ae az p1)∧t 2=.sl false false p2.length (ae az p2)∧t 3=.ptr 3 v3j6 0∧t 7=.bool r1∧t 10=.sl false false r6.length (ae (eI .i64) r6)∧t 12=.buf 12 v12j6 1 0 (l12d).length∧t 13=.ptr 13 v13j6 0∧t 14=.int .i64 s14d∧t 15=.int .i64 x32∧t 107=.bool s107j6∧H 3=some ⟨v3j6,24,[.int .i64 p0.aD,.sl false false p0.av.length (ae a8 p0.av)],false,false,false⟩∧H 12=some ⟨v12j6,4,ae mg l12d,false,true,false⟩∧H 13=some ⟨v13j6,41,[.int .i64 r13_0d,.sl false false r13_1d.length (ae (eI .i64) r13_1d),.int .i64 r13_2d,.sl false false r13_3d.length (ae (eI .i64) r13_3d)],false,false,false⟩) (fun s=>s=o33) ?_ ?_
         ·rintro s107j6 t H e ⟨v3j6,v12j6,v13j6,Zj6⟩ rfl
          try dsimp only at hh
          try simp only[an,seval,hr1,hr2,hr5,hr6,hr7,q19a,q19b,q19c,q19d,q19e,hr20,ax32,Zj6]
          refine sp aq hh (fun _ hh =>?_) (fun _ hh =>?_)
          ·cases hh
           try simp only[an,seval,hr1,hr2,hr5,hr6,hr7,q19a,q19b,q19c,q19d,q19e,hr20,ax32,Zj6]
           refine G2 ⟨rfl,?_⟩
           try simp only[an,seval,hr1,hr2,hr5,hr6,hr7,q19a,q19b,q19c,q19d,q19e,hr20,ax32,Zj6]
          ·obtain⟨x35,hx35,hh⟩:=ah hh
           have ax35:=bQ mg hx35
           simp only[bI]at ax35
           have p36:=eO mg (x':=true) (fo:=0) (cs:=[.bool true]) hx35 rfl (afg rfl)
           simp only[bI,Nat.add_zero]at p36
           have up36:=p36
           simp only[putCells,List.length_cons,List.length_nil,aen,Nat.reduceAdd]at up36
           obtain⟨x37,hx37,hh⟩:=ah hh
           have ax37:=bQ az hx37
           simp only[bI]at ax37
           obtain⟨r38,hr38,hh⟩:=ah hh
           try simp only[an,seval,hr1,hr2,hr5,hr6,hr7,q19a,q19b,q19c,q19d,q19e,hr20,ax32,Zj6,ax35,p36,up36,ax37,hr38]
           refine bn (by kernel_rfl) ?_
           cases hh
           try simp only[an,seval,hr1,hr2,hr5,hr6,hr7,q19a,q19b,q19c,q19d,q19e,hr20,ax32,Zj6,ax35,p36,up36,ax37,hr38]
           refine j6 ?_
           refine⟨v3j6,v12j6,v13j6,?_,?_,?_,?_,?_,?_,?_,?_,?_,?_,?_⟩
           all_goals first|rfl|(simp only[an,seval,hr1,hr2,hr5,hr6,hr7,q19a,q19b,q19c,q19d,q19e,hr20,ax32,Zj6,ax35,p36,up36,ax37,hr38]<;>rfl)
         ·clear hh
          have hh:=ho33
          try simp only[an,seval,hr1,hr2,hr5,hr6,hr7,q19a,q19b,q19c,q19d,q19e,hr20,Zd,ax32]
          refine sp bd hh (fun _ hh =>?_) (fun _ hh =>?_)
          ·cases hh
           try simp only[an,seval,hr1,hr2,hr5,hr6,hr7,q19a,q19b,q19c,q19d,q19e,hr20,Zd,ax32]
           rw[au]
           refine⟨_,rfl,?_⟩
           refine⟨v3d,v12d,v13d,?_,?_,?_,?_,?_,?_,?_,?_,?_,?_,?_,?_,?_⟩
           all_goals first|rfl|(simp only[an,seval,hr1,hr2,hr5,hr6,hr7,q19a,q19b,q19c,q19d,q19e,hr20,Zd,ax32]<;>rfl)
          ·cases hh
           try simp only[an,seval,hr1,hr2,hr5,hr6,hr7,q19a,q19b,q19c,q19d,q19e,hr20,Zd,ax32]
           rw[au]
           refine⟨_,rfl,?_⟩
           refine⟨v3d,v12d,v13d,?_,?_,?_,?_,?_,?_,?_,?_,?_,?_,?_,?_,?_⟩
           all_goals first|rfl|(simp only[an,seval,hr1,hr2,hr5,hr6,hr7,q19a,q19b,q19c,q19d,q19e,hr20,Zd,ax32]<;>rfl)
        ·cases hh
         try simp only[an,seval,hr1,hr2,hr5,hr6,hr7,q19a,q19b,q19c,q19d,q19e,hr20,Zd]
         refine lj ?_
         refine⟨rfl,⟨v3d,v12d,v13d,?_,?_,?_,?_,?_,?_,?_,?_⟩⟩
         all_goals first|rfl|(simp only[an,seval,hr1,hr2,hr5,hr6,hr7,q19a,q19b,q19c,q19d,q19e,hr20,Zd]<;>rfl)
       ·rintro x t H e hx
        rcases o30 with⟨l12dx,r13_0dx,r13_1dx,r13_2dx,r13_3dx⟩|rd
        ·dsimp only at hx hh
         obtain⟨rfl,⟨v3dx,v12dx,v13dx,Zdx⟩⟩:=hx
         try simp only[an,seval,hr1,hr2,hr5,hr6,hr7,q19a,q19b,q19c,q19d,q19e,hr20,Zdx]
         obtain⟨o50,ho50,hh⟩:=ah hh
         refine aB (fun s t H e=>match s with|(s16g,r13_0g,r13_1g,r13_2g,r13_3g)=>∃v3g:Nat,∃v12g:Nat,∃v13g:Nat,t 2=.sl false false p2.length (ae az p2)∧t 3=.ptr 3 v3g 0∧t 7=.bool r1∧t 12=.buf 12 v12g 1 0 (l12dx).length∧t 13=.ptr 13 v13g 0∧t 16=.int .i64 s16g∧H 3=some ⟨v3g,24,[.int .i64 p0.aD,.sl false false p0.av.length (ae a8 p0.av)],false,false,false⟩∧H 12=some ⟨v12g,4,ae mg l12dx,false,true,false⟩∧H 13=some ⟨v13g,41,[.int .i64 r13_0g,.sl false false r13_1g.length (ae (eI .i64) r13_1g),.int .i64 r13_2g,.sl false false r13_3g.length (ae (eI .i64) r13_3g)],false,false,false⟩) (fun o x t H e=>match o with|(r13_0gx,r13_1gx,r13_2gx,r13_3gx)=>x=.exit 2∧∃v13gx:Nat,t 7=.bool r1∧t 13=.ptr 13 v13gx 0∧H 13=some ⟨v13gx,41,[.int .i64 r13_0gx,.sl false false r13_1gx.length (ae (eI .i64) r13_1gx),.int .i64 r13_2gx,.sl false false r13_3gx.length (ae (eI .i64) r13_3gx)],false,false,false⟩) ho50 ?_ ?_ ?_
         ·refine⟨v3dx,v12dx,v13dx,?_,?_,?_,?_,?_,?_,?_,?_,?_⟩
          all_goals first|rfl|(simp only[an,seval,hr1,hr2,hr5,hr6,hr7,q19a,q19b,q19c,q19d,q19e,hr20,Zdx]<;>rfl)
         ·rintro⟨s16g,r13_0g,r13_1g,r13_2g,r13_3g⟩ t H e ⟨v3g,v12g,v13g,Zg⟩ c hh
          simp only[iP]at hh
          try simp only[an,seval,hr1,hr2,hr5,hr6,hr7,q19a,q19b,q19c,q19d,q19e,hr20,Zg]
          refine sp aq hh (fun _ hh =>?_) (fun _ hh =>?_)
          ·obtain⟨x52,hx52,hh⟩:=ah hh
           have ax52:=bQ a8 hx52
           simp only[bI]at ax52
           obtain⟨x53,hx53,hh⟩:=ah hh
           have ax53:=bQ mg hx53
           simp only[bI]at ax53
           try simp only[an,seval,hr1,hr2,hr5,hr6,hr7,q19a,q19b,q19c,q19d,q19e,hr20,Zg,ax52,ax53]
           obtain⟨o54,ho54,hh⟩:=ah hh
           refine bt 0 (fun s t H e=>match s with|s144j9=>∃v3j9:Nat,∃v12j9:Nat,∃v13j9:Nat,∃v17j9:Nat,t 2=.sl false false p2.length (ae az p2)∧t 3=.ptr 3 v3j9 0∧t 7=.bool r1∧t 12=.buf 12 v12j9 1 0 (l12dx).length∧t 13=.ptr 13 v13j9 0∧t 16=.int .i64 s16g∧t 17=.ptr 17 v17j9 0∧t 144=.bool s144j9∧H 3=some ⟨v3j9,24,[.int .i64 p0.aD,.sl false false p0.av.length (ae a8 p0.av)],false,false,false⟩∧H 12=some ⟨v12j9,4,ae mg l12dx,false,true,false⟩∧H 13=some ⟨v13j9,41,[.int .i64 r13_0g,.sl false false r13_1g.length (ae (eI .i64) r13_1g),.int .i64 r13_2g,.sl false false r13_3g.length (ae (eI .i64) r13_3g)],false,false,false⟩∧H 17=some ⟨v17j9,46,[.int .i64 x52.cR,.int .i64 x52.kM,.int .i64 x52.ba.aH.ag,.sl false false x52.ba.aH.aa.length (ae (eI .i64) x52.ba.aH.aa),.int .i64 x52.ba.aK.ag,.sl false false x52.ba.aK.aa.length (ae (eI .i64) x52.ba.aK.aa)],false,false,false⟩) (fun s=>s=o54) ?_ ?_
           ·rintro s144j9 t H e ⟨v3j9,v12j9,v13j9,v17j9,Zj9⟩ rfl
            try dsimp only at hh
            try simp only[an,seval,hr1,hr2,hr5,hr6,hr7,q19a,q19b,q19c,q19d,q19e,hr20,ax52,ax53,Zj9]
            refine sp aq hh (fun _ hh =>?_) (fun _ hh =>?_)
            ·obtain⟨x56,hx56,hh⟩:=ah hh
             have ax56:=bQ az hx56
             simp only[bI]at ax56
             obtain⟨r57,hr57,hh⟩:=ah hh
             try simp only[an,seval,hr1,hr2,hr5,hr6,hr7,q19a,q19b,q19c,q19d,q19e,hr20,ax52,ax53,Zj9,ax56,hr57]
             refine bn (by kernel_rfl) ?_
             obtain⟨r58,hr58,hh⟩:=ah hh
             cases hh
             try simp only[an,seval,hr1,hr2,hr5,hr6,hr7,q19a,q19b,q19c,q19d,q19e,hr20,ax52,ax53,Zj9,ax56,hr57,hr58]
             refine j6 ?_
             refine⟨v3j9,v12j9,v13j9,?_,?_,?_,?_,?_,?_,?_,?_,?_⟩
             all_goals first|rfl|(simp only[an,seval,hr1,hr2,hr5,hr6,hr7,q19a,q19b,q19c,q19d,q19e,hr20,ax52,ax53,Zj9,ax56,hr57,hr58]<;>rfl)
            ·cases hh
             try simp only[an,seval,hr1,hr2,hr5,hr6,hr7,q19a,q19b,q19c,q19d,q19e,hr20,ax52,ax53,Zj9]
             refine j6 ?_
             refine⟨v3j9,v12j9,v13j9,?_,?_,?_,?_,?_,?_,?_,?_,?_⟩
             all_goals first|rfl|(simp only[an,seval,hr1,hr2,hr5,hr6,hr7,q19a,q19b,q19c,q19d,q19e,hr20,ax52,ax53,Zj9]<;>rfl)
           ·clear hh
            have hh:=ho54
            try simp only[an,seval,hr1,hr2,hr5,hr6,hr7,q19a,q19b,q19c,q19d,q19e,hr20,Zg,ax52,ax53]
            refine sp dp hh (fun _ hh =>?_) (fun _ hh =>?_)
            ·obtain⟨x60,hx60,hh⟩:=ah hh
             have ax60:=bQ mg hx60
             simp only[bI]at ax60
             cases hh
             try simp only[an,seval,hr1,hr2,hr5,hr6,hr7,q19a,q19b,q19c,q19d,q19e,hr20,Zg,ax52,ax53,ax60]
             rw[au]
             refine⟨_,rfl,?_⟩
             refine⟨v3g,v12g,v13g,e+1,?_,?_,?_,?_,?_,?_,?_,?_,?_,?_,?_,?_⟩
             all_goals first|rfl|(simp only[an,seval,hr1,hr2,hr5,hr6,hr7,q19a,q19b,q19c,q19d,q19e,hr20,Zg,ax52,ax53,ax60]<;>rfl)
            ·cases hh
             try simp only[an,seval,hr1,hr2,hr5,hr6,hr7,q19a,q19b,q19c,q19d,q19e,hr20,Zg,ax52,ax53]
             rw[au]
             refine⟨_,rfl,?_⟩
             refine⟨v3g,v12g,v13g,e+1,?_,?_,?_,?_,?_,?_,?_,?_,?_,?_,?_,?_⟩
             all_goals first|rfl|(simp only[an,seval,hr1,hr2,hr5,hr6,hr7,q19a,q19b,q19c,q19d,q19e,hr20,Zg,ax52,ax53]<;>rfl)
          ·cases hh
           try simp only[an,seval,hr1,hr2,hr5,hr6,hr7,q19a,q19b,q19c,q19d,q19e,hr20,Zg]
           refine lj ?_
           refine⟨rfl,⟨v13g,?_,?_,?_⟩⟩
           all_goals first|rfl|(simp only[an,seval,hr1,hr2,hr5,hr6,hr7,q19a,q19b,q19c,q19d,q19e,hr20,Zg]<;>rfl)
         ·rintro x t H e hx
          rcases o50 with⟨r13_0gx,r13_1gx,r13_2gx,r13_3gx⟩
          dsimp only at hx hh
          obtain⟨rfl,⟨v13gx,Zgx⟩⟩:=hx
          try simp only[an,seval,hr1,hr2,hr5,hr6,hr7,q19a,q19b,q19c,q19d,q19e,hr20,Zgx]
          refine sp dp hh (fun _ hh =>?_) (fun _ hh =>?_)
          ·obtain⟨r62,hr62,hh⟩:=ah hh
           cases hh
           try simp only[an,seval,hr1,hr2,hr5,hr6,hr7,q19a,q19b,q19c,q19d,q19e,hr20,Zgx,hr62]
          ·cases hh
           try simp only[an,seval,hr1,hr2,hr5,hr6,hr7,q19a,q19b,q19c,q19d,q19e,hr20,Zgx]
        ·dsimp only at hx hh
         obtain⟨rfl,hE⟩:=hx
         cases hh
         try simp only[bJ,bq,bW,ep,eo,dk,dm]
         exact hE
    ·clear hh
     have hh:=ho15
     try simp only[an,seval,hr1,hr2,Zj1,hr5,hr6,hr7]
     refine sp bd hh (fun _ hh =>?_) (fun _ hh =>?_)
     ·cases hh
      try simp only[an,seval,hr1,hr2,Zj1,hr5,hr6,hr7]
      rw[au]
      refine⟨_,rfl,?_⟩
      refine⟨v3j1,?_,?_,?_,?_,?_,?_,?_,?_⟩
      all_goals first|rfl|(simp only[an,seval,hr1,hr2,Zj1,hr5,hr6,hr7]<;>rfl)
     ·cases hh
      try simp only[an,seval,hr1,hr2,Zj1,hr5,hr6,hr7]
      rw[au]
      refine⟨_,rfl,?_⟩
      refine⟨v3j1,?_,?_,?_,?_,?_,?_,?_,?_⟩
      all_goals first|rfl|(simp only[an,seval,hr1,hr2,Zj1,hr5,hr6,hr7]<;>rfl)
 ·clear hh
  have hh:=ho3
  try simp only[an,seval,hr1,hr2]
  refine sp bd hh (fun _ hh =>?_) (fun _ hh =>?_)
  ·cases hh
   try simp only[an,seval,hr1,hr2]
   rw[au]
   refine⟨_,rfl,?_⟩
   refine⟨0,?_,?_,?_,?_,?_,?_⟩
   all_goals first|rfl|(simp only[an,seval,hr1,hr2]<;>rfl)
  ·obtain⟨r65,hr65,hh⟩:=ah hh
   try simp only[an,seval,hr1,hr2,hr65]
   refine sp bd hh (fun _ hh =>?_) (fun _ hh =>?_)
   ·cases hh
    try simp only[an,seval,hr1,hr2,hr65]
    rw[au]
    refine⟨_,rfl,?_⟩
    refine⟨0,?_,?_,?_,?_,?_,?_⟩
    all_goals first|rfl|(simp only[an,seval,hr1,hr2,hr65]<;>rfl)
   ·obtain⟨r67,hr67,hh⟩:=ah hh
    try simp only[an,seval,hr1,hr2,hr65,hr67]
    refine sp bd hh (fun _ hh =>?_) (fun _ hh =>?_)
    ·cases hh
     try simp only[an,seval,hr1,hr2,hr65,hr67]
     rw[au]
     refine⟨_,rfl,?_⟩
     refine⟨0,?_,?_,?_,?_,?_,?_⟩
     all_goals first|rfl|(simp only[an,seval,hr1,hr2,hr65,hr67]<;>rfl)
    ·obtain⟨r69,hr69,hh⟩:=ah hh
     cases hh
     try simp only[an,seval,hr1,hr2,hr65,hr67,hr69]
     rw[au]
     refine⟨_,rfl,?_⟩
     refine⟨0,?_,?_,?_,?_,?_,?_⟩
     all_goals first|rfl|(simp only[an,seval,hr1,hr2,hr65,hr67,hr69]<;>rfl)
theorem A5:b6 Try.prog 3 Br:=b6.of (mode := .clean) tok A1 mixed Try.func3 (by kernel_rfl) ⟨by kernel_rfl,by kernel_rfl⟩ (fun _=>afg (by kernel_rfl)) (fun x r h=>De x.1 x.2.1 x.2.2 r h)
end Go.Proofs.Ytchndpjlijbplaa.Am
namespace Go.Proofs.Ytchndpjlijbplaa.Am
open Go.ChangeShapes Go.WideShapes Go.ChangeAt Go.RowKit Go.Proofs.Ytchndpjlijbplaa.P
set_option maxRecDepth 100000
set_option linter.unusedVariables false
theorem Try.own:ownKnob Try.prog.godebug=none:=by kernel_rfl
theorem Try.laidOut:laidOutB Try.prog=true:=by kernel_rfl
theorem WV (n:Nat):OL tab (n+1) 3 (eI .i64) (fun x=>(Lit.int .i64 x).wf=true):=opI Tj rfl rfl
theorem abx (n:Nat):OL tab (n+2) 33 (OM (eI .i64)) (fun x=>(x.length*8<=140737488351232∧∀y∈x,(Lit.int .i64 y).wf=true)):=aaF JP rfl rfl (by rw[Tj];rfl) (WV n)
def Jt (x:al):Prop:=(Lit.int .i64 x.ag).wf=true∧((x.aa.length*8<=140737488351232∧∀y∈x.aa,(Lit.int .i64 y).wf=true))
theorem ZT (n:Nat):OL tab (n+3) 39 eB (fun x=>Jt x):=opS (g:=fun y=>al.mk y.1 y.2) QC rfl rfl (fun _=>rfl) (WU (WV (n+1)) rfl (YO (abx n)))
def lX (x:ak):Prop:=Jt x.aH∧(Jt x.aK)
theorem ZU (n:Nat):OL tab (n+4) 41 az (fun x=>lX x):=opS (g:=fun y=>ak.mk y.1 y.2) JQ rfl rfl (fun _=>rfl) (WU (ZT n) rfl (YO (ZT n)))
def Dx (x:dy):Prop:=(Lit.int .i64 x.cR).wf=true∧((Lit.int .i64 x.kM).wf=true∧(lX x.ba))
theorem aby (n:Nat):OL tab (n+5) 46 a8 (fun x=>Dx x):=opS (g:=fun y=>dy.mk y.1 y.2.1 y.2.2) JR rfl rfl (fun _=>rfl) (WU (WV (n+3)) rfl (WU (WV (n+3)) rfl (YO (ZU n))))
theorem abv (n:Nat):OL tab (n+6) 22 (OM a8) (fun x=>(x.length*80<=140737488351232∧∀y∈x,Dx y)):=aaF QB rfl rfl (by rw[JR];rfl) (aby n)
def Bi (x:bY):Prop:=(Lit.int .i64 x.aD).wf=true∧((x.av.length*80<=140737488351232∧∀y∈x.av,Dx y))
theorem abw (n:Nat):OL tab (n+7) 24 nO (fun x=>Bi x):=opS (g:=fun y=>bY.mk y.1 y.2) JO rfl rfl (fun _=>rfl) (WU (WV (n+5)) rfl (YO (abv n)))
theorem ZS (n:Nat):OL tab (n+5) 25 (OM az) (fun x=>(x.length*64<=140737488351232∧∀y∈x,lX y)):=aaF Ei rfl rfl (by rw[JQ];rfl) (ZU n)
theorem xh:U3 tab 8 [24,25,25] (jh (cX nO) (jh (mL az) (fU (mL az)))) (fun x=>Bi x.1∧((x.2.1.length*64<=140737488351232∧∀y∈x.2.1,lX y)∧((x.2.2.length*64<=140737488351232∧∀y∈x.2.2,lX y)))):=(abu (oaS JO rfl (abw 1)) (abu (abt Ei rfl (ZS 3)) (acS (abt Ei rfl (ZS 3)))))
theorem vZ (law:∀(a0:bY) (a1:(List ak)) (a2:(List ak)),(Bi a0)->((a1.length*64<=140737488351232∧∀y∈a1,lX y))->((a2.length*64<=140737488351232∧∀y∈a2,lX y))->P.iF a0 a1 a2=some true) (os:Os) (started:os.Started) (H:Type) (enc:TypeId×Value->H) :
  ReturnsInHanded {} Try.checked os 3 .any (Rows.solveOneSpec.pre6 enc Try.prog Try.f3 Rows.solveOneRow.domain false) (Rows.solveOneSpec.post enc Try.prog Try.f3 false true false false):=by
 refine Qt (C:=Try.checked) (T:=tab) (tb:=4) (n:=8) tok Try.own started (by kernel_rfl) Try.func3
  (ChangeSpec.witness6 (enc:=enc) (C:=Try.checked) false ⟨#[],#[.agg #[.int .i64 0,.slice none 0 0],.slice none 0 0,.slice none 0 0],[]⟩ 8 (by kernel_rfl) (by kernel_rfl) (by kernel_rfl) (by kernel_rfl)) Try.laidOut (by kernel_rfl) rfl (by kernel_rfl) rfl (fun ds hds =>?_) (fun ar hl hs =>?_)
 ·rw[Try.params3]at hds
  match ds,hds with
  | [d0,d1,d2],_=>exact⟨rfl,rfl,rfl⟩
 ·rw[Try.params3]at hl hs
  exact aau xh A5 (fun x hx=>law x.1 x.2.1 x.2.2 hx.1 hx.2.1 hx.2.2) ar hl hs
theorem xa (law:∀(a0:bY) (a1:(List ak)) (a2:(List ak)),(Bi a0)->((a1.length*64<=140737488351232∧∀y∈a1,lX y))->((a2.length*64<=140737488351232∧∀y∈a2,lX y))->P.iF a0 a1 a2=some true):Rows.SolveOneSaid :=
 OpenClaim.holds_of_wide 3 Try.f3 rfl rfl rfl rfl rfl rfl rfl ⟨rfl,rfl,rfl,rfl,rfl⟩ rfl rfl rfl rfl rfl (by kernel_rfl) Try.func3 (by kernel_rfl)
  (of_decide_eq_true (by kernel_rfl)) (by unfold Func.isWrapper;first|(rw[if_pos (by decide +kernel)];kernel_rfl)|(rw[if_neg (by decide +kernel)];exact⟨rfl,rfl⟩))
  (fun os started H enc _=>vZ law os started H enc)
end Go.Proofs.Ytchndpjlijbplaa.Am
namespace Go.Proofs.Ytchndpjlijbplaa.P
open Go.RowKit
set_option linter.unusedSimpArgs false
set_option linter.unusedVariables false
def aG (n:Nat):List Int:=if h:n=0 then [] else ((n % 1048576:Nat):Int)::aG (n / 1048576)
termination_by n
decreasing_by omega
def dv:List Int->Int
 | []=>0
 | d::l=>d+1048576*dv l
def Dg (l:List Int):Prop:=∀d∈l,0<=d∧d<1048576
def pw (i:Nat):Int:=1048576 ^ i
theorem oe:pw 0=1:=rfl
theorem jZ (i:Nat):pw (i+1)=1048576*pw i:=by unfold pw;rw[Int.pow_succ,afC]
theorem mC (i:Nat):0<pw i:=by unfold pw;exact Int.pow_pos (by decide)
theorem DR (i j:Nat):pw (i+j)=pw i*pw j:=by unfold pw;rw[Int.pow_add]
theorem p5 {i j:Nat} (h:i<=j):pw i<=pw j:=by
 obtain⟨k,rfl⟩:=Nat.le.dest h
 rw[DR]
 have h1:=mC i
 have h2:=mC k
 calc pw i=pw i*1:=by rw[afD]
  _<=pw i*pw k:=afE (by omega) (by omega)
theorem cm:aG 0=[]:=by rw[aG];rfl
theorem m9 {n:Nat} (h:n≠0):aG n=((n % 1048576:Nat):Int)::aG (n / 1048576):=by rw[aG,dif_neg h]
theorem qG {n:Nat} : aG n=[]↔n=0:=by
 constructor
 ·intro h
  rcases adS n with h0|h0
  ·exact h0
  ·rw[m9 (by omega)]at h;cases h
 ·rintro rfl;exact cm
theorem bf:∀n:Nat,dv (aG n)=n:=by
 intro n
 induction n using Nat.strongRecOn with
 | _ n ih =>
  rcases adS n with h0|h0
  ·subst h0;rw[cm];rfl
  ·rw[m9 (by omega),dv,ih (n / 1048576) (by omega)]
   omega
theorem bZ:∀n:Nat,Dg (aG n):=by
 intro n
 induction n using Nat.strongRecOn with
 | _ n ih =>
  rcases adS n with h0|h0
  ·subst h0;rw[cm];intro d hd;cases hd
  ·rw[m9 (by omega)]
   intro d hd
   rcases adH.1 hd with rfl|hd
   ·omega
   ·exact ih (n / 1048576) (by omega) d hd
theorem Dg.nil:Dg []:=fun d hd=>by cases hd
theorem Dg.cons {d:Int} {l:List Int} (h:Dg (d::l)):(0<=d∧d<1048576)∧Dg l:=⟨h d ae0,fun x hx=>h x (ae1 _ hx)⟩
theorem Dg.mk {d:Int} {l:List Int} (h:0<=d∧d<1048576) (hl:Dg l):Dg (d::l):=fun x hx=>by
 rcases adH.1 hx with rfl|hx
 ·exact h
 ·exact hl x hx
theorem Dg.append {l m:List Int} (h:Dg l) (hm:Dg m):Dg (l++m):=fun x hx=>(aeI.1 hx).elim (h x) (hm x)
theorem Dg.take {l:List Int} (h:Dg l) (n:Nat):Dg (l.take n):=fun x hx=>h x (aek hx)
theorem Dg.drop {l:List Int} (h:Dg l) (n:Nat):Dg (l.drop n):=fun x hx=>h x (aei hx)
theorem Dg.rep (n:Nat):Dg (List.replicate n 0):=fun x hx=>by rw[(List.mem_replicate.1 hx).2];omega
theorem Dg.set {l:List Int} (h:Dg l) (i:Nat) {x:Int} (hx:0<=x∧x<1048576):Dg (l.set i x):=fun y hy=>by
 rcases List.mem_or_eq_of_mem_set hy with hy|rfl
 ·exact h y hy
 ·exact hx
theorem Dg.get {l:List Int} (h:Dg l) {i:Nat} (hi:i<l.length):0<=l[i]∧l[i]<1048576:=h _ (adM hi)
theorem cy:∀ {l:List Int},Dg l->0<=dv l
 | [],_=>Int.le_refl _
 | d::l,h=>by
  have h1:=h.cons
  have:=cy h1.2
  simp only[dv]
  omega
theorem nN:∀ {l:List Int},Dg l->dv l<pw l.length
 | [],_=>by simp[dv,oe]
 | d::l,h=>by
  have h1:=h.cons
  have:=nN h1.2
  simp only[dv,List.length_cons,jZ]
  omega
theorem fI:∀l m:List Int,dv (l++m)=dv l+pw l.length*dv m
 | [],m=>by simp[dv,oe]
 | d::l,m=>by
  rw[afp,dv,dv,fI l m,ad0,jZ,afF,afG]
  omega
theorem y7:∀n:Nat,dv (List.replicate n 0)=0
 | 0=>rfl
 | n+1=>by rw[aeu,dv,y7 n];rfl
theorem fp {l:List Int} {i:Nat} (h:i<l.length):dv (l.take (i+1))=dv (l.take i)+pw i*l[i]:=by
 have e:l.take (i+1)=l.take i++[l[i]]:=by rw[afH];simp[h]
 rw[e,fI,adT,aeF (by omega)]
 simp[dv]
theorem iL (l:List Int) {i:Nat} (h:i<=l.length):dv l=dv (l.take i)+pw i*dv (l.drop i):=by
 have:=fI (l.take i) (l.drop i)
 rw[afl,adT,aeF h]at this
 exact this
theorem rL {l:List Int} {i:Nat} (h:i<l.length) (x:Int):dv (l.set i x)=dv l+pw i*(x-l[i]):=by
 induction l generalizing i with
 | nil=>simp at h
 | cons d l ih =>
  cases i with
  | zero=>simp only[List.set_cons_zero,dv,oe,List.getElem_cons_zero];omega
  | succ i =>
   have:=ih (i:=i) (by simpa using h)
   simp only[List.set_cons_succ,dv,this,jZ,List.getElem_cons_succ,afF,afG]
   omega
theorem Bd:∀ {l:List Int},Dg l->(∀h:l≠[],l.getLast h≠0)->aG (dv l).toNat=l
 | [],_,_=>by simp[dv,cm]
 | d::l,h,hl=>by
  have h1:=h.cons
  have h2:=cy h1.2
  have hne:(dv (d::l)).toNat≠0:=by
   simp only[dv]
   intro h0
   have hd:d=0:=by omega
   have hv:dv l=0:=by omega
   cases l with
   | nil=>exact hl (by simp) (by simpa using hd)
   | cons e m =>
    have ih:=Bd h1.2 (fun hh=>by have:=hl (by simp);simpa using this)
    rw[hv]at ih
    simp[cm]at ih
  rw[m9 hne]
  have e1:(dv (d::l)).toNat % 1048576=d.toNat:=by simp only[dv];omega
  have e2:(dv (d::l)).toNat / 1048576=(dv l).toNat:=by simp only[dv];omega
  rw[e1,e2]
  have hd:(d.toNat:Int)=d:=by omega
  rw[hd]
  cases l with
  | nil=>simp[dv,cm]
  | cons e m=>rw[Bd h1.2 (fun hh=>by have:=hl (by simp);simpa using this)]
theorem TI:∀(n:Nat) (h:aG n≠[]),(aG n).getLast h≠0:=by
 intro n
 induction n using Nat.strongRecOn with
 | _ n ih =>
  intro h
  have hn:n≠0:=fun h0=>h (qG.2 h0)
  have e:=m9 hn
  by_cases hq:n / 1048576=0
  ·have:aG n=[((n % 1048576:Nat):Int)]:=by rw[e,hq,cm]
   simp only[this,List.getLast_singleton]
   omega
  ·have hne:aG (n / 1048576)≠[]:=fun h0=>hq (qG.1 h0)
   have:=ih (n / 1048576) (by omega) hne
   simp only[e]
   rw[List.getLast_cons hne]
   exact this
theorem VP {a b:Nat} (h:aG a=aG b):a=b:=by
 have:=congrArg dv h
 rw[bf,bf]at this
 omega
theorem gw {n k:Nat} (h:(n:Int)<pw k):(aG n).length<=k:=by
 induction k generalizing n with
 | zero =>
  rw[oe]at h
  have:n=0:=by omega
  rw[this,cm];simp
 | succ k ih =>
  by_cases h0:n=0
  ·rw[h0,cm];simp
  ·rw[m9 h0,ad0]
   rw[jZ]at h
   have:=ih (n:=n / 1048576) (by omega)
   omega
theorem fe (n:Nat):(n:Int)<pw (aG n).length:=by
 have:=nN (bZ n)
 rwa [bf]at this
theorem xF {n:Nat} (h:n≠0):pw ((aG n).length-1)<=n∧0<(aG n).length:=by
 induction n using Nat.strongRecOn with
 | _ n ih =>
  rw[m9 h,ad0]
  refine⟨?_,by omega⟩
  by_cases hq:n / 1048576=0
  ·rw[hq,cm];simp[oe];omega
  ·obtain⟨h1,h2⟩:=ih (n / 1048576) (by omega) hq
   have:(aG (n / 1048576)).length+1-1=((aG (n / 1048576)).length-1)+1:=by omega
   rw[this,jZ]
   omega
theorem tF {x:Int} (h1 : -9223372036854775808<=x) (h2:x<9223372036854775808):kf .and .i64 x 1048575=x % 1048576:=by
 unfold kf
 simp only
 have e1:(BitVec.ofInt IntKind.i64.bits x &&& BitVec.ofInt IntKind.i64.bits 1048575).toNat=((x % 18446744073709551616).toNat) % 1048576:=by
  rw[BitVec.toNat_and,BitVec.toNat_ofInt,BitVec.toNat_ofInt]
  have e:((1048575:Int) % ((2 ^ IntKind.i64.bits:Nat):Int)).toNat=2 ^ 20-1:=by decide
  rw[e,afI]
  rfl
 rw[e1,wrap64 (by omega) (by omega)]
 omega
theorem Yb {x:Int} (h1 : -9223372036854775808<=x) (h2:x<9223372036854775808):kf .and .i64 x 1=x % 2:=by
 unfold kf
 simp only
 have e1:(BitVec.ofInt IntKind.i64.bits x &&& BitVec.ofInt IntKind.i64.bits 1).toNat=((x % 18446744073709551616).toNat) % 2:=by
  rw[BitVec.toNat_and,BitVec.toNat_ofInt,BitVec.toNat_ofInt]
  have e:((1:Int) % ((2 ^ IntKind.i64.bits:Nat):Int)).toNat=2 ^ 1-1:=by decide
  rw[e,afI]
  rfl
 rw[e1,wrap64 (by omega) (by omega)]
 omega
theorem Oh (x:Int):xm .i64 x 20=some (x / 1048576):=by
 unfold xm
 rw[if_neg (by decide)]
 have e:(2:Int) ^ (min (Int.toNat 20) IntKind.i64.bits)=1048576:=by decide
 rw[e,afJ _ (by decide)]
theorem W7 {x:Int} (h0:0<=x) (h:x<8796093022208):Fg .i64 x 20=some (1048576*x):=by
 unfold Fg
 rw[if_neg (by decide)]
 have e:(2:Int) ^ (min (Int.toNat 20) IntKind.i64.bits)=1048576:=by decide
 rw[e,wrap64 (by omega) (by omega),afC]
theorem Qn {x y:Int} (h0:0<=x) (h:x<8796093022208) (hy:0<=y∧y<1048576):kf .or .i64 (1048576*x) y=1048576*x+y:=by
 unfold kf
 simp only
 have e1:(BitVec.ofInt IntKind.i64.bits (1048576*x) ||| BitVec.ofInt IntKind.i64.bits y).toNat=1048576*x.toNat+y.toNat:=by
  rw[BitVec.toNat_or,BitVec.toNat_ofInt,BitVec.toNat_ofInt]
  have e:((2 ^ IntKind.i64.bits:Nat):Int)=18446744073709551616:=by decide
  rw[e]
  have e2:((1048576*x) % 18446744073709551616).toNat=x.toNat <<< 20:=by rw[Nat.shiftLeft_eq];omega
  have e3:(y % 18446744073709551616).toNat=y.toNat:=by omega
  rw[e2,e3,<- Nat.shiftLeft_add_eq_or_of_lt (by omega),Nat.shiftLeft_eq]
  omega
 rw[e1,wrap64 (by omega) (by omega)]
 omega
theorem mk0 {n:Nat} (h:n<=17592186044416):EC 8 (n:Int) (n:Int) (0:Int)=some (List.replicate n 0):=by
 unfold EC
 rw[if_pos]
 ·simp
 ·have:(17592186044416:Int)<=maxLen:=by decide
  refine⟨by omega,by omega,by omega,?_⟩
  simp only[Int.toNat_natCast]
  omega
theorem xz {l m:List Int} (h:l.length+m.length<=17592186044416):mo 8 l m=some (l++m):=by
 unfold mo
 have:(17592186044416:Nat)<=maxLen:=by decide
 rw[if_pos ⟨by omega,by omega⟩]
theorem cD {σ ρ:Type} {body:σ->Option (σ⊕ρ)} (I:Nat->σ->Prop) (n:Nat) (Q:ρ->Prop) {s:σ} (hI:I 0 s) (hn:n+1<FU)
  (hstep:∀i s,i<=n->I i s->(i<n∧∃s',body s=some (.inl s')∧I (i+1) s')∨(∃r,body s=some (.inr r)∧Q r)):∃r,aY body s=some r∧Q r:=by
 have key:∀(k i:Nat) (s:σ),i<=n->n-i<k->I i s->∃r,nP body k s=some r∧Q r:=by
  intro k
  induction k with
  | zero=>intro i s _ h;omega
  | succ k ih =>
   intro i s hi hk hI
   rcases hstep i s hi hI with⟨hlt,s',h1,h2⟩|⟨r,h1,h2⟩
   ·obtain⟨r,h3,h4⟩:=ih (i+1) s' (by omega) (by omega) h2
    exact⟨r,by simp only[nP,h1];exact h3,h4⟩
   ·exact⟨r,by simp only[nP,h1],h2⟩
 exact key FU 0 s (adB _) (by omega) hI
theorem SP (i:Nat) (x:Int):pw (i+1)*x=pw i*(1048576*x):=by rw[jZ,afC 1048576 (pw i),afG]
theorem uo (i:Nat) (t:Int):pw i*(t % 1048576)+pw (i+1)*(t / 1048576)=pw i*t:=by
 rw[SP,<- afF]
 congr 1
 omega
theorem jl {n:Nat} (h:n<=17592186044416):n+1<FU:=by unfold FU;omega
abbrev Fit (l:List Int):Prop:=l.length<=17592186044416
theorem gJ {x:Int} (h : -4611686018427387904<=x∧x<=4611686018427387904):IntKind.i64.wrap x=x:=wrap64 (by omega) (by omega)
theorem ns {α:Type} (o:Option α):(o.bind fun r=>some r)=o:=by cases o<;>rfl
theorem Im {l:List Int} (hl:Fit l):∃r,aY (ld l) (l.length:Int)=some r∧∃k:Nat,r=k∧k<=l.length∧(∀j (hj:j<l.length),k<=j->l[j]=0)∧(∀h:0<k,∀hk:k-1<l.length,l[k-1]≠0):=by
 unfold Fit at hl
 refine cD (I:=fun i s=>s=((l.length-i:Nat):Int)∧(∀j (hj:j<l.length),l.length-i<=j->l[j]=0)) l.length _ ⟨rfl,fun j hj h=>by omega⟩ (jl hl) ?_
 rintro i s hi ⟨rfl,hz⟩
 generalize hk:l.length-i=k at *
 simp only[ld]
 by_cases h0:0<k
 ·have hk1:k-1<l.length:=by omega
  have e:IntKind.i64.wrap ((k:Int)-1)=((k-1:Nat):Int):=by rw[gJ (by omega)];omega
  rw[if_pos (by simp;omega),e,bV hk1,ae4]
  by_cases hx:l[k-1]=0
  ·left
   refine⟨by omega,_,by rw[if_pos (by simpa using hx)],by rw[show l.length-(i+1)=k-1 by omega],fun j hj h =>?_⟩
   by_cases hj':j=k-1
   ·subst hj';exact hx
   ·exact hz j hj (by omega)
  ·right
   exact⟨_,by rw[if_neg (by simpa using hx)],k,rfl,by omega,hz,fun _ _=>hx⟩
 ·right
  exact⟨_,by rw[if_neg (by simp;omega)],k,rfl,by omega,hz,fun h=>absurd h h0⟩
theorem V3 {l:List Int} {k:Nat} (hz:∀j (hj:j<l.length),k<=j->l[j]=0):dv (l.drop k)=0:=by
 have:l.drop k=List.replicate (l.drop k).length 0:=by
  refine List.eq_replicate_of_mem fun x hx =>?_
  obtain⟨i,hi,rfl⟩:=List.mem_iff_getElem.1 hx
  rw[List.getElem_drop]
  exact hz _ _ (by omega)
 rw[this,y7]
theorem sN {l:List Int} (hl:Fit l) (hd:Dg l):dz l=some (aG (dv l).toNat):=by
 obtain⟨r,h1,k,rfl,hk,hz,hlast⟩:=Im hl
 unfold dz
 rw[h1,ae4,JL hk,ae4]
 congr 1
 have h2:dv l=dv (l.take k):=by rw[iL l hk,V3 hz];omega
 rw[h2]
 refine (Bd (hd.take k) fun hne =>?_).symm
 have hk0:0<k:=by
  rcases adS k with h|h
  ·subst h;simp at hne
  ·exact h
 have:=hlast hk0 (by omega)
 rw[List.getLast_eq_getElem]
 simp only[adT,List.getElem_take,aeF hk]
 exact this
theorem Bo {l:List Int} {n:Nat} (hl:Fit l) (hd:Dg l) (hn:dv l=n):dz l=some (aG n):=by
 rw[sN hl hd,hn];rfl
def gd (l:List Int) (i:Nat):Int:=if h:i<l.length then l[i] else 0
theorem GO {l:List Int} (h:Dg l) (i:Nat):0<=gd l i∧gd l i<1048576:=by
 unfold gd
 split
 ·exact h.get _
 ·omega
theorem pV {l:List Int} (i:Nat):dv (l.take (i+1))=dv (l.take i)+pw i*gd l i:=by
 unfold gd
 split
 ·exact fp _
 ·rw[aeT (by omega),aeT (by omega)];simp
theorem w8 {l:List Int} {i:Nat} (h:l.length<=i):dv (l.take i)=dv l:=by rw[aeT h]
theorem Va {a b:List Int} (ha:Dg a) (hb:Dg b) (hf:a.length<17592186044416) (hab:b.length<=a.length) :
  ∃r,aY (oN a b) (0,0,List.replicate (a.length+1) 0)=some r∧r.2.length=a.length+1∧Dg r.2∧(∀j (hj:j<r.2.length),a.length<=j->r.2[j]=0)∧(0<=r.1∧r.1<=1)∧dv r.2+pw a.length*r.1=dv a+dv b:=by
 refine cD (I:=fun i s=>s.2.1=(i:Int)∧s.2.2.length=a.length+1∧Dg s.2.2∧(∀j (hj:j<s.2.2.length),i<=j->s.2.2[j]=0)∧(0<=s.1∧s.1<=1)∧dv s.2.2+pw i*s.1=dv (a.take i)+dv (b.take i))
  a.length _ ⟨rfl,by simp,Dg.rep _,fun j hj _=>by simp,by simp,by simp[y7,dv]⟩ (jl (by omega)) ?_
 rintro i ⟨c,s,l⟩ hi ⟨h1,hl,hd,hz,hc,he⟩
 simp only at h1 hl hd hz hc he
 subst h1
 simp only[oN]
 by_cases hlt:i<a.length
 ·left
  rw[if_pos (by simpa using hlt),bV hlt,ae4]
  have ga:=ha.get hlt
  have gb:=GO hb i
  have hT:(if decide ((i:Int)<(b.length:Int))=true then (P.idx b (i:Int)).bind fun x22=>some (IntKind.i64.wrap ((IntKind.i64.wrap (c+a[i]))+x22)) else some (IntKind.i64.wrap (c+a[i])))=some (c+a[i]+gd b i):=by
   by_cases hib:i<b.length
   ·rw[if_pos (by simpa using hib),bV hib,ae4]
    have:gd b i=b[i]:=by unfold gd;rw[dif_pos hib]
    rw[this]at gb ⊢
    rw[gJ (x:=c+a[i]) (by omega),gJ (by omega)]
   ·rw[if_neg (by simpa using hib)]
    have:gd b i=0:=by unfold gd;rw[dif_neg hib]
    rw[this,gJ (by omega)];simp
  rw[hT,ae4,bV (by omega),ae4,Oh,ae4,tF (by omega) (by omega)]
  have hli:l[i]=0:=hz i (by omega) (adA _)
  have e1:IntKind.i64.wrap ((i:Int)+1)=((i+1:Nat):Int):=by rw[gJ (by omega)];omega
  refine⟨hlt,_,rfl,e1,by simpa using hl,hd.set _ (by omega),fun j hj hij =>?_,by simp only;omega,?_⟩
  ·simp only[Int.toNat_natCast]at hj ⊢
   rw[afK (by omega)]
   exact hz j (by simpa using hj) (by omega)
  ·simp only[Int.toNat_natCast]
   rw[rL (by omega),hli,pV,pV]
   have hga:gd a i=a[i]:=by unfold gd;rw[dif_pos hlt]
   rw[hga]
   have hp:=uo i (c+a[i]+gd b i)
   rw[afF,afF]at hp
   rw[Int.sub_zero]
   omega
 ·right
  have hia:i=a.length:=by omega
  subst hia
  refine⟨_,by rw[if_neg (by simp)],hl,hd,fun j hj h=>hz j hj h,hc,?_⟩
  rw[he,w8 (adA _),w8 hab]
theorem add_eq {a b:List Int} (ha:Dg a) (hb:Dg b) (hfa:a.length<17592186044416) (hfb:b.length<17592186044416):pG a b=some (aG (dv a+dv b).toNat):=by
 have main:∀ {a b:List Int},Dg a->Dg b->a.length<17592186044416->b.length<=a.length ->
   ((EC 8 (IntKind.i64.wrap ((a.length:Int)+1)) (IntKind.i64.wrap ((a.length:Int)+1)) 0).bind fun x2 =>
    (aY (oN a b) (0,0,x2)).bind fun q=>match q with
    | (s6bx,l5bx) =>
     (P.idx l5bx (a.length:Int)).bind fun x23 =>
     (dz (l5bx.set ((a.length:Int)).toNat s6bx)).bind fun r26 =>
     some r26)=some (aG (dv a+dv b).toNat):=by
  intro a b ha hb hfa hab
  have e:IntKind.i64.wrap ((a.length:Int)+1)=((a.length+1:Nat):Int):=by rw[gJ (by omega)];omega
  rw[e,mk0 (by omega),ae4]
  obtain⟨⟨c,l⟩,h1,h2,h3,h4,h5,h6⟩:=Va ha hb hfa hab
  rw[h1]
  simp only[Option.bind_some]at h2 h3 h4 h5 h6 ⊢
  have hlt:a.length<l.length:=by omega
  rw[bV hlt,ae4,aez,ns]
  have hv:dv (l.set a.length c)=dv a+dv b:=by
   rw[rL hlt,h4 _ hlt (adA _),Int.sub_zero,h6]
  rw[sN (by simp[Fit];omega) (h3.set _ (by omega)),hv]
 unfold pG
 by_cases h:a.length<b.length
 ·rw[if_pos (by simpa using h),ae4,Int.add_comm]
  exact main hb ha hfb (by omega)
 ·rw[if_neg (by simpa using h),ae4]
  exact main ha hb hfa (by omega)
theorem tM {l:List Int} (h:Fit l):cH l=some l:=by
 unfold cH
 rw[xz (by simpa using h),aff]
theorem LP {l:List Int} {i:Nat} (h:i<l.length):gd l i=l[i]:=by unfold gd;rw[dif_pos h]
theorem GP {l:List Int} {i:Nat} (h:l.length<=i):gd l i=0:=by unfold gd;rw[dif_neg (by omega)]
theorem Xn {a b:List Int} (ha:Dg a) (hb:Dg b) (hf:Fit a) (hab:b.length<=a.length) (hle:dv b<=dv a) :
  ∃l,aY (rH b a) (0,0,a)=some l∧l.length=a.length∧Dg l∧dv l=dv a-dv b:=by
 unfold Fit at hf
 refine cD (I:=fun i s=>s.2.1=(i:Int)∧s.2.2.length=a.length∧Dg s.2.2∧(∀j (hj:j<s.2.2.length) (hj':j<a.length),i<=j->s.2.2[j]=a[j])∧(0<=s.1∧s.1<=1)∧dv s.2.2+dv (b.take i)=dv a+pw i*s.1)
  a.length _ ⟨rfl,rfl,ha,fun j hj _ _=>rfl,by simp,by simp[dv]⟩ (jl (by omega)) ?_
 rintro i ⟨c,s,l⟩ hi ⟨h1,hl,hd,hz,hc,he⟩
 simp only at h1 hl hd hz hc he
 subst h1
 simp only[rH]
 by_cases hlt:i<a.length
 ·left
  have hli:i<l.length:=by omega
  rw[if_pos (by simpa using hlt),bV hli,ae4,hz i hli hlt (adA _)]
  have ga:=ha.get hlt
  have gb:=GO hb i
  have hT:(if decide ((i:Int)<(b.length:Int))=true then (P.idx b (i:Int)).bind fun x18=>some (IntKind.i64.wrap ((IntKind.i64.wrap (a[i]-c))-x18)) else some (IntKind.i64.wrap (a[i]-c)))=some (a[i]-c-gd b i):=by
   by_cases hib:i<b.length
   ·rw[if_pos (by simpa using hib),bV hib,ae4]
    rw[LP hib]at gb ⊢
    rw[gJ (x:=a[i]-c) (by omega),gJ (by omega)]
   ·rw[if_neg (by simpa using hib),GP (by omega),gJ (by omega)];simp
  rw[hT,ae4,Oh,ae4,tF (by omega) (by omega),Yb (by omega) (by omega)]
  have e1:IntKind.i64.wrap ((i:Int)+1)=((i+1:Nat):Int):=by rw[gJ (by omega)];omega
  refine⟨hlt,_,rfl,e1,by simpa using hl,hd.set _ (by omega),fun j hj hj' hij =>?_,by simp only;omega,?_⟩
  ·simp only[Int.toNat_natCast]at hj ⊢
   rw[afK (by omega)]
   exact hz j (by simpa using hj) hj' (by omega)
  ·simp only[Int.toNat_natCast]
   rw[rL hli,hz i hli hlt (adA _),pV]
   have hp:=uo i (a[i]-c-gd b i)
   have hb2:(a[i]-c-gd b i) / 1048576 % 2 = - ((a[i]-c-gd b i) / 1048576):=by omega
   rw[hb2,Int.mul_neg]
   rw[afL,afL]at hp
   rw[afL]
   omega
 ·right
  have hia:i=a.length:=by omega
  subst hia
  refine⟨l,by rw[if_neg (by simp)],hl,hd,?_⟩
  rw[w8 hab]at he
  have h1:=nN hd
  rw[hl]at h1
  have hc0:c=0:=by
   rcases (show c=0∨c=1 by omega) with h|h
   ·exact h
   ·subst h;omega
  subst hc0
  omega
theorem sub_eq {a b:List Int} (ha:Dg a) (hb:Dg b) (hf:Fit a) (hab:b.length<=a.length) (hle:dv b<=dv a):nW a b=some (aG (dv a-dv b).toNat):=by
 obtain⟨l,h1,h2,h3,h4⟩:=Xn ha hb hf hab hle
 unfold nW
 rw[tM hf,ae4,h1,ae4,ns,sN (by unfold Fit at *;omega) h3,h4]
theorem jO {l:List Int} {i:Nat} (h:i<l.length):dv (l.drop i)=l[i]+1048576*dv (l.drop (i+1)):=by
 rw[afu h,dv]
theorem Yn {x d:Int} (h:0<=x) (hd:0<d) (hx:x<4611686018427387904):y5 .i64 x d=some (x / d):=by
 unfold y5
 rw[if_neg (by omega),Int.tdiv_eq_ediv_of_nonneg h,gJ]
 have:=afM h (Int.le_of_lt hd)
 have:=Int.ediv_le_self d h
 omega
theorem aaC {x d:Int} (h:0<=x) (hd:0<d):Dl .i64 x d=some (x % d):=by
 unfold Dl
 rw[if_neg (by omega),Int.tmod_eq_emod_of_nonneg h]
theorem Qx {a:List Int} {d:Int} (ha:Dg a) (hd:0<d∧d<=1048576) (hf:Fit a) :
  ∃r,aY (nV a d) (0,IntKind.i64.wrap ((a.length:Int)-1),List.replicate a.length 0)=some r∧r.2.length=a.length∧Dg r.2∧(0<=r.1∧r.1<d)∧dv a=d*dv r.2+r.1:=by
 unfold Fit at hf
 have e0:IntKind.i64.wrap ((a.length:Int)-1)=(a.length:Int)-1:=gJ (by omega)
 rw[e0]
 refine cD (I:=fun i s=>s.2.1=((a.length-i:Nat):Int)-1∧s.2.2.length=a.length∧Dg s.2.2∧(0<=s.1∧s.1<d)∧dv (a.drop (a.length-i))=d*dv (s.2.2.drop (a.length-i))+s.1)
  a.length _ ⟨rfl,by simp,Dg.rep _,by simp;omega,by simp[dv]⟩ (jl (by omega)) ?_
 rintro i ⟨r,s,l⟩ hi ⟨h1,hl,hg,hr,he⟩
 simp only at h1 hl hg hr he
 subst h1
 generalize hk:a.length-i=k at *
 simp only[nV]
 by_cases h0:0<k
 ·left
  have hk1:k-1<a.length:=by omega
  have hk2:k-1<l.length:=by omega
  have ek:((k:Int)-1)=((k-1:Nat):Int):=by omega
  have ga:=ha.get hk1
  rw[ek,if_pos (by simp),W7 (by omega) (by omega),ae4,bV hk1,ae4,Qn (by omega) (by omega) ga,Yn (by omega) hd.1 (by omega),ae4,bV hk2,ae4,aaC (by omega) hd.1,ae4]
  have e1:IntKind.i64.wrap (((k-1:Nat):Int)-1)=((k-1:Nat):Int)-1:=gJ (by omega)
  have hx0:0<=1048576*r+a[k-1]:=by omega
  have hq0:0<=(1048576*r+a[k-1]) / d:=afM hx0 (by omega)
  have hq1:(1048576*r+a[k-1]) / d<1048576:=by
   apply afN hd.1
   have:1048576*r<=1048576*(d-1):=afE (by omega) (by omega)
   omega
  have hm0:=Int.emod_nonneg (1048576*r+a[k-1]) (show d≠0 by omega)
  have hm1:=afO (1048576*r+a[k-1]) hd.1
  refine⟨by omega,_,rfl,by rw[e1,show a.length-(i+1)=k-1 by omega],by simpa using hl,hg.set _ ⟨hq0,hq1⟩,⟨hm0,hm1⟩,?_⟩
  simp only[Int.toNat_natCast]
  rw[show a.length-(i+1)=k-1 by omega,jO hk1,jO (l:=l.set (k-1) _) (i:=k-1) (by simpa using hk2),show k-1+1=k by omega,List.getElem_set_self,List.drop_set_of_lt (by omega),he]
  have:=afP (1048576*r+a[k-1]) d
  rw[afF,afF]
  have e3:d*(1048576*dv (l.drop k))=1048576*(d*dv (l.drop k)):=by rw[<- afG,afC d,afG]
  rw[e3]
  omega
 ·right
  have:k=0:=by omega
  subst this
  refine⟨(r,l),by rw[if_neg (by simp)],hl,hg,hr,?_⟩
  simpa using he
theorem Og {a:List Int} {d:Int} (ha:Dg a) (hd:0<d∧d<=1048576) (hf:Fit a):k9 a d=some (aG (dv a / d).toNat,dv a % d):=by
 obtain⟨⟨r,l⟩,h1,h2,h3,h4,h5⟩:=Qx ha hd hf
 unfold k9
 rw[mk0 hf,ae4,h1,ae4]
 simp only at h2 h3 h4 h5 ⊢
 rw[sN (by unfold Fit at *;omega) h3,ae4]
 have e1:dv a / d=dv l:=by
  rw[h5,afC,Int.add_comm,Int.add_mul_ediv_right _ _ (by omega),Int.ediv_eq_zero_of_lt h4.1 h4.2];omega
 have e2:dv a % d=r:=by
  rw[h5,afC,Int.add_comm,Int.add_mul_emod_self_right]
  exact Int.emod_eq_of_lt h4.1 h4.2
 rw[e1,e2]
theorem Uv {b l0:List Int} {x:Int} {i n:Nat} (hb:Dg b) (hx:0<=x∧x<1048576) (h0:Dg l0) (hn:l0.length=n) (hi:i+b.length<n) (hf:n<=17592186044416) (hz:∀j (hj:j<l0.length),i+b.length<=j->l0[j]=0) :
  ∃r,aY (rG b (i:Int) x) (0,0,l0)=some r∧r.2.length=n∧Dg r.2∧(0<=r.1∧r.1<1048576)∧(∀j (hj:j<r.2.length),i+b.length<=j->r.2[j]=0)∧dv r.2+pw (i+b.length)*r.1=dv l0+pw i*(x*dv b):=by
 refine cD (I:=fun k s=>s.2.1=(k:Int)∧s.2.2.length=n∧Dg s.2.2∧(0<=s.1∧s.1<1048576)∧(∀j (hj:j<s.2.2.length),i+b.length<=j->s.2.2[j]=0)∧dv s.2.2+pw (i+k)*s.1=dv l0+pw i*(x*dv (b.take k)))
  b.length _ ⟨rfl,hn,h0,by simp,hz,by simp[dv]⟩ (jl (by omega)) ?_
 rintro k ⟨c,s,l⟩ hk ⟨h1,hl,hd,hc,hz,he⟩
 simp only at h1 hl hd hc hz he
 subst h1
 simp only[rG]
 by_cases hlt:k<b.length
 ·left
  have hik:i+k<l.length:=by omega
  have ei:IntKind.i64.wrap ((i:Int)+(k:Int))=((i+k:Nat):Int):=by rw[gJ (by omega)];omega
  have gb:=hb.get hlt
  have gl:=hd.get hik
  have hm0:0<=x*b[k]:=afQ hx.1 gb.1
  have hm1:x*b[k]<=1048575*1048575:=afR (by omega) (by omega) gb.1 (by omega)
  rw[if_pos (by simpa using hlt),bV hlt,ae4,ei,bV hik,ae4,gJ (x:=x*b[k]) (by omega),gJ (x:=l[i+k]+x*b[k]) (by omega),gJ (x:=l[i+k]+x*b[k]+c) (by omega),Oh,ae4,tF (by omega) (by omega)]
  have e1:IntKind.i64.wrap ((k:Int)+1)=((k+1:Nat):Int):=by rw[gJ (by omega)];omega
  refine⟨hlt,_,rfl,e1,by simpa using hl,hd.set _ (by omega),by simp only;omega,fun j hj hij =>?_,?_⟩
  ·simp only[Int.toNat_natCast]at hj ⊢
   rw[afK (by omega)]
   exact hz j (by simpa using hj) hij
  ·simp only[Int.toNat_natCast]
   rw[rL hik,fp hlt]
   have hp:=uo (i+k) (l[i+k]+x*b[k]+c)
   rw[afF (pw (i+k)),afF (pw (i+k))]at hp
   have e2:pw i*(x*(dv (b.take k)+pw k*b[k]))=pw i*(x*dv (b.take k))+pw (i+k)*(x*b[k]):=by
    rw[afF,afF,DR]
    congr 1
    rw[afS x,<- afG]
   rw[e2,afL,show i+(k+1)=i+k+1 by omega]
   omega
 ·right
  have hkb:k=b.length:=by omega
  subst hkb
  refine⟨(c,l),by rw[if_neg (by simp)],hl,hd,hc,hz,?_⟩
  rw[he,afA]
theorem Uu {a b:List Int} (ha:Dg a) (hb:Dg b) (hf:a.length+b.length<=17592186044416) :
  ∃l,aY (rF a b) (0,List.replicate (a.length+b.length) 0)=some l∧l.length=a.length+b.length∧Dg l∧dv l=dv a*dv b:=by
 refine cD (I:=fun i s=>s.1=(i:Int)∧s.2.length=a.length+b.length∧Dg s.2∧(∀j (hj:j<s.2.length),i+b.length<=j->s.2[j]=0)∧dv s.2=dv (a.take i)*dv b)
  a.length _ ⟨rfl,by simp,Dg.rep _,fun j hj _=>by simp,by simp[dv,y7]⟩ (jl (by omega)) ?_
 rintro i ⟨s,l⟩ hi ⟨h1,hl,hd,hz,he⟩
 simp only at h1 hl hd hz he
 subst h1
 simp only[rF]
 by_cases hlt:i<a.length
 ·left
  have ga:=ha.get hlt
  obtain⟨⟨c,m⟩,g1,g2,g3,g4,g5,g6⟩:=Uv (i:=i) (n:=a.length+b.length) hb ga hd hl (by omega) hf hz
  rw[if_pos (by simpa using hlt),bV hlt,ae4,g1,ae4]
  simp only at g2 g3 g4 g5 g6 ⊢
  have ei:IntKind.i64.wrap ((i:Int)+(b.length:Int))=((i+b.length:Nat):Int):=by rw[gJ (by omega)];omega
  have hib:i+b.length<m.length:=by omega
  rw[ei,bV hib,ae4,g5 _ hib (adA _),Int.zero_add,gJ (x:=c) (by omega)]
  have e1:IntKind.i64.wrap ((i:Int)+1)=((i+1:Nat):Int):=by rw[gJ (by omega)];omega
  refine⟨hlt,_,rfl,e1,by simpa using g2,g3.set _ g4,fun j hj hij =>?_,?_⟩
  ·simp only[Int.toNat_natCast]at hj ⊢
   rw[afK (by omega)]
   exact g5 j (by simpa using hj) (by omega)
  ·simp only[Int.toNat_natCast]
   rw[rL hib,g5 _ hib (adA _),Int.sub_zero,g6,he,fp hlt,afT,afG]
 ·right
  have hia:i=a.length:=by omega
  subst hia
  refine⟨l,by rw[if_neg (by simp)],hl,hd,?_⟩
  rw[he,afA]
theorem mul_eq {a b:List Int} (ha:Dg a) (hb:Dg b) (hf:a.length+b.length<=17592186044416):nU a b=some (aG (dv a*dv b).toNat):=by
 obtain⟨l,h1,h2,h3,h4⟩:=Uu ha hb hf
 unfold nU
 have e:IntKind.i64.wrap ((a.length:Int)+(b.length:Int))=((a.length+b.length:Nat):Int):=by rw[gJ (by omega)];omega
 rw[e,mk0 hf,ae4,h1,ae4,ns,sN (by unfold Fit;omega) h3,h4]
def ij (x y:Int):Int:=if x<y then -1 else if y<x then 1 else 0
theorem y4 (x y:Int):eA x y=some (ij x y):=by
 unfold eA mq ij
 simp only[bne_self_eq_false,Option.bind_some,aea,if_false,decide_eq_true_eq]
 split
 ·rfl
 ·split<;>rfl
theorem KV {a b:List Int} (ha:Dg a) (hb:Dg b) (hf:Fit a) (hl:a.length=b.length):eT a b=some (ij (dv a) (dv b)):=by
 unfold Fit at hf
 unfold eT
 rw[if_neg (by simp;omega)]
 have e0:IntKind.i64.wrap ((a.length:Int)-1)=(a.length:Int)-1:=gJ (by omega)
 rw[e0]
 have key:∃r,aY (lF a b) ((a.length:Int)-1)=some r∧(match r with | .inl _=>ij (dv a) (dv b)=0 | .inr x=>x=ij (dv a) (dv b)):=by
  refine cD (I:=fun i s=>s=((a.length-i:Nat):Int)-1∧a.drop (a.length-i)=b.drop (a.length-i)) a.length _ ⟨rfl,?_⟩ (jl hf) ?_
  ·rw[afi (by omega),afi (by omega)]
  rintro i s hi ⟨rfl,he⟩
  generalize hk:a.length-i=k at *
  simp only[lF]
  by_cases h0:0<k
  ·have h1:k-1<a.length:=by omega
   have h2:k-1<b.length:=by omega
   have ek:((k:Int)-1)=((k-1:Nat):Int):=by omega
   rw[ek,if_pos (by simp),bV h1,ae4,bV h2,ae4]
   by_cases hx:a[k-1]=b[k-1]
   ·left
    rw[if_neg (by simpa using hx)]
    refine⟨by omega,_,rfl,by rw[gJ (by omega)];omega,?_⟩
    rw[show a.length-(i+1)=k-1 by omega,afu h1,afu h2,hx,show k-1+1=k by omega,he]
   ·right
    rw[if_pos (by simpa using hx),y4,ae4]
    refine⟨_,rfl,?_⟩
    simp only
    have ea:=iL a (i:=k) (by omega)
    have eb:=iL b (i:=k) (by omega)
    have ta:=fp h1
    have tb:=fp h2
    rw[show k-1+1=k by omega]at ta tb
    have la:=nN (ha.take (k-1))
    have lb:=nN (hb.take (k-1))
    rw[adT,aeF (by omega)]at la lb
    have na:=cy (ha.take (k-1))
    have nb:=cy (hb.take (k-1))
    have hp:=mC (k-1)
    rw[ta]at ea
    rw[tb]at eb
    rw[he]at ea
    unfold ij
    rcases Int.lt_or_gt_of_ne hx with hlt|hlt
    ·have:pw (k-1)*a[k-1]+pw (k-1)<=pw (k-1)*b[k-1]:=by
      have:pw (k-1)*(a[k-1]+1)<=pw (k-1)*b[k-1]:=afE (by omega) (by omega)
      rwa [afF,afD]at this
     rw[if_pos hlt,if_pos (by omega)]
    ·have:pw (k-1)*b[k-1]+pw (k-1)<=pw (k-1)*a[k-1]:=by
      have:pw (k-1)*(b[k-1]+1)<=pw (k-1)*a[k-1]:=afE (by omega) (by omega)
      rwa [afF,afD]at this
     rw[if_neg (by omega),if_pos hlt,if_neg (by omega),if_pos (by omega)]
  ·right
   have:k=0:=by omega
   subst this
   refine⟨.inl (),by rw[if_neg (by simp)],?_⟩
   simp only[aeU]at he
   simp[he,ij]
 obtain⟨r,h1,h2⟩:=key
 rw[h1,ae4]
 cases r with
 | inl u=>simp only at h2 ⊢;rw[h2]
 | inr x=>simp only at h2 ⊢;rw[h2]
theorem tO {m n:Nat} (h:(aG m).length<(aG n).length):m<n:=by
 have h1:=fe m
 have hn:n≠0:=fun h0=>by subst h0;rw[cm]at h;simp at h
 have h2:=xF hn
 have h3:=p5 (i:=(aG m).length) (j:=(aG n).length-1) (by omega)
 omega
theorem b9 {m n:Nat} (h:m<=n):(aG m).length<=(aG n).length:=by
 rcases ael (aG n).length (aG m).length with h1|h1
 ·have:=tO h1;omega
 ·exact h1
theorem wW {m n:Nat} (hm:Fit (aG m)) (hn:Fit (aG n)):eT (aG m) (aG n)=some (ij m n):=by
 by_cases hl:(aG m).length=(aG n).length
 ·rw[KV (bZ m) (bZ n) hm hl,bf,bf]
 ·unfold eT
  rw[if_pos (by simp;omega),y4,ns]
  unfold ij
  rcases Nat.lt_or_gt_of_ne hl with h|h
  ·have:=tO h
   rw[if_pos (by omega),if_pos (by omega)]
  ·have:=tO h
   rw[if_neg (by omega),if_pos (by omega),if_neg (by omega),if_pos (by omega)]
theorem JJ {u v:List Int} {g:Int} (hu:Dg u) (hv:Dg v) (hg:0<=g∧g<=1048576) (hf:Fit u) (hl:v.length<=u.length) :
  ∃r,aY (kv u v g) (0,0,u)=some r∧r.2.length=u.length∧Dg r.2∧(0<=r.1∧r.1<=1048576)∧dv r.2+g*dv v=dv u+pw u.length*r.1:=by
 unfold Fit at hf
 refine cD (I:=fun i s=>s.2.1=(i:Int)∧s.2.2.length=u.length∧Dg s.2.2∧(∀j (hj:j<s.2.2.length) (hj':j<u.length),i<=j->s.2.2[j]=u[j])∧(0<=s.1∧s.1<=1048576)∧dv s.2.2+g*dv (v.take i)=dv u+pw i*s.1)
  u.length _ ⟨rfl,rfl,hu,fun j hj _ _=>rfl,by simp,by simp[dv]⟩ (jl (by omega)) ?_
 rintro i ⟨c,s,l⟩ hi ⟨h1,hll,hd,hz,hc,he⟩
 simp only at h1 hll hd hz hc he
 subst h1
 simp only[kv]
 by_cases hlt:i<u.length
 ·left
  have hli:i<l.length:=by omega
  rw[if_pos (by simpa using hlt),bV hli,ae4,hz i hli hlt (adA _)]
  have ga:=hu.get hlt
  have gb:=GO hv i
  have hm0:0<=g*gd v i:=afQ hg.1 gb.1
  have hm1:g*gd v i<=1048576*1048575:=afR (by omega) (by omega) gb.1 (by omega)
  have hT:(if decide ((i:Int)<(v.length:Int))=true then (P.idx v (i:Int)).bind fun x17=>some (IntKind.i64.wrap ((IntKind.i64.wrap (u[i]-c))-(IntKind.i64.wrap (g*x17)))) else some (IntKind.i64.wrap (u[i]-c)))=some (u[i]-c-g*gd v i):=by
   by_cases hib:i<v.length
   ·rw[if_pos (by simpa using hib),bV hib,ae4]
    rw[LP hib]at gb hm0 hm1 ⊢
    rw[gJ (x:=u[i]-c) (by omega),gJ (x:=g*v[i]) (by omega),gJ (by omega)]
   ·rw[if_neg (by simpa using hib),GP (by omega),gJ (by omega)];simp
  rw[hT,ae4,Oh,ae4,tF (by omega) (by omega),gJ (x:=0-_) (by omega)]
  have e1:IntKind.i64.wrap ((i:Int)+1)=((i+1:Nat):Int):=by rw[gJ (by omega)];omega
  refine⟨hlt,_,rfl,e1,by simpa using hll,hd.set _ (by omega),fun j hj hj' hij =>?_,by simp only;omega,?_⟩
  ·simp only[Int.toNat_natCast]at hj ⊢
   rw[afK (by omega)]
   exact hz j (by simpa using hj) hj' (by omega)
  ·simp only[Int.toNat_natCast]
   rw[rL hli,hz i hli hlt (adA _),pV]
   have hp:=uo i (u[i]-c-g*gd v i)
   rw[afL (pw i),afL (pw i)]at hp
   have e2:g*(dv (v.take i)+pw i*gd v i)=g*dv (v.take i)+pw i*(g*gd v i):=by rw[afF,afS]
   rw[e2,afL (pw i),afL (pw (i+1)),afU]
   omega
 ·right
  have hia:i=u.length:=by omega
  subst hia
  refine⟨(c,l),by rw[if_neg (by simp)],hll,hd,hc,?_⟩
  rw[w8 hl]at he
  exact he
theorem JK {u v:List Int} (hu:Dg u) (hv:Dg v) (hf:Fit u) (hl:v.length<=u.length) :
  ∃l,aY (kx v u) (0,0,u)=some l∧l.length=u.length∧Dg l∧∃c,0<=c∧dv l+pw u.length*c=dv u+dv v:=by
 unfold Fit at hf
 refine cD (I:=fun i s=>s.2.1=(i:Int)∧s.2.2.length=u.length∧Dg s.2.2∧(∀j (hj:j<s.2.2.length) (hj':j<u.length),i<=j->s.2.2[j]=u[j])∧(0<=s.1∧s.1<=1)∧dv s.2.2+pw i*s.1=dv u+dv (v.take i))
  u.length _ ⟨rfl,rfl,hu,fun j hj _ _=>rfl,by simp,by simp[dv]⟩ (jl (by omega)) ?_
 rintro i ⟨c,s,l⟩ hi ⟨h1,hll,hd,hz,hc,he⟩
 simp only at h1 hll hd hz hc he
 subst h1
 simp only[kx]
 by_cases hlt:i<u.length
 ·left
  have hli:i<l.length:=by omega
  rw[if_pos (by simpa using hlt),bV hli,ae4,hz i hli hlt (adA _)]
  have ga:=hu.get hlt
  have gb:=GO hv i
  have hT:(if decide ((i:Int)<(v.length:Int))=true then (P.idx v (i:Int)).bind fun x35=>some (IntKind.i64.wrap ((IntKind.i64.wrap (c+u[i]))+x35)) else some (IntKind.i64.wrap (c+u[i])))=some (c+u[i]+gd v i):=by
   by_cases hib:i<v.length
   ·rw[if_pos (by simpa using hib),bV hib,ae4]
    rw[LP hib]at gb ⊢
    rw[gJ (x:=c+u[i]) (by omega),gJ (by omega)]
   ·rw[if_neg (by simpa using hib),GP (by omega),gJ (by omega)];simp
  rw[hT,ae4,Oh,ae4,tF (by omega) (by omega)]
  have e1:IntKind.i64.wrap ((i:Int)+1)=((i+1:Nat):Int):=by rw[gJ (by omega)];omega
  refine⟨hlt,_,rfl,e1,by simpa using hll,hd.set _ (by omega),fun j hj hj' hij =>?_,by simp only;omega,?_⟩
  ·simp only[Int.toNat_natCast]at hj ⊢
   rw[afK (by omega)]
   exact hz j (by simpa using hj) hj' (by omega)
  ·simp only[Int.toNat_natCast]
   rw[rL hli,hz i hli hlt (adA _),pV]
   have hp:=uo i (c+u[i]+gd v i)
   rw[afF (pw i),afF (pw i)]at hp
   rw[afL (pw i)]
   omega
 ·right
  have hia:i=u.length:=by omega
  subst hia
  refine⟨l,by rw[if_neg (by simp)],hll,hd,c,hc.1,?_⟩
  rw[w8 hl]at he
  exact he
theorem UD {u v:List Int} {g:Int} (hu:Dg u) (hv:Dg v) (hf:Fit u) (hl:v.length<=u.length) (hV:0<dv v) (hg0:dv u / dv v<=g) (hg1:g<=dv u / dv v+1) (hgB:g<=1048576) :
  ∃l,fl u v g=some (l,dv u / dv v)∧l.length=u.length∧Dg l∧dv l=dv u % dv v:=by
 have hq0:0<=dv u / dv v:=afM (cy hu) (by omega)
 obtain⟨⟨c,l⟩,h1,h2,h3,h4,h5⟩:=JJ hu hv ⟨by omega,hgB⟩ hf hl
 simp only at h2 h3 h4 h5
 have hm:=afP (dv u) (dv v)
 have hm0:=Int.emod_nonneg (dv u) (show dv v≠0 by omega)
 have hm1:=afO (dv u) hV
 have hll:=nN h3
 have hl0:=cy h3
 rw[h2]at hll
 have hp:=mC u.length
 have hvl:dv v<pw u.length:=Int.lt_of_lt_of_le (nN hv) (p5 hl)
 unfold fl oO
 rw[h1,ae4]
 simp only
 rcases (show g=dv u / dv v∨g=dv u / dv v+1 by omega) with hg|hg
 ·have hgv:g*dv v=dv v*(dv u / dv v):=by rw[hg,afC]
  have hc0:c=0:=by
   rcases (show c=0∨1<=c by omega) with h|h
   ·exact h
   ·have:pw u.length*1<=pw u.length*c:=afE h (by omega)
    omega
  subst hc0
  rw[if_pos (by simp),ae4,if_pos (by simpa using h2)]
  exact⟨l,by rw[hg],h2,h3,by rw[afU]at h5;omega⟩
 ·have hgv:g*dv v=dv v*(dv u / dv v)+dv v:=by rw[hg,afT,afV,afC]
  have hc0:c≠0:=by
   intro h
   subst h
   rw[afU]at h5
   omega
  obtain⟨m,g1,g2,g3,d,g4,g5⟩:=JK h3 hv (by unfold Fit at *;omega) (by omega)
  rw[if_neg (by simpa using hc0),g1,ae4,ae4,if_pos (by simp;omega)]
  refine⟨m,by rw[gJ (by omega),hg];simp,by omega,g3,?_⟩
  rw[h2]at g5
  have hml:=nN g3
  have hm0':=cy g3
  rw[g2,h2]at hml
  have hcd:c=d:=by
   rcases Int.lt_trichotomy c d with h|h|h
   ·have:pw u.length*(c+1)<=pw u.length*d:=afE (by omega) (by omega)
    rw[afF,afD]at this
    omega
   ·exact h
   ·have:pw u.length*(d+1)<=pw u.length*c:=afE (by omega) (by omega)
    rw[afF,afD]at this
    omega
  subst hcd
  omega
theorem PJ {v u:List Int} {s13:Int} {v1 v2 w2 T V W:Int} {n:Nat} (hn:2<=n) (hlen:v.length=n) (hfv:n<=17592186044416) (i:Nat) (hs:s13=i) (hfi:i+n<=17592186044416)
  (hv2:P.idx v (((n-2:Nat)):Int)=some v2) (hw2:P.idx u (((i+n-2:Nat)):Int)=some w2)
  (b1:524288<=v1∧v1<1048576) (b2:0<=v2∧v2<1048576) (bw:0<=w2∧w2<1048576) (hT0:0<=T) (hT1:T<1048576*1048576)
  (hV:pw (n-2)*(v1*1048576+v2)<=V∧V<pw (n-2)*(v1*1048576+v2+1)) (hW:pw (n-2)*(T*1048576+w2)<=W∧W<pw (n-2)*(T*1048576+w2+1)) (hWV:W<1048576*V) :
  ∃g,aY (rE v s13 u v1) (T / v1,T % v1)=some g∧W / V<=g∧g<=W / V+1∧g<=1048576:=by
 subst hs
 have hp:=mC (n-2)
 have hVp:0<V:=by
  have:pw (n-2)*1<=pw (n-2)*(v1*1048576+v2):=afE (by omega) (by omega)
  omega
 have hW0:0<=W:=by
  have:0<=pw (n-2)*(T*1048576+w2):=afQ (by omega) (by omega)
  omega
 have hq0:0<=W / V:=afM hW0 (by omega)
 have hqB:W / V<1048576:=afN hVp hWV
 have hm:=afP T v1
 have hm0:=Int.emod_nonneg T (show v1≠0 by omega)
 have hm1:=afO T (show 0<v1 by omega)
 have hd0:0<=T / v1:=afM hT0 (by omega)
 have hd1:T / v1<=2097152:=by
  have:T / v1<2097153:=afN (by omega) (by
   have:2097153*524288<=2097153*v1:=afE b1.1 (by omega)
   omega)
  omega
 have hge:∀g r:Int,g*v1+r=T->W / V<=g->g*v2>r*1048576+w2->W / V<=g-1:=by
  intro g r h1 h2 h3
  have h4:W<g*V:=by
   have e1:g*(v1*1048576+v2)>=T*1048576+w2+1:=by
    rw[<- h1]
    have:g*(v1*1048576+v2)=g*v1*1048576+g*v2:=by rw[afF,afG]
    rw[this,afT]
    omega
   have e2:pw (n-2)*(T*1048576+w2+1)<=pw (n-2)*(g*(v1*1048576+v2)):=afE e1 (by omega)
   have e3:g*(pw (n-2)*(v1*1048576+v2))<=g*V:=afE hV.1 (by omega)
   have e4:pw (n-2)*(g*(v1*1048576+v2))=g*(pw (n-2)*(v1*1048576+v2)):=afS _ _ _
   omega
  have:=afN hVp h4
  omega
 have hle:∀g r:Int,g*v1+r=T->0<=g->g<=1048576->g*v2<=r*1048576+w2->g<=W / V+1:=by
  intro g r h1 h0 hB h3
  have e1:g*(v1*1048576+v2)<=T*1048576+w2:=by
   rw[<- h1]
   have:g*(v1*1048576+v2)=g*v1*1048576+g*v2:=by rw[afF,afG]
   rw[this,afT]
   omega
  have e2:g*V<=W+V:=by
   have f1:g*V<=g*(pw (n-2)*(v1*1048576+v2+1)):=afE (by omega) h0
   have f2:g*(pw (n-2)*(v1*1048576+v2+1))=pw (n-2)*(g*(v1*1048576+v2))+pw (n-2)*g:=by
    rw[afS,afF g,afD,afF]
   have f3:pw (n-2)*(g*(v1*1048576+v2))<=pw (n-2)*(T*1048576+w2):=afE e1 (by omega)
   have f4:pw (n-2)*g<=pw (n-2)*(v1*1048576+v2):=afE (by omega) (by omega)
   omega
  have e3:(g-1)*V<=W:=by rw[Int.sub_mul,afV];omega
  have:=Int.le_ediv_of_mul_le hVp e3
  omega
 have hbase:W / V<=T / v1:=by
  have e1:W<(T / v1+1)*V:=by
   have f1:T+1<=(T / v1+1)*v1:=by
    have:(T / v1+1)*v1=v1*(T / v1)+v1:=by rw[afT,afV,afC]
    omega
   have f2:T*1048576+w2+1<=(T / v1+1)*(v1*1048576+v2):=by
    have g1:(T+1)*1048576<=(T / v1+1)*v1*1048576:=afW f1 (by omega)
    have g2:0<=(T / v1+1)*v2:=afQ (by omega) b2.1
    rw[afF,<- afG]
    omega
   have f3:pw (n-2)*(T*1048576+w2+1)<=pw (n-2)*((T / v1+1)*(v1*1048576+v2)):=afE f2 (by omega)
   have f4:(T / v1+1)*(pw (n-2)*(v1*1048576+v2))<=(T / v1+1)*V:=afE hV.1 (by omega)
   have f5:pw (n-2)*((T / v1+1)*(v1*1048576+v2))=(T / v1+1)*(pw (n-2)*(v1*1048576+v2)):=afS _ _ _
   omega
  have:=afN hVp e1
  omega
 refine pf (I:=fun (s:Int×Int)=>s.1*v1+s.2=T∧W / V<=s.1∧s.1<=2097152∧0<=s.2) (μ:=fun (s:Int×Int)=>s.1.toNat) _ ⟨?_,hbase,hd1,hm0⟩ (by unfold FU;omega) ?_
 ·show T / v1*v1+T % v1=T
  rw[afC];exact hm
 rintro⟨g,r⟩ ⟨h1,h2,h3,h4⟩
 simp only at h1 h2 h3 h4
 have hgv:0<=g*v1:=afQ (by omega) (by omega)
 simp only[rE]
 have el:IntKind.i64.wrap ((v.length:Int)-2)=((n-2:Nat):Int):=by rw[hlen,gJ (by omega)];omega
 have ei:IntKind.i64.wrap ((IntKind.i64.wrap ((i:Int)+(v.length:Int)))-2)=((i+n-2:Nat):Int):=by rw[hlen,gJ (x:=(i:Int)+n) (by omega),gJ (by omega)];omega
 rw[el,ei]
 have hstep:W / V<=g-1->∃s':Int×Int,(some (Sum.inl (IntKind.i64.wrap (g-1),IntKind.i64.wrap (r+v1))):Option ((Int×Int)⊕Int))=some (.inl s')∧(s'.1*v1+s'.2=T∧W / V<=s'.1∧s'.1<=2097152∧0<=s'.2)∧s'.1.toNat<g.toNat:=by
  intro hlt
  refine⟨_,rfl,?_⟩
  rw[gJ (x:=g-1) (by omega),gJ (x:=r+v1) (by omega)]
  simp only
  refine⟨⟨by rw[Int.sub_mul,afV];omega,hlt,by omega,by omega⟩,by omega⟩
 by_cases hgB:g>=1048576
 ·rw[if_pos (by simpa using hgB),ae4,if_pos rfl]
  exact .inl (hstep (by omega))
 ·rw[if_neg (by simpa using hgB)]
  by_cases hr:r<1048576
  ·have hgv2:0<=g*v2:=afQ (by omega) b2.1
   have hgv2':g*v2<=1048576*1048576:=afR (by omega) (by omega) b2.1 (by omega)
   rw[if_pos (by simpa using hr),hv2,ae4,W7 h4 (by omega),ae4,hw2,ae4,gJ (x:=g*v2) (by omega),Qn h4 (by omega) bw,ae4]
   by_cases ht:g*v2>1048576*r+w2
   ·rw[if_pos (by simpa using ht)]
    exact .inl (hstep (hge g r h1 h2 (by omega)))
   ·rw[if_neg (by simpa using ht)]
    exact .inr ⟨g,rfl,h2,hle g r h1 (by omega) (by omega) (by omega),by omega⟩
  ·rw[if_neg (by simpa using hr),ae4,if_neg (by simp)]
   refine .inr ⟨g,rfl,h2,hle g r h1 (by omega) (by omega) ?_,by omega⟩
   have:g*v2<=1048575*1048575:=afR (by omega) (by omega) b2.1 (by omega)
   have:1048576*1048576<=r*1048576:=afW (by omega) (by omega)
   omega
theorem aaN {α:Type} {l:List α} {a b:Nat} (h:a<=b) (hb:b<=l.length):A9 l (a:Int) (b:Int)=some ((l.drop a).take (b-a)):=by
 unfold A9
 rw[if_pos ⟨by omega,by omega,by omega⟩]
 simp
theorem Yp {l:List Int} {n:Nat} (hl:l.length=n) (hn:2<=n) (hd:Dg l) :
  pw (n-2)*((l[n-1]'(by omega))*1048576+l[n-2]'(by omega))<=dv l∧dv l<pw (n-2)*((l[n-1]'(by omega))*1048576+l[n-2]'(by omega)+1):=by
 have e:=iL l (i:=n-2) (by omega)
 rw[jO (by omega),jO (i:=n-2+1) (by omega),afi (by omega)]at e
 have e1:l[n-2+1]'(by omega)=l[n-1]'(by omega):=by congr 1;omega
 rw[e1]at e
 have h1:=cy (hd.take (n-2))
 have h2:=nN (hd.take (n-2))
 rw[adT,aeF (by omega)]at h2
 simp only[dv]at e
 have e2:l[n-2]'(by omega)+1048576*(l[n-1]'(by omega)+1048576*0)=(l[n-1]'(by omega))*1048576+l[n-2]'(by omega):=by omega
 rw[e2]at e
 rw[afF (pw (n-2)) _ 1,afD]
 omega
theorem Yq {l:List Int} {n:Nat} (hl:l.length=n+1) (hn:2<=n) (hd:Dg l) :
  pw (n-2)*((1048576*(l[n]'(by omega))+l[n-1]'(by omega))*1048576+l[n-2]'(by omega))<=dv l∧dv l<pw (n-2)*((1048576*(l[n]'(by omega))+l[n-1]'(by omega))*1048576+l[n-2]'(by omega)+1):=by
 have e:=iL l (i:=n-2) (by omega)
 rw[jO (by omega),jO (i:=n-2+1) (by omega),jO (i:=n-2+1+1) (by omega),afi (by omega)]at e
 have e1:l[n-2+1]'(by omega)=l[n-1]'(by omega):=by congr 1;omega
 have e3:l[n-2+1+1]'(by omega)=l[n]'(by omega):=by congr 1;omega
 rw[e1,e3]at e
 have h1:=cy (hd.take (n-2))
 have h2:=nN (hd.take (n-2))
 rw[adT,aeF (by omega)]at h2
 simp only[dv]at e
 have e2:l[n-2]'(by omega)+1048576*(l[n-1]'(by omega)+1048576*(l[n]'(by omega)+1048576*0))=(1048576*(l[n]'(by omega))+l[n-1]'(by omega))*1048576+l[n-2]'(by omega):=by omega
 rw[e2]at e
 rw[afF (pw (n-2)) _ 1,afD]
 omega
theorem VR {v u0:List Int} {n m:Nat} (hv:Dg v) (hvl:v.length=n) (hn:2<=n) (hv1:524288<=v[n-1]'(by omega)) (hu:Dg u0) (hul:u0.length=m+n) (hf:m+n<=17592186044416) (hdr:dv (u0.drop m)<dv v) :
  ∃r,aY (rD v) ((m:Int)-1,u0,List.replicate m 0)=some r∧r.1.length=m+n∧Dg r.1∧r.2.length=m∧Dg r.2∧dv r.1+dv v*dv r.2=dv u0∧dv r.1<dv v:=by
 have hvn:=nN hv
 rw[hvl]at hvn
 refine cD (I:=fun i s=>s.1=((m-i:Nat):Int)-1∧s.2.1.length=m+n∧Dg s.2.1∧s.2.2.length=m∧Dg s.2.2∧(∀j (hj:j<s.2.2.length),j<m-i->s.2.2[j]=0)∧dv s.2.1+dv v*dv s.2.2=dv u0∧dv (s.2.1.drop (m-i))<dv v)
  m _ ⟨rfl,hul,hu,by simp,Dg.rep _,fun j hj _=>by simp,by simp[y7],hdr⟩ (jl (by omega)) ?_
 rintro i ⟨s,u,q⟩ hi ⟨h1,hl,hd,hql,hqd,hz,he,hdr⟩
 simp only at h1 hl hd hql hqd hz he hdr
 subst h1
 generalize hk:m-i=k at *
 simp only[rD]
 by_cases h0:0<k
 ·left
  have ek:((k:Int)-1)=((k-1:Nat):Int):=by omega
  rw[ek,if_pos (by simp)]
  have e1:IntKind.i64.wrap (((k-1:Nat):Int)+(v.length:Int))=((k-1+n:Nat):Int):=by rw[hvl,gJ (by omega)];omega
  have e2:IntKind.i64.wrap (((k-1+n:Nat):Int)-1)=((k-1+n-1:Nat):Int):=by rw[gJ (by omega)];omega
  have e3:IntKind.i64.wrap ((v.length:Int)-1)=((n-1:Nat):Int):=by rw[hvl,gJ (by omega)];omega
  have e4:IntKind.i64.wrap (((k-1+n:Nat):Int)+1)=((k-1+n+1:Nat):Int):=by rw[gJ (by omega)];omega
  have e5:IntKind.i64.wrap (((k-1:Nat):Int)-1)=((k-1:Nat):Int)-1:=gJ (by omega)
  rw[e1,e2,e3,e4,e5]
  have i1:k-1+n<u.length:=by omega
  have i2:k-1+n-1<u.length:=by omega
  have i3:k-1+n-2<u.length:=by omega
  have iv:n-1<v.length:=by omega
  have iv2:n-2<v.length:=by omega
  have g1:=hd.get i1
  have g2:=hd.get i2
  have g3:=hd.get i3
  have gv:=hv.get iv
  have gv2:=hv.get iv2
  rw[bV i1,ae4,W7 g1.1 (by omega),ae4,bV i2,ae4,bV iv,ae4,Qn g1.1 (by omega) g2,Yn (by omega) (by omega) (by omega),ae4,aaC (by omega) (by omega),ae4,aaN (by omega) (by omega),show k-1+n+1-(k-1)=n+1 by omega]
  generalize hw:(u.drop (k-1)).take (n+1)=w
  have hwl:w.length=n+1:=by rw[<- hw,adT,adU];omega
  have hwd:Dg w:=by rw[<- hw];exact (hd.drop _).take _
  have hwg:∀j (hj:j<n+1),w[j]'(by omega)=u[k-1+j]'(by omega):=by
   intro j hj
   subst hw
   rw[List.getElem_take,List.getElem_drop]
  have hup:dv (u.drop (k+n))=0:=by
   have s1:=iL (u.drop k) (i:=n) (by rw[adU];omega)
   rw[afk]at s1
   have n1:=cy ((hd.drop k).take n)
   have n2:=cy (hd.drop (k+n))
   have hp:=mC n
   rcases (show dv (u.drop (k+n))=0∨1<=dv (u.drop (k+n)) by omega) with h|h
   ·exact h
   ·have:pw n*1<=pw n*dv (u.drop (k+n)):=afE h (by omega)
    omega
  have hW:dv w=dv (u.drop (k-1)):=by
   have s1:=iL (u.drop (k-1)) (i:=n+1) (by rw[adU];omega)
   rw[afk,show k-1+(n+1)=k+n by omega,hup,hw]at s1
   omega
  have hWk:dv w=u[k-1]+1048576*dv (u.drop k):=by
   rw[hW,jO (by omega),show k-1+1=k by omega]
  have gk:=hd.get (show k-1<u.length by omega)
  have hWV:dv w<1048576*dv v:=by omega
  have t2:=Yp hvl hn hv
  have t3:=Yq hwl hn hwd
  rw[hwg n (by omega),hwg (n-1) (by omega),hwg (n-2) (by omega)]at t3
  have a1:u[k-1+(n-1)]'(by omega)=u[k-1+n-1]'(by omega):=by congr 1;omega
  have a2:u[k-1+(n-2)]'(by omega)=u[k-1+n-2]'(by omega):=by congr 1;omega
  rw[a1,a2]at t3
  obtain⟨g,q1,q2,q3,q4⟩:=PJ (s13:=((k-1:Nat):Int)) hn hvl (by omega) (k-1) rfl (by omega) (bV iv2) (bV i3) ⟨hv1,gv.2⟩ gv2 g3 (T:=1048576*u[k-1+n]+u[k-1+n-1]) (by omega) (by omega) t2 t3 hWV
  rw[q1,ae4,ae4]
  have hVp:0<dv v:=by
   have:=cy hwd
   omega
  obtain⟨l,r1,r2,r3,r4⟩:=UD hwd hv (by unfold Fit;omega) (by omega) hVp q2 q3 q4
  have iq:k-1<q.length:=by omega
  rw[r1,ae4,bV iq,ae4]
  simp only
  have hq0:0<=dv w / dv v:=afM (cy hwd) (by omega)
  have hqB:dv w / dv v<1048576:=afN hVp hWV
  have hmod:=afO (dv w) hVp
  simp only[Int.toNat_natCast]
  have hdl:dv (l++u.drop (k-1+n+1))=dv w % dv v:=by
   rw[fI,show k-1+n+1=k+n by omega,hup,r4];omega
  have hut:(u.take (k-1)).length=k-1:=by rw[adT];omega
  have hdu:dv (u.take (k-1)++(l++u.drop (k-1+n+1)))=dv (u.take (k-1))+pw (k-1)*(dv w % dv v):=by rw[fI,hut,hdl]
  refine⟨by omega,_,rfl,by rw[show m-(i+1)=k-1 by omega],?_,(hd.take _).append (r3.append (hd.drop _)),by simpa using hql,hqd.set _ ⟨hq0,hqB⟩,fun j hj hjk =>?_,?_,?_⟩
  ·simp only[aeC,adT,adU];omega
  ·rw[afK (by omega)]
   exact hz j (by simpa using hj) (by omega)
  ·rw[hdu,rL iq,hz _ iq (by omega),Int.sub_zero,afF]
   have s2:=iL u (i:=k-1) (by omega)
   rw[<- hW]at s2
   have hm:=afP (dv w) (dv v)
   have:pw (k-1)*dv w=dv v*(pw (k-1)*(dv w / dv v))+pw (k-1)*(dv w % dv v):=by
    rw[afS,<- afF,hm]
   omega
  ·rw[show m-(i+1)=k-1 by omega,afh,hut,aeE,aeU,afi (by omega),aff,hdl]
   exact hmod
 ·right
  have:k=0:=by omega
  subst this
  refine⟨(u,q),by rw[if_neg (by simp)],hl,hd,hql,hqd,he,?_⟩
  simpa using hdr
theorem Qw {v:List Int} {t:Int} {n:Nat} (hl:v.length=n) (hn:0<n) (hf:n<=17592186044416) (ht:v[n-1]'(by omega)=t) (h1:1<=t) (h2:t<1048576) :
  ∃s,aY (rC v) 1=some s∧∃j:Nat,s=2 ^ j∧j<=19∧524288<=t*s∧t*s<1048576:=by
 refine cD (I:=fun i s=>s=2 ^ i∧t*s<1048576) 20 _ ⟨rfl,by omega⟩ (by unfold FU;omega) ?_
 rintro i s hi ⟨rfl,hb⟩
 have hp:(0:Int)<2 ^ i:=Int.pow_pos (by decide)
 have hpt:(2:Int) ^ i<=t*2 ^ i:=by
  have:1*(2:Int) ^ i<=t*2 ^ i:=afW h1 (by omega)
  omega
 have hi20:i<=19:=by
  rcases ael 19 i with h|h
  ·have hx:i=20:=by omega
   subst hx
   omega
  ·exact h
 simp only[rC]
 have e:IntKind.i64.wrap ((v.length:Int)-1)=((n-1:Nat):Int):=by rw[hl,gJ (by omega)];omega
 rw[e,bV (by omega),ae4,ht,gJ (x:=t*2 ^ i) (by omega)]
 by_cases h:t*2 ^ i<524288
 ·left
  rw[if_pos (by simpa using h)]
  refine⟨by omega,_,rfl,by rw[gJ (by omega),Int.pow_succ],?_⟩
  rw[gJ (by omega),<- afG]
  omega
 ·right
  rw[if_neg (by simpa using h)]
  exact⟨_,rfl,i,rfl,hi20,by omega,hb⟩
theorem div_eq {m n:Nat} (hn:n≠0) (hfm:(aG m).length<=17592186043904) (hfn:(aG n).length<=17592186043904):pH (aG m) (aG n)=some (aG (m / n),aG (m % n)):=by
 unfold pH
 rw[wW (by unfold Fit;omega) (by unfold Fit;omega),ae4]
 by_cases hlt:m<n
 ·have:ij (m:Int) n<0:=by unfold ij;rw[if_pos (by omega)];decide
  rw[if_pos (by simpa using this),tM (by unfold Fit;omega),ae4,afX hlt,aev hlt,cm]
 have:¬ij (m:Int) n<0:=by unfold ij;rw[if_neg (by omega)];split<;>decide
 rw[if_neg (by simpa using this)]
 obtain⟨hp1,hp2⟩:=xF hn
 have hnl:=fe n
 by_cases h1:(aG n).length=1
 ·rw[if_pos (by simp;omega)]
  have hnB:(n:Int)<1048576:=by rw[h1]at hnl;simpa [pw] using hnl
  have e:aG n=[(n:Int)]:=by
   rw[m9 hn,afX (by omega),cm,aev (by omega)]
  have ei:P.idx (aG n) 0=some (n:Int):=by rw[e];rfl
  rw[ei,ae4,Og (bZ m) ⟨by omega,by omega⟩ (by unfold Fit;omega),ae4,bf]
  have hm1:(m:Int) % n=((m % n:Nat):Int):=(Int.natCast_emod m n).symm
  have hm2:((m:Int) / n).toNat=m / n:=by
   rw[<- Int.natCast_ediv];rfl
  have hml:m % n<n:=aet _ (by omega)
  simp only[hm1,hm2]
  rw[Bo (n:=m % n) (by simp[Fit]) (Dg.mk (by omega) Dg.nil) (by simp[dv]),ae4]
 ·rw[if_neg (by simp;omega)]
  generalize hN:(aG n).length=N at *
  have hN2:2<=N:=by omega
  have hdn:=bZ n
  have gt:=hdn.get (show N-1<(aG n).length by omega)
  generalize ht:(aG n)[N-1]'(by omega)=t at gt
  have hsp:=iL (aG n) (i:=N-1) (by omega)
  rw[bf,jO (by omega),afi (by omega),ht]at hsp
  simp only[dv,afU,afY]at hsp
  have lo0:=cy (hdn.take (N-1))
  have lo1:=nN (hdn.take (N-1))
  rw[adT,aeF (by omega)]at lo1
  have hpw:=mC (N-1)
  have ht1:1<=t:=by
   rcases (show t=0∨1<=t by omega) with h|h
   ·subst h;omega
   ·exact h
  obtain⟨s,hs1,j,hs2,hj,hs3,hs4⟩:=Qw hN (by omega) (by omega) ht ht1 gt.2
  have hj2:(2:Int) ^ j<=524288:=by
   have:∀j:Nat,j<=19->(2:Int) ^ j<=524288:=by decide
   exact this j hj
  have hj1:(0:Int)<2 ^ j:=Int.pow_pos (by decide)
  have hts:(t+1)*s<=1048576:=by
   have h20:(1048576:Int)=2 ^ (20-j)*2 ^ j:=by rw[<- Int.pow_add,Nat.sub_add_cancel (by omega)];rfl
   rw[h20]at hs4 ⊢
   rw[hs2]at hs4 ⊢
   have:t<2 ^ (20-j):=Int.lt_of_mul_lt_mul_right hs4 (by omega)
   exact afW (by omega) (by omega)
  rw[<- hs2]at hj1 hj2
  obtain⟨S,rfl⟩:∃S:Nat,s=S:=⟨s.toNat,by omega⟩
  have hSd:Dg [(S:Int)]:=Dg.mk (by omega) Dg.nil
  have hdvS:dv [(S:Int)]=S:=by simp[dv]
  rw[hs1,ae4,mul_eq (bZ m) hSd (by simp;omega),ae4,bf,hdvS]
  have em:((m:Int)*S).toNat=m*S:=by rw[<- aey];rfl
  have en:((n:Int)*S).toNat=n*S:=by rw[<- aey];rfl
  rw[em]
  have hmS:(aG (m*S)).length<=(aG m).length+1:=by
   apply gw
   rw[jZ,aey]
   have a1:=fe m
   have:(m:Int)*S<=m*1048576:=afE (by omega) (by omega)
   omega
  have hU:∃u,((if ((((aG (m*S)++[0]).length:Int))==((aG m).length:Int))=true then (mo 8 (aG (m*S)++[0]) [0]).bind fun x98=>some x98 else some (aG (m*S)++[0]))=some u)∧Dg u∧dv u=(m*S:Nat)∧dv u<pw (u.length-1)∧(aG (m*S)).length+1<=u.length∧u.length<=(aG m).length+3:=by
   have d1:Dg (aG (m*S)++[0]):=(bZ _).append (Dg.mk (by omega) Dg.nil)
   have v1:dv (aG (m*S)++[0])=(m*S:Nat):=by rw[fI,bf];simp[dv]
   have v2:=fe (m*S)
   split
   ·rw[xz (by simp;omega),ae4]
    refine⟨_,rfl,d1.append (Dg.mk (by omega) Dg.nil),by rw[fI,v1];simp[dv],?_,by simp,by simp;omega⟩
    rw[fI,v1]
    simp only[dv,aeC,List.length_cons,List.length_nil]
    have:=p5 (i:=(aG (m*S)).length) (j:=(aG (m*S)).length+1) (by omega)
    rw[show (aG (m*S)).length+(0+1)+(0+1)-1=(aG (m*S)).length+1 by omega]
    omega
   ·refine⟨_,rfl,d1,v1,?_,by simp,by simp;omega⟩
    rw[v1]
    simpa using v2
  obtain⟨u,hu1,hu2,hu3,hu4,hu5,hu6⟩:=hU
  rw[xz (by simp;omega),ae4,mul_eq (bZ n) hSd (by simp;omega),ae4,bf,hdvS,en,hu1,ae4]
  have hVlo:524288*pw (N-1)<=((n*S:Nat):Int):=by
   rw[aey,hsp,afT]
   have a1:0<=dv ((aG n).take (N-1))*S:=afQ lo0 (by omega)
   have a2:pw (N-1)*524288<=pw (N-1)*(t*S):=afE hs3 (by omega)
   rw[afG]
   omega
  have hVhi:((n*S:Nat):Int)<pw N:=by
   have a0:pw N=1048576*pw (N-1):=by rw[<- jZ];congr 1;omega
   rw[a0,aey,hsp]
   have a1:(dv ((aG n).take (N-1))+pw (N-1)*t+1)*S<=(pw (N-1)*(t+1))*S:=afW (by rw[afF];omega) (by omega)
   have a2:pw (N-1)*((t+1)*S)<=pw (N-1)*1048576:=afE hts (by omega)
   rw[afG]at a1
   rw[afT _ 1,afV]at a1
   omega
  have hVN:(aG (n*S)).length=N:=by
   have a1:=gw hVhi
   rcases ael (aG (n*S)).length N with h|h
   ·have a2:=fe (n*S)
    have a3:=p5 (i:=(aG (n*S)).length) (j:=N-1) (by omega)
    omega
   ·omega
  have hV1:524288<=(aG (n*S))[N-1]'(by omega):=by
   have a1:=iL (aG (n*S)) (i:=N-1) (by omega)
   rw[bf,jO (by omega),afi (by omega)]at a1
   simp only[dv,afU,afY]at a1
   have a2:=nN ((bZ (n*S)).take (N-1))
   rw[adT,aeF (by omega)]at a2
   have a3:pw (N-1)*524288<pw (N-1)*((aG (n*S))[N-1]'(by omega)+1):=by rw[afF];omega
   have:=Int.lt_of_mul_lt_mul_left a3 (by omega)
   omega
  have hlen:N+1<=u.length:=by
   have:n*S<=m*S:=aem _ (by omega)
   have:=b9 this
   omega
  obtain⟨M,hM⟩:∃M,u.length=M+N:=⟨u.length-N,by omega⟩
  have e1:IntKind.i64.wrap ((u.length:Int)-((aG (n*S)).length:Int))=(M:Int):=by rw[hVN,hM,gJ (by omega)];omega
  rw[e1,mk0 (by omega),ae4,List.length_replicate,gJ (x:=(M:Int)-1) (by omega)]
  have hdr:dv (u.drop M)<dv (aG (n*S)):=by
   rw[bf]
   have a1:=iL u (i:=M) (by omega)
   have a2:=cy (hu2.take M)
   have a3:pw M*dv (u.drop M)<pw M*pw (N-1):=by
    rw[<- DR,show M+(N-1)=u.length-1 by omega]
    omega
   have:=Int.lt_of_mul_lt_mul_left a3 (by have:=mC M;omega)
   omega
  obtain⟨⟨U,Q⟩,r1,r2,r3,r4,r5,r6,r7⟩:=VR (bZ (n*S)) hVN hN2 hV1 hu2 hM (by omega) hdr
  simp only at r2 r3 r4 r5 r6 r7
  rw[r1,ae4]
  simp only
  rw[bf,hu3]at r6
  rw[bf]at r7
  have hU0:=cy r3
  have hQ0:=cy r5
  have hS:0<S:=by omega
  have hnS:0<n*S:=Nat.mul_pos (by omega) hS
  obtain⟨U',hU'⟩:∃k:Nat,dv U=k:=⟨(dv U).toNat,by omega⟩
  obtain⟨Q',hQ'⟩:∃k:Nat,dv Q=k:=⟨(dv Q).toNat,by omega⟩
  rw[hU',hQ']at r6
  rw[hU']at r7
  have hnat:U'+n*S*Q'=m*S:=by
   have:((U'+n*S*Q':Nat):Int)=((m*S:Nat):Int):=by rw[Int.natCast_add,aey (n*S) Q'];exact r6
   omega
  have hUlt:U'<n*S:=by omega
  have hQe:Q'=m / n:=by
   have:m*S / (n*S)=Q':=by
    rw[<- hnat,Nat.add_mul_div_left _ _ hnS,afX hUlt,aen]
   rw[<- this,Nat.mul_div_mul_right _ _ hS]
  have hUe:U'=(m % n)*S:=by
   have:m*S % (n*S)=U':=by rw[<- hnat,Nat.add_mul_mod_self_left,aev hUlt]
   rw[<- this,Nat.mul_mod_mul_right]
  rw[Bo (n:=U') (by unfold Fit;omega) r3 hU',ae4]
  have hUlen:(aG U').length<=N:=gw (by omega)
  rw[Og (bZ U') ⟨by omega,by omega⟩ (by unfold Fit;omega),ae4,Bo (n:=Q') (by unfold Fit;omega) r5 hQ',ae4,bf,hQe,hUe]
  have:((((m % n)*S:Nat):Int) / (S:Int)).toNat=m % n:=by
   rw[aey,Int.mul_ediv_cancel _ (by omega)];rfl
  rw[this]
def dt (x:Int):al:=al.mk x.sign (aG x.natAbs)
def Ln (x:Int):Nat:=(aG x.natAbs).length
def dx:Nat:=4398046511104
def iD:Nat:=17592186043904
theorem qB {n:Nat} (h:n<=dx):n<=iD:=adC h (by decide)
theorem Dj:dt 0=al.mk 0 []:=by unfold dt;rw[show (0:Int).natAbs=0 from rfl,cm];rfl
theorem Jn {x y:Int} (h:dt x=dt y):x=y:=by
 unfold dt at h
 simp only[al.mk.injEq]at h
 have:=VP h.2
 have h1:=Int.sign_mul_natAbs x
 have h2:=Int.sign_mul_natAbs y
 rw[<- h1,<- h2,h.1,this]
theorem Q9 {x:Int} {k:Nat} (h:(x.natAbs:Int)<pw k):Ln x<=k:=gw h
theorem Sw (x:Int):(x.natAbs:Int)<pw (Ln x):=fe _
theorem Ra {x y:Int} (h:x.natAbs<=y.natAbs):Ln x<=Ln y:=b9 h
theorem Bw (x:Int):Ln (-x)=Ln x:=by unfold Ln;rw[Int.natAbs_neg]
theorem OT (x y:Int):Ln (x+y)<=max (Ln x) (Ln y)+1:=by
 apply Q9
 have h1:=Sw x
 have h2:=Sw y
 have h3:=p5 (i:=Ln x) (j:=max (Ln x) (Ln y)) (by omega)
 have h4:=p5 (i:=Ln y) (j:=max (Ln x) (Ln y)) (by omega)
 have h5:=Int.natAbs_add_le x y
 rw[jZ]
 omega
theorem jq (x y:Int):Ln (x*y)<=Ln x+Ln y:=by
 apply Q9
 have h1:=Sw x
 have h2:=Sw y
 rw[afZ,aey,DR]
 have hx:=mC (Ln x)
 calc (x.natAbs:Int)*y.natAbs<=pw (Ln x)*y.natAbs:=afW (by omega) (by omega)
  _<pw (Ln x)*pw (Ln y):=Int.mul_lt_mul_of_pos_left h2 hx
theorem Bx {x:Int} (h:x.natAbs<1048576):Ln x<=1:=Q9 (by rw[jZ,oe];omega)
instance (l:List Int):Decidable (Dg l):=by unfold Dg;infer_instance
def okB (b:al):Bool:=decide (Dg b.aa)&&(match b.aa.getLast? with|none=>b.ag==0|some d=>(b.ag==1||b.ag == -1)&&d != 0)
theorem sr {b:al} : okB b=true↔∃x,b=dt x:=by
 obtain⟨s,l⟩:=b
 unfold okB
 simp only[aeb,decide_eq_true_eq]
 constructor
 ·rintro⟨hd,h⟩
  cases hl:l.getLast? with
  | none =>
   rw[hl]at h
   have:l=[]:=List.getLast?_eq_none_iff.1 hl
   subst this
   exact⟨0,by rw[Dj];simpa using h⟩
  | some d =>
   rw[hl]at h
   simp only[aeb,ae5,beq_iff_eq,bne_iff_ne]at h
   have hne:l≠[]:=by intro h0;subst h0;simp at hl
   have hlast:∀h:l≠[],l.getLast h≠0:=by
    intro h'
    rw[af0 h']at hl
    cases hl
    exact h.2
   have e:=Bd hd hlast
   have h0:(dv l).toNat≠0:=by
    intro h0
    rw[h0,cm]at e
    exact hne e.symm
   have hn:=cy hd
   refine⟨s*dv l,?_⟩
   unfold dt
   rcases h.1 with rfl|rfl
   ·rw[afV,af1 (by omega)]
    have:(dv l).natAbs=(dv l).toNat:=by omega
    rw[this,e]
   ·rw[Int.neg_mul,afV,Int.sign_neg,af1 (by omega)]
    have:(-dv l).natAbs=(dv l).toNat:=by omega
    rw[this,e]
 ·rintro⟨x,hx⟩
  unfold dt at hx
  simp only[al.mk.injEq]at hx
  obtain⟨rfl,rfl⟩:=hx
  refine⟨bZ _,?_⟩
  by_cases h0:x=0
  ·subst h0;simp[cm]
  ·have hne:aG x.natAbs≠[]:=fun h=>h0 (by have:=qG.1 h;omega)
   rw[af0 hne]
   have h1:=TI _ hne
   simp only[aeb,ae5,beq_iff_eq,bne_iff_ne]
   refine⟨?_,h1⟩
   rcases Int.lt_trichotomy x 0 with h|h|h
   ·right;exact af2 h
   ·exact absurd h h0
   ·left;exact af1 h
theorem Jr (x:Int):okB (dt x)=true:=sr.2 ⟨x,rfl⟩
theorem D2 {b:al} (hf:Fit b.aa):cv b=some (okB b):=by
 obtain⟨s,l⟩:=b
 simp only[Fit]at hf
 have key:∃r,aY (nT ⟨s,l⟩) 0=some r∧(match r with | .inl _=>Dg l | .inr x=>x=false∧¬Dg l):=by
  refine cD (I:=fun i s=>s=(i:Int)∧Dg (l.take i)) l.length _ ⟨rfl,by simpa using Dg.nil⟩ (jl hf) ?_
  rintro i s hi ⟨rfl,hd⟩
  simp only[nT]
  by_cases hlt:i<l.length
  ·rw[if_pos (by simpa using hlt),bV hlt,ae4]
   by_cases h1:l[i]<0
   ·right
    exact⟨.inr false,by rw[if_pos (by simpa using h1)],rfl,fun hh=>by have:=hh.get hlt;omega⟩
   ·by_cases h2:l[i]>1048575
    ·right
     exact⟨.inr false,by rw[if_neg (by simpa using h1),if_pos (by simpa using h2)],rfl,fun hh=>by have:=hh.get hlt;omega⟩
    ·left
     refine⟨hlt,_,by rw[if_neg (by simpa using h1),if_neg (by simpa using h2)],by rw[gJ (by omega)];omega,?_⟩
     have e:l.take (i+1)=l.take i++[l[i]]:=by rw[afH];simp[hlt]
     rw[e]
     exact hd.append (Dg.mk (by omega) Dg.nil)
  ·right
   have:i=l.length:=by omega
   subst this
   rw[afA]at hd
   exact⟨.inl (),by rw[if_neg (by simp)],hd⟩
 obtain⟨r,h1,h2⟩:=key
 unfold cv okB
 rw[h1,ae4]
 cases r with
 | inr x =>
  obtain⟨rfl,h⟩:=h2
  simp[h]
 | inl u =>
  simp only at h2 ⊢
  simp only[h2,decide_true,aeW]
  by_cases h0:l=[]
  ·subst h0;simp
  ·have hp:0<l.length:=afn.2 h0
   have e:IntKind.i64.wrap ((l.length:Int)-1)=((l.length-1:Nat):Int):=by rw[gJ (by omega)];omega
   rw[if_neg (by simpa using h0),e,bV (by omega),af0 h0,List.getLast_eq_getElem]
   simp only[Option.bind_some]
   by_cases hs:s=1
   ·subst hs;simp
   ·rw[if_neg (by simpa using hs)]
    by_cases hs':s = -1
    ·subst hs';simp
    ·rw[if_neg (by simpa using hs')]
     simp[hs,hs']
theorem gH {x:Int} (h:Ln x<=17592186044416):cv (dt x)=some true:=by
 rw[D2 (show Fit (dt x).aa from h),Jr]
theorem qU {s:Int} {l:List Int} (x:Int) (hf:Fit l) (hd:Dg l) (hv:dv l=x.natAbs) (hs:x≠0->s=x.sign):cw s l=some (dt x):=by
 unfold cw
 rw[Bo hf hd hv,ae4]
 by_cases h0:x=0
 ·subst h0
  rw[show (0:Int).natAbs=0 from rfl,cm,Dj];rfl
 ·have:aG x.natAbs≠[]:=fun h=>h0 (by have:=qG.1 h;omega)
  rw[if_neg (by simpa using this),hs h0];rfl
theorem lG (b:al):dR true b=some (b,0):=rfl
theorem m5 (x:Int):x.sign = -1∨x.sign=0∨x.sign=1:=by
 rcases Int.lt_trichotomy x 0 with h|h|h
 ·left;exact af2 h
 ·subst h;right;left;rfl
 ·right;right;exact af1 h
theorem OU {x:Int} (h:Ln x<=dx):mN (dt x)=some (dt (-x)):=by
 unfold mN
 have hL:dx=4398046511104:=rfl
 rw[gH (by omega),ae4]
 simp only[aeV,aea,if_false]
 have hf:Fit (dt x).aa:=by unfold Fit;show Ln x<=_;omega
 rw[tM hf,ae4,qU (-x) hf (bZ _) (by show dv (aG _)=_;rw[bf,Int.natAbs_neg]),ae4]
 intro h0
 show IntKind.i64.wrap (0-x.sign)=_
 rw[gJ (by have:=m5 x;omega),Int.sign_neg,Int.zero_sub]
theorem Zf (s t:Int):tN [s,t]=some (if s≠0 then s else t):=by
 have key:∃r,aY (uW [s,t]) 0=some r∧(match r with | .inl _=>s=0∧t=0 | .inr x=>x=if s≠0 then s else t):=by
  refine cD (I:=fun i j=>j=(i:Int)∧(1<=i->s=0)∧(2<=i->t=0)) 2 _ ⟨rfl,by omega,by omega⟩ (by unfold FU;omega) ?_
  rintro i j hi ⟨rfl,h1,h2⟩
  simp only[uW]
  rcases (show i=0∨i=1∨i=2 by omega) with rfl|rfl|rfl
  ·rw[if_pos (by simp)]
   show _∨∃r,((some s).bind _=_)∧_
   rw[show P.idx [s,t] ((0:Nat):Int)=some s from rfl,ae4]
   by_cases hs:s=0
   ·left;exact⟨by omega,_,by rw[if_neg (by simpa using hs)],by rw[gJ (by omega)];rfl,fun _=>hs,by omega⟩
   ·right;exact⟨_,by rw[if_pos (by simpa using hs)],by simp[hs]⟩
  ·have hs:=h1 (by omega)
   rw[if_pos (by simp),show P.idx [s,t] ((1:Nat):Int)=some t from rfl,ae4]
   by_cases ht:t=0
   ·left;exact⟨by omega,_,by rw[if_neg (by simpa using ht)],by rw[gJ (by omega)];rfl,fun _=>hs,fun _=>ht⟩
   ·right;exact⟨_,by rw[if_pos (by simpa using ht)],by simp[hs]⟩
  ·right
   exact⟨.inl (),by rw[if_neg (by simp)],h1 (by omega),h2 (by omega)⟩
 obtain⟨r,h1,h2⟩:=key
 unfold tN
 rw[h1,ae4]
 cases r with
 | inl u=>simp only at h2 ⊢;rw[if_neg (by simp[h2.1]),h2.2]
 | inr x=>simp only at h2 ⊢;rw[h2]
theorem er (x:Int):x.sign=1∧x=x.natAbs∧0<x∨x.sign = -1∧x = -x.natAbs∧x<0∨x.sign=0∧x=0:=by
 rcases Int.lt_trichotomy x 0 with h|h|h
 ·right;left;exact⟨af2 h,by omega,h⟩
 ·subst h;right;right;exact⟨rfl,rfl⟩
 ·left;exact⟨af1 h,by omega,h⟩
theorem oC {x:Int} {s:Int} {n:Nat} (hn:n=x.natAbs) (hs:x≠0->s=x.sign) (hL:n≠0->(aG n).length<=17592186044416):cw s (aG n)=some (dt x):=by
 subst hn
 refine qU x ?_ (bZ _) (bf _) hs
 unfold Fit
 by_cases h:x.natAbs=0
 ·rw[h,cm];simp
 ·exact hL h
theorem Z7 {x y:Int} (hx:Ln x<=dx) (hy:Ln y<=dx):rv (dt x) (dt y)=some (dt (x+y),0):=by
 have hL:dx=4398046511104:=rfl
 have hLa:=OT x y
 unfold rv
 rw[gH (by omega),ae4]
 simp only[aeV,aea,if_false]
 rw[gH (by omega),ae4,ae4]
 simp only[aeV,aea,if_false]
 show (if decide (IntKind.i64.wrap (x.sign*y.sign)>=0)=true then _ else _)=_
 have hxd:(dt x).aa=aG x.natAbs:=rfl
 have hyd:(dt y).aa=aG y.natAbs:=rfl
 have hxs:(dt x).ag=x.sign:=rfl
 have hys:(dt y).ag=y.sign:=rfl
 rw[hxd,hyd,hxs,hys]
 have fx:(aG x.natAbs).length<=4398046511104:=by show Ln x<=_;omega
 have fy:(aG y.natAbs).length<=4398046511104:=by show Ln y<=_;omega
 have sx:=er x
 have sy:=er y
 have hw:IntKind.i64.wrap (x.sign*y.sign)=x.sign*y.sign:=by
  apply gJ
  rcases m5 x with h|h|h<;>rcases m5 y with g|g|g<;>rw[h,g]<;>decide
 rw[hw]
 by_cases hs:x.sign*y.sign>=0
 ·rw[if_pos (by simpa using hs),Zf,ae4,add_eq (bZ _) (bZ _) (by omega) (by omega),ae4,bf,bf]
  have hn:((x.natAbs:Int)+y.natAbs).toNat=(x+y).natAbs:=by
   rcases sx with⟨a,b,c⟩|⟨a,b,c⟩|⟨a,b⟩<;>rcases sy with⟨a',b',c'⟩|⟨a',b',c'⟩|⟨a',b'⟩<;>first|omega|(rw[a,a']at hs;exact absurd hs (by decide))
  rw[hn,oC (x:=x+y) rfl ?_ (fun _=>by show Ln (x+y)<=_;omega),ae4,lG,ae4]
  intro h0
  rcases sx with⟨a,b,c⟩|⟨a,b,c⟩|⟨a,b⟩<;>rcases sy with⟨a',b',c'⟩|⟨a',b',c'⟩|⟨a',b'⟩<;>(try (rw[a,a']at hs;exact absurd hs (by decide)))<;>rw[a,a']
  ·rw[if_pos (by decide),af1 (by omega)]
  ·rw[if_pos (by decide),af1 (by omega)]
  ·rw[if_pos (by decide),af2 (by omega)]
  ·rw[if_pos (by decide),af2 (by omega)]
  ·rw[if_neg (by decide),af1 (by omega)]
  ·rw[if_neg (by decide),af2 (by omega)]
  ·omega
 ·rw[if_neg (by simpa using hs),wW (by unfold Fit;omega) (by unfold Fit;omega),ae4]
  have hsg:x.sign=1∧y.sign = -1∧0<x∧y<0∨x.sign = -1∧y.sign=1∧x<0∧0<y:=by
   rcases sx with⟨a,b,c⟩|⟨a,b,c⟩|⟨a,b⟩<;>rcases sy with⟨a',b',c'⟩|⟨a',b',c'⟩|⟨a',b'⟩<;>first|exact .inl ⟨a,a',c,c'⟩|exact .inr ⟨a,a',c,c'⟩|(rw[a,a']at hs;exact absurd (by decide) hs)
  by_cases hlt:x.natAbs<y.natAbs
  ·have:ij (x.natAbs:Int) y.natAbs<0:=by unfold ij;rw[if_pos (by omega)];decide
   rw[if_pos (by simpa using this),sub_eq (bZ _) (bZ _) (by unfold Fit;omega) (b9 (by omega)) (by rw[bf,bf];omega),ae4,bf,bf]
   rw[oC (x:=x+y) (by omega) ?_ (fun _=>by rw[show ((y.natAbs:Int)-x.natAbs).toNat=(x+y).natAbs by omega];show Ln (x+y)<=_;omega),ae4,lG,ae4]
   intro h0
   rcases hsg with⟨a,a',b,b'⟩|⟨a,a',b,b'⟩
   ·rw[a',af2 (by omega)]
   ·rw[a',af1 (by omega)]
  ·have:¬ij (x.natAbs:Int) y.natAbs<0:=by unfold ij;rw[if_neg (by omega)];split<;>decide
   rw[if_neg (by simpa using this),sub_eq (bZ _) (bZ _) (by unfold Fit;omega) (b9 (by omega)) (by rw[bf,bf];omega),ae4,bf,bf]
   rw[oC (x:=x+y) (by omega) ?_ (fun _=>by rw[show ((x.natAbs:Int)-y.natAbs).toNat=(x+y).natAbs by omega];show Ln (x+y)<=_;omega),ae4,lG,ae4]
   intro h0
   rcases hsg with⟨a,a',b,b'⟩|⟨a,a',b,b'⟩
   ·rw[a,af1 (by omega)]
   ·rw[a,af2 (by omega)]
theorem Z8 {x y:Int} (hx:Ln x<=dx) (hy:Ln y<=dx):rB (dt x) (dt y)=some (dt (x*y),0):=by
 have hL:dx=4398046511104:=rfl
 have hLa:=jq x y
 unfold rB
 rw[gH (by omega),ae4]
 simp only[aeV,aea,if_false]
 rw[gH (by omega),ae4,ae4]
 simp only[aeV,aea,if_false]
 have hxd:(dt x).aa=aG x.natAbs:=rfl
 have hyd:(dt y).aa=aG y.natAbs:=rfl
 have hxs:(dt x).ag=x.sign:=rfl
 have hys:(dt y).ag=y.sign:=rfl
 rw[hxd,hyd,hxs,hys]
 have fx:(aG x.natAbs).length<=4398046511104:=by show Ln x<=_;omega
 have fy:(aG y.natAbs).length<=4398046511104:=by show Ln y<=_;omega
 have hw:IntKind.i64.wrap (x.sign*y.sign)=(x*y).sign:=by
  rw[Int.sign_mul]
  apply gJ
  rcases m5 x with h|h|h<;>rcases m5 y with g|g|g<;>rw[h,g]<;>decide
 rw[hw,mul_eq (bZ _) (bZ _) (by omega),ae4,bf,bf]
 have hn:((x.natAbs:Int)*y.natAbs).toNat=(x*y).natAbs:=by rw[afZ,<- aey];rfl
 rw[hn,oC (x:=x*y) rfl (fun _=>rfl) (fun _=>by show Ln (x*y)<=_;omega),ae4,lG,ae4]
theorem ma {x y:Int} (hx:Ln x<=dx) (hy:Ln y<=dx):bU (dt x) (dt y)=some (dt (x*y)):=by
 unfold bU
 rw[Z8 hx hy];rfl
theorem US {x y:Int} (hx:Ln x<=dx) (hy:Ln y<=dx) (h0:0<y) (hd:y∣x):mM (dt x) (dt y)=some (dt (x / y),dt 0,0):=by
 have hL:dx=4398046511104:=rfl
 unfold mM
 rw[gH (by omega),ae4]
 simp only[aeV,aea,if_false]
 rw[gH (by omega),ae4,ae4]
 simp only[aeV,aea,if_false]
 have hxd:(dt x).aa=aG x.natAbs:=rfl
 have hyd:(dt y).aa=aG y.natAbs:=rfl
 have hxs:(dt x).ag=x.sign:=rfl
 have hys:(dt y).ag=1:=af1 h0
 rw[hxd,hyd,hxs,hys]
 have fx:(aG x.natAbs).length<=4398046511104:=by show Ln x<=_;omega
 have fy:(aG y.natAbs).length<=4398046511104:=by show Ln y<=_;omega
 have fq:=b9 (Nat.div_le_self x.natAbs y.natAbs)
 obtain⟨z,rfl⟩:=hd
 have hyz:y*z / y=z:=Int.mul_ediv_cancel_left _ (by omega)
 have hn:(y*z).natAbs=y.natAbs*z.natAbs:=afZ _ _
 have hq:(y*z).natAbs / y.natAbs=z.natAbs:=by rw[hn,Nat.mul_div_cancel_left _ (by omega)]
 have hr:(y*z).natAbs % y.natAbs=0:=by rw[hn,Nat.mul_mod_right]
 have hsg:(y*z).sign=z.sign:=by rw[Int.sign_mul,af1 h0,afV]
 rw[if_neg (by decide),div_eq (by omega) (by omega) (by omega),ae4,afD,hsg,gJ (x:=z.sign) (by have:=m5 z;omega),hyz,hq,hr,cm]
 rw[hq]at fq
 have hT:(if decide (z.sign<0)=true then some (decide ((([]:List Int).length:Int)>0)) else some false)=some false:=by split<;>rfl
 simp only[hT,Option.bind_some,aea,if_false]
 rw[oC (x:=z) rfl (fun _=>rfl) (fun _=>by omega),ae4]
 have:cw z.sign []=some (dt 0):=qU 0 (by simp[Fit]) Dg.nil rfl (fun h=>absurd rfl h)
 rw[this,ae4]
def lg (n:Nat):Nat:=if n=0 then 0 else n.log2+1
theorem ZK {r x:Nat} (h:2*r<x):lg r<lg x:=by
 unfold lg
 rw[if_neg (show x≠0 by omega)]
 by_cases h0:r=0
 ·rw[if_pos h0];omega
 ·rw[if_neg h0]
  have h1:=Nat.log2_self_le h0
  have h2:=@Nat.lt_log2_self x
  have:2 ^ (r.log2+1)<2 ^ (x.log2+1):=by rw[Nat.pow_succ];omega
  have:=(Nat.pow_lt_pow_iff_right (by decide:1<2)).1 this
  omega
theorem Su {n k:Nat} (h:(n:Int)<pw k):lg n<=20*k:=by
 unfold lg
 by_cases h0:n=0
 ·rw[if_pos h0];omega
 ·rw[if_neg h0]
  have:n<2 ^ (20*k):=by
   have:pw k=((2 ^ (20*k):Nat):Int):=by
    unfold pw
    rw[Nat.pow_mul,Int.natCast_pow];rfl
   omega
  have:=(Nat.log2_lt h0).2 this
  omega
theorem Wl {a b:Nat} (ha:(aG a).length<=iD) (hb:(aG b).length<=iD):aY oM (aG a,aG b)=some (aG (Nat.gcd a b)):=by
 have hL:iD=17592186043904:=rfl
 have key:∃r,aY oM (aG a,aG b)=some r∧r=aG (Nat.gcd a b):=by
  have la:=Su (fe a)
  have lb:=Su (fe b)
  let val:List Int->Nat:=fun l=>(dv l).toNat
  have hval:∀n,val (aG n)=n:=fun n=>by show (dv (aG n)).toNat=n;rw[bf];rfl
  refine pf (I:=fun (s:List Int×List Int)=>∃x y,s=(aG x,aG y)∧Nat.gcd x y=Nat.gcd a b∧(aG x).length<=iD∧(aG y).length<=iD)
   (μ:=fun (s:List Int×List Int)=>lg (val s.1)+lg (val s.2)+(if val s.1<val s.2 then 1 else 0)) _ ⟨a,b,rfl,rfl,ha,hb⟩ (by simp only[hval];unfold FU;split<;>omega) ?_
  rintro _ ⟨x,y,rfl,hg,hx,hy⟩
  simp only[oM]
  by_cases h0:y=0
  ·right
   subst h0
   refine⟨_,by rw[cm,if_neg (by simp)],?_⟩
   rw[<- hg,af3]
  ·left
   have hne:0<(aG y).length:=afn.2 (fun h=>h0 (qG.1 h))
   rw[if_pos (by simpa using hne),div_eq h0 (by omega) (by omega),ae4]
   have hlt:=aet x (af4 h0)
   refine⟨_,rfl,⟨y,x % y,rfl,?_,hy,?_⟩,?_⟩
   ·rw[<- hg,Nat.gcd_comm y,<- Nat.gcd_rec,Nat.gcd_comm]
   ·have:=b9 (Nat.mod_le x y);omega
   ·simp only[hval]
    rw[if_neg (by omega)]
    by_cases hxy:x<y
    ·rw[if_pos hxy,aev hxy];omega
    ·rw[if_neg hxy]
     have:lg (x % y)<lg x:=by
      apply ZK
      have h1:=af5 x y
      have h2:1<=x / y:=(Nat.one_le_div_iff (by omega)).2 (by omega)
      have h3:y*1<=y*(x / y):=Nat.mul_le_mul_left _ h2
      omega
     omega
 obtain⟨r,h1,rfl⟩:=key
 exact h1
theorem UU {x y:Int} (hx:Ln x<=iD) (hy:Ln y<=iD):nS (dt x) (dt y)=some (dt (Int.gcd x y),0):=by
 have hL:iD=17592186043904:=rfl
 unfold nS
 rw[gH (by omega),ae4]
 simp only[aeV,aea,if_false]
 rw[gH (by omega),ae4,ae4]
 simp only[aeV,aea,if_false]
 have hxd:(dt x).aa=aG x.natAbs:=rfl
 have hyd:(dt y).aa=aG y.natAbs:=rfl
 rw[hxd,hyd]
 have fx:(aG x.natAbs).length<=17592186043904:=by show Ln x<=_;omega
 have fy:(aG y.natAbs).length<=17592186043904:=by show Ln y<=_;omega
 have fg:(aG (Nat.gcd x.natAbs y.natAbs)).length<=17592186043904:=by
  by_cases h:y.natAbs=0
  ·rw[h,af3];exact fx
  ·have:=b9 (af6 x.natAbs (af4 h));omega
 rw[tM (by unfold Fit;omega),ae4,Wl (by omega) (by omega),ae4,tM (by unfold Fit;omega),ae4]
 have hgn:Nat.gcd x.natAbs y.natAbs=((Int.gcd x y:Nat):Int).natAbs:=rfl
 rw[oC (x:=(Int.gcd x y:Int)) hgn ?_ (fun _=>by omega),ae4,lG,ae4]
 intro h
 rw[af1 (by omega)]
theorem OP {x y:Int} (hx:Ln x<=dx) (hy:Ln y<=dx):js (dt x) (dt y)=some (ij x y):=by
 have hL:dx=4398046511104:=rfl
 unfold js
 rw[gH (by omega),ae4]
 simp only[aeV,aea,if_false]
 rw[gH (by omega),ae4,ae4]
 simp only[aeV,aea,if_false]
 have hxd:(dt x).aa=aG x.natAbs:=rfl
 have hyd:(dt y).aa=aG y.natAbs:=rfl
 have hxs:(dt x).ag=x.sign:=rfl
 have hys:(dt y).ag=y.sign:=rfl
 rw[hxd,hyd,hxs,hys]
 have fx:(aG x.natAbs).length<=4398046511104:=by show Ln x<=_;omega
 have fy:(aG y.natAbs).length<=4398046511104:=by show Ln y<=_;omega
 by_cases h:x.sign=y.sign
 ·rw[if_neg (by simpa using h),wW (by unfold Fit;omega) (by unfold Fit;omega),ae4]
  have hc:∀s:Int,s = -1∨s=0∨s=1->∀c:Int,c = -1∨c=0∨c=1->IntKind.i64.wrap (s*c)=s*c:=by
   rintro s (rfl|rfl|rfl) c (rfl|rfl|rfl)<;>exact gJ (by decide)
  have hcm:∀a b:Int,ij a b = -1∨ij a b=0∨ij a b=1:=by
   intro a b;unfold ij;split
   ·simp
   ·split<;>simp
  rw[hc _ (m5 x) _ (hcm _ _)]
  congr 1
  unfold ij
  rcases er x with⟨a,b,c⟩|⟨a,b,c⟩|⟨a,b⟩<;>rcases er y with⟨a',b',c'⟩|⟨a',b',c'⟩|⟨a',b'⟩<;>(try (rw[a,a']at h;exact absurd h (by decide)))<;>rw[a]<;>split<;>(try split)<;>(try split)<;>(try split)<;>omega
 ·rw[if_pos (by simpa using h),y4,ae4]
  congr 1
  unfold ij
  rcases er x with⟨a,b,c⟩|⟨a,b,c⟩|⟨a,b⟩<;>rcases er y with⟨a',b',c'⟩|⟨a',b',c'⟩|⟨a',b'⟩<;>(try (exact absurd (a.trans a'.symm) h))<;>rw[a,a']<;>split<;>(try split)<;>(try split)<;>(try split)<;>omega
theorem Ts (x:Int):IntKind.u64.wrap x=x % 18446744073709551616:=by
 unfold IntKind.wrap
 simp only[IntKind.bits,IntKind.signed,afx,aea,if_false]
 rfl
theorem wu {x:Int} (h:0<=x∧x<18446744073709551616):IntKind.u64.wrap x=x:=by rw[Ts];omega
theorem TB {x:Int} (h:0<=x∧x<18446744073709551616):kf .and .u64 x 1048575=x % 1048576:=by
 unfold kf
 simp only
 have e1:(BitVec.ofInt IntKind.u64.bits x &&& BitVec.ofInt IntKind.u64.bits 1048575).toNat=((x % 18446744073709551616).toNat) % 1048576:=by
  rw[BitVec.toNat_and,BitVec.toNat_ofInt,BitVec.toNat_ofInt]
  have e:((1048575:Int) % ((2 ^ IntKind.u64.bits:Nat):Int)).toNat=2 ^ 20-1:=by decide
  rw[e,afI]
  rfl
 rw[e1,wu (by omega)]
 omega
theorem aaL (x:Int):xm .u64 x 20=some (x / 1048576):=by
 unfold xm
 rw[if_neg (by decide)]
 have e:(2:Int) ^ (min (Int.toNat 20) IntKind.u64.bits)=1048576:=by decide
 rw[e,afJ _ (by decide)]
theorem pw4:pw 4=1208925819614629174706176:=by decide
theorem YM {n:Nat} (hn:n<18446744073709551616):∃l,aY uT ((n:Int),[])=some l∧Dg l∧dv l=n∧l.length<=5:=by
 refine pf (I:=fun (s:Int×List Int)=>0<=s.1∧Dg s.2∧dv s.2+pw s.2.length*s.1=n∧s.2.length<=5∧(s.1=0∨s.2.length<5)) (μ:=fun (s:Int×List Int)=>s.1.toNat) _ ⟨by simp,Dg.nil,by simp[dv,oe],by simp,by simp⟩ (by simp only[Int.toNat_natCast];unfold FU;omega) ?_
 rintro⟨u,l⟩ ⟨h1,hd,h2,h3,h5⟩
 simp only at h1 hd h2 h3 h5
 have hp:=mC l.length
 have hdl:=cy hd
 have hu:u<=n:=by
  have:1*u<=pw l.length*u:=afW (by omega) h1
  omega
 simp only[uT]
 by_cases h0:u>0
 ·left
  have hl5:l.length<5:=by omega
  have hl4:l.length<4:=by
   rcases ael l.length 4 with h|h
   ·exact h
   ·have h4:l.length=4:=by omega
    rw[h4,pw4]at h2
    omega
  have hw:IntKind.i64.wrap (u % 1048576)=u % 1048576:=gJ (by omega)
  rw[if_pos (by simpa using h0),TB ⟨h1,by omega⟩,hw,xz (by simp;omega),ae4,aaL,ae4]
  refine⟨_,rfl,⟨by simp only;omega,hd.append (Dg.mk (by omega) Dg.nil),?_,by simp;omega,by right;simp;omega⟩,by simp only;omega⟩
  simp only[fI,dv,aeC,List.length_cons,List.length_nil,afU,afY,aen]
  have:=uo l.length u
  omega
 ·right
  have:u=0:=by omega
  subst this
  refine⟨l,by rw[if_neg (by simp)],hd,?_,h3⟩
  rw[afU]at h2
  omega
theorem Y9 {x:Int} (h : -9223372036854775808<=x∧x<9223372036854775808):tG x=some (dt x):=by
 have hT:(if decide (x<0)=true then some ((-1:Int),IntKind.u64.wrap (0-(IntKind.u64.wrap x))) else some (1,IntKind.u64.wrap x))=some (if x<0 then -1 else 1,((x.natAbs:Nat):Int)):=by
  by_cases hx:x<0
  ·rw[if_pos (by simpa using hx),if_pos hx,Ts,Ts]
   congr 2
   omega
  ·rw[if_neg (by simpa using hx),if_neg hx,Ts]
   congr 2
   omega
 obtain⟨l,h1,h2,h3,h4⟩:=YM (n:=x.natAbs) (by omega)
 unfold tG
 rw[hT,ae4]
 simp only
 rw[h1,ae4,ns]
 refine qU x (by unfold Fit;omega) h2 h3 (fun h0 =>?_)
 split
 ·rw[af2 (by omega)]
 ·rw[af1 (by omega)]
theorem acV {d:Int} {i:Nat} (hi:i<=3) (hd:0<=d∧d<1048576) (h8:i=3->d<=8):Fg .u64 (IntKind.u64.wrap d) (IntKind.i64.wrap (20*(i:Int)))=some (pw i*d):=by
 rw[wu (by omega),gJ (by omega)]
 unfold Fg
 rw[if_neg (by omega)]
 have e:(2:Int) ^ (min (20*(i:Int)).toNat IntKind.u64.bits)=pw i:=by
  have:∀i:Nat,i<=3->(2:Int) ^ (min (20*(i:Int)).toNat IntKind.u64.bits)=pw i:=by decide
  exact this i hi
 rw[e,wu,afC]
 rcases (show i=0∨i=1∨i=2∨i=3 by omega) with rfl|rfl|rfl|rfl
 ·rw[show pw 0=1 by decide];omega
 ·rw[show pw 1=1048576 by decide];omega
 ·rw[show pw 2=1099511627776 by decide];omega
 ·rw[show pw 3=1152921504606846976 by decide];have:=h8 rfl;omega
theorem abz {u d:Int} {i:Nat} (hi:i<=3) (hu:0<=u∧u<pw i) (hd:0<=d∧pw i*d<9223372036854775809):kf .or .u64 u (pw i*d)=u+pw i*d:=by
 have hp:=mC i
 have hpd:0<=pw i*d:=afQ (by omega) hd.1
 have hpw:pw i=((2 ^ (20*i):Nat):Int):=by unfold pw;rw[Nat.pow_mul,Int.natCast_pow];rfl
 have hp3:pw i<=1152921504606846976:=by
  have:=p5 hi
  rwa [show pw 3=1152921504606846976 by decide]at this
 unfold kf
 simp only
 have e1:(BitVec.ofInt IntKind.u64.bits u ||| BitVec.ofInt IntKind.u64.bits (pw i*d)).toNat=(u+pw i*d).toNat:=by
  rw[BitVec.toNat_or,BitVec.toNat_ofInt,BitVec.toNat_ofInt]
  have e:((2 ^ IntKind.u64.bits:Nat):Int)=18446744073709551616:=by decide
  rw[e]
  have e2:(u % 18446744073709551616).toNat=u.toNat:=by omega
  have e3:((pw i*d) % 18446744073709551616).toNat=d.toNat <<< (20*i):=by
   rw[Nat.shiftLeft_eq,Int.emod_eq_of_lt hpd (by omega),hpw]
   have:d=(d.toNat:Int):=by omega
   rw[this,<- aey,aez,aez,aex]
  rw[e2,e3,Nat.or_comm,<- Nat.shiftLeft_add_eq_or_of_lt (by omega),Nat.shiftLeft_eq]
  have:pw i*d=((d.toNat*2 ^ (20*i):Nat):Int):=by
   rw[hpw,aey,afC]
   congr 1
   omega
  omega
 rw[e1,wu (by omega)]
 omega
theorem aaE {g:Nat} (h:(aG g).length<=iD):oZ (dt g)=some (decide (g=1)):=by
 have hL:iD=17592186043904:=rfl
 have hgd:(dt (g:Int)).aa=aG g:=rfl
 have hLn:Ln (g:Int)=(aG g).length:=rfl
 unfold oZ
 have hsmall:g=1->(aG g).length<=4:=by
  rintro rfl
  exact adC (gw (k:=1) (by decide)) (by decide)
 suffices hI:∃r,rz (dt g)=some r∧((if r.2=true then some (r.1==1) else some false)=some (decide (g=1))) by
  obtain⟨r,h1,h2⟩:=hI
  rw[h1,ae4,h2]
 unfold rz
 rw[gH (by rw[hLn];omega),ae4]
 simp only[aeV,aea,if_false,Option.bind_some,hgd]
 by_cases h4:(aG g).length>4
 ·rw[if_pos (by simp;omega)]
  refine⟨_,rfl,?_⟩
  have:g≠1:=fun hh=>by have:=hsmall hh;omega
  simp[this]
 rw[if_neg (by simp;omega)]
 have key:∃r,aY (rA (dt g)) (0,0)=some r∧(match r with | .inl u=>u=(g:Int) | .inr x=>x=(0,false)∧g≠1):=by
  refine cD (I:=fun i s=>s.2=(i:Int)∧s.1=dv ((aG g).take i)) (aG g).length _ ⟨rfl,rfl⟩ (jl (by omega)) ?_
  rintro i ⟨u,s⟩ hi ⟨h1,h2⟩
  simp only at h1 h2
  subst h1 h2
  simp only[rA,hgd]
  have hdg:=(bZ g).take i
  have hu0:=cy hdg
  have hu1:=nN hdg
  rw[adT,aeF hi]at hu1
  by_cases hlt:i<(aG g).length
  ·have gd:=(bZ g).get hlt
   rw[if_pos (by simpa using hlt),bV hlt,ae4]
   have hT:(if ((i:Int)==3)=true then some (decide ((aG g)[i]>8)) else some false)=some (decide (i=3∧(aG g)[i]>8)):=by
    by_cases h3:i=3
    ·subst h3;simp
    ·rw[if_neg (by simp;omega)];simp[h3]
   rw[hT,ae4]
   by_cases h8:i=3∧(aG g)[i]>8
   ·right
    rw[if_pos (by simpa using h8)]
    refine⟨.inr (0,false),rfl,rfl,?_⟩
    rintro rfl
    have:=gw (n:=1) (k:=1) (by decide)
    omega
   ·left
    rw[if_neg (by simpa using h8),acV (by omega) gd (by omega),ae4]
    have hb:pw i*(aG g)[i]<9223372036854775809:=by
     rcases (show i=0∨i=1∨i=2∨i=3 by omega) with h|h|h|h
     ·have:pw i=1:=by rw[h];decide
      rw[this];omega
     ·have:pw i=1048576:=by rw[h];decide
      rw[this];omega
     ·have:pw i=1099511627776:=by rw[h];decide
      rw[this];omega
     ·have:pw i=1152921504606846976:=by rw[h];decide
      rw[this];omega
    rw[abz (by omega) ⟨hu0,hu1⟩ ⟨gd.1,hb⟩]
    exact⟨hlt,_,rfl,by rw[gJ (by omega)];omega,by rw[fp hlt]⟩
  ·right
   have:i=(aG g).length:=by omega
   subst this
   exact⟨.inl (dv ((aG g).take (aG g).length)),by rw[if_neg (by simp)],by rw[afA,bf]⟩
 obtain⟨r,h1,h2⟩:=key
 rw[h1,ae4]
 cases r with
 | inr x=>obtain⟨rfl,h⟩:=h2;exact⟨_,rfl,by simp[h]⟩
 | inl u =>
  simp only at h2
  subst h2
  have hs:(dt (g:Int)).ag=(g:Int).sign:=rfl
  have hs0:¬(g:Int).sign<0:=by have:=er (g:Int);omega
  simp only[hs]
  rw[if_neg (by simp),ae4,if_neg (by simp),if_pos (by simp)]
  by_cases hg:(g:Int)<9223372036854775808
  ·rw[if_pos (by simpa using hg)]
   refine⟨_,rfl,?_⟩
   simp only[if_true]
   rw[wrap64 (by omega) hg]
   congr 1
   by_cases h:g=1
   ·subst h;rfl
   ·have:¬((g:Int)=1):=by omega
    simp[h,this]
  ·rw[if_neg (by simpa using hg)]
   have:g≠1:=by omega
   exact⟨_,rfl,by simp[this]⟩
def bR (q:Rat):ak:=ak.mk (dt q.num) (dt q.den)
def LF (q:Rat):Nat:=max (Ln q.num) (Ln q.den)
theorem Sz {p q:Rat} (h:bR p=bR q):p=q:=by
 unfold bR at h
 simp only[ak.mk.injEq]at h
 have h1:=Jn h.1
 have h2:=Jn h.2
 exact Rat.ext h1 (by omega)
def okF (f:ak):Bool:=okB f.aH&&okB f.aK&&(f.aK.ag==1)&&decide (Nat.gcd (dv f.aH.aa).toNat (dv f.aK.aa).toNat=1)
theorem Bh {f:ak} : okF f=true↔∃q,f=bR q:=by
 obtain⟨p,q⟩:=f
 unfold okF
 simp only[aeb,beq_iff_eq,decide_eq_true_eq]
 constructor
 ·rintro⟨⟨⟨h1,h2⟩,h3⟩,h4⟩
  obtain⟨x,rfl⟩:=sr.1 h1
  obtain⟨y,rfl⟩:=sr.1 h2
  have hy:0<y:=by
   have:y.sign=1:=h3
   rcases er y with⟨a,b,c⟩|⟨a,b,c⟩|⟨a,b⟩<;>omega
  have h5:(dv (dt x).aa).toNat=x.natAbs:=by show (dv (aG _)).toNat=_;rw[bf];rfl
  have h6:(dv (dt y).aa).toNat=y.natAbs:=by show (dv (aG _)).toNat=_;rw[bf];rfl
  rw[h5,h6]at h4
  refine⟨⟨x,y.natAbs,by omega,h4⟩,?_⟩
  unfold bR
  simp only
  congr 2
  omega
 ·rintro⟨q,hq⟩
  unfold bR at hq
  simp only[ak.mk.injEq]at hq
  obtain⟨rfl,rfl⟩:=hq
  have hd:=q.den_pos
  refine⟨⟨⟨Jr _,Jr _⟩,af1 (by omega)⟩,?_⟩
  have h5:(dv (dt q.num).aa).toNat=q.num.natAbs:=by show (dv (aG _)).toNat=_;rw[bf];rfl
  have h6:(dv (dt (q.den:Int)).aa).toNat=q.den:=by show (dv (aG _)).toNat=_;rw[bf];rfl
  rw[h5,h6]
  exact q.reduced
theorem Qe (q:Rat):okF (bR q)=true:=Bh.2 ⟨q,rfl⟩
def Iw (f:ak):Prop:=f.aH.aa.length<=iD∧f.aK.aa.length<=iD
theorem Ya {q:Rat} (h:LF q<=dx):Iw (bR q):=by
 unfold LF at h
 exact⟨qB (show Ln q.num<=_ by omega),qB (show Ln q.den<=_ by omega)⟩
theorem BE {f:ak} (hf:Iw f):cj f=some (okF f):=by
 have hL:iD=17592186043904:=rfl
 obtain⟨p,q⟩:=f
 simp only[Iw]at hf
 unfold cj okF
 rw[D2 (show Fit p.aa by unfold Fit;omega),ae4]
 by_cases h1:okB p=true
 ·simp only[h1,aeV,aea,if_false,aeW]
  rw[D2 (show Fit q.aa by unfold Fit;omega),ae4]
  by_cases h2:okB q=true
  ·simp only[h2,aeV,aea,if_false,aeW,Option.bind_some]
   by_cases h3:q.ag=1
   ·rw[if_neg (by simp[h3])]
    obtain⟨x,rfl⟩:=sr.1 h1
    obtain⟨y,rfl⟩:=sr.1 h2
    rw[UU hf.1 hf.2,ae4]
    simp only[beq_self_eq_true,if_true]
    have h5:(dv (dt x).aa).toNat=x.natAbs:=by show (dv (aG _)).toNat=_;rw[bf];rfl
    have h6:(dv (dt y).aa).toNat=y.natAbs:=by show (dv (aG _)).toNat=_;rw[bf];rfl
    rw[aaE,ae4,h5,h6]
    ·rw[h3];rfl
    ·have hy:0<y.natAbs:=by
      have:y.sign=1:=h3
      rcases er y with⟨a,b,c⟩|⟨a,b,c⟩|⟨a,b⟩<;>omega
     have:=b9 (af6 x.natAbs hy)
     have h7:(aG y.natAbs).length<=iD:=hf.2
     show (aG (Nat.gcd x.natAbs y.natAbs)).length<=_
     omega
   ·rw[if_pos (by simpa using h3)]
    simp[h3]
  ·simp only[h2,afy,if_true,Option.bind_some,afx]
 ·simp only[h1,afy,if_true,Option.bind_some,afx]
theorem jr {q:Rat} (h:LF q<=dx):cj (bR q)=some true:=by rw[BE (Ya h),Qe]
theorem OV {p q:Int} (hp:Ln p<=dx) (hq:Ln q<=dx) (h0:q≠0):lM (dt p) (dt q)=some (bR (Rat.divInt p q),0):=by
 have hL:dx=4398046511104:=rfl
 have main:∀ {p q:Int},Ln p<=dx->Ln q<=dx->0<q ->
   ((nS (dt p) (dt q)).bind fun r6=>(mM (dt p) r6.1).bind fun r7=>(mM (dt q) r6.1).bind fun r8=>some ((ak.mk r7.1 r8.1),(0:Int)))=some (bR (Rat.divInt p q),0):=by
  intro p q hp hq h0
  have hg:0<Int.gcd p q:=Int.gcd_pos_of_ne_zero_right _ (by omega)
  have hgl:Ln (Int.gcd p q:Int)<=dx:=by
   have:=b9 (af6 p.natAbs (show 0<q.natAbs by omega))
   show (aG (Nat.gcd p.natAbs q.natAbs)).length<=_
   have h7:(aG q.natAbs).length<=dx:=hq
   omega
  rw[UU (qB hp) (qB hq),ae4]
  simp only
  rw[US hp hgl (by omega) (Int.gcd_dvd_left ..),ae4,US hq hgl (by omega) (Int.gcd_dvd_right ..),ae4]
  have hd:((q.natAbs / Int.gcd p q:Nat):Int)=q / (Int.gcd p q:Int):=by
   rw[Int.natCast_ediv]
   congr 1
   omega
  unfold bR
  rw[Rat.num_divInt,Rat.den_divInt,if_neg (by omega),af1 h0,afV,Int.gcd_comm q p,hd]
 unfold lM
 rw[gH (by omega),ae4]
 simp only[aeV,aea,if_false]
 rw[gH (by omega),ae4,ae4]
 simp only[aeV,aea,if_false]
 have hqs:(dt q).ag=q.sign:=rfl
 rw[hqs]
 rcases er q with⟨a,b,c⟩|⟨a,b,c⟩|⟨a,b⟩
 ·rw[if_neg (by rw[a];decide),if_neg (by rw[a];decide),ae4]
  exact main hp hq c
 ·rw[if_neg (by rw[a];decide),if_pos (by rw[a];decide),OU hp,ae4,OU hq,ae4,ae4]
  have:=main (p := -p) (q := -q) (by rw[Bw];exact hp) (by rw[Bw];exact hq) (by omega)
  rw[Rat.neg_divInt_neg]at this
  exact this
 ·exact absurd b h0
theorem kK (q:Rat):Ln q.num<=LF q:=by unfold LF;omega
theorem lE (q:Rat):Ln q.den<=LF q:=by unfold LF;omega
theorem yU {p q:Int} (h0:q≠0):LF (Rat.divInt p q)<=max (Ln p) (Ln q):=by
 have hg:0<Int.gcd q p:=Int.gcd_pos_of_ne_zero_left _ h0
 have h1:Ln (Rat.divInt p q).num<=Ln p:=by
  apply Ra
  rw[Rat.num_divInt]
  obtain⟨z,hz⟩:(Int.gcd q p:Int)∣q.sign*p:=Int.dvd_mul_of_dvd_right (Int.gcd_dvd_right ..)
  rw[hz,Int.mul_ediv_cancel_left _ (by omega)]
  have h2:(q.sign*p).natAbs=p.natAbs:=by
   rw[afZ]
   have:q.sign.natAbs=1:=by
    rcases er q with⟨a,b,c⟩|⟨a,b,c⟩|⟨a,b⟩
    ·rw[a];rfl
    ·rw[a];rfl
    ·exact absurd b h0
   rw[this,Nat.one_mul]
  rw[<- h2,hz,afZ]
  exact Nat.le_mul_of_pos_left _ (by omega)
 have h2:Ln ((Rat.divInt p q).den:Int)<=Ln q:=by
  apply Ra
  rw[Rat.den_divInt,if_neg h0]
  exact Nat.div_le_self _ _
 unfold LF
 omega
theorem Q3 {a b:Rat} (h:LF a+LF b+1<=dx):kg (bR a) (bR b)=some (bR (a+b),0):=by
 have n1:=kK a
 have n2:=kK b
 have d1:=lE a
 have d2:=lE b
 have m1:=jq a.num b.den
 have m2:=jq b.num a.den
 have m3:=jq a.den b.den
 have m4:=OT (a.num*b.den) (b.num*a.den)
 unfold kg
 rw[jr (by omega),ae4]
 simp only[aeV,aea,if_false]
 rw[jr (by omega),ae4,ae4]
 simp only[aeV,aea,if_false]
 show (bU (dt a.num) (dt b.den)).bind _=_
 rw[ma (by omega) (by omega),ae4]
 show (bU (dt b.num) (dt a.den)).bind _=_
 rw[ma (by omega) (by omega),ae4,Z7 (by omega) (by omega),ae4]
 show (bU (dt a.den) (dt b.den)).bind _=_
 have hden:(a.den:Int)*b.den≠0:=by
  rw[<- aey]
  have:=Nat.mul_pos a.den_pos b.den_pos
  omega
 rw[ma (by omega) (by omega),ae4,OV (by omega) (by omega) hden,ae4]
 rw[Rat.add_def',<- Rat.divInt_ofNat,aey]
theorem yT (a b:Rat):LF (a+b)<=LF a+LF b+1:=by
 have n1:=kK a
 have n2:=kK b
 have d1:=lE a
 have d2:=lE b
 have m1:=jq a.num b.den
 have m2:=jq b.num a.den
 have m3:=jq a.den b.den
 have m4:=OT (a.num*b.den) (b.num*a.den)
 have hden:(a.den:Int)*b.den≠0:=by
  rw[<- aey]
  have:=Nat.mul_pos a.den_pos b.den_pos
  omega
 rw[Rat.add_def',<- Rat.divInt_ofNat,aey]
 have:=yU (p:=a.num*b.den+b.num*a.den) hden
 omega
theorem UZ (a:Rat):LF (-a)=LF a:=by unfold LF;rw[Rat.neg_num,Rat.neg_den,Bw]
theorem OS (a b:Rat):LF (a-b)<=LF a+LF b+1:=by
 rw[Rat.sub_eq_add_neg]
 have:=yT a (-b)
 rw[UZ]at this
 exact this
theorem Zk {a b:Rat} (h:LF a+LF b+1<=dx):nf (bR a) (bR b)=some (bR (a-b),0):=by
 unfold nf
 rw[jr (by omega),ae4]
 simp only[aeV,aea,if_false]
 rw[jr (by omega),ae4,ae4]
 simp only[aeV,aea,if_false]
 show (mN (dt b.num)).bind _=_
 have n2:=kK b
 rw[OU (by omega),ae4]
 have e:ak.mk (dt (-b.num)) (bR b).aK=bR (-b):=by unfold bR;rw[Rat.neg_num,Rat.neg_den]
 rw[e,Q3 (by rw[UZ];exact h),ae4,Rat.sub_eq_add_neg]
theorem Y7 {a b:Rat} (h:LF a+LF b<=dx):nd (bR a) (bR b)=some (bR (a*b),0):=by
 have n1:=kK a
 have n2:=kK b
 have d1:=lE a
 have d2:=lE b
 have m1:=jq a.num b.num
 have m3:=jq a.den b.den
 unfold nd
 rw[jr (by omega),ae4]
 simp only[aeV,aea,if_false]
 rw[jr (by omega),ae4,ae4]
 simp only[aeV,aea,if_false]
 show (bU (dt a.num) (dt b.num)).bind _=_
 rw[ma (by omega) (by omega),ae4]
 show (bU (dt a.den) (dt b.den)).bind _=_
 have hden:(a.den:Int)*b.den≠0:=by
  rw[<- aey]
  have:=Nat.mul_pos a.den_pos b.den_pos
  omega
 rw[ma (by omega) (by omega),ae4,OV (by omega) (by omega) hden,ae4]
 rw[Rat.mul_def',<- Rat.divInt_ofNat,aey]
theorem wT (a b:Rat):LF (a*b)<=LF a+LF b:=by
 have n1:=kK a
 have n2:=kK b
 have d1:=lE a
 have d2:=lE b
 have m1:=jq a.num b.num
 have m3:=jq a.den b.den
 have hden:(a.den:Int)*b.den≠0:=by
  rw[<- aey]
  have:=Nat.mul_pos a.den_pos b.den_pos
  omega
 rw[Rat.mul_def',<- Rat.divInt_ofNat,aey]
 have:=yU (p:=a.num*b.num) hden
 omega
theorem Cb (a b:Rat):a / b=Rat.divInt (a.num*b.den) (a.den*b.num):=by
 rw[Rat.div_def,Rat.inv_def]
 conv=>lhs;rw[<- Rat.num_divInt_den a]
 rw[Rat.divInt_mul_divInt]
theorem aa2 {a b:Rat} (h:LF a+LF b<=dx) (h0:b≠0):lL (bR a) (bR b)=some (bR (a / b),0):=by
 have n1:=kK a
 have n2:=kK b
 have d1:=lE a
 have d2:=lE b
 have m1:=jq a.num b.den
 have m3:=jq a.den b.num
 have hb:b.num≠0:=fun hh=>h0 (Rat.num_eq_zero.1 hh)
 unfold lL
 rw[jr (by omega),ae4]
 simp only[aeV,aea,if_false]
 rw[jr (by omega),ae4,ae4]
 simp only[aeV,aea,if_false]
 have hs:(bR b).aH.ag=b.num.sign:=rfl
 have hs':b.num.sign≠0:=by rcases er b.num with⟨a,b,c⟩|⟨a,b,c⟩|⟨a,b⟩<;>omega
 rw[hs,if_neg (by simpa using hs')]
 show (bU (dt a.num) (dt b.den)).bind _=_
 rw[ma (by omega) (by omega),ae4]
 show (bU (dt a.den) (dt b.num)).bind _=_
 have hden:(a.den:Int)*b.num≠0:=Int.mul_ne_zero (by have:=a.den_pos;omega) hb
 rw[ma (by omega) (by omega),ae4,OV (by omega) (by omega) hden,ae4,Cb]
theorem UY {a b:Rat} (h0:b≠0):LF (a / b)<=LF a+LF b:=by
 have n1:=kK a
 have n2:=kK b
 have d1:=lE a
 have d2:=lE b
 have m1:=jq a.num b.den
 have m3:=jq a.den b.num
 have hb:b.num≠0:=fun hh=>h0 (Rat.num_eq_zero.1 hh)
 have hden:(a.den:Int)*b.num≠0:=Int.mul_ne_zero (by have:=a.den_pos;omega) hb
 rw[Cb]
 have:=yU (p:=a.num*b.den) hden
 omega
theorem Y6 {n:Int} (h : -9223372036854775808<=n∧n<9223372036854775808):g9 n=some (bR n):=by
 unfold g9
 rw[Y9 h,ae4,Y9 (by decide),ae4]
 unfold bR
 rw[Rat.num_intCast,Rat.den_intCast]
 rfl
theorem OQ {n:Int} (h:n.natAbs<1048576):LF (n:Rat)<=1:=by
 unfold LF
 rw[Rat.num_intCast,Rat.den_intCast]
 have h1:=Bx h
 have h2:=Bx (x:=((1:Nat):Int)) (by decide)
 omega
theorem IB {a:Rat} (h:LF a<=dx):hY (bR a)=some a.num.sign:=by
 unfold hY
 rw[jr h,ae4]
 rfl
def O8 (a b:Rat):Int:=if a<b then -1 else if b<a then 1 else 0
theorem Yk (a b:Rat):ij (a.num*b.den) (b.num*a.den)=O8 a b:=by
 unfold ij O8
 simp only[Rat.lt_iff]
theorem Tu {a b:Rat} (h:LF a+LF b<=dx):iE (bR a) (bR b)=some (O8 a b):=by
 have n1:=kK a
 have n2:=kK b
 have d1:=lE a
 have d2:=lE b
 have m1:=jq a.num b.den
 have m2:=jq b.num a.den
 unfold iE
 rw[jr (by omega),ae4]
 simp only[aeV,aea,if_false]
 rw[jr (by omega),ae4,ae4]
 simp only[aeV,aea,if_false]
 show (bU (dt a.num) (dt b.den)).bind _=_
 rw[ma (by omega) (by omega),ae4]
 show (bU (dt b.num) (dt a.den)).bind _=_
 rw[ma (by omega) (by omega),ae4,OP (by omega) (by omega),ae4,Yk]
theorem To {l:List Int} (hl:Fit l) (hd:Dg l):gG l=some (aG (dv l).toNat):=by
 have h:=sN hl hd
 obtain⟨r,h1,k,rfl,hk,_⟩:=Im hl
 unfold dz at h
 unfold gG
 have e:uv l=ld l:=rfl
 rw[h1,ae4,JL hk,ae4]at h
 rw[e,h1,ae4,JL hk,ae4,xz (by unfold Fit at hl;simp;omega),ae4]
 exact h
theorem Eo {l:List Int} {n:Nat} (hl:Fit l) (hd:Dg l) (hn:dv l=n):gG l=some (aG n):=by
 rw[To hl hd,hn];rfl
theorem Bg {s:Int} {l:List Int} (x:Int) (hf:Fit l) (hd:Dg l) (hv:dv l=x.natAbs) (hs:x≠0->s=x.sign):fO s l=some (dt x):=by
 have h:=qU x hf hd hv hs
 unfold cw at h
 rw[sN hf hd]at h
 unfold fO
 rw[To hf hd]
 exact h
theorem Df {x:Int} {s:Int} {n:Nat} (hn:n=x.natAbs) (hs:x≠0->s=x.sign) (hL:n≠0->(aG n).length<=17592186044416):fO s (aG n)=some (dt x):=by
 subst hn
 refine Bg x ?_ (bZ _) (bf _) hs
 unfold Fit
 by_cases h:x.natAbs=0
 ·rw[h,cm];simp
 ·exact hL h
theorem N2 {s:Int} {l:List Int} (hf:Fit l):∃r,aY (oh ⟨s,l⟩) 0=some r∧(match r with | .inl _=>Dg l | .inr x=>x=false∧¬Dg l):=by
 refine cD (I:=fun i s=>s=(i:Int)∧Dg (l.take i)) l.length _ ⟨rfl,by simpa using Dg.nil⟩ (jl hf) ?_
 unfold Fit at hf
 rintro i s hi ⟨rfl,hd⟩
 simp only[oh]
 by_cases hlt:i<l.length
 ·rw[if_pos (by simpa using hlt),bV hlt,ae4]
  by_cases h1:l[i]<0
  ·right
   exact⟨.inr false,by rw[if_pos (by simpa using h1)],rfl,fun hh=>by have:=hh.get hlt;omega⟩
  ·by_cases h2:l[i]>=1048576
   ·right
    exact⟨.inr false,by rw[if_neg (by simpa using h1),if_pos (by simpa using h2)],rfl,fun hh=>by have:=hh.get hlt;omega⟩
   ·left
    refine⟨hlt,_,by rw[if_neg (by simpa using h1),if_neg (by simpa using h2)],by rw[gJ (by omega)];omega,?_⟩
    have e:l.take (i+1)=l.take i++[l[i]]:=by rw[afH];simp[hlt]
    rw[e]
    exact hd.append (Dg.mk (by omega) Dg.nil)
 ·right
  have:i=l.length:=by omega
  subst this
  rw[afA]at hd
  exact⟨.inl (),by rw[if_neg (by simp)],hd⟩
theorem Qs {b:al} (hf:Fit b.aa):du b=some (okB b):=by
 obtain⟨s,l⟩:=b
 simp only[Fit]at hf
 obtain⟨r,h1,h2⟩:=N2 (s:=s) (l:=l) hf
 unfold du okB
 rw[h1,ae4]
 cases r with
 | inr x =>
  obtain⟨rfl,h⟩:=h2
  simp[h]
 | inl u =>
  simp only at h2 ⊢
  simp only[h2,decide_true,aeW]
  by_cases h0:l=[]
  ·subst h0
   by_cases hs0:s=0
   ·subst hs0;simp
   ·have:(s==0)=false:=by simpa using hs0
    simp only[List.length_nil,List.getLast?_nil,this]
    split<;>(try split)<;>simp
  ·have hp:0<l.length:=afn.2 h0
   have e:IntKind.i64.wrap ((l.length:Int)-1)=((l.length-1:Nat):Int):=by rw[gJ (by omega)];omega
   have hl0:((l.length:Int)==0)=false:=by simpa using h0
   rw[e,bV (by omega),af0 h0,List.getLast_eq_getElem,hl0]
   simp only[Option.bind_some,aea,if_false]
   by_cases hs:s < -1
   ·rw[if_pos (by simpa using hs)]
    have h1:(s==1)=false:=by simp;omega
    have h2:(s == -1)=false:=by simp;omega
    simp[h1,h2]
   ·rw[if_neg (by simpa using hs)]
    by_cases hs':s>1
    ·rw[if_pos (by simpa using hs')]
     have h1:(s==1)=false:=by simp;omega
     have h2:(s == -1)=false:=by simp;omega
     simp[h1,h2]
    ·rw[if_neg (by simpa using hs')]
     rcases (show s = -1∨s=0∨s=1 by omega) with rfl|rfl|rfl<;>simp
theorem j0 {x:Int} (h:Ln x<=17592186044416):du (dt x)=some true:=by
 rw[Qs (show Fit (dt x).aa from h),Jr]
theorem xE (l:List Int) (i:Nat):gn l (i:Int)=some (gd l i):=by
 unfold gn
 by_cases h:i<l.length
 ·rw[if_pos (by simpa using h),bV h,ae4,LP h]
 ·rw[if_neg (by simpa using h),GP (by omega)]
theorem OC {a b l0:List Int} {i n:Nat} (ha:Dg a) (hb:Dg b) (hia:i<a.length) (h0:Dg l0) (hn:l0.length=n) (hi:i+b.length<n) (hf:n<=17592186044416) (hz:∀j (hj:j<l0.length),i+b.length<=j->l0[j]=0) :
  ∃l,aY (ou a b (i:Int)) (0,0,l0)=some l∧l.length=n∧Dg l∧(∀j (hj:j<l.length),i+b.length<j->l[j]=0)∧dv l=dv l0+pw i*(a[i]*dv b):=by
 have hx:=ha.get hia
 refine cD (I:=fun k s=>s.2.1=(k:Int)∧s.2.2.length=n∧Dg s.2.2∧(0<=s.1∧s.1<1048576)∧(∀j (hj:j<s.2.2.length),i+b.length<=j->i+k<=j->s.2.2[j]=0)∧(k=b.length+1->s.1=0)∧dv s.2.2+pw (i+k)*s.1=dv l0+pw i*(a[i]*dv (b.take k)))
  (b.length+1) _ ⟨rfl,hn,h0,by simp,fun j hj h _=>hz j hj h,by omega,by simp[dv]⟩ (jl (by omega)) ?_
 rintro k ⟨c,s,l⟩ hk ⟨h1,hl,hd,hc,hz,hend,he⟩
 simp only at h1 hl hd hc hz hend he
 subst h1
 simp only[ou]
 have hT:(if decide ((k:Int)<(b.length:Int))=true then some true else some (decide (c>0)))=some (decide (k<b.length∨c>0)):=by
  by_cases h:k<b.length
  ·rw[if_pos (by simpa using h)];simp[h]
  ·rw[if_neg (by simpa using h)];simp[h]
 rw[hT,ae4]
 by_cases hgo:k<b.length∨c>0
 ·left
  have hkb:k<=b.length:=by
   rcases hgo with h|h
   ·omega
   ·rcases ael b.length k with h'|h'
    ·have:=hend (by omega);omega
    ·exact h'
  have hik:i+k<l.length:=by omega
  have ei:IntKind.i64.wrap ((i:Int)+(k:Int))=((i+k:Nat):Int):=by rw[gJ (by omega)];omega
  have gb:=GO hb k
  have gl:=hd.get hik
  have hm0:0<=a[i]*gd b k:=afQ hx.1 gb.1
  have hm1:a[i]*gd b k<=1048575*1048575:=afR (by omega) (by omega) gb.1 (by omega)
  rw[if_pos (by simpa using hgo),ei,bV hik,ae4,bV hia,ae4,xE,ae4,gJ (x:=a[i]*gd b k) (by omega),gJ (x:=l[i+k]+a[i]*gd b k) (by omega),gJ (x:=l[i+k]+a[i]*gd b k+c) (by omega),aaC (by omega) (by omega),ae4,Yn (by omega) (by omega) (by omega),ae4]
  have e1:IntKind.i64.wrap ((k:Int)+1)=((k+1:Nat):Int):=by rw[gJ (by omega)];omega
  refine⟨by omega,_,rfl,e1,by simpa using hl,hd.set _ (by omega),by simp only;omega,fun j hj hij hij2 =>?_,fun hk1 =>?_,?_⟩
  ·simp only[Int.toNat_natCast]at hj ⊢
   rw[afK (by omega)]
   exact hz j (by simpa using hj) hij (by omega)
  ·have hkl:k=b.length:=by omega
   simp only
   rw[GP (by omega),afU,hz _ hik (by omega) (adA _)]
   omega
  ·simp only[Int.toNat_natCast]
   rw[rL hik,pV]
   have hp:=uo (i+k) (l[i+k]+a[i]*gd b k+c)
   rw[afF (pw (i+k)),afF (pw (i+k))]at hp
   have e2:pw i*(a[i]*(dv (b.take k)+pw k*gd b k))=pw i*(a[i]*dv (b.take k))+pw (i+k)*(a[i]*gd b k):=by
    rw[afF,afF,DR]
    congr 1
    rw[afS a[i],<- afG]
   rw[e2,afL,show i+(k+1)=i+k+1 by omega]
   omega
 ·right
  have hkb:b.length<=k:=by omega
  have hc0:c=0:=by omega
  subst hc0
  refine⟨l,by rw[if_neg (by simpa using hgo)],hl,hd,fun j hj h=>hz j hj (by omega) (by omega),?_⟩
  rw[w8 hkb,afU]at he
  omega
theorem XQ {a b:List Int} (ha:Dg a) (hb:Dg b) (hf:a.length+b.length<=17592186044416):lr a b=some (aG (dv a*dv b).toNat):=by
 have key:∃l,aY (ot a b) (0,List.replicate (a.length+b.length) 0)=some l∧l.length=a.length+b.length∧Dg l∧dv l=dv a*dv b:=by
  refine cD (I:=fun i s=>s.1=(i:Int)∧s.2.length=a.length+b.length∧Dg s.2∧(∀j (hj:j<s.2.length),i+b.length<=j->s.2[j]=0)∧dv s.2=dv (a.take i)*dv b)
   a.length _ ⟨rfl,by simp,Dg.rep _,fun j hj _=>by simp,by simp[dv,y7]⟩ (jl (by omega)) ?_
  rintro i ⟨s,l⟩ hi ⟨h1,hl,hd,hz,he⟩
  simp only at h1 hl hd hz he
  subst h1
  simp only[ot]
  by_cases hlt:i<a.length
  ·left
   obtain⟨m,g1,g2,g3,g4,g5⟩:=OC (i:=i) (n:=a.length+b.length) ha hb hlt hd hl (by omega) hf hz
   rw[if_pos (by simpa using hlt),g1,ae4]
   have e1:IntKind.i64.wrap ((i:Int)+1)=((i+1:Nat):Int):=by rw[gJ (by omega)];omega
   refine⟨hlt,_,rfl,e1,g2,g3,fun j hj hij=>g4 j hj (by omega),?_⟩
   rw[g5,he,fp hlt,afT,afG]
  ·right
   have hia:i=a.length:=by omega
   subst hia
   refine⟨l,by rw[if_neg (by simp)],hl,hd,?_⟩
   rw[he,afA]
 obtain⟨l,h1,h2,h3,h4⟩:=key
 unfold lr
 have e:IntKind.i64.wrap ((a.length:Int)+(b.length:Int))=((a.length+b.length:Nat):Int):=by rw[gJ (by omega)];omega
 rw[e,mk0 hf,ae4,h1,ae4,ns,To (by unfold Fit;omega) h3,h4]
theorem Gn (l:List Int) (i:Nat):dv l=dv (l.take i)+pw i*dv (l.drop i):=by
 by_cases h:i<=l.length
 ·exact iL l h
 ·rw[aeT (by omega),afi (by omega)];simp[dv]
theorem wY (l:List Int) (i:Nat):dv (l.drop i)=gd l i+1048576*dv (l.drop (i+1)):=by
 by_cases h:i<l.length
 ·rw[jO h,LP h]
 ·rw[afi (by omega),afi (by omega),GP (by omega)];simp[dv]
theorem Cp {l:List Int} (h:Dg l) (i:Nat):0<=dv (l.take i)∧dv (l.take i)<pw i:=by
 have h1:=nN (h.take i)
 have h2:=p5 (show (l.take i).length<=i by rw[adT];omega)
 exact⟨cy (h.take i),by omega⟩
theorem V2 {a b:List Int} (ha:Dg a) (hb:Dg b) {k:Nat} (he:dv (a.drop (k+1))=dv (b.drop (k+1))) (hlt:gd a k<gd b k):dv a<dv b:=by
 have ea:=Gn a k
 have eb:=Gn b k
 rw[wY]at ea eb
 have la:=Cp ha k
 have lb:=Cp hb k
 have hp:=mC k
 have:pw k*(gd a k+1048576*dv (a.drop (k+1))+1)<=pw k*(gd b k+1048576*dv (b.drop (k+1))):=afE (by omega) (by omega)
 rw[afF _ _ 1,afD]at this
 omega
theorem ZI {a b:List Int} (ha:Dg a) (hb:Dg b) (hfa:Fit a) (hfb:Fit b):nA a b=some (decide (dv a<dv b)):=by
 unfold Fit at hfa hfb
 generalize hm:max a.length b.length=m
 have em:(if (b.length:Int)>(a.length:Int) then (b.length:Int) else (a.length:Int))=(m:Int):=by split<;>omega
 have key:∃r,aY (qf a b) ((m:Int)-1)=some r∧(match r with | .inl _=>¬dv a<dv b | .inr x=>x=decide (dv a<dv b)):=by
  refine cD (I:=fun i s=>s=((m-i:Nat):Int)-1∧dv (a.drop (m-i))=dv (b.drop (m-i))) m _ ⟨rfl,?_⟩ (jl (by omega)) ?_
  ·rw[afi (by omega),afi (by omega)]
  rintro i s hi ⟨rfl,he⟩
  generalize hk:m-i=k at *
  simp only[qf]
  by_cases h0:0<k
  ·have ek:((k:Int)-1)=((k-1:Nat):Int):=by omega
   rw[ek,if_pos (by simp),xE,ae4,xE,ae4]
   rw[show k=k-1+1 by omega]at he
   by_cases hx:gd a (k-1)=gd b (k-1)
   ·left
    rw[if_neg (by simpa using hx)]
    refine⟨by omega,_,rfl,by rw[gJ (by omega)];omega,?_⟩
    rw[show m-(i+1)=k-1 by omega,wY,wY b,hx,he]
   ·right
    rw[if_pos (by simpa using hx)]
    refine⟨.inr (decide (gd a (k-1)<gd b (k-1))),rfl,?_⟩
    rcases Int.lt_or_gt_of_ne hx with h|h
    ·have:=V2 ha hb he h
     simp[h,this]
    ·have:=V2 hb ha he.symm h
     have h1:¬gd a (k-1)<gd b (k-1):=by omega
     have h2:¬dv a<dv b:=by omega
     simp[h1,h2]
  ·right
   have:k=0:=by omega
   subst this
   refine⟨.inl (),by rw[if_neg (by simp)],?_⟩
   simp only[aeU]at he
   omega
 obtain⟨r,h1,h2⟩:=key
 unfold nA
 rw[em,gJ (x:=(m:Int)-1) (by omega),h1,ae4]
 cases r with
 | inl u=>simp only at h2 ⊢;simp[h2]
 | inr x=>simp only at h2 ⊢;rw[h2]
theorem aay {a b:List Int} (ha:Dg a) (hb:Dg b) (hf:Fit a) (hab:b.length<=a.length) (hle:dv b<=dv a):lq a b=some (aG (dv a-dv b).toNat):=by
 unfold Fit at hf
 have key:∃l,aY (oo a b) (0,0,[])=some l∧l.length=a.length∧Dg l∧dv l=dv a-dv b:=by
  refine cD (I:=fun i s=>s.2.1=(i:Int)∧s.2.2.length=i∧Dg s.2.2∧(0<=s.1∧s.1<=1)∧dv s.2.2+dv (b.take i)=dv (a.take i)+pw i*s.1)
   a.length _ ⟨rfl,rfl,Dg.nil,by simp,by simp[dv]⟩ (jl (by omega)) ?_
  rintro i ⟨c,s,l⟩ hi ⟨h1,hl,hd,hc,he⟩
  simp only at h1 hl hd hc he
  subst h1
  simp only[oo]
  by_cases hlt:i<a.length
  ·left
   have ga:=ha.get hlt
   have gb:=GO hb i
   rw[if_pos (by simpa using hlt),bV hlt,ae4,xE,ae4,gJ (x:=a[i]-gd b i) (by omega),gJ (x:=a[i]-gd b i-c) (by omega)]
   have e1:IntKind.i64.wrap ((i:Int)+1)=((i+1:Nat):Int):=by rw[gJ (by omega)];omega
   by_cases hn:a[i]-gd b i-c<0
   ·rw[if_pos (by simpa using hn),gJ (by omega),xz (by simp;omega),ae4]
    refine⟨hlt,_,rfl,e1,by simp[hl],hd.append (Dg.mk (by omega) Dg.nil),by simp,?_⟩
    simp only
    rw[fI,pV,fp hlt,hl,SP]
    simp only[dv,afU,afY,afD]
    rw[afF,afL,afL]
    omega
   ·rw[if_neg (by simpa using hn),xz (by simp;omega),ae4]
    refine⟨hlt,_,rfl,e1,by simp[hl],hd.append (Dg.mk (by omega) Dg.nil),by simp,?_⟩
    simp only
    rw[fI,pV,fp hlt,hl]
    simp only[dv,afU,afY]
    rw[afL,afL]
    omega
  ·right
   have hia:i=a.length:=by omega
   subst hia
   refine⟨l,by rw[if_neg (by simp)],hl,hd,?_⟩
   rw[w8 hab,afA]at he
   have h1:=nN hd
   rw[hl]at h1
   have hc0:c=0:=by
    rcases (show c=0∨c=1 by omega) with h|h
    ·exact h
    ·subst h;omega
   subst hc0
   omega
 obtain⟨l,h1,h2,h3,h4⟩:=key
 unfold lq
 rw[h1,ae4,ns,To (by unfold Fit;omega) h3,h4]
theorem NT {n R:Nat} (hn:n≠0) (hfn:(aG n).length<=17592186043904) (hfR:(aG R).length<=17592186043906) (hR:R<1048576*n):aY (nC (aG n) (aG R)) (0,1048576)=some ((R / n:Nat):Int):=by
 have key:∃r,aY (nC (aG n) (aG R)) (0,1048576)=some r∧r=((R / n:Nat):Int):=by
  refine pf (I:=fun (s:Int×Int)=>∃lo hi:Nat,s=((lo:Int),(hi:Int))∧lo<hi∧hi<=1048576∧lo*n<=R∧R<hi*n) (μ:=fun (s:Int×Int)=>(s.2-s.1).toNat) _ ⟨0,1048576,rfl,by omega,by omega,by omega,hR⟩ (by simp only;unfold FU;omega) ?_
  rintro _ ⟨lo,hi,rfl,h1,h2,h3,h4⟩
  simp only[nC]
  rw[gJ (x:=(hi:Int)-lo) (by omega)]
  by_cases hgo:(hi:Int)-lo>1
  ·left
   have em:((lo:Int)+hi) / 2=(((lo+hi) / 2:Nat):Int):=by omega
   have hd:Dg [(((lo+hi) / 2:Nat):Int)]:=Dg.mk (by omega) Dg.nil
   have ed:dv (aG n)*dv [(((lo+hi) / 2:Nat):Int)]=((n*((lo+hi) / 2):Nat):Int):=by rw[bf,aey];simp[dv]
   rw[if_pos (by simpa using hgo),gJ (x:=(lo:Int)+hi) (by omega),Yn (by omega) (by omega) (by omega),ae4,em,XQ (bZ n) hd (by simp;omega),ae4,ed,aez]
   have hfl:(aG (n*((lo+hi) / 2))).length<=17592186043905:=by
    have:((n*((lo+hi) / 2):Nat):Int)<pw ((aG n).length+1):=by
     rw[jZ,aey]
     have a1:=fe n
     have:(n:Int)*((lo+hi) / 2:Nat)<=n*1048576:=afE (by omega) (by omega)
     omega
    have:=gw this
    omega
   rw[ZI (bZ R) (bZ _) (by unfold Fit;omega) (by unfold Fit;omega),ae4,bf,bf]
   by_cases hc:R<n*((lo+hi) / 2)
   ·rw[if_pos (decide_eq_true (by omega))]
    refine⟨_,rfl,⟨lo,(lo+hi) / 2,rfl,by omega,by omega,h3,by rw[aex];exact hc⟩,by simp only;omega⟩
   ·rw[if_neg (by rw[decide_eq_true_eq];omega)]
    refine⟨_,rfl,⟨(lo+hi) / 2,hi,rfl,by omega,by omega,by rw[aex];omega,h4⟩,by simp only;omega⟩
  ·right
   refine⟨_,by rw[if_neg (by simpa using hgo)],?_⟩
   have:hi=lo+1:=by omega
   subst this
   congr 1
   have:R / n=lo:=by
    apply Nat.div_eq_of_lt_le
    ·exact h3
    ·exact h4
   exact this.symm
 obtain⟨r,h1,rfl⟩:=key
 exact h1
theorem ZV {m n:Nat} (hn:n≠0) (hfm:(aG m).length<=17592186043904) (hfn:(aG n).length<=17592186043904):nB (aG m) (aG n)=some (aG (m / n),aG (m % n)):=by
 generalize ha:aG m=a at *
 have hda:Dg a:=by rw[<- ha];exact bZ m
 have key:∃r,aY (qg a (aG n)) ([],(a.length:Int)-1,List.replicate a.length 0)=some r∧r.2.length=a.length∧Dg r.2∧∃R:Nat,r.1=aG R∧R<n∧dv a=n*dv r.2+R:=by
  refine cD (I:=fun i s=>s.2.1=((a.length-i:Nat):Int)-1∧s.2.2.length=a.length∧Dg s.2.2∧∃R:Nat,s.1=aG R∧R<n∧dv (a.drop (a.length-i))=n*dv (s.2.2.drop (a.length-i))+R)
   a.length _ ⟨rfl,by simp,Dg.rep _,0,cm.symm,by omega,by simp[dv]⟩ (jl (by omega)) ?_
  rintro i ⟨r,s,l⟩ hi ⟨h1,hl,hg,R,h2,hR,he⟩
  simp only at h1 hl hg h2 he
  subst h1 h2
  generalize hk:a.length-i=k at *
  simp only[qg]
  by_cases h0:0<k
  ·left
   have hk1:k-1<a.length:=by omega
   have hk2:k-1<l.length:=by omega
   have ek:((k:Int)-1)=((k-1:Nat):Int):=by omega
   have ga:=hda.get hk1
   have hRl:=b9 (show R<=n by omega)
   have hdR:Dg ([a[k-1]]++aG R):=(Dg.mk ga Dg.nil).append (bZ R)
   obtain⟨X,hX⟩:∃X:Nat,a[k-1]+1048576*(R:Int)=X:=⟨(a[k-1]+1048576*(R:Int)).toNat,by omega⟩
   have hXn:X<1048576*n:=by omega
   have hXl:(aG X).length<=17592186043906:=by
    have:(X:Int)<pw ((aG n).length+1):=by
     rw[jZ]
     have a1:=fe n
     omega
    have:=gw this
    omega
   rw[ek,if_pos (by simp),bV hk1,ae4,xz (by simp;omega),ae4,Eo (n:=X) (by unfold Fit;simp;omega) hdR (by rw[fI,bf];simp only[dv,List.length_cons,List.length_nil];rw[show pw (0+1)=1048576 by decide];omega),ae4,NT hn hfn hXl hXn,ae4,bV hk2,ae4]
   have hq:X / n<1048576:=Nat.div_lt_of_lt_mul (by rw[aex];exact hXn)
   have hq0:(0:Int)<=((X / n:Nat):Int):=Int.natCast_nonneg _
   rw[Eo (n:=X / n) (by simp[Fit]) (Dg.mk (by omega) Dg.nil) (by simp[dv]),ae4]
   have hql:(aG (X / n)).length<=1:=gw (by rw[jZ,oe];omega)
   have hprod:(dv (aG n)*dv (aG (X / n))).toNat=n*(X / n):=by rw[bf,bf,<- aey];rfl
   rw[XQ (bZ _) (bZ _) (by omega),ae4,hprod]
   have hle:n*(X / n)<=X:=Nat.mul_div_le X n
   rw[aay (bZ _) (bZ _) (by unfold Fit;omega) (b9 hle) (by rw[bf,bf];omega),ae4,bf,bf]
   have hsub:((X:Int)-(n*(X / n):Nat)).toNat=X % n:=by
    have:=af5 X n
    omega
   rw[hsub]
   have e1:IntKind.i64.wrap (((k-1:Nat):Int)-1)=((k-1:Nat):Int)-1:=gJ (by omega)
   refine⟨by omega,_,rfl,by rw[e1,show a.length-(i+1)=k-1 by omega],by simpa using hl,hg.set _ (by omega),X % n,rfl,aet _ (by omega),?_⟩
   simp only[Int.toNat_natCast]
   rw[show a.length-(i+1)=k-1 by omega,jO hk1,jO (l:=l.set (k-1) _) (i:=k-1) (by simpa using hk2),show k-1+1=k by omega,List.getElem_set_self,List.drop_set_of_lt (by omega),he,afF,afF]
   have h3:=af5 X n
   have e3:(n:Int)*(1048576*dv (l.drop k))=1048576*(n*dv (l.drop k)):=afS _ _ _
   rw[e3,<- aey n (X / n)]
   omega
  ·right
   have:k=0:=by omega
   subst this
   refine⟨(aG R,l),by rw[if_neg (by simp)],hl,hg,R,rfl,hR,?_⟩
   simpa using he
 obtain⟨⟨r,l⟩,h1,h2,h3,R,h4,h5,h6⟩:=key
 simp only at h2 h3 h4 h6
 unfold nB
 rw[mk0 (by omega),ae4,gJ (x:=(a.length:Int)-1) (by omega),h1,ae4]
 simp only
 rw[<- ha,bf]at h6
 have hl0:=cy h3
 obtain⟨Q,hQ⟩:∃Q:Nat,dv l=Q:=⟨(dv l).toNat,by omega⟩
 rw[hQ]at h6
 have hm:m=n*Q+R:=by
  have:((m:Nat):Int)=((n*Q+R:Nat):Int):=by rw[Int.natCast_add,aey];exact h6
  omega
 have e1:m / n=Q:=by rw[hm,Nat.mul_add_div (by omega),afX h5,ad9]
 have e2:m % n=R:=by rw[hm,Nat.mul_add_mod,aev h5]
 rw[Eo (n:=Q) (by unfold Fit;omega) h3 hQ,ae4,h4,e1,e2]
theorem TY {a b:Nat} (ha:(aG a).length<=iD) (hb:(aG b).length<=iD):aY pr (aG a,aG b)=some (aG (Nat.gcd a b)):=by
 have hL:iD=17592186043904:=rfl
 have key:∃r,aY pr (aG a,aG b)=some r∧r=aG (Nat.gcd a b):=by
  have la:=Su (fe a)
  have lb:=Su (fe b)
  let val:List Int->Nat:=fun l=>(dv l).toNat
  have hval:∀n,val (aG n)=n:=fun n=>by show (dv (aG n)).toNat=n;rw[bf];rfl
  refine pf (I:=fun (s:List Int×List Int)=>∃x y,s=(aG x,aG y)∧Nat.gcd x y=Nat.gcd a b∧(aG x).length<=iD∧(aG y).length<=iD)
   (μ:=fun (s:List Int×List Int)=>lg (val s.1)+lg (val s.2)+(if val s.1<val s.2 then 1 else 0)) _ ⟨a,b,rfl,rfl,ha,hb⟩ (by simp only[hval];unfold FU;split<;>omega) ?_
  rintro _ ⟨x,y,rfl,hg,hx,hy⟩
  simp only[pr]
  by_cases h0:y=0
  ·right
   subst h0
   refine⟨_,by rw[cm,if_neg (by simp)],?_⟩
   rw[<- hg,af3]
  ·left
   have hne:0<(aG y).length:=afn.2 (fun h=>h0 (qG.1 h))
   rw[if_pos (by simpa using hne),ZV h0 (by omega) (by omega),ae4]
   have hlt:=aet x (af4 h0)
   refine⟨_,rfl,⟨y,x % y,rfl,?_,hy,?_⟩,?_⟩
   ·rw[<- hg,Nat.gcd_comm y,<- Nat.gcd_rec,Nat.gcd_comm]
   ·have:=b9 (Nat.mod_le x y);omega
   ·simp only[hval]
    rw[if_neg (by omega)]
    by_cases hxy:x<y
    ·rw[if_pos hxy,aev hxy];omega
    ·rw[if_neg hxy]
     have:lg (x % y)<lg x:=by
      apply ZK
      have h1:=af5 x y
      have h2:1<=x / y:=(Nat.one_le_div_iff (by omega)).2 (by omega)
      have h3:y*1<=y*(x / y):=Nat.mul_le_mul_left _ h2
      omega
     omega
 obtain⟨r,h1,rfl⟩:=key
 exact h1
theorem aa3 {x y:Int} (hx:Ln x<=iD) (hy:Ln y<=iD):og (dt x) (dt y)=some (dt (Int.gcd x y),0):=by
 have hL:iD=17592186043904:=rfl
 unfold og
 rw[j0 (by omega),ae4]
 simp only[aeV,aea,if_false]
 rw[j0 (by omega),ae4,ae4]
 simp only[aeV,aea,if_false]
 have hxd:(dt x).aa=aG x.natAbs:=rfl
 have hyd:(dt y).aa=aG y.natAbs:=rfl
 rw[hxd,hyd]
 have fx:(aG x.natAbs).length<=17592186043904:=by show Ln x<=_;omega
 have fy:(aG y.natAbs).length<=17592186043904:=by show Ln y<=_;omega
 have fg:(aG (Nat.gcd x.natAbs y.natAbs)).length<=17592186043904:=by
  by_cases h:y.natAbs=0
  ·rw[h,af3];exact fx
  ·have:=b9 (af6 x.natAbs (af4 h));omega
 have hgn:Nat.gcd x.natAbs y.natAbs=((Int.gcd x y:Nat):Int).natAbs:=rfl
 rw[TY (by omega) (by omega),ae4,Df (x:=(Int.gcd x y:Int)) hgn ?_ (fun _=>by omega),ae4]
 intro h
 rw[af1 (by omega)]
theorem aa1 {x y:Int} (hx:Ln x<=dx) (hy:Ln y<=dx) (h0:0<y) (hd:y∣x):mZ (dt x) (dt y)=some (dt (x / y),dt 0,0):=by
 have hL:dx=4398046511104:=rfl
 unfold mZ
 rw[j0 (by omega),ae4]
 simp only[aeV,aea,if_false]
 rw[j0 (by omega),ae4,ae4]
 simp only[aeV,aea,if_false]
 have hxd:(dt x).aa=aG x.natAbs:=rfl
 have hyd:(dt y).aa=aG y.natAbs:=rfl
 have hxs:(dt x).ag=x.sign:=rfl
 have hys:(dt y).ag=1:=af1 h0
 rw[hxd,hyd,hxs,hys]
 have fx:(aG x.natAbs).length<=4398046511104:=by show Ln x<=_;omega
 have fy:(aG y.natAbs).length<=4398046511104:=by show Ln y<=_;omega
 have fq:=b9 (Nat.div_le_self x.natAbs y.natAbs)
 obtain⟨z,rfl⟩:=hd
 have hyz:y*z / y=z:=Int.mul_ediv_cancel_left _ (by omega)
 have hn:(y*z).natAbs=y.natAbs*z.natAbs:=afZ _ _
 have hq:(y*z).natAbs / y.natAbs=z.natAbs:=by rw[hn,Nat.mul_div_cancel_left _ (by omega)]
 have hr:(y*z).natAbs % y.natAbs=0:=by rw[hn,Nat.mul_mod_right]
 have hsg:(y*z).sign=z.sign:=by rw[Int.sign_mul,af1 h0,afV]
 rw[if_neg (by decide),ZV (by omega) (by omega) (by omega),ae4,afD,hsg,gJ (x:=z.sign) (by have:=m5 z;omega),hyz,hq,hr,cm]
 rw[hq]at fq
 have hT:(if decide (z.sign>=0)=true then some true else some ((([]:List Int).length:Int)==0))=some true:=by split<;>rfl
 simp only[hT,Option.bind_some,if_true]
 rw[Df (x:=z) rfl (fun _=>rfl) (fun _=>by omega),ae4]
 have:fO z.sign []=some (dt 0):=Bg 0 (by simp[Fit]) Dg.nil rfl (fun h=>absurd rfl h)
 rw[this,ae4]
theorem aa4 {x:Int} (h:Ln x<=dx):qe (dt x)=some (dt (-x)):=by
 unfold qe
 have hL:dx=4398046511104:=rfl
 rw[j0 (by omega),ae4]
 simp only[aeV,aea,if_false]
 have hf:Fit (dt x).aa:=by unfold Fit;show Ln x<=_;omega
 rw[Bg (-x) hf (bZ _) (by show dv (aG _)=_;rw[bf,Int.natAbs_neg]),ae4]
 intro h0
 show IntKind.i64.wrap (0-x.sign)=_
 rw[gJ (by have:=m5 x;omega),Int.sign_neg,Int.zero_sub]
theorem WM {x:Int} (hx : -9223372036854775808<=x∧x<9223372036854775808):∃l,aY vL (x,[])=some l∧Dg l∧dv l=x.natAbs∧l.length<=5:=by
 refine pf (I:=fun (s:Int×List Int)=>Dg s.2∧dv s.2+pw s.2.length*s.1.natAbs=x.natAbs∧s.2.length<=5∧(s.1=0∨s.2.length<5)) (μ:=fun (s:Int×List Int)=>s.1.natAbs) _ ⟨Dg.nil,by simp[dv,oe],by simp,by simp⟩ (by simp only;unfold FU;omega) ?_
 rintro⟨u,l⟩ ⟨hd,h2,h3,h5⟩
 simp only at hd h2 h3 h5
 have hp:=mC l.length
 have hdl:=cy hd
 have hu:(u.natAbs:Int)<=x.natAbs:=by
  have:1*(u.natAbs:Int)<=pw l.length*u.natAbs:=afW (by omega) (by omega)
  omega
 simp only[vL]
 by_cases h0:u≠0
 ·left
  have hl4:l.length<4:=by
   rcases ael l.length 4 with h|h
   ·exact h
   ·have h4:l.length=4:=by omega
    rw[h4,pw4]at h2
    omega
  have hm:Dl .i64 u 1048576=some (u.tmod 1048576):=by unfold Dl;rw[if_neg (by decide)]
  have hq:y5 .i64 u 1048576=some (u.tdiv 1048576):=by
   unfold y5
   have:(u.tdiv 1048576).natAbs=u.natAbs / 1048576:=Int.natAbs_tdiv u 1048576
   rw[if_neg (by decide),gJ (by omega)]
  have ha:(u.tmod 1048576).natAbs=u.natAbs % 1048576:=Int.natAbs_tmod u 1048576
  have hb:(u.tdiv 1048576).natAbs=u.natAbs / 1048576:=Int.natAbs_tdiv u 1048576
  have hpd:=uo l.length (u.natAbs:Int)
  rw[if_pos (by simpa using h0),hm,ae4]
  have fin:∀d:Int,d=((u.natAbs % 1048576:Nat):Int)->(Dg (l++[d])∧dv (l++[d])+pw (l++[d]).length*((u.tdiv 1048576).natAbs:Int)=x.natAbs∧(l++[d]).length<=5∧(u.tdiv 1048576=0∨(l++[d]).length<5))∧(u.tdiv 1048576).natAbs<u.natAbs:=by
   rintro d rfl
   refine⟨⟨hd.append (Dg.mk (by omega) Dg.nil),?_,by simp;omega,by right;simp;omega⟩,by omega⟩
   rw[hb]
   simp only[fI,dv,aeC,List.length_cons,List.length_nil,afU,afY,aen]
   rw[Int.natCast_emod,Int.natCast_ediv]
   have:((1048576:Nat):Int)=1048576:=rfl
   rw[this]
   omega
  by_cases hneg:u.tmod 1048576<0
  ·rw[if_pos (by simpa using hneg),gJ (x:=0-u.tmod 1048576) (by omega),xz (by simp;omega),ae4,hq,ae4]
   have:=fin (0-u.tmod 1048576) (by omega)
   exact⟨_,rfl,this.1,this.2⟩
  ·rw[if_neg (by simpa using hneg),xz (by simp;omega),ae4,hq,ae4]
   have:=fin (u.tmod 1048576) (by omega)
   exact⟨_,rfl,this.1,this.2⟩
 ·right
  have:u=0:=by omega
  subst this
  refine⟨l,by rw[if_neg (by simp)],hd,?_,h3⟩
  simp at h2
  omega
theorem Of4 {x:Int} (h : -9223372036854775808<=x∧x<9223372036854775808):sB x=some (dt x):=by
 unfold sB
 by_cases h0:x=0
 ·subst h0;rw[Dj];rfl
 ·have hT:(if decide (x<0)=true then some (-1:Int) else some 1)=some x.sign:=by
   rcases er x with⟨a,b,c⟩|⟨a,b,c⟩|⟨a,b⟩
   ·rw[if_neg (by simp;omega),a]
   ·rw[if_pos (by simp;omega),a]
   ·exact absurd b h0
  obtain⟨l,h1,h2,h3,h4⟩:=WM h
  rw[if_neg (by simpa using h0),hT,ae4,h1,ae4,ns,Bg x (by unfold Fit;omega) h2 h3 (fun _=>rfl)]
instance:DecidableEq al:=fun a b=>decidable_of_iff (a.ag=b.ag∧a.aa=b.aa) (by cases a;cases b;simp)
instance:DecidableEq ak:=fun a b=>decidable_of_iff (a.aH=b.aH∧a.aK=b.aK) (by cases a;cases b;simp)
theorem UC {b c:al} (hf:Fit b.aa) (hl:b.aa.length=c.aa.length):∃r,aY (l4 b c) 0=some r∧(match r with | .inl _=>b.aa=c.aa | .inr x=>x=false∧b.aa≠c.aa):=by
 refine cD (I:=fun i s=>s=(i:Int)∧b.aa.take i=c.aa.take i) b.aa.length _ ⟨rfl,by simp⟩ (jl hf) ?_
 unfold Fit at hf
 rintro i s hi ⟨rfl,he⟩
 simp only[l4]
 by_cases hlt:i<b.aa.length
 ·rw[if_pos (by simpa using hlt),bV hlt,ae4,bV (by omega),ae4]
  by_cases hx:b.aa[i]=c.aa[i]
  ·left
   rw[if_neg (by simpa using hx)]
   refine⟨hlt,_,rfl,by rw[gJ (by omega)];omega,?_⟩
   rw[afH,afH,he]
   simp[hlt,show i<c.aa.length by omega,hx]
  ·right
   rw[if_pos (by simpa using hx)]
   refine⟨.inr false,rfl,rfl,fun h=>hx ?_⟩
   simp[h]
 ·right
  have:i=b.aa.length:=by omega
  subst this
  refine⟨.inl (),by rw[if_neg (by simp)],?_⟩
  rw[afA,aeT (by omega)]at he
  exact he
theorem JH {b c:al} (hf:Fit b.aa):iA b c=some (decide (b=c)):=by
 have hiff:b=c↔b.ag=c.ag∧b.aa=c.aa:=by cases b;cases c;simp
 unfold iA
 by_cases h1:b.ag=c.ag
 ·rw[if_neg (by simpa using h1),ae4]
  by_cases h2:b.aa.length=c.aa.length
  ·rw[if_neg (by simp;omega)]
   obtain⟨r,h3,h4⟩:=UC hf h2
   rw[h3,ae4]
   cases r with
   | inl u=>simp only at h4 ⊢;simp[hiff,h1,h4]
   | inr x=>simp only at h4 ⊢;simp[hiff,h1,h4.1,h4.2]
  ·rw[if_pos (by simp;omega)]
   have:b≠c:=fun h=>h2 (by rw[h])
   simp[this]
 ·rw[if_pos (by simpa using h1),ae4,if_pos rfl]
  have:b≠c:=fun h=>h1 (by rw[h])
  simp[this]
theorem abF {b c:al} (hf:Fit b.aa):qS b c=some (decide (b=c)):=JH hf
theorem abG {f g:ak} (hp:Fit f.aH.aa) (hq:Fit f.aK.aa):pt f g=some (decide (f=g)):=by
 have hiff:f=g↔f.aH=g.aH∧f.aK=g.aK:=by cases f;cases g;simp
 unfold pt
 rw[JH hp,ae4]
 by_cases h:f.aH=g.aH
 ·rw[if_pos (by simpa using h),JH hq,ae4];simp[hiff,h]
 ·rw[if_neg (by simpa using h)];simp[hiff,h]
theorem UR {x y:Int} (hx:Ln x<=iD) (hy:Ln y<=iD):jD (dt x) (dt y)=some (ij x y):=by
 have hL:iD=17592186043904:=rfl
 unfold jD
 rw[j0 (by omega),ae4]
 simp only[aeV,aea,if_false]
 rw[j0 (by omega),ae4]
 simp only[aeV,aea,if_false]
 have fx:(aG x.natAbs).length<=17592186043904:=by show Ln x<=_;omega
 have fy:(aG y.natAbs).length<=17592186043904:=by show Ln y<=_;omega
 rw[abF (by unfold Fit;show Ln x<=_;omega),ae4,ae4]
 have hxd:(dt x).aa=aG x.natAbs:=rfl
 have hyd:(dt y).aa=aG y.natAbs:=rfl
 have hxs:(dt x).ag=x.sign:=rfl
 have hys:(dt y).ag=y.sign:=rfl
 by_cases he:x=y
 ·subst he
  rw[if_pos (by simp)]
  simp[ij]
 ·rw[if_neg (by simp only[decide_eq_true_eq];exact fun h=>he (Jn h)),hxd,hyd,hxs,hys]
  by_cases h:x.sign=y.sign
  ·rw[if_neg (by simpa using h),ZI (bZ _) (bZ _) (by unfold Fit;omega) (by unfold Fit;omega),ae4,bf,bf]
   have hc:ij x y=if x<y then -1 else 1:=by
    unfold ij
    split
    ·rfl
    ·rw[if_pos (by omega)]
   rcases er x with⟨a,b,c⟩|⟨a,b,c⟩|⟨a,b⟩<;>rcases er y with⟨a',b',c'⟩|⟨a',b',c'⟩|⟨a',b'⟩<;>(try (rw[a,a']at h;exact absurd h (by decide)))
   ·rw[a,hc]
    by_cases hlt:x<y
    ·have h1:(x.natAbs:Int)<y.natAbs:=by omega
     rw[if_pos hlt,decide_eq_true h1];rfl
    ·have h1:¬(x.natAbs:Int)<y.natAbs:=by omega
     rw[if_neg hlt,decide_eq_false h1];rfl
   ·rw[a,hc]
    by_cases hlt:x<y
    ·have h1:¬(x.natAbs:Int)<y.natAbs:=by omega
     rw[if_pos hlt,decide_eq_false h1];rfl
    ·have h1:(x.natAbs:Int)<y.natAbs:=by omega
     rw[if_neg hlt,decide_eq_true h1];rfl
   ·exact absurd (b.trans b'.symm) he
  ·rw[if_pos (by simpa using h)]
   unfold ij
   rcases er x with⟨a,b,c⟩|⟨a,b,c⟩|⟨a,b⟩<;>rcases er y with⟨a',b',c'⟩|⟨a',b',c'⟩|⟨a',b'⟩<;>(try (exact absurd (a.trans a'.symm) h))<;>rw[a,a']<;>(try rw[if_pos (show x<y by omega)])<;>(try rw[if_neg (show ¬x<y by omega),if_pos (show y<x by omega)])<;>rfl
theorem Z9 {f:ak} (hf:Iw f):mG f=some (okF f):=by
 have hL:iD=17592186043904:=rfl
 obtain⟨p,q⟩:=f
 simp only[Iw]at hf
 unfold mG okF
 rw[Qs (show Fit p.aa by unfold Fit;omega),ae4]
 by_cases h1:okB p=true
 ·simp only[h1,aeV,aea,if_false,aeW]
  rw[Qs (show Fit q.aa by unfold Fit;omega),ae4]
  by_cases h2:okB q=true
  ·simp only[h2,aeV,aea,if_false,aeW,Option.bind_some]
   obtain⟨x,rfl⟩:=sr.1 h1
   obtain⟨y,rfl⟩:=sr.1 h2
   have hys:(dt y).ag=y.sign:=rfl
   by_cases h3:y.sign=1
   ·rw[if_neg (by rw[hys,h3];decide),aa3 hf.1 hf.2,ae4,Of4 (by decide),ae4]
    have h5:(dv (dt x).aa).toNat=x.natAbs:=by show (dv (aG _)).toNat=_;rw[bf];rfl
    have h6:(dv (dt y).aa).toNat=y.natAbs:=by show (dv (aG _)).toNat=_;rw[bf];rfl
    have hy:0<y.natAbs:=by rcases er y with⟨a,b,c⟩|⟨a,b,c⟩|⟨a,b⟩<;>omega
    have hgl:Ln (Int.gcd x y:Int)<=iD:=by
     have:=b9 (af6 x.natAbs hy)
     have h7:(aG y.natAbs).length<=iD:=hf.2
     show (aG (Nat.gcd x.natAbs y.natAbs)).length<=_
     omega
    simp only
    rw[UR hgl (adC (Bx (by decide)) (by decide)),ae4,h5,h6,hys,h3]
    have hg:Nat.gcd x.natAbs y.natAbs=Int.gcd x y:=rfl
    congr 1
    unfold ij
    by_cases h:Int.gcd x y=1
    ·rw[decide_eq_true (hg.trans h),h];rfl
    ·have h1:¬((Int.gcd x y:Nat):Int)=1:=by omega
     rw[decide_eq_false (fun h'=>h (hg.symm.trans h'))]
     split
     ·rfl
     ·rw[if_pos (by omega)];rfl
   ·have h4:((dt y).ag==1)=false:=by rw[hys];simpa using h3
    rw[if_pos (by rw[hys];have:=m5 y;simp;omega),h4]
    rfl
  ·simp only[h2,afy,if_true,Option.bind_some,afx]
 ·simp only[h1,afy,if_true,Option.bind_some,afx]
theorem acE {p q:Int} (hp:Ln p<=dx) (hq:Ln q<=dx) (h0:q≠0):sC (dt p) (dt q)=some (bR (Rat.divInt p q),0):=by
 have hL:dx=4398046511104:=rfl
 have main:∀ {p q:Int},Ln p<=dx->Ln q<=dx->0<q ->
   ((og (dt p) (dt q)).bind fun r6=>(mZ (dt p) r6.1).bind fun r7=>(mZ (dt q) r6.1).bind fun r8=>some ((ak.mk r7.1 r8.1),(0:Int)))=some (bR (Rat.divInt p q),0):=by
  intro p q hp hq h0
  have hg:0<Int.gcd p q:=Int.gcd_pos_of_ne_zero_right _ (by omega)
  have hgl:Ln (Int.gcd p q:Int)<=dx:=by
   have:=b9 (af6 p.natAbs (show 0<q.natAbs by omega))
   show (aG (Nat.gcd p.natAbs q.natAbs)).length<=_
   have h7:(aG q.natAbs).length<=dx:=hq
   omega
  rw[aa3 (qB hp) (qB hq),ae4]
  simp only
  rw[aa1 hp hgl (by omega) (Int.gcd_dvd_left ..),ae4,aa1 hq hgl (by omega) (Int.gcd_dvd_right ..),ae4]
  have hd:((q.natAbs / Int.gcd p q:Nat):Int)=q / (Int.gcd p q:Int):=by
   rw[Int.natCast_ediv]
   congr 1
   omega
  unfold bR
  rw[Rat.num_divInt,Rat.den_divInt,if_neg (by omega),af1 h0,afV,Int.gcd_comm q p,hd]
 unfold sC
 rw[j0 (by omega),ae4]
 simp only[aeV,aea,if_false]
 rw[j0 (by omega),ae4,ae4]
 simp only[aeV,aea,if_false]
 have hqs:(dt q).ag=q.sign:=rfl
 rw[hqs]
 rcases er q with⟨a,b,c⟩|⟨a,b,c⟩|⟨a,b⟩
 ·rw[if_neg (by rw[a];decide),if_neg (by rw[a];decide),ae4]
  exact main hp hq c
 ·rw[if_neg (by rw[a];decide),if_pos (by rw[a];decide),aa4 hp,ae4,aa4 hq,ae4,ae4]
  have:=main (p := -p) (q := -q) (by rw[Bw];exact hp) (by rw[Bw];exact hq) (by omega)
  rw[Rat.neg_divInt_neg]at this
  exact this
 ·exact absurd b h0
theorem U0 {x:Int} (h : -9223372036854775808<=x∧x<9223372036854775808):Ln x<=dx:=by
 have:Ln x<=4:=Q9 (by rw[pw4];omega)
 have hL:dx=4398046511104:=rfl
 omega
theorem Of5 {p q:Int} (hp : -9223372036854775808<=p∧p<9223372036854775808) (hq : -9223372036854775808<=q∧q<9223372036854775808) (h0:q≠0):uw p q=some (bR (Rat.divInt p q),0):=by
 unfold uw
 rw[Of4 hp,ae4,Of4 hq,ae4,acE (U0 hp) (U0 hq) h0,ae4]
theorem acC {n:Int} (h : -9223372036854775808<=n∧n<9223372036854775808):ov n=some (bR n):=by
 unfold ov
 rw[Of5 h (by decide) (by decide),ae4]
 simp only
 congr 2
 have:=Rat.num_divInt_den (n:Rat)
 rw[Rat.num_intCast,Rat.den_intCast]at this
 exact this
theorem abg (f:ak) (n:Int):qh f n=some (decide ((f.aH.aa.length:Int)<=n∧(f.aK.aa.length:Int)<=n)):=by
 unfold qh
 by_cases h:(f.aH.aa.length:Int)<=n
 ·rw[if_pos (by simpa using h)];simp[h]
 ·rw[if_neg (by simpa using h)];simp[h]
theorem Wu {σ ρ:Type} {body:σ->Option (σ⊕ρ)} {n:Nat} {s s':σ} (h:body s=some (.inl s')):nP body (n+1) s=nP body n s':=by simp only[nP,h]
theorem Mq {σ ρ:Type} {body:σ->Option (σ⊕ρ)} {n:Nat} {s:σ} {r:ρ} (h:body s=some (.inr r)):nP body (n+1) s=some r:=by simp only[nP,h]
theorem cp {i:Nat} (h:i<4611686018427387904):IntKind.i64.wrap ((i:Int)+1)=((i+1:Nat):Int):=by rw[wrap64 (by omega) (by omega)];omega
theorem bO {α:Type} {l:List α} {i:Nat} {x:α} (h:l[i]? = some x):P.idx l (i:Int)=some x:=Mk (by omega) (by simpa using h)
theorem b7 {α:Type} {l:List α} {i:Nat} {x:α} (h:l[i]? = some x):i<l.length:=(ad3.1 h).1
theorem drop_cons {α:Type} {l rest:List α} {i:Nat} {x:α} (h:l.drop i=x::rest):i<l.length∧l[i]? = some x∧l.drop (i+1)=rest:=by
 have hi:i<l.length:=by
  rcases ael i l.length with h1|h1
  ·exact h1
  ·rw[afi h1]at h;cases h
 rw[afu hi]at h
 simp only[adY]at h
 exact⟨hi,by rw[adN hi,h.1],h.2⟩
def jd {α ρ:Type} (st:Nat->α->Option ρ):Nat->List α->Option ρ
 | _,[]=>none
 | i,x::l=>match st i x with|some r=>some r|none=>jd st (i+1) l
theorem fC {α ρ:Type} {st:Nat->α->Option ρ} : ∀ {l:List α} {i:Nat},jd st i l=none↔∀(j:Nat) x,l[j]? = some x->st (i+j) x=none
 | [],i=>by simp[jd]
 | x::l,i=>by
  simp only[jd]
  constructor
  ·intro h j y hj
   cases hs:st i x with
   | some r=>rw[hs]at h;cases h
   | none =>
    rw[hs]at h
    cases j with
    | zero=>simp only[List.getElem?_cons_zero,adJ]at hj;subst hj;exact hs
    | succ j =>
     have:=fC.1 h j y (by simpa using hj)
     rw[<- this];congr 1;omega
  ·intro h
   have h0:=h 0 x rfl
   simp only[Nat.add_zero]at h0
   rw[h0]
   refine fC.2 fun j y hj =>?_
   have:=h (j+1) y (by simpa using hj)
   rw[<- this];congr 1;omega
theorem gx {α ρ:Type} {st:Nat->α->Option ρ} {r:ρ} : ∀ {l:List α} {i:Nat},jd st i l=some r->∃(j:Nat) (x:α),l[j]? = some x∧st (i+j) x=some r∧∀(k:Nat) y,k<j->l[k]? = some y->st (i+k) y=none
 | [],i,h=>by cases h
 | x::l,i,h=>by
  simp only[jd]at h
  cases hs:st i x with
  | some r' =>
   rw[hs]at h
   exact⟨0,x,rfl,by rw[ad9,hs];exact h,fun k y hk=>by omega⟩
  | none =>
   rw[hs]at h
   obtain⟨j,y,h1,h2,h3⟩:=gx h
   refine⟨j+1,y,by simpa using h1,by rw[<- h2];congr 1;omega,fun k z hk hz =>?_⟩
   cases k with
   | zero=>simp only[List.getElem?_cons_zero,adJ]at hz;subst hz;exact hs
   | succ k =>
    have:=h3 k z (by omega) (by simpa using hz)
    rw[<- this];congr 1;omega
theorem AH {α ρ:Type} (l:List α) {body:Int->Option (Int⊕(Unit⊕ρ))} (st:Nat->α->Option ρ) (hlen:l.length<4611686018427387904)
  (hb:∀(i:Nat) x,l[i]? = some x->body (i:Int)=some (match st i x with|none =>.inl ((i+1:Nat):Int)|some r =>.inr (.inr r))) (he:body (l.length:Int)=some (.inr (.inl ()))) :
  aY body 0=some (match jd st 0 l with|none =>.inl ()|some r =>.inr r):=by
 have key:∀(rest:List α) (i fuel:Nat),i<=l.length->l.drop i=rest->rest.length<fuel->nP body fuel (i:Int)=some (match jd st i rest with|none =>.inl ()|some r =>.inr r):=by
  intro rest
  induction rest with
  | nil =>
   intro i fuel hi hd hf
   obtain⟨f,rfl⟩:∃f,fuel=f+1:=⟨fuel-1,by simp at hf;omega⟩
   have hle:l.length<=i:=by
    have:=congrArg List.length hd
    simp at this
    omega
   have:i=l.length:=by omega
   subst this
   rw[Mq he]
   rfl
  | cons x rest ih =>
   intro i fuel hi hd hf
   obtain⟨f,rfl⟩:∃f,fuel=f+1:=⟨fuel-1,by simp at hf;omega⟩
   obtain⟨h1,h2,h3⟩:=drop_cons hd
   have:=hb i x h2
   cases hs:st i x with
   | some r =>
    rw[hs]at this
    rw[Mq this]
    simp only[jd,hs]
   | none =>
    rw[hs]at this
    rw[Wu this,ih (i+1) f h1 h3 (by simp at hf;omega)]
    simp only[jd,hs]
 exact key l 0 FU (adB _) rfl (by have:FU=1000000000000000000000000:=rfl;omega)
theorem xV {α σ ρ:Type} {body:Int×σ->Option ((Int×σ)⊕ρ)} (l:List α) (hl:l.length<=17592186044416) (inv:Nat->σ->Prop) (Q:ρ->Prop) {s0:σ} (h0:inv 0 s0)
  (hstep:∀(i:Nat) x s,l[i]? = some x->inv i s->∃s',body ((i:Int),s)=some (.inl (((i+1:Nat):Int),s'))∧inv (i+1) s')
  (hend:∀s,inv l.length s->∃r,body ((l.length:Int),s)=some (.inr r)∧Q r):∃r,aY body ((0:Int),s0)=some r∧Q r:=by
 refine cD (fun i s=>s.1=(i:Int)∧inv i s.2) l.length Q ⟨rfl,h0⟩ (jl hl) ?_
 rintro i ⟨k,s⟩ hi ⟨rfl,hI⟩
 rcases ael i l.length with h|h
 ·obtain⟨s',h1,h2⟩:=hstep i _ s (adN h) hI
  exact .inl ⟨h,_,h1,rfl,h2⟩
 ·have:i=l.length:=by omega
  subst this
  exact .inr (hend s hI)
theorem b8 {α:Type} {N j:Nat} (f:Nat->α) (h:j<N):((List.range N).map f)[j]? = some (f j):=by simp[h]
theorem zn {α:Type} {N:Nat} (f:Nat->α):((List.range N).map f).length=N:=by simp
theorem gL {α:Type} {l:List α} {N:Nat} {f:Nat->α} (hl:l.length=N) (h:∀j,j<N->l[j]? = some (f j)):l=(List.range N).map f:=by
 apply afB
 intro j
 by_cases hj:j<N
 ·rw[h j hj,b8 f hj]
 ·rw[ae6 (by omega),ae6 (by simp;omega)]
theorem ie {α:Type} {N i:Nat} (f:Nat->α) (v:α):((List.range N).map f).set i v=(List.range N).map fun j=>if j=i then v else f j:=by
 refine gL (by simp) fun j hj =>?_
 rw[List.getElem?_set]
 by_cases h:i=j
 ·subst h
  rw[if_pos rfl,if_pos (by simpa using hj)]
  simp
 ·rw[if_neg h,b8 f hj,if_neg (fun e=>h e.symm)]
theorem xb {α β:Type} {mk:β->α} {R:β->Prop} : ∀ {l:List α},(∀x∈l,∃y,x=mk y∧R y)->∃ys:List β,l=ys.map mk∧∀y∈ys,R y
 | [],_=>⟨[],rfl,fun _ h=>by cases h⟩
 | x::l,h=>by
  obtain⟨y,h1,h2⟩:=h x (ae0 ..)
  obtain⟨ys,h3,h4⟩:=xb (l:=l) fun z hz=>h z (ae1 _ hz)
  refine⟨y::ys,by rw[adG,<- h1,<- h3],fun z hz =>?_⟩
  rcases adH.1 hz with rfl|hz
  ·exact h2
  ·exact h4 z hz
theorem JA {α:Type} {R:α->α->Prop} (ht:∀a b c,R a b->R b c->R a c) {l:List α} (h:∀(i:Nat) a b,l[i]? = some a->l[i+1]? = some b->R a b):l.Pairwise R:=by
 rw[List.pairwise_iff_getElem]
 intro i j hi hj hij
 obtain⟨d,rfl⟩:∃d,j=i+1+d:=⟨j-(i+1),by omega⟩
 clear hij
 induction d with
 | zero=>exact h i _ _ (adN hi) (adN hj)
 | succ d ih=>exact ht _ _ _ (ih (by omega)) (h (i+1+d) _ _ (adN (by omega)) (adN hj))
abbrev Tk:=Nat×Nat×Rat
def tn (t:Tk):dy:=dy.mk (t.1:Int) (t.2.1:Int) (bR t.2.2)
def kP (N:Nat) (tk:List Tk):bY:=bY.mk (N:Int) (tk.map tn)
theorem YJ {a b:Tk} (h:tn a=tn b):a=b:=by
 unfold tn at h
 injection h with h1 h2 h3
 exact Prod.ext (by omega) (Prod.ext (by omega) (Sz h3))
theorem YI {N M:Nat} {a b:List Tk} (h:kP N a=kP M b):N=M∧a=b:=by
 unfold kP at h
 injection h with h1 h2
 refine⟨by omega,?_⟩
 exact List.map_inj_right (f:=tn) (fun x y h=>YJ h) |>.1 h2
def nK:List Tk->Nat->Rat
 | [],_=>0
 | t::l,p=>(if t.1=p then t.2.2 else 0)+nK l p
theorem NS (a b:List Tk) (p:Nat):nK (a++b) p=nK a p+nK b p:=by
 induction a with
 | nil=>rw[aff,nK,aga]
 | cons t a ih=>rw[afp,nK,nK,ih];grind
def dE (tk:List Tk) (p:Nat):Rat:=1-nK tk p
theorem C6 {tk:List Tk} {i:Nat} {t:Tk} (h:tk[i]? = some t) (p:Nat):dE (tk.take (i+1)) p=dE (tk.take i) p-(if t.1=p then t.2.2 else 0):=by
 obtain⟨hi,he⟩:=ad3.1 h
 unfold dE
 rw[agb hi,NS,he]
 simp only[nK]
 grind
theorem Iz {tk:List Tk} {K:Nat} (hs:∀t∈tk,LF t.2.2<=K) (p:Nat):∀i,i<=tk.length->LF (dE (tk.take i) p)<=1+i*(K+1)
 | 0,_=>by
  have:dE (tk.take 0) p=((1:Int):Rat):=by unfold dE;rw[afv,nK];grind
  rw[this]
  exact adC (OQ (n:=1) (by decide)) (by omega)
 | i+1,h=>by
  have ih:=Iz hs p i (by omega)
  have hg:tk[i]? = some tk[i]:=adN (by omega)
  rw[C6 hg]
  have hk:=hs _ (adM (show i<tk.length by omega))
  rw[aew]
  split
  ·have:=OS (dE (tk.take i) p) tk[i].2.2
   omega
  ·rw[show ∀x:Rat,x-0=x by intro x;grind]
   omega
theorem J5 {tk:List Tk} {K:Nat} (hs:∀t∈tk,LF t.2.2<=K) (p:Nat):LF (dE tk p)<=1+tk.length*(K+1):=by
 have:=Iz hs p tk.length (adA _)
 rwa [afA]at this
theorem G7 {α:Type} {N B:Nat} (z:α) (h:N*B<=140737488355328) (h2:N<=2000):EC B (N:Int) (N:Int) z=some (List.replicate N z):=by
 unfold EC
 have:(2000:Nat)<=maxLen:=by decide
 rw[if_pos ⟨by omega,by omega,by omega,by simpa using h⟩]
 simp
theorem aat:g9 1=some (bR 1):=Y6 (n:=1) (by decide)
theorem ME {N K:Nat} {tk:List Tk} (hN:N<=2000) (hlen:tk.length<=8000) (hf:∀t∈tk,t.1<N) (hK:K<=1000000) (hs:∀t∈tk,LF t.2.2<=K) :
  ll (kP N tk)=some ((List.range N).map fun p=>bR (dE tk p)):=by
 unfold ll kP
 simp only
 rw[G7 _ (by omega) hN,ae4]
 have h1:∃r,aY (lT (List.replicate N (ak.mk (al.mk 0 []) (al.mk 0 [])))) ((0:Int),List.replicate N (ak.mk (al.mk 0 []) (al.mk 0 [])))=some r∧r=(List.range N).map fun p=>bR (dE (tk.take 0) p):=by
  refine xV (List.replicate N (ak.mk (al.mk 0 []) (al.mk 0 []))) (by simp;omega) (fun i l=>l.length=N∧∀j,j<i->l[j]? = some (bR 1)) _ ⟨by simp,fun j hj=>by omega⟩ ?_ ?_
  ·rintro i x l hx ⟨hl,hI⟩
   have hi:i<N:=by have:=b7 hx;simpa using this
   have hg:l[i]? = some l[i]:=adN (by omega)
   refine⟨l.set i (bR 1),?_,by simpa using hl,fun j hj =>?_⟩
   ·simp only[lT]
    rw[if_pos (by simp;omega),aat,ae4,bO hg,ae4,cp (by omega),aez]
   ·rw[List.getElem?_set]
    by_cases h:i=j
    ·rw[if_pos h,if_pos (by omega)]
    ·rw[if_neg h];exact hI j (by omega)
  ·rintro l ⟨hl,hI⟩
   refine⟨l,?_,?_⟩
   ·simp only[lT];rw[if_neg (by simp)]
   ·rw[List.length_replicate]at hI
    refine gL hl fun j hj =>?_
    rw[hI j hj,afv]
    congr 2
    unfold dE nK;grind
 obtain⟨r,h1,rfl⟩:=h1
 rw[h1,ae4]
 have h2:∃r,aY (lU (bY.mk (N:Int) (tk.map tn))) ((0:Int),(List.range N).map fun p=>bR (dE (tk.take 0) p))=some r∧r=(List.range N).map fun p=>bR (dE tk p):=by
  refine xV tk (by omega) (fun i l=>l=(List.range N).map fun p=>bR (dE (tk.take i) p)) _ rfl ?_ ?_
  ·rintro i t _ ht rfl
   have hi:=b7 ht
   have hm:=ad2 ht
   have hfr:=hf t hm
   have hg:(tk.map tn)[i]? = some (tn t):=by rw[adx,ht];rfl
   refine⟨_,?_,rfl⟩
   simp only[lU]
   have hLF:=Iz hs t.1 i (by omega)
   have hkt:=hs t hm
   have hmul:i*(K+1)<=8000*1000001:=agc (by omega) (by omega)
   rw[if_pos (by simp;omega),bO hg,ae4]
   simp only[tn]
   rw[bO (b8 _ hfr),ae4,Zk (by unfold dx;omega),ae4,cp (by omega),aez,ie]
   congr 3
   refine congrArg (fun f=>(List.range N).map f) (funext fun p =>?_)
   rw[C6 ht]
   by_cases h:p=t.1
   ·subst h;rw[if_pos rfl,if_pos rfl]
   ·rw[if_neg h,if_neg (fun e=>h e.symm)]
    congr 1;grind
  ·rintro _ rfl
   refine⟨_,?_,rfl⟩
   simp only[lU]
   rw[if_neg (by simp),afA]
 obtain⟨r,h2,rfl⟩:=h2
 rw[h2,ae4]
def X8 (a b:Tk):Prop:=a.1<b.1∨(a.1=b.1∧a.2.1<b.2.1)
theorem T9 (a b c:Tk) (h:X8 a b) (k:X8 b c):X8 a c:=by unfold X8 at *;omega
structure jb (N:Nat) (tk:List Tk):Prop where
 ports:N<=2000
 takes:tk.length<=8000
 ok:∀t∈tk,t.1<N∧t.2.1<N∧0<t.2.2
 sorted:tk.Pairwise X8
 leak:∀p,p<N->0<=dE tk p
theorem zA (a b c:Int):gM a b c=some (decide (b<=a∧a<=c)):=by
 unfold gM
 by_cases h1:a>=b<;>by_cases h2:a<=c<;>simp[h1,h2]
theorem TF (a b:dy):∃c,kQ a b=some c∧(c<0↔(a.cR<b.cR∨(a.cR=b.cR∧a.kM<b.kM))):=by
 unfold kQ
 rw[y4,ae4,y4,ae4,Zf,ae4]
 refine⟨_,rfl,?_⟩
 unfold ij
 split<;>split<;>(try split)<;>(try split)<;>simp at *<;>omega
theorem Bk {q:Rat} : q.num.sign<0↔q<0:=by
 rw[Int.sign_neg_iff,<- Rat.not_le,<- Rat.num_nonneg]
 omega
theorem Of {q:Rat} : q.num.sign=0↔q=0:=by
 rw[Int.sign_eq_zero_iff_zero,Rat.num_eq_zero]
theorem Bl {q:Rat} : 0<q.num.sign↔0<q:=by
 constructor
 ·intro h
  have h1:¬q<0:=fun h'=>by have:=Bk.2 h';omega
  have h2:q≠0:=fun h'=>by have:=Of.2 h';omega
  grind
 ·intro h
  have h1:¬q.num.sign<0:=fun h'=>by have:=Bk.1 h';grind
  have h2:q.num.sign≠0:=fun h'=>by have:=Of.1 h';grind
  omega
theorem Ba {q:Rat} {k:Nat} (h1:(bR q).aH.aa.length<=k) (h2:(bR q).aK.aa.length<=k):LF q<=k:=by
 unfold LF Ln
 exact Nat.max_le.2 ⟨h1,h2⟩
theorem IH {q:Rat} {k:Nat} (h:LF q<=k):(bR q).aH.aa.length<=k∧(bR q).aK.aa.length<=k:=by
 unfold LF Ln at h
 exact Nat.max_le.1 h
theorem B9 {l:List Rat} (hl:l.length<=17592186044416) (hs:∀q∈l,LF q<=dx):bz (l.map bR)=some (decide (∃q∈l,q<0)):=by
 unfold bz cf
 rw[AH l (fun i q=>if q<0 then some (i:Int) else none) (by omega) (fun i q hq =>?_) (by simp only[db];rw[if_neg (by simp)])]
 ·rw[ae4]
  cases hf:jd (fun i (q:Rat)=>if q<0 then some (i:Int) else none) 0 l with
  | none =>
   simp only
   rw[ae4,decide_eq_false (by decide),decide_eq_false]
   rintro⟨q,hq,hn⟩
   obtain⟨j,hj⟩:=adW hq
   have:=fC.1 hf j q hj
   rw[if_pos hn]at this
   cases this
  | some r =>
   obtain⟨j,q,h1,h2,_⟩:=gx hf
   by_cases hn:q<0
   ·rw[if_pos hn]at h2
    cases h2
    simp only
    rw[ae4,decide_eq_true (by omega),decide_eq_true ⟨q,ad2 h1,hn⟩]
   ·rw[if_neg hn]at h2;cases h2
 ·have hi:=b7 hq
  simp only[db,lk]
  rw[if_pos (by simp;omega),bO (x:=bR q) (by rw[adx,hq];rfl),ae4,IB (hs q (ad2 hq)),ae4,ae4]
  by_cases hn:q<0
  ·rw[decide_eq_true (Bk.2 hn),if_pos hn];rfl
  ·rw[decide_eq_false (fun h=>hn (Bk.1 h)),if_neg hn,cp (by omega)];rfl
def Ux (N:Nat) (x:dy):Bool:=decide (0<=x.cR∧x.cR<=(N:Int)-1)&&decide (0<=x.kM∧x.kM<=(N:Int)-1)&&okF x.ba&&decide (0<x.ba.aH.ag)
def TE (a b:dy):Prop:=a.cR<b.cR∨(a.cR=b.cR∧a.kM<b.kM)
instance (a b:dy):Decidable (TE a b):=by unfold TE;infer_instance
def CW (N:Nat) (l:List dy) (i:Nat) (x:dy):Bool:=Ux N x&&(decide (i=0)||(match l[i-1]? with|some y=>decide (TE y x)|none=>false))
theorem NF {N:Nat} {x:dy} : Ux N x=true↔∃t:Tk,x=tn t∧t.1<N∧t.2.1<N∧0<t.2.2:=by
 unfold Ux
 simp only[aeb,decide_eq_true_eq]
 constructor
 ·rintro⟨⟨⟨h1,h2⟩,h3⟩,h4⟩
  obtain⟨q,hq⟩:=Bh.1 h3
  refine⟨(x.cR.toNat,x.kM.toNat,q),?_,by simp only;omega,by simp only;omega,?_⟩
  ·unfold tn
   cases x
   simp only at *
   rw[<- hq,Int.toNat_of_nonneg h1.1,Int.toNat_of_nonneg h2.1]
  ·rw[hq]at h4
   exact Bl.1 h4
 ·rintro⟨t,rfl,h1,h2,h3⟩
  exact⟨⟨⟨by simp only[tn];omega,by simp only[tn];omega⟩,Qe _⟩,Bl.2 h3⟩
theorem Rw {a b:Tk} : TE (tn a) (tn b)↔X8 a b:=by
 unfold TE X8 tn
 simp only
 omega
theorem qT {n:bY} {K:Nat} (hK:K<=1000000) (hs:∀t∈n.av,t.ba.aH.aa.length<=K∧t.ba.aK.aa.length<=K) :
  ∃b,iV n=some b∧(b=true↔∃N tk,n=kP N tk∧jb N tk):=by
 unfold iV
 rw[zA,ae4]
 by_cases hN:0<=n.aD∧n.aD<=2000
 rotate_left
 ·rw[decide_eq_false hN]
  refine⟨false,by simp,?_⟩
  simp only[aea,false_iff]
  rintro⟨N,tk,rfl,h⟩
  have:=h.ports
  simp only[kP]at hN
  omega
 rw[decide_eq_true hN]
 simp only[aeV,aea,if_false,Option.bind_some]
 by_cases hL:(n.av.length:Int)>8000
 ·rw[decide_eq_true hL]
  refine⟨false,by simp,?_⟩
  simp only[aea,false_iff]
  rintro⟨N,tk,rfl,h⟩
  have:=h.takes
  simp only[kP,ad4]at hL
  omega
 rw[decide_eq_false hL]
 simp only[aea,if_false]
 obtain⟨N,hNe⟩:∃N:Nat,n.aD=(N:Int):=⟨n.aD.toNat,by omega⟩
 have hwr:IntKind.i64.wrap (n.aD-1)=(N:Int)-1:=by rw[hNe,wrap64 (by omega) (by omega)]
 have hK2:K<=iD:=adC hK (by unfold iD;omega)
 have hscan:=AH n.av (body:=lS n) (fun i x=>if CW N n.av i x=true then none else some false) (by omega) (fun i x hx=>by
  have hi:=b7 hx
  obtain⟨hs1,hs2⟩:=hs x (ad2 hx)
  simp only[lS]
  rw[if_pos (by simp;omega),bO hx,ae4,zA,ae4,hwr]
  have hcond:(if (!decide (0<=x.cR∧x.cR<=(N:Int)-1))=true then some true
   else (gM x.kM 0 ((N:Int)-1)).bind fun r30 =>
    if (!r30)=true then some true
    else (cj x.ba).bind fun r32=>if (!r32)=true then some true else (hY x.ba).bind fun r34=>some (decide (r34<=0)))=some (!Ux N x):=by
   unfold Ux
   by_cases c1:0<=x.cR∧x.cR<=(N:Int)-1
   rotate_left
   ·rw[decide_eq_false c1];simp
   rw[decide_eq_true c1,zA,ae4]
   by_cases c2:0<=x.kM∧x.kM<=(N:Int)-1
   rotate_left
   ·rw[decide_eq_false c2];simp
   rw[decide_eq_true c2,BE ⟨by omega,by omega⟩,ae4]
   cases hq:okF x.ba with
   | false=>simp
   | true =>
    obtain⟨q,hq⟩:=Bh.1 hq
    rw[hq]at hs1 hs2 ⊢
    have hLF:=Ba hs1 hs2
    rw[IB (by unfold dx;omega),ae4]
    have:(bR q).aH.ag=q.num.sign:=rfl
    rw[this]
    by_cases c3:q.num.sign<=0
    ·rw[decide_eq_true c3,decide_eq_false (show ¬0<q.num.sign by omega)];simp
    ·rw[decide_eq_false c3,decide_eq_true (show 0<q.num.sign by omega)];simp
  rw[hcond,ae4]
  unfold CW
  cases hok:Ux N x with
  | false=>simp
  | true =>
   simp only[aeV,aea,if_false,aeW]
   cases i with
   | zero=>rw[if_neg (by simp),cp (by omega)];simp
   | succ i =>
    rw[if_pos (by simp)]
    have hg:n.av[i]? = some n.av[i]:=adN (by omega)
    have e1:IntKind.i64.wrap (((i+1:Nat):Int)-1)=(i:Int):=by rw[wrap64 (by omega) (by omega)];omega
    obtain⟨c,hc1,hc2⟩:=TF n.av[i] x
    rw[e1,bO hg,ae4,hc1,ae4,afj,hg]
    simp only[Nat.add_eq_zero_iff,Nat.one_ne_zero,and_false,decide_false,Bool.false_or]
    by_cases hb:TE n.av[i] x
    ·rw[if_neg (by simp;exact hc2.2 hb),decide_eq_true hb,cp (by omega)];rfl
    ·rw[if_pos (by simp only[decide_eq_true_eq];have:¬c<0:=fun h=>hb (hc2.1 h);omega),decide_eq_false hb];rfl) (by
  unfold lS
  rw[if_neg (by simp)])
 rw[hscan,ae4]
 cases hfs:jd (fun i x=>if CW N n.av i x=true then none else some false) 0 n.av with
 | some r =>
  obtain⟨j,x,h1,h2,_⟩:=gx hfs
  simp only[aen]at h2
  split at h2
  ·cases h2
  rename_i hbad
  cases h2
  refine⟨false,rfl,?_⟩
  simp only[aea,false_iff]
  rintro⟨M,tk,rfl,hR⟩
  refine hbad ?_
  simp only[kP]at h1 hNe ⊢
  obtain rfl:M=N:=by omega
  rw[adx,ady]at h1
  obtain⟨t,ht,rfl⟩:=h1
  have hm:=ad2 ht
  unfold CW
  rw[NF.2 ⟨t,rfl,hR.ok t hm⟩,aeW]
  cases j with
  | zero=>simp
  | succ j =>
   have hjl:=b7 ht
   have hg:tk[j]? = some tk[j]:=adN (by omega)
   rw[afj,adx,hg]
   simp only[Option.map_some]
   rw[decide_eq_true (Rw.2 ?_),Bool.or_true]
   have:=List.pairwise_iff_getElem.1 hR.sorted j (j+1) (by omega) hjl (by omega)
   rwa [(ad3.1 ht).2]at this
 | none =>
  have hall:=fC.1 hfs
  simp only[aen]at hall
  have hgood:∀(j:Nat) x,n.av[j]? = some x->CW N n.av j x=true:=fun j x hj=>by
   have:=hall j x hj
   split at this
   ·assumption
   ·cases this
  obtain⟨tk,htk,htk2⟩:=xb (mk:=tn) (R:=fun t=>t.1<N∧t.2.1<N∧0<t.2.2) (l:=n.av) fun x hx=>by
   obtain⟨j,hj⟩:=adW hx
   have:=hgood j x hj
   unfold CW at this
   rw[aeb]at this
   exact NF.1 this.1
  have hn:n=kP N tk:=by
   unfold kP
   rw[<- hNe,<- htk]
  have hsort:tk.Pairwise X8:=JA T9 fun i a b ha hb=>by
   have:=hgood (i+1) (tn b) (by rw[htk,adx,hb];rfl)
   unfold CW at this
   rw[aeb,afj,htk,adx,ha]at this
   simpa [Rw] using this.2
  have hLF:∀t∈tk,LF t.2.2<=K:=fun t ht=>by
   have:=hs (tn t) (by rw[htk];exact List.mem_map_of_mem ht)
   exact Ba this.1 this.2
  have hlen:tk.length<=8000:=by
   have:=congrArg List.length htk
   rw[ad4]at this
   omega
  have hN2:N<=2000:=by omega
  simp only
  rw[hn,ME hN2 hlen (fun t ht=>(htk2 t ht).1) hK hLF,ae4]
  have hmap:((List.range N).map fun p=>bR (dE tk p))=((List.range N).map fun p=>dE tk p).map bR:=by rw[List.map_map];rfl
  rw[hmap,B9 (by simp;omega) (fun q hq=>by
   obtain⟨p,_,rfl⟩:=adz.1 hq
   have:=J5 hLF p
   have h2:tk.length*(K+1)<=8000*1000001:=agc hlen (by omega)
   unfold dx;omega),ae4]
  refine⟨_,rfl,?_⟩
  simp only[aec,decide_eq_false_iff_not]
  constructor
  ·intro hno
   refine⟨N,tk,rfl,⟨hN2,hlen,htk2,hsort,fun p hp =>?_⟩⟩
   by_cases h0:dE tk p<0
   ·exact absurd ⟨_,adz.2 ⟨p,afb.2 hp,rfl⟩,h0⟩ hno
   ·grind
  ·rintro⟨M,tk',he,hR⟩ ⟨q,hq,hneg⟩
   obtain⟨rfl,rfl⟩:=YI he
   obtain⟨p,hp,rfl⟩:=adz.1 hq
   have:=hR.leak p (afb.1 hp)
   grind
theorem yk:∀(N:Nat) (l:List Nat),l.Nodup->(∀x∈l,x<N)->l.length<=N
 | 0,l,_,h=>by
  cases l with
  | nil=>simp
  | cons x l=>exact absurd (h x (ae0 ..)) (by omega)
 | N+1,l,hn,h=>by
  have h1:=yk N (l.erase N) (hn.erase N) fun x hx=>by
   have h2:=h x (List.mem_of_mem_erase hx)
   have h3:x≠N:=fun e=>by subst e;exact (List.Nodup.mem_erase_iff hn).1 hx |>.1 rfl
   omega
  rw[List.length_erase]at h1
  split at h1<;>omega
def jx (l:List Nat):List Int:=l.map fun (p:Nat)=>(p:Int)
theorem Nk {l:List Nat} {i p:Nat} (h:l[i]? = some p):(jx l)[i]? = some (p:Int):=by unfold jx;rw[adx,h];rfl
theorem jy (l:List Nat):(jx l).length=l.length:=ad4 ..
def ke (tk:List Tk) (p:Nat):List Nat:=(tk.filter fun t=>decide (t.2.1=p)).map fun t=>t.1
theorem G6 {tk:List Tk} {p q:Nat} : q∈ke tk p↔∃t∈tk,t.1=q∧t.2.1=p:=by
 unfold ke
 simp only[adz,ae7,decide_eq_true_eq]
 constructor
 ·rintro⟨t,⟨h1,h2⟩,h3⟩;exact⟨t,h1,h3,h2⟩
 ·rintro⟨t,h1,h3,h2⟩;exact⟨t,⟨h1,h2⟩,h3⟩
theorem FA (tk:List Tk) (p:Nat):(ke tk p).length<=tk.length:=by
 unfold ke
 rw[ad4]
 exact agd ..
theorem O4 {tk:List Tk} {i:Nat} {t:Tk} (h:tk[i]? = some t) (p:Nat):ke (tk.take (i+1)) p=if t.2.1=p then ke (tk.take i) p++[t.1] else ke (tk.take i) p:=by
 obtain⟨hi,he⟩:=ad3.1 h
 unfold ke
 rw[agb hi,age,aeX,he]
 by_cases hc:t.2.1=p
 ·rw[if_pos hc,agf (by simpa using hc)];rfl
 ·rw[if_neg hc,agh (by simpa using hc)];simp
structure oJ (N:Nat) (tk:List Tk) (r:Nat->Int):Prop where
 ge:∀p,p<N -> -1<=r p
 zero:∀p,p<N->(r p=0↔0<dE tk p)
 down:∀p,p<N->0<r p->∃t∈tk,t.1=p∧r t.2.1=r p-1
 near:∀t∈tk,0<=r t.2.1->0<=r t.1∧r t.1<=r t.2.1+1
 le:∀p,p<N->r p<=2000
structure BF (N:Nat) (tk:List Tk) (r:Nat->Int) (D Q:List Nat) (h m:Int):Prop where
 nodup:(D++Q).Nodup
 lt:∀p∈D++Q,p<N
 rk:∀p,p<N->(0<=r p↔p∈D++Q)
 ge:∀p,p<N -> -1<=r p
 zero:∀p,p<N->(r p=0↔0<dE tk p)
 down:∀p,p<N->0<r p->∃t∈tk,t.1=p∧r t.2.1=r p-1
 near:∀t∈tk,t.2.1∈D->0<=r t.1∧r t.1<=r t.2.1+1
 mono:Q.Pairwise fun a b=>r a<=r b
 top:∀p∈D++Q,r p<=h+1
 low:∀q∈Q,h<=r q
 bnd:∀p,p<N->r p<=m
def UK (r:Nat->Int) (q:Nat) (v:Int):Nat->Int:=fun x=>if x=q then v else r x
theorem j2 (r:Nat->Int) (q:Nat) (v:Int):UK r q v q=v:=if_pos rfl
theorem gV {r:Nat->Int} {q x:Nat} (v:Int) (h:x≠q):UK r q v x=r x:=if_neg h
theorem BF.pop {N:Nat} {tk:List Tk} {r:Nat->Int} {D Q:List Nat} {p:Nat} {h m:Int} (hB:BF N tk r D (p::Q) h m):BF N tk r D (p::Q) (r p) (m+1)∧0<=r p∧p<N∧r p<=m where
 left:={
  nodup:=hB.nodup,lt:=hB.lt,rk:=hB.rk,ge:=hB.ge,zero:=hB.zero,down:=hB.down,near:=hB.near,mono:=hB.mono
  top:=fun x hx=>by
   have h1:=hB.top x hx
   have h2:=hB.low p (ae0 ..)
   omega
  low:=fun q hq=>by
   rcases adH.1 hq with rfl|hq
   ·exact Int.le_refl _
   ·exact (ae8.1 hB.mono).1 q hq
  bnd:=fun x hx=>by have:=hB.bnd x hx;omega }
 right:=by
  have hm:p∈D++p::Q:=adP _ (ae0 ..)
  have hp:=hB.lt p hm
  exact⟨(hB.rk p hp).2 hm,hp,hB.bnd p hp⟩
theorem BF.push {N:Nat} {tk:List Tk} {r:Nat->Int} {D Q:List Nat} {p q:Nat} {m:Int} (hB:BF N tk r D (p::Q) (r p) m) (hp0:0<=r p) (hm:r p+1<=m) (hq:q<N) (hr:r q = -1) (ht:∃t∈tk,t.1=q∧t.2.1=p) :
  BF N tk (UK r q (r p+1)) D (p::(Q++[q])) (r p) m∧UK r q (r p+1) p=r p:=by
 have hqn:q∉D++p::Q:=fun h=>by have:=(hB.rk q hq).2 h;omega
 have hap:∀x,x∈D++p::(Q++[q])↔x∈D++p::Q∨x=q:=fun x=>by
  simp only[aeI,adH,agi,or_false]
  constructor
  ·rintro (h|h|h|h)<;>simp[h]
  ·rintro ((h|h|h)|h)<;>simp[h]
 have hne:∀x,x∈D++p::Q->x≠q:=fun x hx e=>hqn (e ▸ hx)
 have hpm:p∈D++p::Q:=adP _ (ae0 ..)
 have hpq:p≠q:=hne p hpm
 refine⟨?_,gV _ hpq⟩
 constructor
 ·have:D++p::(Q++[q])=(D++p::Q)++[q]:=by simp
  rw[this,List.nodup_append]
  refine⟨hB.nodup,by simp,fun a ha b hb =>?_⟩
  simp only[adH,agi,or_false]at hb
  subst hb
  exact hne a ha
 ·intro x hx
  rcases (hap x).1 hx with h|rfl
  ·exact hB.lt x h
  ·exact hq
 ·intro x hx
  rw[hap]
  by_cases h:x=q
  ·subst h;rw[j2];exact⟨fun _ =>.inr rfl,fun _=>by omega⟩
  ·rw[gV _ h,hB.rk x hx];exact⟨.inl,fun k=>k.elim id fun e=>absurd e h⟩
 ·intro x hx
  by_cases h:x=q
  ·subst h;rw[j2];omega
  ·rw[gV _ h];exact hB.ge x hx
 ·intro x hx
  by_cases h:x=q
  ·subst h
   rw[j2]
   have:=hB.zero x hx
   constructor
   ·intro h;omega
   ·intro h;have:=this.2 h;omega
  ·rw[gV _ h];exact hB.zero x hx
 ·intro x hx h0
  by_cases h:x=q
  ·subst h
   obtain⟨t,h1,h2,h3⟩:=ht
   refine⟨t,h1,h2,?_⟩
   rw[h3,gV _ hpq,j2]
   omega
  ·rw[gV _ h]at h0 ⊢
   obtain⟨t,h1,h2,h3⟩:=hB.down x hx h0
   refine⟨t,h1,h2,?_⟩
   rw[gV _ (fun e=>by rw[e,hr]at h3;omega)]
   exact h3
 ·intro t ht' hD
  obtain⟨h1,h2⟩:=hB.near t ht' hD
  have e1:t.2.1≠q:=hne _ (adO _ hD)
  have e2:t.1≠q:=fun e=>by rw[e]at h1;omega
  rw[gV _ e1,gV _ e2]
  exact⟨h1,h2⟩
 ·have h1:=hB.mono
  have:p::(Q++[q])=(p::Q)++[q]:=by simp
  rw[this,ae9]
  refine⟨h1.imp_of_mem fun {a b} ha hb h =>?_,by simp,fun a ha b hb =>?_⟩
  ·rw[gV _ (hne a (adP _ ha)),gV _ (hne b (adP _ hb))]
   exact h
  ·simp only[adH,agi,or_false]at hb
   subst hb
   rw[gV _ (hne a (adP _ ha)),j2]
   exact hB.top a (adP _ ha)
 ·intro x hx
  rcases (hap x).1 hx with h|rfl
  ·rw[gV _ (hne x h)];exact hB.top x h
  ·rw[j2];exact Int.le_refl _
 ·intro x hx
  by_cases h:x=q
  ·subst h;rw[j2];omega
  ·rw[gV _ h]
   refine hB.low x ?_
   simp only[adH,aeI,agi,or_false]at hx ⊢
   rcases hx with h1|h1|h1
   ·exact .inl h1
   ·exact .inr h1
   ·exact absurd h1 h
 ·intro x hx
  by_cases h:x=q
  ·subst h;rw[j2];exact hm
  ·rw[gV _ h];exact hB.bnd x hx
theorem BF.finish {N:Nat} {tk:List Tk} {r:Nat->Int} {D Q:List Nat} {p:Nat} {h m:Int} (hB:BF N tk r D (p::Q) h m) (hn:∀q∈ke tk p,0<=r q∧r q<=r p+1):BF N tk r (D++[p]) Q h m:=by
 have e:(D++[p])++Q=D++p::Q:=by simp
 exact {
  nodup:=by rw[e];exact hB.nodup
  lt:=by rw[e];exact hB.lt
  rk:=by rw[e];exact hB.rk
  ge:=hB.ge,zero:=hB.zero,down:=hB.down
  near:=fun t ht hD=>by
   rcases aeI.1 hD with h1|h1
   ·exact hB.near t ht h1
   ·simp only[adH,agi,or_false]at h1
    rw[h1]
    exact hn t.1 (G6.2 ⟨t,ht,rfl,h1⟩)
  mono:=(ae8.1 hB.mono).2
  top:=by rw[e];exact hB.top
  low:=fun q hq=>hB.low q (ae1 _ hq)
  bnd:=hB.bnd }
theorem BF.abC {N:Nat} {tk:List Tk} {r:Nat->Int} {D:List Nat} {h m:Int} (hB:BF N tk r D [] h m) (ht:∀t∈tk,t.1<N∧t.2.1<N) (hm:m<=2000):oJ N tk r where
 ge:=hB.ge
 zero:=hB.zero
 down:=hB.down
 near t h1 h2:=hB.near t h1 (by have:=(hB.rk t.2.1 (ht t h1).2).1 h2;simpa using this)
 le p hp:=by have:=hB.bnd p hp;omega
theorem Xc {α:Type} (a:α) (l:List α):A9 (a::l) 1 ((a::l).length:Int)=some l:=by
 unfold A9
 rw[if_pos ⟨by omega,by simp;omega,by omega⟩]
 simp
variable {N:Nat} {tk:List Tk}
theorem Qp {r:Nat->Int} {D Q:List Nat} {p:Nat} {m:Int} (hB:BF N tk r D (p::Q) (r p) m) (hp:p<N) (hp0:0<=r p) (hm:r p+1<=m) (hm2:m<=2001) (htk:∀t∈tk,t.1<N∧t.2.1<N) (hlen:tk.length<=8000) (hN:N<=2000) :
  ∃r' Q',aY (jX (p:Int) (jx (ke tk p))) ((0:Int),(List.range N).map r,jx Q)=some ((List.range N).map r',jx Q')∧BF N tk r' (D++[p]) Q' (r p) m:=by
 have hbl:=FA tk p
 have key:=fun hs he=>xV (body:=jX (p:Int) (jx (ke tk p))) (ke tk p) (by omega) (fun i (s:List Int×List Int)=>∃r' Q',s=((List.range N).map r',jx Q')∧BF N tk r' D (p::Q') (r p) m∧r' p=r p∧∀q∈(ke tk p).take i,0<=r' q∧r' q<=r p+1)
  (fun x=>∃r' Q',x=((List.range N).map r',jx Q')∧BF N tk r' (D++[p]) Q' (r p) m) (s0:=((List.range N).map r,jx Q)) ⟨r,Q,rfl,hB,rfl,fun q hq=>by simp at hq⟩ hs he
 refine (key ?_ ?_).elim fun x ⟨h1,r',Q',hx,h2⟩=>⟨r',Q',hx ▸ h1,h2⟩
 ·rintro i q _ hq ⟨r',Q',rfl,hB',hrp,hnear⟩
  have hi:=b7 hq
  have hqm:=ad2 hq
  obtain⟨t,ht1,ht2,ht3⟩:=G6.1 hqm
  have hqN:q<N:=by rw[<- ht2];exact (htk t ht1).1
  have htake:(ke tk p).take (i+1)=(ke tk p).take i++[q]:=by
   rw[agb hi,(ad3.1 hq).2]
  have hQl:Q'.length<=N:=by
   have h1:=yk N (D++p::Q') hB'.nodup hB'.lt
   simp only[aeC,List.length_cons]at h1
   omega
  simp only[jX]
  rw[if_pos (by rw[jy];simp;omega),bO (Nk hq),ae4,bO (b8 r' hqN),ae4]
  by_cases hc:r' q = -1
  ·rw[if_pos (by rw[hc];rfl),bO (b8 r' hp),ae4,hrp,xz (by rw[jy];simp;omega),ae4,cp (by omega),aez,ie]
   have hw:IntKind.i64.wrap (r p+1)=r p+1:=wrap64 (by omega) (by omega)
   rw[hw]
   have hB2:=hB'
   rw[<- hrp]at hB2
   obtain⟨h1,h2⟩:=hB2.push (by omega) (by omega) hqN hc ⟨t,ht1,ht2,ht3⟩
   rw[hrp]at h1 h2
   refine⟨_,rfl,UK r' q (r p+1),Q'++[q],?_,h1,h2,fun x hx =>?_⟩
   ·unfold jx UK;simp
   ·rw[htake]at hx
    rcases aeI.1 hx with hx|hx
    ·have:=hnear x hx
     by_cases hxq:x=q
     ·subst hxq;rw[hc]at this;omega
     ·rw[gV _ hxq];exact this
    ·simp only[adH,agi,or_false]at hx
     subst hx
     rw[j2];omega
  ·rw[if_neg (by simpa using hc),cp (by omega)]
   refine⟨_,rfl,r',Q',rfl,hB',hrp,fun x hx =>?_⟩
   rw[htake]at hx
   rcases aeI.1 hx with hx|hx
   ·exact hnear x hx
   ·simp only[adH,agi,or_false]at hx
    subst hx
    have h0:0<=r' x:=by have:=hB'.ge x hqN;omega
    exact⟨h0,hB'.top x ((hB'.rk x hqN).1 h0)⟩
 ·rintro _ ⟨r',Q',rfl,hB',hrp,hnear⟩
  refine⟨_,?_,r',Q',rfl,hB'.finish fun q hq =>?_⟩
  ·simp only[jX]
   rw[if_neg (by rw[jy];simp)]
  ·rw[afA]at hnear
   rw[hrp]
   exact hnear q hq
theorem Qq {r:Nat->Int} {Q:List Nat} (hB:BF N tk r [] Q 0 0) (htk:∀t∈tk,t.1<N∧t.2.1<N) (hlen:tk.length<=8000) (hN:N<=2000) :
  ∃r',aY (jW ((List.range N).map fun p=>jx (ke tk p))) ((List.range N).map r,jx Q)=some ((List.range N).map r')∧oJ N tk r':=by
 have key:=fun hs=>cD (body:=jW ((List.range N).map fun p=>jx (ke tk p))) (fun i (s:List Int×List Int)=>∃r' D Q' h,s=((List.range N).map r',jx Q')∧D.length=i∧BF N tk r' D Q' h (i:Int)) N
  (fun x=>∃r',x=(List.range N).map r'∧oJ N tk r') (s:=((List.range N).map r,jx Q)) ⟨r,[],Q,0,rfl,rfl,hB⟩ (jl (by omega)) hs
 refine (key ?_).elim fun x ⟨h1,r',hx,h2⟩=>⟨r',hx ▸ h1,h2⟩
 ·rintro i _ hi ⟨r',D,Q',h,rfl,hD,hB'⟩
  cases Q' with
  | nil =>
   refine .inr ⟨_,?_,r',rfl,hB'.abC htk (by omega)⟩
   simp only[jW,jx,aeo]
   rw[if_neg (by simp)]
  | cons p Q' =>
   obtain⟨hB2,hp0,hp,hpm⟩:=hB'.pop
   have hiN:i<N:=by
    have h1:=yk N (D++p::Q') hB'.nodup hB'.lt
    simp only[aeC,List.length_cons]at h1
    omega
   obtain⟨r2,Q2,h1,h2⟩:=Qp hB2 hp hp0 (by omega) (by omega) htk hlen hN
   refine .inl ⟨hiN,((List.range N).map r2,jx Q2),?_,r2,D++[p],Q2,r' p,rfl,by simp[hD],by simpa using h2⟩
   simp only[jW]
   have e1:jx (p::Q')=(p:Int)::jx Q':=rfl
   rw[e1,if_pos (by simp),idx_zero' ,ae4,Xc,ae4,bO (b8 (fun p=>jx (ke tk p)) hp),ae4,h1,ae4]
where
 idx_zero':∀ {α:Type} {a:α} {l:List α},P.idx (a::l) 0=some a:=fun {_ a l}=>bO (l:=a::l) (i:=0) rfl
theorem TD {L:Nat} (htk:∀t∈tk,t.1<N∧t.2.1<N) (hlen:tk.length<=8000) :
  aY (jU (kP N tk)) ((0:Int),List.replicate N ([]:List Int))=some ((List.range N).map fun p=>jx (ke tk p)):=by
 unfold kP
 have key:=fun hs he=>xV (body:=jU (bY.mk (N:Int) (tk.map tn))) tk (by omega) (fun i l=>l=(List.range N).map fun p=>jx (ke (tk.take i) p)) (fun l=>l=(List.range N).map fun p=>jx (ke tk p)) (s0:=List.replicate N ([]:List Int))
  (gL (by simp) fun j hj=>by rw[agj,if_pos hj,List.take_zero];rfl) hs he
 refine (key ?_ ?_).elim fun x ⟨h1,hx⟩=>hx ▸ h1
 ·rintro i t _ ht rfl
  have hi:=b7 ht
  have hto:=(htk t (ad2 ht)).2
  have hg:(tk.map tn)[i]? = some (tn t):=by rw[adx,ht];rfl
  have hbl:=FA (tk.take i) t.2.1
  rw[adT]at hbl
  refine⟨_,?_,rfl⟩
  simp only[jU]
  rw[if_pos (by simp;omega),bO hg,ae4]
  simp only[tn]
  rw[bO (b8 _ hto),ae4,xz (by rw[jy];simp;omega),ae4,cp (by omega),aez,ie]
  congr 3
  refine congrArg (fun f=>(List.range N).map f) (funext fun p =>?_)
  rw[O4 ht]
  by_cases h:p=t.2.1
  ·subst h;rw[if_pos rfl,if_pos rfl];unfold jx;simp
  ·rw[if_neg h,if_neg (fun e=>h e.symm)]
 ·rintro _ rfl
  refine⟨_,?_,rfl⟩
  simp only[jU]
  rw[if_neg (by simp),afA]
def AF (tk:List Tk) (p:Nat):Int:=if 0<dE tk p then 0 else -1
def l3 (tk:List Tk) (n:Nat):List Nat:=(List.range n).filter fun p=>decide (0<dE tk p)
theorem NX (tk:List Tk) (n:Nat):l3 tk (n+1)=if 0<dE tk n then l3 tk n++[n] else l3 tk n:=by
 unfold l3
 rw[List.range_succ,age]
 by_cases h:0<dE tk n
 ·rw[if_pos h,agf (by simpa using h)];rfl
 ·rw[if_neg h,agh (by simpa using h)];simp
theorem T2 {K:Nat} (hN:N<=2000) (hlen:tk.length<=8000) (hK:K<=1000000) (hs:∀t∈tk,LF t.2.2<=K) :
  aY (jV ((List.range N).map fun p=>bR (dE tk p))) ((0:Int),List.replicate N (0:Int),([]:List Int))=some ((List.range N).map (AF tk),jx (l3 tk N)):=by
 have key:=fun hs he=>xV (body:=jV ((List.range N).map fun p=>bR (dE tk p))) (List.range N) (by simp;omega) (fun i (s:List Int×List Int)=>s=((List.range N).map (fun p=>if p<i then AF tk p else 0),jx (l3 tk i))) (fun s=>s=((List.range N).map (AF tk),jx (l3 tk N))) (s0:=(List.replicate N (0:Int),([]:List Int)))
  (by rw[show l3 tk 0=[] from rfl];refine Prod.ext ?_ rfl;exact gL (by simp) fun j hj=>by rw[agj,if_pos hj,if_neg (by omega)]) hs he
 refine (key ?_ ?_).elim fun x ⟨h1,hx⟩=>hx ▸ h1
 ·rintro i x _ hx rfl
  have hi:i<N:=by have:=b7 hx;simpa using this
  have hLF:=J5 hs i
  have h2:tk.length*(K+1)<=8000*1000001:=agc hlen (by omega)
  have hql:(l3 tk i).length<=i:=by unfold l3;have:=agd (fun p=>decide (0<dE tk p)) (List.range i);simpa using this
  refine⟨_,?_,rfl⟩
  simp only[jV]
  rw[if_pos (by simp;omega),bO (b8 (fun p=>bR (dE tk p)) hi),ae4,bO (b8 _ hi),ae4,IB (by unfold dx;omega),ae4,aez,ie,ie,cp (by omega),NX]
  by_cases hl:0<dE tk i
  ·rw[if_pos (by simpa using Bl.2 hl),bO (b8 _ hi),ae4,xz (by rw[jy];simp;omega),ae4,if_pos hl]
   refine congrArg some (congrArg Sum.inl (congrArg (Prod.mk _) (Prod.ext ?_ ?_)))
   ·refine congrArg (fun f=>(List.range N).map f) (funext fun p =>?_)
    by_cases h:p=i
    ·subst h;rw[if_pos rfl,if_pos (by omega)];unfold AF;rw[if_pos hl]
    ·rw[if_neg h,if_neg h]
     by_cases h3:p<i
     ·rw[if_pos h3,if_pos (by omega)]
     ·rw[if_neg h3,if_neg (by omega)]
   ·unfold jx;simp
  ·rw[if_neg (by simpa using fun h=>hl (Bl.1 h)),if_neg hl]
   refine congrArg some (congrArg Sum.inl (congrArg (Prod.mk _) (Prod.ext ?_ rfl)))
   refine congrArg (fun f=>(List.range N).map f) (funext fun p =>?_)
   by_cases h:p=i
   ·subst h;rw[if_pos rfl,if_pos (by omega)];unfold AF;rw[if_neg hl]
   ·rw[if_neg h]
    by_cases h3:p<i
    ·rw[if_pos h3,if_pos (by omega)]
    ·rw[if_neg h3,if_neg (by omega)]
 ·rintro _ rfl
  refine⟨_,?_,rfl⟩
  simp only[jV]
  rw[if_neg (by simp),ad5]
  refine congrArg some (congrArg Sum.inr (Prod.ext ?_ rfl))
  refine gL (by simp) fun j hj =>?_
  rw[b8 _ hj,if_pos hj]
theorem Yy (N:Nat) (tk:List Tk):BF N tk (AF tk) [] (l3 tk N) 0 0:=by
 have hm:∀p,p∈l3 tk N↔p<N∧0<dE tk p:=fun p=>by unfold l3;simp[ae7]
 have h0:∀p,0<dE tk p->AF tk p=0:=fun p h=>if_pos h
 have h1:∀p,¬0<dE tk p->AF tk p = -1:=fun p h=>if_neg h
 constructor
 ·rw[aff];unfold l3;exact List.nodup_range.filter _
 ·intro p hp;rw[aff]at hp;exact ((hm p).1 hp).1
 ·intro p hp
  rw[aff,hm]
  by_cases h:0<dE tk p
  ·rw[h0 p h];simp[hp,h]
  ·rw[h1 p h];simp[h]
 ·intro p hp
  by_cases h:0<dE tk p
  ·rw[h0 p h];omega
  ·rw[h1 p h];omega
 ·intro p hp
  by_cases h:0<dE tk p
  ·rw[h0 p h];simp[h]
  ·rw[h1 p h];simp[h]
 ·intro p hp hpos
  by_cases h:0<dE tk p
  ·rw[h0 p h]at hpos;omega
  ·rw[h1 p h]at hpos;omega
 ·intro t _ h;simp at h
 ·refine List.Pairwise.imp_of_mem (R:=fun _ _=>True) (fun {a b} ha hb _ =>?_) (List.pairwise_of_forall (fun _ _=>trivial))
  rw[h0 a ((hm a).1 ha).2,h0 b ((hm b).1 hb).2]
  exact Int.le_refl _
 ·intro p hp
  rw[aff]at hp
  rw[h0 p ((hm p).1 hp).2];omega
 ·intro q hq;rw[h0 q ((hm q).1 hq).2];omega
 ·intro p hp
  by_cases h:0<dE tk p
  ·rw[h0 p h];omega
  ·rw[h1 p h];omega
theorem W2 {K:Nat} (hR:jb N tk) (hK:K<=1000000) (hs:∀t∈tk,LF t.2.2<=K):∃r,jT (kP N tk)=some ((List.range N).map r)∧oJ N tk r:=by
 have hN:=hR.ports
 have hlen:=hR.takes
 have htk:∀t∈tk,t.1<N∧t.2.1<N:=fun t ht=>⟨(hR.ok t ht).1,(hR.ok t ht).2.1⟩
 obtain⟨b,hb1,hb2⟩:=qT (n:=kP N tk) hK (fun t ht=>by
  simp only[kP,adz]at ht
  obtain⟨t',h1,rfl⟩:=ht
  exact IH (hs t' h1))
 obtain rfl:b=true:=hb2.2 ⟨N,tk,rfl,hR⟩
 obtain⟨r',h1,h2⟩:=Qq (Yy N tk) htk hlen hN
 refine⟨r',?_,h2⟩
 unfold jT
 rw[hb1,ae4]
 simp only[aeV,aea,if_false]
 have e1:(kP N tk).aD=(N:Int):=rfl
 rw[e1,G7 _ (by omega) hN,ae4,TD (L:=0) htk hlen,ae4,G7 _ (by omega) hN,ae4,ME hN hlen (fun t ht=>(htk t ht).1) hK hs,ae4,T2 hN hlen hK hs,ae4]
 simp only
 rw[h1,ae4]
def bM (N:Nat) (r:Nat->Int):List Nat:=(List.range N).filter fun p=>decide (r p = -1)
theorem Em (n:Nat) (r:Nat->Int):bM (n+1) r=if r n = -1 then bM n r++[n] else bM n r:=by
 unfold bM
 rw[List.range_succ,age]
 by_cases h:r n = -1
 ·rw[if_pos h,agf (by simpa using h)];rfl
 ·rw[if_neg h,agh (by simpa using h)];simp
theorem En {r:Nat->Int} (hN:N<=2000) (h:jT (kP N tk)=some ((List.range N).map r)):gC (kP N tk)=some (jx (bM N r)):=by
 unfold gC
 rw[h,ae4]
 have key:=fun hs he=>xV (body:=ia ((List.range N).map r)) (List.range N) (by simp;omega) (fun i l=>l=jx (bM i r)) (fun l=>l=jx (bM N r)) (s0:=([]:List Int)) rfl hs he
 have h2:aY (ia ((List.range N).map r)) ((0:Int),[])=some (jx (bM N r)):=by
  refine (key ?_ ?_).elim fun x ⟨h1,hx⟩=>hx ▸ h1
  ·rintro i x _ hx rfl
   have hi:i<N:=by have:=b7 hx;simpa using this
   have hql:(bM i r).length<=i:=by unfold bM;have:=agd (fun p=>decide (r p = -1)) (List.range i);simpa using this
   refine⟨_,?_,rfl⟩
   simp only[ia]
   rw[if_pos (by simp;omega),bO (b8 r hi),ae4,cp (by omega),Em]
   by_cases hc:r i = -1
   ·rw[if_pos (by rw[hc];rfl),xz (by rw[jy];simp;omega),ae4,if_pos hc]
    unfold jx;simp
   ·rw[if_neg (by simpa using hc),if_neg hc]
  ·rintro _ rfl
   refine⟨_,?_,rfl⟩
   simp only[ia]
   rw[if_neg (by simp),ad5]
 rw[h2,ae4]
end Go.Proofs.Ytchndpjlijbplaa.P
namespace Go.Proofs.Ytchndpjlijbplaa.P
open Go.RowKit
set_option linter.unusedSimpArgs false
set_option linter.unusedVariables false
def sm:Nat->(Nat->Rat)->Rat
 | 0,_=>0
 | n+1,f=>sm n f+f n
theorem kq {n:Nat} {f g:Nat->Rat} (h:∀i,i<n->f i=g i):sm n f=sm n g:=by
 induction n with
 | zero=>rfl
 | succ n ih=>rw[sm,sm,ih fun i hi=>h i (by omega),h n (by omega)]
theorem Ec (n:Nat) (f g:Nat->Rat):sm n (fun i=>f i+g i)=sm n f+sm n g:=by
 induction n with
 | zero=>simp only[sm];grind
 | succ n ih=>simp only[sm];rw[ih];grind
theorem Xd (n:Nat) (f g:Nat->Rat):sm n (fun i=>f i-g i)=sm n f-sm n g:=by
 induction n with
 | zero=>simp only[sm];grind
 | succ n ih=>simp only[sm];rw[ih];grind
theorem zt {n:Nat} {f:Nat->Rat} (h:∀i,i<n->0<=f i):0<=sm n f:=by
 induction n with
 | zero=>simp only[sm];grind
 | succ n ih =>
  have h1:=ih fun i hi=>h i (by omega)
  have h2:=h n (by omega)
  simp only[sm];grind
theorem SY {n:Nat} {f:Nat->Rat} (h:∀i,i<n->0<=f i) (hs:sm n f<=0):∀i,i<n->f i=0:=by
 induction n with
 | zero=>intro i hi;omega
 | succ n ih =>
  have h1:=zt (n:=n) fun i hi=>h i (by omega)
  have h2:=h n (by omega)
  simp only[sm]at hs
  intro i hi
  by_cases hin:i=n
  ·subst hin;grind
  ·exact ih (fun j hj=>h j (by omega)) (by grind) i (by omega)
theorem SX (n:Nat):sm n (fun _=>0)=0:=by
 induction n with
 | zero=>rfl
 | succ n ih=>simp only[sm];rw[ih];grind
theorem vQ {n t:Nat} (v:Rat) (h:t<n):sm n (fun p=>if t=p then v else 0)=v:=by
 induction n with
 | zero=>omega
 | succ n ih =>
  simp only[sm]
  by_cases hn:t=n
  ·subst hn
   rw[kq (g:=fun _=>0) fun i hi=>if_neg (by omega),SX,if_pos rfl];grind
  ·rw[ih (by omega),if_neg hn];grind
def lP:List Tk->(Nat->Rat)->Nat->Rat
 | [],_,_=>0
 | t::l,x,p=>(if t.2.1=p then t.2.2*x t.1 else 0)+lP l x p
theorem GU {x y:Nat->Rat} {p:Nat} : ∀ {l:List Tk},(∀t∈l,t.2.1=p->x t.1=y t.1)->lP l x p=lP l y p
 | [],_=>rfl
 | t::l,h=>by
  simp only[lP]
  rw[GU (l:=l) fun t ht=>h t (ae1 _ ht)]
  by_cases hp:t.2.1=p
  ·rw[if_pos hp,if_pos hp,h t (ae0 ..) hp]
  ·rw[if_neg hp,if_neg hp]
theorem Yx (l:List Tk) (x y:Nat->Rat) (p:Nat):lP l (fun j=>x j-y j) p=lP l x p-lP l y p:=by
 induction l with
 | nil=>simp only[lP];grind
 | cons t l ih=>simp only[lP];rw[ih];split<;>grind
theorem Sj (l:List Tk) (c:Rat) (x:Nat->Rat) (p:Nat):lP l (fun j=>c*x j) p=c*lP l x p:=by
 induction l with
 | nil=>simp only[lP];grind
 | cons t l ih=>simp only[lP];rw[ih];split<;>grind
theorem yc {x y:Nat->Rat} {p:Nat} : ∀ {l:List Tk},(∀t∈l,0<=t.2.2)->(∀t∈l,t.2.1=p->x t.1<=y t.1)->lP l x p<=lP l y p
 | [],_,_=>by simp only[lP];grind
 | t::l,h0,h=>by
  simp only[lP]
  have ih:=yc (l:=l) (fun t ht=>h0 t (ae1 _ ht)) fun t ht=>h t (ae1 _ ht)
  have ht:=h0 t (ae0 ..)
  by_cases hp:t.2.1=p
  ·rw[if_pos hp,if_pos hp]
   have:=Rat.mul_le_mul_of_nonneg_left (h t (ae0 ..) hp) ht
   grind
  ·rw[if_neg hp,if_neg hp];grind
theorem PL {x:Nat->Rat} {p:Nat} {l:List Tk} (h0:∀t∈l,0<=t.2.2) (h:∀t∈l,t.2.1=p->0<=x t.1):0<=lP l x p:=by
 have:=yc (x:=fun _=>0) (y:=x) (p:=p) h0 h
 have h2:lP l (fun _=>0) p=0:=by
  have:=Sj l 0 (fun _=>0) p
  have e:(fun j:Nat=>(0:Rat)*(fun _=>0) j)=fun _=>0:=by funext j;grind
  rw[e]at this
  rw[this];grind
 grind
theorem Wq {x:Nat->Rat} {p:Nat} : ∀ {l:List Tk},(∀t∈l,0<=t.2.2)->(∀t∈l,t.2.1=p->0<=x t.1)->∀t∈l,t.2.1=p->t.2.2*x t.1<=lP l x p
 | [],_,_,t,ht,_=>by cases ht
 | t::l,h0,h,u,hu,hp=>by
  simp only[lP]
  have h1:=PL (x:=x) (p:=p) (l:=l) (fun t ht=>h0 t (ae1 _ ht)) fun t ht=>h t (ae1 _ ht)
  rcases adH.1 hu with rfl|hu
  ·rw[if_pos hp];grind
  ·have ih:=Wq (x:=x) (p:=p) (l:=l) (fun t ht=>h0 t (ae1 _ ht)) (fun t ht=>h t (ae1 _ ht)) u hu hp
   by_cases hq:t.2.1=p
   ·rw[if_pos hq]
    have:=agk (h0 t (ae0 ..)) (h t (ae0 ..) hq)
    grind
   ·rw[if_neg hq];grind
theorem Sk {N:Nat} (x:Nat->Rat):∀ {l:List Tk},(∀t∈l,t.1<N∧t.2.1<N)->sm N (fun p=>lP l x p)=sm N (fun q=>nK l q*x q)
 | [],_=>by simp only[lP,nK];exact kq fun i _=>by grind
 | t::l,h=>by
  simp only[lP,nK]
  obtain⟨h1,h2⟩:=h t (ae0 ..)
  rw[Ec,vQ _ h2,Sk x fun t ht=>h t (ae1 _ ht)]
  have:sm N (fun q=>((if t.1=q then t.2.2 else 0)+nK l q)*x q)=sm N (fun q=>(if t.1=q then t.2.2*x t.1 else 0)+nK l q*x q):=kq fun q _=>by
   by_cases hq:t.1=q
   ·rw[if_pos hq,if_pos hq,hq];grind
   ·rw[if_neg hq,if_neg hq];grind
  rw[this,Ec,vQ _ h1]
def AV (x:Rat):Rat:=if 0<=x then x else -x
theorem J8 (x:Rat):0<=AV x:=by unfold AV;split<;>grind
theorem Rh (x:Rat):x<=AV x ∧ -x<=AV x:=by unfold AV;split<;>grind
theorem OY {x y:Rat} (h1:x<=y) (h2 : -x<=y):AV x<=y:=by unfold AV;split<;>grind
theorem Tz {x:Rat} (h:AV x=0):x=0:=by unfold AV at h;split at h<;>grind
theorem Yw {l:List Tk} (h0:∀t∈l,0<=t.2.2) (x:Nat->Rat) (p:Nat):AV (lP l x p)<=lP l (fun j=>AV (x j)) p:=by
 refine OY (yc h0 fun t _ _=>(Rh _).1) ?_
 have h1:=Sj l (-1) x p
 have h2 : -lP l x p=lP l (fun j => -1*x j) p:=by rw[h1];grind
 rw[h2]
 exact yc h0 fun t _ _=>by have:=(Rh (x t.1)).2;grind
variable {N:Nat} {tk:List Tk} {r:Nat->Int}
theorem jb.pos (hR:jb N tk):∀t∈tk,0<=t.2.2:=fun t ht=>by have:=(hR.ok t ht).2.2;grind
theorem jb.UA (hR:jb N tk):∀t∈tk,t.1<N∧t.2.1<N:=fun t ht=>⟨(hR.ok t ht).1,(hR.ok t ht).2.1⟩
theorem EA (hR:jb N tk) (hr:oJ N tk r) (h0:∀p,p<N->0<=r p) {y:Nat->Rat} (hy:∀p,p<N->0<=y p) (hle:∀p,p<N->y p<=lP tk y p):∀p,p<N->y p=0:=by
 have hs:=Sk y hR.UA
 have hl0:∀p,p<N->0<=dE tk p*y p:=fun p hp=>agk (hR.leak p hp) (hy p hp)
 have hd0:∀p,p<N->0<=lP tk y p-y p:=fun p hp=>by have:=hle p hp;grind
 have e1:sm N (fun p=>dE tk p*y p)=sm N y-sm N (fun q=>nK tk q*y q):=by
  rw[<- Xd]
  exact kq fun p _=>by unfold dE;grind
 have e2:sm N (fun p=>lP tk y p-y p)=sm N (fun q=>nK tk q*y q)-sm N y:=by rw[Xd,hs]
 have n1:=zt hl0
 have n2:=zt hd0
 have z1:=SY hl0 (by grind)
 have z2:=SY hd0 (by grind)
 have key:∀(k:Nat) p,p<N->r p=(k:Int)->y p=0:=by
  intro k
  induction k with
  | zero =>
   intro p hp hk
   have hl:=(hr.zero p hp).1 hk
   have:=z1 p hp
   rcases Rat.mul_eq_zero.1 this with h|h
   ·grind
   ·exact h
  | succ k ih =>
   intro p hp hk
   obtain⟨t,ht,rfl,ht2⟩:=hr.down p hp (by omega)
   have hto:=(hR.UA t ht).2
   have hq:=ih t.2.1 hto (by omega)
   have e:=z2 t.2.1 hto
   have hge:=Wq (x:=y) (p:=t.2.1) hR.pos (fun u hu _=>hy _ (hR.UA u hu).1) t ht rfl
   have hpos:=(hR.ok t ht).2.2
   have hy1:=hy t.1 hp
   have h3:t.2.2*y t.1<=0:=by grind
   have h4:=agk (show 0<=t.2.2 by grind) hy1
   rcases Rat.mul_eq_zero.1 (show t.2.2*y t.1=0 by grind) with h|h
   ·grind
   ·exact h
 intro p hp
 have:=h0 p hp
 exact key (r p).toNat p hp (by omega)
def Tw (N:Nat) (tk:List Tk) (d x:Nat->Rat):Prop:=∀p,p<N->x p=d p+lP tk x p
theorem Qy (hR:jb N tk) (hr:oJ N tk r) (h0:∀p,p<N->0<=r p) {d x y:Nat->Rat} (hx:Tw N tk d x) (hy:Tw N tk d y):∀p,p<N->x p=y p:=by
 intro p hp
 have:=EA hR hr h0 (y:=fun j=>AV (x j-y j)) (fun _ _=>J8 _) (fun q hq=>by
  have h1:=Yw hR.pos (fun j=>x j-y j) q
  rw[Yx]at h1
  have e:x q-y q=lP tk x q-lP tk y q:=by have:=hx q hq;have:=hy q hq;grind
  try simp only
  rw[e];exact h1) p hp
 have:=Tz this
 grind
def dA (T:Nat->Bool) (x:Nat->Rat):List Tk->Rat
 | []=>0
 | t::l=>(if T t.2.1 && !T t.1 then t.2.2*x t.1 else 0)+dA T x l
theorem F1 {T:Nat->Bool} (x:Nat->Rat):∀ {l:List Tk},(∀t∈l,t.1<N∧t.2.1<N)->(∀t∈l,T t.1=true->T t.2.1=true)->sm N (fun p=>if T p=true then lP l x p else 0)=sm N (fun q=>if T q=true then nK l q*x q else 0)+dA T x l
 | [],_,_=>by simp only[lP,nK,dA];rw[kq (g:=fun _=>0) fun i _=>by split<;>rfl,kq (f:=fun q=>if T q=true then 0*x q else 0) (g:=fun _=>0) fun i _=>by split<;>grind,SX];grind
 | t::l,h,hT=>by
  obtain⟨h1,h2⟩:=h t (ae0 ..)
  have ih:=F1 (T:=T) x (fun t ht=>h t (ae1 _ ht)) (fun t ht=>hT t (ae1 _ ht))
  have e1:sm N (fun p=>if T p=true then lP (t::l) x p else 0)=(if T t.2.1=true then t.2.2*x t.1 else 0)+sm N (fun p=>if T p=true then lP l x p else 0):=by
   rw[<- vQ (n:=N) (t:=t.2.1) (if T t.2.1=true then t.2.2*x t.1 else 0) h2,<- Ec]
   refine kq fun p _ =>?_
   simp only[lP]
   by_cases hp:t.2.1=p
   ·subst hp;rw[if_pos rfl];split<;>grind
   ·rw[if_neg hp,if_neg hp];split<;>grind
  have e2:sm N (fun q=>if T q=true then nK (t::l) q*x q else 0)=(if T t.1=true then t.2.2*x t.1 else 0)+sm N (fun q=>if T q=true then nK l q*x q else 0):=by
   rw[<- vQ (n:=N) (t:=t.1) (if T t.1=true then t.2.2*x t.1 else 0) h1,<- Ec]
   refine kq fun p _ =>?_
   simp only[nK]
   by_cases hp:t.1=p
   ·subst hp;rw[if_pos rfl,if_pos rfl];split<;>grind
   ·rw[if_neg hp,if_neg hp];split<;>grind
  rw[e1,e2,ih]
  simp only[dA]
  have:=hT t (ae0 ..)
  cases h3:T t.1<;>cases h4:T t.2.1<;>simp[h3,h4]at this ⊢<;>grind
theorem Xf (hR:jb N tk) {d x:Nat->Rat} (hx:Tw N tk d x) {T:Nat->Bool} (hT:∀t∈tk,T t.1=true->T t.2.1=true) (hl:∀p,p<N->T p=true->dE tk p=0):sm N (fun p=>if T p=true then d p else 0)+dA T x tk=0:=by
 have h1:=F1 (T:=T) x hR.UA hT
 have e1:sm N (fun p=>if T p=true then x p else 0)=sm N (fun p=>if T p=true then d p else 0)+sm N (fun p=>if T p=true then lP tk x p else 0):=by
  rw[<- Ec]
  refine kq fun p hp =>?_
  have:=hx p hp
  split<;>grind
 have e2:sm N (fun q=>if T q=true then nK tk q*x q else 0)=sm N (fun p=>if T p=true then x p else 0):=kq fun p hp=>by
  by_cases h:T p=true
  ·rw[if_pos h,if_pos h]
   have:=hl p hp h
   unfold dE at this
   have:nK tk p=1:=by grind
   rw[this];grind
  ·rw[if_neg h,if_neg h]
 grind
end Go.Proofs.Ytchndpjlijbplaa.P
namespace Go.Proofs.Ytchndpjlijbplaa.P
open Go.RowKit
set_option linter.unusedSimpArgs false
set_option linter.unusedVariables false
abbrev Tm:=Nat×Rat
def iR (t:Tm):dL:=dL.mk (t.1:Int) (bR t.2)
structure QE where
 D:Rat
 T:List Tm
def mkEq (e:QE):aw:=aw.mk (bR e.D) (e.T.map iR)
def cd:List Tm->(Nat->Rat)->Rat
 | [],_=>0
 | t::l,x=>t.2*x t.1+cd l x
theorem nh (a b:List Tm) (x:Nat->Rat):cd (a++b) x=cd a x+cd b x:=by
 induction a with
 | nil=>simp only[List.nil_append,cd];grind
 | cons t a ih=>simp only[List.cons_append,cd];rw[ih];grind
abbrev il (T:List Tm):Prop:=T.Pairwise fun a b=>a.1<b.1
def kl (T:List Tm) (k:Nat):List Tm:=T.filter fun t=>decide (t.1<k)
def yK (T:List Tm) (k:Nat):List Tm:=T.filter fun t=>decide (k<t.1)
def eg:List Tm->Nat->Option Rat
 | [],_=>none
 | t::l,k=>if t.1=k then some t.2 else eg l k
theorem Jm {T:List Tm} {k:Nat} {t:Tm} : t∈kl T k↔t∈T∧t.1<k:=by unfold kl;simp[ae7]
theorem Di {T:List Tm} {k:Nat} {t:Tm} : t∈yK T k↔t∈T∧k<t.1:=by unfold yK;simp[ae7]
theorem PQ {T:List Tm} {k:Nat} (h:∀t∈T,k<=t.1):kl T k=[]:=by
 unfold kl
 rw[List.filter_eq_nil_iff]
 intro t ht
 have:=h t ht
 simp;omega
theorem Wn {T:List Tm} {k:Nat} (h:∀t∈T,k<t.1):yK T k=T:=by
 unfold yK
 rw[List.filter_eq_self]
 intro t ht
 simpa using h t ht
theorem TH {T:List Tm} {k:Nat} (h:∀t∈T,t.1≠k):eg T k=none:=by
 induction T with
 | nil=>rfl
 | cons t T ih=>rw[eg,if_neg (h t (ae0 ..)),ih fun u hu=>h u (ae1 _ hu)]
theorem vR {k:Nat} : ∀ {T:List Tm},il T->(eg T k=none∧T=kl T k++yK T k)∨∃c,eg T k=some c∧T=kl T k++(k,c)::yK T k
 | [],_ =>.inl ⟨rfl,rfl⟩
 | t::T,h=>by
  obtain⟨h1,h2⟩:=ae8.1 h
  rcases agl t.1 k with hk|hk|hk
  ·have e1:kl (t::T) k=t::kl T k:=agf (by simpa using hk)
   have e2:yK (t::T) k=yK T k:=agh (by simp;omega)
   have e3:eg (t::T) k=eg T k:=by rw[eg,if_neg (by omega)]
   rw[e1,e2,e3]
   rcases vR (k:=k) h2 with⟨g1,g2⟩|⟨c,g1,g2⟩
   ·exact .inl ⟨g1,by rw[afp,<- g2]⟩
   ·exact .inr ⟨c,g1,by rw[afp,<- g2]⟩
  ·subst hk
   have e1:kl (t::T) t.1=[]:=PQ fun u hu=>by
    rcases adH.1 hu with rfl|hu
    ·exact adA _
    ·have:=h1 u hu;omega
   have e2:yK (t::T) t.1=T:=by
    rw[show yK (t::T) t.1=yK T t.1 from agh (by simp),Wn h1]
   refine .inr ⟨t.2,by rw[eg,if_pos rfl],?_⟩
   rw[e1,e2];rfl
  ·have e1:kl (t::T) k=[]:=PQ fun u hu=>by
    rcases adH.1 hu with rfl|hu
    ·omega
    ·have:=h1 u hu;omega
   have e2:yK (t::T) k=t::T:=Wn fun u hu=>by
    rcases adH.1 hu with rfl|hu
    ·exact hk
    ·have:=h1 u hu;omega
   refine .inl ⟨TH fun u hu =>?_,by rw[e1,e2];rfl⟩
   rcases adH.1 hu with rfl|hu
   ·omega
   ·have:=h1 u hu;omega
def je (T:List Tm) (k:Nat):List Tm:=kl T k++yK T k
def Ja (T:List Tm) (k:Nat) (a:Rat):List Tm:=kl T k++(k,a)::yK T k
def BG (T:List Tm) (k:Nat) (v:Rat):List Tm:=Ja T k ((eg T k).getD 0+v)
theorem iG {T:List Tm} {k:Nat} {t:Tm} : t∈je T k↔t∈T∧t.1≠k:=by
 unfold je
 rw[aeI,Jm,Di]
 constructor
 ·rintro (⟨h1,h2⟩|⟨h1,h2⟩)<;>exact⟨h1,by omega⟩
 ·rintro⟨h1,h2⟩
  rcases ael t.1 k with h|h
  ·exact .inl ⟨h1,h⟩
  ·exact .inr ⟨h1,by omega⟩
theorem Jl {T:List Tm} {k:Nat} {a:Rat} {t:Tm} : t∈Ja T k a↔t=(k,a)∨t∈je T k:=by
 unfold Ja je
 simp only[aeI,adH]
 constructor
 ·rintro (h|h|h)<;>simp[h]
 ·rintro (h|h|h)<;>simp[h]
theorem Ed {T:List Tm} (h:il T) (k:Nat):il (je T k):=by
 unfold je
 rw[il,ae9]
 refine⟨h.filter _,h.filter _,fun a ha b hb =>?_⟩
 have:=(Jm.1 ha).2
 have:=(Di.1 hb).2
 omega
theorem Xg {T:List Tm} (h:il T) (k:Nat) (a:Rat):il (Ja T k a):=by
 unfold Ja
 rw[il,ae9,ae8]
 refine⟨h.filter _,⟨fun b hb=>(Di.1 hb).2,h.filter _⟩,fun x hx b hb =>?_⟩
 have h1:=(Jm.1 hx).2
 rcases adH.1 hb with rfl|hb
 ·exact h1
 ·have:=(Di.1 hb).2;omega
theorem vx {T:List Tm} (h:il T) (k:Nat) (x:Nat->Rat):cd T x=cd (je T k) x+(eg T k).getD 0*x k:=by
 rcases vR (k:=k) h with⟨g1,g2⟩|⟨c,g1,g2⟩
 ·rw[g1];unfold je;rw[<- g2];simp only[Option.getD_none];grind
 ·have e:cd T x=cd (kl T k++(k,c)::yK T k) x:=by rw[<- g2]
  rw[e,g1]
  unfold je
  rw[nh,nh]
  simp only[cd,Option.getD_some]
  grind
theorem YD {T:List Tm} (k:Nat) (a:Rat) (x:Nat->Rat):cd (Ja T k a) x=cd (je T k) x+a*x k:=by
 unfold Ja je
 rw[nh,nh]
 simp only[cd]
 grind
theorem YB {T:List Tm} (h:il T) (k:Nat) (v:Rat) (x:Nat->Rat):cd (BG T k v) x=cd T x+v*x k:=by
 unfold BG
 rw[YD,vx h k x]
 grind
theorem m8 {T:List Tm} {k:Nat} {c:Rat} (h:eg T k=some c):(k,c)∈T:=by
 induction T with
 | nil=>cases h
 | cons t T ih =>
  rw[eg]at h
  split at h
  ·rename_i hk
   cases h
   rw[<- hk]
   exact ae0 ..
  ·exact ae1 _ (ih h)
theorem G0 {x y:Nat->Rat} : ∀ {T:List Tm},(∀t∈T,x t.1=y t.1)->cd T x=cd T y
 | [],_=>rfl
 | t::T,h=>by rw[cd,cd,h t (ae0 ..),G0 fun u hu=>h u (ae1 _ hu)]
theorem sk {x:Nat->Rat} : ∀ {T:List Tm},(∀t∈T,0<=t.2)->(∀t∈T,0<=x t.1)->0<=cd T x
 | [],_,_=>by simp only[cd];grind
 | t::T,h,hx=>by
  have h1:=agk (h t (ae0 ..)) (hx t (ae0 ..))
  have h2:=sk (T:=T) (fun u hu=>h u (ae1 _ hu)) fun u hu=>hx u (ae1 _ hu)
  simp only[cd];grind
theorem YC (T:List Tm) (c:Rat) (x:Nat->Rat):cd (T.map fun t=>(t.1,t.2 / c)) x=cd T x / c:=by
 induction T with
 | nil=>simp only[aeo,cd];grind
 | cons t T ih=>simp only[adG,cd];rw[ih];grind
structure Rf (N K:Nat) (T:List Tm):Prop where
 sorted:il T
 lt:∀t∈T,t.1<N
 sz:∀t∈T,LF t.2<=K
theorem Rf.len {N K:Nat} {T:List Tm} (h:Rf N K T):T.length<=N:=by
 have h1:=yk N (T.map (·.1)) (by
  rw[List.Nodup,List.pairwise_map]
  exact h.sorted.imp fun h=>by omega) (fun x hx=>by
  obtain⟨t,ht,rfl⟩:=adz.1 hx
  exact h.lt t ht)
 simpa using h1
theorem Rf.rem {N K:Nat} {T:List Tm} (h:Rf N K T) (k:Nat):Rf N K (je T k):=⟨Ed h.sorted k,fun t ht=>h.lt t (iG.1 ht).1,fun t ht=>h.sz t (iG.1 ht).1⟩
theorem Rf.mono {N K K':Nat} {T:List Tm} (h:Rf N K T) (hk:K<=K'):Rf N K' T:=⟨h.sorted,h.lt,fun t ht=>adC (h.sz t ht) hk⟩
theorem abI (x:Int):xm .u64 x 1=some (x / 2):=by
 unfold xm
 rw[if_neg (by decide)]
 have e:(2:Int) ^ (min (Int.toNat 1) IntKind.u64.bits)=2:=by decide
 rw[e,afJ _ (by decide)]
theorem ZN {k:Nat} : ∀ {T:List Tm},il T->∀(i:Nat) t,T[i]? = some t->(t.1<k↔i<(kl T k).length)
 | [],_,i,t,h=>by simp at h
 | a::T,hs,i,t,h=>by
  obtain⟨h1,h2⟩:=ae8.1 hs
  by_cases ha:a.1<k
  ·have e1:kl (a::T) k=a::kl T k:=agf (by simpa using ha)
   rw[e1,ad0]
   cases i with
   | zero=>simp only[List.getElem?_cons_zero,adJ]at h;subst h;simp[ha]
   | succ i =>
    have:=ZN (k:=k) h2 i t (by simpa using h)
    omega
  ·have e1:kl (a::T) k=[]:=PQ fun u hu=>by
    rcases adH.1 hu with rfl|hu
    ·omega
    ·have:=h1 u hu;omega
   rw[e1]
   have:¬t.1<k:=by
    rcases adH.1 (ad2 h) with rfl|hu
    ·exact ha
    ·have:=h1 t hu;omega
   simp[this]
theorem CI (t:Tm) (k:Nat):cr (iR t) (k:Int)=some (ij (t.1:Int) (k:Int)):=by
 unfold cr
 rw[y4];rfl
theorem KS {a b:Int} : ij a b<0↔a<b:=by unfold ij;split<;>(try split)<;>simp at *<;>omega
theorem FZ {a b:Int} : ij a b=0↔a=b:=by unfold ij;split<;>(try split)<;>simp at *<;>omega
theorem O6 {T:List Tm} (hs:il T) (hl:T.length<=2000) (k:Nat) :
  aR (T.map iR) (k:Int)=some (((kl T k).length:Int),(eg T k).isSome):=by
 have hlo:(kl T k).length<=T.length:=agd ..
 have key:=fun hst=>pf (body:=bE (T.map iR) (k:Int)) (I:=fun (s:Int×Int)=>∃lo hi:Nat,s=((lo:Int),(hi:Int))∧lo<=(kl T k).length∧(kl T k).length<=hi∧hi<=T.length) (μ:=fun (s:Int×Int)=>(s.2-s.1).toNat)
  (fun r=>r=((kl T k).length:Int)) (s:=(0,((T.map iR).length:Int))) ⟨0,T.length,by simp,by omega,hlo,adA _⟩ (by simp only[ad4];unfold FU;omega) hst
 obtain⟨r,h1,rfl⟩:=key (by
  rintro _ ⟨lo,hi,rfl,h1,h2,h3⟩
  simp only[bE]
  by_cases hc:lo<hi
  ·have hm:(lo+hi) / 2<T.length:=by omega
   have hg:(T.map iR)[(lo+hi) / 2]? = some (iR T[(lo+hi) / 2]):=by rw[adx,adN hm];rfl
   have hlt:=ZN (k:=k) hs ((lo+hi) / 2) _ (adN hm)
   have e1:IntKind.i64.wrap ((lo:Int)+hi)=(lo:Int)+hi:=wrap64 (by omega) (by omega)
   have e2:IntKind.u64.wrap ((lo:Int)+hi)=(lo:Int)+hi:=wu (by omega)
   have e3:IntKind.i64.wrap (((lo:Int)+hi) / 2)=(((lo+hi) / 2:Nat):Int):=by rw[wrap64 (by omega) (by omega)];omega
   rw[if_pos (by simpa using hc),e1,e2,abI,ae4,e3,bO hg,ae4,CI,ae4]
   refine .inl ?_
   by_cases hk:T[(lo+hi) / 2].1<k
   ·rw[if_pos (by simp only[decide_eq_true_eq];exact KS.2 (by omega)),cp (by omega)]
    refine⟨_,rfl,⟨(lo+hi) / 2+1,hi,rfl,by have:=hlt.1 hk;omega,h2,h3⟩,?_⟩
    simp only;omega
   ·rw[if_neg (by simp only[decide_eq_true_eq];intro h;exact hk (by have:=KS.1 h;omega))]
    refine⟨_,rfl,⟨lo,(lo+hi) / 2,rfl,h1,by have:¬(lo+hi) / 2<(kl T k).length:=fun h=>hk (hlt.2 h);omega,by omega⟩,?_⟩
    simp only;omega
  ·rw[if_neg (by simpa using hc)]
   exact .inr ⟨_,rfl,by omega⟩)
 unfold aR
 rw[h1,ae4]
 rcases vR (k:=k) hs with⟨g1,g2⟩|⟨c,g1,g2⟩
 ·rw[g1]
  by_cases hlt:(kl T k).length<T.length
  ·have hg:(T.map iR)[(kl T k).length]? = some (iR T[(kl T k).length]):=by rw[adx,adN hlt];rfl
   rw[if_pos (by simpa using hlt),bO hg,ae4,CI,ae4]
   have hne:T[(kl T k).length].1≠k:=by
    have hm:T[(kl T k).length]∈kl T k++yK T k:=by rw[<- g2];exact adM hlt
    rcases aeI.1 hm with h|h
    ·have:=(Jm.1 h).2;omega
    ·have:=(Di.1 h).2;omega
   have:ij (T[(kl T k).length].1:Int) (k:Int)≠0:=fun h=>hne (by have:=FZ.1 h;omega)
   simp[this]
  ·rw[if_neg (by simpa using hlt)];rfl
 ·rw[g1]
  have hgT:T[(kl T k).length]? = some (k,c):=by
   have:(kl T k++(k,c)::yK T k)[(kl T k).length]? = some (k,c):=by simp
   rwa [<- g2]at this
  have hlt:=b7 hgT
  have hg:(T.map iR)[(kl T k).length]? = some (iR (k,c)):=by rw[adx,hgT];rfl
  rw[if_pos (by simpa using hlt),bO hg,ae4,CI,ae4]
  have:ij ((k,c).1:Int) (k:Int)=0:=FZ.2 rfl
  rw[this];rfl
theorem find_eq {e:QE} (hs:il e.T) (hl:e.T.length<=2000) (k:Nat):cu (mkEq e) (k:Int)=some (mkEq e,((kl e.T k).length:Int),(eg e.T k).isSome):=by
 unfold cu mkEq
 rw[O6 hs hl,ae4]
theorem zl {a x y:Rat} (h:LF a+(LF x+LF y)+1<=dx):fi (bR a) (bR x) (bR y)=some (bR (a+x*y)):=by
 unfold fi
 have:=wT x y
 rw[Y7 (by omega),ae4]
 simp only
 rw[Q3 (by omega),ae4]
theorem abi:g9 0=some (bR 0):=Y6 (n:=0) (by decide)
theorem OR:LF 1<=1:=OQ (n:=1) (by decide)
theorem IA:LF 0<=1:=OQ (n:=0) (by decide)
def aa8 (e:QE) (k:Nat) (v:Rat):QE:=⟨e.D,BG e.T k v⟩
end Go.Proofs.Ytchndpjlijbplaa.P
