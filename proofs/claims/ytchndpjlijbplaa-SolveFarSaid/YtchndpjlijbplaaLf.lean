/- Part of a proof, made small by a program (wip/mini.py). -/
import Derived.Test.YtchndpjlijbplaaLe
namespace Go.Proofs.Ytchndpjlijbplaa.Am
open Go.RowKit Go.Proofs.Ytchndpjlijbplaa.P
set_option maxRecDepth 100000
set_option maxHeartbeats 4000000
set_option linter.unusedSimpArgs false
set_option linter.unusedVariables false
theorem Ev (p0:bW) (p1:(List ak)) (p2:(List ak)) (r:Bool) (hh:kV p0 p1 p2=some r):ba .clean tab mB FU Try.f15 none [.agg [.int .i64 p0.aG,.sl false false p0.av.length (ae a8 p0.av)],.sl false false p1.length (ae ay p1),.sl false false p2.length (ae ay p2)]=some (.clean (.bool r),none):=by
 refine aC rfl Try.ntmps15 Try.results15 ?_
 unfold kV at hh
 obtain⟨r1,hr1,hh⟩:=ah hh
 try simp only[aT,seval,hr1]
 obtain⟨o2,ho2,hh⟩:=ah hh
 refine bF 0 (fun s t H e=>match s with|s28j1=>∃v3j1:Nat,t 1=.sl false false p1.length (ae ay p1)∧t 2=.sl false false p2.length (ae ay p2)∧t 3=.ptr 3 v3j1 0∧t 28=.bool s28j1∧H 3=some ⟨v3j1,24,[.int .i64 p0.aG,.sl false false p0.av.length (ae a8 p0.av)],false,false,false⟩) (fun s=>s=o2) ?_ ?_
 ·rintro s28j1 t H e ⟨v3j1,Zj1⟩ rfl
  try dsimp only at hh
  try simp only[aT,seval,hr1,Zj1]
  refine sp aq hh (fun _ hh =>?_) (fun _ hh =>?_)
  ·cases hh
   try simp only[aT,seval,hr1,Zj1]
  ·obtain⟨r4,hr4,hh⟩:=ah hh
   try simp only[aT,seval,hr1,Zj1,hr4]
   obtain⟨o19,ho19,hh⟩:=ah hh
   refine aB (fun s t H e=>match s with|s33b=>t 2=.sl false false p2.length (ae ay p2)∧t 31=.sl false false r4.length (ae cz r4)∧t 32=.int .i64 (r4.length:Int)∧t 33=.int .i64 s33b) (fun o x t H e=>match o with|(.inl _)=>x=.exit 0|(.inr r)=>x=.ret∧jd .clean tab none [.tmp 6] ⟨t,EH H,e⟩=some (.clean (.bool r),none)) ho19 ?_ ?_ ?_
   ·refine⟨?_,?_,?_,?_⟩
    all_goals first|rfl|(simp only[aT,seval,hr1,Zj1,hr4]<;>rfl)
   ·rintro s33b t H e Zb c hh
    simp only[uc]at hh
    try simp only[aT,seval,hr1,hr4,Zb]
    refine sp aq hh (fun _ hh =>?_) (fun _ hh =>?_)
    ·obtain⟨x21,hx21,hh⟩:=ah hh
     have ax21:=bK cz hx21
     simp only[bC]at ax21
     try simp only[aT,seval,hr1,hr4,Zb,ax21]
     obtain⟨o26,ho26,hh⟩:=ah hh
     refine aB (fun s t H e=>match s with|(s43d,r9_0d,r9_1d,r9_2d,r9_3d)=>∃v9d:Nat,t 2=.sl false false p2.length (ae ay p2)∧t 7=.int .i64 s33b∧t 9=.ptr 9 v9d 0∧t 31=.sl false false r4.length (ae cz r4)∧t 32=.int .i64 (r4.length:Int)∧t 33=.int .i64 s33b∧t 41=.sl false false x21.bl.length (ae bo x21.bl)∧t 42=.int .i64 (x21.bl.length:Int)∧t 43=.int .i64 s43d∧H 9=some ⟨v9d,41,[.int .i64 r9_0d,.sl false false r9_1d.length (ae (eI .i64) r9_1d),.int .i64 r9_2d,.sl false false r9_3d.length (ae (eI .i64) r9_3d)],false,false,false⟩) (fun o x t H e=>match o with|(r9_0dx,r9_1dx,r9_2dx,r9_3dx)=>x=.exit 2∧∃v9dx:Nat,t 2=.sl false false p2.length (ae ay p2)∧t 7=.int .i64 s33b∧t 9=.ptr 9 v9dx 0∧t 31=.sl false false r4.length (ae cz r4)∧t 32=.int .i64 (r4.length:Int)∧t 33=.int .i64 s33b∧H 9=some ⟨v9dx,41,[.int .i64 r9_0dx,.sl false false r9_1dx.length (ae (eI .i64) r9_1dx),.int .i64 r9_2dx,.sl false false r9_3dx.length (ae (eI .i64) r9_3dx)],false,false,false⟩) ho26 ?_ ?_ ?_
     ·refine⟨e+1+1,?_,?_,?_,?_,?_,?_,?_,?_,?_,?_⟩
      all_goals first|rfl|(simp only[aT,seval,hr1,hr4,Zb,ax21]<;>rfl)
     ·rintro⟨s43d,r9_0d,r9_1d,r9_2d,r9_3d⟩ t H e ⟨v9d,Zd⟩ c hh
      simp only[ud]at hh
      try simp only[aT,seval,hr1,hr4,ax21,Zd]
      refine sp aq hh (fun _ hh =>?_) (fun _ hh =>?_)
      ·obtain⟨x28,hx28,hh⟩:=ah hh
       have ax28:=bK bo hx28
       simp only[bC]at ax28
       obtain⟨x29,hx29,hh⟩:=ah hh
       have ax29:=bK ay hx29
       simp only[bC]at ax29
       obtain⟨r30,hr30,hh⟩:=ah hh
       try simp only[aT,seval,hr1,hr4,ax21,Zd,ax28,ax29,hr30]
       refine bn (by kernel_rfl) ?_
       cases hh
       try simp only[aT,seval,hr1,hr4,ax21,Zd,ax28,ax29,hr30]
       refine jz ?_
       refine⟨v9d,?_,?_,?_,?_,?_,?_,?_,?_,?_,?_⟩
       all_goals first|rfl|(simp only[aT,seval,hr1,hr4,ax21,Zd,ax28,ax29,hr30]<;>rfl)
      ·cases hh
       try simp only[aT,seval,hr1,hr4,ax21,Zd]
       refine kK ?_
       refine⟨rfl,⟨v9d,?_,?_,?_,?_,?_,?_,?_⟩⟩
       all_goals first|rfl|(simp only[aT,seval,hr1,hr4,ax21,Zd]<;>rfl)
     ·rintro x t H e hx
      rcases o26 with⟨r9_0dx,r9_1dx,r9_2dx,r9_3dx⟩
      dsimp only at hx hh
      obtain⟨rfl,⟨v9dx,Zdx⟩⟩:=hx
      obtain⟨x31,hx31,hh⟩:=ah hh
      have ax31:=bK ay hx31
      simp only[bC]at ax31
      obtain⟨r32,hr32,hh⟩:=ah hh
      try simp only[aT,seval,hr1,hr4,ax21,Zdx,ax31,hr32]
      refine bn (by kernel_rfl) ?_
      try simp only[aT,seval,hr1,hr4,ax21,Zdx,ax31,hr32]
      refine sp aq hh (fun _ hh =>?_) (fun _ hh =>?_)
      ·cases hh
       try simp only[aT,seval,hr1,hr4,ax21,Zdx,ax31,hr32]
       refine IG ⟨rfl,?_⟩
       try simp only[aT,seval,hr1,hr4,ax21,Zdx,ax31,hr32]
      ·cases hh
       try simp only[aT,seval,hr1,hr4,ax21,Zdx,ax31,hr32]
       refine jz ?_
       refine⟨?_,?_,?_,?_⟩
       all_goals first|rfl|(simp only[aT,seval,hr1,hr4,ax21,Zdx,ax31,hr32]<;>rfl)
    ·cases hh
     try simp only[aT,seval,hr1,hr4,Zb]
     refine kK ?_
     exact rfl
   ·rintro x t H e hx
    rcases o19 with _|rb
    ·dsimp only at hx hh
     subst hx
     cases hh
     try simp only[aT,seval,hr1,hr4]
    ·dsimp only at hx hh
     obtain⟨rfl,hE⟩:=hx
     cases hh
     try simp only[bO,bE,bV,ey,ew,dm,dn]
     exact hE
 ·clear hh
  have hh:=ho2
  try simp only[aT,seval,hr1]
  refine sp bc hh (fun _ hh =>?_) (fun _ hh =>?_)
  ·cases hh
   try simp only[aT,seval,hr1]
   rw[au]
   refine⟨_,rfl,?_⟩
   refine⟨0,?_,?_,?_,?_,?_⟩
   all_goals first|rfl|(simp only[aT,seval,hr1]<;>rfl)
  ·obtain⟨r35,hr35,hh⟩:=ah hh
   try simp only[aT,seval,hr1,hr35]
   refine sp bc hh (fun _ hh =>?_) (fun _ hh =>?_)
   ·cases hh
    try simp only[aT,seval,hr1,hr35]
    rw[au]
    refine⟨_,rfl,?_⟩
    refine⟨0,?_,?_,?_,?_,?_⟩
    all_goals first|rfl|(simp only[aT,seval,hr1,hr35]<;>rfl)
   ·obtain⟨r37,hr37,hh⟩:=ah hh
    cases hh
    try simp only[aT,seval,hr1,hr35,hr37]
    rw[au]
    refine⟨_,rfl,?_⟩
    refine⟨0,?_,?_,?_,?_,?_⟩
    all_goals first|rfl|(simp only[aT,seval,hr1,hr35,hr37]<;>rfl)
theorem tQ:bX Try.prog 15 mo:=bX.of (mode := .clean) tok Cy mixed Try.func15 (by kernel_rfl) ⟨by kernel_rfl,by kernel_rfl⟩ (fun _=>aeX (by kernel_rfl)) (fun x r h=>Ev x.1 x.2.1 x.2.2 r h)
noncomputable def wk:=fR (iO (cN ns) (iO (nc (eI .i64)) (fO (nc (eI .i64))))) (fun x:bW×(List Int)×(List Int)=>mQ x.1 x.2.1 x.2.2) (fun r:Bool =>.clean (.bool r))
theorem mj (p0_0:Int) (p0_1:(List dr)) (p1:(List Int)) (p2:(List Int)):wk none [.agg [.int .i64 p0_0,.sl false false p0_1.length (ae a8 p0_1)],.sl false false p1.length (ae (eI .i64) p1),.sl false false p2.length (ae (eI .i64) p2)]=(mQ (bW.mk p0_0 p0_1) p1 p2).map fun r:Bool=>(.clean (.bool r),none):=aU _ _ _ ((bW.mk p0_0 p0_1),p1,p2)
noncomputable def rD:Env:=(Am.ext (Am.ext (Am.ext (Am.ext a7 13 false oc) 15 false mo) 16 false wv) 32 false qH)
theorem Lo:bB Try.prog rD:=((((bB.none.add tR false).add tQ false).add Nj false).add z8 false)
theorem iu:type_of% (ai @w<|ai @im<|ai @j2<|ai @Dx<|ai @jl<|@rD.eq_1):=⟨@w,@im,@j2,@Dx,@jl,@rD.eq_1⟩
theorem PB (p0:bW) (p1:(List Int)) (p2:(List Int)) (r:Bool) (hh:mQ p0 p1 p2=some r):ba .clean tab rD FU Try.f33 none [.agg [.int .i64 p0.aG,.sl false false p0.av.length (ae a8 p0.av)],.sl false false p1.length (ae (eI .i64) p1),.sl false false p2.length (ae (eI .i64) p2)]=some (.clean (.bool r),none):=by
 refine aC rfl Try.ntmps33 Try.results33 ?_
 unfold mQ at hh
 obtain⟨r1,hr1,hh⟩:=ah hh
 obtain⟨r2,hr2,hh⟩:=ah hh
 try simp only[iu,seval,hr1,hr2]
 refine bn (by kernel_rfl) ?_
 try simp only[iu,seval,hr1,hr2]
 refine sp pR hh (fun _ hh =>?_) (fun _ hh =>?_)
 ·obtain⟨r4,hr4,hh⟩:=ah hh
  obtain⟨r5,hr5,hh⟩:=ah hh
  try simp only[iu,seval,hr1,hr2,hr4,hr5]
  refine sp pR hh (fun _ hh =>?_) (fun _ hh =>?_)
  ·obtain⟨r7,hr7,hh⟩:=ah hh
   try simp only[iu,seval,hr1,hr2,hr4,hr5,hr7]
   refine bn (by kernel_rfl) ?_
   cases hh
   try simp only[iu,seval,hr1,hr2,hr4,hr5,hr7]
  ·try simp only[iu,seval,hr1,hr2,hr4,hr5]
   refine bn (by kernel_rfl) ?_
   cases hh
   try simp only[iu,seval,hr1,hr2,hr4,hr5]
 ·try simp only[iu,seval,hr1,hr2]
  refine bn (by kernel_rfl) ?_
  cases hh
  try simp only[iu,seval,hr1,hr2]
theorem Nf:bX Try.prog 33 wk:=bX.of (mode := .clean) tok Lo mixed Try.func33 (by kernel_rfl) ⟨by kernel_rfl,by kernel_rfl⟩ (fun _=>aeX (by kernel_rfl)) (fun x r h=>PB x.1 x.2.1 x.2.2 r h)
noncomputable def s4:=fR (as0) (fun x:Unit=>nW) (fun r:Bool =>.clean (.bool r))
theorem Ah:s4 none []=(nW).map fun r:Bool=>(.clean (.bool r),none):=aU _ _ _ ()
noncomputable def po:Env:=(Am.ext (Am.ext (Am.ext (Am.ext (Am.ext a7 13 false oc) 15 false mo) 31 false wm) 32 false qH) 33 false wk)
theorem Iu:bB Try.prog po:=(((((bB.none.add tR false).add tQ false).add Ng false).add z8 false).add Nf false)
theorem bq:type_of% (ai @w<|ai @im<|ai @j2<|ai @Dv<|ai @jl<|ai @mj<|@po.eq_1):=⟨@w,@im,@j2,@Dv,@jl,@mj,@po.eq_1⟩
theorem Mw (r:Bool) (hh:nW=some r):ba .clean tab po FU Try.f8 none []=some (.clean (.bool r),none):=by
 refine aC rfl Try.ntmps8 Try.results8 ?_
 unfold nW at hh
 obtain⟨r1,hr1,hh⟩:=ah hh
 obtain⟨r2,hr2,hh⟩:=ah hh
 obtain⟨r3,hr3,hh⟩:=ah hh
 obtain⟨r4,hr4,hh⟩:=ah hh
 obtain⟨r5,hr5,hh⟩:=ah hh
 obtain⟨r6,hr6,hh⟩:=ah hh
 have i7:=jl ([1,0])
 simp only[aJ,bC,List.length_cons,List.length_nil,ad4,Nat.reduceAdd,aff]at i7
 obtain⟨r8,hr8,hh⟩:=ah hh
 have i9:=im 2 ([r3,r6]) r8
 simp only[aJ,bC,List.length_cons,List.length_nil,ad4,Nat.reduceAdd,aff]at i9
 obtain⟨r10,hr10,hh⟩:=ah hh
 try simp only[bq,seval,hr1,hr2,hr3,hr4,hr5,hr6,i7,hr8,i9,hr10]
 refine bn (by kernel_rfl) ?_
 have i11:=jl ([1])
 simp only[aJ,bC,List.length_cons,List.length_nil,ad4,Nat.reduceAdd,aff]at i11
 obtain⟨r12,hr12,hh⟩:=ah hh
 have i13:=im 2 ([r1,r2]) r12
 simp only[aJ,bC,List.length_cons,List.length_nil,ad4,Nat.reduceAdd,aff]at i13
 obtain⟨r14,hr14,hh⟩:=ah hh
 try simp only[bq,seval,hr1,hr2,hr3,hr4,hr5,hr6,i7,hr8,i9,hr10,i11,hr12,i13,hr14]
 refine bn (by kernel_rfl) ?_
 have i15:=mj 2 ([r1,r2]) ([30,0]) ([40,20])
 simp only[aJ,bC,List.length_cons,List.length_nil,ad4,Nat.reduceAdd,aff]at i15
 obtain⟨r16,hr16,hh⟩:=ah hh
 try simp only[bq,seval,hr1,hr2,hr3,hr4,hr5,hr6,i7,hr8,i9,hr10,i11,hr12,i13,hr14,i15,hr16]
 obtain⟨o17,ho17,hh⟩:=ah hh
 refine bF 0 (fun s t H e=>match s with|s9j1=>∃v1j1:Nat,t 1=.ptr 1 v1j1 0∧t 6=.int .i64 r10.2∧t 8=.int .i64 r14.2∧t 9=.bool s9j1∧H 1=some ⟨v1j1,24,[.int .i64 2,.sl false false ([r1,r2]).length (ae a8 ([r1,r2]))],false,false,false⟩) (fun s=>s=o17) ?_ ?_
 ·rintro s9j1 t H e ⟨v1j1,Zj1⟩ rfl
  try dsimp only at hh
  try simp only[bq,seval,hr1,hr2,hr3,hr4,hr5,hr6,i7,hr8,i9,hr10,i11,hr12,i13,hr14,i15,hr16,Zj1]
  refine sp pR hh (fun _ hh =>?_) (fun _ hh =>?_)
  ·try simp only[bq,seval,hr1,hr2,hr3,hr4,hr5,hr6,i7,hr8,i9,hr10,i11,hr12,i13,hr14,i15,hr16,Zj1]
   refine sp pR hh (fun _ hh =>?_) (fun _ hh =>?_)
   ·try simp only[bq,seval,hr1,hr2,hr3,hr4,hr5,hr6,i7,hr8,i9,hr10,i11,hr12,i13,hr14,i15,hr16,Zj1]
    refine sp pR hh (fun _ hh =>?_) (fun _ hh =>?_)
    ·have i21:=jl ([30,0])
     simp only[aJ,bC,List.length_cons,List.length_nil,ad4,Nat.reduceAdd,aff]at i21
     obtain⟨r22,hr22,hh⟩:=ah hh
     have i23:=jl ([40,21])
     simp only[aJ,bC,List.length_cons,List.length_nil,ad4,Nat.reduceAdd,aff]at i23
     obtain⟨r24,hr24,hh⟩:=ah hh
     have i25:=j2 2 ([r1,r2]) r22 r24
     simp only[aJ,bC,List.length_cons,List.length_nil,ad4,Nat.reduceAdd,aff]at i25
     obtain⟨r26,hr26,hh⟩:=ah hh
     try simp only[bq,seval,hr1,hr2,hr3,hr4,hr5,hr6,i7,hr8,i9,hr10,i11,hr12,i13,hr14,i15,hr16,Zj1,i21,hr22,i23,hr24,i25,hr26]
     refine bn (by kernel_rfl) ?_
     cases hh
     try simp only[bq,seval,hr1,hr2,hr3,hr4,hr5,hr6,i7,hr8,i9,hr10,i11,hr12,i13,hr14,i15,hr16,Zj1,i21,hr22,i23,hr24,i25,hr26]
    ·try simp only[bq,seval,hr1,hr2,hr3,hr4,hr5,hr6,i7,hr8,i9,hr10,i11,hr12,i13,hr14,i15,hr16,Zj1]
     refine bn (by kernel_rfl) ?_
     cases hh
     try simp only[bq,seval,hr1,hr2,hr3,hr4,hr5,hr6,i7,hr8,i9,hr10,i11,hr12,i13,hr14,i15,hr16,Zj1]
   ·try simp only[bq,seval,hr1,hr2,hr3,hr4,hr5,hr6,i7,hr8,i9,hr10,i11,hr12,i13,hr14,i15,hr16,Zj1]
    refine bn (by kernel_rfl) ?_
    cases hh
    try simp only[bq,seval,hr1,hr2,hr3,hr4,hr5,hr6,i7,hr8,i9,hr10,i11,hr12,i13,hr14,i15,hr16,Zj1]
  ·try simp only[bq,seval,hr1,hr2,hr3,hr4,hr5,hr6,i7,hr8,i9,hr10,i11,hr12,i13,hr14,i15,hr16,Zj1]
   refine bn (by kernel_rfl) ?_
   cases hh
   try simp only[bq,seval,hr1,hr2,hr3,hr4,hr5,hr6,i7,hr8,i9,hr10,i11,hr12,i13,hr14,i15,hr16,Zj1]
 ·clear hh
  have hh:=ho17
  try simp only[bq,seval,hr1,hr2,hr3,hr4,hr5,hr6,i7,hr8,i9,hr10,i11,hr12,i13,hr14,i15,hr16]
  refine sp ec hh (fun _ hh =>?_) (fun _ hh =>?_)
  ·have i28:=mj 3 ([r3,r4]) ([6,3,0]) ([6,9,3])
   simp only[aJ,bC,List.length_cons,List.length_nil,ad4,Nat.reduceAdd,aff]at i28
   obtain⟨r29,hr29,hh⟩:=ah hh
   try simp only[bq,seval,hr1,hr2,hr3,hr4,hr5,hr6,i7,hr8,i9,hr10,i11,hr12,i13,hr14,i15,hr16,i28,hr29]
   refine sp ec hh (fun _ hh =>?_) (fun _ hh =>?_)
   ·have i31:=mj 1 ([r5]) ([1]) ([4])
    simp only[aJ,bC,List.length_cons,List.length_nil,ad4,Nat.reduceAdd,aff]at i31
    obtain⟨r32,hr32,hh⟩:=ah hh
    try simp only[bq,seval,hr1,hr2,hr3,hr4,hr5,hr6,i7,hr8,i9,hr10,i11,hr12,i13,hr14,i15,hr16,i28,hr29,i31,hr32]
    refine sp ec hh (fun _ hh =>?_) (fun _ hh =>?_)
    ·have i34:=mj 0 ([]) ([]) ([])
     simp only[aJ,bC,List.length_cons,List.length_nil,ad4,Nat.reduceAdd,aff]at i34
     obtain⟨r35,hr35,hh⟩:=ah hh
     cases hh
     try simp only[bq,seval,hr1,hr2,hr3,hr4,hr5,hr6,i7,hr8,i9,hr10,i11,hr12,i13,hr14,i15,hr16,i28,hr29,i31,hr32,i34,hr35]
     rw[au]
     refine⟨_,rfl,?_⟩
     refine⟨1,?_,?_,?_,?_,?_⟩
     all_goals first|rfl|(simp only[bq,seval,hr1,hr2,hr3,hr4,hr5,hr6,i7,hr8,i9,hr10,i11,hr12,i13,hr14,i15,hr16,i28,hr29,i31,hr32,i34,hr35]<;>rfl)
    ·cases hh
     try simp only[bq,seval,hr1,hr2,hr3,hr4,hr5,hr6,i7,hr8,i9,hr10,i11,hr12,i13,hr14,i15,hr16,i28,hr29,i31,hr32]
     rw[au]
     refine⟨_,rfl,?_⟩
     refine⟨1,?_,?_,?_,?_,?_⟩
     all_goals first|rfl|(simp only[bq,seval,hr1,hr2,hr3,hr4,hr5,hr6,i7,hr8,i9,hr10,i11,hr12,i13,hr14,i15,hr16,i28,hr29,i31,hr32]<;>rfl)
   ·cases hh
    try simp only[bq,seval,hr1,hr2,hr3,hr4,hr5,hr6,i7,hr8,i9,hr10,i11,hr12,i13,hr14,i15,hr16,i28,hr29]
    rw[au]
    refine⟨_,rfl,?_⟩
    refine⟨1,?_,?_,?_,?_,?_⟩
    all_goals first|rfl|(simp only[bq,seval,hr1,hr2,hr3,hr4,hr5,hr6,i7,hr8,i9,hr10,i11,hr12,i13,hr14,i15,hr16,i28,hr29]<;>rfl)
  ·cases hh
   try simp only[bq,seval,hr1,hr2,hr3,hr4,hr5,hr6,i7,hr8,i9,hr10,i11,hr12,i13,hr14,i15,hr16]
   rw[au]
   refine⟨_,rfl,?_⟩
   refine⟨1,?_,?_,?_,?_,?_⟩
   all_goals first|rfl|(simp only[bq,seval,hr1,hr2,hr3,hr4,hr5,hr6,i7,hr8,i9,hr10,i11,hr12,i13,hr14,i15,hr16]<;>rfl)
theorem I3:bX Try.prog 8 s4:=bX.of (mode := .clean) tok Iu mixed Try.func8 (by kernel_rfl) ⟨by kernel_rfl,by kernel_rfl⟩ (fun _=>aeX (by kernel_rfl)) (fun x r h=>Mw  r h)
noncomputable def p8:=fR (iO (cN ay) (fO (aI .i64))) (fun x:ak×Int=>nT x.1 x.2) (fun r:Bool =>.clean (.bool r))
theorem nZ (p0_0:Int) (p0_1:(List Int)) (p0_2:Int) (p0_3:(List Int)) (p1:Int):p8 none [.agg [.int .i64 p0_0,.sl false false p0_1.length (ae (eI .i64) p0_1),.int .i64 p0_2,.sl false false p0_3.length (ae (eI .i64) p0_3)],.int .i64 p1]=(nT (ak.mk (al.mk p0_0 p0_1) (al.mk p0_2 p0_3)) p1).map fun r:Bool=>(.clean (.bool r),none):=aU _ _ _ ((ak.mk (al.mk p0_0 p0_1) (al.mk p0_2 p0_3)),p1)
theorem T1 (p0:ak) (p1:Int) (r:Bool) (hh:nT p0 p1=some r):ba .clean tab a7 FU Try.f21 none [.agg [.int .i64 p0.aL.ag,.sl false false p0.aL.aa.length (ae (eI .i64) p0.aL.aa),.int .i64 p0.aM.ag,.sl false false p0.aM.aa.length (ae (eI .i64) p0.aM.aa)],.int .i64 p1]=some (.clean (.bool r),none):=by
 refine aC rfl Try.ntmps21 Try.results21 ?_
 unfold nT at hh
 try simp only[w,seval]
 refine sp ec hh (fun _ hh =>?_) (fun _ hh =>?_)
 ·cases hh
  try simp only[w,seval]
 ·cases hh
  try simp only[w,seval]
theorem wL:bX Try.prog 21 p8:=bX.of (mode := .clean) tok bB.none mixed Try.func21 (by kernel_rfl) ⟨by kernel_rfl,by kernel_rfl⟩ (fun _=>aeX (by kernel_rfl)) (fun x r h=>T1 x.1 x.2 r h)
noncomputable def qN:=fR (fO (cN ns)) (fun x:bW=>ky x) (fun r:Bool =>.clean (.bool r))
theorem xX (p0_0:Int) (p0_1:(List dr)):qN none [.agg [.int .i64 p0_0,.sl false false p0_1.length (ae a8 p0_1)]]=(ky (bW.mk p0_0 p0_1)).map fun r:Bool=>(.clean (.bool r),none):=aU _ _ _ ((bW.mk p0_0 p0_1))
noncomputable def nJ:Env:=(Am.ext a7 21 false p8)
theorem Ek:bB Try.prog nJ:=(bB.none.add wL false)
theorem bJ:type_of% (ai @w<|ai @nZ<|@nJ.eq_1):=⟨@w,@nZ,@nJ.eq_1⟩
theorem IN (p0:bW) (r:Bool) (hh:ky p0=some r):ba .clean tab nJ FU Try.f28 none [.agg [.int .i64 p0.aG,.sl false false p0.av.length (ae a8 p0.av)]]=some (.clean (.bool r),none):=by
 refine aC rfl Try.ntmps28 Try.results28 ?_
 unfold ky at hh
 try simp only[bJ,seval]
 obtain⟨o7,ho7,hh⟩:=ah hh
 refine aB (fun s t H e=>match s with|s3a=>∃v1a:Nat,t 1=.ptr 1 v1a 0∧t 3=.int .i64 s3a∧H 1=some ⟨v1a,24,[.int .i64 p0.aG,.sl false false p0.av.length (ae a8 p0.av)],false,false,false⟩) (fun o x t H e=>match o with|(.inl _)=>x=.exit 0∧∃v1ax:Nat,t 1=.ptr 1 v1ax 0∧H 1=some ⟨v1ax,24,[.int .i64 p0.aG,.sl false false p0.av.length (ae a8 p0.av)],false,false,false⟩|(.inr r)=>x=.ret∧jd .clean tab none [.tmp 2] ⟨t,EH H,e⟩=some (.clean (.bool r),none)) ho7 ?_ ?_ ?_
 ·refine⟨0,?_,?_,?_⟩
  all_goals first|rfl|(simp only[bJ,seval]<;>rfl)
 ·rintro s3a t H e ⟨v1a,Za⟩ c hh
  simp only[mF]at hh
  try simp only[bJ,seval,Za]
  obtain⟨o8,ho8,hh⟩:=ah hh
  refine bF 0 (fun s t H e=>match s with|s12j3=>∃v1j3:Nat,t 1=.ptr 1 v1j3 0∧t 3=.int .i64 s3a∧t 12=.bool s12j3∧H 1=some ⟨v1j3,24,[.int .i64 p0.aG,.sl false false p0.av.length (ae a8 p0.av)],false,false,false⟩) (fun s=>s=o8) ?_ ?_
  ·rintro s12j3 t H e ⟨v1j3,Zj3⟩ rfl
   try dsimp only at hh
   try simp only[bJ,seval,Zj3]
   refine sp aq hh (fun _ hh =>?_) (fun _ hh =>?_)
   ·obtain⟨x10,hx10,hh⟩:=ah hh
    have ax10:=bK a8 hx10
    simp only[bC]at ax10
    obtain⟨r11,hr11,hh⟩:=ah hh
    try simp only[bJ,seval,Zj3,ax10,hr11]
    refine sp aq hh (fun _ hh =>?_) (fun _ hh =>?_)
    ·cases hh
     try simp only[bJ,seval,Zj3,ax10,hr11]
     refine IG ⟨rfl,?_⟩
     try simp only[bJ,seval,Zj3,ax10,hr11]
    ·cases hh
     try simp only[bJ,seval,Zj3,ax10,hr11]
     refine jz ?_
     refine⟨v1j3,?_,?_,?_⟩
     all_goals first|rfl|(simp only[bJ,seval,Zj3,ax10,hr11]<;>rfl)
   ·cases hh
    try simp only[bJ,seval,Zj3]
    refine kK ?_
    refine⟨rfl,⟨v1j3,?_,?_⟩⟩
    all_goals first|rfl|(simp only[bJ,seval,Zj3]<;>rfl)
  ·clear hh
   have hh:=ho8
   try simp only[bJ,seval,Za]
   refine sp ec hh (fun _ hh =>?_) (fun _ hh =>?_)
   ·cases hh
    try simp only[bJ,seval,Za]
    rw[au]
    refine⟨_,rfl,?_⟩
    refine⟨v1a,?_,?_,?_,?_⟩
    all_goals first|rfl|(simp only[bJ,seval,Za]<;>rfl)
   ·cases hh
    try simp only[bJ,seval,Za]
    rw[au]
    refine⟨_,rfl,?_⟩
    refine⟨v1a,?_,?_,?_,?_⟩
    all_goals first|rfl|(simp only[bJ,seval,Za]<;>rfl)
 ·rintro x t H e hx
  rcases o7 with _|ra
  ·dsimp only at hx hh
   obtain⟨rfl,⟨v1ax,Zax⟩⟩:=hx
   try simp only[bJ,seval,Zax]
   refine sp bc hh (fun _ hh =>?_) (fun _ hh =>?_)
   ·cases hh
    try simp only[bJ,seval,Zax]
   ·try simp only[bJ,seval,Zax]
    refine sp ec hh (fun _ hh =>?_) (fun _ hh =>?_)
    ·cases hh
     try simp only[bJ,seval,Zax]
    ·cases hh
     try simp only[bJ,seval,Zax]
  ·dsimp only at hx hh
   obtain⟨rfl,hE⟩:=hx
   cases hh
   try simp only[bO,bE,bV,ey,ew,dm,dn]
   exact hE
theorem EB:bX Try.prog 28 qN:=bX.of (mode := .clean) tok Ek mixed Try.func28 (by kernel_rfl) ⟨by kernel_rfl,by kernel_rfl⟩ (fun _=>aeX (by kernel_rfl)) (fun x r h=>IN x r h)
noncomputable def yC:=fR (iO (nc ay) (fO (aI .i64))) (fun x:(List ak)×Int=>sb x.1 x.2) (fun r:Bool =>.clean (.bool r))
theorem Ha (p0:(List ak)) (p1:Int):yC none [.sl false false p0.length (ae ay p0),.int .i64 p1]=(sb p0 p1).map fun r:Bool=>(.clean (.bool r),none):=aU _ _ _ (p0,p1)
noncomputable def uY:Env:=(Am.ext a7 21 false p8)
theorem Pk:bB Try.prog uY:=(bB.none.add wL false)
theorem dO:type_of% (ai @w<|ai @nZ<|@uY.eq_1):=⟨@w,@nZ,@uY.eq_1⟩
theorem T4 (p0:(List ak)) (p1:Int) (r:Bool) (hh:sb p0 p1=some r):ba .clean tab uY FU Try.f10 none [.sl false false p0.length (ae ay p0),.int .i64 p1]=some (.clean (.bool r),none):=by
 refine aC rfl Try.ntmps10 Try.results10 ?_
 unfold sb at hh
 try simp only[dO,seval]
 obtain⟨o7,ho7,hh⟩:=ah hh
 refine aB (fun s t H e=>match s with|s5a=>t 0=.sl false false p0.length (ae ay p0)∧t 1=.int .i64 p1∧t 5=.int .i64 s5a) (fun o x t H e=>match o with|(.inl _)=>x=.exit 0∧t 0=.sl false false p0.length (ae ay p0)|(.inr r)=>x=.ret∧jd .clean tab none [.tmp 4] ⟨t,EH H,e⟩=some (.clean (.bool r),none)) ho7 ?_ ?_ ?_
 ·refine⟨?_,?_,?_⟩
  all_goals first|rfl|(simp only[dO,seval]<;>rfl)
 ·rintro s5a t H e Za c hh
  simp only[sd]at hh
  try simp only[dO,seval,Za]
  obtain⟨o8,ho8,hh⟩:=ah hh
  refine bF 0 (fun s t H e=>match s with|s13j3=>t 0=.sl false false p0.length (ae ay p0)∧t 1=.int .i64 p1∧t 5=.int .i64 s5a∧t 13=.bool s13j3) (fun s=>s=o8) ?_ ?_
  ·rintro s13j3 t H e Zj3 rfl
   try dsimp only at hh
   try simp only[dO,seval,Zj3]
   refine sp aq hh (fun _ hh =>?_) (fun _ hh =>?_)
   ·obtain⟨x10,hx10,hh⟩:=ah hh
    have ax10:=bK ay hx10
    simp only[bC]at ax10
    obtain⟨r11,hr11,hh⟩:=ah hh
    try simp only[dO,seval,Zj3,ax10,hr11]
    refine sp aq hh (fun _ hh =>?_) (fun _ hh =>?_)
    ·cases hh
     try simp only[dO,seval,Zj3,ax10,hr11]
     refine IG ⟨rfl,?_⟩
     try simp only[dO,seval,Zj3,ax10,hr11]
    ·cases hh
     try simp only[dO,seval,Zj3,ax10,hr11]
     refine jz ?_
     refine⟨?_,?_,?_⟩
     all_goals first|rfl|(simp only[dO,seval,Zj3,ax10,hr11]<;>rfl)
   ·cases hh
    try simp only[dO,seval,Zj3]
    refine kK ?_
    refine⟨rfl,?_⟩
    all_goals first|rfl|(simp only[dO,seval,Zj3]<;>rfl)
  ·clear hh
   have hh:=ho8
   try simp only[dO,seval,Za]
   refine sp ec hh (fun _ hh =>?_) (fun _ hh =>?_)
   ·cases hh
    try simp only[dO,seval,Za]
    rw[au]
    refine⟨_,rfl,?_⟩
    refine⟨?_,?_,?_,?_⟩
    all_goals first|rfl|(simp only[dO,seval,Za]<;>rfl)
   ·cases hh
    try simp only[dO,seval,Za]
    rw[au]
    refine⟨_,rfl,?_⟩
    refine⟨?_,?_,?_,?_⟩
    all_goals first|rfl|(simp only[dO,seval,Za]<;>rfl)
 ·rintro x t H e hx
  rcases o7 with _|ra
  ·dsimp only at hx hh
   obtain⟨rfl,Zax⟩:=hx
   cases hh
   try simp only[dO,seval,Zax]
  ·dsimp only at hx hh
   obtain⟨rfl,hE⟩:=hx
   cases hh
   try simp only[bO,bE,bV,ey,ew,dm,dn]
   exact hE
theorem P0:bX Try.prog 10 yC:=bX.of (mode := .clean) tok Pk mixed Try.func10 (by kernel_rfl) ⟨by kernel_rfl,by kernel_rfl⟩ (fun _=>aeX (by kernel_rfl)) (fun x r h=>T4 x.1 x.2 r h)
noncomputable def yx:=fR (iO (cN ns) (fO (nc ay))) (fun x:bW×(List ak)=>rO x.1 x.2) (fun r:Bool =>.clean (.bool r))
theorem G5 (p0_0:Int) (p0_1:(List dr)) (p1:(List ak)):yx none [.agg [.int .i64 p0_0,.sl false false p0_1.length (ae a8 p0_1)],.sl false false p1.length (ae ay p1)]=(rO (bW.mk p0_0 p0_1) p1).map fun r:Bool=>(.clean (.bool r),none):=aU _ _ _ ((bW.mk p0_0 p0_1),p1)
noncomputable def uS:Env:=(Am.ext (Am.ext a7 10 false yC) 28 false qN)
theorem Pd:bB Try.prog uS:=((bB.none.add P0 false).add EB false)
theorem zj:type_of% (ai @w<|ai @Ha<|ai @xX<|@uS.eq_1):=⟨@w,@Ha,@xX,@uS.eq_1⟩
theorem TX (p0:bW) (p1:(List ak)) (r:Bool) (hh:rO p0 p1=some r):ba .clean tab uS FU Try.f9 none [.agg [.int .i64 p0.aG,.sl false false p0.av.length (ae a8 p0.av)],.sl false false p1.length (ae ay p1)]=some (.clean (.bool r),none):=by
 refine aC rfl Try.ntmps9 Try.results9 ?_
 unfold rO at hh
 obtain⟨r1,hr1,hh⟩:=ah hh
 try simp only[zj,seval,hr1]
 refine sp ec hh (fun _ hh =>?_) (fun _ hh =>?_)
 ·obtain⟨r3,hr3,hh⟩:=ah hh
  cases hh
  try simp only[zj,seval,hr1,hr3]
 ·cases hh
  try simp only[zj,seval,hr1]
theorem PV:bX Try.prog 9 yx:=bX.of (mode := .clean) tok Pd mixed Try.func9 (by kernel_rfl) ⟨by kernel_rfl,by kernel_rfl⟩ (fun _=>aeX (by kernel_rfl)) (fun x r h=>TX x.1 x.2 r h)
noncomputable def wo:=fR (iO (cN eo) (fO (cN eo))) (fun x:al×al=>qv x.1 x.2) (fun r:Bool =>.clean (.bool r))
theorem Dw (p0_0:Int) (p0_1:(List Int)) (p1_0:Int) (p1_1:(List Int)):wo none [.agg [.int .i64 p0_0,.sl false false p0_1.length (ae (eI .i64) p0_1)],.agg [.int .i64 p1_0,.sl false false p1_1.length (ae (eI .i64) p1_1)]]=(qv (al.mk p0_0 p0_1) (al.mk p1_0 p1_1)).map fun r:Bool=>(.clean (.bool r),none):=aU _ _ _ ((al.mk p0_0 p0_1),(al.mk p1_0 p1_1))
theorem PD (p0:al) (p1:al) (r:Bool) (hh:qv p0 p1=some r):ba .clean tab a7 FU Try.f87 none [.agg [.int .i64 p0.ag,.sl false false p0.aa.length (ae (eI .i64) p0.aa)],.agg [.int .i64 p1.ag,.sl false false p1.aa.length (ae (eI .i64) p1.aa)]]=some (.clean (.bool r),none):=by
 refine aC rfl Try.ntmps87 Try.results87 ?_
 unfold qv at hh
 try simp only[w,seval]
 obtain⟨o1,ho1,hh⟩:=ah hh
 refine bF 0 (fun s t H e=>match s with|s19j1=>∃v2j1:Nat,∃v3j1:Nat,t 2=.ptr 2 v2j1 0∧t 3=.ptr 3 v3j1 0∧t 19=.bool s19j1∧H 2=some ⟨v2j1,39,[.int .i64 p0.ag,.sl false false p0.aa.length (ae (eI .i64) p0.aa)],false,false,false⟩∧H 3=some ⟨v3j1,39,[.int .i64 p1.ag,.sl false false p1.aa.length (ae (eI .i64) p1.aa)],false,false,false⟩) (fun s=>s=o1) ?_ ?_
 ·rintro s19j1 t H e ⟨v2j1,v3j1,Zj1⟩ rfl
  try dsimp only at hh
  try simp only[w,seval,Zj1]
  refine sp aq hh (fun _ hh =>?_) (fun _ hh =>?_)
  ·cases hh
   try simp only[w,seval,Zj1]
  ·try simp only[w,seval,Zj1]
   obtain⟨o7,ho7,hh⟩:=ah hh
   refine aB (fun s t H e=>match s with|s5b=>∃v2b:Nat,∃v3b:Nat,t 2=.ptr 2 v2b 0∧t 3=.ptr 3 v3b 0∧t 5=.int .i64 s5b∧H 2=some ⟨v2b,39,[.int .i64 p0.ag,.sl false false p0.aa.length (ae (eI .i64) p0.aa)],false,false,false⟩∧H 3=some ⟨v3b,39,[.int .i64 p1.ag,.sl false false p1.aa.length (ae (eI .i64) p1.aa)],false,false,false⟩) (fun o x t H e=>match o with|(.inl _)=>x=.exit 0|(.inr r)=>x=.ret∧jd .clean tab none [.tmp 4] ⟨t,EH H,e⟩=some (.clean (.bool r),none)) ho7 ?_ ?_ ?_
   ·refine⟨v2j1,v3j1,?_,?_,?_,?_,?_⟩
    all_goals first|rfl|(simp only[w,seval,Zj1]<;>rfl)
   ·rintro s5b t H e ⟨v2b,v3b,Zb⟩ c hh
    simp only[Ak]at hh
    try simp only[w,seval,Zb]
    refine sp aq hh (fun _ hh =>?_) (fun _ hh =>?_)
    ·obtain⟨x9,hx9,hh⟩:=ah hh
     have ax9:=bK (eI .i64) hx9
     simp only[bC]at ax9
     obtain⟨x10,hx10,hh⟩:=ah hh
     have ax10:=bK (eI .i64) hx10
     simp only[bC]at ax10
     try simp only[w,seval,Zb,ax9,ax10]
     refine bn (by kernel_rfl) ?_
     try simp only[w,seval,Zb,ax9,ax10]
     refine sp aq hh (fun _ hh =>?_) (fun _ hh =>?_)
     ·cases hh
      try simp only[w,seval,Zb,ax9,ax10]
      refine IG ⟨rfl,?_⟩
      try simp only[w,seval,Zb,ax9,ax10]
     ·cases hh
      try simp only[w,seval,Zb,ax9,ax10]
      refine jz ?_
      refine⟨v2b,v3b,?_,?_,?_,?_,?_⟩
      all_goals first|rfl|(simp only[w,seval,Zb,ax9,ax10]<;>rfl)
    ·cases hh
     try simp only[w,seval,Zb]
     refine kK ?_
     exact rfl
   ·rintro x t H e hx
    rcases o7 with _|rb
    ·dsimp only at hx hh
     subst hx
     cases hh
     try simp only[w,seval]
    ·dsimp only at hx hh
     obtain⟨rfl,hE⟩:=hx
     cases hh
     try simp only[bO,bE,bV,ey,ew,dm,dn]
     exact hE
 ·clear hh
  have hh:=ho1
  try simp only[w,seval]
  refine sp bc hh (fun _ hh =>?_) (fun _ hh =>?_)
  ·cases hh
   try simp only[w,seval]
   rw[au]
   refine⟨_,rfl,?_⟩
   refine⟨0,0,?_,?_,?_,?_,?_⟩
   all_goals first|rfl|(simp only[w,seval]<;>rfl)
  ·cases hh
   try simp only[w,seval]
   rw[au]
   refine⟨_,rfl,?_⟩
   refine⟨0,0,?_,?_,?_,?_,?_⟩
   all_goals first|rfl|(simp only[w,seval]<;>rfl)
theorem Nh:bX Try.prog 87 wo:=bX.of (mode := .clean) tok bB.none mixed Try.func87 (by kernel_rfl) ⟨by kernel_rfl,by kernel_rfl⟩ (fun _=>aeX (by kernel_rfl)) (fun x r h=>PD x.1 x.2 r h)
noncomputable def pX:=fR (iO (cN eo) (fO (cN eo))) (fun x:al×al=>jn x.1 x.2) (fun r:Int =>.clean (.int .i64 r))
theorem vY (p0_0:Int) (p0_1:(List Int)) (p1_0:Int) (p1_1:(List Int)):pX none [.agg [.int .i64 p0_0,.sl false false p0_1.length (ae (eI .i64) p0_1)],.agg [.int .i64 p1_0,.sl false false p1_1.length (ae (eI .i64) p1_1)]]=(jn (al.mk p0_0 p0_1) (al.mk p1_0 p1_1)).map fun r:Int=>(.clean (.int .i64 r),none):=aU _ _ _ ((al.mk p0_0 p0_1),(al.mk p1_0 p1_1))
noncomputable def mA:Env:=(Am.ext (Am.ext (Am.ext a7 55 false gY) 87 false wo) 88 false qK)
theorem Cx:bB Try.prog mA:=(((bB.none.add jI false).add Nh false).add Aa false)
theorem bI:type_of% (ai @w<|ai @ep<|ai @Dw<|ai @rX<|@mA.eq_1):=⟨@w,@ep,@Dw,@rX,@mA.eq_1⟩
theorem Et (p0:al) (p1:al) (r:Int) (hh:jn p0 p1=some r):ba .clean tab mA FU Try.f57 none [.agg [.int .i64 p0.ag,.sl false false p0.aa.length (ae (eI .i64) p0.aa)],.agg [.int .i64 p1.ag,.sl false false p1.aa.length (ae (eI .i64) p1.aa)]]=some (.clean (.int .i64 r),none):=by
 refine aC rfl Try.ntmps57 Try.results57 ?_
 unfold jn at hh
 obtain⟨r1,hr1,hh⟩:=ah hh
 try simp only[bI,seval,hr1]
 obtain⟨o2,ho2,hh⟩:=ah hh
 refine bF 0 (fun s t H e=>match s with|s17j1=>∃v2j1:Nat,∃v3j1:Nat,t 2=.ptr 2 v2j1 0∧t 3=.ptr 3 v3j1 0∧t 17=.bool s17j1∧H 2=some ⟨v2j1,39,[.int .i64 p0.ag,.sl false false p0.aa.length (ae (eI .i64) p0.aa)],false,false,false⟩∧H 3=some ⟨v3j1,39,[.int .i64 p1.ag,.sl false false p1.aa.length (ae (eI .i64) p1.aa)],false,false,false⟩) (fun s=>s=o2) ?_ ?_
 ·rintro s17j1 t H e ⟨v2j1,v3j1,Zj1⟩ rfl
  try dsimp only at hh
  try simp only[bI,seval,hr1,Zj1]
  refine sp aq hh (fun _ hh =>?_) (fun _ hh =>?_)
  ·cases hh
   try simp only[bI,seval,hr1,Zj1]
  ·try simp only[bI,seval,hr1,Zj1]
   refine sp aq hh (fun _ hh =>?_) (fun _ hh =>?_)
   ·try simp only[bI,seval,hr1,Zj1]
    refine sp aq hh (fun _ hh =>?_) (fun _ hh =>?_)
    ·cases hh
     try simp only[bI,seval,hr1,Zj1]
    ·cases hh
     try simp only[bI,seval,hr1,Zj1]
   ·obtain⟨r6,hr6,hh⟩:=ah hh
    try simp only[bI,seval,hr1,Zj1,hr6]
    refine bn (by kernel_rfl) ?_
    try simp only[bI,seval,hr1,Zj1,hr6]
    refine sp aq hh (fun _ hh =>?_) (fun _ hh =>?_)
    ·cases hh
     try simp only[bI,seval,hr1,Zj1,hr6]
    ·cases hh
     try simp only[bI,seval,hr1,Zj1,hr6]
 ·clear hh
  have hh:=ho2
  try simp only[bI,seval,hr1]
  refine sp bc hh (fun _ hh =>?_) (fun _ hh =>?_)
  ·cases hh
   try simp only[bI,seval,hr1]
   rw[au]
   refine⟨_,rfl,?_⟩
   refine⟨0,0,?_,?_,?_,?_,?_⟩
   all_goals first|rfl|(simp only[bI,seval,hr1]<;>rfl)
  ·obtain⟨r9,hr9,hh⟩:=ah hh
   try simp only[bI,seval,hr1,hr9]
   refine sp bc hh (fun _ hh =>?_) (fun _ hh =>?_)
   ·cases hh
    try simp only[bI,seval,hr1,hr9]
    rw[au]
    refine⟨_,rfl,?_⟩
    refine⟨0,0,?_,?_,?_,?_,?_⟩
    all_goals first|rfl|(simp only[bI,seval,hr1,hr9]<;>rfl)
   ·obtain⟨r11,hr11,hh⟩:=ah hh
    cases hh
    try simp only[bI,seval,hr1,hr9,hr11]
    rw[au]
    refine⟨_,rfl,?_⟩
    refine⟨0,0,?_,?_,?_,?_,?_⟩
    all_goals first|rfl|(simp only[bI,seval,hr1,hr9,hr11]<;>rfl)
theorem Df:bX Try.prog 57 pX:=bX.of (mode := .clean) tok Cx mixed Try.func57 (by kernel_rfl) ⟨by kernel_rfl,by kernel_rfl⟩ (fun _=>aeX (by kernel_rfl)) (fun x r h=>Et x.1 x.2 r h)
noncomputable def s7:=fR (fO (cN ay)) (fun x:ak=>kT x) (fun r:Bool =>.clean (.bool r))
theorem Aj (p0_0:Int) (p0_1:(List Int)) (p0_2:Int) (p0_3:(List Int)):s7 none [.agg [.int .i64 p0_0,.sl false false p0_1.length (ae (eI .i64) p0_1),.int .i64 p0_2,.sl false false p0_3.length (ae (eI .i64) p0_3)]]=(kT (ak.mk (al.mk p0_0 p0_1) (al.mk p0_2 p0_3))).map fun r:Bool=>(.clean (.bool r),none):=aU _ _ _ ((ak.mk (al.mk p0_0 p0_1) (al.mk p0_2 p0_3)))
noncomputable def pA:Env:=(Am.ext (Am.ext (Am.ext (Am.ext a7 55 false gY) 56 false uv) 57 false pX) 58 false w7)
theorem IA:bB Try.prog pA:=((((bB.none.add jI false).add Dh false).add Df false).add GS false)
theorem dN:type_of% (ai @w<|ai @ep<|ai @vd<|ai @vY<|ai @xV<|@pA.eq_1):=⟨@w,@ep,@vd,@vY,@xV,@pA.eq_1⟩
theorem ME (p0:ak) (r:Bool) (hh:kT p0=some r):ba .clean tab pA FU Try.f25 none [.agg [.int .i64 p0.aL.ag,.sl false false p0.aL.aa.length (ae (eI .i64) p0.aL.aa),.int .i64 p0.aM.ag,.sl false false p0.aM.aa.length (ae (eI .i64) p0.aM.aa)]]=some (.clean (.bool r),none):=by
 refine aC rfl Try.ntmps25 Try.results25 ?_
 unfold kT at hh
 obtain⟨r1,hr1,hh⟩:=ah hh
 try simp only[dN,seval,hr1]
 obtain⟨o2,ho2,hh⟩:=ah hh
 refine bF 0 (fun s t H e=>match s with|s20j1=>∃v1j1:Nat,t 1=.ptr 1 v1j1 0∧t 20=.bool s20j1∧H 1=some ⟨v1j1,41,[.int .i64 p0.aL.ag,.sl false false p0.aL.aa.length (ae (eI .i64) p0.aL.aa),.int .i64 p0.aM.ag,.sl false false p0.aM.aa.length (ae (eI .i64) p0.aM.aa)],false,false,false⟩) (fun s=>s=o2) ?_ ?_
 ·rintro s20j1 t H e ⟨v1j1,Zj1⟩ rfl
  try dsimp only at hh
  try simp only[dN,seval,hr1,Zj1]
  refine sp aq hh (fun _ hh =>?_) (fun _ hh =>?_)
  ·cases hh
   try simp only[dN,seval,hr1,Zj1]
  ·obtain⟨r4,hr4,hh⟩:=ah hh
   obtain⟨r5,hr5,hh⟩:=ah hh
   obtain⟨r6,hr6,hh⟩:=ah hh
   try simp only[dN,seval,hr1,Zj1,hr4,hr5,hr6]
   refine bn (by kernel_rfl) ?_
   cases hh
   try simp only[dN,seval,hr1,Zj1,hr4,hr5,hr6]
 ·clear hh
  have hh:=ho2
  try simp only[dN,seval,hr1]
  refine sp bc hh (fun _ hh =>?_) (fun _ hh =>?_)
  ·cases hh
   try simp only[dN,seval,hr1]
   rw[au]
   refine⟨_,rfl,?_⟩
   refine⟨0,?_,?_,?_⟩
   all_goals first|rfl|(simp only[dN,seval,hr1]<;>rfl)
  ·obtain⟨r8,hr8,hh⟩:=ah hh
   try simp only[dN,seval,hr1,hr8]
   refine sp bc hh (fun _ hh =>?_) (fun _ hh =>?_)
   ·cases hh
    try simp only[dN,seval,hr1,hr8]
    rw[au]
    refine⟨_,rfl,?_⟩
    refine⟨0,?_,?_,?_⟩
    all_goals first|rfl|(simp only[dN,seval,hr1,hr8]<;>rfl)
   ·cases hh
    try simp only[dN,seval,hr1,hr8]
    rw[au]
    refine⟨_,rfl,?_⟩
    refine⟨0,?_,?_,?_⟩
    all_goals first|rfl|(simp only[dN,seval,hr1,hr8]<;>rfl)
theorem I6:bX Try.prog 25 s7:=bX.of (mode := .clean) tok IA mixed Try.func25 (by kernel_rfl) ⟨by kernel_rfl,by kernel_rfl⟩ (fun _=>aeX (by kernel_rfl)) (fun x r h=>ME x r h)
noncomputable def A5:=fR (iO (cN ns) (iO (nc ay) (iO (aI .u8) (fO (cN ay))))) (fun x:bW×(List ak)×Int×ak=>ij x.1 x.2.1 x.2.2.1 x.2.2.2) (fun r:Bool =>.clean (.bool r))
noncomputable def lA:Env:=(Am.ext (Am.ext (Am.ext (Am.ext (Am.ext (Am.ext (Am.ext a7 8 false s4) 9 false yx) 13 false oc) 21 false p8) 22 false dU) 23 false qM) 25 false s7)
theorem AI:bB Try.prog lA:=(((((((bB.none.add I3 false).add PV false).add tR false).add wL false).add eG false).add Ac false).add I6 false)
theorem an:type_of% (ai @w<|ai @Ah<|ai @G5<|ai @im<|ai @nZ<|ai @bU<|ai @rZ<|ai @Aj<|@lA.eq_1):=⟨@w,@Ah,@G5,@im,@nZ,@bU,@rZ,@Aj,@lA.eq_1⟩
theorem CR (p0:bW) (p1:(List ak)) (p2:Int) (p3:ak) (r:Bool) (hh:ij p0 p1 p2 p3=some r):ba .clean tab lA FU Try.f5 none [.agg [.int .i64 p0.aG,.sl false false p0.av.length (ae a8 p0.av)],.sl false false p1.length (ae ay p1),.int .u8 p2,.agg [.int .i64 p3.aL.ag,.sl false false p3.aL.aa.length (ae (eI .i64) p3.aL.aa),.int .i64 p3.aM.ag,.sl false false p3.aM.aa.length (ae (eI .i64) p3.aM.aa)]]=some (.clean (.bool r),none):=by
 refine aC rfl Try.ntmps5 Try.results5 ?_
 unfold ij at hh
 obtain⟨r1,hr1,hh⟩:=ah hh
 obtain⟨r2,hr2,hh⟩:=ah hh
 try simp only[an,seval,hr1,hr2]
 obtain⟨o3,ho3,hh⟩:=ah hh
 refine bF 0 (fun s t H e=>match s with|s39j1=>∃v4j1:Nat,∃v7j1:Nat,t 1=.sl false false p1.length (ae ay p1)∧t 2=.int .u8 p2∧t 4=.ptr 4 v4j1 0∧t 7=.ptr 7 v7j1 0∧t 9=.bool r1∧t 39=.bool s39j1∧H 4=some ⟨v4j1,24,[.int .i64 p0.aG,.sl false false p0.av.length (ae a8 p0.av)],false,false,false⟩∧H 7=some ⟨v7j1,41,[.int .i64 p3.aL.ag,.sl false false p3.aL.aa.length (ae (eI .i64) p3.aL.aa),.int .i64 p3.aM.ag,.sl false false p3.aM.aa.length (ae (eI .i64) p3.aM.aa)],false,false,false⟩) (fun s=>s=o3) ?_ ?_
 ·rintro s39j1 t H e ⟨v4j1,v7j1,Zj1⟩ rfl
  try dsimp only at hh
  try simp only[an,seval,hr1,hr2,Zj1]
  refine sp aq hh (fun _ hh =>?_) (fun _ hh =>?_)
  ·cases hh
   try simp only[an,seval,hr1,hr2,Zj1]
  ·obtain⟨x5,hx5,hh⟩:=ah hh
   have q6:=u3 hx5
   obtain⟨x7,hx7,hh⟩:=ah hh
   obtain⟨q8a,q8b,q8c⟩:=xe hx7
   replace q8a:=q8a.symm
   subst q8a
   obtain⟨x9,hx9,hh⟩:=ah hh
   have ax9:=bK ay hx9
   simp only[bC]at ax9
   have p10:=dZ ay (x':=p3) (fo:=0) (cs:=[.int .i64 p3.aL.ag,.sl false false p3.aL.aa.length (ae (eI .i64) p3.aL.aa),.int .i64 p3.aM.ag,.sl false false p3.aM.aa.length (ae (eI .i64) p3.aM.aa)]) hx9 rfl (aeX rfl)
   simp only[bC,Nat.add_zero]at p10
   have up10:=p10
   simp only[putCells,List.length_cons,List.length_nil,ad4,Nat.reduceAdd]at up10
   obtain⟨r11,hr11,hh⟩:=ah hh
   have i12:=im p0.aG p0.av (p1.set (x5).toNat p3)
   simp only[aJ,bC,List.length_cons,List.length_nil,ad4,Nat.reduceAdd,aff]at i12
   obtain⟨r13,hr13,hh⟩:=ah hh
   try simp only[an,seval,hr1,hr2,Zj1,q6,q8b,q8c,ax9,p10,up10,hr11,i12,hr13]
   refine sp aq hh (fun _ hh =>?_) (fun _ hh =>?_)
   ·try simp only[an,seval,hr1,hr2,Zj1,q6,q8b,q8c,ax9,p10,up10,hr11,i12,hr13]
    obtain⟨o15,ho15,hh⟩:=ah hh
    refine bF 0 (fun s t H e=>match s with|s8j2=>t 8=.bool s8j2) (fun s=>s=o15) ?_ ?_
    ·rintro s8j2 t H e Zj2 rfl
     try dsimp only at hh
     cases hh
     try simp only[an,seval,hr1,hr2,q6,q8b,q8c,ax9,p10,up10,hr11,i12,hr13,Zj2]
    ·clear hh
     have hh:=ho15
     try simp only[an,seval,hr1,hr2,Zj1,q6,q8b,q8c,ax9,p10,up10,hr11,i12,hr13]
     refine sp ec hh (fun _ hh =>?_) (fun _ hh =>?_)
     ·try simp only[an,seval,hr1,hr2,Zj1,q6,q8b,q8c,ax9,p10,up10,hr11,i12,hr13]
      refine sp bc hh (fun _ hh =>?_) (fun _ hh =>?_)
      ·cases hh
       try simp only[an,seval,hr1,hr2,Zj1,q6,q8b,q8c,ax9,p10,up10,hr11,i12,hr13]
       rw[au]
       refine⟨_,rfl,?_⟩
       refine ?_
       all_goals first|rfl|(simp only[an,seval,hr1,hr2,Zj1,q6,q8b,q8c,ax9,p10,up10,hr11,i12,hr13]<;>rfl)
      ·have ax9:=bK ay hx9
       simp only[bC]at ax9
       obtain⟨r18,hr18,hh⟩:=ah hh
       cases hh
       try simp only[an,seval,hr1,hr2,Zj1,q6,q8b,q8c,ax9,p10,up10,hr11,i12,hr13,ax9,hr18]
       rw[au]
       refine⟨_,rfl,?_⟩
       refine ?_
       all_goals first|rfl|(simp only[an,seval,hr1,hr2,Zj1,q6,q8b,q8c,ax9,p10,up10,hr11,i12,hr13,ax9,hr18]<;>rfl)
     ·cases hh
      try simp only[an,seval,hr1,hr2,Zj1,q6,q8b,q8c,ax9,p10,up10,hr11,i12,hr13]
      rw[au]
      refine⟨_,rfl,?_⟩
      refine ?_
      all_goals first|rfl|(simp only[an,seval,hr1,hr2,Zj1,q6,q8b,q8c,ax9,p10,up10,hr11,i12,hr13]<;>rfl)
   ·try simp only[an,seval,hr1,hr2,Zj1,q6,q8b,q8c,ax9,p10,up10,hr11,i12,hr13]
    obtain⟨o19,ho19,hh⟩:=ah hh
    refine bF 0 (fun s t H e=>match s with|s96j3=>∃v4j3:Nat,t 1=.sl false false p1.length (ae ay p1)∧t 4=.ptr 4 v4j3 0∧t 9=.bool r1∧t 10=.int .i64 x5∧t 12=.sl false false r11.1.length (ae ay r11.1)∧t 14=.sl false false r13.1.length (ae ay r13.1)∧t 96=.bool s96j3∧H 4=some ⟨v4j3,24,[.int .i64 p0.aG,.sl false false p0.av.length (ae a8 p0.av)],false,false,false⟩) (fun s=>s=o19) ?_ ?_
    ·rintro s96j3 t H e ⟨v4j3,Zj3⟩ rfl
     try dsimp only at hh
     try simp only[an,seval,hr1,hr2,q6,q8b,q8c,ax9,p10,up10,hr11,i12,hr13,Zj3]
     refine sp aq hh (fun _ hh =>?_) (fun _ hh =>?_)
     ·cases hh
      try simp only[an,seval,hr1,hr2,q6,q8b,q8c,ax9,p10,up10,hr11,i12,hr13,Zj3]
     ·obtain⟨x21,hx21,hh⟩:=ah hh
      obtain⟨q22a,q22b,q22c,q22d,q22e⟩:=mk_one kH hx21
      simp only[bC]at q22d
      obtain⟨x23,hx23,hh⟩:=ah hh
      have ax23:=bK kH hx23
      simp only[bC]at ax23
      have p24:=dZ kH (x':=true) (fo:=0) (cs:=[.bool true]) hx23 rfl (aeX rfl)
      simp only[bC,Nat.add_zero]at p24
      have up24:=p24
      simp only[putCells,List.length_cons,List.length_nil,ad4,Nat.reduceAdd]at up24
      try simp only[an,seval,hr1,hr2,q6,q8b,q8c,ax9,p10,up10,hr11,i12,hr13,Zj3,q22a,q22b,q22c,q22d,q22e,ax23,p24,up24]
      obtain⟨o39,ho39,hh⟩:=ah hh
      refine aB (fun s t H e=>match s with|(s17d,l16d)=>∃v4d:Nat,∃v16d:Nat,t 1=.sl false false p1.length (ae ay p1)∧t 4=.ptr 4 v4d 0∧t 9=.bool r1∧t 12=.sl false false r11.1.length (ae ay r11.1)∧t 14=.sl false false r13.1.length (ae ay r13.1)∧t 16=.buf 16 v16d 1 0 (l16d).length∧t 17=.int .i64 s17d∧H 4=some ⟨v4d,24,[.int .i64 p0.aG,.sl false false p0.av.length (ae a8 p0.av)],false,false,false⟩∧H 16=some ⟨v16d,4,ae kH l16d,false,true,false⟩) (fun o x t H e=>match o with|l16dx=>x=.exit 0∧∃v16dx:Nat,t 9=.bool r1∧t 12=.sl false false r11.1.length (ae ay r11.1)∧t 14=.sl false false r13.1.length (ae ay r13.1)∧t 16=.buf 16 v16dx 1 0 (l16dx).length∧H 16=some ⟨v16dx,4,ae kH l16dx,false,true,false⟩) ho39 ?_ ?_ ?_
      ·refine⟨v4j3,e,?_,?_,?_,?_,?_,?_,?_,?_,?_⟩
       all_goals first|rfl|(simp only[an,seval,hr1,hr2,q6,q8b,q8c,ax9,p10,up10,hr11,i12,hr13,Zj3,q22a,q22b,q22c,q22d,q22e,ax23,p24,up24]<;>rfl)
      ·rintro⟨s17d,l16d⟩ t H e ⟨v4d,v16d,Zd⟩ c hh
       simp only[fY]at hh
       try simp only[an,seval,hr1,hr2,q6,q8b,q8c,ax9,p10,up10,hr11,i12,hr13,q22a,q22b,q22c,q22d,q22e,ax23,p24,up24,Zd]
       refine sp aq hh (fun _ hh =>?_) (fun _ hh =>?_)
       ·try simp only[an,seval,hr1,hr2,q6,q8b,q8c,ax9,p10,up10,hr11,i12,hr13,q22a,q22b,q22c,q22d,q22e,ax23,p24,up24,Zd]
        obtain⟨o47,ho47,hh⟩:=ah hh
        refine aB (fun s t H e=>match s with|(s18f,l16f)=>∃v4f:Nat,∃v16f:Nat,t 1=.sl false false p1.length (ae ay p1)∧t 4=.ptr 4 v4f 0∧t 9=.bool r1∧t 12=.sl false false r11.1.length (ae ay r11.1)∧t 14=.sl false false r13.1.length (ae ay r13.1)∧t 16=.buf 16 v16f 1 0 (l16f).length∧t 17=.int .i64 s17d∧t 18=.int .i64 s18f∧H 4=some ⟨v4f,24,[.int .i64 p0.aG,.sl false false p0.av.length (ae a8 p0.av)],false,false,false⟩∧H 16=some ⟨v16f,4,ae kH l16f,false,true,false⟩) (fun o x t H e=>match o with|l16fx=>x=.exit 2∧∃v4fx:Nat,∃v16fx:Nat,t 1=.sl false false p1.length (ae ay p1)∧t 4=.ptr 4 v4fx 0∧t 9=.bool r1∧t 12=.sl false false r11.1.length (ae ay r11.1)∧t 14=.sl false false r13.1.length (ae ay r13.1)∧t 16=.buf 16 v16fx 1 0 (l16fx).length∧t 17=.int .i64 s17d∧H 4=some ⟨v4fx,24,[.int .i64 p0.aG,.sl false false p0.av.length (ae a8 p0.av)],false,false,false⟩∧H 16=some ⟨v16fx,4,ae kH l16fx,false,true,false⟩) ho47 ?_ ?_ ?_
        ·refine⟨v4d,v16d,?_,?_,?_,?_,?_,?_,?_,?_,?_,?_⟩
         all_goals first|rfl|(simp only[an,seval,hr1,hr2,q6,q8b,q8c,ax9,p10,up10,hr11,i12,hr13,q22a,q22b,q22c,q22d,q22e,ax23,p24,up24,Zd]<;>rfl)
        ·rintro⟨s18f,l16f⟩ t H e ⟨v4f,v16f,Zf⟩ c hh
         simp only[fZ]at hh
         try simp only[an,seval,hr1,hr2,q6,q8b,q8c,ax9,p10,up10,hr11,i12,hr13,q22a,q22b,q22c,q22d,q22e,ax23,p24,up24,Zf]
         refine sp aq hh (fun _ hh =>?_) (fun _ hh =>?_)
         ·obtain⟨x49,hx49,hh⟩:=ah hh
          have ax49:=bK a8 hx49
          simp only[bC]at ax49
          obtain⟨x50,hx50,hh⟩:=ah hh
          have ax50:=bK kH hx50
          simp only[bC]at ax50
          try simp only[an,seval,hr1,hr2,q6,q8b,q8c,ax9,p10,up10,hr11,i12,hr13,q22a,q22b,q22c,q22d,q22e,ax23,p24,up24,Zf,ax49,ax50]
          refine sp aq hh (fun _ hh =>?_) (fun _ hh =>?_)
          ·have ax49:=bK a8 hx49
           simp only[bC]at ax49
           obtain⟨x52,hx52,hh⟩:=ah hh
           have ax52:=bK kH hx52
           simp only[bC]at ax52
           have p53:=dZ kH (x':=true) (fo:=0) (cs:=[.bool true]) hx52 rfl (aeX rfl)
           simp only[bC,Nat.add_zero]at p53
           have up53:=p53
           simp only[putCells,List.length_cons,List.length_nil,ad4,Nat.reduceAdd]at up53
           cases hh
           try simp only[an,seval,hr1,hr2,q6,q8b,q8c,ax9,p10,up10,hr11,i12,hr13,q22a,q22b,q22c,q22d,q22e,ax23,p24,up24,Zf,ax49,ax50,ax49,ax52,p53,up53]
           refine jz ?_
           refine⟨v4f,v16f,?_,?_,?_,?_,?_,?_,?_,?_,?_,?_⟩
           all_goals first|rfl|(simp only[an,seval,hr1,hr2,q6,q8b,q8c,ax9,p10,up10,hr11,i12,hr13,q22a,q22b,q22c,q22d,q22e,ax23,p24,up24,Zf,ax49,ax50,ax49,ax52,p53,up53]<;>rfl)
          ·cases hh
           try simp only[an,seval,hr1,hr2,q6,q8b,q8c,ax9,p10,up10,hr11,i12,hr13,q22a,q22b,q22c,q22d,q22e,ax23,p24,up24,Zf,ax49,ax50]
           refine jz ?_
           refine⟨v4f,v16f,?_,?_,?_,?_,?_,?_,?_,?_,?_,?_⟩
           all_goals first|rfl|(simp only[an,seval,hr1,hr2,q6,q8b,q8c,ax9,p10,up10,hr11,i12,hr13,q22a,q22b,q22c,q22d,q22e,ax23,p24,up24,Zf,ax49,ax50]<;>rfl)
         ·cases hh
          try simp only[an,seval,hr1,hr2,q6,q8b,q8c,ax9,p10,up10,hr11,i12,hr13,q22a,q22b,q22c,q22d,q22e,ax23,p24,up24,Zf]
          refine kK ?_
          refine⟨rfl,⟨v4f,v16f,?_,?_,?_,?_,?_,?_,?_,?_,?_⟩⟩
          all_goals first|rfl|(simp only[an,seval,hr1,hr2,q6,q8b,q8c,ax9,p10,up10,hr11,i12,hr13,q22a,q22b,q22c,q22d,q22e,ax23,p24,up24,Zf]<;>rfl)
        ·rintro x t H e hx
         obtain⟨l16fx,rfl⟩:∃z,z=o47:=⟨_,rfl⟩
         dsimp only at hx hh
         obtain⟨rfl,⟨v4fx,v16fx,Zfx⟩⟩:=hx
         cases hh
         try simp only[an,seval,hr1,hr2,q6,q8b,q8c,ax9,p10,up10,hr11,i12,hr13,q22a,q22b,q22c,q22d,q22e,ax23,p24,up24,Zfx]
         refine jz ?_
         refine⟨v4fx,v16fx,?_,?_,?_,?_,?_,?_,?_,?_,?_⟩
         all_goals first|rfl|(simp only[an,seval,hr1,hr2,q6,q8b,q8c,ax9,p10,up10,hr11,i12,hr13,q22a,q22b,q22c,q22d,q22e,ax23,p24,up24,Zfx]<;>rfl)
       ·cases hh
        try simp only[an,seval,hr1,hr2,q6,q8b,q8c,ax9,p10,up10,hr11,i12,hr13,q22a,q22b,q22c,q22d,q22e,ax23,p24,up24,Zd]
        refine kK ?_
        refine⟨rfl,⟨v16d,?_,?_,?_,?_,?_⟩⟩
        all_goals first|rfl|(simp only[an,seval,hr1,hr2,q6,q8b,q8c,ax9,p10,up10,hr11,i12,hr13,q22a,q22b,q22c,q22d,q22e,ax23,p24,up24,Zd]<;>rfl)
      ·rintro x t H e hx
       obtain⟨l16dx,rfl⟩:∃z,z=o39:=⟨_,rfl⟩
       dsimp only at hx hh
       obtain⟨rfl,⟨v16dx,Zdx⟩⟩:=hx
       try simp only[an,seval,hr1,hr2,q6,q8b,q8c,ax9,p10,up10,hr11,i12,hr13,q22a,q22b,q22c,q22d,q22e,ax23,p24,up24,Zdx]
       obtain⟨o61,ho61,hh⟩:=ah hh
       refine aB (fun s t H e=>match s with|s19g=>∃v16g:Nat,t 9=.bool r1∧t 12=.sl false false r11.1.length (ae ay r11.1)∧t 14=.sl false false r13.1.length (ae ay r13.1)∧t 16=.buf 16 v16g 1 0 (l16dx).length∧t 19=.int .i64 s19g∧H 16=some ⟨v16g,4,ae kH l16dx,false,true,false⟩) (fun o x t H e=>match o with|(.inl _)=>x=.exit 4∧t 9=.bool r1|(.inr r)=>x=.ret∧jd .clean tab none [.tmp 8] ⟨t,EH H,e⟩=some (.clean (.bool r),none)) ho61 ?_ ?_ ?_
       ·refine⟨v16dx,?_,?_,?_,?_,?_,?_⟩
        all_goals first|rfl|(simp only[an,seval,hr1,hr2,q6,q8b,q8c,ax9,p10,up10,hr11,i12,hr13,q22a,q22b,q22c,q22d,q22e,ax23,p24,up24,Zdx]<;>rfl)
       ·rintro s19g t H e ⟨v16g,Zg⟩ c hh
        simp only[kd]at hh
        try simp only[an,seval,hr1,hr2,q6,q8b,q8c,ax9,p10,up10,hr11,i12,hr13,q22a,q22b,q22c,q22d,q22e,ax23,p24,up24,Zg]
        refine sp aq hh (fun _ hh =>?_) (fun _ hh =>?_)
        ·obtain⟨x63,hx63,hh⟩:=ah hh
         have ax63:=bK kH hx63
         simp only[bC]at ax63
         try simp only[an,seval,hr1,hr2,q6,q8b,q8c,ax9,p10,up10,hr11,i12,hr13,q22a,q22b,q22c,q22d,q22e,ax23,p24,up24,Zg,ax63]
         refine sp pR hh (fun _ hh =>?_) (fun _ hh =>?_)
         ·obtain⟨x65,hx65,hh⟩:=ah hh
          have ax65:=bK ay hx65
          simp only[bC]at ax65
          obtain⟨x66,hx66,hh⟩:=ah hh
          have ax66:=bK ay hx66
          simp only[bC]at ax66
          obtain⟨r67,hr67,hh⟩:=ah hh
          try simp only[an,seval,hr1,hr2,q6,q8b,q8c,ax9,p10,up10,hr11,i12,hr13,q22a,q22b,q22c,q22d,q22e,ax23,p24,up24,Zg,ax63,ax65,ax66,hr67]
          refine bn (by kernel_rfl) ?_
          try simp only[an,seval,hr1,hr2,q6,q8b,q8c,ax9,p10,up10,hr11,i12,hr13,q22a,q22b,q22c,q22d,q22e,ax23,p24,up24,Zg,ax63,ax65,ax66,hr67]
          refine sp aq hh (fun _ hh =>?_) (fun _ hh =>?_)
          ·cases hh
           try simp only[an,seval,hr1,hr2,q6,q8b,q8c,ax9,p10,up10,hr11,i12,hr13,q22a,q22b,q22c,q22d,q22e,ax23,p24,up24,Zg,ax63,ax65,ax66,hr67]
           refine IG ⟨rfl,?_⟩
           try simp only[an,seval,hr1,hr2,q6,q8b,q8c,ax9,p10,up10,hr11,i12,hr13,q22a,q22b,q22c,q22d,q22e,ax23,p24,up24,Zg,ax63,ax65,ax66,hr67]
          ·cases hh
           try simp only[an,seval,hr1,hr2,q6,q8b,q8c,ax9,p10,up10,hr11,i12,hr13,q22a,q22b,q22c,q22d,q22e,ax23,p24,up24,Zg,ax63,ax65,ax66,hr67]
           refine jz ?_
           refine⟨v16g,?_,?_,?_,?_,?_,?_⟩
           all_goals first|rfl|(simp only[an,seval,hr1,hr2,q6,q8b,q8c,ax9,p10,up10,hr11,i12,hr13,q22a,q22b,q22c,q22d,q22e,ax23,p24,up24,Zg,ax63,ax65,ax66,hr67]<;>rfl)
         ·try simp only[an,seval,hr1,hr2,q6,q8b,q8c,ax9,p10,up10,hr11,i12,hr13,q22a,q22b,q22c,q22d,q22e,ax23,p24,up24,Zg,ax63]
          refine bn (by kernel_rfl) ?_
          cases hh
          try simp only[an,seval,hr1,hr2,q6,q8b,q8c,ax9,p10,up10,hr11,i12,hr13,q22a,q22b,q22c,q22d,q22e,ax23,p24,up24,Zg,ax63]
          refine jz ?_
          refine⟨v16g,?_,?_,?_,?_,?_,?_⟩
          all_goals first|rfl|(simp only[an,seval,hr1,hr2,q6,q8b,q8c,ax9,p10,up10,hr11,i12,hr13,q22a,q22b,q22c,q22d,q22e,ax23,p24,up24,Zg,ax63]<;>rfl)
        ·cases hh
         try simp only[an,seval,hr1,hr2,q6,q8b,q8c,ax9,p10,up10,hr11,i12,hr13,q22a,q22b,q22c,q22d,q22e,ax23,p24,up24,Zg]
         refine kK ?_
         refine⟨rfl,?_⟩
         all_goals first|rfl|(simp only[an,seval,hr1,hr2,q6,q8b,q8c,ax9,p10,up10,hr11,i12,hr13,q22a,q22b,q22c,q22d,q22e,ax23,p24,up24,Zg]<;>rfl)
       ·rintro x t H e hx
        rcases o61 with _|rg
        ·dsimp only at hx hh
         obtain⟨rfl,Zgx⟩:=hx
         cases hh
         try simp only[an,seval,hr1,hr2,q6,q8b,q8c,ax9,p10,up10,hr11,i12,hr13,q22a,q22b,q22c,q22d,q22e,ax23,p24,up24,Zgx]
        ·dsimp only at hx hh
         obtain⟨rfl,hE⟩:=hx
         cases hh
         try simp only[bO,bE,bV,ey,ew,dm,dn]
         exact hE
    ·clear hh
     have hh:=ho19
     try simp only[an,seval,hr1,hr2,Zj1,q6,q8b,q8c,ax9,p10,up10,hr11,i12,hr13]
     refine sp bc hh (fun _ hh =>?_) (fun _ hh =>?_)
     ·cases hh
      try simp only[an,seval,hr1,hr2,Zj1,q6,q8b,q8c,ax9,p10,up10,hr11,i12,hr13]
      rw[au]
      refine⟨_,rfl,?_⟩
      refine⟨v4j1,?_,?_,?_,?_,?_,?_,?_,?_⟩
      all_goals first|rfl|(simp only[an,seval,hr1,hr2,Zj1,q6,q8b,q8c,ax9,p10,up10,hr11,i12,hr13]<;>rfl)
     ·try simp only[an,seval,hr1,hr2,Zj1,q6,q8b,q8c,ax9,p10,up10,hr11,i12,hr13]
      refine sp bc hh (fun _ hh =>?_) (fun _ hh =>?_)
      ·cases hh
       try simp only[an,seval,hr1,hr2,Zj1,q6,q8b,q8c,ax9,p10,up10,hr11,i12,hr13]
       rw[au]
       refine⟨_,rfl,?_⟩
       refine⟨v4j1,?_,?_,?_,?_,?_,?_,?_,?_⟩
       all_goals first|rfl|(simp only[an,seval,hr1,hr2,Zj1,q6,q8b,q8c,ax9,p10,up10,hr11,i12,hr13]<;>rfl)
      ·cases hh
       try simp only[an,seval,hr1,hr2,Zj1,q6,q8b,q8c,ax9,p10,up10,hr11,i12,hr13]
       rw[au]
       refine⟨_,rfl,?_⟩
       refine⟨v4j1,?_,?_,?_,?_,?_,?_,?_,?_⟩
       all_goals first|rfl|(simp only[an,seval,hr1,hr2,Zj1,q6,q8b,q8c,ax9,p10,up10,hr11,i12,hr13]<;>rfl)
 ·clear hh
  have hh:=ho3
  try simp only[an,seval,hr1,hr2]
  refine sp bc hh (fun _ hh =>?_) (fun _ hh =>?_)
  ·cases hh
   try simp only[an,seval,hr1,hr2]
   rw[au]
   refine⟨_,rfl,?_⟩
   refine⟨0,0,?_,?_,?_,?_,?_,?_,?_,?_⟩
   all_goals first|rfl|(simp only[an,seval,hr1,hr2]<;>rfl)
  ·obtain⟨r72,hr72,hh⟩:=ah hh
   try simp only[an,seval,hr1,hr2,hr72]
   refine sp bc hh (fun _ hh =>?_) (fun _ hh =>?_)
   ·cases hh
    try simp only[an,seval,hr1,hr2,hr72]
    rw[au]
    refine⟨_,rfl,?_⟩
    refine⟨0,0,?_,?_,?_,?_,?_,?_,?_,?_⟩
    all_goals first|rfl|(simp only[an,seval,hr1,hr2,hr72]<;>rfl)
   ·obtain⟨r74,hr74,hh⟩:=ah hh
    try simp only[an,seval,hr1,hr2,hr72,hr74]
    refine sp bc hh (fun _ hh =>?_) (fun _ hh =>?_)
    ·cases hh
     try simp only[an,seval,hr1,hr2,hr72,hr74]
     rw[au]
     refine⟨_,rfl,?_⟩
     refine⟨0,0,?_,?_,?_,?_,?_,?_,?_,?_⟩
     all_goals first|rfl|(simp only[an,seval,hr1,hr2,hr72,hr74]<;>rfl)
    ·cases hh
     try simp only[an,seval,hr1,hr2,hr72,hr74]
     rw[au]
     refine⟨_,rfl,?_⟩
     refine⟨0,0,?_,?_,?_,?_,?_,?_,?_,?_⟩
     all_goals first|rfl|(simp only[an,seval,hr1,hr2,hr72,hr74]<;>rfl)
theorem AM:bX Try.prog 5 A5:=bX.of (mode := .clean) tok AI mixed Try.func5 (by kernel_rfl) ⟨by kernel_rfl,by kernel_rfl⟩ (fun _=>aeX (by kernel_rfl)) (fun x r h=>CR x.1 x.2.1 x.2.2.1 x.2.2.2 r h)
end Go.Proofs.Ytchndpjlijbplaa.Am
namespace Go.Proofs.Ytchndpjlijbplaa.Am
open Go.ChangeShapes Go.WideShapes Go.ChangeAt Go.RowKit Go.Proofs.Ytchndpjlijbplaa.P
set_option maxRecDepth 100000
set_option linter.unusedVariables false
theorem Try.own:ownKnob Try.prog.godebug=none:=by kernel_rfl
theorem Try.laidOut:laidOutB Try.prog=true:=by kernel_rfl
theorem Wy (n:Nat):Oi tab (n+1) 3 (eI .i64) (fun x=>(Lit.int .i64 x).wf=true):=opI SX rfl rfl
theorem abe (n:Nat):Oi tab (n+2) 33 (Oj (eI .i64)) (fun x=>(x.length*8<=140737488351232∧∀y∈x,(Lit.int .i64 y).wf=true)):=aaq Jn rfl rfl (by rw[SX];rfl) (Wy n)
def I0 (x:al):Prop:=(Lit.int .i64 x.ag).wf=true∧((x.aa.length*8<=140737488351232∧∀y∈x.aa,(Lit.int .i64 y).wf=true))
theorem ZD (n:Nat):Oi tab (n+3) 39 eo (fun x=>I0 x):=opS (g:=fun y=>al.mk y.1 y.2) Qh rfl rfl (fun _=>rfl) (Wx (Wy (n+1)) rfl (Yv (abe n)))
def lI (x:ak):Prop:=I0 x.aL∧(I0 x.aM)
theorem Wz (n:Nat):Oi tab (n+4) 41 ay (fun x=>lI x):=opS (g:=fun y=>ak.mk y.1 y.2) DR rfl rfl (fun _=>rfl) (Wx (ZD n) rfl (Yv (ZD n)))
def C5 (x:dr):Prop:=(Lit.int .i64 x.cY).wf=true∧((Lit.int .i64 x.ko).wf=true∧(lI x.bg))
theorem abf (n:Nat):Oi tab (n+5) 46 a8 (fun x=>C5 x):=opS (g:=fun y=>dr.mk y.1 y.2.1 y.2.2) Jo rfl rfl (fun _=>rfl) (Wx (Wy (n+3)) rfl (Wx (Wy (n+3)) rfl (Yv (Wz n))))
theorem abb (n:Nat):Oi tab (n+6) 22 (Oj a8) (fun x=>(x.length*80<=140737488351232∧∀y∈x,C5 y)):=aaq Qg rfl rfl (by rw[Jo];rfl) (abf n)
def AW (x:bW):Prop:=(Lit.int .i64 x.aG).wf=true∧((x.av.length*80<=140737488351232∧∀y∈x.av,C5 y))
theorem abc (n:Nat):Oi tab (n+7) 24 ns (fun x=>AW x):=opS (g:=fun y=>bW.mk y.1 y.2) Jl rfl rfl (fun _=>rfl) (Wx (Wy (n+5)) rfl (Yv (abb n)))
theorem abd (n:Nat):Oi tab (n+5) 25 (Oj ay) (fun x=>(x.length*64<=140737488351232∧∀y∈x,lI y)):=aaq Jm rfl rfl (by rw[DR];rfl) (Wz n)
theorem wP:UG tab 8 [24,25,5,41] (iO (cN ns) (iO (nc ay) (iO (aI .u8) (fO (cN ay))))) (fun x=>AW x.1∧((x.2.1.length*64<=140737488351232∧∀y∈x.2.1,lI y)∧((Lit.int .u8 x.2.2.1).wf=true∧(lI x.2.2.2)))):=(aao (oaS Jl rfl (abc 1)) (aao (acx Jm rfl (abd 3)) (aao (oaI Xf rfl) (acy (oaS DR rfl (Wz 4))))))
theorem vC (law:∀(a0:bW) (a1:(List ak)) (a2:Int) (a3:ak),(AW a0)->((a1.length*64<=140737488351232∧∀y∈a1,lI y))->((Lit.int .u8 a2).wf=true)->(lI a3)->P.ij a0 a1 a2 a3=some true) (os:Os) (started:os.Started) (H:Type) (enc:TypeId×Value->H) :
  ReturnsInHanded {} Try.checked os 5 .any (Rows.solveFarSpec.pre6 enc Try.prog Try.f5 Rows.solveFarRow.domain false) (Rows.solveFarSpec.post enc Try.prog Try.f5 false true false false):=by
 refine P9 (C:=Try.checked) (T:=tab) (tb:=4) (n:=8) tok Try.own started (by kernel_rfl) Try.func5
  (ChangeSpec.witness6 (enc:=enc) (C:=Try.checked) false ⟨#[],#[.agg #[.int .i64 0,.slice none 0 0],.slice none 0 0,.int .u8 0,.agg #[.int .i64 0,.slice none 0 0,.int .i64 0,.slice none 0 0]],[]⟩ 8 (by kernel_rfl) (by kernel_rfl) (by kernel_rfl) (by kernel_rfl)) Try.laidOut (by kernel_rfl) rfl (by kernel_rfl) rfl (fun ds hds =>?_) (fun ar hl hs =>?_)
 ·rw[Try.params5]at hds
  match ds,hds with
  | [d0,d1,d2,d3],_=>exact⟨rfl,rfl,rfl⟩
 ·rw[Try.params5]at hl hs
  exact aae wP AM (fun x hx=>law x.1 x.2.1 x.2.2.1 x.2.2.2 hx.1 hx.2.1 hx.2.2.1 hx.2.2.2) ar hl hs
theorem wH (law:∀(a0:bW) (a1:(List ak)) (a2:Int) (a3:ak),(AW a0)->((a1.length*64<=140737488351232∧∀y∈a1,lI y))->((Lit.int .u8 a2).wf=true)->(lI a3)->P.ij a0 a1 a2 a3=some true):Rows.SolveFarSaid :=
 OpenClaim.holds_of_wide 5 Try.f5 rfl rfl rfl rfl rfl rfl rfl ⟨rfl,rfl,rfl,rfl,rfl⟩ rfl rfl rfl rfl rfl (by kernel_rfl) Try.func5 (by kernel_rfl)
  (of_decide_eq_true (by kernel_rfl)) (by unfold Func.isWrapper;first|(rw[if_pos (by decide +kernel)];kernel_rfl)|(rw[if_neg (by decide +kernel)];exact⟨rfl,rfl⟩))
  (fun os started H enc _=>vC law os started H enc)
end Go.Proofs.Ytchndpjlijbplaa.Am
namespace Go.Proofs.Ytchndpjlijbplaa.P
open Go.RowKit
set_option linter.unusedSimpArgs false
set_option linter.unusedVariables false
def aF (n:Nat):List Int:=if h:n=0 then [] else ((n % 1048576:Nat):Int)::aF (n / 1048576)
termination_by n
decreasing_by omega
def dv:List Int->Int
 | []=>0
 | d::l=>d+1048576*dv l
def Dg (l:List Int):Prop:=∀d∈l,0<=d∧d<1048576
def pw (i:Nat):Int:=1048576 ^ i
theorem nO:pw 0=1:=rfl
theorem jJ (i:Nat):pw (i+1)=1048576*pw i:=by unfold pw;rw[Int.pow_succ,afi]
theorem mh (i:Nat):0<pw i:=by unfold pw;exact Int.pow_pos (by decide)
theorem Dp (i j:Nat):pw (i+j)=pw i*pw j:=by unfold pw;rw[Int.pow_add]
theorem pG {i j:Nat} (h:i<=j):pw i<=pw j:=by
 obtain⟨k,rfl⟩:=Nat.le.dest h
 rw[Dp]
 have h1:=mh i
 have h2:=mh k
 calc pw i=pw i*1:=by rw[afj]
  _<=pw i*pw k:=afk (by omega) (by omega)
theorem cn:aF 0=[]:=by rw[aF];rfl
theorem mM {n:Nat} (h:n≠0):aF n=((n % 1048576:Nat):Int)::aF (n / 1048576):=by rw[aF,dif_neg h]
theorem qg {n:Nat} : aF n=[]↔n=0:=by
 constructor
 ·intro h
  rcases adz n with h0|h0
  ·exact h0
  ·rw[mM (by omega)]at h;cases h
 ·rintro rfl;exact cn
theorem bf:∀n:Nat,dv (aF n)=n:=by
 intro n
 induction n using Nat.strongRecOn with
 | _ n ih =>
  rcases adz n with h0|h0
  ·subst h0;rw[cn];rfl
  ·rw[mM (by omega),dv,ih (n / 1048576) (by omega)]
   omega
theorem bY:∀n:Nat,Dg (aF n):=by
 intro n
 induction n using Nat.strongRecOn with
 | _ n ih =>
  rcases adz n with h0|h0
  ·subst h0;rw[cn];intro d hd;cases hd
  ·rw[mM (by omega)]
   intro d hd
   rcases ado.1 hd with rfl|hd
   ·omega
   ·exact ih (n / 1048576) (by omega) d hd
theorem Dg.nil:Dg []:=fun d hd=>by cases hd
theorem Dg.cons {d:Int} {l:List Int} (h:Dg (d::l)):(0<=d∧d<1048576)∧Dg l:=⟨h d aeH,fun x hx=>h x (aeI _ hx)⟩
theorem Dg.mk {d:Int} {l:List Int} (h:0<=d∧d<1048576) (hl:Dg l):Dg (d::l):=fun x hx=>by
 rcases ado.1 hx with rfl|hx
 ·exact h
 ·exact hl x hx
theorem Dg.append {l m:List Int} (h:Dg l) (hm:Dg m):Dg (l++m):=fun x hx=>(aep.1 hx).elim (h x) (hm x)
theorem Dg.take {l:List Int} (h:Dg l) (n:Nat):Dg (l.take n):=fun x hx=>h x (ad1 hx)
theorem Dg.drop {l:List Int} (h:Dg l) (n:Nat):Dg (l.drop n):=fun x hx=>h x (adZ hx)
theorem Dg.rep (n:Nat):Dg (List.replicate n 0):=fun x hx=>by rw[(List.mem_replicate.1 hx).2];omega
theorem Dg.set {l:List Int} (h:Dg l) (i:Nat) {x:Int} (hx:0<=x∧x<1048576):Dg (l.set i x):=fun y hy=>by
 rcases List.mem_or_eq_of_mem_set hy with hy|rfl
 ·exact h y hy
 ·exact hx
theorem Dg.get {l:List Int} (h:Dg l) {i:Nat} (hi:i<l.length):0<=l[i]∧l[i]<1048576:=h _ (adt hi)
theorem cp:∀ {l:List Int},Dg l->0<=dv l
 | [],_=>Int.le_refl _
 | d::l,h=>by
  have h1:=h.cons
  have:=cp h1.2
  simp only[dv]
  omega
theorem np:∀ {l:List Int},Dg l->dv l<pw l.length
 | [],_=>by simp[dv,nO]
 | d::l,h=>by
  have h1:=h.cons
  have:=np h1.2
  simp only[dv,List.length_cons,jJ]
  omega
theorem fA:∀l m:List Int,dv (l++m)=dv l+pw l.length*dv m
 | [],m=>by simp[dv,nO]
 | d::l,m=>by
  rw[ae6,dv,dv,fA l m,adH,jJ,afl,afm]
  omega
theorem yL:∀n:Nat,dv (List.replicate n 0)=0
 | 0=>rfl
 | n+1=>by rw[aeb,dv,yL n];rfl
theorem ff {l:List Int} {i:Nat} (h:i<l.length):dv (l.take (i+1))=dv (l.take i)+pw i*l[i]:=by
 have e:l.take (i+1)=l.take i++[l[i]]:=by rw[afn];simp[h]
 rw[e,fA,adA,aem (by omega)]
 simp[dv]
theorem iy (l:List Int) {i:Nat} (h:i<=l.length):dv l=dv (l.take i)+pw i*dv (l.drop i):=by
 have:=fA (l.take i) (l.drop i)
 rw[ae2,adA,aem h]at this
 exact this
theorem ri {l:List Int} {i:Nat} (h:i<l.length) (x:Int):dv (l.set i x)=dv l+pw i*(x-l[i]):=by
 induction l generalizing i with
 | nil=>simp at h
 | cons d l ih =>
  cases i with
  | zero=>simp only[List.set_cons_zero,dv,nO,List.getElem_cons_zero];omega
  | succ i =>
   have:=ih (i:=i) (by simpa using h)
   simp only[List.set_cons_succ,dv,this,jJ,List.getElem_cons_succ,afl,afm]
   omega
theorem AT:∀ {l:List Int},Dg l->(∀h:l≠[],l.getLast h≠0)->aF (dv l).toNat=l
 | [],_,_=>by simp[dv,cn]
 | d::l,h,hl=>by
  have h1:=h.cons
  have h2:=cp h1.2
  have hne:(dv (d::l)).toNat≠0:=by
   simp only[dv]
   intro h0
   have hd:d=0:=by omega
   have hv:dv l=0:=by omega
   cases l with
   | nil=>exact hl (by simp) (by simpa using hd)
   | cons e m =>
    have ih:=AT h1.2 (fun hh=>by have:=hl (by simp);simpa using this)
    rw[hv]at ih
    simp[cn]at ih
  rw[mM hne]
  have e1:(dv (d::l)).toNat % 1048576=d.toNat:=by simp only[dv];omega
  have e2:(dv (d::l)).toNat / 1048576=(dv l).toNat:=by simp only[dv];omega
  rw[e1,e2]
  have hd:(d.toNat:Int)=d:=by omega
  rw[hd]
  cases l with
  | nil=>simp[dv,cn]
  | cons e m=>rw[AT h1.2 (fun hh=>by have:=hl (by simp);simpa using this)]
theorem Tg:∀(n:Nat) (h:aF n≠[]),(aF n).getLast h≠0:=by
 intro n
 induction n using Nat.strongRecOn with
 | _ n ih =>
  intro h
  have hn:n≠0:=fun h0=>h (qg.2 h0)
  have e:=mM hn
  by_cases hq:n / 1048576=0
  ·have:aF n=[((n % 1048576:Nat):Int)]:=by rw[e,hq,cn]
   simp only[this,List.getLast_singleton]
   omega
  ·have hne:aF (n / 1048576)≠[]:=fun h0=>hq (qg.1 h0)
   have:=ih (n / 1048576) (by omega) hne
   simp only[e]
   rw[List.getLast_cons hne]
   exact this
theorem Vr {a b:Nat} (h:aF a=aF b):a=b:=by
 have:=congrArg dv h
 rw[bf,bf]at this
 omega
theorem gm {n k:Nat} (h:(n:Int)<pw k):(aF n).length<=k:=by
 induction k generalizing n with
 | zero =>
  rw[nO]at h
  have:n=0:=by omega
  rw[this,cn];simp
 | succ k ih =>
  by_cases h0:n=0
  ·rw[h0,cn];simp
  ·rw[mM h0,adH]
   rw[jJ]at h
   have:=ih (n:=n / 1048576) (by omega)
   omega
theorem eX (n:Nat):(n:Int)<pw (aF n).length:=by
 have:=np (bY n)
 rwa [bf]at this
theorem xk {n:Nat} (h:n≠0):pw ((aF n).length-1)<=n∧0<(aF n).length:=by
 induction n using Nat.strongRecOn with
 | _ n ih =>
  rw[mM h,adH]
  refine⟨?_,by omega⟩
  by_cases hq:n / 1048576=0
  ·rw[hq,cn];simp[nO];omega
  ·obtain⟨h1,h2⟩:=ih (n / 1048576) (by omega) hq
   have:(aF (n / 1048576)).length+1-1=((aF (n / 1048576)).length-1)+1:=by omega
   rw[this,jJ]
   omega
theorem s8 {x:Int} (h1 : -9223372036854775808<=x) (h2:x<9223372036854775808):jV .and .i64 x 1048575=x % 1048576:=by
 unfold jV
 simp only
 have e1:(BitVec.ofInt IntKind.i64.bits x &&& BitVec.ofInt IntKind.i64.bits 1048575).toNat=((x % 18446744073709551616).toNat) % 1048576:=by
  rw[BitVec.toNat_and,BitVec.toNat_ofInt,BitVec.toNat_ofInt]
  have e:((1048575:Int) % ((2 ^ IntKind.i64.bits:Nat):Int)).toNat=2 ^ 20-1:=by decide
  rw[e,afo]
  rfl
 rw[e1,wrap64 (by omega) (by omega)]
 omega
theorem XS {x:Int} (h1 : -9223372036854775808<=x) (h2:x<9223372036854775808):jV .and .i64 x 1=x % 2:=by
 unfold jV
 simp only
 have e1:(BitVec.ofInt IntKind.i64.bits x &&& BitVec.ofInt IntKind.i64.bits 1).toNat=((x % 18446744073709551616).toNat) % 2:=by
  rw[BitVec.toNat_and,BitVec.toNat_ofInt,BitVec.toNat_ofInt]
  have e:((1:Int) % ((2 ^ IntKind.i64.bits:Nat):Int)).toNat=2 ^ 1-1:=by decide
  rw[e,afo]
  rfl
 rw[e1,wrap64 (by omega) (by omega)]
 omega
theorem NP (x:Int):wU .i64 x 20=some (x / 1048576):=by
 unfold wU
 rw[if_neg (by decide)]
 have e:(2:Int) ^ (min (Int.toNat 20) IntKind.i64.bits)=1048576:=by decide
 rw[e,afp _ (by decide)]
theorem WL {x:Int} (h0:0<=x) (h:x<8796093022208):EE .i64 x 20=some (1048576*x):=by
 unfold EE
 rw[if_neg (by decide)]
 have e:(2:Int) ^ (min (Int.toNat 20) IntKind.i64.bits)=1048576:=by decide
 rw[e,wrap64 (by omega) (by omega),afi]
theorem P3 {x y:Int} (h0:0<=x) (h:x<8796093022208) (hy:0<=y∧y<1048576):jV .or .i64 (1048576*x) y=1048576*x+y:=by
 unfold jV
 simp only
 have e1:(BitVec.ofInt IntKind.i64.bits (1048576*x) ||| BitVec.ofInt IntKind.i64.bits y).toNat=1048576*x.toNat+y.toNat:=by
  rw[BitVec.toNat_or,BitVec.toNat_ofInt,BitVec.toNat_ofInt]
  have e:((2 ^ IntKind.i64.bits:Nat):Int)=18446744073709551616:=by decide
  rw[e]
  have e2:((1048576*x) % 18446744073709551616).toNat=x.toNat <<< 20:=by rw[Nat.shiftLeft_eq];omega
  have e3:(y % 18446744073709551616).toNat=y.toNat:=by omega
  rw[e2,e3,<- Nat.shiftLeft_add_eq_or_of_lt (by omega),Nat.shiftLeft_eq]
  omega
 rw[e1,wrap64 (by omega) (by omega)]
 omega
theorem mk0 {n:Nat} (h:n<=17592186044416):D6 8 (n:Int) (n:Int) (0:Int)=some (List.replicate n 0):=by
 unfold D6
 rw[if_pos]
 ·simp
 ·have:(17592186044416:Int)<=maxLen:=by decide
  refine⟨by omega,by omega,by omega,?_⟩
  simp only[Int.toNat_natCast]
  omega
theorem xd {l m:List Int} (h:l.length+m.length<=17592186044416):k9 8 l m=some (l++m):=by
 unfold k9
 have:(17592186044416:Nat)<=maxLen:=by decide
 rw[if_pos ⟨by omega,by omega⟩]
theorem cw {σ ρ:Type} {body:σ->Option (σ⊕ρ)} (I:Nat->σ->Prop) (n:Nat) (Q:ρ->Prop) {s:σ} (hI:I 0 s) (hn:n+1<FU)
  (hstep:∀i s,i<=n->I i s->(i<n∧∃s',body s=some (.inl s')∧I (i+1) s')∨(∃r,body s=some (.inr r)∧Q r)):∃r,aX body s=some r∧Q r:=by
 have key:∀(k i:Nat) (s:σ),i<=n->n-i<k->I i s->∃r,nt body k s=some r∧Q r:=by
  intro k
  induction k with
  | zero=>intro i s _ h;omega
  | succ k ih =>
   intro i s hi hk hI
   rcases hstep i s hi hI with⟨hlt,s',h1,h2⟩|⟨r,h1,h2⟩
   ·obtain⟨r,h3,h4⟩:=ih (i+1) s' (by omega) (by omega) h2
    exact⟨r,by simp only[nt,h1];exact h3,h4⟩
   ·exact⟨r,by simp only[nt,h1],h2⟩
 exact key FU 0 s (adi _) (by omega) hI
theorem Su (i:Nat) (x:Int):pw (i+1)*x=pw i*(1048576*x):=by rw[jJ,afi 1048576 (pw i),afm]
theorem tS (i:Nat) (t:Int):pw i*(t % 1048576)+pw (i+1)*(t / 1048576)=pw i*t:=by
 rw[Su,<- afl]
 congr 1
 omega
theorem iW {n:Nat} (h:n<=17592186044416):n+1<FU:=by unfold FU;omega
abbrev Fit (l:List Int):Prop:=l.length<=17592186044416
theorem gK {x:Int} (h : -4611686018427387904<=x∧x<=4611686018427387904):IntKind.i64.wrap x=x:=wrap64 (by omega) (by omega)
theorem mW {α:Type} (o:Option α):(o.bind fun r=>some r)=o:=by cases o<;>rfl
theorem HO {l:List Int} (hl:Fit l):∃r,aX (kG l) (l.length:Int)=some r∧∃k:Nat,r=k∧k<=l.length∧(∀j (hj:j<l.length),k<=j->l[j]=0)∧(∀h:0<k,∀hk:k-1<l.length,l[k-1]≠0):=by
 unfold Fit at hl
 refine cw (I:=fun i s=>s=((l.length-i:Nat):Int)∧(∀j (hj:j<l.length),l.length-i<=j->l[j]=0)) l.length _ ⟨rfl,fun j hj h=>by omega⟩ (iW hl) ?_
 rintro i s hi ⟨rfl,hz⟩
 generalize hk:l.length-i=k at *
 simp only[kG]
 by_cases h0:0<k
 ·have hk1:k-1<l.length:=by omega
  have e:IntKind.i64.wrap ((k:Int)-1)=((k-1:Nat):Int):=by rw[gK (by omega)];omega
  rw[if_pos (by simp;omega),e,bQ hk1,aeL]
  by_cases hx:l[k-1]=0
  ·left
   refine⟨by omega,_,by rw[if_pos (by simpa using hx)],by rw[show l.length-(i+1)=k-1 by omega],fun j hj h =>?_⟩
   by_cases hj':j=k-1
   ·subst hj';exact hx
   ·exact hz j hj (by omega)
  ·right
   exact⟨_,by rw[if_neg (by simpa using hx)],k,rfl,by omega,hz,fun _ _=>hx⟩
 ·right
  exact⟨_,by rw[if_neg (by simp;omega)],k,rfl,by omega,hz,fun h=>absurd h h0⟩
theorem VG {l:List Int} {k:Nat} (hz:∀j (hj:j<l.length),k<=j->l[j]=0):dv (l.drop k)=0:=by
 have:l.drop k=List.replicate (l.drop k).length 0:=by
  refine List.eq_replicate_of_mem fun x hx =>?_
  obtain⟨i,hi,rfl⟩:=List.mem_iff_getElem.1 hx
  rw[List.getElem_drop]
  exact hz _ _ (by omega)
 rw[this,yL]
theorem so {l:List Int} (hl:Fit l) (hd:Dg l):dt l=some (aF (dv l).toNat):=by
 obtain⟨r,h1,k,rfl,hk,hz,hlast⟩:=HO hl
 unfold dt
 rw[h1,aeL,Ji hk,aeL]
 congr 1
 have h2:dv l=dv (l.take k):=by rw[iy l hk,VG hz];omega
 rw[h2]
 refine (AT (hd.take k) fun hne =>?_).symm
 have hk0:0<k:=by
  rcases adz k with h|h
  ·subst h;simp at hne
  ·exact h
 have:=hlast hk0 (by omega)
 rw[List.getLast_eq_getElem]
 simp only[adA,List.getElem_take,aem hk]
 exact this
theorem A2 {l:List Int} {n:Nat} (hl:Fit l) (hd:Dg l) (hn:dv l=n):dt l=some (aF n):=by
 rw[so hl hd,hn];rfl
def gd (l:List Int) (i:Nat):Int:=if h:i<l.length then l[i] else 0
theorem Gf {l:List Int} (h:Dg l) (i:Nat):0<=gd l i∧gd l i<1048576:=by
 unfold gd
 split
 ·exact h.get _
 ·omega
theorem pB {l:List Int} (i:Nat):dv (l.take (i+1))=dv (l.take i)+pw i*gd l i:=by
 unfold gd
 split
 ·exact ff _
 ·rw[aeA (by omega),aeA (by omega)];simp
theorem wF {l:List Int} {i:Nat} (h:l.length<=i):dv (l.take i)=dv l:=by rw[aeA h]
theorem UM {a b:List Int} (ha:Dg a) (hb:Dg b) (hf:a.length<17592186044416) (hab:b.length<=a.length) :
  ∃r,aX (oh a b) (0,0,List.replicate (a.length+1) 0)=some r∧r.2.length=a.length+1∧Dg r.2∧(∀j (hj:j<r.2.length),a.length<=j->r.2[j]=0)∧(0<=r.1∧r.1<=1)∧dv r.2+pw a.length*r.1=dv a+dv b:=by
 refine cw (I:=fun i s=>s.2.1=(i:Int)∧s.2.2.length=a.length+1∧Dg s.2.2∧(∀j (hj:j<s.2.2.length),i<=j->s.2.2[j]=0)∧(0<=s.1∧s.1<=1)∧dv s.2.2+pw i*s.1=dv (a.take i)+dv (b.take i))
  a.length _ ⟨rfl,by simp,Dg.rep _,fun j hj _=>by simp,by simp,by simp[yL,dv]⟩ (iW (by omega)) ?_
 rintro i ⟨c,s,l⟩ hi ⟨h1,hl,hd,hz,hc,he⟩
 simp only at h1 hl hd hz hc he
 subst h1
 simp only[oh]
 by_cases hlt:i<a.length
 ·left
  rw[if_pos (by simpa using hlt),bQ hlt,aeL]
  have ga:=ha.get hlt
  have gb:=Gf hb i
  have hT:(if decide ((i:Int)<(b.length:Int))=true then (P.idx b (i:Int)).bind fun x22=>some (IntKind.i64.wrap ((IntKind.i64.wrap (c+a[i]))+x22)) else some (IntKind.i64.wrap (c+a[i])))=some (c+a[i]+gd b i):=by
   by_cases hib:i<b.length
   ·rw[if_pos (by simpa using hib),bQ hib,aeL]
    have:gd b i=b[i]:=by unfold gd;rw[dif_pos hib]
    rw[this]at gb ⊢
    rw[gK (x:=c+a[i]) (by omega),gK (by omega)]
   ·rw[if_neg (by simpa using hib)]
    have:gd b i=0:=by unfold gd;rw[dif_neg hib]
    rw[this,gK (by omega)];simp
  rw[hT,aeL,bQ (by omega),aeL,NP,aeL,s8 (by omega) (by omega)]
  have hli:l[i]=0:=hz i (by omega) (adh _)
  have e1:IntKind.i64.wrap ((i:Int)+1)=((i+1:Nat):Int):=by rw[gK (by omega)];omega
  refine⟨hlt,_,rfl,e1,by simpa using hl,hd.set _ (by omega),fun j hj hij =>?_,by simp only;omega,?_⟩
  ·simp only[Int.toNat_natCast]at hj ⊢
   rw[afq (by omega)]
   exact hz j (by simpa using hj) (by omega)
  ·simp only[Int.toNat_natCast]
   rw[ri (by omega),hli,pB,pB]
   have hga:gd a i=a[i]:=by unfold gd;rw[dif_pos hlt]
   rw[hga]
   have hp:=tS i (c+a[i]+gd b i)
   rw[afl,afl]at hp
   rw[Int.sub_zero]
   omega
 ·right
  have hia:i=a.length:=by omega
  subst hia
  refine⟨_,by rw[if_neg (by simp)],hl,hd,fun j hj h=>hz j hj h,hc,?_⟩
  rw[he,wF (adh _),wF hab]
theorem add_eq {a b:List Int} (ha:Dg a) (hb:Dg b) (hfa:a.length<17592186044416) (hfb:b.length<17592186044416):pb a b=some (aF (dv a+dv b).toNat):=by
 have main:∀ {a b:List Int},Dg a->Dg b->a.length<17592186044416->b.length<=a.length ->
   ((D6 8 (IntKind.i64.wrap ((a.length:Int)+1)) (IntKind.i64.wrap ((a.length:Int)+1)) 0).bind fun x2 =>
    (aX (oh a b) (0,0,x2)).bind fun q=>match q with
    | (s6bx,l5bx) =>
     (P.idx l5bx (a.length:Int)).bind fun x23 =>
     (dt (l5bx.set ((a.length:Int)).toNat s6bx)).bind fun r26 =>
     some r26)=some (aF (dv a+dv b).toNat):=by
  intro a b ha hb hfa hab
  have e:IntKind.i64.wrap ((a.length:Int)+1)=((a.length+1:Nat):Int):=by rw[gK (by omega)];omega
  rw[e,mk0 (by omega),aeL]
  obtain⟨⟨c,l⟩,h1,h2,h3,h4,h5,h6⟩:=UM ha hb hfa hab
  rw[h1]
  simp only[Option.bind_some]at h2 h3 h4 h5 h6 ⊢
  have hlt:a.length<l.length:=by omega
  rw[bQ hlt,aeL,aeg,mW]
  have hv:dv (l.set a.length c)=dv a+dv b:=by
   rw[ri hlt,h4 _ hlt (adh _),Int.sub_zero,h6]
  rw[so (by simp[Fit];omega) (h3.set _ (by omega)),hv]
 unfold pb
 by_cases h:a.length<b.length
 ·rw[if_pos (by simpa using h),aeL,Int.add_comm]
  exact main hb ha hfb (by omega)
 ·rw[if_neg (by simpa using h),aeL]
  exact main ha hb hfa (by omega)
theorem tl {l:List Int} (h:Fit l):cB l=some l:=by
 unfold cB
 rw[xd (by simpa using h),aeW]
theorem Le {l:List Int} {i:Nat} (h:i<l.length):gd l i=l[i]:=by unfold gd;rw[dif_pos h]
theorem Gg {l:List Int} {i:Nat} (h:l.length<=i):gd l i=0:=by unfold gd;rw[dif_neg (by omega)]
theorem W3 {a b:List Int} (ha:Dg a) (hb:Dg b) (hf:Fit a) (hab:b.length<=a.length) (hle:dv b<=dv a) :
  ∃l,aX (q9 b a) (0,0,a)=some l∧l.length=a.length∧Dg l∧dv l=dv a-dv b:=by
 unfold Fit at hf
 refine cw (I:=fun i s=>s.2.1=(i:Int)∧s.2.2.length=a.length∧Dg s.2.2∧(∀j (hj:j<s.2.2.length) (hj':j<a.length),i<=j->s.2.2[j]=a[j])∧(0<=s.1∧s.1<=1)∧dv s.2.2+dv (b.take i)=dv a+pw i*s.1)
  a.length _ ⟨rfl,rfl,ha,fun j hj _ _=>rfl,by simp,by simp[dv]⟩ (iW (by omega)) ?_
 rintro i ⟨c,s,l⟩ hi ⟨h1,hl,hd,hz,hc,he⟩
 simp only at h1 hl hd hz hc he
 subst h1
 simp only[q9]
 by_cases hlt:i<a.length
 ·left
  have hli:i<l.length:=by omega
  rw[if_pos (by simpa using hlt),bQ hli,aeL,hz i hli hlt (adh _)]
  have ga:=ha.get hlt
  have gb:=Gf hb i
  have hT:(if decide ((i:Int)<(b.length:Int))=true then (P.idx b (i:Int)).bind fun x18=>some (IntKind.i64.wrap ((IntKind.i64.wrap (a[i]-c))-x18)) else some (IntKind.i64.wrap (a[i]-c)))=some (a[i]-c-gd b i):=by
   by_cases hib:i<b.length
   ·rw[if_pos (by simpa using hib),bQ hib,aeL]
    rw[Le hib]at gb ⊢
    rw[gK (x:=a[i]-c) (by omega),gK (by omega)]
   ·rw[if_neg (by simpa using hib),Gg (by omega),gK (by omega)];simp
  rw[hT,aeL,NP,aeL,s8 (by omega) (by omega),XS (by omega) (by omega)]
  have e1:IntKind.i64.wrap ((i:Int)+1)=((i+1:Nat):Int):=by rw[gK (by omega)];omega
  refine⟨hlt,_,rfl,e1,by simpa using hl,hd.set _ (by omega),fun j hj hj' hij =>?_,by simp only;omega,?_⟩
  ·simp only[Int.toNat_natCast]at hj ⊢
   rw[afq (by omega)]
   exact hz j (by simpa using hj) hj' (by omega)
  ·simp only[Int.toNat_natCast]
   rw[ri hli,hz i hli hlt (adh _),pB]
   have hp:=tS i (a[i]-c-gd b i)
   have hb2:(a[i]-c-gd b i) / 1048576 % 2 = - ((a[i]-c-gd b i) / 1048576):=by omega
   rw[hb2,Int.mul_neg]
   rw[afr,afr]at hp
   rw[afr]
   omega
 ·right
  have hia:i=a.length:=by omega
  subst hia
  refine⟨l,by rw[if_neg (by simp)],hl,hd,?_⟩
  rw[wF hab]at he
  have h1:=np hd
  rw[hl]at h1
  have hc0:c=0:=by
   rcases (show c=0∨c=1 by omega) with h|h
   ·exact h
   ·subst h;omega
  subst hc0
  omega
theorem sub_eq {a b:List Int} (ha:Dg a) (hb:Dg b) (hf:Fit a) (hab:b.length<=a.length) (hle:dv b<=dv a):nE a b=some (aF (dv a-dv b).toNat):=by
 obtain⟨l,h1,h2,h3,h4⟩:=W3 ha hb hf hab hle
 unfold nE
 rw[tl hf,aeL,h1,aeL,mW,so (by unfold Fit at *;omega) h3,h4]
theorem jw {l:List Int} {i:Nat} (h:i<l.length):dv (l.drop i)=l[i]+1048576*dv (l.drop (i+1)):=by
 rw[afa h,dv]
theorem X4 {x d:Int} (h:0<=x) (hd:0<d) (hx:x<4611686018427387904):yJ .i64 x d=some (x / d):=by
 unfold yJ
 rw[if_neg (by omega),Int.tdiv_eq_ediv_of_nonneg h,gK]
 have:=afs h (Int.le_of_lt hd)
 have:=Int.ediv_le_self d h
 omega
theorem Yq {x d:Int} (h:0<=x) (hd:0<d):yZ .i64 x d=some (x % d):=by
 unfold yZ
 rw[if_neg (by omega),Int.tmod_eq_emod_of_nonneg h]
theorem Qd {a:List Int} {d:Int} (ha:Dg a) (hd:0<d∧d<=1048576) (hf:Fit a) :
  ∃r,aX (nD a d) (0,IntKind.i64.wrap ((a.length:Int)-1),List.replicate a.length 0)=some r∧r.2.length=a.length∧Dg r.2∧(0<=r.1∧r.1<d)∧dv a=d*dv r.2+r.1:=by
 unfold Fit at hf
 have e0:IntKind.i64.wrap ((a.length:Int)-1)=(a.length:Int)-1:=gK (by omega)
 rw[e0]
 refine cw (I:=fun i s=>s.2.1=((a.length-i:Nat):Int)-1∧s.2.2.length=a.length∧Dg s.2.2∧(0<=s.1∧s.1<d)∧dv (a.drop (a.length-i))=d*dv (s.2.2.drop (a.length-i))+s.1)
  a.length _ ⟨rfl,by simp,Dg.rep _,by simp;omega,by simp[dv]⟩ (iW (by omega)) ?_
 rintro i ⟨r,s,l⟩ hi ⟨h1,hl,hg,hr,he⟩
 simp only at h1 hl hg hr he
 subst h1
 generalize hk:a.length-i=k at *
 simp only[nD]
 by_cases h0:0<k
 ·left
  have hk1:k-1<a.length:=by omega
  have hk2:k-1<l.length:=by omega
  have ek:((k:Int)-1)=((k-1:Nat):Int):=by omega
  have ga:=ha.get hk1
  rw[ek,if_pos (by simp),WL (by omega) (by omega),aeL,bQ hk1,aeL,P3 (by omega) (by omega) ga,X4 (by omega) hd.1 (by omega),aeL,bQ hk2,aeL,Yq (by omega) hd.1,aeL]
  have e1:IntKind.i64.wrap (((k-1:Nat):Int)-1)=((k-1:Nat):Int)-1:=gK (by omega)
  have hx0:0<=1048576*r+a[k-1]:=by omega
  have hq0:0<=(1048576*r+a[k-1]) / d:=afs hx0 (by omega)
  have hq1:(1048576*r+a[k-1]) / d<1048576:=by
   apply aft hd.1
   have:1048576*r<=1048576*(d-1):=afk (by omega) (by omega)
   omega
  have hm0:=Int.emod_nonneg (1048576*r+a[k-1]) (show d≠0 by omega)
  have hm1:=afu (1048576*r+a[k-1]) hd.1
  refine⟨by omega,_,rfl,by rw[e1,show a.length-(i+1)=k-1 by omega],by simpa using hl,hg.set _ ⟨hq0,hq1⟩,⟨hm0,hm1⟩,?_⟩
  simp only[Int.toNat_natCast]
  rw[show a.length-(i+1)=k-1 by omega,jw hk1,jw (l:=l.set (k-1) _) (i:=k-1) (by simpa using hk2),show k-1+1=k by omega,List.getElem_set_self,List.drop_set_of_lt (by omega),he]
  have:=afv (1048576*r+a[k-1]) d
  rw[afl,afl]
  have e3:d*(1048576*dv (l.drop k))=1048576*(d*dv (l.drop k)):=by rw[<- afm,afi d,afm]
  rw[e3]
  omega
 ·right
  have:k=0:=by omega
  subst this
  refine⟨(r,l),by rw[if_neg (by simp)],hl,hg,hr,?_⟩
  simpa using he
theorem NO {a:List Int} {d:Int} (ha:Dg a) (hd:0<d∧d<=1048576) (hf:Fit a):kF a d=some (aF (dv a / d).toNat,dv a % d):=by
 obtain⟨⟨r,l⟩,h1,h2,h3,h4,h5⟩:=Qd ha hd hf
 unfold kF
 rw[mk0 hf,aeL,h1,aeL]
 simp only at h2 h3 h4 h5 ⊢
 rw[so (by unfold Fit at *;omega) h3,aeL]
 have e1:dv a / d=dv l:=by
  rw[h5,afi,Int.add_comm,Int.add_mul_ediv_right _ _ (by omega),Int.ediv_eq_zero_of_lt h4.1 h4.2];omega
 have e2:dv a % d=r:=by
  rw[h5,afi,Int.add_comm,Int.add_mul_emod_self_right]
  exact Int.emod_eq_of_lt h4.1 h4.2
 rw[e1,e2]
theorem T8 {b l0:List Int} {x:Int} {i n:Nat} (hb:Dg b) (hx:0<=x∧x<1048576) (h0:Dg l0) (hn:l0.length=n) (hi:i+b.length<n) (hf:n<=17592186044416) (hz:∀j (hj:j<l0.length),i+b.length<=j->l0[j]=0) :
  ∃r,aX (q8 b (i:Int) x) (0,0,l0)=some r∧r.2.length=n∧Dg r.2∧(0<=r.1∧r.1<1048576)∧(∀j (hj:j<r.2.length),i+b.length<=j->r.2[j]=0)∧dv r.2+pw (i+b.length)*r.1=dv l0+pw i*(x*dv b):=by
 refine cw (I:=fun k s=>s.2.1=(k:Int)∧s.2.2.length=n∧Dg s.2.2∧(0<=s.1∧s.1<1048576)∧(∀j (hj:j<s.2.2.length),i+b.length<=j->s.2.2[j]=0)∧dv s.2.2+pw (i+k)*s.1=dv l0+pw i*(x*dv (b.take k)))
  b.length _ ⟨rfl,hn,h0,by simp,hz,by simp[dv]⟩ (iW (by omega)) ?_
 rintro k ⟨c,s,l⟩ hk ⟨h1,hl,hd,hc,hz,he⟩
 simp only at h1 hl hd hc hz he
 subst h1
 simp only[q8]
 by_cases hlt:k<b.length
 ·left
  have hik:i+k<l.length:=by omega
  have ei:IntKind.i64.wrap ((i:Int)+(k:Int))=((i+k:Nat):Int):=by rw[gK (by omega)];omega
  have gb:=hb.get hlt
  have gl:=hd.get hik
  have hm0:0<=x*b[k]:=afw hx.1 gb.1
  have hm1:x*b[k]<=1048575*1048575:=afx (by omega) (by omega) gb.1 (by omega)
  rw[if_pos (by simpa using hlt),bQ hlt,aeL,ei,bQ hik,aeL,gK (x:=x*b[k]) (by omega),gK (x:=l[i+k]+x*b[k]) (by omega),gK (x:=l[i+k]+x*b[k]+c) (by omega),NP,aeL,s8 (by omega) (by omega)]
  have e1:IntKind.i64.wrap ((k:Int)+1)=((k+1:Nat):Int):=by rw[gK (by omega)];omega
  refine⟨hlt,_,rfl,e1,by simpa using hl,hd.set _ (by omega),by simp only;omega,fun j hj hij =>?_,?_⟩
  ·simp only[Int.toNat_natCast]at hj ⊢
   rw[afq (by omega)]
   exact hz j (by simpa using hj) hij
  ·simp only[Int.toNat_natCast]
   rw[ri hik,ff hlt]
   have hp:=tS (i+k) (l[i+k]+x*b[k]+c)
   rw[afl (pw (i+k)),afl (pw (i+k))]at hp
   have e2:pw i*(x*(dv (b.take k)+pw k*b[k]))=pw i*(x*dv (b.take k))+pw (i+k)*(x*b[k]):=by
    rw[afl,afl,Dp]
    congr 1
    rw[afy x,<- afm]
   rw[e2,afr,show i+(k+1)=i+k+1 by omega]
   omega
 ·right
  have hkb:k=b.length:=by omega
  subst hkb
  refine⟨(c,l),by rw[if_neg (by simp)],hl,hd,hc,hz,?_⟩
  rw[he,afg]
theorem T7 {a b:List Int} (ha:Dg a) (hb:Dg b) (hf:a.length+b.length<=17592186044416) :
  ∃l,aX (qZ a b) (0,List.replicate (a.length+b.length) 0)=some l∧l.length=a.length+b.length∧Dg l∧dv l=dv a*dv b:=by
 refine cw (I:=fun i s=>s.1=(i:Int)∧s.2.length=a.length+b.length∧Dg s.2∧(∀j (hj:j<s.2.length),i+b.length<=j->s.2[j]=0)∧dv s.2=dv (a.take i)*dv b)
  a.length _ ⟨rfl,by simp,Dg.rep _,fun j hj _=>by simp,by simp[dv,yL]⟩ (iW (by omega)) ?_
 rintro i ⟨s,l⟩ hi ⟨h1,hl,hd,hz,he⟩
 simp only at h1 hl hd hz he
 subst h1
 simp only[qZ]
 by_cases hlt:i<a.length
 ·left
  have ga:=ha.get hlt
  obtain⟨⟨c,m⟩,g1,g2,g3,g4,g5,g6⟩:=T8 (i:=i) (n:=a.length+b.length) hb ga hd hl (by omega) hf hz
  rw[if_pos (by simpa using hlt),bQ hlt,aeL,g1,aeL]
  simp only at g2 g3 g4 g5 g6 ⊢
  have ei:IntKind.i64.wrap ((i:Int)+(b.length:Int))=((i+b.length:Nat):Int):=by rw[gK (by omega)];omega
  have hib:i+b.length<m.length:=by omega
  rw[ei,bQ hib,aeL,g5 _ hib (adh _),Int.zero_add,gK (x:=c) (by omega)]
  have e1:IntKind.i64.wrap ((i:Int)+1)=((i+1:Nat):Int):=by rw[gK (by omega)];omega
  refine⟨hlt,_,rfl,e1,by simpa using g2,g3.set _ g4,fun j hj hij =>?_,?_⟩
  ·simp only[Int.toNat_natCast]at hj ⊢
   rw[afq (by omega)]
   exact g5 j (by simpa using hj) (by omega)
  ·simp only[Int.toNat_natCast]
   rw[ri hib,g5 _ hib (adh _),Int.sub_zero,g6,he,ff hlt,afz,afm]
 ·right
  have hia:i=a.length:=by omega
  subst hia
  refine⟨l,by rw[if_neg (by simp)],hl,hd,?_⟩
  rw[he,afg]
theorem mul_eq {a b:List Int} (ha:Dg a) (hb:Dg b) (hf:a.length+b.length<=17592186044416):nC a b=some (aF (dv a*dv b).toNat):=by
 obtain⟨l,h1,h2,h3,h4⟩:=T7 ha hb hf
 unfold nC
 have e:IntKind.i64.wrap ((a.length:Int)+(b.length:Int))=((a.length+b.length:Nat):Int):=by rw[gK (by omega)];omega
 rw[e,mk0 hf,aeL,h1,aeL,mW,so (by unfold Fit;omega) h3,h4]
def kn (x y:Int):Int:=if x<y then -1 else if y<x then 1 else 0
theorem BM (x y:Int):ej x y=some (kn x y):=by
 unfold ej l7 kn
 simp only[bne_self_eq_false,Option.bind_some,adR,if_false,decide_eq_true_eq]
 split
 ·rfl
 ·split<;>rfl
theorem Kq {a b:List Int} (ha:Dg a) (hb:Dg b) (hf:Fit a) (hl:a.length=b.length):eM a b=some (kn (dv a) (dv b)):=by
 unfold Fit at hf
 unfold eM
 rw[if_neg (by simp;omega)]
 have e0:IntKind.i64.wrap ((a.length:Int)-1)=(a.length:Int)-1:=gK (by omega)
 rw[e0]
 have key:∃r,aX (ll a b) ((a.length:Int)-1)=some r∧(match r with | .inl _=>kn (dv a) (dv b)=0 | .inr x=>x=kn (dv a) (dv b)):=by
  refine cw (I:=fun i s=>s=((a.length-i:Nat):Int)-1∧a.drop (a.length-i)=b.drop (a.length-i)) a.length _ ⟨rfl,?_⟩ (iW hf) ?_
  ·rw[aeZ (by omega),aeZ (by omega)]
  rintro i s hi ⟨rfl,he⟩
  generalize hk:a.length-i=k at *
  simp only[ll]
  by_cases h0:0<k
  ·have h1:k-1<a.length:=by omega
   have h2:k-1<b.length:=by omega
   have ek:((k:Int)-1)=((k-1:Nat):Int):=by omega
   rw[ek,if_pos (by simp),bQ h1,aeL,bQ h2,aeL]
   by_cases hx:a[k-1]=b[k-1]
   ·left
    rw[if_neg (by simpa using hx)]
    refine⟨by omega,_,rfl,by rw[gK (by omega)];omega,?_⟩
    rw[show a.length-(i+1)=k-1 by omega,afa h1,afa h2,hx,show k-1+1=k by omega,he]
   ·right
    rw[if_pos (by simpa using hx),BM,aeL]
    refine⟨_,rfl,?_⟩
    simp only
    have ea:=iy a (i:=k) (by omega)
    have eb:=iy b (i:=k) (by omega)
    have ta:=ff h1
    have tb:=ff h2
    rw[show k-1+1=k by omega]at ta tb
    have la:=np (ha.take (k-1))
    have lb:=np (hb.take (k-1))
    rw[adA,aem (by omega)]at la lb
    have na:=cp (ha.take (k-1))
    have nb:=cp (hb.take (k-1))
    have hp:=mh (k-1)
    rw[ta]at ea
    rw[tb]at eb
    rw[he]at ea
    unfold kn
    rcases Int.lt_or_gt_of_ne hx with hlt|hlt
    ·have:pw (k-1)*a[k-1]+pw (k-1)<=pw (k-1)*b[k-1]:=by
      have:pw (k-1)*(a[k-1]+1)<=pw (k-1)*b[k-1]:=afk (by omega) (by omega)
      rwa [afl,afj]at this
     rw[if_pos hlt,if_pos (by omega)]
    ·have:pw (k-1)*b[k-1]+pw (k-1)<=pw (k-1)*a[k-1]:=by
      have:pw (k-1)*(b[k-1]+1)<=pw (k-1)*a[k-1]:=afk (by omega) (by omega)
      rwa [afl,afj]at this
     rw[if_neg (by omega),if_pos hlt,if_neg (by omega),if_pos (by omega)]
  ·right
   have:k=0:=by omega
   subst this
   refine⟨.inl (),by rw[if_neg (by simp)],?_⟩
   simp only[aeB]at he
   simp[he,kn]
 obtain⟨r,h1,h2⟩:=key
 rw[h1,aeL]
 cases r with
 | inl u=>simp only at h2 ⊢;rw[h2]
 | inr x=>simp only at h2 ⊢;rw[h2]
theorem tp {m n:Nat} (h:(aF m).length<(aF n).length):m<n:=by
 have h1:=eX m
 have hn:n≠0:=fun h0=>by subst h0;rw[cn]at h;simp at h
 have h2:=xk hn
 have h3:=pG (i:=(aF m).length) (j:=(aF n).length-1) (by omega)
 omega
theorem cr {m n:Nat} (h:m<=n):(aF m).length<=(aF n).length:=by
 rcases ad2 (aF n).length (aF m).length with h1|h1
 ·have:=tp h1;omega
 ·exact h1
theorem BN {m n:Nat} (hm:Fit (aF m)) (hn:Fit (aF n)):eM (aF m) (aF n)=some (kn m n):=by
 by_cases hl:(aF m).length=(aF n).length
 ·rw[Kq (bY m) (bY n) hm hl,bf,bf]
 ·unfold eM
  rw[if_pos (by simp;omega),BM,mW]
  unfold kn
  rcases Nat.lt_or_gt_of_ne hl with h|h
  ·have:=tp h
   rw[if_pos (by omega),if_pos (by omega)]
  ·have:=tp h
   rw[if_neg (by omega),if_pos (by omega),if_neg (by omega),if_pos (by omega)]
theorem Jg {u v:List Int} {g:Int} (hu:Dg u) (hv:Dg v) (hg:0<=g∧g<=1048576) (hf:Fit u) (hl:v.length<=u.length) :
  ∃r,aX (j7 u v g) (0,0,u)=some r∧r.2.length=u.length∧Dg r.2∧(0<=r.1∧r.1<=1048576)∧dv r.2+g*dv v=dv u+pw u.length*r.1:=by
 unfold Fit at hf
 refine cw (I:=fun i s=>s.2.1=(i:Int)∧s.2.2.length=u.length∧Dg s.2.2∧(∀j (hj:j<s.2.2.length) (hj':j<u.length),i<=j->s.2.2[j]=u[j])∧(0<=s.1∧s.1<=1048576)∧dv s.2.2+g*dv (v.take i)=dv u+pw i*s.1)
  u.length _ ⟨rfl,rfl,hu,fun j hj _ _=>rfl,by simp,by simp[dv]⟩ (iW (by omega)) ?_
 rintro i ⟨c,s,l⟩ hi ⟨h1,hll,hd,hz,hc,he⟩
 simp only at h1 hll hd hz hc he
 subst h1
 simp only[j7]
 by_cases hlt:i<u.length
 ·left
  have hli:i<l.length:=by omega
  rw[if_pos (by simpa using hlt),bQ hli,aeL,hz i hli hlt (adh _)]
  have ga:=hu.get hlt
  have gb:=Gf hv i
  have hm0:0<=g*gd v i:=afw hg.1 gb.1
  have hm1:g*gd v i<=1048576*1048575:=afx (by omega) (by omega) gb.1 (by omega)
  have hT:(if decide ((i:Int)<(v.length:Int))=true then (P.idx v (i:Int)).bind fun x17=>some (IntKind.i64.wrap ((IntKind.i64.wrap (u[i]-c))-(IntKind.i64.wrap (g*x17)))) else some (IntKind.i64.wrap (u[i]-c)))=some (u[i]-c-g*gd v i):=by
   by_cases hib:i<v.length
   ·rw[if_pos (by simpa using hib),bQ hib,aeL]
    rw[Le hib]at gb hm0 hm1 ⊢
    rw[gK (x:=u[i]-c) (by omega),gK (x:=g*v[i]) (by omega),gK (by omega)]
   ·rw[if_neg (by simpa using hib),Gg (by omega),gK (by omega)];simp
  rw[hT,aeL,NP,aeL,s8 (by omega) (by omega),gK (x:=0-_) (by omega)]
  have e1:IntKind.i64.wrap ((i:Int)+1)=((i+1:Nat):Int):=by rw[gK (by omega)];omega
  refine⟨hlt,_,rfl,e1,by simpa using hll,hd.set _ (by omega),fun j hj hj' hij =>?_,by simp only;omega,?_⟩
  ·simp only[Int.toNat_natCast]at hj ⊢
   rw[afq (by omega)]
   exact hz j (by simpa using hj) hj' (by omega)
  ·simp only[Int.toNat_natCast]
   rw[ri hli,hz i hli hlt (adh _),pB]
   have hp:=tS i (u[i]-c-g*gd v i)
   rw[afr (pw i),afr (pw i)]at hp
   have e2:g*(dv (v.take i)+pw i*gd v i)=g*dv (v.take i)+pw i*(g*gd v i):=by rw[afl,afy]
   rw[e2,afr (pw i),afr (pw (i+1)),afA]
   omega
 ·right
  have hia:i=u.length:=by omega
  subst hia
  refine⟨(c,l),by rw[if_neg (by simp)],hll,hd,hc,?_⟩
  rw[wF hl]at he
  exact he
theorem Jh {u v:List Int} (hu:Dg u) (hv:Dg v) (hf:Fit u) (hl:v.length<=u.length) :
  ∃l,aX (j8 v u) (0,0,u)=some l∧l.length=u.length∧Dg l∧∃c,0<=c∧dv l+pw u.length*c=dv u+dv v:=by
 unfold Fit at hf
 refine cw (I:=fun i s=>s.2.1=(i:Int)∧s.2.2.length=u.length∧Dg s.2.2∧(∀j (hj:j<s.2.2.length) (hj':j<u.length),i<=j->s.2.2[j]=u[j])∧(0<=s.1∧s.1<=1)∧dv s.2.2+pw i*s.1=dv u+dv (v.take i))
  u.length _ ⟨rfl,rfl,hu,fun j hj _ _=>rfl,by simp,by simp[dv]⟩ (iW (by omega)) ?_
 rintro i ⟨c,s,l⟩ hi ⟨h1,hll,hd,hz,hc,he⟩
 simp only at h1 hll hd hz hc he
 subst h1
 simp only[j8]
 by_cases hlt:i<u.length
 ·left
  have hli:i<l.length:=by omega
  rw[if_pos (by simpa using hlt),bQ hli,aeL,hz i hli hlt (adh _)]
  have ga:=hu.get hlt
  have gb:=Gf hv i
  have hT:(if decide ((i:Int)<(v.length:Int))=true then (P.idx v (i:Int)).bind fun x35=>some (IntKind.i64.wrap ((IntKind.i64.wrap (c+u[i]))+x35)) else some (IntKind.i64.wrap (c+u[i])))=some (c+u[i]+gd v i):=by
   by_cases hib:i<v.length
   ·rw[if_pos (by simpa using hib),bQ hib,aeL]
    rw[Le hib]at gb ⊢
    rw[gK (x:=c+u[i]) (by omega),gK (by omega)]
   ·rw[if_neg (by simpa using hib),Gg (by omega),gK (by omega)];simp
  rw[hT,aeL,NP,aeL,s8 (by omega) (by omega)]
  have e1:IntKind.i64.wrap ((i:Int)+1)=((i+1:Nat):Int):=by rw[gK (by omega)];omega
  refine⟨hlt,_,rfl,e1,by simpa using hll,hd.set _ (by omega),fun j hj hj' hij =>?_,by simp only;omega,?_⟩
  ·simp only[Int.toNat_natCast]at hj ⊢
   rw[afq (by omega)]
   exact hz j (by simpa using hj) hj' (by omega)
  ·simp only[Int.toNat_natCast]
   rw[ri hli,hz i hli hlt (adh _),pB]
   have hp:=tS i (c+u[i]+gd v i)
   rw[afl (pw i),afl (pw i)]at hp
   rw[afr (pw i)]
   omega
 ·right
  have hia:i=u.length:=by omega
  subst hia
  refine⟨l,by rw[if_neg (by simp)],hll,hd,c,hc.1,?_⟩
  rw[wF hl]at he
  exact he
theorem Uf {u v:List Int} {g:Int} (hu:Dg u) (hv:Dg v) (hf:Fit u) (hl:v.length<=u.length) (hV:0<dv v) (hg0:dv u / dv v<=g) (hg1:g<=dv u / dv v+1) (hgB:g<=1048576) :
  ∃l,fc u v g=some (l,dv u / dv v)∧l.length=u.length∧Dg l∧dv l=dv u % dv v:=by
 have hq0:0<=dv u / dv v:=afs (cp hu) (by omega)
 obtain⟨⟨c,l⟩,h1,h2,h3,h4,h5⟩:=Jg hu hv ⟨by omega,hgB⟩ hf hl
 simp only at h2 h3 h4 h5
 have hm:=afv (dv u) (dv v)
 have hm0:=Int.emod_nonneg (dv u) (show dv v≠0 by omega)
 have hm1:=afu (dv u) hV
 have hll:=np h3
 have hl0:=cp h3
 rw[h2]at hll
 have hp:=mh u.length
 have hvl:dv v<pw u.length:=Int.lt_of_lt_of_le (np hv) (pG hl)
 unfold fc oo
 rw[h1,aeL]
 simp only
 rcases (show g=dv u / dv v∨g=dv u / dv v+1 by omega) with hg|hg
 ·have hgv:g*dv v=dv v*(dv u / dv v):=by rw[hg,afi]
  have hc0:c=0:=by
   rcases (show c=0∨1<=c by omega) with h|h
   ·exact h
   ·have:pw u.length*1<=pw u.length*c:=afk h (by omega)
    omega
  subst hc0
  rw[if_pos (by simp),aeL,if_pos (by simpa using h2)]
  exact⟨l,by rw[hg],h2,h3,by rw[afA]at h5;omega⟩
 ·have hgv:g*dv v=dv v*(dv u / dv v)+dv v:=by rw[hg,afz,afB,afi]
  have hc0:c≠0:=by
   intro h
   subst h
   rw[afA]at h5
   omega
  obtain⟨m,g1,g2,g3,d,g4,g5⟩:=Jh h3 hv (by unfold Fit at *;omega) (by omega)
  rw[if_neg (by simpa using hc0),g1,aeL,aeL,if_pos (by simp;omega)]
  refine⟨m,by rw[gK (by omega),hg];simp,by omega,g3,?_⟩
  rw[h2]at g5
  have hml:=np g3
  have hm0':=cp g3
  rw[g2,h2]at hml
  have hcd:c=d:=by
   rcases Int.lt_trichotomy c d with h|h|h
   ·have:pw u.length*(c+1)<=pw u.length*d:=afk (by omega) (by omega)
    rw[afl,afj]at this
    omega
   ·exact h
   ·have:pw u.length*(d+1)<=pw u.length*c:=afk (by omega) (by omega)
    rw[afl,afj]at this
    omega
  subst hcd
  omega
theorem Pm {v u:List Int} {s13:Int} {v1 v2 w2 T V W:Int} {n:Nat} (hn:2<=n) (hlen:v.length=n) (hfv:n<=17592186044416) (i:Nat) (hs:s13=i) (hfi:i+n<=17592186044416)
  (hv2:P.idx v (((n-2:Nat)):Int)=some v2) (hw2:P.idx u (((i+n-2:Nat)):Int)=some w2)
  (b1:524288<=v1∧v1<1048576) (b2:0<=v2∧v2<1048576) (bw:0<=w2∧w2<1048576) (hT0:0<=T) (hT1:T<1048576*1048576)
  (hV:pw (n-2)*(v1*1048576+v2)<=V∧V<pw (n-2)*(v1*1048576+v2+1)) (hW:pw (n-2)*(T*1048576+w2)<=W∧W<pw (n-2)*(T*1048576+w2+1)) (hWV:W<1048576*V) :
  ∃g,aX (qY v s13 u v1) (T / v1,T % v1)=some g∧W / V<=g∧g<=W / V+1∧g<=1048576:=by
 subst hs
 have hp:=mh (n-2)
 have hVp:0<V:=by
  have:pw (n-2)*1<=pw (n-2)*(v1*1048576+v2):=afk (by omega) (by omega)
  omega
 have hW0:0<=W:=by
  have:0<=pw (n-2)*(T*1048576+w2):=afw (by omega) (by omega)
  omega
 have hq0:0<=W / V:=afs hW0 (by omega)
 have hqB:W / V<1048576:=aft hVp hWV
 have hm:=afv T v1
 have hm0:=Int.emod_nonneg T (show v1≠0 by omega)
 have hm1:=afu T (show 0<v1 by omega)
 have hd0:0<=T / v1:=afs hT0 (by omega)
 have hd1:T / v1<=2097152:=by
  have:T / v1<2097153:=aft (by omega) (by
   have:2097153*524288<=2097153*v1:=afk b1.1 (by omega)
   omega)
  omega
 have hge:∀g r:Int,g*v1+r=T->W / V<=g->g*v2>r*1048576+w2->W / V<=g-1:=by
  intro g r h1 h2 h3
  have h4:W<g*V:=by
   have e1:g*(v1*1048576+v2)>=T*1048576+w2+1:=by
    rw[<- h1]
    have:g*(v1*1048576+v2)=g*v1*1048576+g*v2:=by rw[afl,afm]
    rw[this,afz]
    omega
   have e2:pw (n-2)*(T*1048576+w2+1)<=pw (n-2)*(g*(v1*1048576+v2)):=afk e1 (by omega)
   have e3:g*(pw (n-2)*(v1*1048576+v2))<=g*V:=afk hV.1 (by omega)
   have e4:pw (n-2)*(g*(v1*1048576+v2))=g*(pw (n-2)*(v1*1048576+v2)):=afy _ _ _
   omega
  have:=aft hVp h4
  omega
 have hle:∀g r:Int,g*v1+r=T->0<=g->g<=1048576->g*v2<=r*1048576+w2->g<=W / V+1:=by
  intro g r h1 h0 hB h3
  have e1:g*(v1*1048576+v2)<=T*1048576+w2:=by
   rw[<- h1]
   have:g*(v1*1048576+v2)=g*v1*1048576+g*v2:=by rw[afl,afm]
   rw[this,afz]
   omega
  have e2:g*V<=W+V:=by
   have f1:g*V<=g*(pw (n-2)*(v1*1048576+v2+1)):=afk (by omega) h0
   have f2:g*(pw (n-2)*(v1*1048576+v2+1))=pw (n-2)*(g*(v1*1048576+v2))+pw (n-2)*g:=by
    rw[afy,afl g,afj,afl]
   have f3:pw (n-2)*(g*(v1*1048576+v2))<=pw (n-2)*(T*1048576+w2):=afk e1 (by omega)
   have f4:pw (n-2)*g<=pw (n-2)*(v1*1048576+v2):=afk (by omega) (by omega)
   omega
  have e3:(g-1)*V<=W:=by rw[Int.sub_mul,afB];omega
  have:=Int.le_ediv_of_mul_le hVp e3
  omega
 have hbase:W / V<=T / v1:=by
  have e1:W<(T / v1+1)*V:=by
   have f1:T+1<=(T / v1+1)*v1:=by
    have:(T / v1+1)*v1=v1*(T / v1)+v1:=by rw[afz,afB,afi]
    omega
   have f2:T*1048576+w2+1<=(T / v1+1)*(v1*1048576+v2):=by
    have g1:(T+1)*1048576<=(T / v1+1)*v1*1048576:=afC f1 (by omega)
    have g2:0<=(T / v1+1)*v2:=afw (by omega) b2.1
    rw[afl,<- afm]
    omega
   have f3:pw (n-2)*(T*1048576+w2+1)<=pw (n-2)*((T / v1+1)*(v1*1048576+v2)):=afk f2 (by omega)
   have f4:(T / v1+1)*(pw (n-2)*(v1*1048576+v2))<=(T / v1+1)*V:=afk hV.1 (by omega)
   have f5:pw (n-2)*((T / v1+1)*(v1*1048576+v2))=(T / v1+1)*(pw (n-2)*(v1*1048576+v2)):=afy _ _ _
   omega
  have:=aft hVp e1
  omega
 refine oK (I:=fun (s:Int×Int)=>s.1*v1+s.2=T∧W / V<=s.1∧s.1<=2097152∧0<=s.2) (μ:=fun (s:Int×Int)=>s.1.toNat) _ ⟨?_,hbase,hd1,hm0⟩ (by unfold FU;omega) ?_
 ·show T / v1*v1+T % v1=T
  rw[afi];exact hm
 rintro⟨g,r⟩ ⟨h1,h2,h3,h4⟩
 simp only at h1 h2 h3 h4
 have hgv:0<=g*v1:=afw (by omega) (by omega)
 simp only[qY]
 have el:IntKind.i64.wrap ((v.length:Int)-2)=((n-2:Nat):Int):=by rw[hlen,gK (by omega)];omega
 have ei:IntKind.i64.wrap ((IntKind.i64.wrap ((i:Int)+(v.length:Int)))-2)=((i+n-2:Nat):Int):=by rw[hlen,gK (x:=(i:Int)+n) (by omega),gK (by omega)];omega
 rw[el,ei]
 have hstep:W / V<=g-1->∃s':Int×Int,(some (Sum.inl (IntKind.i64.wrap (g-1),IntKind.i64.wrap (r+v1))):Option ((Int×Int)⊕Int))=some (.inl s')∧(s'.1*v1+s'.2=T∧W / V<=s'.1∧s'.1<=2097152∧0<=s'.2)∧s'.1.toNat<g.toNat:=by
  intro hlt
  refine⟨_,rfl,?_⟩
  rw[gK (x:=g-1) (by omega),gK (x:=r+v1) (by omega)]
  simp only
  refine⟨⟨by rw[Int.sub_mul,afB];omega,hlt,by omega,by omega⟩,by omega⟩
 by_cases hgB:g>=1048576
 ·rw[if_pos (by simpa using hgB),aeL,if_pos rfl]
  exact .inl (hstep (by omega))
 ·rw[if_neg (by simpa using hgB)]
  by_cases hr:r<1048576
  ·have hgv2:0<=g*v2:=afw (by omega) b2.1
   have hgv2':g*v2<=1048576*1048576:=afx (by omega) (by omega) b2.1 (by omega)
   rw[if_pos (by simpa using hr),hv2,aeL,WL h4 (by omega),aeL,hw2,aeL,gK (x:=g*v2) (by omega),P3 h4 (by omega) bw,aeL]
   by_cases ht:g*v2>1048576*r+w2
   ·rw[if_pos (by simpa using ht)]
    exact .inl (hstep (hge g r h1 h2 (by omega)))
   ·rw[if_neg (by simpa using ht)]
    exact .inr ⟨g,rfl,h2,hle g r h1 (by omega) (by omega) (by omega),by omega⟩
  ·rw[if_neg (by simpa using hr),aeL,if_neg (by simp)]
   refine .inr ⟨g,rfl,h2,hle g r h1 (by omega) (by omega) ?_,by omega⟩
   have:g*v2<=1048575*1048575:=afx (by omega) (by omega) b2.1 (by omega)
   have:1048576*1048576<=r*1048576:=afC (by omega) (by omega)
   omega
theorem aay {α:Type} {l:List α} {a b:Nat} (h:a<=b) (hb:b<=l.length):AQ l (a:Int) (b:Int)=some ((l.drop a).take (b-a)):=by
 unfold AQ
 rw[if_pos ⟨by omega,by omega,by omega⟩]
 simp
theorem X6 {l:List Int} {n:Nat} (hl:l.length=n) (hn:2<=n) (hd:Dg l) :
  pw (n-2)*((l[n-1]'(by omega))*1048576+l[n-2]'(by omega))<=dv l∧dv l<pw (n-2)*((l[n-1]'(by omega))*1048576+l[n-2]'(by omega)+1):=by
 have e:=iy l (i:=n-2) (by omega)
 rw[jw (by omega),jw (i:=n-2+1) (by omega),aeZ (by omega)]at e
 have e1:l[n-2+1]'(by omega)=l[n-1]'(by omega):=by congr 1;omega
 rw[e1]at e
 have h1:=cp (hd.take (n-2))
 have h2:=np (hd.take (n-2))
 rw[adA,aem (by omega)]at h2
 simp only[dv]at e
 have e2:l[n-2]'(by omega)+1048576*(l[n-1]'(by omega)+1048576*0)=(l[n-1]'(by omega))*1048576+l[n-2]'(by omega):=by omega
 rw[e2]at e
 rw[afl (pw (n-2)) _ 1,afj]
 omega
theorem X7 {l:List Int} {n:Nat} (hl:l.length=n+1) (hn:2<=n) (hd:Dg l) :
  pw (n-2)*((1048576*(l[n]'(by omega))+l[n-1]'(by omega))*1048576+l[n-2]'(by omega))<=dv l∧dv l<pw (n-2)*((1048576*(l[n]'(by omega))+l[n-1]'(by omega))*1048576+l[n-2]'(by omega)+1):=by
 have e:=iy l (i:=n-2) (by omega)
 rw[jw (by omega),jw (i:=n-2+1) (by omega),jw (i:=n-2+1+1) (by omega),aeZ (by omega)]at e
 have e1:l[n-2+1]'(by omega)=l[n-1]'(by omega):=by congr 1;omega
 have e3:l[n-2+1+1]'(by omega)=l[n]'(by omega):=by congr 1;omega
 rw[e1,e3]at e
 have h1:=cp (hd.take (n-2))
 have h2:=np (hd.take (n-2))
 rw[adA,aem (by omega)]at h2
 simp only[dv]at e
 have e2:l[n-2]'(by omega)+1048576*(l[n-1]'(by omega)+1048576*(l[n]'(by omega)+1048576*0))=(1048576*(l[n]'(by omega))+l[n-1]'(by omega))*1048576+l[n-2]'(by omega):=by omega
 rw[e2]at e
 rw[afl (pw (n-2)) _ 1,afj]
 omega
theorem Vt {v u0:List Int} {n m:Nat} (hv:Dg v) (hvl:v.length=n) (hn:2<=n) (hv1:524288<=v[n-1]'(by omega)) (hu:Dg u0) (hul:u0.length=m+n) (hf:m+n<=17592186044416) (hdr:dv (u0.drop m)<dv v) :
  ∃r,aX (qX v) ((m:Int)-1,u0,List.replicate m 0)=some r∧r.1.length=m+n∧Dg r.1∧r.2.length=m∧Dg r.2∧dv r.1+dv v*dv r.2=dv u0∧dv r.1<dv v:=by
 have hvn:=np hv
 rw[hvl]at hvn
 refine cw (I:=fun i s=>s.1=((m-i:Nat):Int)-1∧s.2.1.length=m+n∧Dg s.2.1∧s.2.2.length=m∧Dg s.2.2∧(∀j (hj:j<s.2.2.length),j<m-i->s.2.2[j]=0)∧dv s.2.1+dv v*dv s.2.2=dv u0∧dv (s.2.1.drop (m-i))<dv v)
  m _ ⟨rfl,hul,hu,by simp,Dg.rep _,fun j hj _=>by simp,by simp[yL],hdr⟩ (iW (by omega)) ?_
 rintro i ⟨s,u,q⟩ hi ⟨h1,hl,hd,hql,hqd,hz,he,hdr⟩
 simp only at h1 hl hd hql hqd hz he hdr
 subst h1
 generalize hk:m-i=k at *
 simp only[qX]
 by_cases h0:0<k
 ·left
  have ek:((k:Int)-1)=((k-1:Nat):Int):=by omega
  rw[ek,if_pos (by simp)]
  have e1:IntKind.i64.wrap (((k-1:Nat):Int)+(v.length:Int))=((k-1+n:Nat):Int):=by rw[hvl,gK (by omega)];omega
  have e2:IntKind.i64.wrap (((k-1+n:Nat):Int)-1)=((k-1+n-1:Nat):Int):=by rw[gK (by omega)];omega
  have e3:IntKind.i64.wrap ((v.length:Int)-1)=((n-1:Nat):Int):=by rw[hvl,gK (by omega)];omega
  have e4:IntKind.i64.wrap (((k-1+n:Nat):Int)+1)=((k-1+n+1:Nat):Int):=by rw[gK (by omega)];omega
  have e5:IntKind.i64.wrap (((k-1:Nat):Int)-1)=((k-1:Nat):Int)-1:=gK (by omega)
  rw[e1,e2,e3,e4,e5]
  have i1:k-1+n<u.length:=by omega
  have i2:k-1+n-1<u.length:=by omega
  have i3:k-1+n-2<u.length:=by omega
  have iv:n-1<v.length:=by omega
  have iv2:n-2<v.length:=by omega
  have g1:=hd.get i1
  have g2:=hd.get i2
  have g3:=hd.get i3
  have gv:=hv.get iv
  have gv2:=hv.get iv2
  rw[bQ i1,aeL,WL g1.1 (by omega),aeL,bQ i2,aeL,bQ iv,aeL,P3 g1.1 (by omega) g2,X4 (by omega) (by omega) (by omega),aeL,Yq (by omega) (by omega),aeL,aay (by omega) (by omega),show k-1+n+1-(k-1)=n+1 by omega]
  generalize hw:(u.drop (k-1)).take (n+1)=w
  have hwl:w.length=n+1:=by rw[<- hw,adA,adB];omega
  have hwd:Dg w:=by rw[<- hw];exact (hd.drop _).take _
  have hwg:∀j (hj:j<n+1),w[j]'(by omega)=u[k-1+j]'(by omega):=by
   intro j hj
   subst hw
   rw[List.getElem_take,List.getElem_drop]
  have hup:dv (u.drop (k+n))=0:=by
   have s1:=iy (u.drop k) (i:=n) (by rw[adB];omega)
   rw[ae1]at s1
   have n1:=cp ((hd.drop k).take n)
   have n2:=cp (hd.drop (k+n))
   have hp:=mh n
   rcases (show dv (u.drop (k+n))=0∨1<=dv (u.drop (k+n)) by omega) with h|h
   ·exact h
   ·have:pw n*1<=pw n*dv (u.drop (k+n)):=afk h (by omega)
    omega
  have hW:dv w=dv (u.drop (k-1)):=by
   have s1:=iy (u.drop (k-1)) (i:=n+1) (by rw[adB];omega)
   rw[ae1,show k-1+(n+1)=k+n by omega,hup,hw]at s1
   omega
  have hWk:dv w=u[k-1]+1048576*dv (u.drop k):=by
   rw[hW,jw (by omega),show k-1+1=k by omega]
  have gk:=hd.get (show k-1<u.length by omega)
  have hWV:dv w<1048576*dv v:=by omega
  have t2:=X6 hvl hn hv
  have t3:=X7 hwl hn hwd
  rw[hwg n (by omega),hwg (n-1) (by omega),hwg (n-2) (by omega)]at t3
  have a1:u[k-1+(n-1)]'(by omega)=u[k-1+n-1]'(by omega):=by congr 1;omega
  have a2:u[k-1+(n-2)]'(by omega)=u[k-1+n-2]'(by omega):=by congr 1;omega
  rw[a1,a2]at t3
  obtain⟨g,q1,q2,q3,q4⟩:=Pm (s13:=((k-1:Nat):Int)) hn hvl (by omega) (k-1) rfl (by omega) (bQ iv2) (bQ i3) ⟨hv1,gv.2⟩ gv2 g3 (T:=1048576*u[k-1+n]+u[k-1+n-1]) (by omega) (by omega) t2 t3 hWV
  rw[q1,aeL,aeL]
  have hVp:0<dv v:=by
   have:=cp hwd
   omega
  obtain⟨l,r1,r2,r3,r4⟩:=Uf hwd hv (by unfold Fit;omega) (by omega) hVp q2 q3 q4
  have iq:k-1<q.length:=by omega
  rw[r1,aeL,bQ iq,aeL]
  simp only
  have hq0:0<=dv w / dv v:=afs (cp hwd) (by omega)
  have hqB:dv w / dv v<1048576:=aft hVp hWV
  have hmod:=afu (dv w) hVp
  simp only[Int.toNat_natCast]
  have hdl:dv (l++u.drop (k-1+n+1))=dv w % dv v:=by
   rw[fA,show k-1+n+1=k+n by omega,hup,r4];omega
  have hut:(u.take (k-1)).length=k-1:=by rw[adA];omega
  have hdu:dv (u.take (k-1)++(l++u.drop (k-1+n+1)))=dv (u.take (k-1))+pw (k-1)*(dv w % dv v):=by rw[fA,hut,hdl]
  refine⟨by omega,_,rfl,by rw[show m-(i+1)=k-1 by omega],?_,(hd.take _).append (r3.append (hd.drop _)),by simpa using hql,hqd.set _ ⟨hq0,hqB⟩,fun j hj hjk =>?_,?_,?_⟩
  ·simp only[aej,adA,adB];omega
  ·rw[afq (by omega)]
   exact hz j (by simpa using hj) (by omega)
  ·rw[hdu,ri iq,hz _ iq (by omega),Int.sub_zero,afl]
   have s2:=iy u (i:=k-1) (by omega)
   rw[<- hW]at s2
   have hm:=afv (dv w) (dv v)
   have:pw (k-1)*dv w=dv v*(pw (k-1)*(dv w / dv v))+pw (k-1)*(dv w % dv v):=by
    rw[afy,<- afl,hm]
   omega
  ·rw[show m-(i+1)=k-1 by omega,aeY,hut,ael,aeB,aeZ (by omega),aeW,hdl]
   exact hmod
 ·right
  have:k=0:=by omega
  subst this
  refine⟨(u,q),by rw[if_neg (by simp)],hl,hd,hql,hqd,he,?_⟩
  simpa using hdr
theorem Qc {v:List Int} {t:Int} {n:Nat} (hl:v.length=n) (hn:0<n) (hf:n<=17592186044416) (ht:v[n-1]'(by omega)=t) (h1:1<=t) (h2:t<1048576) :
  ∃s,aX (qW v) 1=some s∧∃j:Nat,s=2 ^ j∧j<=19∧524288<=t*s∧t*s<1048576:=by
 refine cw (I:=fun i s=>s=2 ^ i∧t*s<1048576) 20 _ ⟨rfl,by omega⟩ (by unfold FU;omega) ?_
 rintro i s hi ⟨rfl,hb⟩
 have hp:(0:Int)<2 ^ i:=Int.pow_pos (by decide)
 have hpt:(2:Int) ^ i<=t*2 ^ i:=by
  have:1*(2:Int) ^ i<=t*2 ^ i:=afC h1 (by omega)
  omega
 have hi20:i<=19:=by
  rcases ad2 19 i with h|h
  ·have hx:i=20:=by omega
   subst hx
   omega
  ·exact h
 simp only[qW]
 have e:IntKind.i64.wrap ((v.length:Int)-1)=((n-1:Nat):Int):=by rw[hl,gK (by omega)];omega
 rw[e,bQ (by omega),aeL,ht,gK (x:=t*2 ^ i) (by omega)]
 by_cases h:t*2 ^ i<524288
 ·left
  rw[if_pos (by simpa using h)]
  refine⟨by omega,_,rfl,by rw[gK (by omega),Int.pow_succ],?_⟩
  rw[gK (by omega),<- afm]
  omega
 ·right
  rw[if_neg (by simpa using h)]
  exact⟨_,rfl,i,rfl,hi20,by omega,hb⟩
theorem div_eq {m n:Nat} (hn:n≠0) (hfm:(aF m).length<=17592186043904) (hfn:(aF n).length<=17592186043904):pc (aF m) (aF n)=some (aF (m / n),aF (m % n)):=by
 unfold pc
 rw[BN (by unfold Fit;omega) (by unfold Fit;omega),aeL]
 by_cases hlt:m<n
 ·have:kn (m:Int) n<0:=by unfold kn;rw[if_pos (by omega)];decide
  rw[if_pos (by simpa using this),tl (by unfold Fit;omega),aeL,afD hlt,aec hlt,cn]
 have:¬kn (m:Int) n<0:=by unfold kn;rw[if_neg (by omega)];split<;>decide
 rw[if_neg (by simpa using this)]
 obtain⟨hp1,hp2⟩:=xk hn
 have hnl:=eX n
 by_cases h1:(aF n).length=1
 ·rw[if_pos (by simp;omega)]
  have hnB:(n:Int)<1048576:=by rw[h1]at hnl;simpa [pw] using hnl
  have e:aF n=[(n:Int)]:=by
   rw[mM hn,afD (by omega),cn,aec (by omega)]
  have ei:P.idx (aF n) 0=some (n:Int):=by rw[e];rfl
  rw[ei,aeL,NO (bY m) ⟨by omega,by omega⟩ (by unfold Fit;omega),aeL,bf]
  have hm1:(m:Int) % n=((m % n:Nat):Int):=(Int.natCast_emod m n).symm
  have hm2:((m:Int) / n).toNat=m / n:=by
   rw[<- Int.natCast_ediv];rfl
  have hml:m % n<n:=aea _ (by omega)
  simp only[hm1,hm2]
  rw[A2 (n:=m % n) (by simp[Fit]) (Dg.mk (by omega) Dg.nil) (by simp[dv]),aeL]
 ·rw[if_neg (by simp;omega)]
  generalize hN:(aF n).length=N at *
  have hN2:2<=N:=by omega
  have hdn:=bY n
  have gt:=hdn.get (show N-1<(aF n).length by omega)
  generalize ht:(aF n)[N-1]'(by omega)=t at gt
  have hsp:=iy (aF n) (i:=N-1) (by omega)
  rw[bf,jw (by omega),aeZ (by omega),ht]at hsp
  simp only[dv,afA,afE]at hsp
  have lo0:=cp (hdn.take (N-1))
  have lo1:=np (hdn.take (N-1))
  rw[adA,aem (by omega)]at lo1
  have hpw:=mh (N-1)
  have ht1:1<=t:=by
   rcases (show t=0∨1<=t by omega) with h|h
   ·subst h;omega
   ·exact h
  obtain⟨s,hs1,j,hs2,hj,hs3,hs4⟩:=Qc hN (by omega) (by omega) ht ht1 gt.2
  have hj2:(2:Int) ^ j<=524288:=by
   have:∀j:Nat,j<=19->(2:Int) ^ j<=524288:=by decide
   exact this j hj
  have hj1:(0:Int)<2 ^ j:=Int.pow_pos (by decide)
  have hts:(t+1)*s<=1048576:=by
   have h20:(1048576:Int)=2 ^ (20-j)*2 ^ j:=by rw[<- Int.pow_add,Nat.sub_add_cancel (by omega)];rfl
   rw[h20]at hs4 ⊢
   rw[hs2]at hs4 ⊢
   have:t<2 ^ (20-j):=Int.lt_of_mul_lt_mul_right hs4 (by omega)
   exact afC (by omega) (by omega)
  rw[<- hs2]at hj1 hj2
  obtain⟨S,rfl⟩:∃S:Nat,s=S:=⟨s.toNat,by omega⟩
  have hSd:Dg [(S:Int)]:=Dg.mk (by omega) Dg.nil
  have hdvS:dv [(S:Int)]=S:=by simp[dv]
  rw[hs1,aeL,mul_eq (bY m) hSd (by simp;omega),aeL,bf,hdvS]
  have em:((m:Int)*S).toNat=m*S:=by rw[<- aef];rfl
  have en:((n:Int)*S).toNat=n*S:=by rw[<- aef];rfl
  rw[em]
  have hmS:(aF (m*S)).length<=(aF m).length+1:=by
   apply gm
   rw[jJ,aef]
   have a1:=eX m
   have:(m:Int)*S<=m*1048576:=afk (by omega) (by omega)
   omega
  have hU:∃u,((if ((((aF (m*S)++[0]).length:Int))==((aF m).length:Int))=true then (k9 8 (aF (m*S)++[0]) [0]).bind fun x98=>some x98 else some (aF (m*S)++[0]))=some u)∧Dg u∧dv u=(m*S:Nat)∧dv u<pw (u.length-1)∧(aF (m*S)).length+1<=u.length∧u.length<=(aF m).length+3:=by
   have d1:Dg (aF (m*S)++[0]):=(bY _).append (Dg.mk (by omega) Dg.nil)
   have v1:dv (aF (m*S)++[0])=(m*S:Nat):=by rw[fA,bf];simp[dv]
   have v2:=eX (m*S)
   split
   ·rw[xd (by simp;omega),aeL]
    refine⟨_,rfl,d1.append (Dg.mk (by omega) Dg.nil),by rw[fA,v1];simp[dv],?_,by simp,by simp;omega⟩
    rw[fA,v1]
    simp only[dv,aej,List.length_cons,List.length_nil]
    have:=pG (i:=(aF (m*S)).length) (j:=(aF (m*S)).length+1) (by omega)
    rw[show (aF (m*S)).length+(0+1)+(0+1)-1=(aF (m*S)).length+1 by omega]
    omega
   ·refine⟨_,rfl,d1,v1,?_,by simp,by simp;omega⟩
    rw[v1]
    simpa using v2
  obtain⟨u,hu1,hu2,hu3,hu4,hu5,hu6⟩:=hU
  rw[xd (by simp;omega),aeL,mul_eq (bY n) hSd (by simp;omega),aeL,bf,hdvS,en,hu1,aeL]
  have hVlo:524288*pw (N-1)<=((n*S:Nat):Int):=by
   rw[aef,hsp,afz]
   have a1:0<=dv ((aF n).take (N-1))*S:=afw lo0 (by omega)
   have a2:pw (N-1)*524288<=pw (N-1)*(t*S):=afk hs3 (by omega)
   rw[afm]
   omega
  have hVhi:((n*S:Nat):Int)<pw N:=by
   have a0:pw N=1048576*pw (N-1):=by rw[<- jJ];congr 1;omega
   rw[a0,aef,hsp]
   have a1:(dv ((aF n).take (N-1))+pw (N-1)*t+1)*S<=(pw (N-1)*(t+1))*S:=afC (by rw[afl];omega) (by omega)
   have a2:pw (N-1)*((t+1)*S)<=pw (N-1)*1048576:=afk hts (by omega)
   rw[afm]at a1
   rw[afz _ 1,afB]at a1
   omega
  have hVN:(aF (n*S)).length=N:=by
   have a1:=gm hVhi
   rcases ad2 (aF (n*S)).length N with h|h
   ·have a2:=eX (n*S)
    have a3:=pG (i:=(aF (n*S)).length) (j:=N-1) (by omega)
    omega
   ·omega
  have hV1:524288<=(aF (n*S))[N-1]'(by omega):=by
   have a1:=iy (aF (n*S)) (i:=N-1) (by omega)
   rw[bf,jw (by omega),aeZ (by omega)]at a1
   simp only[dv,afA,afE]at a1
   have a2:=np ((bY (n*S)).take (N-1))
   rw[adA,aem (by omega)]at a2
   have a3:pw (N-1)*524288<pw (N-1)*((aF (n*S))[N-1]'(by omega)+1):=by rw[afl];omega
   have:=Int.lt_of_mul_lt_mul_left a3 (by omega)
   omega
  have hlen:N+1<=u.length:=by
   have:n*S<=m*S:=ad3 _ (by omega)
   have:=cr this
   omega
  obtain⟨M,hM⟩:∃M,u.length=M+N:=⟨u.length-N,by omega⟩
  have e1:IntKind.i64.wrap ((u.length:Int)-((aF (n*S)).length:Int))=(M:Int):=by rw[hVN,hM,gK (by omega)];omega
  rw[e1,mk0 (by omega),aeL,List.length_replicate,gK (x:=(M:Int)-1) (by omega)]
  have hdr:dv (u.drop M)<dv (aF (n*S)):=by
   rw[bf]
   have a1:=iy u (i:=M) (by omega)
   have a2:=cp (hu2.take M)
   have a3:pw M*dv (u.drop M)<pw M*pw (N-1):=by
    rw[<- Dp,show M+(N-1)=u.length-1 by omega]
    omega
   have:=Int.lt_of_mul_lt_mul_left a3 (by have:=mh M;omega)
   omega
  obtain⟨⟨U,Q⟩,r1,r2,r3,r4,r5,r6,r7⟩:=Vt (bY (n*S)) hVN hN2 hV1 hu2 hM (by omega) hdr
  simp only at r2 r3 r4 r5 r6 r7
  rw[r1,aeL]
  simp only
  rw[bf,hu3]at r6
  rw[bf]at r7
  have hU0:=cp r3
  have hQ0:=cp r5
  have hS:0<S:=by omega
  have hnS:0<n*S:=Nat.mul_pos (by omega) hS
  obtain⟨U',hU'⟩:∃k:Nat,dv U=k:=⟨(dv U).toNat,by omega⟩
  obtain⟨Q',hQ'⟩:∃k:Nat,dv Q=k:=⟨(dv Q).toNat,by omega⟩
  rw[hU',hQ']at r6
  rw[hU']at r7
  have hnat:U'+n*S*Q'=m*S:=by
   have:((U'+n*S*Q':Nat):Int)=((m*S:Nat):Int):=by rw[Int.natCast_add,aef (n*S) Q'];exact r6
   omega
  have hUlt:U'<n*S:=by omega
  have hQe:Q'=m / n:=by
   have:m*S / (n*S)=Q':=by
    rw[<- hnat,Nat.add_mul_div_left _ _ hnS,afD hUlt,ad4]
   rw[<- this,Nat.mul_div_mul_right _ _ hS]
  have hUe:U'=(m % n)*S:=by
   have:m*S % (n*S)=U':=by rw[<- hnat,Nat.add_mul_mod_self_left,aec hUlt]
   rw[<- this,Nat.mul_mod_mul_right]
  rw[A2 (n:=U') (by unfold Fit;omega) r3 hU',aeL]
  have hUlen:(aF U').length<=N:=gm (by omega)
  rw[NO (bY U') ⟨by omega,by omega⟩ (by unfold Fit;omega),aeL,A2 (n:=Q') (by unfold Fit;omega) r5 hQ',aeL,bf,hQe,hUe]
  have:((((m % n)*S:Nat):Int) / (S:Int)).toNat=m % n:=by
   rw[aef,Int.mul_ediv_cancel _ (by omega)];rfl
  rw[this]
def eS (x:Int):al:=al.mk x.sign (aF x.natAbs)
def Ln (x:Int):Nat:=(aF x.natAbs).length
def fw:Nat:=4398046511104
def iN:Nat:=17592186043904
theorem xa {n:Nat} (h:n<=fw):n<=iN:=adj h (by decide)
theorem CU:eS 0=al.mk 0 []:=by unfold eS;rw[show (0:Int).natAbs=0 from rfl,cn];rfl
theorem IT {x y:Int} (h:eS x=eS y):x=y:=by
 unfold eS at h
 simp only[al.mk.injEq]at h
 have:=Vr h.2
 have h1:=Int.sign_mul_natAbs x
 have h2:=Int.sign_mul_natAbs y
 rw[<- h1,<- h2,h.1,this]
theorem UE {x:Int} {k:Nat} (h:(x.natAbs:Int)<pw k):Ln x<=k:=gm h
theorem R9 (x:Int):(x.natAbs:Int)<pw (Ln x):=eX _
theorem QM {x y:Int} (h:x.natAbs<=y.natAbs):Ln x<=Ln y:=cr h
theorem Ou (x:Int):Ln (-x)=Ln x:=by unfold Ln;rw[Int.natAbs_neg]
theorem Ot (x y:Int):Ln (x+y)<=max (Ln x) (Ln y)+1:=by
 apply UE
 have h1:=R9 x
 have h2:=R9 y
 have h3:=pG (i:=Ln x) (j:=max (Ln x) (Ln y)) (by omega)
 have h4:=pG (i:=Ln y) (j:=max (Ln x) (Ln y)) (by omega)
 have h5:=Int.natAbs_add_le x y
 rw[jJ]
 omega
theorem kl (x y:Int):Ln (x*y)<=Ln x+Ln y:=by
 apply UE
 have h1:=R9 x
 have h2:=R9 y
 rw[afF,aef,Dp]
 have hx:=mh (Ln x)
 calc (x.natAbs:Int)*y.natAbs<=pw (Ln x)*y.natAbs:=afC (by omega) (by omega)
  _<pw (Ln x)*pw (Ln y):=Int.mul_lt_mul_of_pos_left h2 hx
theorem Ba {x:Int} (h:x.natAbs<1048576):Ln x<=1:=UE (by rw[jJ,nO];omega)
instance (l:List Int):Decidable (Dg l):=by unfold Dg;infer_instance
def okB (b:al):Bool:=decide (Dg b.aa)&&(match b.aa.getLast? with|none=>b.ag==0|some d=>(b.ag==1||b.ag == -1)&&d != 0)
theorem rS {b:al} : okB b=true↔∃x,b=eS x:=by
 obtain⟨s,l⟩:=b
 unfold okB
 simp only[adS,decide_eq_true_eq]
 constructor
 ·rintro⟨hd,h⟩
  cases hl:l.getLast? with
  | none =>
   rw[hl]at h
   have:l=[]:=List.getLast?_eq_none_iff.1 hl
   subst this
   exact⟨0,by rw[CU];simpa using h⟩
  | some d =>
   rw[hl]at h
   simp only[adS,aeM,beq_iff_eq,bne_iff_ne]at h
   have hne:l≠[]:=by intro h0;subst h0;simp at hl
   have hlast:∀h:l≠[],l.getLast h≠0:=by
    intro h'
    rw[afG h']at hl
    cases hl
    exact h.2
   have e:=AT hd hlast
   have h0:(dv l).toNat≠0:=by
    intro h0
    rw[h0,cn]at e
    exact hne e.symm
   have hn:=cp hd
   refine⟨s*dv l,?_⟩
   unfold eS
   rcases h.1 with rfl|rfl
   ·rw[afB,afH (by omega)]
    have:(dv l).natAbs=(dv l).toNat:=by omega
    rw[this,e]
   ·rw[Int.neg_mul,afB,Int.sign_neg,afH (by omega)]
    have:(-dv l).natAbs=(dv l).toNat:=by omega
    rw[this,e]
 ·rintro⟨x,hx⟩
  unfold eS at hx
  simp only[al.mk.injEq]at hx
  obtain⟨rfl,rfl⟩:=hx
  refine⟨bY _,?_⟩
  by_cases h0:x=0
  ·subst h0;simp[cn]
  ·have hne:aF x.natAbs≠[]:=fun h=>h0 (by have:=qg.1 h;omega)
   rw[afG hne]
   have h1:=Tg _ hne
   simp only[adS,aeM,beq_iff_eq,bne_iff_ne]
   refine⟨?_,h1⟩
   rcases Int.lt_trichotomy x 0 with h|h|h
   ·right;exact afI h
   ·exact absurd h h0
   ·left;exact afH h
theorem IY (x:Int):okB (eS x)=true:=rS.2 ⟨x,rfl⟩
theorem DC {b:al} (hf:Fit b.aa):cl b=some (okB b):=by
 obtain⟨s,l⟩:=b
 simp only[Fit]at hf
 have key:∃r,aX (nB ⟨s,l⟩) 0=some r∧(match r with | .inl _=>Dg l | .inr x=>x=false∧¬Dg l):=by
  refine cw (I:=fun i s=>s=(i:Int)∧Dg (l.take i)) l.length _ ⟨rfl,by simpa using Dg.nil⟩ (iW hf) ?_
  rintro i s hi ⟨rfl,hd⟩
  simp only[nB]
  by_cases hlt:i<l.length
  ·rw[if_pos (by simpa using hlt),bQ hlt,aeL]
   by_cases h1:l[i]<0
   ·right
    exact⟨.inr false,by rw[if_pos (by simpa using h1)],rfl,fun hh=>by have:=hh.get hlt;omega⟩
   ·by_cases h2:l[i]>1048575
    ·right
     exact⟨.inr false,by rw[if_neg (by simpa using h1),if_pos (by simpa using h2)],rfl,fun hh=>by have:=hh.get hlt;omega⟩
    ·left
     refine⟨hlt,_,by rw[if_neg (by simpa using h1),if_neg (by simpa using h2)],by rw[gK (by omega)];omega,?_⟩
     have e:l.take (i+1)=l.take i++[l[i]]:=by rw[afn];simp[hlt]
     rw[e]
     exact hd.append (Dg.mk (by omega) Dg.nil)
  ·right
   have:i=l.length:=by omega
   subst this
   rw[afg]at hd
   exact⟨.inl (),by rw[if_neg (by simp)],hd⟩
 obtain⟨r,h1,h2⟩:=key
 unfold cl okB
 rw[h1,aeL]
 cases r with
 | inr x =>
  obtain⟨rfl,h⟩:=h2
  simp[h]
 | inl u =>
  simp only at h2 ⊢
  simp only[h2,decide_true,aeD]
  by_cases h0:l=[]
  ·subst h0;simp
  ·have hp:0<l.length:=ae4.2 h0
   have e:IntKind.i64.wrap ((l.length:Int)-1)=((l.length-1:Nat):Int):=by rw[gK (by omega)];omega
   rw[if_neg (by simpa using h0),e,bQ (by omega),afG h0,List.getLast_eq_getElem]
   simp only[Option.bind_some]
   by_cases hs:s=1
   ·subst hs;simp
   ·rw[if_neg (by simpa using hs)]
    by_cases hs':s = -1
    ·subst hs';simp
    ·rw[if_neg (by simpa using hs')]
     simp[hs,hs']
theorem iC {x:Int} (h:Ln x<=17592186044416):cl (eS x)=some true:=by
 rw[DC (show Fit (eS x).aa from h),IY]
theorem qw {s:Int} {l:List Int} (x:Int) (hf:Fit l) (hd:Dg l) (hv:dv l=x.natAbs) (hs:x≠0->s=x.sign):cm s l=some (eS x):=by
 unfold cm
 rw[A2 hf hd hv,aeL]
 by_cases h0:x=0
 ·subst h0
  rw[show (0:Int).natAbs=0 from rfl,cn,CU];rfl
 ·have:aF x.natAbs≠[]:=fun h=>h0 (by have:=qg.1 h;omega)
  rw[if_neg (by simpa using this),hs h0];rfl
theorem ln (b:al):dJ true b=some (b,0):=rfl
theorem sn (x:Int):x.sign = -1∨x.sign=0∨x.sign=1:=by
 rcases Int.lt_trichotomy x 0 with h|h|h
 ·left;exact afI h
 ·subst h;right;left;rfl
 ·right;right;exact afH h
theorem Ov {x:Int} (h:Ln x<=fw):mr (eS x)=some (eS (-x)):=by
 unfold mr
 have hL:fw=4398046511104:=rfl
 rw[iC (by omega),aeL]
 simp only[aeC,adR,if_false]
 have hf:Fit (eS x).aa:=by unfold Fit;show Ln x<=_;omega
 rw[tl hf,aeL,qw (-x) hf (bY _) (by show dv (aF _)=_;rw[bf,Int.natAbs_neg]),aeL]
 intro h0
 show IntKind.i64.wrap (0-x.sign)=_
 rw[gK (by have:=sn x;omega),Int.sign_neg,Int.zero_sub]
theorem YU (s t:Int):tn [s,t]=some (if s≠0 then s else t):=by
 have key:∃r,aX (uB [s,t]) 0=some r∧(match r with | .inl _=>s=0∧t=0 | .inr x=>x=if s≠0 then s else t):=by
  refine cw (I:=fun i j=>j=(i:Int)∧(1<=i->s=0)∧(2<=i->t=0)) 2 _ ⟨rfl,by omega,by omega⟩ (by unfold FU;omega) ?_
  rintro i j hi ⟨rfl,h1,h2⟩
  simp only[uB]
  rcases (show i=0∨i=1∨i=2 by omega) with rfl|rfl|rfl
  ·rw[if_pos (by simp)]
   show _∨∃r,((some s).bind _=_)∧_
   rw[show P.idx [s,t] ((0:Nat):Int)=some s from rfl,aeL]
   by_cases hs:s=0
   ·left;exact⟨by omega,_,by rw[if_neg (by simpa using hs)],by rw[gK (by omega)];rfl,fun _=>hs,by omega⟩
   ·right;exact⟨_,by rw[if_pos (by simpa using hs)],by simp[hs]⟩
  ·have hs:=h1 (by omega)
   rw[if_pos (by simp),show P.idx [s,t] ((1:Nat):Int)=some t from rfl,aeL]
   by_cases ht:t=0
   ·left;exact⟨by omega,_,by rw[if_neg (by simpa using ht)],by rw[gK (by omega)];rfl,fun _=>hs,fun _=>ht⟩
   ·right;exact⟨_,by rw[if_pos (by simpa using ht)],by simp[hs]⟩
  ·right
   exact⟨.inl (),by rw[if_neg (by simp)],h1 (by omega),h2 (by omega)⟩
 obtain⟨r,h1,h2⟩:=key
 unfold tn
 rw[h1,aeL]
 cases r with
 | inl u=>simp only at h2 ⊢;rw[if_neg (by simp[h2.1]),h2.2]
 | inr x=>simp only at h2 ⊢;rw[h2]
theorem gA (x:Int):x.sign=1∧x=x.natAbs∧0<x∨x.sign = -1∧x = -x.natAbs∧x<0∨x.sign=0∧x=0:=by
 rcases Int.lt_trichotomy x 0 with h|h|h
 ·right;left;exact⟨afI h,by omega,h⟩
 ·subst h;right;right;exact⟨rfl,rfl⟩
 ·left;exact⟨afH h,by omega,h⟩
theorem n6 {x:Int} {s:Int} {n:Nat} (hn:n=x.natAbs) (hs:x≠0->s=x.sign) (hL:n≠0->(aF n).length<=17592186044416):cm s (aF n)=some (eS x):=by
 subst hn
 refine qw x ?_ (bY _) (bf _) hs
 unfold Fit
 by_cases h:x.natAbs=0
 ·rw[h,cn];simp
 ·exact hL h
theorem ZP {x y:Int} (hx:Ln x<=fw) (hy:Ln y<=fw):qS (eS x) (eS y)=some (eS (x+y),0):=by
 have hL:fw=4398046511104:=rfl
 have hLa:=Ot x y
 unfold qS
 rw[iC (by omega),aeL]
 simp only[aeC,adR,if_false]
 rw[iC (by omega),aeL,aeL]
 simp only[aeC,adR,if_false]
 show (if decide (IntKind.i64.wrap (x.sign*y.sign)>=0)=true then _ else _)=_
 have hxd:(eS x).aa=aF x.natAbs:=rfl
 have hyd:(eS y).aa=aF y.natAbs:=rfl
 have hxs:(eS x).ag=x.sign:=rfl
 have hys:(eS y).ag=y.sign:=rfl
 rw[hxd,hyd,hxs,hys]
 have fx:(aF x.natAbs).length<=4398046511104:=by show Ln x<=_;omega
 have fy:(aF y.natAbs).length<=4398046511104:=by show Ln y<=_;omega
 have sx:=gA x
 have sy:=gA y
 have hw:IntKind.i64.wrap (x.sign*y.sign)=x.sign*y.sign:=by
  apply gK
  rcases sn x with h|h|h<;>rcases sn y with g|g|g<;>rw[h,g]<;>decide
 rw[hw]
 by_cases hs:x.sign*y.sign>=0
 ·rw[if_pos (by simpa using hs),YU,aeL,add_eq (bY _) (bY _) (by omega) (by omega),aeL,bf,bf]
  have hn:((x.natAbs:Int)+y.natAbs).toNat=(x+y).natAbs:=by
   rcases sx with⟨a,b,c⟩|⟨a,b,c⟩|⟨a,b⟩<;>rcases sy with⟨a',b',c'⟩|⟨a',b',c'⟩|⟨a',b'⟩<;>first|omega|(rw[a,a']at hs;exact absurd hs (by decide))
  rw[hn,n6 (x:=x+y) rfl ?_ (fun _=>by show Ln (x+y)<=_;omega),aeL,ln,aeL]
  intro h0
  rcases sx with⟨a,b,c⟩|⟨a,b,c⟩|⟨a,b⟩<;>rcases sy with⟨a',b',c'⟩|⟨a',b',c'⟩|⟨a',b'⟩<;>(try (rw[a,a']at hs;exact absurd hs (by decide)))<;>rw[a,a']
  ·rw[if_pos (by decide),afH (by omega)]
  ·rw[if_pos (by decide),afH (by omega)]
  ·rw[if_pos (by decide),afI (by omega)]
  ·rw[if_pos (by decide),afI (by omega)]
  ·rw[if_neg (by decide),afH (by omega)]
  ·rw[if_neg (by decide),afI (by omega)]
  ·omega
 ·rw[if_neg (by simpa using hs),BN (by unfold Fit;omega) (by unfold Fit;omega),aeL]
  have hsg:x.sign=1∧y.sign = -1∧0<x∧y<0∨x.sign = -1∧y.sign=1∧x<0∧0<y:=by
   rcases sx with⟨a,b,c⟩|⟨a,b,c⟩|⟨a,b⟩<;>rcases sy with⟨a',b',c'⟩|⟨a',b',c'⟩|⟨a',b'⟩<;>first|exact .inl ⟨a,a',c,c'⟩|exact .inr ⟨a,a',c,c'⟩|(rw[a,a']at hs;exact absurd (by decide) hs)
  by_cases hlt:x.natAbs<y.natAbs
  ·have:kn (x.natAbs:Int) y.natAbs<0:=by unfold kn;rw[if_pos (by omega)];decide
   rw[if_pos (by simpa using this),sub_eq (bY _) (bY _) (by unfold Fit;omega) (cr (by omega)) (by rw[bf,bf];omega),aeL,bf,bf]
   rw[n6 (x:=x+y) (by omega) ?_ (fun _=>by rw[show ((y.natAbs:Int)-x.natAbs).toNat=(x+y).natAbs by omega];show Ln (x+y)<=_;omega),aeL,ln,aeL]
   intro h0
   rcases hsg with⟨a,a',b,b'⟩|⟨a,a',b,b'⟩
   ·rw[a',afI (by omega)]
   ·rw[a',afH (by omega)]
  ·have:¬kn (x.natAbs:Int) y.natAbs<0:=by unfold kn;rw[if_neg (by omega)];split<;>decide
   rw[if_neg (by simpa using this),sub_eq (bY _) (bY _) (by unfold Fit;omega) (cr (by omega)) (by rw[bf,bf];omega),aeL,bf,bf]
   rw[n6 (x:=x+y) (by omega) ?_ (fun _=>by rw[show ((x.natAbs:Int)-y.natAbs).toNat=(x+y).natAbs by omega];show Ln (x+y)<=_;omega),aeL,ln,aeL]
   intro h0
   rcases hsg with⟨a,a',b,b'⟩|⟨a,a',b,b'⟩
   ·rw[a,afH (by omega)]
   ·rw[a,afI (by omega)]
theorem ZQ {x y:Int} (hx:Ln x<=fw) (hy:Ln y<=fw):qV (eS x) (eS y)=some (eS (x*y),0):=by
 have hL:fw=4398046511104:=rfl
 have hLa:=kl x y
 unfold qV
 rw[iC (by omega),aeL]
 simp only[aeC,adR,if_false]
 rw[iC (by omega),aeL,aeL]
 simp only[aeC,adR,if_false]
 have hxd:(eS x).aa=aF x.natAbs:=rfl
 have hyd:(eS y).aa=aF y.natAbs:=rfl
 have hxs:(eS x).ag=x.sign:=rfl
 have hys:(eS y).ag=y.sign:=rfl
 rw[hxd,hyd,hxs,hys]
 have fx:(aF x.natAbs).length<=4398046511104:=by show Ln x<=_;omega
 have fy:(aF y.natAbs).length<=4398046511104:=by show Ln y<=_;omega
 have hw:IntKind.i64.wrap (x.sign*y.sign)=(x*y).sign:=by
  rw[Int.sign_mul]
  apply gK
  rcases sn x with h|h|h<;>rcases sn y with g|g|g<;>rw[h,g]<;>decide
 rw[hw,mul_eq (bY _) (bY _) (by omega),aeL,bf,bf]
 have hn:((x.natAbs:Int)*y.natAbs).toNat=(x*y).natAbs:=by rw[afF,<- aef];rfl
 rw[hn,n6 (x:=x*y) rfl (fun _=>rfl) (fun _=>by show Ln (x*y)<=_;omega),aeL,ln,aeL]
theorem oU {x y:Int} (hx:Ln x<=fw) (hy:Ln y<=fw):b8 (eS x) (eS y)=some (eS (x*y)):=by
 unfold b8
 rw[ZQ hx hy];rfl
theorem Uw {x y:Int} (hx:Ln x<=fw) (hy:Ln y<=fw) (h0:0<y) (hd:y∣x):mq (eS x) (eS y)=some (eS (x / y),eS 0,0):=by
 have hL:fw=4398046511104:=rfl
 unfold mq
 rw[iC (by omega),aeL]
 simp only[aeC,adR,if_false]
 rw[iC (by omega),aeL,aeL]
 simp only[aeC,adR,if_false]
 have hxd:(eS x).aa=aF x.natAbs:=rfl
 have hyd:(eS y).aa=aF y.natAbs:=rfl
 have hxs:(eS x).ag=x.sign:=rfl
 have hys:(eS y).ag=1:=afH h0
 rw[hxd,hyd,hxs,hys]
 have fx:(aF x.natAbs).length<=4398046511104:=by show Ln x<=_;omega
 have fy:(aF y.natAbs).length<=4398046511104:=by show Ln y<=_;omega
 have fq:=cr (Nat.div_le_self x.natAbs y.natAbs)
 obtain⟨z,rfl⟩:=hd
 have hyz:y*z / y=z:=Int.mul_ediv_cancel_left _ (by omega)
 have hn:(y*z).natAbs=y.natAbs*z.natAbs:=afF _ _
 have hq:(y*z).natAbs / y.natAbs=z.natAbs:=by rw[hn,Nat.mul_div_cancel_left _ (by omega)]
 have hr:(y*z).natAbs % y.natAbs=0:=by rw[hn,Nat.mul_mod_right]
 have hsg:(y*z).sign=z.sign:=by rw[Int.sign_mul,afH h0,afB]
 rw[if_neg (by decide),div_eq (by omega) (by omega) (by omega),aeL,afj,hsg,gK (x:=z.sign) (by have:=sn z;omega),hyz,hq,hr,cn]
 rw[hq]at fq
 have hT:(if decide (z.sign<0)=true then some (decide ((([]:List Int).length:Int)>0)) else some false)=some false:=by split<;>rfl
 simp only[hT,Option.bind_some,adR,if_false]
 rw[n6 (x:=z) rfl (fun _=>rfl) (fun _=>by omega),aeL]
 have:cm z.sign []=some (eS 0):=qw 0 (by simp[Fit]) Dg.nil rfl (fun h=>absurd rfl h)
 rw[this,aeL]
def lg (n:Nat):Nat:=if n=0 then 0 else n.log2+1
theorem Zv {r x:Nat} (h:2*r<x):lg r<lg x:=by
 unfold lg
 rw[if_neg (show x≠0 by omega)]
 by_cases h0:r=0
 ·rw[if_pos h0];omega
 ·rw[if_neg h0]
  have h1:=Nat.log2_self_le h0
  have h2:=@Nat.lt_log2_self x
  have:2 ^ (r.log2+1)<2 ^ (x.log2+1):=by rw[Nat.pow_succ];omega
  have:=(Nat.pow_lt_pow_iff_right (by decide:1<2)).1 this
  omega
theorem R7 {n k:Nat} (h:(n:Int)<pw k):lg n<=20*k:=by
 unfold lg
 by_cases h0:n=0
 ·rw[if_pos h0];omega
 ·rw[if_neg h0]
  have:n<2 ^ (20*k):=by
   have:pw k=((2 ^ (20*k):Nat):Int):=by
    unfold pw
    rw[Nat.pow_mul,Int.natCast_pow];rfl
   omega
  have:=(Nat.log2_lt h0).2 this
  omega
theorem VY {a b:Nat} (ha:(aF a).length<=iN) (hb:(aF b).length<=iN):aX og (aF a,aF b)=some (aF (Nat.gcd a b)):=by
 have hL:iN=17592186043904:=rfl
 have key:∃r,aX og (aF a,aF b)=some r∧r=aF (Nat.gcd a b):=by
  have la:=R7 (eX a)
  have lb:=R7 (eX b)
  let val:List Int->Nat:=fun l=>(dv l).toNat
  have hval:∀n,val (aF n)=n:=fun n=>by show (dv (aF n)).toNat=n;rw[bf];rfl
  refine oK (I:=fun (s:List Int×List Int)=>∃x y,s=(aF x,aF y)∧Nat.gcd x y=Nat.gcd a b∧(aF x).length<=iN∧(aF y).length<=iN)
   (μ:=fun (s:List Int×List Int)=>lg (val s.1)+lg (val s.2)+(if val s.1<val s.2 then 1 else 0)) _ ⟨a,b,rfl,rfl,ha,hb⟩ (by simp only[hval];unfold FU;split<;>omega) ?_
  rintro _ ⟨x,y,rfl,hg,hx,hy⟩
  simp only[og]
  by_cases h0:y=0
  ·right
   subst h0
   refine⟨_,by rw[cn,if_neg (by simp)],?_⟩
   rw[<- hg,afJ]
  ·left
   have hne:0<(aF y).length:=ae4.2 (fun h=>h0 (qg.1 h))
   rw[if_pos (by simpa using hne),div_eq h0 (by omega) (by omega),aeL]
   have hlt:=aea x (afK h0)
   refine⟨_,rfl,⟨y,x % y,rfl,?_,hy,?_⟩,?_⟩
   ·rw[<- hg,Nat.gcd_comm y,<- Nat.gcd_rec,Nat.gcd_comm]
   ·have:=cr (Nat.mod_le x y);omega
   ·simp only[hval]
    rw[if_neg (by omega)]
    by_cases hxy:x<y
    ·rw[if_pos hxy,aec hxy];omega
    ·rw[if_neg hxy]
     have:lg (x % y)<lg x:=by
      apply Zv
      have h1:=afL x y
      have h2:1<=x / y:=(Nat.one_le_div_iff (by omega)).2 (by omega)
      have h3:y*1<=y*(x / y):=Nat.mul_le_mul_left _ h2
      omega
     omega
 obtain⟨r,h1,rfl⟩:=key
 exact h1
theorem Uy {x y:Int} (hx:Ln x<=iN) (hy:Ln y<=iN):nA (eS x) (eS y)=some (eS (Int.gcd x y),0):=by
 have hL:iN=17592186043904:=rfl
 unfold nA
 rw[iC (by omega),aeL]
 simp only[aeC,adR,if_false]
 rw[iC (by omega),aeL,aeL]
 simp only[aeC,adR,if_false]
 have hxd:(eS x).aa=aF x.natAbs:=rfl
 have hyd:(eS y).aa=aF y.natAbs:=rfl
 rw[hxd,hyd]
 have fx:(aF x.natAbs).length<=17592186043904:=by show Ln x<=_;omega
 have fy:(aF y.natAbs).length<=17592186043904:=by show Ln y<=_;omega
 have fg:(aF (Nat.gcd x.natAbs y.natAbs)).length<=17592186043904:=by
  by_cases h:y.natAbs=0
  ·rw[h,afJ];exact fx
  ·have:=cr (afM x.natAbs (afK h));omega
 rw[tl (by unfold Fit;omega),aeL,VY (by omega) (by omega),aeL,tl (by unfold Fit;omega),aeL]
 have hgn:Nat.gcd x.natAbs y.natAbs=((Int.gcd x y:Nat):Int).natAbs:=rfl
 rw[n6 (x:=(Int.gcd x y:Int)) hgn ?_ (fun _=>by omega),aeL,ln,aeL]
 intro h
 rw[afH (by omega)]
theorem S4 (x:Int):IntKind.u64.wrap x=x % 18446744073709551616:=by
 unfold IntKind.wrap
 simp only[IntKind.bits,IntKind.signed,afd,adR,if_false]
 rfl
theorem wu {x:Int} (h:0<=x∧x<18446744073709551616):IntKind.u64.wrap x=x:=by rw[S4];omega
theorem S9 {x:Int} (h:0<=x∧x<18446744073709551616):jV .and .u64 x 1048575=x % 1048576:=by
 unfold jV
 simp only
 have e1:(BitVec.ofInt IntKind.u64.bits x &&& BitVec.ofInt IntKind.u64.bits 1048575).toNat=((x % 18446744073709551616).toNat) % 1048576:=by
  rw[BitVec.toNat_and,BitVec.toNat_ofInt,BitVec.toNat_ofInt]
  have e:((1048575:Int) % ((2 ^ IntKind.u64.bits:Nat):Int)).toNat=2 ^ 20-1:=by decide
  rw[e,afo]
  rfl
 rw[e1,wu (by omega)]
 omega
theorem aaw (x:Int):wU .u64 x 20=some (x / 1048576):=by
 unfold wU
 rw[if_neg (by decide)]
 have e:(2:Int) ^ (min (Int.toNat 20) IntKind.u64.bits)=1048576:=by decide
 rw[e,afp _ (by decide)]
theorem pw4:pw 4=1208925819614629174706176:=by decide
theorem Yt {n:Nat} (hn:n<18446744073709551616):∃l,aX uy ((n:Int),[])=some l∧Dg l∧dv l=n∧l.length<=5:=by
 refine oK (I:=fun (s:Int×List Int)=>0<=s.1∧Dg s.2∧dv s.2+pw s.2.length*s.1=n∧s.2.length<=5∧(s.1=0∨s.2.length<5)) (μ:=fun (s:Int×List Int)=>s.1.toNat) _ ⟨by simp,Dg.nil,by simp[dv,nO],by simp,by simp⟩ (by simp only[Int.toNat_natCast];unfold FU;omega) ?_
 rintro⟨u,l⟩ ⟨h1,hd,h2,h3,h5⟩
 simp only at h1 hd h2 h3 h5
 have hp:=mh l.length
 have hdl:=cp hd
 have hu:u<=n:=by
  have:1*u<=pw l.length*u:=afC (by omega) h1
  omega
 simp only[uy]
 by_cases h0:u>0
 ·left
  have hl5:l.length<5:=by omega
  have hl4:l.length<4:=by
   rcases ad2 l.length 4 with h|h
   ·exact h
   ·have h4:l.length=4:=by omega
    rw[h4,pw4]at h2
    omega
  have hw:IntKind.i64.wrap (u % 1048576)=u % 1048576:=gK (by omega)
  rw[if_pos (by simpa using h0),S9 ⟨h1,by omega⟩,hw,xd (by simp;omega),aeL,aaw,aeL]
  refine⟨_,rfl,⟨by simp only;omega,hd.append (Dg.mk (by omega) Dg.nil),?_,by simp;omega,by right;simp;omega⟩,by simp only;omega⟩
  simp only[fA,dv,aej,List.length_cons,List.length_nil,afA,afE,ad4]
  have:=tS l.length u
  omega
 ·right
  have:u=0:=by omega
  subst this
  refine⟨l,by rw[if_neg (by simp)],hd,?_,h3⟩
  rw[afA]at h2
  omega
theorem YT {x:Int} (h : -9223372036854775808<=x∧x<9223372036854775808):s9 x=some (eS x):=by
 have hT:(if decide (x<0)=true then some ((-1:Int),IntKind.u64.wrap (0-(IntKind.u64.wrap x))) else some (1,IntKind.u64.wrap x))=some (if x<0 then -1 else 1,((x.natAbs:Nat):Int)):=by
  by_cases hx:x<0
  ·rw[if_pos (by simpa using hx),if_pos hx,S4,S4]
   congr 2
   omega
  ·rw[if_neg (by simpa using hx),if_neg hx,S4]
   congr 2
   omega
 obtain⟨l,h1,h2,h3,h4⟩:=Yt (n:=x.natAbs) (by omega)
 unfold s9
 rw[hT,aeL]
 simp only
 rw[h1,aeL,mW]
 refine qw x (by unfold Fit;omega) h2 h3 (fun h0 =>?_)
 split
 ·rw[afI (by omega)]
 ·rw[afH (by omega)]
theorem acA {d:Int} {i:Nat} (hi:i<=3) (hd:0<=d∧d<1048576) (h8:i=3->d<=8):EE .u64 (IntKind.u64.wrap d) (IntKind.i64.wrap (20*(i:Int)))=some (pw i*d):=by
 rw[wu (by omega),gK (by omega)]
 unfold EE
 rw[if_neg (by omega)]
 have e:(2:Int) ^ (min (20*(i:Int)).toNat IntKind.u64.bits)=pw i:=by
  have:∀i:Nat,i<=3->(2:Int) ^ (min (20*(i:Int)).toNat IntKind.u64.bits)=pw i:=by decide
  exact this i hi
 rw[e,wu,afi]
 rcases (show i=0∨i=1∨i=2∨i=3 by omega) with rfl|rfl|rfl|rfl
 ·rw[show pw 0=1 by decide];omega
 ·rw[show pw 1=1048576 by decide];omega
 ·rw[show pw 2=1099511627776 by decide];omega
 ·rw[show pw 3=1152921504606846976 by decide];have:=h8 rfl;omega
theorem abg {u d:Int} {i:Nat} (hi:i<=3) (hu:0<=u∧u<pw i) (hd:0<=d∧pw i*d<9223372036854775809):jV .or .u64 u (pw i*d)=u+pw i*d:=by
 have hp:=mh i
 have hpd:0<=pw i*d:=afw (by omega) hd.1
 have hpw:pw i=((2 ^ (20*i):Nat):Int):=by unfold pw;rw[Nat.pow_mul,Int.natCast_pow];rfl
 have hp3:pw i<=1152921504606846976:=by
  have:=pG hi
  rwa [show pw 3=1152921504606846976 by decide]at this
 unfold jV
 simp only
 have e1:(BitVec.ofInt IntKind.u64.bits u ||| BitVec.ofInt IntKind.u64.bits (pw i*d)).toNat=(u+pw i*d).toNat:=by
  rw[BitVec.toNat_or,BitVec.toNat_ofInt,BitVec.toNat_ofInt]
  have e:((2 ^ IntKind.u64.bits:Nat):Int)=18446744073709551616:=by decide
  rw[e]
  have e2:(u % 18446744073709551616).toNat=u.toNat:=by omega
  have e3:((pw i*d) % 18446744073709551616).toNat=d.toNat <<< (20*i):=by
   rw[Nat.shiftLeft_eq,Int.emod_eq_of_lt hpd (by omega),hpw]
   have:d=(d.toNat:Int):=by omega
   rw[this,<- aef,aeg,aeg,aee]
  rw[e2,e3,Nat.or_comm,<- Nat.shiftLeft_add_eq_or_of_lt (by omega),Nat.shiftLeft_eq]
  have:pw i*d=((d.toNat*2 ^ (20*i):Nat):Int):=by
   rw[hpw,aef,afi]
   congr 1
   omega
  omega
 rw[e1,wu (by omega)]
 omega
theorem aap {g:Nat} (h:(aF g).length<=iN):oG (eS g)=some (decide (g=1)):=by
 have hL:iN=17592186043904:=rfl
 have hgd:(eS (g:Int)).aa=aF g:=rfl
 have hLn:Ln (g:Int)=(aF g).length:=rfl
 unfold oG
 have hsmall:g=1->(aF g).length<=4:=by
  rintro rfl
  exact adj (gm (k:=1) (by decide)) (by decide)
 suffices hI:∃r,qT (eS g)=some r∧((if r.2=true then some (r.1==1) else some false)=some (decide (g=1))) by
  obtain⟨r,h1,h2⟩:=hI
  rw[h1,aeL,h2]
 unfold qT
 rw[iC (by rw[hLn];omega),aeL]
 simp only[aeC,adR,if_false,Option.bind_some,hgd]
 by_cases h4:(aF g).length>4
 ·rw[if_pos (by simp;omega)]
  refine⟨_,rfl,?_⟩
  have:g≠1:=fun hh=>by have:=hsmall hh;omega
  simp[this]
 rw[if_neg (by simp;omega)]
 have key:∃r,aX (qU (eS g)) (0,0)=some r∧(match r with | .inl u=>u=(g:Int) | .inr x=>x=(0,false)∧g≠1):=by
  refine cw (I:=fun i s=>s.2=(i:Int)∧s.1=dv ((aF g).take i)) (aF g).length _ ⟨rfl,rfl⟩ (iW (by omega)) ?_
  rintro i ⟨u,s⟩ hi ⟨h1,h2⟩
  simp only at h1 h2
  subst h1 h2
  simp only[qU,hgd]
  have hdg:=(bY g).take i
  have hu0:=cp hdg
  have hu1:=np hdg
  rw[adA,aem hi]at hu1
  by_cases hlt:i<(aF g).length
  ·have gd:=(bY g).get hlt
   rw[if_pos (by simpa using hlt),bQ hlt,aeL]
   have hT:(if ((i:Int)==3)=true then some (decide ((aF g)[i]>8)) else some false)=some (decide (i=3∧(aF g)[i]>8)):=by
    by_cases h3:i=3
    ·subst h3;simp
    ·rw[if_neg (by simp;omega)];simp[h3]
   rw[hT,aeL]
   by_cases h8:i=3∧(aF g)[i]>8
   ·right
    rw[if_pos (by simpa using h8)]
    refine⟨.inr (0,false),rfl,rfl,?_⟩
    rintro rfl
    have:=gm (n:=1) (k:=1) (by decide)
    omega
   ·left
    rw[if_neg (by simpa using h8),acA (by omega) gd (by omega),aeL]
    have hb:pw i*(aF g)[i]<9223372036854775809:=by
     rcases (show i=0∨i=1∨i=2∨i=3 by omega) with h|h|h|h
     ·have:pw i=1:=by rw[h];decide
      rw[this];omega
     ·have:pw i=1048576:=by rw[h];decide
      rw[this];omega
     ·have:pw i=1099511627776:=by rw[h];decide
      rw[this];omega
     ·have:pw i=1152921504606846976:=by rw[h];decide
      rw[this];omega
    rw[abg (by omega) ⟨hu0,hu1⟩ ⟨gd.1,hb⟩]
    exact⟨hlt,_,rfl,by rw[gK (by omega)];omega,by rw[ff hlt]⟩
  ·right
   have:i=(aF g).length:=by omega
   subst this
   exact⟨.inl (dv ((aF g).take (aF g).length)),by rw[if_neg (by simp)],by rw[afg,bf]⟩
 obtain⟨r,h1,h2⟩:=key
 rw[h1,aeL]
 cases r with
 | inr x=>obtain⟨rfl,h⟩:=h2;exact⟨_,rfl,by simp[h]⟩
 | inl u =>
  simp only at h2
  subst h2
  have hs:(eS (g:Int)).ag=(g:Int).sign:=rfl
  have hs0:¬(g:Int).sign<0:=by have:=gA (g:Int);omega
  simp only[hs]
  rw[if_neg (by simp),aeL,if_neg (by simp),if_pos (by simp)]
  by_cases hg:(g:Int)<9223372036854775808
  ·rw[if_pos (by simpa using hg)]
   refine⟨_,rfl,?_⟩
   simp only[if_true]
   rw[wrap64 (by omega) hg]
   congr 1
   by_cases h:g=1
   ·subst h;rfl
   ·have:¬((g:Int)=1):=by omega
    simp[h,this]
  ·rw[if_neg (by simpa using hg)]
   have:g≠1:=by omega
   exact⟨_,rfl,by simp[this]⟩
def di (q:Rat):ak:=ak.mk (eS q.num) (eS q.den)
def LF (q:Rat):Nat:=max (Ln q.num) (Ln q.den)
theorem IU {p q:Rat} (h:di p=di q):p=q:=by
 unfold di at h
 simp only[ak.mk.injEq]at h
 have h1:=IT h.1
 have h2:=IT h.2
 exact Rat.ext h1 (by omega)
def okF (f:ak):Bool:=okB f.aL&&okB f.aM&&(f.aM.ag==1)&&decide (Nat.gcd (dv f.aL.aa).toNat (dv f.aM.aa).toNat=1)
theorem xP {f:ak} : okF f=true↔∃q,f=di q:=by
 obtain⟨p,q⟩:=f
 unfold okF
 simp only[adS,beq_iff_eq,decide_eq_true_eq]
 constructor
 ·rintro⟨⟨⟨h1,h2⟩,h3⟩,h4⟩
  obtain⟨x,rfl⟩:=rS.1 h1
  obtain⟨y,rfl⟩:=rS.1 h2
  have hy:0<y:=by
   have:y.sign=1:=h3
   rcases gA y with⟨a,b,c⟩|⟨a,b,c⟩|⟨a,b⟩<;>omega
  have h5:(dv (eS x).aa).toNat=x.natAbs:=by show (dv (aF _)).toNat=_;rw[bf];rfl
  have h6:(dv (eS y).aa).toNat=y.natAbs:=by show (dv (aF _)).toNat=_;rw[bf];rfl
  rw[h5,h6]at h4
  refine⟨⟨x,y.natAbs,by omega,h4⟩,?_⟩
  unfold di
  simp only
  congr 2
  omega
 ·rintro⟨q,hq⟩
  unfold di at hq
  simp only[ak.mk.injEq]at hq
  obtain⟨rfl,rfl⟩:=hq
  have hd:=q.den_pos
  refine⟨⟨⟨IY _,IY _⟩,afH (by omega)⟩,?_⟩
  have h5:(dv (eS q.num).aa).toNat=q.num.natAbs:=by show (dv (aF _)).toNat=_;rw[bf];rfl
  have h6:(dv (eS (q.den:Int)).aa).toNat=q.den:=by show (dv (aF _)).toNat=_;rw[bf];rfl
  rw[h5,h6]
  exact q.reduced
theorem PQ (q:Rat):okF (di q)=true:=xP.2 ⟨q,rfl⟩
def S5 (f:ak):Prop:=f.aL.aa.length<=iN∧f.aM.aa.length<=iN
theorem XR {q:Rat} (h:LF q<=fw):S5 (di q):=by
 unfold LF at h
 exact⟨xa (show Ln q.num<=_ by omega),xa (show Ln q.den<=_ by omega)⟩
theorem xc {f:ak} (hf:S5 f):b7 f=some (okF f):=by
 have hL:iN=17592186043904:=rfl
 obtain⟨p,q⟩:=f
 simp only[S5]at hf
 unfold b7 okF
 rw[DC (show Fit p.aa by unfold Fit;omega),aeL]
 by_cases h1:okB p=true
 ·simp only[h1,aeC,adR,if_false,aeD]
  rw[DC (show Fit q.aa by unfold Fit;omega),aeL]
  by_cases h2:okB q=true
  ·simp only[h2,aeC,adR,if_false,aeD,Option.bind_some]
   by_cases h3:q.ag=1
   ·rw[if_neg (by simp[h3])]
    obtain⟨x,rfl⟩:=rS.1 h1
    obtain⟨y,rfl⟩:=rS.1 h2
    rw[Uy hf.1 hf.2,aeL]
    simp only[beq_self_eq_true,if_true]
    have h5:(dv (eS x).aa).toNat=x.natAbs:=by show (dv (aF _)).toNat=_;rw[bf];rfl
    have h6:(dv (eS y).aa).toNat=y.natAbs:=by show (dv (aF _)).toNat=_;rw[bf];rfl
    rw[aap,aeL,h5,h6]
    ·rw[h3];rfl
    ·have hy:0<y.natAbs:=by
      have:y.sign=1:=h3
      rcases gA y with⟨a,b,c⟩|⟨a,b,c⟩|⟨a,b⟩<;>omega
     have:=cr (afM x.natAbs hy)
     have h7:(aF y.natAbs).length<=iN:=hf.2
     show (aF (Nat.gcd x.natAbs y.natAbs)).length<=_
     omega
   ·rw[if_pos (by simpa using h3)]
    simp[h3]
  ·simp only[h2,afe,if_true,Option.bind_some,afd]
 ·simp only[h1,afe,if_true,Option.bind_some,afd]
theorem lk {q:Rat} (h:LF q<=fw):b7 (di q)=some true:=by rw[xc (XR h),PQ]
theorem Ow {p q:Int} (hp:Ln p<=fw) (hq:Ln q<=fw) (h0:q≠0):ly (eS p) (eS q)=some (di (Rat.divInt p q),0):=by
 have hL:fw=4398046511104:=rfl
 have main:∀ {p q:Int},Ln p<=fw->Ln q<=fw->0<q ->
   ((nA (eS p) (eS q)).bind fun r6=>(mq (eS p) r6.1).bind fun r7=>(mq (eS q) r6.1).bind fun r8=>some ((ak.mk r7.1 r8.1),(0:Int)))=some (di (Rat.divInt p q),0):=by
  intro p q hp hq h0
  have hg:0<Int.gcd p q:=Int.gcd_pos_of_ne_zero_right _ (by omega)
  have hgl:Ln (Int.gcd p q:Int)<=fw:=by
   have:=cr (afM p.natAbs (show 0<q.natAbs by omega))
   show (aF (Nat.gcd p.natAbs q.natAbs)).length<=_
   have h7:(aF q.natAbs).length<=fw:=hq
   omega
  rw[Uy (xa hp) (xa hq),aeL]
  simp only
  rw[Uw hp hgl (by omega) (Int.gcd_dvd_left ..),aeL,Uw hq hgl (by omega) (Int.gcd_dvd_right ..),aeL]
  have hd:((q.natAbs / Int.gcd p q:Nat):Int)=q / (Int.gcd p q:Int):=by
   rw[Int.natCast_ediv]
   congr 1
   omega
  unfold di
  rw[Rat.num_divInt,Rat.den_divInt,if_neg (by omega),afH h0,afB,Int.gcd_comm q p,hd]
 unfold ly
 rw[iC (by omega),aeL]
 simp only[aeC,adR,if_false]
 rw[iC (by omega),aeL,aeL]
 simp only[aeC,adR,if_false]
 have hqs:(eS q).ag=q.sign:=rfl
 rw[hqs]
 rcases gA q with⟨a,b,c⟩|⟨a,b,c⟩|⟨a,b⟩
 ·rw[if_neg (by rw[a];decide),if_neg (by rw[a];decide),aeL]
  exact main hp hq c
 ·rw[if_neg (by rw[a];decide),if_pos (by rw[a];decide),Ov hp,aeL,Ov hq,aeL,aeL]
  have:=main (p := -p) (q := -q) (by rw[Ou];exact hp) (by rw[Ou];exact hq) (by omega)
  rw[Rat.neg_divInt_neg]at this
  exact this
 ·exact absurd b h0
theorem l4 (q:Rat):Ln q.num<=LF q:=by unfold LF;omega
theorem m9 (q:Rat):Ln q.den<=LF q:=by unfold LF;omega
theorem yD {p q:Int} (h0:q≠0):LF (Rat.divInt p q)<=max (Ln p) (Ln q):=by
 have hg:0<Int.gcd q p:=Int.gcd_pos_of_ne_zero_left _ h0
 have h1:Ln (Rat.divInt p q).num<=Ln p:=by
  apply QM
  rw[Rat.num_divInt]
  obtain⟨z,hz⟩:(Int.gcd q p:Int)∣q.sign*p:=Int.dvd_mul_of_dvd_right (Int.gcd_dvd_right ..)
  rw[hz,Int.mul_ediv_cancel_left _ (by omega)]
  have h2:(q.sign*p).natAbs=p.natAbs:=by
   rw[afF]
   have:q.sign.natAbs=1:=by
    rcases gA q with⟨a,b,c⟩|⟨a,b,c⟩|⟨a,b⟩
    ·rw[a];rfl
    ·rw[a];rfl
    ·exact absurd b h0
   rw[this,Nat.one_mul]
  rw[<- h2,hz,afF]
  exact Nat.le_mul_of_pos_left _ (by omega)
 have h2:Ln ((Rat.divInt p q).den:Int)<=Ln q:=by
  apply QM
  rw[Rat.den_divInt,if_neg h0]
  exact Nat.div_le_self _ _
 unfold LF
 omega
theorem YP {a b:Rat} (h:LF a+LF b+1<=fw):mO (di a) (di b)=some (di (a+b),0):=by
 have n1:=l4 a
 have n2:=l4 b
 have d1:=m9 a
 have d2:=m9 b
 have m1:=kl a.num b.den
 have m2:=kl b.num a.den
 have m3:=kl a.den b.den
 have m4:=Ot (a.num*b.den) (b.num*a.den)
 unfold mO
 rw[lk (by omega),aeL]
 simp only[aeC,adR,if_false]
 rw[lk (by omega),aeL,aeL]
 simp only[aeC,adR,if_false]
 show (b8 (eS a.num) (eS b.den)).bind _=_
 rw[oU (by omega) (by omega),aeL]
 show (b8 (eS b.num) (eS a.den)).bind _=_
 rw[oU (by omega) (by omega),aeL,ZP (by omega) (by omega),aeL]
 show (b8 (eS a.den) (eS b.den)).bind _=_
 have hden:(a.den:Int)*b.den≠0:=by
  rw[<- aef]
  have:=Nat.mul_pos a.den_pos b.den_pos
  omega
 rw[oU (by omega) (by omega),aeL,Ow (by omega) (by omega) hden,aeL]
 rw[Rat.add_def',<- Rat.divInt_ofNat,aef]
theorem HY (a b:Rat):LF (a+b)<=LF a+LF b+1:=by
 have n1:=l4 a
 have n2:=l4 b
 have d1:=m9 a
 have d2:=m9 b
 have m1:=kl a.num b.den
 have m2:=kl b.num a.den
 have m3:=kl a.den b.den
 have m4:=Ot (a.num*b.den) (b.num*a.den)
 have hden:(a.den:Int)*b.den≠0:=by
  rw[<- aef]
  have:=Nat.mul_pos a.den_pos b.den_pos
  omega
 rw[Rat.add_def',<- Rat.divInt_ofNat,aef]
 have:=yD (p:=a.num*b.den+b.num*a.den) hden
 omega
theorem UC (a:Rat):LF (-a)=LF a:=by unfold LF;rw[Rat.neg_num,Rat.neg_den,Ou]
theorem Oq (a b:Rat):LF (a-b)<=LF a+LF b+1:=by
 rw[Rat.sub_eq_add_neg]
 have:=HY a (-b)
 rw[UC]at this
 exact this
theorem YY {a b:Rat} (h:LF a+LF b+1<=fw):mP (di a) (di b)=some (di (a-b),0):=by
 unfold mP
 rw[lk (by omega),aeL]
 simp only[aeC,adR,if_false]
 rw[lk (by omega),aeL,aeL]
 simp only[aeC,adR,if_false]
 show (mr (eS b.num)).bind _=_
 have n2:=l4 b
 rw[Ov (by omega),aeL]
 have e:ak.mk (eS (-b.num)) (di b).aM=di (-b):=by unfold di;rw[Rat.neg_num,Rat.neg_den]
 rw[e,YP (by rw[UC];exact h),aeL,Rat.sub_eq_add_neg]
theorem aaN {a b:Rat} (h:LF a+LF b<=fw):oF (di a) (di b)=some (di (a*b),0):=by
 have n1:=l4 a
 have n2:=l4 b
 have d1:=m9 a
 have d2:=m9 b
 have m1:=kl a.num b.num
 have m3:=kl a.den b.den
 unfold oF
 rw[lk (by omega),aeL]
 simp only[aeC,adR,if_false]
 rw[lk (by omega),aeL,aeL]
 simp only[aeC,adR,if_false]
 show (b8 (eS a.num) (eS b.num)).bind _=_
 rw[oU (by omega) (by omega),aeL]
 show (b8 (eS a.den) (eS b.den)).bind _=_
 have hden:(a.den:Int)*b.den≠0:=by
  rw[<- aef]
  have:=Nat.mul_pos a.den_pos b.den_pos
  omega
 rw[oU (by omega) (by omega),aeL,Ow (by omega) (by omega) hden,aeL]
 rw[Rat.mul_def',<- Rat.divInt_ofNat,aef]
theorem A7 (a b:Rat):LF (a*b)<=LF a+LF b:=by
 have n1:=l4 a
 have n2:=l4 b
 have d1:=m9 a
 have d2:=m9 b
 have m1:=kl a.num b.num
 have m3:=kl a.den b.den
 have hden:(a.den:Int)*b.den≠0:=by
  rw[<- aef]
  have:=Nat.mul_pos a.den_pos b.den_pos
  omega
 rw[Rat.mul_def',<- Rat.divInt_ofNat,aef]
 have:=yD (p:=a.num*b.num) hden
 omega
theorem BQ (a b:Rat):a / b=Rat.divInt (a.num*b.den) (a.den*b.num):=by
 rw[Rat.div_def,Rat.inv_def]
 conv=>lhs;rw[<- Rat.num_divInt_den a]
 rw[Rat.divInt_mul_divInt]
theorem aaM {a b:Rat} (h:LF a+LF b<=fw) (h0:b≠0):lx (di a) (di b)=some (di (a / b),0):=by
 have n1:=l4 a
 have n2:=l4 b
 have d1:=m9 a
 have d2:=m9 b
 have m1:=kl a.num b.den
 have m3:=kl a.den b.num
 have hb:b.num≠0:=fun hh=>h0 (Rat.num_eq_zero.1 hh)
 unfold lx
 rw[lk (by omega),aeL]
 simp only[aeC,adR,if_false]
 rw[lk (by omega),aeL,aeL]
 simp only[aeC,adR,if_false]
 have hs:(di b).aL.ag=b.num.sign:=rfl
 have hs':b.num.sign≠0:=by rcases gA b.num with⟨a,b,c⟩|⟨a,b,c⟩|⟨a,b⟩<;>omega
 rw[hs,if_neg (by simpa using hs')]
 show (b8 (eS a.num) (eS b.den)).bind _=_
 rw[oU (by omega) (by omega),aeL]
 show (b8 (eS a.den) (eS b.num)).bind _=_
 have hden:(a.den:Int)*b.num≠0:=Int.mul_ne_zero (by have:=a.den_pos;omega) hb
 rw[oU (by omega) (by omega),aeL,Ow (by omega) (by omega) hden,aeL,BQ]
theorem UB {a b:Rat} (h0:b≠0):LF (a / b)<=LF a+LF b:=by
 have n1:=l4 a
 have n2:=l4 b
 have d1:=m9 a
 have d2:=m9 b
 have m1:=kl a.num b.den
 have m3:=kl a.den b.num
 have hb:b.num≠0:=fun hh=>h0 (Rat.num_eq_zero.1 hh)
 have hden:(a.den:Int)*b.num≠0:=Int.mul_ne_zero (by have:=a.den_pos;omega) hb
 rw[BQ]
 have:=yD (p:=a.num*b.den) hden
 omega
theorem YR {n:Int} (h : -9223372036854775808<=n∧n<9223372036854775808):gS n=some (di n):=by
 unfold gS
 rw[YT h,aeL,YT (by decide),aeL]
 unfold di
 rw[Rat.num_intCast,Rat.den_intCast]
 rfl
theorem Om {n:Int} (h:n.natAbs<1048576):LF (n:Rat)<=1:=by
 unfold LF
 rw[Rat.num_intCast,Rat.den_intCast]
 have h1:=Ba h
 have h2:=Ba (x:=((1:Nat):Int)) (by decide)
 omega
theorem Oz {a:Rat} (h:LF a<=fw):iG (di a)=some a.num.sign:=by
 unfold iG
 rw[lk h,aeL]
 rfl
theorem S0 {l:List Int} (hl:Fit l) (hd:Dg l):gz l=some (aF (dv l).toNat):=by
 have h:=so hl hd
 obtain⟨r,h1,k,rfl,hk,_⟩:=HO hl
 unfold dt at h
 unfold gz
 have e:tW l=kG l:=rfl
 rw[h1,aeL,Ji hk,aeL]at h
 rw[e,h1,aeL,Ji hk,aeL,xd (by unfold Fit at hl;simp;omega),aeL]
 exact h
theorem DV {l:List Int} {n:Nat} (hl:Fit l) (hd:Dg l) (hn:dv l=n):gz l=some (aF n):=by
 rw[S0 hl hd,hn];rfl
theorem Sa {s:Int} {l:List Int} (x:Int) (hf:Fit l) (hd:Dg l) (hv:dv l=x.natAbs) (hs:x≠0->s=x.sign):gx s l=some (eS x):=by
 have h:=qw x hf hd hv hs
 unfold cm at h
 rw[so hf hd]at h
 unfold gx
 rw[S0 hf hd]
 exact h
theorem PN {x:Int} {s:Int} {n:Nat} (hn:n=x.natAbs) (hs:x≠0->s=x.sign) (hL:n≠0->(aF n).length<=17592186044416):gx s (aF n)=some (eS x):=by
 subst hn
 refine Sa x ?_ (bY _) (bf _) hs
 unfold Fit
 by_cases h:x.natAbs=0
 ·rw[h,cn];simp
 ·exact hL h
theorem Ny {s:Int} {l:List Int} (hf:Fit l):∃r,aX (nP ⟨s,l⟩) 0=some r∧(match r with | .inl _=>Dg l | .inr x=>x=false∧¬Dg l):=by
 refine cw (I:=fun i s=>s=(i:Int)∧Dg (l.take i)) l.length _ ⟨rfl,by simpa using Dg.nil⟩ (iW hf) ?_
 unfold Fit at hf
 rintro i s hi ⟨rfl,hd⟩
 simp only[nP]
 by_cases hlt:i<l.length
 ·rw[if_pos (by simpa using hlt),bQ hlt,aeL]
  by_cases h1:l[i]<0
  ·right
   exact⟨.inr false,by rw[if_pos (by simpa using h1)],rfl,fun hh=>by have:=hh.get hlt;omega⟩
  ·by_cases h2:l[i]>=1048576
   ·right
    exact⟨.inr false,by rw[if_neg (by simpa using h1),if_pos (by simpa using h2)],rfl,fun hh=>by have:=hh.get hlt;omega⟩
   ·left
    refine⟨hlt,_,by rw[if_neg (by simpa using h1),if_neg (by simpa using h2)],by rw[gK (by omega)];omega,?_⟩
    have e:l.take (i+1)=l.take i++[l[i]]:=by rw[afn];simp[hlt]
    rw[e]
    exact hd.append (Dg.mk (by omega) Dg.nil)
 ·right
  have:i=l.length:=by omega
  subst this
  rw[afg]at hd
  exact⟨.inl (),by rw[if_neg (by simp)],hd⟩
theorem P8 {b:al} (hf:Fit b.aa):dp b=some (okB b):=by
 obtain⟨s,l⟩:=b
 simp only[Fit]at hf
 obtain⟨r,h1,h2⟩:=Ny (s:=s) (l:=l) hf
 unfold dp okB
 rw[h1,aeL]
 cases r with
 | inr x =>
  obtain⟨rfl,h⟩:=h2
  simp[h]
 | inl u =>
  simp only at h2 ⊢
  simp only[h2,decide_true,aeD]
  by_cases h0:l=[]
  ·subst h0
   by_cases hs0:s=0
   ·subst hs0;simp
   ·have:(s==0)=false:=by simpa using hs0
    simp only[List.length_nil,List.getLast?_nil,this]
    split<;>(try split)<;>simp
  ·have hp:0<l.length:=ae4.2 h0
   have e:IntKind.i64.wrap ((l.length:Int)-1)=((l.length-1:Nat):Int):=by rw[gK (by omega)];omega
   have hl0:((l.length:Int)==0)=false:=by simpa using h0
   rw[e,bQ (by omega),afG h0,List.getLast_eq_getElem,hl0]
   simp only[Option.bind_some,adR,if_false]
   by_cases hs:s < -1
   ·rw[if_pos (by simpa using hs)]
    have h1:(s==1)=false:=by simp;omega
    have h2:(s == -1)=false:=by simp;omega
    simp[h1,h2]
   ·rw[if_neg (by simpa using hs)]
    by_cases hs':s>1
    ·rw[if_pos (by simpa using hs')]
     have h1:(s==1)=false:=by simp;omega
     have h2:(s == -1)=false:=by simp;omega
     simp[h1,h2]
    ·rw[if_neg (by simpa using hs')]
     rcases (show s = -1∨s=0∨s=1 by omega) with rfl|rfl|rfl<;>simp
theorem vk {x:Int} (h:Ln x<=17592186044416):dp (eS x)=some true:=by
 rw[P8 (show Fit (eS x).aa from h),IY]
theorem xj (l:List Int) (i:Nat):gf l (i:Int)=some (gd l i):=by
 unfold gf
 by_cases h:i<l.length
 ·rw[if_pos (by simpa using h),bQ h,aeL,Le h]
 ·rw[if_neg (by simpa using h),Gg (by omega)]
theorem N8 {a b l0:List Int} {i n:Nat} (ha:Dg a) (hb:Dg b) (hia:i<a.length) (h0:Dg l0) (hn:l0.length=n) (hi:i+b.length<n) (hf:n<=17592186044416) (hz:∀j (hj:j<l0.length),i+b.length<=j->l0[j]=0) :
  ∃l,aX (nS a b (i:Int)) (0,0,l0)=some l∧l.length=n∧Dg l∧(∀j (hj:j<l.length),i+b.length<j->l[j]=0)∧dv l=dv l0+pw i*(a[i]*dv b):=by
 have hx:=ha.get hia
 refine cw (I:=fun k s=>s.2.1=(k:Int)∧s.2.2.length=n∧Dg s.2.2∧(0<=s.1∧s.1<1048576)∧(∀j (hj:j<s.2.2.length),i+b.length<=j->i+k<=j->s.2.2[j]=0)∧(k=b.length+1->s.1=0)∧dv s.2.2+pw (i+k)*s.1=dv l0+pw i*(a[i]*dv (b.take k)))
  (b.length+1) _ ⟨rfl,hn,h0,by simp,fun j hj h _=>hz j hj h,by omega,by simp[dv]⟩ (iW (by omega)) ?_
 rintro k ⟨c,s,l⟩ hk ⟨h1,hl,hd,hc,hz,hend,he⟩
 simp only at h1 hl hd hc hz hend he
 subst h1
 simp only[nS]
 have hT:(if decide ((k:Int)<(b.length:Int))=true then some true else some (decide (c>0)))=some (decide (k<b.length∨c>0)):=by
  by_cases h:k<b.length
  ·rw[if_pos (by simpa using h)];simp[h]
  ·rw[if_neg (by simpa using h)];simp[h]
 rw[hT,aeL]
 by_cases hgo:k<b.length∨c>0
 ·left
  have hkb:k<=b.length:=by
   rcases hgo with h|h
   ·omega
   ·rcases ad2 b.length k with h'|h'
    ·have:=hend (by omega);omega
    ·exact h'
  have hik:i+k<l.length:=by omega
  have ei:IntKind.i64.wrap ((i:Int)+(k:Int))=((i+k:Nat):Int):=by rw[gK (by omega)];omega
  have gb:=Gf hb k
  have gl:=hd.get hik
  have hm0:0<=a[i]*gd b k:=afw hx.1 gb.1
  have hm1:a[i]*gd b k<=1048575*1048575:=afx (by omega) (by omega) gb.1 (by omega)
  rw[if_pos (by simpa using hgo),ei,bQ hik,aeL,bQ hia,aeL,xj,aeL,gK (x:=a[i]*gd b k) (by omega),gK (x:=l[i+k]+a[i]*gd b k) (by omega),gK (x:=l[i+k]+a[i]*gd b k+c) (by omega),Yq (by omega) (by omega),aeL,X4 (by omega) (by omega) (by omega),aeL]
  have e1:IntKind.i64.wrap ((k:Int)+1)=((k+1:Nat):Int):=by rw[gK (by omega)];omega
  refine⟨by omega,_,rfl,e1,by simpa using hl,hd.set _ (by omega),by simp only;omega,fun j hj hij hij2 =>?_,fun hk1 =>?_,?_⟩
  ·simp only[Int.toNat_natCast]at hj ⊢
   rw[afq (by omega)]
   exact hz j (by simpa using hj) hij (by omega)
  ·have hkl:k=b.length:=by omega
   simp only
   rw[Gg (by omega),afA,hz _ hik (by omega) (adh _)]
   omega
  ·simp only[Int.toNat_natCast]
   rw[ri hik,pB]
   have hp:=tS (i+k) (l[i+k]+a[i]*gd b k+c)
   rw[afl (pw (i+k)),afl (pw (i+k))]at hp
   have e2:pw i*(a[i]*(dv (b.take k)+pw k*gd b k))=pw i*(a[i]*dv (b.take k))+pw (i+k)*(a[i]*gd b k):=by
    rw[afl,afl,Dp]
    congr 1
    rw[afy a[i],<- afm]
   rw[e2,afr,show i+(k+1)=i+k+1 by omega]
   omega
 ·right
  have hkb:b.length<=k:=by omega
  have hc0:c=0:=by omega
  subst hc0
  refine⟨l,by rw[if_neg (by simpa using hgo)],hl,hd,fun j hj h=>hz j hj (by omega) (by omega),?_⟩
  rw[wF hkb,afA]at he
  omega
theorem Xy {a b:List Int} (ha:Dg a) (hb:Dg b) (hf:a.length+b.length<=17592186044416):kS a b=some (aF (dv a*dv b).toNat):=by
 have key:∃l,aX (nR a b) (0,List.replicate (a.length+b.length) 0)=some l∧l.length=a.length+b.length∧Dg l∧dv l=dv a*dv b:=by
  refine cw (I:=fun i s=>s.1=(i:Int)∧s.2.length=a.length+b.length∧Dg s.2∧(∀j (hj:j<s.2.length),i+b.length<=j->s.2[j]=0)∧dv s.2=dv (a.take i)*dv b)
   a.length _ ⟨rfl,by simp,Dg.rep _,fun j hj _=>by simp,by simp[dv,yL]⟩ (iW (by omega)) ?_
  rintro i ⟨s,l⟩ hi ⟨h1,hl,hd,hz,he⟩
  simp only at h1 hl hd hz he
  subst h1
  simp only[nR]
  by_cases hlt:i<a.length
  ·left
   obtain⟨m,g1,g2,g3,g4,g5⟩:=N8 (i:=i) (n:=a.length+b.length) ha hb hlt hd hl (by omega) hf hz
   rw[if_pos (by simpa using hlt),g1,aeL]
   have e1:IntKind.i64.wrap ((i:Int)+1)=((i+1:Nat):Int):=by rw[gK (by omega)];omega
   refine⟨hlt,_,rfl,e1,g2,g3,fun j hj hij=>g4 j hj (by omega),?_⟩
   rw[g5,he,ff hlt,afz,afm]
  ·right
   have hia:i=a.length:=by omega
   subst hia
   refine⟨l,by rw[if_neg (by simp)],hl,hd,?_⟩
   rw[he,afg]
 obtain⟨l,h1,h2,h3,h4⟩:=key
 unfold kS
 have e:IntKind.i64.wrap ((a.length:Int)+(b.length:Int))=((a.length+b.length:Nat):Int):=by rw[gK (by omega)];omega
 rw[e,mk0 hf,aeL,h1,aeL,mW,S0 (by unfold Fit;omega) h3,h4]
theorem FO (l:List Int) (i:Nat):dv l=dv (l.take i)+pw i*dv (l.drop i):=by
 by_cases h:i<=l.length
 ·exact iy l h
 ·rw[aeA (by omega),aeZ (by omega)];simp[dv]
theorem wB (l:List Int) (i:Nat):dv (l.drop i)=gd l i+1048576*dv (l.drop (i+1)):=by
 by_cases h:i<l.length
 ·rw[jw h,Le h]
 ·rw[aeZ (by omega),aeZ (by omega),Gg (by omega)];simp[dv]
theorem B4 {l:List Int} (h:Dg l) (i:Nat):0<=dv (l.take i)∧dv (l.take i)<pw i:=by
 have h1:=np (h.take i)
 have h2:=pG (show (l.take i).length<=i by rw[adA];omega)
 exact⟨cp (h.take i),by omega⟩
theorem VF {a b:List Int} (ha:Dg a) (hb:Dg b) {k:Nat} (he:dv (a.drop (k+1))=dv (b.drop (k+1))) (hlt:gd a k<gd b k):dv a<dv b:=by
 have ea:=FO a k
 have eb:=FO b k
 rw[wB]at ea eb
 have la:=B4 ha k
 have lb:=B4 hb k
 have hp:=mh k
 have:pw k*(gd a k+1048576*dv (a.drop (k+1))+1)<=pw k*(gd b k+1048576*dv (b.drop (k+1))):=afk (by omega) (by omega)
 rw[afl _ _ 1,afj]at this
 omega
theorem Zt {a b:List Int} (ha:Dg a) (hb:Dg b) (hfa:Fit a) (hfb:Fit b):m0 a b=some (decide (dv a<dv b)):=by
 unfold Fit at hfa hfb
 generalize hm:max a.length b.length=m
 have em:(if (b.length:Int)>(a.length:Int) then (b.length:Int) else (a.length:Int))=(m:Int):=by split<;>omega
 have key:∃r,aX (pN a b) ((m:Int)-1)=some r∧(match r with | .inl _=>¬dv a<dv b | .inr x=>x=decide (dv a<dv b)):=by
  refine cw (I:=fun i s=>s=((m-i:Nat):Int)-1∧dv (a.drop (m-i))=dv (b.drop (m-i))) m _ ⟨rfl,?_⟩ (iW (by omega)) ?_
  ·rw[aeZ (by omega),aeZ (by omega)]
  rintro i s hi ⟨rfl,he⟩
  generalize hk:m-i=k at *
  simp only[pN]
  by_cases h0:0<k
  ·have ek:((k:Int)-1)=((k-1:Nat):Int):=by omega
   rw[ek,if_pos (by simp),xj,aeL,xj,aeL]
   rw[show k=k-1+1 by omega]at he
   by_cases hx:gd a (k-1)=gd b (k-1)
   ·left
    rw[if_neg (by simpa using hx)]
    refine⟨by omega,_,rfl,by rw[gK (by omega)];omega,?_⟩
    rw[show m-(i+1)=k-1 by omega,wB,wB b,hx,he]
   ·right
    rw[if_pos (by simpa using hx)]
    refine⟨.inr (decide (gd a (k-1)<gd b (k-1))),rfl,?_⟩
    rcases Int.lt_or_gt_of_ne hx with h|h
    ·have:=VF ha hb he h
     simp[h,this]
    ·have:=VF hb ha he.symm h
     have h1:¬gd a (k-1)<gd b (k-1):=by omega
     have h2:¬dv a<dv b:=by omega
     simp[h1,h2]
  ·right
   have:k=0:=by omega
   subst this
   refine⟨.inl (),by rw[if_neg (by simp)],?_⟩
   simp only[aeB]at he
   omega
 obtain⟨r,h1,h2⟩:=key
 unfold m0
 rw[em,gK (x:=(m:Int)-1) (by omega),h1,aeL]
 cases r with
 | inl u=>simp only at h2 ⊢;simp[h2]
 | inr x=>simp only at h2 ⊢;rw[h2]
theorem aai {a b:List Int} (ha:Dg a) (hb:Dg b) (hf:Fit a) (hab:b.length<=a.length) (hle:dv b<=dv a):kR a b=some (aF (dv a-dv b).toNat):=by
 unfold Fit at hf
 have key:∃l,aX (nQ a b) (0,0,[])=some l∧l.length=a.length∧Dg l∧dv l=dv a-dv b:=by
  refine cw (I:=fun i s=>s.2.1=(i:Int)∧s.2.2.length=i∧Dg s.2.2∧(0<=s.1∧s.1<=1)∧dv s.2.2+dv (b.take i)=dv (a.take i)+pw i*s.1)
   a.length _ ⟨rfl,rfl,Dg.nil,by simp,by simp[dv]⟩ (iW (by omega)) ?_
  rintro i ⟨c,s,l⟩ hi ⟨h1,hl,hd,hc,he⟩
  simp only at h1 hl hd hc he
  subst h1
  simp only[nQ]
  by_cases hlt:i<a.length
  ·left
   have ga:=ha.get hlt
   have gb:=Gf hb i
   rw[if_pos (by simpa using hlt),bQ hlt,aeL,xj,aeL,gK (x:=a[i]-gd b i) (by omega),gK (x:=a[i]-gd b i-c) (by omega)]
   have e1:IntKind.i64.wrap ((i:Int)+1)=((i+1:Nat):Int):=by rw[gK (by omega)];omega
   by_cases hn:a[i]-gd b i-c<0
   ·rw[if_pos (by simpa using hn),gK (by omega),xd (by simp;omega),aeL]
    refine⟨hlt,_,rfl,e1,by simp[hl],hd.append (Dg.mk (by omega) Dg.nil),by simp,?_⟩
    simp only
    rw[fA,pB,ff hlt,hl,Su]
    simp only[dv,afA,afE,afj]
    rw[afl,afr,afr]
    omega
   ·rw[if_neg (by simpa using hn),xd (by simp;omega),aeL]
    refine⟨hlt,_,rfl,e1,by simp[hl],hd.append (Dg.mk (by omega) Dg.nil),by simp,?_⟩
    simp only
    rw[fA,pB,ff hlt,hl]
    simp only[dv,afA,afE]
    rw[afr,afr]
    omega
  ·right
   have hia:i=a.length:=by omega
   subst hia
   refine⟨l,by rw[if_neg (by simp)],hl,hd,?_⟩
   rw[wF hab,afg]at he
   have h1:=np hd
   rw[hl]at h1
   have hc0:c=0:=by
    rcases (show c=0∨c=1 by omega) with h|h
    ·exact h
    ·subst h;omega
   subst hc0
   omega
 obtain⟨l,h1,h2,h3,h4⟩:=key
 unfold kR
 rw[h1,aeL,mW,S0 (by unfold Fit;omega) h3,h4]
theorem Np {n R:Nat} (hn:n≠0) (hfn:(aF n).length<=17592186043904) (hfR:(aF R).length<=17592186043906) (hR:R<1048576*n):aX (m6 (aF n) (aF R)) (0,1048576)=some ((R / n:Nat):Int):=by
 have key:∃r,aX (m6 (aF n) (aF R)) (0,1048576)=some r∧r=((R / n:Nat):Int):=by
  refine oK (I:=fun (s:Int×Int)=>∃lo hi:Nat,s=((lo:Int),(hi:Int))∧lo<hi∧hi<=1048576∧lo*n<=R∧R<hi*n) (μ:=fun (s:Int×Int)=>(s.2-s.1).toNat) _ ⟨0,1048576,rfl,by omega,by omega,by omega,hR⟩ (by simp only;unfold FU;omega) ?_
  rintro _ ⟨lo,hi,rfl,h1,h2,h3,h4⟩
  simp only[m6]
  rw[gK (x:=(hi:Int)-lo) (by omega)]
  by_cases hgo:(hi:Int)-lo>1
  ·left
   have em:((lo:Int)+hi) / 2=(((lo+hi) / 2:Nat):Int):=by omega
   have hd:Dg [(((lo+hi) / 2:Nat):Int)]:=Dg.mk (by omega) Dg.nil
   have ed:dv (aF n)*dv [(((lo+hi) / 2:Nat):Int)]=((n*((lo+hi) / 2):Nat):Int):=by rw[bf,aef];simp[dv]
   rw[if_pos (by simpa using hgo),gK (x:=(lo:Int)+hi) (by omega),X4 (by omega) (by omega) (by omega),aeL,em,Xy (bY n) hd (by simp;omega),aeL,ed,aeg]
   have hfl:(aF (n*((lo+hi) / 2))).length<=17592186043905:=by
    have:((n*((lo+hi) / 2):Nat):Int)<pw ((aF n).length+1):=by
     rw[jJ,aef]
     have a1:=eX n
     have:(n:Int)*((lo+hi) / 2:Nat)<=n*1048576:=afk (by omega) (by omega)
     omega
    have:=gm this
    omega
   rw[Zt (bY R) (bY _) (by unfold Fit;omega) (by unfold Fit;omega),aeL,bf,bf]
   by_cases hc:R<n*((lo+hi) / 2)
   ·rw[if_pos (decide_eq_true (by omega))]
    refine⟨_,rfl,⟨lo,(lo+hi) / 2,rfl,by omega,by omega,h3,by rw[aee];exact hc⟩,by simp only;omega⟩
   ·rw[if_neg (by rw[decide_eq_true_eq];omega)]
    refine⟨_,rfl,⟨(lo+hi) / 2,hi,rfl,by omega,by omega,by rw[aee];omega,h4⟩,by simp only;omega⟩
  ·right
   refine⟨_,by rw[if_neg (by simpa using hgo)],?_⟩
   have:hi=lo+1:=by omega
   subst this
   congr 1
   have:R / n=lo:=by
    apply Nat.div_eq_of_lt_le
    ·exact h3
    ·exact h4
   exact this.symm
 obtain⟨r,h1,rfl⟩:=key
 exact h1
theorem abh {m n:Nat} (hn:n≠0) (hfm:(aF m).length<=17592186043904) (hfn:(aF n).length<=17592186043904):m5 (aF m) (aF n)=some (aF (m / n),aF (m % n)):=by
 generalize ha:aF m=a at *
 have hda:Dg a:=by rw[<- ha];exact bY m
 have key:∃r,aX (pO a (aF n)) ([],(a.length:Int)-1,List.replicate a.length 0)=some r∧r.2.length=a.length∧Dg r.2∧∃R:Nat,r.1=aF R∧R<n∧dv a=n*dv r.2+R:=by
  refine cw (I:=fun i s=>s.2.1=((a.length-i:Nat):Int)-1∧s.2.2.length=a.length∧Dg s.2.2∧∃R:Nat,s.1=aF R∧R<n∧dv (a.drop (a.length-i))=n*dv (s.2.2.drop (a.length-i))+R)
   a.length _ ⟨rfl,by simp,Dg.rep _,0,cn.symm,by omega,by simp[dv]⟩ (iW (by omega)) ?_
  rintro i ⟨r,s,l⟩ hi ⟨h1,hl,hg,R,h2,hR,he⟩
  simp only at h1 hl hg h2 he
  subst h1 h2
  generalize hk:a.length-i=k at *
  simp only[pO]
  by_cases h0:0<k
  ·left
   have hk1:k-1<a.length:=by omega
   have hk2:k-1<l.length:=by omega
   have ek:((k:Int)-1)=((k-1:Nat):Int):=by omega
   have ga:=hda.get hk1
   have hRl:=cr (show R<=n by omega)
   have hdR:Dg ([a[k-1]]++aF R):=(Dg.mk ga Dg.nil).append (bY R)
   obtain⟨X,hX⟩:∃X:Nat,a[k-1]+1048576*(R:Int)=X:=⟨(a[k-1]+1048576*(R:Int)).toNat,by omega⟩
   have hXn:X<1048576*n:=by omega
   have hXl:(aF X).length<=17592186043906:=by
    have:(X:Int)<pw ((aF n).length+1):=by
     rw[jJ]
     have a1:=eX n
     omega
    have:=gm this
    omega
   rw[ek,if_pos (by simp),bQ hk1,aeL,xd (by simp;omega),aeL,DV (n:=X) (by unfold Fit;simp;omega) hdR (by rw[fA,bf];simp only[dv,List.length_cons,List.length_nil];rw[show pw (0+1)=1048576 by decide];omega),aeL,Np hn hfn hXl hXn,aeL,bQ hk2,aeL]
   have hq:X / n<1048576:=Nat.div_lt_of_lt_mul (by rw[aee];exact hXn)
   have hq0:(0:Int)<=((X / n:Nat):Int):=Int.natCast_nonneg _
   rw[DV (n:=X / n) (by simp[Fit]) (Dg.mk (by omega) Dg.nil) (by simp[dv]),aeL]
   have hql:(aF (X / n)).length<=1:=gm (by rw[jJ,nO];omega)
   have hprod:(dv (aF n)*dv (aF (X / n))).toNat=n*(X / n):=by rw[bf,bf,<- aef];rfl
   rw[Xy (bY _) (bY _) (by omega),aeL,hprod]
   have hle:n*(X / n)<=X:=Nat.mul_div_le X n
   rw[aai (bY _) (bY _) (by unfold Fit;omega) (cr hle) (by rw[bf,bf];omega),aeL,bf,bf]
   have hsub:((X:Int)-(n*(X / n):Nat)).toNat=X % n:=by
    have:=afL X n
    omega
   rw[hsub]
   have e1:IntKind.i64.wrap (((k-1:Nat):Int)-1)=((k-1:Nat):Int)-1:=gK (by omega)
   refine⟨by omega,_,rfl,by rw[e1,show a.length-(i+1)=k-1 by omega],by simpa using hl,hg.set _ (by omega),X % n,rfl,aea _ (by omega),?_⟩
   simp only[Int.toNat_natCast]
   rw[show a.length-(i+1)=k-1 by omega,jw hk1,jw (l:=l.set (k-1) _) (i:=k-1) (by simpa using hk2),show k-1+1=k by omega,List.getElem_set_self,List.drop_set_of_lt (by omega),he,afl,afl]
   have h3:=afL X n
   have e3:(n:Int)*(1048576*dv (l.drop k))=1048576*(n*dv (l.drop k)):=afy _ _ _
   rw[e3,<- aef n (X / n)]
   omega
  ·right
   have:k=0:=by omega
   subst this
   refine⟨(aF R,l),by rw[if_neg (by simp)],hl,hg,R,rfl,hR,?_⟩
   simpa using he
 obtain⟨⟨r,l⟩,h1,h2,h3,R,h4,h5,h6⟩:=key
 simp only at h2 h3 h4 h6
 unfold m5
 rw[mk0 (by omega),aeL,gK (x:=(a.length:Int)-1) (by omega),h1,aeL]
 simp only
 rw[<- ha,bf]at h6
 have hl0:=cp h3
 obtain⟨Q,hQ⟩:∃Q:Nat,dv l=Q:=⟨(dv l).toNat,by omega⟩
 rw[hQ]at h6
 have hm:m=n*Q+R:=by
  have:((m:Nat):Int)=((n*Q+R:Nat):Int):=by rw[Int.natCast_add,aef];exact h6
  omega
 have e1:m / n=Q:=by rw[hm,Nat.mul_add_div (by omega),afD h5,adQ]
 have e2:m % n=R:=by rw[hm,Nat.mul_add_mod,aec h5]
 rw[DV (n:=Q) (by unfold Fit;omega) h3 hQ,aeL,h4,e1,e2]
theorem TB {a b:Nat} (ha:(aF a).length<=iN) (hb:(aF b).length<=iN):aX oQ (aF a,aF b)=some (aF (Nat.gcd a b)):=by
 have hL:iN=17592186043904:=rfl
 have key:∃r,aX oQ (aF a,aF b)=some r∧r=aF (Nat.gcd a b):=by
  have la:=R7 (eX a)
  have lb:=R7 (eX b)
  let val:List Int->Nat:=fun l=>(dv l).toNat
  have hval:∀n,val (aF n)=n:=fun n=>by show (dv (aF n)).toNat=n;rw[bf];rfl
  refine oK (I:=fun (s:List Int×List Int)=>∃x y,s=(aF x,aF y)∧Nat.gcd x y=Nat.gcd a b∧(aF x).length<=iN∧(aF y).length<=iN)
   (μ:=fun (s:List Int×List Int)=>lg (val s.1)+lg (val s.2)+(if val s.1<val s.2 then 1 else 0)) _ ⟨a,b,rfl,rfl,ha,hb⟩ (by simp only[hval];unfold FU;split<;>omega) ?_
  rintro _ ⟨x,y,rfl,hg,hx,hy⟩
  simp only[oQ]
  by_cases h0:y=0
  ·right
   subst h0
   refine⟨_,by rw[cn,if_neg (by simp)],?_⟩
   rw[<- hg,afJ]
  ·left
   have hne:0<(aF y).length:=ae4.2 (fun h=>h0 (qg.1 h))
   rw[if_pos (by simpa using hne),abh h0 (by omega) (by omega),aeL]
   have hlt:=aea x (afK h0)
   refine⟨_,rfl,⟨y,x % y,rfl,?_,hy,?_⟩,?_⟩
   ·rw[<- hg,Nat.gcd_comm y,<- Nat.gcd_rec,Nat.gcd_comm]
   ·have:=cr (Nat.mod_le x y);omega
   ·simp only[hval]
    rw[if_neg (by omega)]
    by_cases hxy:x<y
    ·rw[if_pos hxy,aec hxy];omega
    ·rw[if_neg hxy]
     have:lg (x % y)<lg x:=by
      apply Zv
      have h1:=afL x y
      have h2:1<=x / y:=(Nat.one_le_div_iff (by omega)).2 (by omega)
      have h3:y*1<=y*(x / y):=Nat.mul_le_mul_left _ h2
      omega
     omega
 obtain⟨r,h1,rfl⟩:=key
 exact h1
theorem ach {x y:Int} (hx:Ln x<=iN) (hy:Ln y<=iN):pM (eS x) (eS y)=some (eS (Int.gcd x y),0):=by
 have hL:iN=17592186043904:=rfl
 unfold pM
 rw[vk (by omega),aeL]
 simp only[aeC,adR,if_false]
 rw[vk (by omega),aeL,aeL]
 simp only[aeC,adR,if_false]
 have hxd:(eS x).aa=aF x.natAbs:=rfl
 have hyd:(eS y).aa=aF y.natAbs:=rfl
 rw[hxd,hyd]
 have fx:(aF x.natAbs).length<=17592186043904:=by show Ln x<=_;omega
 have fy:(aF y.natAbs).length<=17592186043904:=by show Ln y<=_;omega
 have fg:(aF (Nat.gcd x.natAbs y.natAbs)).length<=17592186043904:=by
  by_cases h:y.natAbs=0
  ·rw[h,afJ];exact fx
  ·have:=cr (afM x.natAbs (afK h));omega
 have hgn:Nat.gcd x.natAbs y.natAbs=((Int.gcd x y:Nat):Int).natAbs:=rfl
 rw[TB (by omega) (by omega),aeL,PN (x:=(Int.gcd x y:Int)) hgn ?_ (fun _=>by omega),aeL]
 intro h
 rw[afH (by omega)]
theorem Wq {x:Int} (hx : -9223372036854775808<=x∧x<9223372036854775808):∃l,aX vg (x,[])=some l∧Dg l∧dv l=x.natAbs∧l.length<=5:=by
 refine oK (I:=fun (s:Int×List Int)=>Dg s.2∧dv s.2+pw s.2.length*s.1.natAbs=x.natAbs∧s.2.length<=5∧(s.1=0∨s.2.length<5)) (μ:=fun (s:Int×List Int)=>s.1.natAbs) _ ⟨Dg.nil,by simp[dv,nO],by simp,by simp⟩ (by simp only;unfold FU;omega) ?_
 rintro⟨u,l⟩ ⟨hd,h2,h3,h5⟩
 simp only at hd h2 h3 h5
 have hp:=mh l.length
 have hdl:=cp hd
 have hu:(u.natAbs:Int)<=x.natAbs:=by
  have:1*(u.natAbs:Int)<=pw l.length*u.natAbs:=afC (by omega) (by omega)
  omega
 simp only[vg]
 by_cases h0:u≠0
 ·left
  have hl4:l.length<4:=by
   rcases ad2 l.length 4 with h|h
   ·exact h
   ·have h4:l.length=4:=by omega
    rw[h4,pw4]at h2
    omega
  have hm:yZ .i64 u 1048576=some (u.tmod 1048576):=by unfold yZ;rw[if_neg (by decide)]
  have hq:yJ .i64 u 1048576=some (u.tdiv 1048576):=by
   unfold yJ
   have:(u.tdiv 1048576).natAbs=u.natAbs / 1048576:=Int.natAbs_tdiv u 1048576
   rw[if_neg (by decide),gK (by omega)]
  have ha:(u.tmod 1048576).natAbs=u.natAbs % 1048576:=Int.natAbs_tmod u 1048576
  have hb:(u.tdiv 1048576).natAbs=u.natAbs / 1048576:=Int.natAbs_tdiv u 1048576
  have hpd:=tS l.length (u.natAbs:Int)
  rw[if_pos (by simpa using h0),hm,aeL]
  have fin:∀d:Int,d=((u.natAbs % 1048576:Nat):Int)->(Dg (l++[d])∧dv (l++[d])+pw (l++[d]).length*((u.tdiv 1048576).natAbs:Int)=x.natAbs∧(l++[d]).length<=5∧(u.tdiv 1048576=0∨(l++[d]).length<5))∧(u.tdiv 1048576).natAbs<u.natAbs:=by
   rintro d rfl
   refine⟨⟨hd.append (Dg.mk (by omega) Dg.nil),?_,by simp;omega,by right;simp;omega⟩,by omega⟩
   rw[hb]
   simp only[fA,dv,aej,List.length_cons,List.length_nil,afA,afE,ad4]
   rw[Int.natCast_emod,Int.natCast_ediv]
   have:((1048576:Nat):Int)=1048576:=rfl
   rw[this]
   omega
  by_cases hneg:u.tmod 1048576<0
  ·rw[if_pos (by simpa using hneg),gK (x:=0-u.tmod 1048576) (by omega),xd (by simp;omega),aeL,hq,aeL]
   have:=fin (0-u.tmod 1048576) (by omega)
   exact⟨_,rfl,this.1,this.2⟩
  ·rw[if_neg (by simpa using hneg),xd (by simp;omega),aeL,hq,aeL]
   have:=fin (u.tmod 1048576) (by omega)
   exact⟨_,rfl,this.1,this.2⟩
 ·right
  have:u=0:=by omega
  subst this
  refine⟨l,by rw[if_neg (by simp)],hd,?_,h3⟩
  simp at h2
  omega
theorem Of4 {x:Int} (h : -9223372036854775808<=x∧x<9223372036854775808):sa x=some (eS x):=by
 unfold sa
 by_cases h0:x=0
 ·subst h0;rw[CU];rfl
 ·have hT:(if decide (x<0)=true then some (-1:Int) else some 1)=some x.sign:=by
   rcases gA x with⟨a,b,c⟩|⟨a,b,c⟩|⟨a,b⟩
   ·rw[if_neg (by simp;omega),a]
   ·rw[if_pos (by simp;omega),a]
   ·exact absurd b h0
  obtain⟨l,h1,h2,h3,h4⟩:=Wq h
  rw[if_neg (by simpa using h0),hT,aeL,h1,aeL,mW,Sa x (by unfold Fit;omega) h2 h3 (fun _=>rfl)]
instance:DecidableEq al:=fun a b=>decidable_of_iff (a.ag=b.ag∧a.aa=b.aa) (by cases a;cases b;simp)
instance:DecidableEq ak:=fun a b=>decidable_of_iff (a.aL=b.aL∧a.aM=b.aM) (by cases a;cases b;simp)
theorem Ue {b c:al} (hf:Fit b.aa) (hl:b.aa.length=c.aa.length):∃r,aX (lN b c) 0=some r∧(match r with | .inl _=>b.aa=c.aa | .inr x=>x=false∧b.aa≠c.aa):=by
 refine cw (I:=fun i s=>s=(i:Int)∧b.aa.take i=c.aa.take i) b.aa.length _ ⟨rfl,by simp⟩ (iW hf) ?_
 unfold Fit at hf
 rintro i s hi ⟨rfl,he⟩
 simp only[lN]
 by_cases hlt:i<b.aa.length
 ·rw[if_pos (by simpa using hlt),bQ hlt,aeL,bQ (by omega),aeL]
  by_cases hx:b.aa[i]=c.aa[i]
  ·left
   rw[if_neg (by simpa using hx)]
   refine⟨hlt,_,rfl,by rw[gK (by omega)];omega,?_⟩
   rw[afn,afn,he]
   simp[hlt,show i<c.aa.length by omega,hx]
  ·right
   rw[if_pos (by simpa using hx)]
   refine⟨.inr false,rfl,rfl,fun h=>hx ?_⟩
   simp[h]
 ·right
  have:i=b.aa.length:=by omega
  subst this
  refine⟨.inl (),by rw[if_neg (by simp)],?_⟩
  rw[afg,aeA (by omega)]at he
  exact he
theorem Je {b c:al} (hf:Fit b.aa):ic b c=some (decide (b=c)):=by
 have hiff:b=c↔b.ag=c.ag∧b.aa=c.aa:=by cases b;cases c;simp
 unfold ic
 by_cases h1:b.ag=c.ag
 ·rw[if_neg (by simpa using h1),aeL]
  by_cases h2:b.aa.length=c.aa.length
  ·rw[if_neg (by simp;omega)]
   obtain⟨r,h3,h4⟩:=Ue hf h2
   rw[h3,aeL]
   cases r with
   | inl u=>simp only at h4 ⊢;simp[hiff,h1,h4]
   | inr x=>simp only at h4 ⊢;simp[hiff,h1,h4.1,h4.2]
  ·rw[if_pos (by simp;omega)]
   have:b≠c:=fun h=>h2 (by rw[h])
   simp[this]
 ·rw[if_pos (by simpa using h1),aeL,if_pos rfl]
  have:b≠c:=fun h=>h1 (by rw[h])
  simp[this]
theorem abn {b c:al} (hf:Fit b.aa):qv b c=some (decide (b=c)):=Je hf
theorem abo {f g:ak} (hp:Fit f.aL.aa) (hq:Fit f.aM.aa):lM f g=some (decide (f=g)):=by
 have hiff:f=g↔f.aL=g.aL∧f.aM=g.aM:=by cases f;cases g;simp
 unfold lM
 rw[Je hp,aeL]
 by_cases h:f.aL=g.aL
 ·rw[if_pos (by simpa using h),Je hq,aeL];simp[hiff,h]
 ·rw[if_neg (by simpa using h)];simp[hiff,h]
theorem Uv {x y:Int} (hx:Ln x<=iN) (hy:Ln y<=iN):jn (eS x) (eS y)=some (kn x y):=by
 have hL:iN=17592186043904:=rfl
 unfold jn
 rw[vk (by omega),aeL]
 simp only[aeC,adR,if_false]
 rw[vk (by omega),aeL]
 simp only[aeC,adR,if_false]
 have fx:(aF x.natAbs).length<=17592186043904:=by show Ln x<=_;omega
 have fy:(aF y.natAbs).length<=17592186043904:=by show Ln y<=_;omega
 rw[abn (by unfold Fit;show Ln x<=_;omega),aeL,aeL]
 have hxd:(eS x).aa=aF x.natAbs:=rfl
 have hyd:(eS y).aa=aF y.natAbs:=rfl
 have hxs:(eS x).ag=x.sign:=rfl
 have hys:(eS y).ag=y.sign:=rfl
 by_cases he:x=y
 ·subst he
  rw[if_pos (by simp)]
  simp[kn]
 ·rw[if_neg (by simp only[decide_eq_true_eq];exact fun h=>he (IT h)),hxd,hyd,hxs,hys]
  by_cases h:x.sign=y.sign
  ·rw[if_neg (by simpa using h),Zt (bY _) (bY _) (by unfold Fit;omega) (by unfold Fit;omega),aeL,bf,bf]
   have hc:kn x y=if x<y then -1 else 1:=by
    unfold kn
    split
    ·rfl
    ·rw[if_pos (by omega)]
   rcases gA x with⟨a,b,c⟩|⟨a,b,c⟩|⟨a,b⟩<;>rcases gA y with⟨a',b',c'⟩|⟨a',b',c'⟩|⟨a',b'⟩<;>(try (rw[a,a']at h;exact absurd h (by decide)))
   ·rw[a,hc]
    by_cases hlt:x<y
    ·have h1:(x.natAbs:Int)<y.natAbs:=by omega
     rw[if_pos hlt,decide_eq_true h1];rfl
    ·have h1:¬(x.natAbs:Int)<y.natAbs:=by omega
     rw[if_neg hlt,decide_eq_false h1];rfl
   ·rw[a,hc]
    by_cases hlt:x<y
    ·have h1:¬(x.natAbs:Int)<y.natAbs:=by omega
     rw[if_pos hlt,decide_eq_false h1];rfl
    ·have h1:(x.natAbs:Int)<y.natAbs:=by omega
     rw[if_neg hlt,decide_eq_true h1];rfl
   ·exact absurd (b.trans b'.symm) he
  ·rw[if_pos (by simpa using h)]
   unfold kn
   rcases gA x with⟨a,b,c⟩|⟨a,b,c⟩|⟨a,b⟩<;>rcases gA y with⟨a',b',c'⟩|⟨a',b',c'⟩|⟨a',b'⟩<;>(try (exact absurd (a.trans a'.symm) h))<;>rw[a,a']<;>(try rw[if_pos (show x<y by omega)])<;>(try rw[if_neg (show ¬x<y by omega),if_pos (show y<x by omega)])<;>rfl
theorem ZR {f:ak} (hf:S5 f):kT f=some (okF f):=by
 have hL:iN=17592186043904:=rfl
 obtain⟨p,q⟩:=f
 simp only[S5]at hf
 unfold kT okF
 rw[P8 (show Fit p.aa by unfold Fit;omega),aeL]
 by_cases h1:okB p=true
 ·simp only[h1,aeC,adR,if_false,aeD]
  rw[P8 (show Fit q.aa by unfold Fit;omega),aeL]
  by_cases h2:okB q=true
  ·simp only[h2,aeC,adR,if_false,aeD,Option.bind_some]
   obtain⟨x,rfl⟩:=rS.1 h1
   obtain⟨y,rfl⟩:=rS.1 h2
   have hys:(eS y).ag=y.sign:=rfl
   by_cases h3:y.sign=1
   ·rw[if_neg (by rw[hys,h3];decide),ach hf.1 hf.2,aeL,Of4 (by decide),aeL]
    have h5:(dv (eS x).aa).toNat=x.natAbs:=by show (dv (aF _)).toNat=_;rw[bf];rfl
    have h6:(dv (eS y).aa).toNat=y.natAbs:=by show (dv (aF _)).toNat=_;rw[bf];rfl
    have hy:0<y.natAbs:=by rcases gA y with⟨a,b,c⟩|⟨a,b,c⟩|⟨a,b⟩<;>omega
    have hgl:Ln (Int.gcd x y:Int)<=iN:=by
     have:=cr (afM x.natAbs hy)
     have h7:(aF y.natAbs).length<=iN:=hf.2
     show (aF (Nat.gcd x.natAbs y.natAbs)).length<=_
     omega
    simp only
    rw[Uv hgl (adj (Ba (by decide)) (by decide)),aeL,h5,h6,hys,h3]
    have hg:Nat.gcd x.natAbs y.natAbs=Int.gcd x y:=rfl
    congr 1
    unfold kn
    by_cases h:Int.gcd x y=1
    ·rw[decide_eq_true (hg.trans h),h];rfl
    ·have h1:¬((Int.gcd x y:Nat):Int)=1:=by omega
     rw[decide_eq_false (fun h'=>h (hg.symm.trans h'))]
     split
     ·rfl
     ·rw[if_pos (by omega)];rfl
   ·have h4:((eS y).ag==1)=false:=by rw[hys];simpa using h3
    rw[if_pos (by rw[hys];have:=sn y;simp;omega),h4]
    rfl
  ·simp only[h2,afe,if_true,Option.bind_some,afd]
 ·simp only[h1,afe,if_true,Option.bind_some,afd]
theorem Z6 (f:ak) (n:Int):nT f n=some (decide ((f.aL.aa.length:Int)<=n∧(f.aM.aa.length:Int)<=n)):=by
 unfold nT
 by_cases h:(f.aL.aa.length:Int)<=n
 ·rw[if_pos (by simpa using h)];simp[h]
 ·rw[if_neg (by simpa using h)];simp[h]
theorem V7 {σ ρ:Type} {body:σ->Option (σ⊕ρ)} {n:Nat} {s s':σ} (h:body s=some (.inl s')):nt body (n+1) s=nt body n s':=by simp only[nt,h]
theorem LX {σ ρ:Type} {body:σ->Option (σ⊕ρ)} {n:Nat} {s:σ} {r:ρ} (h:body s=some (.inr r)):nt body (n+1) s=some r:=by simp only[nt,h]
theorem cG {i:Nat} (h:i<4611686018427387904):IntKind.i64.wrap ((i:Int)+1)=((i+1:Nat):Int):=by rw[wrap64 (by omega) (by omega)];omega
theorem bT {α:Type} {l:List α} {i:Nat} {x:α} (h:l[i]? = some x):P.idx l (i:Int)=some x:=LP (by omega) (by simpa using h)
theorem cy {α:Type} {l:List α} {i:Nat} {x:α} (h:l[i]? = some x):i<l.length:=(adK.1 h).1
theorem drop_cons {α:Type} {l rest:List α} {i:Nat} {x:α} (h:l.drop i=x::rest):i<l.length∧l[i]? = some x∧l.drop (i+1)=rest:=by
 have hi:i<l.length:=by
  rcases ad2 i l.length with h1|h1
  ·exact h1
  ·rw[aeZ h1]at h;cases h
 rw[afa hi]at h
 simp only[adF]at h
 exact⟨hi,by rw[adu hi,h.1],h.2⟩
def je {α ρ:Type} (st:Nat->α->Option ρ):Nat->List α->Option ρ
 | _,[]=>none
 | i,x::l=>match st i x with|some r=>some r|none=>je st (i+1) l
theorem jf {α ρ:Type} {st:Nat->α->Option ρ} : ∀ {l:List α} {i:Nat},je st i l=none↔∀(j:Nat) x,l[j]? = some x->st (i+j) x=none
 | [],i=>by simp[je]
 | x::l,i=>by
  simp only[je]
  constructor
  ·intro h j y hj
   cases hs:st i x with
   | some r=>rw[hs]at h;cases h
   | none =>
    rw[hs]at h
    cases j with
    | zero=>simp only[List.getElem?_cons_zero,adq]at hj;subst hj;exact hs
    | succ j =>
     have:=jf.1 h j y (by simpa using hj)
     rw[<- this];congr 1;omega
  ·intro h
   have h0:=h 0 x rfl
   simp only[Nat.add_zero]at h0
   rw[h0]
   refine jf.2 fun j y hj =>?_
   have:=h (j+1) y (by simpa using hj)
   rw[<- this];congr 1;omega
theorem kI {α ρ:Type} {st:Nat->α->Option ρ} {r:ρ} : ∀ {l:List α} {i:Nat},je st i l=some r->∃(j:Nat) (x:α),l[j]? = some x∧st (i+j) x=some r∧∀(k:Nat) y,k<j->l[k]? = some y->st (i+k) y=none
 | [],i,h=>by cases h
 | x::l,i,h=>by
  simp only[je]at h
  cases hs:st i x with
  | some r' =>
   rw[hs]at h
   exact⟨0,x,rfl,by rw[adQ,hs];exact h,fun k y hk=>by omega⟩
  | none =>
   rw[hs]at h
   obtain⟨j,y,h1,h2,h3⟩:=kI h
   refine⟨j+1,y,by simpa using h1,by rw[<- h2];congr 1;omega,fun k z hk hz =>?_⟩
   cases k with
   | zero=>simp only[List.getElem?_cons_zero,adq]at hz;subst hz;exact hs
   | succ k =>
    have:=h3 k z (by omega) (by simpa using hz)
    rw[<- this];congr 1;omega
theorem Hn {α ρ:Type} (l:List α) {body:Int->Option (Int⊕(Unit⊕ρ))} (st:Nat->α->Option ρ) (hlen:l.length<4611686018427387904)
  (hb:∀(i:Nat) x,l[i]? = some x->body (i:Int)=some (match st i x with|none =>.inl ((i+1:Nat):Int)|some r =>.inr (.inr r))) (he:body (l.length:Int)=some (.inr (.inl ()))) :
  aX body 0=some (match je st 0 l with|none =>.inl ()|some r =>.inr r):=by
 have key:∀(rest:List α) (i fuel:Nat),i<=l.length->l.drop i=rest->rest.length<fuel->nt body fuel (i:Int)=some (match je st i rest with|none =>.inl ()|some r =>.inr r):=by
  intro rest
  induction rest with
  | nil =>
   intro i fuel hi hd hf
   obtain⟨f,rfl⟩:∃f,fuel=f+1:=⟨fuel-1,by simp at hf;omega⟩
   have hle:l.length<=i:=by
    have:=congrArg List.length hd
    simp at this
    omega
   have:i=l.length:=by omega
   subst this
   rw[LX he]
   rfl
  | cons x rest ih =>
   intro i fuel hi hd hf
   obtain⟨f,rfl⟩:∃f,fuel=f+1:=⟨fuel-1,by simp at hf;omega⟩
   obtain⟨h1,h2,h3⟩:=drop_cons hd
   have:=hb i x h2
   cases hs:st i x with
   | some r =>
    rw[hs]at this
    rw[LX this]
    simp only[je,hs]
   | none =>
    rw[hs]at this
    rw[V7 this,ih (i+1) f h1 h3 (by simp at hf;omega)]
    simp only[je,hs]
 exact key l 0 FU (adi _) rfl (by have:FU=1000000000000000000000000:=rfl;omega)
theorem yP {α σ ρ:Type} {body:Int×σ->Option ((Int×σ)⊕ρ)} (l:List α) (hl:l.length<=17592186044416) (inv:Nat->σ->Prop) (Q:ρ->Prop) {s0:σ} (h0:inv 0 s0)
  (hstep:∀(i:Nat) x s,l[i]? = some x->inv i s->∃s',body ((i:Int),s)=some (.inl (((i+1:Nat):Int),s'))∧inv (i+1) s')
  (hend:∀s,inv l.length s->∃r,body ((l.length:Int),s)=some (.inr r)∧Q r):∃r,aX body ((0:Int),s0)=some r∧Q r:=by
 refine cw (fun i s=>s.1=(i:Int)∧inv i s.2) l.length Q ⟨rfl,h0⟩ (iW hl) ?_
 rintro i ⟨k,s⟩ hi ⟨rfl,hI⟩
 rcases ad2 i l.length with h|h
 ·obtain⟨s',h1,h2⟩:=hstep i _ s (adu h) hI
  exact .inl ⟨h,_,h1,rfl,h2⟩
 ·have:i=l.length:=by omega
  subst this
  exact .inr (hend s hI)
theorem bS {α:Type} {N j:Nat} (f:Nat->α) (h:j<N):((List.range N).map f)[j]? = some (f j):=by simp[h]
theorem y7 {α:Type} {N:Nat} (f:Nat->α):((List.range N).map f).length=N:=by simp
theorem gD {α:Type} {l:List α} {N:Nat} {f:Nat->α} (hl:l.length=N) (h:∀j,j<N->l[j]? = some (f j)):l=(List.range N).map f:=by
 apply afh
 intro j
 by_cases hj:j<N
 ·rw[h j hj,bS f hj]
 ·rw[aeN (by omega),aeN (by simp;omega)]
theorem fB {α:Type} {N i:Nat} (f:Nat->α) (v:α):((List.range N).map f).set i v=(List.range N).map fun j=>if j=i then v else f j:=by
 refine gD (by simp) fun j hj =>?_
 rw[List.getElem?_set]
 by_cases h:i=j
 ·subst h
  rw[if_pos rfl,if_pos (by simpa using hj)]
  simp
 ·rw[if_neg h,bS f hj,if_neg (fun e=>h e.symm)]
theorem wI {α β:Type} {mk:β->α} {R:β->Prop} : ∀ {l:List α},(∀x∈l,∃y,x=mk y∧R y)->∃ys:List β,l=ys.map mk∧∀y∈ys,R y
 | [],_=>⟨[],rfl,fun _ h=>by cases h⟩
 | x::l,h=>by
  obtain⟨y,h1,h2⟩:=h x (aeH ..)
  obtain⟨ys,h3,h4⟩:=wI (l:=l) fun z hz=>h z (aeI _ hz)
  refine⟨y::ys,by rw[adn,<- h1,<- h3],fun z hz =>?_⟩
  rcases ado.1 hz with rfl|hz
  ·exact h2
  ·exact h4 z hz
theorem I7 {α:Type} {R:α->α->Prop} (ht:∀a b c,R a b->R b c->R a c) {l:List α} (h:∀(i:Nat) a b,l[i]? = some a->l[i+1]? = some b->R a b):l.Pairwise R:=by
 rw[List.pairwise_iff_getElem]
 intro i j hi hj hij
 obtain⟨d,rfl⟩:∃d,j=i+1+d:=⟨j-(i+1),by omega⟩
 clear hij
 induction d with
 | zero=>exact h i _ _ (adu hi) (adu hj)
 | succ d ih=>exact ht _ _ _ (ih (by omega)) (h (i+1+d) _ _ (adu (by omega)) (adu hj))
abbrev Tk:=Nat×Nat×Rat
def tO (t:Tk):dr:=dr.mk (t.1:Int) (t.2.1:Int) (di t.2.2)
def mC (N:Nat) (tk:List Tk):bW:=bW.mk (N:Int) (tk.map tO)
theorem Yp {a b:Tk} (h:tO a=tO b):a=b:=by
 unfold tO at h
 injection h with h1 h2 h3
 exact Prod.ext (by omega) (Prod.ext (by omega) (IU h3))
theorem Se {N M:Nat} {a b:List Tk} (h:mC N a=mC M b):N=M∧a=b:=by
 unfold mC at h
 injection h with h1 h2
 refine⟨by omega,?_⟩
 exact List.map_inj_right (f:=tO) (fun x y h=>Yp h) |>.1 h2
def sS:List Tk->Nat->Rat
 | [],_=>0
 | t::l,p=>(if t.1=p then t.2.2 else 0)+sS l p
theorem No (a b:List Tk) (p:Nat):sS (a++b) p=sS a p+sS b p:=by
 induction a with
 | nil=>rw[aeW,sS,Rat.zero_add]
 | cons t a ih=>rw[ae6,sS,sS,ih];grind
def dQ (tk:List Tk) (p:Nat):Rat:=1-sS tk p
theorem CL {tk:List Tk} {i:Nat} {t:Tk} (h:tk[i]? = some t) (p:Nat):dQ (tk.take (i+1)) p=dQ (tk.take i) p-(if t.1=p then t.2.2 else 0):=by
 obtain⟨hi,he⟩:=adK.1 h
 unfold dQ
 rw[afR hi,No,he]
 simp only[sS]
 grind
theorem HZ {tk:List Tk} {K:Nat} (hs:∀t∈tk,LF t.2.2<=K) (p:Nat):∀i,i<=tk.length->LF (dQ (tk.take i) p)<=1+i*(K+1)
 | 0,_=>by
  have:dQ (tk.take 0) p=((1:Int):Rat):=by unfold dQ;rw[afb,sS];grind
  rw[this]
  exact adj (Om (n:=1) (by decide)) (by omega)
 | i+1,h=>by
  have ih:=HZ hs p i (by omega)
  have hg:tk[i]? = some tk[i]:=adu (by omega)
  rw[CL hg]
  have hk:=hs _ (adt (show i<tk.length by omega))
  rw[aed]
  split
  ·have:=Oq (dQ (tk.take i) p) tk[i].2.2
   omega
  ·rw[show ∀x:Rat,x-0=x by intro x;grind]
   omega
theorem JB {tk:List Tk} {K:Nat} (hs:∀t∈tk,LF t.2.2<=K) (p:Nat):LF (dQ tk p)<=1+tk.length*(K+1):=by
 have:=HZ hs p tk.length (adh _)
 rwa [afg]at this
theorem Gx {α:Type} {N B:Nat} (z:α) (h:N*B<=140737488355328) (h2:N<=2000):D6 B (N:Int) (N:Int) z=some (List.replicate N z):=by
 unfold D6
 have:(2000:Nat)<=maxLen:=by decide
 rw[if_pos ⟨by omega,by omega,by omega,by simpa using h⟩]
 simp
theorem aad:gS 1=some (di 1):=YR (n:=1) (by decide)
theorem Mb {N K:Nat} {tk:List Tk} (hN:N<=2000) (hlen:tk.length<=8000) (hf:∀t∈tk,t.1<N) (hK:K<=1000000) (hs:∀t∈tk,LF t.2.2<=K) :
  kM (mC N tk)=some ((List.range N).map fun p=>di (dQ tk p)):=by
 unfold kM mC
 simp only
 rw[Gx _ (by omega) hN,aeL]
 have h1:∃r,aX (lE (List.replicate N (ak.mk (al.mk 0 []) (al.mk 0 [])))) ((0:Int),List.replicate N (ak.mk (al.mk 0 []) (al.mk 0 [])))=some r∧r=(List.range N).map fun p=>di (dQ (tk.take 0) p):=by
  refine yP (List.replicate N (ak.mk (al.mk 0 []) (al.mk 0 []))) (by simp;omega) (fun i l=>l.length=N∧∀j,j<i->l[j]? = some (di 1)) _ ⟨by simp,fun j hj=>by omega⟩ ?_ ?_
  ·rintro i x l hx ⟨hl,hI⟩
   have hi:i<N:=by have:=cy hx;simpa using this
   have hg:l[i]? = some l[i]:=adu (by omega)
   refine⟨l.set i (di 1),?_,by simpa using hl,fun j hj =>?_⟩
   ·simp only[lE]
    rw[if_pos (by simp;omega),aad,aeL,bT hg,aeL,cG (by omega),aeg]
   ·rw[List.getElem?_set]
    by_cases h:i=j
    ·rw[if_pos h,if_pos (by omega)]
    ·rw[if_neg h];exact hI j (by omega)
  ·rintro l ⟨hl,hI⟩
   refine⟨l,?_,?_⟩
   ·simp only[lE];rw[if_neg (by simp)]
   ·rw[List.length_replicate]at hI
    refine gD hl fun j hj =>?_
    rw[hI j hj,afb]
    congr 2
    unfold dQ sS;grind
 obtain⟨r,h1,rfl⟩:=h1
 rw[h1,aeL]
 have h2:∃r,aX (lF (bW.mk (N:Int) (tk.map tO))) ((0:Int),(List.range N).map fun p=>di (dQ (tk.take 0) p))=some r∧r=(List.range N).map fun p=>di (dQ tk p):=by
  refine yP tk (by omega) (fun i l=>l=(List.range N).map fun p=>di (dQ (tk.take i) p)) _ rfl ?_ ?_
  ·rintro i t _ ht rfl
   have hi:=cy ht
   have hm:=adJ ht
   have hfr:=hf t hm
   have hg:(tk.map tO)[i]? = some (tO t):=by rw[ade,ht];rfl
   refine⟨_,?_,rfl⟩
   simp only[lF]
   have hLF:=HZ hs t.1 i (by omega)
   have hkt:=hs t hm
   have hmul:i*(K+1)<=8000*1000001:=afS (by omega) (by omega)
   rw[if_pos (by simp;omega),bT hg,aeL]
   simp only[tO]
   rw[bT (bS _ hfr),aeL,YY (by unfold fw;omega),aeL,cG (by omega),aeg,fB]
   congr 3
   refine congrArg (fun f=>(List.range N).map f) (funext fun p =>?_)
   rw[CL ht]
   by_cases h:p=t.1
   ·subst h;rw[if_pos rfl,if_pos rfl]
   ·rw[if_neg h,if_neg (fun e=>h e.symm)]
    congr 1;grind
  ·rintro _ rfl
   refine⟨_,?_,rfl⟩
   simp only[lF]
   rw[if_neg (by simp),afg]
 obtain⟨r,h2,rfl⟩:=h2
 rw[h2,aeL]
def XP (a b:Tk):Prop:=a.1<b.1∨(a.1=b.1∧a.2.1<b.2.1)
theorem TM (a b c:Tk) (h:XP a b) (k:XP b c):XP a c:=by unfold XP at *;omega
structure jb (N:Nat) (tk:List Tk):Prop where
 ports:N<=2000
 takes:tk.length<=8000
 ok:∀t∈tk,t.1<N∧t.2.1<N∧0<t.2.2
 sorted:tk.Pairwise XP
 leak:∀p,p<N->0<=dQ tk p
theorem zh (a b c:Int):gE a b c=some (decide (b<=a∧a<=c)):=by
 unfold gE
 by_cases h1:a>=b<;>by_cases h2:a<=c<;>simp[h1,h2]
theorem Td (a b:dr):∃c,ku a b=some c∧(c<0↔(a.cY<b.cY∨(a.cY=b.cY∧a.ko<b.ko))):=by
 unfold ku
 rw[BM,aeL,BM,aeL,YU,aeL]
 refine⟨_,rfl,?_⟩
 unfold kn
 split<;>split<;>(try split)<;>(try split)<;>simp at *<;>omega
theorem AY {q:Rat} : q.num.sign<0↔q<0:=by
 rw[Int.sign_neg_iff,<- Rat.not_le,<- Rat.num_nonneg]
 omega
theorem NN {q:Rat} : q.num.sign=0↔q=0:=by
 rw[Int.sign_eq_zero_iff_zero,Rat.num_eq_zero]
theorem AZ {q:Rat} : 0<q.num.sign↔0<q:=by
 constructor
 ·intro h
  have h1:¬q<0:=fun h'=>by have:=AY.2 h';omega
  have h2:q≠0:=fun h'=>by have:=NN.2 h';omega
  grind
 ·intro h
  have h1:¬q.num.sign<0:=fun h'=>by have:=AY.1 h';grind
  have h2:q.num.sign≠0:=fun h'=>by have:=NN.1 h';grind
  omega
theorem w9 {q:Rat} {k:Nat} (h1:(di q).aL.aa.length<=k) (h2:(di q).aM.aa.length<=k):LF q<=k:=by
 unfold LF Ln
 exact Nat.max_le.2 ⟨h1,h2⟩
theorem AS {q:Rat} {k:Nat} (h:LF q<=k):(di q).aL.aa.length<=k∧(di q).aM.aa.length<=k:=by
 unfold LF Ln at h
 exact Nat.max_le.1 h
theorem BO {l:List Rat} (hl:l.length<=17592186044416) (hs:∀q∈l,LF q<=fw):bt (l.map di)=some (decide (∃q∈l,q<0)):=by
 unfold bt b9
 rw[Hn l (fun i q=>if q<0 then some (i:Int) else none) (by omega) (fun i q hq =>?_) (by simp only[cX];rw[if_neg (by simp)])]
 ·rw[aeL]
  cases hf:je (fun i (q:Rat)=>if q<0 then some (i:Int) else none) 0 l with
  | none =>
   simp only
   rw[aeL,decide_eq_false (by decide),decide_eq_false]
   rintro⟨q,hq,hn⟩
   obtain⟨j,hj⟩:=adD hq
   have:=jf.1 hf j q hj
   rw[if_pos hn]at this
   cases this
  | some r =>
   obtain⟨j,q,h1,h2,_⟩:=kI hf
   by_cases hn:q<0
   ·rw[if_pos hn]at h2
    cases h2
    simp only
    rw[aeL,decide_eq_true (by omega),decide_eq_true ⟨q,adJ h1,hn⟩]
   ·rw[if_neg hn]at h2;cases h2
 ·have hi:=cy hq
  simp only[cX,kL]
  rw[if_pos (by simp;omega),bT (x:=di q) (by rw[ade,hq];rfl),aeL,Oz (hs q (adJ hq)),aeL,aeL]
  by_cases hn:q<0
  ·rw[decide_eq_true (AY.2 hn),if_pos hn];rfl
  ·rw[decide_eq_false (fun h=>hn (AY.1 h)),if_neg hn,cG (by omega)];rfl
def Ua (N:Nat) (x:dr):Bool:=decide (0<=x.cY∧x.cY<=(N:Int)-1)&&decide (0<=x.ko∧x.ko<=(N:Int)-1)&&okF x.bg&&decide (0<x.bg.aL.ag)
def Tc (a b:dr):Prop:=a.cY<b.cY∨(a.cY=b.cY∧a.ko<b.ko)
instance (a b:dr):Decidable (Tc a b):=by unfold Tc;infer_instance
def Cz (N:Nat) (l:List dr) (i:Nat) (x:dr):Bool:=Ua N x&&(decide (i=0)||(match l[i-1]? with|some y=>decide (Tc y x)|none=>false))
theorem Na {N:Nat} {x:dr} : Ua N x=true↔∃t:Tk,x=tO t∧t.1<N∧t.2.1<N∧0<t.2.2:=by
 unfold Ua
 simp only[adS,decide_eq_true_eq]
 constructor
 ·rintro⟨⟨⟨h1,h2⟩,h3⟩,h4⟩
  obtain⟨q,hq⟩:=xP.1 h3
  refine⟨(x.cY.toNat,x.ko.toNat,q),?_,by simp only;omega,by simp only;omega,?_⟩
  ·unfold tO
   cases x
   simp only at *
   rw[<- hq,Int.toNat_of_nonneg h1.1,Int.toNat_of_nonneg h2.1]
  ·rw[hq]at h4
   exact AZ.1 h4
 ·rintro⟨t,rfl,h1,h2,h3⟩
  exact⟨⟨⟨by simp only[tO];omega,by simp only[tO];omega⟩,PQ _⟩,AZ.2 h3⟩
theorem Q9 {a b:Tk} : Tc (tO a) (tO b)↔XP a b:=by
 unfold Tc XP tO
 simp only
 omega
theorem Hg {n:bW} {K:Nat} (hK:K<=1000000) (hs:∀t∈n.av,t.bg.aL.aa.length<=K∧t.bg.aM.aa.length<=K) :
  ∃b,jH n=some b∧(b=true↔∃N tk,n=mC N tk∧jb N tk):=by
 unfold jH
 rw[zh,aeL]
 by_cases hN:0<=n.aG∧n.aG<=2000
 rotate_left
 ·rw[decide_eq_false hN]
  refine⟨false,by simp,?_⟩
  simp only[adR,false_iff]
  rintro⟨N,tk,rfl,h⟩
  have:=h.ports
  simp only[mC]at hN
  omega
 rw[decide_eq_true hN]
 simp only[aeC,adR,if_false,Option.bind_some]
 by_cases hL:(n.av.length:Int)>8000
 ·rw[decide_eq_true hL]
  refine⟨false,by simp,?_⟩
  simp only[adR,false_iff]
  rintro⟨N,tk,rfl,h⟩
  have:=h.takes
  simp only[mC,adL]at hL
  omega
 rw[decide_eq_false hL]
 simp only[adR,if_false]
 obtain⟨N,hNe⟩:∃N:Nat,n.aG=(N:Int):=⟨n.aG.toNat,by omega⟩
 have hwr:IntKind.i64.wrap (n.aG-1)=(N:Int)-1:=by rw[hNe,wrap64 (by omega) (by omega)]
 have hK2:K<=iN:=adj hK (by unfold iN;omega)
 have hscan:=Hn n.av (body:=lD n) (fun i x=>if Cz N n.av i x=true then none else some false) (by omega) (fun i x hx=>by
  have hi:=cy hx
  obtain⟨hs1,hs2⟩:=hs x (adJ hx)
  simp only[lD]
  rw[if_pos (by simp;omega),bT hx,aeL,zh,aeL,hwr]
  have hcond:(if (!decide (0<=x.cY∧x.cY<=(N:Int)-1))=true then some true
   else (gE x.ko 0 ((N:Int)-1)).bind fun r30 =>
    if (!r30)=true then some true
    else (b7 x.bg).bind fun r32=>if (!r32)=true then some true else (iG x.bg).bind fun r34=>some (decide (r34<=0)))=some (!Ua N x):=by
   unfold Ua
   by_cases c1:0<=x.cY∧x.cY<=(N:Int)-1
   rotate_left
   ·rw[decide_eq_false c1];simp
   rw[decide_eq_true c1,zh,aeL]
   by_cases c2:0<=x.ko∧x.ko<=(N:Int)-1
   rotate_left
   ·rw[decide_eq_false c2];simp
   rw[decide_eq_true c2,xc ⟨by omega,by omega⟩,aeL]
   cases hq:okF x.bg with
   | false=>simp
   | true =>
    obtain⟨q,hq⟩:=xP.1 hq
    rw[hq]at hs1 hs2 ⊢
    have hLF:=w9 hs1 hs2
    rw[Oz (by unfold fw;omega),aeL]
    have:(di q).aL.ag=q.num.sign:=rfl
    rw[this]
    by_cases c3:q.num.sign<=0
    ·rw[decide_eq_true c3,decide_eq_false (show ¬0<q.num.sign by omega)];simp
    ·rw[decide_eq_false c3,decide_eq_true (show 0<q.num.sign by omega)];simp
  rw[hcond,aeL]
  unfold Cz
  cases hok:Ua N x with
  | false=>simp
  | true =>
   simp only[aeC,adR,if_false,aeD]
   cases i with
   | zero=>rw[if_neg (by simp),cG (by omega)];simp
   | succ i =>
    rw[if_pos (by simp)]
    have hg:n.av[i]? = some n.av[i]:=adu (by omega)
    have e1:IntKind.i64.wrap (((i+1:Nat):Int)-1)=(i:Int):=by rw[wrap64 (by omega) (by omega)];omega
    obtain⟨c,hc1,hc2⟩:=Td n.av[i] x
    rw[e1,bT hg,aeL,hc1,aeL,ae0,hg]
    simp only[Nat.add_eq_zero_iff,Nat.one_ne_zero,and_false,decide_false,Bool.false_or]
    by_cases hb:Tc n.av[i] x
    ·rw[if_neg (by simp;exact hc2.2 hb),decide_eq_true hb,cG (by omega)];rfl
    ·rw[if_pos (by simp only[decide_eq_true_eq];have:¬c<0:=fun h=>hb (hc2.1 h);omega),decide_eq_false hb];rfl) (by
  unfold lD
  rw[if_neg (by simp)])
 rw[hscan,aeL]
 cases hfs:je (fun i x=>if Cz N n.av i x=true then none else some false) 0 n.av with
 | some r =>
  obtain⟨j,x,h1,h2,_⟩:=kI hfs
  simp only[ad4]at h2
  split at h2
  ·cases h2
  rename_i hbad
  cases h2
  refine⟨false,rfl,?_⟩
  simp only[adR,false_iff]
  rintro⟨M,tk,rfl,hR⟩
  refine hbad ?_
  simp only[mC]at h1 hNe ⊢
  obtain rfl:M=N:=by omega
  rw[ade,adf]at h1
  obtain⟨t,ht,rfl⟩:=h1
  have hm:=adJ ht
  unfold Cz
  rw[Na.2 ⟨t,rfl,hR.ok t hm⟩,aeD]
  cases j with
  | zero=>simp
  | succ j =>
   have hjl:=cy ht
   have hg:tk[j]? = some tk[j]:=adu (by omega)
   rw[ae0,ade,hg]
   simp only[Option.map_some]
   rw[decide_eq_true (Q9.2 ?_),Bool.or_true]
   have:=List.pairwise_iff_getElem.1 hR.sorted j (j+1) (by omega) hjl (by omega)
   rwa [(adK.1 ht).2]at this
 | none =>
  have hall:=jf.1 hfs
  simp only[ad4]at hall
  have hgood:∀(j:Nat) x,n.av[j]? = some x->Cz N n.av j x=true:=fun j x hj=>by
   have:=hall j x hj
   split at this
   ·assumption
   ·cases this
  obtain⟨tk,htk,htk2⟩:=wI (mk:=tO) (R:=fun t=>t.1<N∧t.2.1<N∧0<t.2.2) (l:=n.av) fun x hx=>by
   obtain⟨j,hj⟩:=adD hx
   have:=hgood j x hj
   unfold Cz at this
   rw[adS]at this
   exact Na.1 this.1
  have hn:n=mC N tk:=by
   unfold mC
   rw[<- hNe,<- htk]
  have hsort:tk.Pairwise XP:=I7 TM fun i a b ha hb=>by
   have:=hgood (i+1) (tO b) (by rw[htk,ade,hb];rfl)
   unfold Cz at this
   rw[adS,ae0,htk,ade,ha]at this
   simpa [Q9] using this.2
  have hLF:∀t∈tk,LF t.2.2<=K:=fun t ht=>by
   have:=hs (tO t) (by rw[htk];exact List.mem_map_of_mem ht)
   exact w9 this.1 this.2
  have hlen:tk.length<=8000:=by
   have:=congrArg List.length htk
   rw[adL]at this
   omega
  have hN2:N<=2000:=by omega
  simp only
  rw[hn,Mb hN2 hlen (fun t ht=>(htk2 t ht).1) hK hLF,aeL]
  have hmap:((List.range N).map fun p=>di (dQ tk p))=((List.range N).map fun p=>dQ tk p).map di:=by rw[List.map_map];rfl
  rw[hmap,BO (by simp;omega) (fun q hq=>by
   obtain⟨p,_,rfl⟩:=adg.1 hq
   have:=JB hLF p
   have h2:tk.length*(K+1)<=8000*1000001:=afS hlen (by omega)
   unfold fw;omega),aeL]
  refine⟨_,rfl,?_⟩
  simp only[adT,decide_eq_false_iff_not]
  constructor
  ·intro hno
   refine⟨N,tk,rfl,⟨hN2,hlen,htk2,hsort,fun p hp =>?_⟩⟩
   by_cases h0:dQ tk p<0
   ·exact absurd ⟨_,adg.2 ⟨p,aeS.2 hp,rfl⟩,h0⟩ hno
   ·grind
  ·rintro⟨M,tk',he,hR⟩ ⟨q,hq,hneg⟩
   obtain⟨rfl,rfl⟩:=Se he
   obtain⟨p,hp,rfl⟩:=adg.1 hq
   have:=hR.leak p (aeS.1 hp)
   grind
theorem xM:∀(N:Nat) (l:List Nat),l.Nodup->(∀x∈l,x<N)->l.length<=N
 | 0,l,_,h=>by
  cases l with
  | nil=>simp
  | cons x l=>exact absurd (h x (aeH ..)) (by omega)
 | N+1,l,hn,h=>by
  have h1:=xM N (l.erase N) (hn.erase N) fun x hx=>by
   have h2:=h x (List.mem_of_mem_erase hx)
   have h3:x≠N:=fun e=>by subst e;exact (List.Nodup.mem_erase_iff hn).1 hx |>.1 rfl
   omega
  rw[List.length_erase]at h1
  split at h1<;>omega
def jB (l:List Nat):List Int:=l.map fun (p:Nat)=>(p:Int)
theorem Wn {l:List Nat} {i p:Nat} (h:l[i]? = some p):(jB l)[i]? = some (p:Int):=by unfold jB;rw[ade,h];rfl
theorem mU (l:List Nat):(jB l).length=l.length:=adL ..
def jU (tk:List Tk) (p:Nat):List Nat:=(tk.filter fun t=>decide (t.2.1=p)).map fun t=>t.1
theorem Gw {tk:List Tk} {p q:Nat} : q∈jU tk p↔∃t∈tk,t.1=q∧t.2.1=p:=by
 unfold jU
 simp only[adg,aeO,decide_eq_true_eq]
 constructor
 ·rintro⟨t,⟨h1,h2⟩,h3⟩;exact⟨t,h1,h3,h2⟩
 ·rintro⟨t,h1,h3,h2⟩;exact⟨t,⟨h1,h2⟩,h3⟩
theorem E1 (tk:List Tk) (p:Nat):(jU tk p).length<=tk.length:=by
 unfold jU
 rw[adL]
 exact afT ..
theorem OH {tk:List Tk} {i:Nat} {t:Tk} (h:tk[i]? = some t) (p:Nat):jU (tk.take (i+1)) p=if t.2.1=p then jU (tk.take i) p++[t.1] else jU (tk.take i) p:=by
 obtain⟨hi,he⟩:=adK.1 h
 unfold jU
 rw[afR hi,afU,aeE,he]
 by_cases hc:t.2.1=p
 ·rw[if_pos hc,afV (by simpa using hc)];rfl
 ·rw[if_neg hc,afW (by simpa using hc)];simp
structure od (N:Nat) (tk:List Tk) (r:Nat->Int):Prop where
 ge:∀p,p<N -> -1<=r p
 zero:∀p,p<N->(r p=0↔0<dQ tk p)
 down:∀p,p<N->0<r p->∃t∈tk,t.1=p∧r t.2.1=r p-1
 near:∀t∈tk,0<=r t.2.1->0<=r t.1∧r t.1<=r t.2.1+1
 le:∀p,p<N->r p<=2000
structure BF (N:Nat) (tk:List Tk) (r:Nat->Int) (D Q:List Nat) (h m:Int):Prop where
 nodup:(D++Q).Nodup
 lt:∀p∈D++Q,p<N
 rk:∀p,p<N->(0<=r p↔p∈D++Q)
 ge:∀p,p<N -> -1<=r p
 zero:∀p,p<N->(r p=0↔0<dQ tk p)
 down:∀p,p<N->0<r p->∃t∈tk,t.1=p∧r t.2.1=r p-1
 near:∀t∈tk,t.2.1∈D->0<=r t.1∧r t.1<=r t.2.1+1
 mono:Q.Pairwise fun a b=>r a<=r b
 top:∀p∈D++Q,r p<=h+1
 low:∀q∈Q,h<=r q
 bnd:∀p,p<N->r p<=m
def Un (r:Nat->Int) (q:Nat) (v:Int):Nat->Int:=fun x=>if x=q then v else r x
theorem jL (r:Nat->Int) (q:Nat) (v:Int):Un r q v q=v:=if_pos rfl
theorem gN {r:Nat->Int} {q x:Nat} (v:Int) (h:x≠q):Un r q v x=r x:=if_neg h
theorem BF.pop {N:Nat} {tk:List Tk} {r:Nat->Int} {D Q:List Nat} {p:Nat} {h m:Int} (hB:BF N tk r D (p::Q) h m):BF N tk r D (p::Q) (r p) (m+1)∧0<=r p∧p<N∧r p<=m where
 left:={
  nodup:=hB.nodup,lt:=hB.lt,rk:=hB.rk,ge:=hB.ge,zero:=hB.zero,down:=hB.down,near:=hB.near,mono:=hB.mono
  top:=fun x hx=>by
   have h1:=hB.top x hx
   have h2:=hB.low p (aeH ..)
   omega
  low:=fun q hq=>by
   rcases ado.1 hq with rfl|hq
   ·exact Int.le_refl _
   ·exact (aeP.1 hB.mono).1 q hq
  bnd:=fun x hx=>by have:=hB.bnd x hx;omega }
 right:=by
  have hm:p∈D++p::Q:=adw _ (aeH ..)
  have hp:=hB.lt p hm
  exact⟨(hB.rk p hp).2 hm,hp,hB.bnd p hp⟩
theorem BF.push {N:Nat} {tk:List Tk} {r:Nat->Int} {D Q:List Nat} {p q:Nat} {m:Int} (hB:BF N tk r D (p::Q) (r p) m) (hp0:0<=r p) (hm:r p+1<=m) (hq:q<N) (hr:r q = -1) (ht:∃t∈tk,t.1=q∧t.2.1=p) :
  BF N tk (Un r q (r p+1)) D (p::(Q++[q])) (r p) m∧Un r q (r p+1) p=r p:=by
 have hqn:q∉D++p::Q:=fun h=>by have:=(hB.rk q hq).2 h;omega
 have hap:∀x,x∈D++p::(Q++[q])↔x∈D++p::Q∨x=q:=fun x=>by
  simp only[aep,ado,afX,or_false]
  constructor
  ·rintro (h|h|h|h)<;>simp[h]
  ·rintro ((h|h|h)|h)<;>simp[h]
 have hne:∀x,x∈D++p::Q->x≠q:=fun x hx e=>hqn (e ▸ hx)
 have hpm:p∈D++p::Q:=adw _ (aeH ..)
 have hpq:p≠q:=hne p hpm
 refine⟨?_,gN _ hpq⟩
 constructor
 ·have:D++p::(Q++[q])=(D++p::Q)++[q]:=by simp
  rw[this,List.nodup_append]
  refine⟨hB.nodup,by simp,fun a ha b hb =>?_⟩
  simp only[ado,afX,or_false]at hb
  subst hb
  exact hne a ha
 ·intro x hx
  rcases (hap x).1 hx with h|rfl
  ·exact hB.lt x h
  ·exact hq
 ·intro x hx
  rw[hap]
  by_cases h:x=q
  ·subst h;rw[jL];exact⟨fun _ =>.inr rfl,fun _=>by omega⟩
  ·rw[gN _ h,hB.rk x hx];exact⟨.inl,fun k=>k.elim id fun e=>absurd e h⟩
 ·intro x hx
  by_cases h:x=q
  ·subst h;rw[jL];omega
  ·rw[gN _ h];exact hB.ge x hx
 ·intro x hx
  by_cases h:x=q
  ·subst h
   rw[jL]
   have:=hB.zero x hx
   constructor
   ·intro h;omega
   ·intro h;have:=this.2 h;omega
  ·rw[gN _ h];exact hB.zero x hx
 ·intro x hx h0
  by_cases h:x=q
  ·subst h
   obtain⟨t,h1,h2,h3⟩:=ht
   refine⟨t,h1,h2,?_⟩
   rw[h3,gN _ hpq,jL]
   omega
  ·rw[gN _ h]at h0 ⊢
   obtain⟨t,h1,h2,h3⟩:=hB.down x hx h0
   refine⟨t,h1,h2,?_⟩
   rw[gN _ (fun e=>by rw[e,hr]at h3;omega)]
   exact h3
 ·intro t ht' hD
  obtain⟨h1,h2⟩:=hB.near t ht' hD
  have e1:t.2.1≠q:=hne _ (adv _ hD)
  have e2:t.1≠q:=fun e=>by rw[e]at h1;omega
  rw[gN _ e1,gN _ e2]
  exact⟨h1,h2⟩
 ·have h1:=hB.mono
  have:p::(Q++[q])=(p::Q)++[q]:=by simp
  rw[this,aeQ]
  refine⟨h1.imp_of_mem fun {a b} ha hb h =>?_,by simp,fun a ha b hb =>?_⟩
  ·rw[gN _ (hne a (adw _ ha)),gN _ (hne b (adw _ hb))]
   exact h
  ·simp only[ado,afX,or_false]at hb
   subst hb
   rw[gN _ (hne a (adw _ ha)),jL]
   exact hB.top a (adw _ ha)
 ·intro x hx
  rcases (hap x).1 hx with h|rfl
  ·rw[gN _ (hne x h)];exact hB.top x h
  ·rw[jL];exact Int.le_refl _
 ·intro x hx
  by_cases h:x=q
  ·subst h;rw[jL];omega
  ·rw[gN _ h]
   refine hB.low x ?_
   simp only[ado,aep,afX,or_false]at hx ⊢
   rcases hx with h1|h1|h1
   ·exact .inl h1
   ·exact .inr h1
   ·exact absurd h1 h
 ·intro x hx
  by_cases h:x=q
  ·subst h;rw[jL];exact hm
  ·rw[gN _ h];exact hB.bnd x hx
theorem BF.finish {N:Nat} {tk:List Tk} {r:Nat->Int} {D Q:List Nat} {p:Nat} {h m:Int} (hB:BF N tk r D (p::Q) h m) (hn:∀q∈jU tk p,0<=r q∧r q<=r p+1):BF N tk r (D++[p]) Q h m:=by
 have e:(D++[p])++Q=D++p::Q:=by simp
 exact {
  nodup:=by rw[e];exact hB.nodup
  lt:=by rw[e];exact hB.lt
  rk:=by rw[e];exact hB.rk
  ge:=hB.ge,zero:=hB.zero,down:=hB.down
  near:=fun t ht hD=>by
   rcases aep.1 hD with h1|h1
   ·exact hB.near t ht h1
   ·simp only[ado,afX,or_false]at h1
    rw[h1]
    exact hn t.1 (Gw.2 ⟨t,ht,rfl,h1⟩)
  mono:=(aeP.1 hB.mono).2
  top:=by rw[e];exact hB.top
  low:=fun q hq=>hB.low q (aeI _ hq)
  bnd:=hB.bnd }
theorem BF.abk {N:Nat} {tk:List Tk} {r:Nat->Int} {D:List Nat} {h m:Int} (hB:BF N tk r D [] h m) (ht:∀t∈tk,t.1<N∧t.2.1<N) (hm:m<=2000):od N tk r where
 ge:=hB.ge
 zero:=hB.zero
 down:=hB.down
 near t h1 h2:=hB.near t h1 (by have:=(hB.rk t.2.1 (ht t h1).2).1 h2;simpa using this)
 le p hp:=by have:=hB.bnd p hp;omega
theorem WR {α:Type} (a:α) (l:List α):AQ (a::l) 1 ((a::l).length:Int)=some l:=by
 unfold AQ
 rw[if_pos ⟨by omega,by simp;omega,by omega⟩]
 simp
variable {N:Nat} {tk:List Tk}
theorem P5 {r:Nat->Int} {D Q:List Nat} {p:Nat} {m:Int} (hB:BF N tk r D (p::Q) (r p) m) (hp:p<N) (hp0:0<=r p) (hm:r p+1<=m) (hm2:m<=2001) (htk:∀t∈tk,t.1<N∧t.2.1<N) (hlen:tk.length<=8000) (hN:N<=2000) :
  ∃r' Q',aX (jG (p:Int) (jB (jU tk p))) ((0:Int),(List.range N).map r,jB Q)=some ((List.range N).map r',jB Q')∧BF N tk r' (D++[p]) Q' (r p) m:=by
 have hbl:=E1 tk p
 have key:=fun hs he=>yP (body:=jG (p:Int) (jB (jU tk p))) (jU tk p) (by omega) (fun i (s:List Int×List Int)=>∃r' Q',s=((List.range N).map r',jB Q')∧BF N tk r' D (p::Q') (r p) m∧r' p=r p∧∀q∈(jU tk p).take i,0<=r' q∧r' q<=r p+1)
  (fun x=>∃r' Q',x=((List.range N).map r',jB Q')∧BF N tk r' (D++[p]) Q' (r p) m) (s0:=((List.range N).map r,jB Q)) ⟨r,Q,rfl,hB,rfl,fun q hq=>by simp at hq⟩ hs he
 refine (key ?_ ?_).elim fun x ⟨h1,r',Q',hx,h2⟩=>⟨r',Q',hx ▸ h1,h2⟩
 ·rintro i q _ hq ⟨r',Q',rfl,hB',hrp,hnear⟩
  have hi:=cy hq
  have hqm:=adJ hq
  obtain⟨t,ht1,ht2,ht3⟩:=Gw.1 hqm
  have hqN:q<N:=by rw[<- ht2];exact (htk t ht1).1
  have htake:(jU tk p).take (i+1)=(jU tk p).take i++[q]:=by
   rw[afR hi,(adK.1 hq).2]
  have hQl:Q'.length<=N:=by
   have h1:=xM N (D++p::Q') hB'.nodup hB'.lt
   simp only[aej,List.length_cons]at h1
   omega
  simp only[jG]
  rw[if_pos (by rw[mU];simp;omega),bT (Wn hq),aeL,bT (bS r' hqN),aeL]
  by_cases hc:r' q = -1
  ·rw[if_pos (by rw[hc];rfl),bT (bS r' hp),aeL,hrp,xd (by rw[mU];simp;omega),aeL,cG (by omega),aeg,fB]
   have hw:IntKind.i64.wrap (r p+1)=r p+1:=wrap64 (by omega) (by omega)
   rw[hw]
   have hB2:=hB'
   rw[<- hrp]at hB2
   obtain⟨h1,h2⟩:=hB2.push (by omega) (by omega) hqN hc ⟨t,ht1,ht2,ht3⟩
   rw[hrp]at h1 h2
   refine⟨_,rfl,Un r' q (r p+1),Q'++[q],?_,h1,h2,fun x hx =>?_⟩
   ·unfold jB Un;simp
   ·rw[htake]at hx
    rcases aep.1 hx with hx|hx
    ·have:=hnear x hx
     by_cases hxq:x=q
     ·subst hxq;rw[hc]at this;omega
     ·rw[gN _ hxq];exact this
    ·simp only[ado,afX,or_false]at hx
     subst hx
     rw[jL];omega
  ·rw[if_neg (by simpa using hc),cG (by omega)]
   refine⟨_,rfl,r',Q',rfl,hB',hrp,fun x hx =>?_⟩
   rw[htake]at hx
   rcases aep.1 hx with hx|hx
   ·exact hnear x hx
   ·simp only[ado,afX,or_false]at hx
    subst hx
    have h0:0<=r' x:=by have:=hB'.ge x hqN;omega
    exact⟨h0,hB'.top x ((hB'.rk x hqN).1 h0)⟩
 ·rintro _ ⟨r',Q',rfl,hB',hrp,hnear⟩
  refine⟨_,?_,r',Q',rfl,hB'.finish fun q hq =>?_⟩
  ·simp only[jG]
   rw[if_neg (by rw[mU];simp)]
  ·rw[afg]at hnear
   rw[hrp]
   exact hnear q hq
theorem P6 {r:Nat->Int} {Q:List Nat} (hB:BF N tk r [] Q 0 0) (htk:∀t∈tk,t.1<N∧t.2.1<N) (hlen:tk.length<=8000) (hN:N<=2000) :
  ∃r',aX (jF ((List.range N).map fun p=>jB (jU tk p))) ((List.range N).map r,jB Q)=some ((List.range N).map r')∧od N tk r':=by
 have key:=fun hs=>cw (body:=jF ((List.range N).map fun p=>jB (jU tk p))) (fun i (s:List Int×List Int)=>∃r' D Q' h,s=((List.range N).map r',jB Q')∧D.length=i∧BF N tk r' D Q' h (i:Int)) N
  (fun x=>∃r',x=(List.range N).map r'∧od N tk r') (s:=((List.range N).map r,jB Q)) ⟨r,[],Q,0,rfl,rfl,hB⟩ (iW (by omega)) hs
 refine (key ?_).elim fun x ⟨h1,r',hx,h2⟩=>⟨r',hx ▸ h1,h2⟩
 ·rintro i _ hi ⟨r',D,Q',h,rfl,hD,hB'⟩
  cases Q' with
  | nil =>
   refine .inr ⟨_,?_,r',rfl,hB'.abk htk (by omega)⟩
   simp only[jF,jB,ad5]
   rw[if_neg (by simp)]
  | cons p Q' =>
   obtain⟨hB2,hp0,hp,hpm⟩:=hB'.pop
   have hiN:i<N:=by
    have h1:=xM N (D++p::Q') hB'.nodup hB'.lt
    simp only[aej,List.length_cons]at h1
    omega
   obtain⟨r2,Q2,h1,h2⟩:=P5 hB2 hp hp0 (by omega) (by omega) htk hlen hN
   refine .inl ⟨hiN,((List.range N).map r2,jB Q2),?_,r2,D++[p],Q2,r' p,rfl,by simp[hD],by simpa using h2⟩
   simp only[jF]
   have e1:jB (p::Q')=(p:Int)::jB Q':=rfl
   rw[e1,if_pos (by simp),idx_zero' ,aeL,WR,aeL,bT (bS (fun p=>jB (jU tk p)) hp),aeL,h1,aeL]
where
 idx_zero':∀ {α:Type} {a:α} {l:List α},P.idx (a::l) 0=some a:=fun {_ a l}=>bT (l:=a::l) (i:=0) rfl
theorem Tb {L:Nat} (htk:∀t∈tk,t.1<N∧t.2.1<N) (hlen:tk.length<=8000) :
  aX (jD (mC N tk)) ((0:Int),List.replicate N ([]:List Int))=some ((List.range N).map fun p=>jB (jU tk p)):=by
 unfold mC
 have key:=fun hs he=>yP (body:=jD (bW.mk (N:Int) (tk.map tO))) tk (by omega) (fun i l=>l=(List.range N).map fun p=>jB (jU (tk.take i) p)) (fun l=>l=(List.range N).map fun p=>jB (jU tk p)) (s0:=List.replicate N ([]:List Int))
  (gD (by simp) fun j hj=>by rw[afY,if_pos hj,List.take_zero];rfl) hs he
 refine (key ?_ ?_).elim fun x ⟨h1,hx⟩=>hx ▸ h1
 ·rintro i t _ ht rfl
  have hi:=cy ht
  have hto:=(htk t (adJ ht)).2
  have hg:(tk.map tO)[i]? = some (tO t):=by rw[ade,ht];rfl
  have hbl:=E1 (tk.take i) t.2.1
  rw[adA]at hbl
  refine⟨_,?_,rfl⟩
  simp only[jD]
  rw[if_pos (by simp;omega),bT hg,aeL]
  simp only[tO]
  rw[bT (bS _ hto),aeL,xd (by rw[mU];simp;omega),aeL,cG (by omega),aeg,fB]
  congr 3
  refine congrArg (fun f=>(List.range N).map f) (funext fun p =>?_)
  rw[OH ht]
  by_cases h:p=t.2.1
  ·subst h;rw[if_pos rfl,if_pos rfl];unfold jB;simp
  ·rw[if_neg h,if_neg (fun e=>h e.symm)]
 ·rintro _ rfl
  refine⟨_,?_,rfl⟩
  simp only[jD]
  rw[if_neg (by simp),afg]
def Ao (tk:List Tk) (p:Nat):Int:=if 0<dQ tk p then 0 else -1
def lL (tk:List Tk) (n:Nat):List Nat:=(List.range n).filter fun p=>decide (0<dQ tk p)
theorem Nt (tk:List Tk) (n:Nat):lL tk (n+1)=if 0<dQ tk n then lL tk n++[n] else lL tk n:=by
 unfold lL
 rw[List.range_succ,afU]
 by_cases h:0<dQ tk n
 ·rw[if_pos h,afV (by simpa using h)];rfl
 ·rw[if_neg h,afW (by simpa using h)];simp
theorem TF {K:Nat} (hN:N<=2000) (hlen:tk.length<=8000) (hK:K<=1000000) (hs:∀t∈tk,LF t.2.2<=K) :
  aX (jE ((List.range N).map fun p=>di (dQ tk p))) ((0:Int),List.replicate N (0:Int),([]:List Int))=some ((List.range N).map (Ao tk),jB (lL tk N)):=by
 have key:=fun hs he=>yP (body:=jE ((List.range N).map fun p=>di (dQ tk p))) (List.range N) (by simp;omega) (fun i (s:List Int×List Int)=>s=((List.range N).map (fun p=>if p<i then Ao tk p else 0),jB (lL tk i))) (fun s=>s=((List.range N).map (Ao tk),jB (lL tk N))) (s0:=(List.replicate N (0:Int),([]:List Int)))
  (by rw[show lL tk 0=[] from rfl];refine Prod.ext ?_ rfl;exact gD (by simp) fun j hj=>by rw[afY,if_pos hj,if_neg (by omega)]) hs he
 refine (key ?_ ?_).elim fun x ⟨h1,hx⟩=>hx ▸ h1
 ·rintro i x _ hx rfl
  have hi:i<N:=by have:=cy hx;simpa using this
  have hLF:=JB hs i
  have h2:tk.length*(K+1)<=8000*1000001:=afS hlen (by omega)
  have hql:(lL tk i).length<=i:=by unfold lL;have:=afT (fun p=>decide (0<dQ tk p)) (List.range i);simpa using this
  refine⟨_,?_,rfl⟩
  simp only[jE]
  rw[if_pos (by simp;omega),bT (bS (fun p=>di (dQ tk p)) hi),aeL,bT (bS _ hi),aeL,Oz (by unfold fw;omega),aeL,aeg,fB,fB,cG (by omega),Nt]
  by_cases hl:0<dQ tk i
  ·rw[if_pos (by simpa using AZ.2 hl),bT (bS _ hi),aeL,xd (by rw[mU];simp;omega),aeL,if_pos hl]
   refine congrArg some (congrArg Sum.inl (congrArg (Prod.mk _) (Prod.ext ?_ ?_)))
   ·refine congrArg (fun f=>(List.range N).map f) (funext fun p =>?_)
    by_cases h:p=i
    ·subst h;rw[if_pos rfl,if_pos (by omega)];unfold Ao;rw[if_pos hl]
    ·rw[if_neg h,if_neg h]
     by_cases h3:p<i
     ·rw[if_pos h3,if_pos (by omega)]
     ·rw[if_neg h3,if_neg (by omega)]
   ·unfold jB;simp
  ·rw[if_neg (by simpa using fun h=>hl (AZ.1 h)),if_neg hl]
   refine congrArg some (congrArg Sum.inl (congrArg (Prod.mk _) (Prod.ext ?_ rfl)))
   refine congrArg (fun f=>(List.range N).map f) (funext fun p =>?_)
   by_cases h:p=i
   ·subst h;rw[if_pos rfl,if_pos (by omega)];unfold Ao;rw[if_neg hl]
   ·rw[if_neg h]
    by_cases h3:p<i
    ·rw[if_pos h3,if_pos (by omega)]
    ·rw[if_neg h3,if_neg (by omega)]
 ·rintro _ rfl
  refine⟨_,?_,rfl⟩
  simp only[jE]
  rw[if_neg (by simp),adM]
  refine congrArg some (congrArg Sum.inr (Prod.ext ?_ rfl))
  refine gD (by simp) fun j hj =>?_
  rw[bS _ hj,if_pos hj]
theorem Yf (N:Nat) (tk:List Tk):BF N tk (Ao tk) [] (lL tk N) 0 0:=by
 have hm:∀p,p∈lL tk N↔p<N∧0<dQ tk p:=fun p=>by unfold lL;simp[aeO]
 have h0:∀p,0<dQ tk p->Ao tk p=0:=fun p h=>if_pos h
 have h1:∀p,¬0<dQ tk p->Ao tk p = -1:=fun p h=>if_neg h
 constructor
 ·rw[aeW];unfold lL;exact List.nodup_range.filter _
 ·intro p hp;rw[aeW]at hp;exact ((hm p).1 hp).1
 ·intro p hp
  rw[aeW,hm]
  by_cases h:0<dQ tk p
  ·rw[h0 p h];simp[hp,h]
  ·rw[h1 p h];simp[h]
 ·intro p hp
  by_cases h:0<dQ tk p
  ·rw[h0 p h];omega
  ·rw[h1 p h];omega
 ·intro p hp
  by_cases h:0<dQ tk p
  ·rw[h0 p h];simp[h]
  ·rw[h1 p h];simp[h]
 ·intro p hp hpos
  by_cases h:0<dQ tk p
  ·rw[h0 p h]at hpos;omega
  ·rw[h1 p h]at hpos;omega
 ·intro t _ h;simp at h
 ·refine List.Pairwise.imp_of_mem (R:=fun _ _=>True) (fun {a b} ha hb _ =>?_) (List.pairwise_of_forall (fun _ _=>trivial))
  rw[h0 a ((hm a).1 ha).2,h0 b ((hm b).1 hb).2]
  exact Int.le_refl _
 ·intro p hp
  rw[aeW]at hp
  rw[h0 p ((hm p).1 hp).2];omega
 ·intro q hq;rw[h0 q ((hm q).1 hq).2];omega
 ·intro p hp
  by_cases h:0<dQ tk p
  ·rw[h0 p h];omega
  ·rw[h1 p h];omega
theorem WG {K:Nat} (hR:jb N tk) (hK:K<=1000000) (hs:∀t∈tk,LF t.2.2<=K):∃r,jC (mC N tk)=some ((List.range N).map r)∧od N tk r:=by
 have hN:=hR.ports
 have hlen:=hR.takes
 have htk:∀t∈tk,t.1<N∧t.2.1<N:=fun t ht=>⟨(hR.ok t ht).1,(hR.ok t ht).2.1⟩
 obtain⟨b,hb1,hb2⟩:=Hg (n:=mC N tk) hK (fun t ht=>by
  simp only[mC,adg]at ht
  obtain⟨t',h1,rfl⟩:=ht
  exact AS (hs t' h1))
 obtain rfl:b=true:=hb2.2 ⟨N,tk,rfl,hR⟩
 obtain⟨r',h1,h2⟩:=P6 (Yf N tk) htk hlen hN
 refine⟨r',?_,h2⟩
 unfold jC
 rw[hb1,aeL]
 simp only[aeC,adR,if_false]
 have e1:(mC N tk).aG=(N:Int):=rfl
 rw[e1,Gx _ (by omega) hN,aeL,Tb (L:=0) htk hlen,aeL,Gx _ (by omega) hN,aeL,Mb hN hlen (fun t ht=>(htk t ht).1) hK hs,aeL,TF hN hlen hK hs,aeL]
 simp only
 rw[h1,aeL]
def lT (N:Nat) (r:Nat->Int):List Nat:=(List.range N).filter fun p=>decide (r p = -1)
theorem Qu (n:Nat) (r:Nat->Int):lT (n+1) r=if r n = -1 then lT n r++[n] else lT n r:=by
 unfold lT
 rw[List.range_succ,afU]
 by_cases h:r n = -1
 ·rw[if_pos h,afV (by simpa using h)];rfl
 ·rw[if_neg h,afW (by simpa using h)];simp
theorem Qv {r:Nat->Int} (hN:N<=2000) (h:jC (mC N tk)=some ((List.range N).map r)):ia (mC N tk)=some (jB (lT N r)):=by
 unfold ia
 rw[h,aeL]
 have key:=fun hs he=>yP (body:=gU ((List.range N).map r)) (List.range N) (by simp;omega) (fun i l=>l=jB (lT i r)) (fun l=>l=jB (lT N r)) (s0:=([]:List Int)) rfl hs he
 have h2:aX (gU ((List.range N).map r)) ((0:Int),[])=some (jB (lT N r)):=by
  refine (key ?_ ?_).elim fun x ⟨h1,hx⟩=>hx ▸ h1
  ·rintro i x _ hx rfl
   have hi:i<N:=by have:=cy hx;simpa using this
   have hql:(lT i r).length<=i:=by unfold lT;have:=afT (fun p=>decide (r p = -1)) (List.range i);simpa using this
   refine⟨_,?_,rfl⟩
   simp only[gU]
   rw[if_pos (by simp;omega),bT (bS r hi),aeL,cG (by omega),Qu]
   by_cases hc:r i = -1
   ·rw[if_pos (by rw[hc];rfl),xd (by rw[mU];simp;omega),aeL,if_pos hc]
    unfold jB;simp
   ·rw[if_neg (by simpa using hc),if_neg hc]
  ·rintro _ rfl
   refine⟨_,?_,rfl⟩
   simp only[gU]
   rw[if_neg (by simp),adM]
 rw[h2,aeL]
end Go.Proofs.Ytchndpjlijbplaa.P
namespace Go.Proofs.Ytchndpjlijbplaa.P
open Go.RowKit
set_option linter.unusedSimpArgs false
set_option linter.unusedVariables false
def sm:Nat->(Nat->Rat)->Rat
 | 0,_=>0
 | n+1,f=>sm n f+f n
theorem ye {n:Nat} {f g:Nat->Rat} (h:∀i,i<n->f i=g i):sm n f=sm n g:=by
 induction n with
 | zero=>rfl
 | succ n ih=>rw[sm,sm,ih fun i hi=>h i (by omega),h n (by omega)]
theorem WS (n:Nat) (f g:Nat->Rat):sm n (fun i=>f i+g i)=sm n f+sm n g:=by
 induction n with
 | zero=>simp only[sm];grind
 | succ n ih=>simp only[sm];rw[ih];grind
theorem WT (n:Nat) (f g:Nat->Rat):sm n (fun i=>f i-g i)=sm n f-sm n g:=by
 induction n with
 | zero=>simp only[sm];grind
 | succ n ih=>simp only[sm];rw[ih];grind
theorem zc {n:Nat} {f:Nat->Rat} (h:∀i,i<n->0<=f i):0<=sm n f:=by
 induction n with
 | zero=>simp only[sm];grind
 | succ n ih =>
  have h1:=ih fun i hi=>h i (by omega)
  have h2:=h n (by omega)
  simp only[sm];grind
theorem SB {n:Nat} {f:Nat->Rat} (h:∀i,i<n->0<=f i) (hs:sm n f<=0):∀i,i<n->f i=0:=by
 induction n with
 | zero=>intro i hi;omega
 | succ n ih =>
  have h1:=zc (n:=n) fun i hi=>h i (by omega)
  have h2:=h n (by omega)
  simp only[sm]at hs
  intro i hi
  by_cases hin:i=n
  ·subst hin;grind
  ·exact ih (fun j hj=>h j (by omega)) (by grind) i (by omega)
theorem YE (n:Nat):sm n (fun _=>0)=0:=by
 induction n with
 | zero=>rfl
 | succ n ih=>simp only[sm];rw[ih];grind
theorem Hr {n t:Nat} (v:Rat) (h:t<n):sm n (fun p=>if t=p then v else 0)=v:=by
 induction n with
 | zero=>omega
 | succ n ih =>
  simp only[sm]
  by_cases hn:t=n
  ·subst hn
   rw[ye (g:=fun _=>0) fun i hi=>if_neg (by omega),YE,if_pos rfl];grind
  ·rw[ih (by omega),if_neg hn];grind
def rN:List Tk->(Nat->Rat)->Nat->Rat
 | [],_,_=>0
 | t::l,x,p=>(if t.2.1=p then t.2.2*x t.1 else 0)+rN l x p
theorem Gk {x y:Nat->Rat} {p:Nat} : ∀ {l:List Tk},(∀t∈l,t.2.1=p->x t.1=y t.1)->rN l x p=rN l y p
 | [],_=>rfl
 | t::l,h=>by
  simp only[rN]
  rw[Gk (l:=l) fun t ht=>h t (aeI _ ht)]
  by_cases hp:t.2.1=p
  ·rw[if_pos hp,if_pos hp,h t (aeH ..) hp]
  ·rw[if_neg hp,if_neg hp]
theorem Ye (l:List Tk) (x y:Nat->Rat) (p:Nat):rN l (fun j=>x j-y j) p=rN l x p-rN l y p:=by
 induction l with
 | nil=>simp only[rN];grind
 | cons t l ih=>simp only[rN];rw[ih];split<;>grind
theorem RX (l:List Tk) (c:Rat) (x:Nat->Rat) (p:Nat):rN l (fun j=>c*x j) p=c*rN l x p:=by
 induction l with
 | nil=>simp only[rN];grind
 | cons t l ih=>simp only[rN];rw[ih];split<;>grind
theorem xG {x y:Nat->Rat} {p:Nat} : ∀ {l:List Tk},(∀t∈l,0<=t.2.2)->(∀t∈l,t.2.1=p->x t.1<=y t.1)->rN l x p<=rN l y p
 | [],_,_=>by simp only[rN];grind
 | t::l,h0,h=>by
  simp only[rN]
  have ih:=xG (l:=l) (fun t ht=>h0 t (aeI _ ht)) fun t ht=>h t (aeI _ ht)
  have ht:=h0 t (aeH ..)
  by_cases hp:t.2.1=p
  ·rw[if_pos hp,if_pos hp]
   have:=Rat.mul_le_mul_of_nonneg_left (h t (aeH ..) hp) ht
   grind
  ·rw[if_neg hp,if_neg hp];grind
theorem CF {x:Nat->Rat} {p:Nat} {l:List Tk} (h0:∀t∈l,0<=t.2.2) (h:∀t∈l,t.2.1=p->0<=x t.1):0<=rN l x p:=by
 have:=xG (x:=fun _=>0) (y:=x) (p:=p) h0 h
 have h2:rN l (fun _=>0) p=0:=by
  have:=RX l 0 (fun _=>0) p
  have e:(fun j:Nat=>(0:Rat)*(fun _=>0) j)=fun _=>0:=by funext j;grind
  rw[e]at this
  rw[this];grind
 grind
theorem V3 {x:Nat->Rat} {p:Nat} : ∀ {l:List Tk},(∀t∈l,0<=t.2.2)->(∀t∈l,t.2.1=p->0<=x t.1)->∀t∈l,t.2.1=p->t.2.2*x t.1<=rN l x p
 | [],_,_,t,ht,_=>by cases ht
 | t::l,h0,h,u,hu,hp=>by
  simp only[rN]
  have h1:=CF (x:=x) (p:=p) (l:=l) (fun t ht=>h0 t (aeI _ ht)) fun t ht=>h t (aeI _ ht)
  rcases ado.1 hu with rfl|hu
  ·rw[if_pos hp];grind
  ·have ih:=V3 (x:=x) (p:=p) (l:=l) (fun t ht=>h0 t (aeI _ ht)) (fun t ht=>h t (aeI _ ht)) u hu hp
   by_cases hq:t.2.1=p
   ·rw[if_pos hq]
    have:=afZ (h0 t (aeH ..)) (h t (aeH ..) hq)
    grind
   ·rw[if_neg hq];grind
theorem RY {N:Nat} (x:Nat->Rat):∀ {l:List Tk},(∀t∈l,t.1<N∧t.2.1<N)->sm N (fun p=>rN l x p)=sm N (fun q=>sS l q*x q)
 | [],_=>by simp only[rN,sS];exact ye fun i _=>by grind
 | t::l,h=>by
  simp only[rN,sS]
  obtain⟨h1,h2⟩:=h t (aeH ..)
  rw[WS,Hr _ h2,RY x fun t ht=>h t (aeI _ ht)]
  have:sm N (fun q=>((if t.1=q then t.2.2 else 0)+sS l q)*x q)=sm N (fun q=>(if t.1=q then t.2.2*x t.1 else 0)+sS l q*x q):=ye fun q _=>by
   by_cases hq:t.1=q
   ·rw[if_pos hq,if_pos hq,hq];grind
   ·rw[if_neg hq,if_neg hq];grind
  rw[this,WS,Hr _ h1]
def wy (x:Rat):Rat:=if 0<=x then x else -x
theorem zm (x:Rat):0<=wy x:=by unfold wy;split<;>grind
theorem QT (x:Rat):x<=wy x ∧ -x<=wy x:=by unfold wy;split<;>grind
theorem OA {x y:Rat} (h1:x<=y) (h2 : -x<=y):wy x<=y:=by unfold wy;split<;>grind
theorem S8 {x:Rat} (h:wy x=0):x=0:=by unfold wy at h;split at h<;>grind
theorem Yd {l:List Tk} (h0:∀t∈l,0<=t.2.2) (x:Nat->Rat) (p:Nat):wy (rN l x p)<=rN l (fun j=>wy (x j)) p:=by
 refine OA (xG h0 fun t _ _=>(QT _).1) ?_
 have h1:=RX l (-1) x p
 have h2 : -rN l x p=rN l (fun j => -1*x j) p:=by rw[h1];grind
 rw[h2]
 exact xG h0 fun t _ _=>by have:=(QT (x t.1)).2;grind
variable {N:Nat} {tk:List Tk} {r:Nat->Int}
theorem jb.pos (hR:jb N tk):∀t∈tk,0<=t.2.2:=fun t ht=>by have:=(hR.ok t ht).2.2;grind
theorem jb.rng (hR:jb N tk):∀t∈tk,t.1<N∧t.2.1<N:=fun t ht=>⟨(hR.ok t ht).1,(hR.ok t ht).2.1⟩
theorem D5 (hR:jb N tk) (hr:od N tk r) (h0:∀p,p<N->0<=r p) {y:Nat->Rat} (hy:∀p,p<N->0<=y p) (hle:∀p,p<N->y p<=rN tk y p):∀p,p<N->y p=0:=by
 have hs:=RY y hR.rng
 have hl0:∀p,p<N->0<=dQ tk p*y p:=fun p hp=>afZ (hR.leak p hp) (hy p hp)
 have hd0:∀p,p<N->0<=rN tk y p-y p:=fun p hp=>by have:=hle p hp;grind
 have e1:sm N (fun p=>dQ tk p*y p)=sm N y-sm N (fun q=>sS tk q*y q):=by
  rw[<- WT]
  exact ye fun p _=>by unfold dQ;grind
 have e2:sm N (fun p=>rN tk y p-y p)=sm N (fun q=>sS tk q*y q)-sm N y:=by rw[WT,hs]
 have n1:=zc hl0
 have n2:=zc hd0
 have z1:=SB hl0 (by grind)
 have z2:=SB hd0 (by grind)
 have key:∀(k:Nat) p,p<N->r p=(k:Int)->y p=0:=by
  intro k
  induction k with
  | zero =>
   intro p hp hk
   have hl:=(hr.zero p hp).1 hk
   have:=z1 p hp
   rcases Rat.mul_eq_zero.1 this with h|h
   ·grind
   ·exact h
  | succ k ih =>
   intro p hp hk
   obtain⟨t,ht,rfl,ht2⟩:=hr.down p hp (by omega)
   have hto:=(hR.rng t ht).2
   have hq:=ih t.2.1 hto (by omega)
   have e:=z2 t.2.1 hto
   have hge:=V3 (x:=y) (p:=t.2.1) hR.pos (fun u hu _=>hy _ (hR.rng u hu).1) t ht rfl
   have hpos:=(hR.ok t ht).2.2
   have hy1:=hy t.1 hp
   have h3:t.2.2*y t.1<=0:=by grind
   have h4:=afZ (show 0<=t.2.2 by grind) hy1
   rcases Rat.mul_eq_zero.1 (show t.2.2*y t.1=0 by grind) with h|h
   ·grind
   ·exact h
 intro p hp
 have:=h0 p hp
 exact key (r p).toNat p hp (by omega)
def ZS (N:Nat) (tk:List Tk) (d x:Nat->Rat):Prop:=∀p,p<N->x p=d p+rN tk x p
theorem YG (hR:jb N tk) (hr:od N tk r) (h0:∀p,p<N->0<=r p) {d d' x x':Nat->Rat} (hx:ZS N tk d x) (hx':ZS N tk d' x') (S:Nat->Prop) (hS:∀t∈tk,S t.1->S t.2.1) (hd:∀p,p<N->¬S p->d p=d' p) :
  ∀p,p<N->¬S p->x p=x' p:=by
 intro p hp hn
 open Classical in
 have:=D5 hR hr h0 (y:=fun j=>if S j then 0 else wy (x j-x' j)) (fun j _=>by
  try simp only
  split
  ·grind
  ·exact zm _) (fun q hq=>by
  have hz:0<=rN tk (fun j=>if S j then 0 else wy (x j-x' j)) q:=CF hR.pos fun t _ _=>by
   try simp only
   split
   ·grind
   ·exact zm _
  try simp only
  split
  ·exact hz
  ·rename_i hq2
   have h1:=Yd hR.pos (fun j=>x j-x' j) q
   rw[Ye]at h1
   have e:x q-x' q=rN tk x q-rN tk x' q:=by have:=hx q hq;have:=hx' q hq;have:=hd q hq hq2;grind
   rw[e]
   rwa [Gk (l:=tk) (p:=q) (x:=fun j=>wy (x j-x' j)) (y:=fun j=>if S j then 0 else wy (x j-x' j)) fun t ht htq=>by
    try simp only
    rw[if_neg fun hs=>hq2 (htq ▸ hS t ht hs)]]at h1) p hp
 try simp only at this
 rw[if_neg hn]at this
 have:=S8 this
 grind
end Go.Proofs.Ytchndpjlijbplaa.P
namespace Go.Proofs.Ytchndpjlijbplaa.P
open Go.RowKit
set_option linter.unusedSimpArgs false
set_option linter.unusedVariables false
abbrev Tm:=Nat×Rat
def ja (t:Tm):dC:=dC.mk (t.1:Int) (di t.2)
structure QE where
 D:Rat
 T:List Tm
def mkEq (e:QE):aw:=aw.mk (di e.D) (e.T.map ja)
def cJ:List Tm->(Nat->Rat)->Rat
 | [],_=>0
 | t::l,x=>t.2*x t.1+cJ l x
theorem mR (a b:List Tm) (x:Nat->Rat):cJ (a++b) x=cJ a x+cJ b x:=by
 induction a with
 | nil=>simp only[List.nil_append,cJ];grind
 | cons t a ih=>simp only[List.cons_append,cJ];rw[ih];grind
abbrev gZ (T:List Tm):Prop:=T.Pairwise fun a b=>a.1<b.1
def jZ (T:List Tm) (k:Nat):List Tm:=T.filter fun t=>decide (t.1<k)
def yr (T:List Tm) (k:Nat):List Tm:=T.filter fun t=>decide (k<t.1)
def dW:List Tm->Nat->Option Rat
 | [],_=>none
 | t::l,k=>if t.1=k then some t.2 else dW l k
theorem IS {T:List Tm} {k:Nat} {t:Tm} : t∈jZ T k↔t∈T∧t.1<k:=by unfold jZ;simp[aeO]
theorem CT {T:List Tm} {k:Nat} {t:Tm} : t∈yr T k↔t∈T∧k<t.1:=by unfold yr;simp[aeO]
theorem Pr {T:List Tm} {k:Nat} (h:∀t∈T,k<=t.1):jZ T k=[]:=by
 unfold jZ
 rw[List.filter_eq_nil_iff]
 intro t ht
 have:=h t ht
 simp;omega
theorem V0 {T:List Tm} {k:Nat} (h:∀t∈T,k<t.1):yr T k=T:=by
 unfold yr
 rw[List.filter_eq_self]
 intro t ht
 simpa using h t ht
theorem Tf {T:List Tm} {k:Nat} (h:∀t∈T,t.1≠k):dW T k=none:=by
 induction T with
 | nil=>rfl
 | cons t T ih=>rw[dW,if_neg (h t (aeH ..)),ih fun u hu=>h u (aeI _ hu)]
theorem vt {k:Nat} : ∀ {T:List Tm},gZ T->(dW T k=none∧T=jZ T k++yr T k)∨∃c,dW T k=some c∧T=jZ T k++(k,c)::yr T k
 | [],_ =>.inl ⟨rfl,rfl⟩
 | t::T,h=>by
  obtain⟨h1,h2⟩:=aeP.1 h
  rcases af0 t.1 k with hk|hk|hk
  ·have e1:jZ (t::T) k=t::jZ T k:=afV (by simpa using hk)
   have e2:yr (t::T) k=yr T k:=afW (by simp;omega)
   have e3:dW (t::T) k=dW T k:=by rw[dW,if_neg (by omega)]
   rw[e1,e2,e3]
   rcases vt (k:=k) h2 with⟨g1,g2⟩|⟨c,g1,g2⟩
   ·exact .inl ⟨g1,by rw[ae6,<- g2]⟩
   ·exact .inr ⟨c,g1,by rw[ae6,<- g2]⟩
  ·subst hk
   have e1:jZ (t::T) t.1=[]:=Pr fun u hu=>by
    rcases ado.1 hu with rfl|hu
    ·exact adh _
    ·have:=h1 u hu;omega
   have e2:yr (t::T) t.1=T:=by
    rw[show yr (t::T) t.1=yr T t.1 from afW (by simp),V0 h1]
   refine .inr ⟨t.2,by rw[dW,if_pos rfl],?_⟩
   rw[e1,e2];rfl
  ·have e1:jZ (t::T) k=[]:=Pr fun u hu=>by
    rcases ado.1 hu with rfl|hu
    ·omega
    ·have:=h1 u hu;omega
   have e2:yr (t::T) k=t::T:=V0 fun u hu=>by
    rcases ado.1 hu with rfl|hu
    ·exact hk
    ·have:=h1 u hu;omega
   refine .inl ⟨Tf fun u hu =>?_,by rw[e1,e2];rfl⟩
   rcases ado.1 hu with rfl|hu
   ·omega
   ·have:=h1 u hu;omega
def iQ (T:List Tm) (k:Nat):List Tm:=jZ T k++yr T k
def ID (T:List Tm) (k:Nat) (a:Rat):List Tm:=jZ T k++(k,a)::yr T k
def Bi (T:List Tm) (k:Nat) (v:Rat):List Tm:=ID T k ((dW T k).getD 0+v)
theorem ik {T:List Tm} {k:Nat} {t:Tm} : t∈iQ T k↔t∈T∧t.1≠k:=by
 unfold iQ
 rw[aep,IS,CT]
 constructor
 ·rintro (⟨h1,h2⟩|⟨h1,h2⟩)<;>exact⟨h1,by omega⟩
 ·rintro⟨h1,h2⟩
  rcases ad2 t.1 k with h|h
  ·exact .inl ⟨h1,h⟩
  ·exact .inr ⟨h1,by omega⟩
theorem IQ {T:List Tm} {k:Nat} {a:Rat} {t:Tm} : t∈ID T k a↔t=(k,a)∨t∈iQ T k:=by
 unfold ID iQ
 simp only[aep,ado]
 constructor
 ·rintro (h|h|h)<;>simp[h]
 ·rintro (h|h|h)<;>simp[h]
theorem DM {T:List Tm} (h:gZ T) (k:Nat):gZ (iQ T k):=by
 unfold iQ
 rw[gZ,aeQ]
 refine⟨h.filter _,h.filter _,fun a ha b hb =>?_⟩
 have:=(IS.1 ha).2
 have:=(CT.1 hb).2
 omega
theorem WV {T:List Tm} (h:gZ T) (k:Nat) (a:Rat):gZ (ID T k a):=by
 unfold ID
 rw[gZ,aeQ,aeP]
 refine⟨h.filter _,⟨fun b hb=>(CT.1 hb).2,h.filter _⟩,fun x hx b hb =>?_⟩
 have h1:=(IS.1 hx).2
 rcases ado.1 hb with rfl|hb
 ·exact h1
 ·have:=(CT.1 hb).2;omega
theorem uZ {T:List Tm} (h:gZ T) (k:Nat) (x:Nat->Rat):cJ T x=cJ (iQ T k) x+(dW T k).getD 0*x k:=by
 rcases vt (k:=k) h with⟨g1,g2⟩|⟨c,g1,g2⟩
 ·rw[g1];unfold iQ;rw[<- g2];simp only[Option.getD_none];grind
 ·have e:cJ T x=cJ (jZ T k++(k,c)::yr T k) x:=by rw[<- g2]
  rw[e,g1]
  unfold iQ
  rw[mR,mR]
  simp only[cJ,Option.getD_some]
  grind
theorem Yk {T:List Tm} (k:Nat) (a:Rat) (x:Nat->Rat):cJ (ID T k a) x=cJ (iQ T k) x+a*x k:=by
 unfold ID iQ
 rw[mR,mR]
 simp only[cJ]
 grind
theorem Yi {T:List Tm} (h:gZ T) (k:Nat) (v:Rat) (x:Nat->Rat):cJ (Bi T k v) x=cJ T x+v*x k:=by
 unfold Bi
 rw[Yk,uZ h k x]
 grind
theorem mL {T:List Tm} {k:Nat} {c:Rat} (h:dW T k=some c):(k,c)∈T:=by
 induction T with
 | nil=>cases h
 | cons t T ih =>
  rw[dW]at h
  split at h
  ·rename_i hk
   cases h
   rw[<- hk]
   exact aeH ..
  ·exact aeI _ (ih h)
theorem Gr {x y:Nat->Rat} : ∀ {T:List Tm},(∀t∈T,x t.1=y t.1)->cJ T x=cJ T y
 | [],_=>rfl
 | t::T,h=>by rw[cJ,cJ,h t (aeH ..),Gr fun u hu=>h u (aeI _ hu)]
theorem rP {x:Nat->Rat} : ∀ {T:List Tm},(∀t∈T,0<=t.2)->(∀t∈T,0<=x t.1)->0<=cJ T x
 | [],_,_=>by simp only[cJ];grind
 | t::T,h,hx=>by
  have h1:=afZ (h t (aeH ..)) (hx t (aeH ..))
  have h2:=rP (T:=T) (fun u hu=>h u (aeI _ hu)) fun u hu=>hx u (aeI _ hu)
  simp only[cJ];grind
theorem Yj (T:List Tm) (c:Rat) (x:Nat->Rat):cJ (T.map fun t=>(t.1,t.2 / c)) x=cJ T x / c:=by
 induction T with
 | nil=>simp only[ad5,cJ];grind
 | cons t T ih=>simp only[adn,cJ];rw[ih];grind
structure QR (N K:Nat) (T:List Tm):Prop where
 sorted:gZ T
 lt:∀t∈T,t.1<N
 sz:∀t∈T,LF t.2<=K
theorem QR.len {N K:Nat} {T:List Tm} (h:QR N K T):T.length<=N:=by
 have h1:=xM N (T.map (·.1)) (by
  rw[List.Nodup,List.pairwise_map]
  exact h.sorted.imp fun h=>by omega) (fun x hx=>by
  obtain⟨t,ht,rfl⟩:=adg.1 hx
  exact h.lt t ht)
 simpa using h1
theorem QR.rem {N K:Nat} {T:List Tm} (h:QR N K T) (k:Nat):QR N K (iQ T k):=⟨DM h.sorted k,fun t ht=>h.lt t (ik.1 ht).1,fun t ht=>h.sz t (ik.1 ht).1⟩
theorem QR.mono {N K K':Nat} {T:List Tm} (h:QR N K T) (hk:K<=K'):QR N K' T:=⟨h.sorted,h.lt,fun t ht=>adj (h.sz t ht) hk⟩
theorem abq (x:Int):wU .u64 x 1=some (x / 2):=by
 unfold wU
 rw[if_neg (by decide)]
 have e:(2:Int) ^ (min (Int.toNat 1) IntKind.u64.bits)=2:=by decide
 rw[e,afp _ (by decide)]
theorem Zy {k:Nat} : ∀ {T:List Tm},gZ T->∀(i:Nat) t,T[i]? = some t->(t.1<k↔i<(jZ T k).length)
 | [],_,i,t,h=>by simp at h
 | a::T,hs,i,t,h=>by
  obtain⟨h1,h2⟩:=aeP.1 hs
  by_cases ha:a.1<k
  ·have e1:jZ (a::T) k=a::jZ T k:=afV (by simpa using ha)
   rw[e1,adH]
   cases i with
   | zero=>simp only[List.getElem?_cons_zero,adq]at h;subst h;simp[ha]
   | succ i =>
    have:=Zy (k:=k) h2 i t (by simpa using h)
    omega
  ·have e1:jZ (a::T) k=[]:=Pr fun u hu=>by
    rcases ado.1 hu with rfl|hu
    ·omega
    ·have:=h1 u hu;omega
   rw[e1]
   have:¬t.1<k:=by
    rcases ado.1 (adJ h) with rfl|hu
    ·exact ha
    ·have:=h1 t hu;omega
   simp[this]
theorem Cn (t:Tm) (k:Nat):cj (ja t) (k:Int)=some (kn (t.1:Int) (k:Int)):=by
 unfold cj
 rw[BM];rfl
theorem Kn {a b:Int} : kn a b<0↔a<b:=by unfold kn;split<;>(try split)<;>simp at *<;>omega
theorem Fq {a b:Int} : kn a b=0↔a=b:=by unfold kn;split<;>(try split)<;>simp at *<;>omega
theorem OJ {T:List Tm} (hs:gZ T) (hl:T.length<=2000) (k:Nat) :
  aR (T.map ja) (k:Int)=some (((jZ T k).length:Int),(dW T k).isSome):=by
 have hlo:(jZ T k).length<=T.length:=afT ..
 have key:=fun hst=>oK (body:=bA (T.map ja) (k:Int)) (I:=fun (s:Int×Int)=>∃lo hi:Nat,s=((lo:Int),(hi:Int))∧lo<=(jZ T k).length∧(jZ T k).length<=hi∧hi<=T.length) (μ:=fun (s:Int×Int)=>(s.2-s.1).toNat)
  (fun r=>r=((jZ T k).length:Int)) (s:=(0,((T.map ja).length:Int))) ⟨0,T.length,by simp,by omega,hlo,adh _⟩ (by simp only[adL];unfold FU;omega) hst
 obtain⟨r,h1,rfl⟩:=key (by
  rintro _ ⟨lo,hi,rfl,h1,h2,h3⟩
  simp only[bA]
  by_cases hc:lo<hi
  ·have hm:(lo+hi) / 2<T.length:=by omega
   have hg:(T.map ja)[(lo+hi) / 2]? = some (ja T[(lo+hi) / 2]):=by rw[ade,adu hm];rfl
   have hlt:=Zy (k:=k) hs ((lo+hi) / 2) _ (adu hm)
   have e1:IntKind.i64.wrap ((lo:Int)+hi)=(lo:Int)+hi:=wrap64 (by omega) (by omega)
   have e2:IntKind.u64.wrap ((lo:Int)+hi)=(lo:Int)+hi:=wu (by omega)
   have e3:IntKind.i64.wrap (((lo:Int)+hi) / 2)=(((lo+hi) / 2:Nat):Int):=by rw[wrap64 (by omega) (by omega)];omega
   rw[if_pos (by simpa using hc),e1,e2,abq,aeL,e3,bT hg,aeL,Cn,aeL]
   refine .inl ?_
   by_cases hk:T[(lo+hi) / 2].1<k
   ·rw[if_pos (by simp only[decide_eq_true_eq];exact Kn.2 (by omega)),cG (by omega)]
    refine⟨_,rfl,⟨(lo+hi) / 2+1,hi,rfl,by have:=hlt.1 hk;omega,h2,h3⟩,?_⟩
    simp only;omega
   ·rw[if_neg (by simp only[decide_eq_true_eq];intro h;exact hk (by have:=Kn.1 h;omega))]
    refine⟨_,rfl,⟨lo,(lo+hi) / 2,rfl,h1,by have:¬(lo+hi) / 2<(jZ T k).length:=fun h=>hk (hlt.2 h);omega,by omega⟩,?_⟩
    simp only;omega
  ·rw[if_neg (by simpa using hc)]
   exact .inr ⟨_,rfl,by omega⟩)
 unfold aR
 rw[h1,aeL]
 rcases vt (k:=k) hs with⟨g1,g2⟩|⟨c,g1,g2⟩
 ·rw[g1]
  by_cases hlt:(jZ T k).length<T.length
  ·have hg:(T.map ja)[(jZ T k).length]? = some (ja T[(jZ T k).length]):=by rw[ade,adu hlt];rfl
   rw[if_pos (by simpa using hlt),bT hg,aeL,Cn,aeL]
   have hne:T[(jZ T k).length].1≠k:=by
    have hm:T[(jZ T k).length]∈jZ T k++yr T k:=by rw[<- g2];exact adt hlt
    rcases aep.1 hm with h|h
    ·have:=(IS.1 h).2;omega
    ·have:=(CT.1 h).2;omega
   have:kn (T[(jZ T k).length].1:Int) (k:Int)≠0:=fun h=>hne (by have:=Fq.1 h;omega)
   simp[this]
  ·rw[if_neg (by simpa using hlt)];rfl
 ·rw[g1]
  have hgT:T[(jZ T k).length]? = some (k,c):=by
   have:(jZ T k++(k,c)::yr T k)[(jZ T k).length]? = some (k,c):=by simp
   rwa [<- g2]at this
  have hlt:=cy hgT
  have hg:(T.map ja)[(jZ T k).length]? = some (ja (k,c)):=by rw[ade,hgT];rfl
  rw[if_pos (by simpa using hlt),bT hg,aeL,Cn,aeL]
  have:kn ((k,c).1:Int) (k:Int)=0:=Fq.2 rfl
  rw[this];rfl
theorem find_eq {e:QE} (hs:gZ e.T) (hl:e.T.length<=2000) (k:Nat):ck (mkEq e) (k:Int)=some (mkEq e,((jZ e.T k).length:Int),(dW e.T k).isSome):=by
 unfold ck mkEq
 rw[OJ hs hl,aeL]
theorem Dm {a x y:Rat} (h:LF a+(LF x+LF y)+1<=fw):e9 (di a) (di x) (di y)=some (di (a+x*y)):=by
 unfold e9
 have:=A7 x y
 rw[aaN (by omega),aeL]
 simp only
 rw[YP (by omega),aeL]
theorem aa2:gS 0=some (di 0):=YR (n:=0) (by decide)
theorem Oo:LF 1<=1:=Om (n:=1) (by decide)
theorem UD:LF 0<=1:=Om (n:=0) (by decide)
def aaS (e:QE) (k:Nat) (v:Rat):QE:=⟨e.D,Bi e.T k v⟩
theorem aaT {N K:Nat} {e:QE} (he:QR N K e.T) (hN:N<=2000) {k:Nat} {v:Rat} (h:K+LF v+10<=fw):dF (mkEq e) (k:Int) (di v)=some (mkEq (aaS e k v),()):=by
 have hl:=he.len
 unfold dF
 rw[find_eq he.sorted (by omega),aeL]
 simp only
 have hLF1:=Oo
 rcases vt (k:=k) he.sorted with⟨g1,g2⟩|⟨c,g1,g2⟩
 ·rw[g1]
  simp only[Option.isSome_none,adR,if_false]
  have hll:(jZ e.T k).length<=e.T.length:=afT ..
  have hins:V4 72 (mkEq e).bl ((jZ e.T k).length:Int) [dC.mk (k:Int) (di v)]=some ((Bi e.T k v).map ja):=by
   unfold V4 mkEq
   simp only[adL,List.length_cons,List.length_nil,Int.toNat_natCast]
   rw[if_pos ⟨by omega,by omega,by omega,by omega⟩]
   congr 1
   have e1:e.T.map ja=(jZ e.T k).map ja++(yr e.T k).map ja:=by rw[<- aeE,<- g2]
   unfold Bi ID
   rw[g1,e1,List.take_left' (by simp),List.drop_left' (by simp),aeE,adn]
   simp only[Option.getD_none,List.cons_append,List.nil_append]
   congr 2
   unfold ja
   simp only
   congr 1
   rw[Rat.zero_add]
  rw[hins];rfl
 ·rw[g1]
  simp only[Option.isSome_some,if_true]
  have hgT:e.T[(jZ e.T k).length]? = some (k,c):=by
   have:(jZ e.T k++(k,c)::yr e.T k)[(jZ e.T k).length]? = some (k,c):=by simp
   rwa [<- g2]at this
  have hg:(e.T.map ja)[(jZ e.T k).length]? = some (ja (k,c)):=by rw[ade,hgT];rfl
  have hck:LF c<=K:=he.sz (k,c) (mL g1)
  have e0:(mkEq e).bl=e.T.map ja:=rfl
  rw[e0,bT hg,aeL,aad,aeL]
  simp only[ja]
  rw[Dm (by omega),aeL,aeg]
  unfold aaS Bi ID mkEq
  rw[g1]
  simp only[Option.getD_some]
  have e1:e.T.map ja=(jZ e.T k).map ja++ja (k,c)::(yr e.T k).map ja:=by rw[<- adn,<- aeE,<- g2]
  have e2:((e.T.map fun t=>dC.mk (t.1:Int) (di t.2)).set (jZ e.T k).length (dC.mk (k:Int) (di (c+v*1))))=(jZ e.T k++(k,c+v)::yr e.T k).map ja:=by
   show (e.T.map ja).set (jZ e.T k).length _=_
   rw[e1,List.set_append_right _ _ (by simp),adL,ael,List.set_cons_zero,aeE,adn]
   unfold ja
   simp only
   congr 4
   grind
  rw[<- e2];rfl
def gT (e:QE) (p:Nat):QE:=match dW e.T p with|none=>e|some c=>⟨e.D / (1-c),(iQ e.T p).map fun t=>(t.1,t.2 / (1-c))⟩
theorem Vp {T:List Tm} {k:Nat} {c:Rat} (hl:T.length<=2000) (g:T=jZ T k++(k,c)::yr T k):Vo (T.map ja) ((jZ T k).length:Int) (IntKind.i64.wrap (((jZ T k).length:Int)+1))=some ((iQ T k).map ja):=by
 have hlen:T.length=(jZ T k).length+1+(yr T k).length:=by
  have:=congrArg List.length g
  simp only[aej,List.length_cons]at this
  omega
 rw[cG (by omega)]
 unfold Vo
 have:(2000:Nat)<=maxLen:=by decide
 rw[if_pos ⟨by omega,by omega,by simp;omega,by simp;omega⟩,aeg,aeg]
 have e1:T.map ja=(jZ T k).map ja++ja (k,c)::(yr T k).map ja:=by rw[<- adn,<- aeE,<- g]
 rw[e1,List.take_left' (by simp)]
 have e2:((jZ T k).map ja++ja (k,c)::(yr T k).map ja).drop ((jZ T k).length+1)=(yr T k).map ja:=by
  rw[aeY,aeZ (by simp)]
  simp
 rw[e2]
 unfold iQ
 rw[aeE]
theorem Y4 {a b:Rat} (h:LF a+LF b<=fw) (h0:b≠0):lx (di a) (di b)=some (di (a / b),0):=aaM h h0
theorem Yl {N K:Nat} {e:QE} (he:QR N K e.T) (hD:LF e.D<=K) (hN:N<=2000) (hK:2*K+10<=fw) {p:Nat} (hc:∀c,dW e.T p=some c->1-c≠0):cZ (mkEq e) (p:Int)=some (mkEq (gT e p),()):=by
 have hl:=he.len
 unfold cZ
 rw[find_eq he.sorted (by omega),aeL]
 simp only
 have hLF1:=Oo
 unfold gT
 rcases vt (k:=p) he.sorted with⟨g1,g2⟩|⟨c,g1,g2⟩
 ·rw[g1];rfl
 ·rw[g1]
  simp only[Option.isSome_some,aeC,adR,if_false]
  have hgT:e.T[(jZ e.T p).length]? = some (p,c):=by
   have:(jZ e.T p++(p,c)::yr e.T p)[(jZ e.T p).length]? = some (p,c):=by simp
   rwa [<- g2]at this
  have hg:(e.T.map ja)[(jZ e.T p).length]? = some (ja (p,c)):=by rw[ade,hgT];rfl
  have hck:LF c<=K:=he.sz (p,c) (mL g1)
  have h0:=hc c g1
  have e0:(mkEq e).bl=e.T.map ja:=rfl
  have e3:(mkEq e).aQ=di e.D:=rfl
  rw[aad,aeL,e0,bT hg,aeL]
  simp only[ja]
  have hs1:=Oq 1 c
  rw[YY (by omega),aeL]
  have hd:fv (e.T.map ja) ((jZ e.T p).length:Int) (IntKind.i64.wrap (((jZ e.T p).length:Int)+1))=some ((iQ e.T p).map ja):=by unfold fv;exact Vp (by omega) g2
  rw[hd,aeL,e3]
  simp only
  rw[Y4 (by omega) h0,aeL]
  have hrl:=(he.rem p).len
  have key:=fun hs hend=>yP (body:=dK (di (1-c),0) ((iQ e.T p).map ja)) (iQ e.T p) (by omega) (fun i (l:List dC)=>l.length=(iQ e.T p).length∧∀(j:Nat) t,(iQ e.T p)[j]? = some t->l[j]? = some (if j<i then ja (t.1,t.2 / (1-c)) else ja t)) (fun l=>l=((iQ e.T p).map fun t=>(t.1,t.2 / (1-c))).map ja) (s0:=(iQ e.T p).map ja)
   ⟨by simp,fun j t ht=>by rw[ade,ht,if_neg (by omega)];rfl⟩ hs hend
  obtain⟨r,h1,rfl⟩:=key (by
   rintro i t l ht ⟨hl1,hI⟩
   have hi:=cy ht
   have hgl:=hI i t ht
   rw[if_neg (by omega)]at hgl
   have hst:=he.sz t (ik.1 (adJ ht)).1
   refine⟨l.set i (ja (t.1,t.2 / (1-c))),?_,by simpa using hl1,fun j u hu =>?_⟩
   ·simp only[dK]
    rw[if_pos (by simp;omega),bT hgl,aeL]
    simp only[ja]
    rw[Y4 (by omega) h0,aeL,cG (by omega),aeg]
   ·rw[List.getElem?_set]
    by_cases hij:i=j
    ·subst hij
     rw[hu]at ht
     cases ht
     rw[if_pos rfl,if_pos (by omega),if_pos (by omega)]
    ·rw[if_neg hij,hI j u hu]
     by_cases hj:j<i
     ·rw[if_pos hj,if_pos (by omega)]
     ·rw[if_neg hj,if_neg (by omega)]) (by
   rintro l ⟨hl1,hI⟩
   refine⟨l,?_,?_⟩
   ·simp only[dK];rw[if_neg (by simp)]
   ·apply afh
    intro j
    rw[ade,ade]
    cases hj:(iQ e.T p)[j]? with
    | none =>
     have:(iQ e.T p).length<=j:=by simpa using hj
     rw[aeN (by omega)];rfl
    | some t=>rw[hI j t hj,if_pos (cy hj)];rfl)
  rw[h1,aeL]
  rfl
def iT (c:Rat):List Tm->List Tm->List Tm
 | [],T=>T
 | b::B,T=>iT c B (Bi T b.1 (c*b.2))
def y5 (e:QE) (p:Nat) (b:QE):QE:=match dW e.T p with|none=>e|some c=>⟨e.D+c*b.D,iT c b.T (iQ e.T p)⟩
theorem rn (c:Rat):∀(A B T:List Tm),iT c (A++B) T=iT c B (iT c A T)
 | [],_,_=>rfl
 | a::A,B,T=>by rw[ae6,iT,iT,rn c A B]
theorem ER {T:List Tm} (h:gZ T) (k:Nat) (v:Rat):gZ (Bi T k v):=WV h k _
theorem Cp (c:Rat):∀(B:List Tm) {T:List Tm},gZ T->gZ (iT c B T)
 | [],_,h=>h
 | b::B,_,h=>Cp c B (ER h _ _)
theorem Mc (c:Rat) (x:Nat->Rat):∀(B:List Tm) {T:List Tm},gZ T->cJ (iT c B T) x=cJ T x+c*cJ B x
 | [],T,_=>by simp only[iT,cJ];grind
 | b::B,T,h=>by
  rw[iT,Mc c x B (ER h _ _),Yi h,cJ]
  grind
theorem wE (c:Rat) {R:Nat->Prop} : ∀(B:List Tm) {T:List Tm},(∀t∈T,R t.1)->(∀b∈B,R b.1)->∀t∈iT c B T,R t.1
 | [],_,h,_=>h
 | b::B,T,h,hB=>wE c B (T:=Bi T b.1 (c*b.2)) (fun t ht=>by
   rcases IQ.1 ht with rfl|ht
   ·exact hB b (aeH ..)
   ·exact h t (ik.1 ht).1) fun u hu=>hB u (aeI _ hu)
theorem Lb {c:Rat} (hc:0<=c):∀(B:List Tm) {T:List Tm},(∀t∈T,0<=t.2)->(∀b∈B,0<=b.2)->∀t∈iT c B T,0<=t.2
 | [],_,h,_=>h
 | b::B,T,h,hB=>Lb hc B (T:=Bi T b.1 (c*b.2)) (fun t ht=>by
   rcases IQ.1 ht with rfl|ht
   ·have h1:=afZ hc (hB b (aeH ..))
    simp only
    cases hcf:dW T b.1 with
    | none=>simp only[Option.getD_none];grind
    | some a=>have:=h _ (mL hcf);simp only[Option.getD_some]at *;grind
   ·exact h t (ik.1 ht).1) fun u hu=>hB u (aeI _ hu)
theorem RQ {K1 K2:Nat} {c:Rat} (hc:LF c<=K1):∀(A B:List Tm) {T:List Tm},gZ (A++B)->(∀b∈A++B,LF b.2<=K2)->(∀t∈T,LF t.2<=K1)->∀t∈iT c A T,LF t.2<=2*K1+K2+1∧((∀a∈A,a.1≠t.1)->LF t.2<=K1)
 | [],_,_,_,_,h,t,ht=>⟨by have:=h t ht;omega,fun _=>h t ht⟩
 | a::A,B,T,hs,hz,h,t,ht=>by
  obtain⟨A',z,hA⟩:∃A' z,a::A=A'++[z]:=⟨(a::A).dropLast,(a::A).getLast (by simp),(List.dropLast_concat_getLast (by simp)).symm⟩
  have hlen:A'.length<(a::A).length:=by rw[hA];simp
  rw[hA,rn]at ht
  simp only[iT]at ht
  rw[hA,aev]at hs hz
  have ih:=RQ hc A' ([z]++B) (T:=T) hs hz h
  have hzK:=hz z (adw _ (adv _ (aeH ..)))
  rw[hA]
  rcases IQ.1 ht with rfl|ht
  ·refine⟨?_,fun hn=>absurd rfl (hn z (adw _ (aeH ..)))⟩
   simp only
   have hm:=A7 c z.2
   cases hcf:dW (iT c A' T) z.1 with
   | none=>rw[af1,Rat.zero_add];omega
   | some y =>
    have h1:=(ih _ (mL hcf)).2 fun u hu=>by
     have:=(aeQ.1 hs).2.2 u hu z (adv _ (aeH ..))
     simp only;omega
    have:=HY y (c*z.2)
    rw[ad6]
    simp only at h1
    omega
  ·obtain⟨h1,h2⟩:=ih t (ik.1 ht).1
   exact⟨h1,fun hn=>h2 fun u hu=>hn u (adv _ hu)⟩
 termination_by A=>A.length
structure QQ (N K:Nat) (e:QE):Prop where
 t:QR N K e.T
 d:LF e.D<=K
theorem QQ.mono {N K K':Nat} {e:QE} (h:QQ N K e) (hk:K<=K'):QQ N K' e:=⟨h.t.mono hk,adj h.d hk⟩
theorem TA (c:Rat) {B:List Tm} {i:Nat} {b:Tm} (h:B[i]? = some b) (T:List Tm):iT c (B.take (i+1)) T=Bi (iT c (B.take i) T) b.1 (c*b.2):=by
 obtain⟨hi,he⟩:=adK.1 h
 rw[afR hi,rn,he];rfl
theorem La {N K1 K2:Nat} {c:Rat} (hc:LF c<=K1) {B T:List Tm} (hB:QR N K2 B) (hT:QR N K1 T) (i:Nat):QR N (2*K1+K2+1) (iT c (B.take i) T) where
 sorted:=Cp c _ hT.sorted
 lt:=wE c (R:=fun p=>p<N) _ hT.lt fun b hb=>hB.lt b (ad1 hb)
 sz t ht:=(RQ (K1:=K1) (K2:=K2) hc (B.take i) (B.drop i) (by rw[ae2];exact hB.sorted) (by rw[ae2];exact hB.sz) hT.sz t ht).1
theorem Yy {N K1 K2:Nat} {e b:QE} (he:QQ N K1 e) (hb:QQ N K2 b) (p:Nat):QQ N (2*K1+K2+1) (y5 e p b):=by
 unfold y5
 cases hcf:dW e.T p with
 | none=>exact he.mono (by omega)
 | some c =>
  have hc:LF c<=K1:=he.t.sz _ (mL hcf)
  have h1:=La hc hb.t (he.t.rem p) b.T.length
  rw[afg]at h1
  refine⟨h1,?_⟩
  have h2:=HY e.D (c*b.D)
  have h3:=A7 c b.D
  have:=he.d
  have:=hb.d
  simp only
  omega
theorem Gu {N K:Nat} {e:QE} (he:QQ N K e) (p:Nat) (h0:∀c,dW e.T p=some c->1-c≠0):QQ N (2*K+2) (gT e p):=by
 unfold gT
 cases hcf:dW e.T p with
 | none=>exact he.mono (by omega)
 | some c =>
  have hc:LF c<=K:=he.t.sz _ (mL hcf)
  have h1:=Oq 1 c
  have h2:=Oo
  have h3:=h0 c hcf
  refine⟨⟨?_,?_,?_⟩,?_⟩
  ·simp only
   rw[gZ,List.pairwise_map]
   exact (DM he.t.sorted p)
  ·intro t ht
   simp only[adg]at ht
   obtain⟨u,hu,rfl⟩:=ht
   exact he.t.lt u (ik.1 hu).1
  ·intro t ht
   simp only[adg]at ht
   obtain⟨u,hu,rfl⟩:=ht
   have:=he.t.sz u (ik.1 hu).1
   have:=UB (a:=u.2) h3
   simp only
   omega
  ·have:=he.d
   have:=UB (a:=e.D) h3
   simp only
   omega
end Go.Proofs.Ytchndpjlijbplaa.P
