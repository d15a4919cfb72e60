/- Part of a proof, made small by a program (wip/mini.py). -/
import Derived.Test.YtchndpjlijbplaaMe
namespace Go.Proofs.Ytchndpjlijbplaa.Am
open Go.RowKit Go.Proofs.Ytchndpjlijbplaa.P
set_option maxRecDepth 100000
set_option maxHeartbeats 4000000
set_option linter.unusedSimpArgs false
set_option linter.unusedVariables false
theorem D6 (p0:bR) (p1:(List ak)) (p2:(List ak)) (r:Bool) (hh:kK p0 p1 p2=some r):a7 .clean tab mn FU Try.f15 none [.agg [.int .i64 p0.aG,.sl false false p0.ax.length (ae ba p0.ax)],.sl false false p1.length (ae ay p1),.sl false false p2.length (ae ay p2)]=some (.clean (.bool r),none):=by
 refine aB rfl Try.ntmps15 Try.results15 ?_
 unfold kK at hh
 obtain⟨r1,hr1,hh⟩:=ah hh
 try simp only[aS,seval,hr1]
 obtain⟨o2,ho2,hh⟩:=ah hh
 refine bS 0 (fun s t H e=>match s with|s28j1=>∃v3j1:Nat,t 1=.sl false false p1.length (ae ay p1)∧t 2=.sl false false p2.length (ae ay p2)∧t 3=.ptr 3 v3j1 0∧t 28=.bool s28j1∧H 3=some ⟨v3j1,24,[.int .i64 p0.aG,.sl false false p0.ax.length (ae ba p0.ax)],false,false,false⟩) (fun s=>s=o2) ?_ ?_
 ·rintro s28j1 t H e ⟨v3j1,Zj1⟩ rfl
  try dsimp only at hh
  try simp only[aS,seval,hr1,Zj1]
  refine sp an hh (fun _ hh =>?_) (fun _ hh =>?_)
  ·cases hh
   try simp only[aS,seval,hr1,Zj1]
  ·obtain⟨r4,hr4,hh⟩:=ah hh
   try simp only[aS,seval,hr1,Zj1,hr4]
   obtain⟨o19,ho19,hh⟩:=ah hh
   refine aA (fun s t H e=>match s with|s33b=>t 2=.sl false false p2.length (ae ay p2)∧t 31=.sl false false r4.length (ae cz r4)∧t 32=.int .i64 (r4.length:Int)∧t 33=.int .i64 s33b) (fun o x t H e=>match o with|(.inl _)=>x=.exit 0|(.inr r)=>x=.ret∧jl .clean tab none [.tmp 6] ⟨t,EH H,e⟩=some (.clean (.bool r),none)) ho19 ?_ ?_ ?_
   ·refine⟨?_,?_,?_,?_⟩
    all_goals first|rfl|(simp only[aS,seval,hr1,Zj1,hr4]<;>rfl)
   ·rintro s33b t H e Zb c hh
    simp only[tV]at hh
    try simp only[aS,seval,hr1,hr4,Zb]
    refine sp an hh (fun _ hh =>?_) (fun _ hh =>?_)
    ·obtain⟨x21,hx21,hh⟩:=ah hh
     have ax21:=bN cz hx21
     simp only[bJ]at ax21
     try simp only[aS,seval,hr1,hr4,Zb,ax21]
     obtain⟨o26,ho26,hh⟩:=ah hh
     refine aA (fun s t H e=>match s with|(s43d,r9_0d,r9_1d,r9_2d,r9_3d)=>∃v9d:Nat,t 2=.sl false false p2.length (ae ay p2)∧t 7=.int .i64 s33b∧t 9=.ptr 9 v9d 0∧t 31=.sl false false r4.length (ae cz r4)∧t 32=.int .i64 (r4.length:Int)∧t 33=.int .i64 s33b∧t 41=.sl false false x21.bk.length (ae bm x21.bk)∧t 42=.int .i64 (x21.bk.length:Int)∧t 43=.int .i64 s43d∧H 9=some ⟨v9d,41,[.int .i64 r9_0d,.sl false false r9_1d.length (ae (eI .i64) r9_1d),.int .i64 r9_2d,.sl false false r9_3d.length (ae (eI .i64) r9_3d)],false,false,false⟩) (fun o x t H e=>match o with|(r9_0dx,r9_1dx,r9_2dx,r9_3dx)=>x=.exit 2∧∃v9dx:Nat,t 2=.sl false false p2.length (ae ay p2)∧t 7=.int .i64 s33b∧t 9=.ptr 9 v9dx 0∧t 31=.sl false false r4.length (ae cz r4)∧t 32=.int .i64 (r4.length:Int)∧t 33=.int .i64 s33b∧H 9=some ⟨v9dx,41,[.int .i64 r9_0dx,.sl false false r9_1dx.length (ae (eI .i64) r9_1dx),.int .i64 r9_2dx,.sl false false r9_3dx.length (ae (eI .i64) r9_3dx)],false,false,false⟩) ho26 ?_ ?_ ?_
     ·refine⟨e+1+1,?_,?_,?_,?_,?_,?_,?_,?_,?_,?_⟩
      all_goals first|rfl|(simp only[aS,seval,hr1,hr4,Zb,ax21]<;>rfl)
     ·rintro⟨s43d,r9_0d,r9_1d,r9_2d,r9_3d⟩ t H e ⟨v9d,Zd⟩ c hh
      simp only[tW]at hh
      try simp only[aS,seval,hr1,hr4,ax21,Zd]
      refine sp an hh (fun _ hh =>?_) (fun _ hh =>?_)
      ·obtain⟨x28,hx28,hh⟩:=ah hh
       have ax28:=bN bm hx28
       simp only[bJ]at ax28
       obtain⟨x29,hx29,hh⟩:=ah hh
       have ax29:=bN ay hx29
       simp only[bJ]at ax29
       obtain⟨r30,hr30,hh⟩:=ah hh
       try simp only[aS,seval,hr1,hr4,ax21,Zd,ax28,ax29,hr30]
       refine bo (by kernel_rfl) ?_
       cases hh
       try simp only[aS,seval,hr1,hr4,ax21,Zd,ax28,ax29,hr30]
       refine j5 ?_
       refine⟨v9d,?_,?_,?_,?_,?_,?_,?_,?_,?_,?_⟩
       all_goals first|rfl|(simp only[aS,seval,hr1,hr4,ax21,Zd,ax28,ax29,hr30]<;>rfl)
      ·cases hh
       try simp only[aS,seval,hr1,hr4,ax21,Zd]
       refine ll ?_
       refine⟨rfl,⟨v9d,?_,?_,?_,?_,?_,?_,?_⟩⟩
       all_goals first|rfl|(simp only[aS,seval,hr1,hr4,ax21,Zd]<;>rfl)
     ·rintro x t H e hx
      rcases o26 with⟨r9_0dx,r9_1dx,r9_2dx,r9_3dx⟩
      dsimp only at hx hh
      obtain⟨rfl,⟨v9dx,Zdx⟩⟩:=hx
      obtain⟨x31,hx31,hh⟩:=ah hh
      have ax31:=bN ay hx31
      simp only[bJ]at ax31
      obtain⟨r32,hr32,hh⟩:=ah hh
      try simp only[aS,seval,hr1,hr4,ax21,Zdx,ax31,hr32]
      refine bo (by kernel_rfl) ?_
      try simp only[aS,seval,hr1,hr4,ax21,Zdx,ax31,hr32]
      refine sp an hh (fun _ hh =>?_) (fun _ hh =>?_)
      ·cases hh
       try simp only[aS,seval,hr1,hr4,ax21,Zdx,ax31,hr32]
       refine IZ ⟨rfl,?_⟩
       try simp only[aS,seval,hr1,hr4,ax21,Zdx,ax31,hr32]
      ·cases hh
       try simp only[aS,seval,hr1,hr4,ax21,Zdx,ax31,hr32]
       refine j5 ?_
       refine⟨?_,?_,?_,?_⟩
       all_goals first|rfl|(simp only[aS,seval,hr1,hr4,ax21,Zdx,ax31,hr32]<;>rfl)
    ·cases hh
     try simp only[aS,seval,hr1,hr4,Zb]
     refine ll ?_
     exact rfl
   ·rintro x t H e hx
    rcases o19 with _|rb
    ·dsimp only at hx hh
     subst hx
     cases hh
     try simp only[aS,seval,hr1,hr4]
    ·dsimp only at hx hh
     obtain⟨rfl,hE⟩:=hx
     cases hh
     try simp only[bP,bH,b7,eH,eE,dI,dJ]
     exact hE
 ·clear hh
  have hh:=ho2
  try simp only[aS,seval,hr1]
  refine sp bB hh (fun _ hh =>?_) (fun _ hh =>?_)
  ·cases hh
   try simp only[aS,seval,hr1]
   rw[au]
   refine⟨_,rfl,?_⟩
   refine⟨0,?_,?_,?_,?_,?_⟩
   all_goals first|rfl|(simp only[aS,seval,hr1]<;>rfl)
  ·obtain⟨r35,hr35,hh⟩:=ah hh
   try simp only[aS,seval,hr1,hr35]
   refine sp bB hh (fun _ hh =>?_) (fun _ hh =>?_)
   ·cases hh
    try simp only[aS,seval,hr1,hr35]
    rw[au]
    refine⟨_,rfl,?_⟩
    refine⟨0,?_,?_,?_,?_,?_⟩
    all_goals first|rfl|(simp only[aS,seval,hr1,hr35]<;>rfl)
   ·obtain⟨r37,hr37,hh⟩:=ah hh
    cases hh
    try simp only[aS,seval,hr1,hr35,hr37]
    rw[au]
    refine⟨_,rfl,?_⟩
    refine⟨0,?_,?_,?_,?_,?_⟩
    all_goals first|rfl|(simp only[aS,seval,hr1,hr35,hr37]<;>rfl)
theorem tH:bW Try.prog 15 me:=bW.of (mode := .clean) tok Cd mixed Try.func15 (by kernel_rfl) ⟨by kernel_rfl,by kernel_rfl⟩ (fun _=>aej (by kernel_rfl)) (fun x r h=>D6 x.1 x.2.1 x.2.2 r h)
noncomputable def v8:=fU (jg (de mD) (jg (mX (eI .i64)) (fQ (mX (eI .i64))))) (fun x:bR×(List Int)×(List Int)=>mH x.1 x.2.1 x.2.2) (fun r:Bool =>.clean (.bool r))
theorem l7 (p0_0:Int) (p0_1:(List dk)) (p1:(List Int)) (p2:(List Int)):v8 none [.agg [.int .i64 p0_0,.sl false false p0_1.length (ae ba p0_1)],.sl false false p1.length (ae (eI .i64) p1),.sl false false p2.length (ae (eI .i64) p2)]=(mH (bR.mk p0_0 p0_1) p1 p2).map fun r:Bool=>(.clean (.bool r),none):=aV _ _ _ ((bR.mk p0_0 p0_1),p1,p2)
noncomputable def rp:Env:=(Am.ext (Am.ext (Am.ext (Am.ext a6 13 false n5) 15 false me) 16 false wg) 32 false qB)
theorem KK:bC Try.prog rp:=((((bC.none.add tI false).add tH false).add MF false).add zE false)
theorem ie:type_of% (ai @w<|ai @jb<|ai @jS<|ai @Da<|ai @iZ<|@rp.eq_1):=⟨@w,@jb,@jS,@Da,@iZ,@rp.eq_1⟩
theorem OV (p0:bR) (p1:(List Int)) (p2:(List Int)) (r:Bool) (hh:mH p0 p1 p2=some r):a7 .clean tab rp FU Try.f33 none [.agg [.int .i64 p0.aG,.sl false false p0.ax.length (ae ba p0.ax)],.sl false false p1.length (ae (eI .i64) p1),.sl false false p2.length (ae (eI .i64) p2)]=some (.clean (.bool r),none):=by
 refine aB rfl Try.ntmps33 Try.results33 ?_
 unfold mH at hh
 obtain⟨r1,hr1,hh⟩:=ah hh
 obtain⟨r2,hr2,hh⟩:=ah hh
 try simp only[ie,seval,hr1,hr2]
 refine bo (by kernel_rfl) ?_
 try simp only[ie,seval,hr1,hr2]
 refine sp sd hh (fun _ hh =>?_) (fun _ hh =>?_)
 ·obtain⟨r4,hr4,hh⟩:=ah hh
  obtain⟨r5,hr5,hh⟩:=ah hh
  try simp only[ie,seval,hr1,hr2,hr4,hr5]
  refine sp sd hh (fun _ hh =>?_) (fun _ hh =>?_)
  ·obtain⟨r7,hr7,hh⟩:=ah hh
   try simp only[ie,seval,hr1,hr2,hr4,hr5,hr7]
   refine bo (by kernel_rfl) ?_
   cases hh
   try simp only[ie,seval,hr1,hr2,hr4,hr5,hr7]
  ·try simp only[ie,seval,hr1,hr2,hr4,hr5]
   refine bo (by kernel_rfl) ?_
   cases hh
   try simp only[ie,seval,hr1,hr2,hr4,hr5]
 ·try simp only[ie,seval,hr1,hr2]
  refine bo (by kernel_rfl) ?_
  cases hh
  try simp only[ie,seval,hr1,hr2]
theorem MA:bW Try.prog 33 v8:=bW.of (mode := .clean) tok KK mixed Try.func33 (by kernel_rfl) ⟨by kernel_rfl,by kernel_rfl⟩ (fun _=>aej (by kernel_rfl)) (fun x r h=>OV x.1 x.2.1 x.2.2 r h)
noncomputable def sQ:=fU (as0) (fun x:Unit=>nR) (fun r:Bool =>.clean (.bool r))
theorem zM:sQ none []=(nR).map fun r:Bool=>(.clean (.bool r),none):=aV _ _ _ ()
noncomputable def pe:Env:=(Am.ext (Am.ext (Am.ext (Am.ext (Am.ext a6 13 false n5) 15 false me) 31 false wa) 32 false qB) 33 false v8)
theorem HV:bC Try.prog pe:=(((((bC.none.add tI false).add tH false).add MB false).add zE false).add MA false)
theorem bp:type_of% (ai @w<|ai @jb<|ai @jS<|ai @C7<|ai @iZ<|ai @l7<|@pe.eq_1):=⟨@w,@jb,@jS,@C7,@iZ,@l7,@pe.eq_1⟩
theorem LV (r:Bool) (hh:nR=some r):a7 .clean tab pe FU Try.f8 none []=some (.clean (.bool r),none):=by
 refine aB rfl Try.ntmps8 Try.results8 ?_
 unfold nR at hh
 obtain⟨r1,hr1,hh⟩:=ah hh
 obtain⟨r2,hr2,hh⟩:=ah hh
 obtain⟨r3,hr3,hh⟩:=ah hh
 obtain⟨r4,hr4,hh⟩:=ah hh
 obtain⟨r5,hr5,hh⟩:=ah hh
 obtain⟨r6,hr6,hh⟩:=ah hh
 have i7:=iZ ([1,0])
 simp only[aK,bJ,List.length_cons,List.length_nil,adq,Nat.reduceAdd,aeB]at i7
 obtain⟨r8,hr8,hh⟩:=ah hh
 have i9:=jb 2 ([r3,r6]) r8
 simp only[aK,bJ,List.length_cons,List.length_nil,adq,Nat.reduceAdd,aeB]at i9
 obtain⟨r10,hr10,hh⟩:=ah hh
 try simp only[bp,seval,hr1,hr2,hr3,hr4,hr5,hr6,i7,hr8,i9,hr10]
 refine bo (by kernel_rfl) ?_
 have i11:=iZ ([1])
 simp only[aK,bJ,List.length_cons,List.length_nil,adq,Nat.reduceAdd,aeB]at i11
 obtain⟨r12,hr12,hh⟩:=ah hh
 have i13:=jb 2 ([r1,r2]) r12
 simp only[aK,bJ,List.length_cons,List.length_nil,adq,Nat.reduceAdd,aeB]at i13
 obtain⟨r14,hr14,hh⟩:=ah hh
 try simp only[bp,seval,hr1,hr2,hr3,hr4,hr5,hr6,i7,hr8,i9,hr10,i11,hr12,i13,hr14]
 refine bo (by kernel_rfl) ?_
 have i15:=l7 2 ([r1,r2]) ([30,0]) ([40,20])
 simp only[aK,bJ,List.length_cons,List.length_nil,adq,Nat.reduceAdd,aeB]at i15
 obtain⟨r16,hr16,hh⟩:=ah hh
 try simp only[bp,seval,hr1,hr2,hr3,hr4,hr5,hr6,i7,hr8,i9,hr10,i11,hr12,i13,hr14,i15,hr16]
 obtain⟨o17,ho17,hh⟩:=ah hh
 refine bS 0 (fun s t H e=>match s with|s9j1=>∃v1j1:Nat,t 1=.ptr 1 v1j1 0∧t 6=.int .i64 r10.2∧t 8=.int .i64 r14.2∧t 9=.bool s9j1∧H 1=some ⟨v1j1,24,[.int .i64 2,.sl false false ([r1,r2]).length (ae ba ([r1,r2]))],false,false,false⟩) (fun s=>s=o17) ?_ ?_
 ·rintro s9j1 t H e ⟨v1j1,Zj1⟩ rfl
  try dsimp only at hh
  try simp only[bp,seval,hr1,hr2,hr3,hr4,hr5,hr6,i7,hr8,i9,hr10,i11,hr12,i13,hr14,i15,hr16,Zj1]
  refine sp sd hh (fun _ hh =>?_) (fun _ hh =>?_)
  ·try simp only[bp,seval,hr1,hr2,hr3,hr4,hr5,hr6,i7,hr8,i9,hr10,i11,hr12,i13,hr14,i15,hr16,Zj1]
   refine sp sd hh (fun _ hh =>?_) (fun _ hh =>?_)
   ·try simp only[bp,seval,hr1,hr2,hr3,hr4,hr5,hr6,i7,hr8,i9,hr10,i11,hr12,i13,hr14,i15,hr16,Zj1]
    refine sp sd hh (fun _ hh =>?_) (fun _ hh =>?_)
    ·have i21:=iZ ([30,0])
     simp only[aK,bJ,List.length_cons,List.length_nil,adq,Nat.reduceAdd,aeB]at i21
     obtain⟨r22,hr22,hh⟩:=ah hh
     have i23:=iZ ([40,21])
     simp only[aK,bJ,List.length_cons,List.length_nil,adq,Nat.reduceAdd,aeB]at i23
     obtain⟨r24,hr24,hh⟩:=ah hh
     have i25:=jS 2 ([r1,r2]) r22 r24
     simp only[aK,bJ,List.length_cons,List.length_nil,adq,Nat.reduceAdd,aeB]at i25
     obtain⟨r26,hr26,hh⟩:=ah hh
     try simp only[bp,seval,hr1,hr2,hr3,hr4,hr5,hr6,i7,hr8,i9,hr10,i11,hr12,i13,hr14,i15,hr16,Zj1,i21,hr22,i23,hr24,i25,hr26]
     refine bo (by kernel_rfl) ?_
     cases hh
     try simp only[bp,seval,hr1,hr2,hr3,hr4,hr5,hr6,i7,hr8,i9,hr10,i11,hr12,i13,hr14,i15,hr16,Zj1,i21,hr22,i23,hr24,i25,hr26]
    ·try simp only[bp,seval,hr1,hr2,hr3,hr4,hr5,hr6,i7,hr8,i9,hr10,i11,hr12,i13,hr14,i15,hr16,Zj1]
     refine bo (by kernel_rfl) ?_
     cases hh
     try simp only[bp,seval,hr1,hr2,hr3,hr4,hr5,hr6,i7,hr8,i9,hr10,i11,hr12,i13,hr14,i15,hr16,Zj1]
   ·try simp only[bp,seval,hr1,hr2,hr3,hr4,hr5,hr6,i7,hr8,i9,hr10,i11,hr12,i13,hr14,i15,hr16,Zj1]
    refine bo (by kernel_rfl) ?_
    cases hh
    try simp only[bp,seval,hr1,hr2,hr3,hr4,hr5,hr6,i7,hr8,i9,hr10,i11,hr12,i13,hr14,i15,hr16,Zj1]
  ·try simp only[bp,seval,hr1,hr2,hr3,hr4,hr5,hr6,i7,hr8,i9,hr10,i11,hr12,i13,hr14,i15,hr16,Zj1]
   refine bo (by kernel_rfl) ?_
   cases hh
   try simp only[bp,seval,hr1,hr2,hr3,hr4,hr5,hr6,i7,hr8,i9,hr10,i11,hr12,i13,hr14,i15,hr16,Zj1]
 ·clear hh
  have hh:=ho17
  try simp only[bp,seval,hr1,hr2,hr3,hr4,hr5,hr6,i7,hr8,i9,hr10,i11,hr12,i13,hr14,i15,hr16]
  refine sp dW hh (fun _ hh =>?_) (fun _ hh =>?_)
  ·have i28:=l7 3 ([r3,r4]) ([6,3,0]) ([6,9,3])
   simp only[aK,bJ,List.length_cons,List.length_nil,adq,Nat.reduceAdd,aeB]at i28
   obtain⟨r29,hr29,hh⟩:=ah hh
   try simp only[bp,seval,hr1,hr2,hr3,hr4,hr5,hr6,i7,hr8,i9,hr10,i11,hr12,i13,hr14,i15,hr16,i28,hr29]
   refine sp dW hh (fun _ hh =>?_) (fun _ hh =>?_)
   ·have i31:=l7 1 ([r5]) ([1]) ([4])
    simp only[aK,bJ,List.length_cons,List.length_nil,adq,Nat.reduceAdd,aeB]at i31
    obtain⟨r32,hr32,hh⟩:=ah hh
    try simp only[bp,seval,hr1,hr2,hr3,hr4,hr5,hr6,i7,hr8,i9,hr10,i11,hr12,i13,hr14,i15,hr16,i28,hr29,i31,hr32]
    refine sp dW hh (fun _ hh =>?_) (fun _ hh =>?_)
    ·have i34:=l7 0 ([]) ([]) ([])
     simp only[aK,bJ,List.length_cons,List.length_nil,adq,Nat.reduceAdd,aeB]at i34
     obtain⟨r35,hr35,hh⟩:=ah hh
     cases hh
     try simp only[bp,seval,hr1,hr2,hr3,hr4,hr5,hr6,i7,hr8,i9,hr10,i11,hr12,i13,hr14,i15,hr16,i28,hr29,i31,hr32,i34,hr35]
     rw[au]
     refine⟨_,rfl,?_⟩
     refine⟨1,?_,?_,?_,?_,?_⟩
     all_goals first|rfl|(simp only[bp,seval,hr1,hr2,hr3,hr4,hr5,hr6,i7,hr8,i9,hr10,i11,hr12,i13,hr14,i15,hr16,i28,hr29,i31,hr32,i34,hr35]<;>rfl)
    ·cases hh
     try simp only[bp,seval,hr1,hr2,hr3,hr4,hr5,hr6,i7,hr8,i9,hr10,i11,hr12,i13,hr14,i15,hr16,i28,hr29,i31,hr32]
     rw[au]
     refine⟨_,rfl,?_⟩
     refine⟨1,?_,?_,?_,?_,?_⟩
     all_goals first|rfl|(simp only[bp,seval,hr1,hr2,hr3,hr4,hr5,hr6,i7,hr8,i9,hr10,i11,hr12,i13,hr14,i15,hr16,i28,hr29,i31,hr32]<;>rfl)
   ·cases hh
    try simp only[bp,seval,hr1,hr2,hr3,hr4,hr5,hr6,i7,hr8,i9,hr10,i11,hr12,i13,hr14,i15,hr16,i28,hr29]
    rw[au]
    refine⟨_,rfl,?_⟩
    refine⟨1,?_,?_,?_,?_,?_⟩
    all_goals first|rfl|(simp only[bp,seval,hr1,hr2,hr3,hr4,hr5,hr6,i7,hr8,i9,hr10,i11,hr12,i13,hr14,i15,hr16,i28,hr29]<;>rfl)
  ·cases hh
   try simp only[bp,seval,hr1,hr2,hr3,hr4,hr5,hr6,i7,hr8,i9,hr10,i11,hr12,i13,hr14,i15,hr16]
   rw[au]
   refine⟨_,rfl,?_⟩
   refine⟨1,?_,?_,?_,?_,?_⟩
   all_goals first|rfl|(simp only[bp,seval,hr1,hr2,hr3,hr4,hr5,hr6,i7,hr8,i9,hr10,i11,hr12,i13,hr14,i15,hr16]<;>rfl)
theorem It:bW Try.prog 8 sQ:=bW.of (mode := .clean) tok HV mixed Try.func8 (by kernel_rfl) ⟨by kernel_rfl,by kernel_rfl⟩ (fun _=>aej (by kernel_rfl)) (fun x r h=>LV  r h)
noncomputable def uj:=fU (jg (de ay) (fQ (aI .i64))) (fun x:ak×Int=>pI x.1 x.2) (fun r:Bool =>.clean (.bool r))
theorem u4 (p0_0:Int) (p0_1:(List Int)) (p0_2:Int) (p0_3:(List Int)) (p1:Int):uj none [.agg [.int .i64 p0_0,.sl false false p0_1.length (ae (eI .i64) p0_1),.int .i64 p0_2,.sl false false p0_3.length (ae (eI .i64) p0_3)],.int .i64 p1]=(pI (ak.mk (al.mk p0_0 p0_1) (al.mk p0_2 p0_3)) p1).map fun r:Bool=>(.clean (.bool r),none):=aV _ _ _ ((ak.mk (al.mk p0_0 p0_1) (al.mk p0_2 p0_3)),p1)
theorem Th (p0:ak) (p1:Int) (r:Bool) (hh:pI p0 p1=some r):a7 .clean tab a6 FU Try.f21 none [.agg [.int .i64 p0.aH.ag,.sl false false p0.aH.aa.length (ae (eI .i64) p0.aH.aa),.int .i64 p0.aJ.ag,.sl false false p0.aJ.aa.length (ae (eI .i64) p0.aJ.aa)],.int .i64 p1]=some (.clean (.bool r),none):=by
 refine aB rfl Try.ntmps21 Try.results21 ?_
 unfold pI at hh
 try simp only[w,seval]
 refine sp dW hh (fun _ hh =>?_) (fun _ hh =>?_)
 ·cases hh
  try simp only[w,seval]
 ·cases hh
  try simp only[w,seval]
theorem CV:bW Try.prog 21 uj:=bW.of (mode := .clean) tok bC.none mixed Try.func21 (by kernel_rfl) ⟨by kernel_rfl,by kernel_rfl⟩ (fun _=>aej (by kernel_rfl)) (fun x r h=>Th x.1 x.2 r h)
noncomputable def qF:=fU (fQ (de mD)) (fun x:bR=>km x) (fun r:Bool =>.clean (.bool r))
theorem xG (p0_0:Int) (p0_1:(List dk)):qF none [.agg [.int .i64 p0_0,.sl false false p0_1.length (ae ba p0_1)]]=(km (bR.mk p0_0 p0_1)).map fun r:Bool=>(.clean (.bool r),none):=aV _ _ _ ((bR.mk p0_0 p0_1))
noncomputable def nC:Env:=(Am.ext a6 21 false uj)
theorem DX:bC Try.prog nC:=(bC.none.add CV false)
theorem bF:type_of% (ai @w<|ai @u4<|@nC.eq_1):=⟨@w,@u4,@nC.eq_1⟩
theorem Ig (p0:bR) (r:Bool) (hh:km p0=some r):a7 .clean tab nC FU Try.f28 none [.agg [.int .i64 p0.aG,.sl false false p0.ax.length (ae ba p0.ax)]]=some (.clean (.bool r),none):=by
 refine aB rfl Try.ntmps28 Try.results28 ?_
 unfold km at hh
 try simp only[bF,seval]
 obtain⟨o7,ho7,hh⟩:=ah hh
 refine aA (fun s t H e=>match s with|s3a=>∃v1a:Nat,t 1=.ptr 1 v1a 0∧t 3=.int .i64 s3a∧H 1=some ⟨v1a,24,[.int .i64 p0.aG,.sl false false p0.ax.length (ae ba p0.ax)],false,false,false⟩) (fun o x t H e=>match o with|(.inl _)=>x=.exit 0∧∃v1ax:Nat,t 1=.ptr 1 v1ax 0∧H 1=some ⟨v1ax,24,[.int .i64 p0.aG,.sl false false p0.ax.length (ae ba p0.ax)],false,false,false⟩|(.inr r)=>x=.ret∧jl .clean tab none [.tmp 2] ⟨t,EH H,e⟩=some (.clean (.bool r),none)) ho7 ?_ ?_ ?_
 ·refine⟨0,?_,?_,?_⟩
  all_goals first|rfl|(simp only[bF,seval]<;>rfl)
 ·rintro s3a t H e ⟨v1a,Za⟩ c hh
  simp only[mu]at hh
  try simp only[bF,seval,Za]
  obtain⟨o8,ho8,hh⟩:=ah hh
  refine bS 0 (fun s t H e=>match s with|s12j3=>∃v1j3:Nat,t 1=.ptr 1 v1j3 0∧t 3=.int .i64 s3a∧t 12=.bool s12j3∧H 1=some ⟨v1j3,24,[.int .i64 p0.aG,.sl false false p0.ax.length (ae ba p0.ax)],false,false,false⟩) (fun s=>s=o8) ?_ ?_
  ·rintro s12j3 t H e ⟨v1j3,Zj3⟩ rfl
   try dsimp only at hh
   try simp only[bF,seval,Zj3]
   refine sp an hh (fun _ hh =>?_) (fun _ hh =>?_)
   ·obtain⟨x10,hx10,hh⟩:=ah hh
    have ax10:=bN ba hx10
    simp only[bJ]at ax10
    obtain⟨r11,hr11,hh⟩:=ah hh
    try simp only[bF,seval,Zj3,ax10,hr11]
    refine sp an hh (fun _ hh =>?_) (fun _ hh =>?_)
    ·cases hh
     try simp only[bF,seval,Zj3,ax10,hr11]
     refine IZ ⟨rfl,?_⟩
     try simp only[bF,seval,Zj3,ax10,hr11]
    ·cases hh
     try simp only[bF,seval,Zj3,ax10,hr11]
     refine j5 ?_
     refine⟨v1j3,?_,?_,?_⟩
     all_goals first|rfl|(simp only[bF,seval,Zj3,ax10,hr11]<;>rfl)
   ·cases hh
    try simp only[bF,seval,Zj3]
    refine ll ?_
    refine⟨rfl,⟨v1j3,?_,?_⟩⟩
    all_goals first|rfl|(simp only[bF,seval,Zj3]<;>rfl)
  ·clear hh
   have hh:=ho8
   try simp only[bF,seval,Za]
   refine sp dW hh (fun _ hh =>?_) (fun _ hh =>?_)
   ·cases hh
    try simp only[bF,seval,Za]
    rw[au]
    refine⟨_,rfl,?_⟩
    refine⟨v1a,?_,?_,?_,?_⟩
    all_goals first|rfl|(simp only[bF,seval,Za]<;>rfl)
   ·cases hh
    try simp only[bF,seval,Za]
    rw[au]
    refine⟨_,rfl,?_⟩
    refine⟨v1a,?_,?_,?_,?_⟩
    all_goals first|rfl|(simp only[bF,seval,Za]<;>rfl)
 ·rintro x t H e hx
  rcases o7 with _|ra
  ·dsimp only at hx hh
   obtain⟨rfl,⟨v1ax,Zax⟩⟩:=hx
   try simp only[bF,seval,Zax]
   refine sp bB hh (fun _ hh =>?_) (fun _ hh =>?_)
   ·cases hh
    try simp only[bF,seval,Zax]
   ·try simp only[bF,seval,Zax]
    refine sp dW hh (fun _ hh =>?_) (fun _ hh =>?_)
    ·cases hh
     try simp only[bF,seval,Zax]
    ·cases hh
     try simp only[bF,seval,Zax]
  ·dsimp only at hx hh
   obtain⟨rfl,hE⟩:=hx
   cases hh
   try simp only[bP,bH,b7,eH,eE,dI,dJ]
   exact hE
theorem Eb:bW Try.prog 28 qF:=bW.of (mode := .clean) tok DX mixed Try.func28 (by kernel_rfl) ⟨by kernel_rfl,by kernel_rfl⟩ (fun _=>aej (by kernel_rfl)) (fun x r h=>Ig x r h)
noncomputable def ye:=fU (jg (mX ay) (fQ (aI .i64))) (fun x:(List ak)×Int=>rS x.1 x.2) (fun r:Bool =>.clean (.bool r))
theorem GI (p0:(List ak)) (p1:Int):ye none [.sl false false p0.length (ae ay p0),.int .i64 p1]=(rS p0 p1).map fun r:Bool=>(.clean (.bool r),none):=aV _ _ _ (p0,p1)
noncomputable def uS:Env:=(Am.ext a6 21 false uj)
theorem OF:bC Try.prog uS:=(bC.none.add CV false)
theorem dN:type_of% (ai @w<|ai @u4<|@uS.eq_1):=⟨@w,@u4,@uS.eq_1⟩
theorem Tl (p0:(List ak)) (p1:Int) (r:Bool) (hh:rS p0 p1=some r):a7 .clean tab uS FU Try.f10 none [.sl false false p0.length (ae ay p0),.int .i64 p1]=some (.clean (.bool r),none):=by
 refine aB rfl Try.ntmps10 Try.results10 ?_
 unfold rS at hh
 try simp only[dN,seval]
 obtain⟨o7,ho7,hh⟩:=ah hh
 refine aA (fun s t H e=>match s with|s5a=>t 0=.sl false false p0.length (ae ay p0)∧t 1=.int .i64 p1∧t 5=.int .i64 s5a) (fun o x t H e=>match o with|(.inl _)=>x=.exit 0∧t 0=.sl false false p0.length (ae ay p0)|(.inr r)=>x=.ret∧jl .clean tab none [.tmp 4] ⟨t,EH H,e⟩=some (.clean (.bool r),none)) ho7 ?_ ?_ ?_
 ·refine⟨?_,?_,?_⟩
  all_goals first|rfl|(simp only[dN,seval]<;>rfl)
 ·rintro s5a t H e Za c hh
  simp only[rT]at hh
  try simp only[dN,seval,Za]
  obtain⟨o8,ho8,hh⟩:=ah hh
  refine bS 0 (fun s t H e=>match s with|s13j3=>t 0=.sl false false p0.length (ae ay p0)∧t 1=.int .i64 p1∧t 5=.int .i64 s5a∧t 13=.bool s13j3) (fun s=>s=o8) ?_ ?_
  ·rintro s13j3 t H e Zj3 rfl
   try dsimp only at hh
   try simp only[dN,seval,Zj3]
   refine sp an hh (fun _ hh =>?_) (fun _ hh =>?_)
   ·obtain⟨x10,hx10,hh⟩:=ah hh
    have ax10:=bN ay hx10
    simp only[bJ]at ax10
    obtain⟨r11,hr11,hh⟩:=ah hh
    try simp only[dN,seval,Zj3,ax10,hr11]
    refine sp an hh (fun _ hh =>?_) (fun _ hh =>?_)
    ·cases hh
     try simp only[dN,seval,Zj3,ax10,hr11]
     refine IZ ⟨rfl,?_⟩
     try simp only[dN,seval,Zj3,ax10,hr11]
    ·cases hh
     try simp only[dN,seval,Zj3,ax10,hr11]
     refine j5 ?_
     refine⟨?_,?_,?_⟩
     all_goals first|rfl|(simp only[dN,seval,Zj3,ax10,hr11]<;>rfl)
   ·cases hh
    try simp only[dN,seval,Zj3]
    refine ll ?_
    refine⟨rfl,?_⟩
    all_goals first|rfl|(simp only[dN,seval,Zj3]<;>rfl)
  ·clear hh
   have hh:=ho8
   try simp only[dN,seval,Za]
   refine sp dW hh (fun _ hh =>?_) (fun _ hh =>?_)
   ·cases hh
    try simp only[dN,seval,Za]
    rw[au]
    refine⟨_,rfl,?_⟩
    refine⟨?_,?_,?_,?_⟩
    all_goals first|rfl|(simp only[dN,seval,Za]<;>rfl)
   ·cases hh
    try simp only[dN,seval,Za]
    rw[au]
    refine⟨_,rfl,?_⟩
    refine⟨?_,?_,?_,?_⟩
    all_goals first|rfl|(simp only[dN,seval,Za]<;>rfl)
 ·rintro x t H e hx
  rcases o7 with _|ra
  ·dsimp only at hx hh
   obtain⟨rfl,Zax⟩:=hx
   cases hh
   try simp only[dN,seval,Zax]
  ·dsimp only at hx hh
   obtain⟨rfl,hE⟩:=hx
   cases hh
   try simp only[bP,bH,b7,eH,eE,dI,dJ]
   exact hE
theorem Pj:bW Try.prog 10 ye:=bW.of (mode := .clean) tok OF mixed Try.func10 (by kernel_rfl) ⟨by kernel_rfl,by kernel_rfl⟩ (fun _=>aej (by kernel_rfl)) (fun x r h=>Tl x.1 x.2 r h)
noncomputable def xZ:=fU (jg (de mD) (fQ (mX ay))) (fun x:bR×(List ak)=>rG x.1 x.2) (fun r:Bool =>.clean (.bool r))
theorem GC (p0_0:Int) (p0_1:(List dk)) (p1:(List ak)):xZ none [.agg [.int .i64 p0_0,.sl false false p0_1.length (ae ba p0_1)],.sl false false p1.length (ae ay p1)]=(rG (bR.mk p0_0 p0_1) p1).map fun r:Bool=>(.clean (.bool r),none):=aV _ _ _ ((bR.mk p0_0 p0_1),p1)
noncomputable def uM:Env:=(Am.ext (Am.ext a6 10 false ye) 28 false qF)
theorem Oz:bC Try.prog uM:=((bC.none.add Pj false).add Eb false)
theorem yT:type_of% (ai @w<|ai @GI<|ai @xG<|@uM.eq_1):=⟨@w,@GI,@xG,@uM.eq_1⟩
theorem Td (p0:bR) (p1:(List ak)) (r:Bool) (hh:rG p0 p1=some r):a7 .clean tab uM FU Try.f9 none [.agg [.int .i64 p0.aG,.sl false false p0.ax.length (ae ba p0.ax)],.sl false false p1.length (ae ay p1)]=some (.clean (.bool r),none):=by
 refine aB rfl Try.ntmps9 Try.results9 ?_
 unfold rG at hh
 obtain⟨r1,hr1,hh⟩:=ah hh
 try simp only[yT,seval,hr1]
 refine sp dW hh (fun _ hh =>?_) (fun _ hh =>?_)
 ·obtain⟨r3,hr3,hh⟩:=ah hh
  cases hh
  try simp only[yT,seval,hr1,hr3]
 ·cases hh
  try simp only[yT,seval,hr1]
theorem Pd:bW Try.prog 9 xZ:=bW.of (mode := .clean) tok Oz mixed Try.func9 (by kernel_rfl) ⟨by kernel_rfl,by kernel_rfl⟩ (fun _=>aej (by kernel_rfl)) (fun x r h=>Td x.1 x.2 r h)
noncomputable def wb:=fU (jg (de mD) (fQ (aI .i64))) (fun x:bR×Int=>oE x.1 x.2) (fun r:ak =>.clean (.agg [.int .i64 r.aH.ag,.sl false false r.aH.aa.length (ae (eI .i64) r.aH.aa),.int .i64 r.aJ.ag,.sl false false r.aJ.aa.length (ae (eI .i64) r.aJ.aa)]))
theorem C8 (p0_0:Int) (p0_1:(List dk)) (p1:Int):wb none [.agg [.int .i64 p0_0,.sl false false p0_1.length (ae ba p0_1)],.int .i64 p1]=(oE (bR.mk p0_0 p0_1) p1).map fun r:ak=>(.clean (.agg [.int .i64 r.aH.ag,.sl false false r.aH.aa.length (ae (eI .i64) r.aH.aa),.int .i64 r.aJ.ag,.sl false false r.aJ.aa.length (ae (eI .i64) r.aJ.aa)]),none):=aV _ _ _ ((bR.mk p0_0 p0_1),p1)
noncomputable def ru:Env:=(Am.ext (Am.ext (Am.ext a6 11 false kp) 34 false ng) 37 false my)
theorem KM:bC Try.prog ru:=(((bC.none.add nG false).add vP false).add rL false)
theorem oQ:type_of% (ai @w<|ai @gW<|ai @nK<|ai @kF<|@ru.eq_1):=⟨@w,@gW,@nK,@kF,@ru.eq_1⟩
theorem OX (p0:bR) (p1:Int) (r:ak) (hh:oE p0 p1=some r):a7 .clean tab ru FU Try.f26 none [.agg [.int .i64 p0.aG,.sl false false p0.ax.length (ae ba p0.ax)],.int .i64 p1]=some (.clean (.agg [.int .i64 r.aH.ag,.sl false false r.aH.aa.length (ae (eI .i64) r.aH.aa),.int .i64 r.aJ.ag,.sl false false r.aJ.aa.length (ae (eI .i64) r.aJ.aa)]),none):=by
 refine aB rfl Try.ntmps26 Try.results26 ?_
 unfold oE at hh
 obtain⟨r1,hr1,hh⟩:=ah hh
 try simp only[oQ,seval,hr1]
 refine sp bB hh (fun _ hh =>?_) (fun _ hh =>?_)
 ·cases hh
  try simp only[oQ,seval,hr1]
 ·obtain⟨r3,hr3,hh⟩:=ah hh
  try simp only[oQ,seval,hr1,hr3]
  refine sp an hh (fun _ hh =>?_) (fun _ hh =>?_)
  ·cases hh
   try simp only[oQ,seval,hr1,hr3]
  ·obtain⟨r5,hr5,hh⟩:=ah hh
   obtain⟨x6,hx6,hh⟩:=ah hh
   have ax6:=bN ay hx6
   simp only[bJ]at ax6
   cases hh
   try simp only[oQ,seval,hr1,hr3,hr5,ax6]
theorem MC:bW Try.prog 26 wb:=bW.of (mode := .clean) tok KM mixed Try.func26 (by kernel_rfl) ⟨by kernel_rfl,by kernel_rfl⟩ (fun _=>aej (by kernel_rfl)) (fun x r h=>OX x.1 x.2 r h)
noncomputable def Aa:=fU (jg (de mD) (fQ (mX ay))) (fun x:bR×(List ak)=>gu x.1 x.2) (fun r:Bool =>.clean (.bool r))
noncomputable def j2:Env:=(Am.ext (Am.ext (Am.ext (Am.ext (Am.ext (Am.ext (Am.ext (Am.ext a6 8 false sQ) 9 false xZ) 13 false n5) 17 false uk) 18 false nX) 19 false qz) 23 false qE) 26 false wb)
theorem yv:bC Try.prog j2:=((((((((bC.none.add It false).add Pd false).add tI false).add CW false).add tF false).add zC false).add zH false).add MC false)
theorem a8:type_of% (ai @w<|ai @zM<|ai @GC<|ai @jb<|ai @u5<|ai @l5<|ai @rN<|ai @rQ<|ai @C8<|@j2.eq_1):=⟨@w,@zM,@GC,@jb,@u5,@l5,@rN,@rQ,@C8,@j2.eq_1⟩
theorem Ai (p0:bR) (p1:(List ak)) (r:Bool) (hh:gu p0 p1=some r):a7 .clean tab j2 FU Try.f6 none [.agg [.int .i64 p0.aG,.sl false false p0.ax.length (ae ba p0.ax)],.sl false false p1.length (ae ay p1)]=some (.clean (.bool r),none):=by
 refine aB rfl Try.ntmps6 Try.results6 ?_
 unfold gu at hh
 obtain⟨r1,hr1,hh⟩:=ah hh
 obtain⟨r2,hr2,hh⟩:=ah hh
 try simp only[a8,seval,hr1,hr2]
 refine sp an hh (fun _ hh =>?_) (fun _ hh =>?_)
 ·cases hh
  try simp only[a8,seval,hr1,hr2]
 ·obtain⟨r4,hr4,hh⟩:=ah hh
  try simp only[a8,seval,hr1,hr2,hr4]
  refine sp an hh (fun _ hh =>?_) (fun _ hh =>?_)
  ·cases hh
   try simp only[a8,seval,hr1,hr2,hr4]
  ·try simp only[a8,seval,hr1,hr2,hr4]
   refine sp an hh (fun _ hh =>?_) (fun _ hh =>?_)
   ·cases hh
    try simp only[a8,seval,hr1,hr2,hr4]
   ·obtain⟨r7,hr7,hh⟩:=ah hh
    try simp only[a8,seval,hr1,hr2,hr4,hr7]
    obtain⟨o16,ho16,hh⟩:=ah hh
    refine aA (fun s t H e=>match s with|(s10a,r8_0a,r8_1a,r8_2a,r8_3a,r9_0a,r9_1a,r9_2a,r9_3a)=>∃v2a:Nat,∃v8a:Nat,∃v9a:Nat,t 1=.sl false false p1.length (ae ay p1)∧t 2=.ptr 2 v2a 0∧t 5=.bool r1∧t 6=.sl false false r4.1.length (ae ay r4.1)∧t 8=.ptr 8 v8a 0∧t 9=.ptr 9 v9a 0∧t 10=.int .i64 s10a∧H 2=some ⟨v2a,24,[.int .i64 p0.aG,.sl false false p0.ax.length (ae ba p0.ax)],false,false,false⟩∧H 8=some ⟨v8a,41,[.int .i64 r8_0a,.sl false false r8_1a.length (ae (eI .i64) r8_1a),.int .i64 r8_2a,.sl false false r8_3a.length (ae (eI .i64) r8_3a)],false,false,false⟩∧H 9=some ⟨v9a,41,[.int .i64 r9_0a,.sl false false r9_1a.length (ae (eI .i64) r9_1a),.int .i64 r9_2a,.sl false false r9_3a.length (ae (eI .i64) r9_3a)],false,false,false⟩) (fun o x t H e=>match o with|(.inl (r8_0ax,r8_1ax,r8_2ax,r8_3ax,r9_0ax,r9_1ax,r9_2ax,r9_3ax))=>x=.exit 0∧∃v8ax:Nat,∃v9ax:Nat,t 5=.bool r1∧t 8=.ptr 8 v8ax 0∧t 9=.ptr 9 v9ax 0∧H 8=some ⟨v8ax,41,[.int .i64 r8_0ax,.sl false false r8_1ax.length (ae (eI .i64) r8_1ax),.int .i64 r8_2ax,.sl false false r8_3ax.length (ae (eI .i64) r8_3ax)],false,false,false⟩∧H 9=some ⟨v9ax,41,[.int .i64 r9_0ax,.sl false false r9_1ax.length (ae (eI .i64) r9_1ax),.int .i64 r9_2ax,.sl false false r9_3ax.length (ae (eI .i64) r9_3ax)],false,false,false⟩|(.inr r)=>x=.ret∧jl .clean tab none [.tmp 4] ⟨t,EH H,e⟩=some (.clean (.bool r),none)) ho16 ?_ ?_ ?_
    ·refine⟨0,6,7,?_,?_,?_,?_,?_,?_,?_,?_,?_,?_⟩
     all_goals first|rfl|(simp only[a8,seval,hr1,hr2,hr4,hr7]<;>rfl)
    ·rintro⟨s10a,r8_0a,r8_1a,r8_2a,r8_3a,r9_0a,r9_1a,r9_2a,r9_3a⟩ t H e ⟨v2a,v8a,v9a,Za⟩ c hh
     simp only[gL]at hh
     try simp only[a8,seval,hr1,hr2,hr4,hr7,Za]
     refine sp an hh (fun _ hh =>?_) (fun _ hh =>?_)
     ·obtain⟨r18,hr18,hh⟩:=ah hh
      obtain⟨x19,hx19,hh⟩:=ah hh
      have ax19:=bN ay hx19
      simp only[bJ]at ax19
      obtain⟨r20,hr20,hh⟩:=ah hh
      try simp only[a8,seval,hr1,hr2,hr4,hr7,Za,hr18,ax19,hr20]
      refine bo (by kernel_rfl) ?_
      try simp only[a8,seval,hr1,hr2,hr4,hr7,Za,hr18,ax19,hr20]
      refine sp an hh (fun _ hh =>?_) (fun _ hh =>?_)
      ·cases hh
       try simp only[a8,seval,hr1,hr2,hr4,hr7,Za,hr18,ax19,hr20]
       refine IZ ⟨rfl,?_⟩
       try simp only[a8,seval,hr1,hr2,hr4,hr7,Za,hr18,ax19,hr20]
      ·obtain⟨x22,hx22,hh⟩:=ah hh
       have ax22:=bN ay hx22
       simp only[bJ]at ax22
       obtain⟨r23,hr23,hh⟩:=ah hh
       try simp only[a8,seval,hr1,hr2,hr4,hr7,Za,hr18,ax19,hr20,ax22,hr23]
       refine bo (by kernel_rfl) ?_
       obtain⟨r24,hr24,hh⟩:=ah hh
       cases hh
       try simp only[a8,seval,hr1,hr2,hr4,hr7,Za,hr18,ax19,hr20,ax22,hr23,hr24]
       refine j5 ?_
       refine⟨v2a,v8a,v9a,?_,?_,?_,?_,?_,?_,?_,?_,?_,?_⟩
       all_goals first|rfl|(simp only[a8,seval,hr1,hr2,hr4,hr7,Za,hr18,ax19,hr20,ax22,hr23,hr24]<;>rfl)
     ·cases hh
      try simp only[a8,seval,hr1,hr2,hr4,hr7,Za]
      refine ll ?_
      refine⟨rfl,⟨v8a,v9a,?_,?_,?_,?_,?_⟩⟩
      all_goals first|rfl|(simp only[a8,seval,hr1,hr2,hr4,hr7,Za]<;>rfl)
    ·rintro x t H e hx
     rcases o16 with⟨r8_0ax,r8_1ax,r8_2ax,r8_3ax,r9_0ax,r9_1ax,r9_2ax,r9_3ax⟩|ra
     ·dsimp only at hx hh
      obtain⟨rfl,⟨v8ax,v9ax,Zax⟩⟩:=hx
      try simp only[a8,seval,hr1,hr2,hr4,hr7,Zax]
      refine sp dW hh (fun _ hh =>?_) (fun _ hh =>?_)
      ·obtain⟨r26,hr26,hh⟩:=ah hh
       cases hh
       try simp only[a8,seval,hr1,hr2,hr4,hr7,Zax,hr26]
      ·cases hh
       try simp only[a8,seval,hr1,hr2,hr4,hr7,Zax]
     ·dsimp only at hx hh
      obtain⟨rfl,hE⟩:=hx
      cases hh
      try simp only[bP,bH,b7,eH,eE,dI,dJ]
      exact hE
theorem yE:bW Try.prog 6 Aa:=bW.of (mode := .clean) tok yv mixed Try.func6 (by kernel_rfl) ⟨by kernel_rfl,by kernel_rfl⟩ (fun _=>aej (by kernel_rfl)) (fun x r h=>Ai x.1 x.2 r h)
end Go.Proofs.Ytchndpjlijbplaa.Am
namespace Go.Proofs.Ytchndpjlijbplaa.Am
open Go.ChangeShapes Go.WideShapes Go.ChangeAt Go.RowKit Go.Proofs.Ytchndpjlijbplaa.P
set_option maxRecDepth 100000
set_option linter.unusedVariables false
theorem Try.own:ownKnob Try.prog.godebug=none:=by kernel_rfl
theorem Try.laidOut:laidOutB Try.prog=true:=by kernel_rfl
theorem VR (n:Nat):NF tab (n+1) 3 (eI .i64) (fun x=>(Lit.int .i64 x).wf=true):=opI Si rfl rfl
theorem aax (n:Nat):NF tab (n+2) 33 (NG (eI .i64)) (fun x=>(x.length*8<=140737488351232∧∀y∈x,(Lit.int .i64 y).wf=true)):=ZD IL rfl rfl (by rw[Si];rfl) (VR n)
def Iq (x:al):Prop:=(Lit.int .i64 x.ag).wf=true∧((x.aa.length*8<=140737488351232∧∀y∈x.aa,(Lit.int .i64 y).wf=true))
theorem YL (n:Nat):NF tab (n+3) 39 eL (fun x=>Iq x):=opS (g:=fun y=>al.mk y.1 y.2) PA rfl rfl (fun _=>rfl) (VQ (VR (n+1)) rfl (XL (aax n)))
def qh (x:ak):Prop:=Iq x.aH∧(Iq x.aJ)
theorem YM (n:Nat):NF tab (n+4) 41 ay (fun x=>qh x):=opS (g:=fun y=>ak.mk y.1 y.2) IM rfl rfl (fun _=>rfl) (VQ (YL n) rfl (XL (YL n)))
def CL (x:dk):Prop:=(Lit.int .i64 x.dj).wf=true∧((Lit.int .i64 x.lG).wf=true∧(qh x.bd))
theorem aay (n:Nat):NF tab (n+5) 46 ba (fun x=>CL x):=opS (g:=fun y=>dk.mk y.1 y.2.1 y.2.2) IN rfl rfl (fun _=>rfl) (VQ (VR (n+3)) rfl (VQ (VR (n+3)) rfl (XL (YM n))))
theorem aau (n:Nat):NF tab (n+6) 22 (NG ba) (fun x=>(x.length*80<=140737488351232∧∀y∈x,CL y)):=ZD Pz rfl rfl (by rw[IN];rfl) (aay n)
def AA (x:bR):Prop:=(Lit.int .i64 x.aG).wf=true∧((x.ax.length*80<=140737488351232∧∀y∈x.ax,CL y))
theorem aav (n:Nat):NF tab (n+7) 24 mD (fun x=>AA x):=opS (g:=fun y=>bR.mk y.1 y.2) IJ rfl rfl (fun _=>rfl) (VQ (VR (n+5)) rfl (XL (aau n)))
theorem aaw (n:Nat):NF tab (n+5) 25 (NG ay) (fun x=>(x.length*64<=140737488351232∧∀y∈x,qh y)):=ZD IK rfl rfl (by rw[IM];rfl) (YM n)
theorem vw:TY tab 8 [24,25] (jg (de mD) (fQ (mX ay))) (fun x=>AA x.1∧((x.2.length*64<=140737488351232∧∀y∈x.2,qh y))):=(abR (oaS IJ rfl (aav 1)) (abQ (abP IK rfl (aaw 3))))
theorem tv (law:∀(a0:bR) (a1:(List ak)),(AA a0)->((a1.length*64<=140737488351232∧∀y∈a1,qh y))->P.gu a0 a1=some true) (os:Os) (started:os.Started) (H:Type) (enc:TypeId×Value->H) :
  ReturnsInHanded {} Try.checked os 6 .any (Rows.solveSumsSpec.pre6 enc Try.prog Try.f6 Rows.solveSumsRow.domain false) (Rows.solveSumsSpec.post enc Try.prog Try.f6 false true false false):=by
 refine Pq (C:=Try.checked) (T:=tab) (tb:=4) (n:=8) tok Try.own started (by kernel_rfl) Try.func6
  (ChangeSpec.witness6 (enc:=enc) (C:=Try.checked) false ⟨#[],#[.agg #[.int .i64 0,.slice none 0 0],.slice none 0 0],[]⟩ 8 (by kernel_rfl) (by kernel_rfl) (by kernel_rfl) (by kernel_rfl)) Try.laidOut (by kernel_rfl) rfl (by kernel_rfl) rfl (fun ds hds =>?_) (fun ar hl hs =>?_)
 ·rw[Try.params6]at hds
  match ds,hds with
  | [d0,d1],_=>exact⟨rfl,rfl,rfl⟩
 ·rw[Try.params6]at hl hs
  exact Zr vw yE (fun x hx=>law x.1 x.2 hx.1 hx.2) ar hl hs
theorem vt (law:∀(a0:bR) (a1:(List ak)),(AA a0)->((a1.length*64<=140737488351232∧∀y∈a1,qh y))->P.gu a0 a1=some true):Rows.SolveSumsSaid :=
 OpenClaim.holds_of_wide 6 Try.f6 rfl rfl rfl rfl rfl rfl rfl ⟨rfl,rfl,rfl,rfl,rfl⟩ rfl rfl rfl rfl rfl (by kernel_rfl) Try.func6 (by kernel_rfl)
  (of_decide_eq_true (by kernel_rfl)) (by unfold Func.isWrapper;first|(rw[if_pos (by decide +kernel)];kernel_rfl)|(rw[if_neg (by decide +kernel)];exact⟨rfl,rfl⟩))
  (fun os started H enc _=>tv law os started H enc)
end Go.Proofs.Ytchndpjlijbplaa.Am
namespace Go.Proofs.Ytchndpjlijbplaa.P
open Go.RowKit
set_option linter.unusedSimpArgs false
set_option linter.unusedVariables false
def aE (n:Nat):List Int:=if h:n=0 then [] else ((n % 1048576:Nat):Int)::aE (n / 1048576)
termination_by n
decreasing_by omega
def dv:List Int->Int
 | []=>0
 | d::l=>d+1048576*dv l
def Dg (l:List Int):Prop:=∀d∈l,0<=d∧d<1048576
def pw (i:Nat):Int:=1048576 ^ i
theorem nJ:pw 0=1:=rfl
theorem jx (i:Nat):pw (i+1)=1048576*pw i:=by unfold pw;rw[Int.pow_succ,aeE]
theorem l4 (i:Nat):0<pw i:=by unfold pw;exact Int.pow_pos (by decide)
theorem C3 (i j:Nat):pw (i+j)=pw i*pw j:=by unfold pw;rw[Int.pow_add]
theorem pz {i j:Nat} (h:i<=j):pw i<=pw j:=by
 obtain⟨k,rfl⟩:=Nat.le.dest h
 rw[C3]
 have h1:=l4 i
 have h2:=l4 k
 calc pw i=pw i*1:=by rw[aeF]
  _<=pw i*pw k:=aeG (by omega) (by omega)
theorem cf:aE 0=[]:=by rw[aE];rfl
theorem mC {n:Nat} (h:n≠0):aE n=((n % 1048576:Nat):Int)::aE (n / 1048576):=by rw[aE,dif_neg h]
theorem p6 {n:Nat} : aE n=[]↔n=0:=by
 constructor
 ·intro h
  rcases acT n with h0|h0
  ·exact h0
  ·rw[mC (by omega)]at h;cases h
 ·rintro rfl;exact cf
theorem bh:∀n:Nat,dv (aE n)=n:=by
 intro n
 induction n using Nat.strongRecOn with
 | _ n ih =>
  rcases acT n with h0|h0
  ·subst h0;rw[cf];rfl
  ·rw[mC (by omega),dv,ih (n / 1048576) (by omega)]
   omega
theorem bZ:∀n:Nat,Dg (aE n):=by
 intro n
 induction n using Nat.strongRecOn with
 | _ n ih =>
  rcases acT n with h0|h0
  ·subst h0;rw[cf];intro d hd;cases hd
  ·rw[mC (by omega)]
   intro d hd
   rcases acI.1 hd with rfl|hd
   ·omega
   ·exact ih (n / 1048576) (by omega) d hd
theorem Dg.nil:Dg []:=fun d hd=>by cases hd
theorem Dg.cons {d:Int} {l:List Int} (h:Dg (d::l)):(0<=d∧d<1048576)∧Dg l:=⟨h d ad3,fun x hx=>h x (ad4 _ hx)⟩
theorem Dg.mk {d:Int} {l:List Int} (h:0<=d∧d<1048576) (hl:Dg l):Dg (d::l):=fun x hx=>by
 rcases acI.1 hx with rfl|hx
 ·exact h
 ·exact hl x hx
theorem Dg.append {l m:List Int} (h:Dg l) (hm:Dg m):Dg (l++m):=fun x hx=>(adL.1 hx).elim (h x) (hm x)
theorem Dg.take {l:List Int} (h:Dg l) (n:Nat):Dg (l.take n):=fun x hx=>h x (adn hx)
theorem Dg.drop {l:List Int} (h:Dg l) (n:Nat):Dg (l.drop n):=fun x hx=>h x (adl hx)
theorem Dg.rep (n:Nat):Dg (List.replicate n 0):=fun x hx=>by rw[(List.mem_replicate.1 hx).2];omega
theorem Dg.set {l:List Int} (h:Dg l) (i:Nat) {x:Int} (hx:0<=x∧x<1048576):Dg (l.set i x):=fun y hy=>by
 rcases List.mem_or_eq_of_mem_set hy with hy|rfl
 ·exact h y hy
 ·exact hx
theorem Dg.get {l:List Int} (h:Dg l) {i:Nat} (hi:i<l.length):0<=l[i]∧l[i]<1048576:=h _ (acN hi)
theorem cq:∀ {l:List Int},Dg l->0<=dv l
 | [],_=>Int.le_refl _
 | d::l,h=>by
  have h1:=h.cons
  have:=cq h1.2
  simp only[dv]
  omega
theorem m9:∀ {l:List Int},Dg l->dv l<pw l.length
 | [],_=>by simp[dv,nJ]
 | d::l,h=>by
  have h1:=h.cons
  have:=m9 h1.2
  simp only[dv,List.length_cons,jx]
  omega
theorem fp:∀l m:List Int,dv (l++m)=dv l+pw l.length*dv m
 | [],m=>by simp[dv,nJ]
 | d::l,m=>by
  rw[aes,dv,dv,fp l m,ac1,jx,aeH,aeI]
  omega
theorem yo:∀n:Nat,dv (List.replicate n 0)=0
 | 0=>rfl
 | n+1=>by rw[adx,dv,yo n];rfl
theorem fa {l:List Int} {i:Nat} (h:i<l.length):dv (l.take (i+1))=dv (l.take i)+pw i*l[i]:=by
 have e:l.take (i+1)=l.take i++[l[i]]:=by rw[aeJ];simp[h]
 rw[e,fp,acU,adI (by omega)]
 simp[dv]
theorem ij (l:List Int) {i:Nat} (h:i<=l.length):dv l=dv (l.take i)+pw i*dv (l.drop i):=by
 have:=fp (l.take i) (l.drop i)
 rw[aeo,acU,adI h]at this
 exact this
theorem qX {l:List Int} {i:Nat} (h:i<l.length) (x:Int):dv (l.set i x)=dv l+pw i*(x-l[i]):=by
 induction l generalizing i with
 | nil=>simp at h
 | cons d l ih =>
  cases i with
  | zero=>simp only[List.set_cons_zero,dv,nJ,List.getElem_cons_zero];omega
  | succ i =>
   have:=ih (i:=i) (by simpa using h)
   simp only[List.set_cons_succ,dv,this,jx,List.getElem_cons_succ,aeH,aeI]
   omega
theorem Av:∀ {l:List Int},Dg l->(∀h:l≠[],l.getLast h≠0)->aE (dv l).toNat=l
 | [],_,_=>by simp[dv,cf]
 | d::l,h,hl=>by
  have h1:=h.cons
  have h2:=cq h1.2
  have hne:(dv (d::l)).toNat≠0:=by
   simp only[dv]
   intro h0
   have hd:d=0:=by omega
   have hv:dv l=0:=by omega
   cases l with
   | nil=>exact hl (by simp) (by simpa using hd)
   | cons e m =>
    have ih:=Av h1.2 (fun hh=>by have:=hl (by simp);simpa using this)
    rw[hv]at ih
    simp[cf]at ih
  rw[mC hne]
  have e1:(dv (d::l)).toNat % 1048576=d.toNat:=by simp only[dv];omega
  have e2:(dv (d::l)).toNat / 1048576=(dv l).toNat:=by simp only[dv];omega
  rw[e1,e2]
  have hd:(d.toNat:Int)=d:=by omega
  rw[hd]
  cases l with
  | nil=>simp[dv,cf]
  | cons e m=>rw[Av h1.2 (fun hh=>by have:=hl (by simp);simpa using this)]
theorem SA:∀(n:Nat) (h:aE n≠[]),(aE n).getLast h≠0:=by
 intro n
 induction n using Nat.strongRecOn with
 | _ n ih =>
  intro h
  have hn:n≠0:=fun h0=>h (p6.2 h0)
  have e:=mC hn
  by_cases hq:n / 1048576=0
  ·have:aE n=[((n % 1048576:Nat):Int)]:=by rw[e,hq,cf]
   simp only[this,List.getLast_singleton]
   omega
  ·have hne:aE (n / 1048576)≠[]:=fun h0=>hq (p6.1 h0)
   have:=ih (n / 1048576) (by omega) hne
   simp only[e]
   rw[List.getLast_cons hne]
   exact this
theorem UI {a b:Nat} (h:aE a=aE b):a=b:=by
 have:=congrArg dv h
 rw[bh,bh]at this
 omega
theorem gf {n k:Nat} (h:(n:Int)<pw k):(aE n).length<=k:=by
 induction k generalizing n with
 | zero =>
  rw[nJ]at h
  have:n=0:=by omega
  rw[this,cf];simp
 | succ k ih =>
  by_cases h0:n=0
  ·rw[h0,cf];simp
  ·rw[mC h0,ac1]
   rw[jx]at h
   have:=ih (n:=n / 1048576) (by omega)
   omega
theorem eT (n:Nat):(n:Int)<pw (aE n).length:=by
 have:=m9 (bZ n)
 rwa [bh]at this
theorem w6 {n:Nat} (h:n≠0):pw ((aE n).length-1)<=n∧0<(aE n).length:=by
 induction n using Nat.strongRecOn with
 | _ n ih =>
  rw[mC h,ac1]
  refine⟨?_,by omega⟩
  by_cases hq:n / 1048576=0
  ·rw[hq,cf];simp[nJ];omega
  ·obtain⟨h1,h2⟩:=ih (n / 1048576) (by omega) hq
   have:(aE (n / 1048576)).length+1-1=((aE (n / 1048576)).length-1)+1:=by omega
   rw[this,jx]
   omega
theorem sU {x:Int} (h1 : -9223372036854775808<=x) (h2:x<9223372036854775808):jK .and .i64 x 1048575=x % 1048576:=by
 unfold jK
 simp only
 have e1:(BitVec.ofInt IntKind.i64.bits x &&& BitVec.ofInt IntKind.i64.bits 1048575).toNat=((x % 18446744073709551616).toNat) % 1048576:=by
  rw[BitVec.toNat_and,BitVec.toNat_ofInt,BitVec.toNat_ofInt]
  have e:((1048575:Int) % ((2 ^ IntKind.i64.bits:Nat):Int)).toNat=2 ^ 20-1:=by decide
  rw[e,aeK]
  rfl
 rw[e1,wrap64 (by omega) (by omega)]
 omega
theorem W9 {x:Int} (h1 : -9223372036854775808<=x) (h2:x<9223372036854775808):jK .and .i64 x 1=x % 2:=by
 unfold jK
 simp only
 have e1:(BitVec.ofInt IntKind.i64.bits x &&& BitVec.ofInt IntKind.i64.bits 1).toNat=((x % 18446744073709551616).toNat) % 2:=by
  rw[BitVec.toNat_and,BitVec.toNat_ofInt,BitVec.toNat_ofInt]
  have e:((1:Int) % ((2 ^ IntKind.i64.bits:Nat):Int)).toNat=2 ^ 1-1:=by decide
  rw[e,aeK]
  rfl
 rw[e1,wrap64 (by omega) (by omega)]
 omega
theorem Nd (x:Int):wK .i64 x 20=some (x / 1048576):=by
 unfold wK
 rw[if_neg (by decide)]
 have e:(2:Int) ^ (min (Int.toNat 20) IntKind.i64.bits)=1048576:=by decide
 rw[e,aeL _ (by decide)]
theorem V2 {x:Int} (h0:0<=x) (h:x<8796093022208):Ee .i64 x 20=some (1048576*x):=by
 unfold Ee
 rw[if_neg (by decide)]
 have e:(2:Int) ^ (min (Int.toNat 20) IntKind.i64.bits)=1048576:=by decide
 rw[e,wrap64 (by omega) (by omega),aeE]
theorem Pk {x y:Int} (h0:0<=x) (h:x<8796093022208) (hy:0<=y∧y<1048576):jK .or .i64 (1048576*x) y=1048576*x+y:=by
 unfold jK
 simp only
 have e1:(BitVec.ofInt IntKind.i64.bits (1048576*x) ||| BitVec.ofInt IntKind.i64.bits y).toNat=1048576*x.toNat+y.toNat:=by
  rw[BitVec.toNat_or,BitVec.toNat_ofInt,BitVec.toNat_ofInt]
  have e:((2 ^ IntKind.i64.bits:Nat):Int)=18446744073709551616:=by decide
  rw[e]
  have e2:((1048576*x) % 18446744073709551616).toNat=x.toNat <<< 20:=by rw[Nat.shiftLeft_eq];omega
  have e3:(y % 18446744073709551616).toNat=y.toNat:=by omega
  rw[e2,e3,<- Nat.shiftLeft_add_eq_or_of_lt (by omega),Nat.shiftLeft_eq]
  omega
 rw[e1,wrap64 (by omega) (by omega)]
 omega
theorem ZZ {n:Nat} (h:n<=17592186044416):D7 8 (n:Int) (n:Int) (0:Int)=some (List.replicate n 0):=by
 unfold D7
 rw[if_pos]
 ·simp
 ·have:(17592186044416:Int)<=maxLen:=by decide
  refine⟨by omega,by omega,by omega,?_⟩
  simp only[Int.toNat_natCast]
  omega
theorem wX {l m:List Int} (h:l.length+m.length<=17592186044416):lS 8 l m=some (l++m):=by
 unfold lS
 have:(17592186044416:Nat)<=maxLen:=by decide
 rw[if_pos ⟨by omega,by omega⟩]
theorem cy {σ ρ:Type} {body:σ->Option (σ⊕ρ)} (I:Nat->σ->Prop) (n:Nat) (Q:ρ->Prop) {s:σ} (hI:I 0 s) (hn:n+1<FU)
  (hstep:∀i s,i<=n->I i s->(i<n∧∃s',body s=some (.inl s')∧I (i+1) s')∨(∃r,body s=some (.inr r)∧Q r)):∃r,aY body s=some r∧Q r:=by
 have key:∀(k i:Nat) (s:σ),i<=n->n-i<k->I i s->∃r,nc body k s=some r∧Q r:=by
  intro k
  induction k with
  | zero=>intro i s _ h;omega
  | succ k ih =>
   intro i s hi hk hI
   rcases hstep i s hi hI with⟨hlt,s',h1,h2⟩|⟨r,h1,h2⟩
   ·obtain⟨r,h3,h4⟩:=ih (i+1) s' (by omega) (by omega) h2
    exact⟨r,by simp only[nc,h1];exact h3,h4⟩
   ·exact⟨r,by simp only[nc,h1],h2⟩
 exact key FU 0 s (acC _) (by omega) hI
theorem RN (i:Nat) (x:Int):pw (i+1)*x=pw i*(1048576*x):=by rw[jx,aeE 1048576 (pw i),aeI]
theorem tJ (i:Nat) (t:Int):pw i*(t % 1048576)+pw (i+1)*(t / 1048576)=pw i*t:=by
 rw[RN,<- aeH]
 congr 1
 omega
theorem iO {n:Nat} (h:n<=17592186044416):n+1<FU:=by unfold FU;omega
abbrev Fit (l:List Int):Prop:=l.length<=17592186044416
theorem gx {x:Int} (h : -4611686018427387904<=x∧x<=4611686018427387904):IntKind.i64.wrap x=x:=wrap64 (by omega) (by omega)
theorem mO {α:Type} (o:Option α):(o.bind fun r=>some r)=o:=by cases o<;>rfl
theorem Hk {l:List Int} (hl:Fit l):∃r,aY (kx l) (l.length:Int)=some r∧∃k:Nat,r=k∧k<=l.length∧(∀j (hj:j<l.length),k<=j->l[j]=0)∧(∀h:0<k,∀hk:k-1<l.length,l[k-1]≠0):=by
 unfold Fit at hl
 refine cy (I:=fun i s=>s=((l.length-i:Nat):Int)∧(∀j (hj:j<l.length),l.length-i<=j->l[j]=0)) l.length _ ⟨rfl,fun j hj h=>by omega⟩ (iO hl) ?_
 rintro i s hi ⟨rfl,hz⟩
 generalize hk:l.length-i=k at *
 simp only[kx]
 by_cases h0:0<k
 ·have hk1:k-1<l.length:=by omega
  have e:IntKind.i64.wrap ((k:Int)-1)=((k-1:Nat):Int):=by rw[gx (by omega)];omega
  rw[if_pos (by simp;omega),e,bO hk1,ad7]
  by_cases hx:l[k-1]=0
  ·left
   refine⟨by omega,_,by rw[if_pos (by simpa using hx)],by rw[show l.length-(i+1)=k-1 by omega],fun j hj h =>?_⟩
   by_cases hj':j=k-1
   ·subst hj';exact hx
   ·exact hz j hj (by omega)
  ·right
   exact⟨_,by rw[if_neg (by simpa using hx)],k,rfl,by omega,hz,fun _ _=>hx⟩
 ·right
  exact⟨_,by rw[if_neg (by simp;omega)],k,rfl,by omega,hz,fun h=>absurd h h0⟩
theorem UX {l:List Int} {k:Nat} (hz:∀j (hj:j<l.length),k<=j->l[j]=0):dv (l.drop k)=0:=by
 have:l.drop k=List.replicate (l.drop k).length 0:=by
  refine List.eq_replicate_of_mem fun x hx =>?_
  obtain⟨i,hi,rfl⟩:=List.mem_iff_getElem.1 hx
  rw[List.getElem_drop]
  exact hz _ _ (by omega)
 rw[this,yo]
theorem sb {l:List Int} (hl:Fit l) (hd:Dg l):dp l=some (aE (dv l).toNat):=by
 obtain⟨r,h1,k,rfl,hk,hz,hlast⟩:=Hk hl
 unfold dp
 rw[h1,ad7,IG hk,ad7]
 congr 1
 have h2:dv l=dv (l.take k):=by rw[ij l hk,UX hz];omega
 rw[h2]
 refine (Av (hd.take k) fun hne =>?_).symm
 have hk0:0<k:=by
  rcases acT k with h|h
  ·subst h;simp at hne
  ·exact h
 have:=hlast hk0 (by omega)
 rw[List.getLast_eq_getElem]
 simp only[acU,List.getElem_take,adI hk]
 exact this
theorem AH {l:List Int} {n:Nat} (hl:Fit l) (hd:Dg l) (hn:dv l=n):dp l=some (aE n):=by
 rw[sb hl hd,hn];rfl
def gd (l:List Int) (i:Nat):Int:=if h:i<l.length then l[i] else 0
theorem FP {l:List Int} (h:Dg l) (i:Nat):0<=gd l i∧gd l i<1048576:=by
 unfold gd
 split
 ·exact h.get _
 ·omega
theorem po {l:List Int} (i:Nat):dv (l.take (i+1))=dv (l.take i)+pw i*gd l i:=by
 unfold gd
 split
 ·exact fa _
 ·rw[adW (by omega),adW (by omega)];simp
theorem wy {l:List Int} {i:Nat} (h:l.length<=i):dv (l.take i)=dv l:=by rw[adW h]
theorem T4 {a b:List Int} (ha:Dg a) (hb:Dg b) (hf:a.length<17592186044416) (hab:b.length<=a.length) :
  ∃r,aY (n8 a b) (0,0,List.replicate (a.length+1) 0)=some r∧r.2.length=a.length+1∧Dg r.2∧(∀j (hj:j<r.2.length),a.length<=j->r.2[j]=0)∧(0<=r.1∧r.1<=1)∧dv r.2+pw a.length*r.1=dv a+dv b:=by
 refine cy (I:=fun i s=>s.2.1=(i:Int)∧s.2.2.length=a.length+1∧Dg s.2.2∧(∀j (hj:j<s.2.2.length),i<=j->s.2.2[j]=0)∧(0<=s.1∧s.1<=1)∧dv s.2.2+pw i*s.1=dv (a.take i)+dv (b.take i))
  a.length _ ⟨rfl,by simp,Dg.rep _,fun j hj _=>by simp,by simp,by simp[yo,dv]⟩ (iO (by omega)) ?_
 rintro i ⟨c,s,l⟩ hi ⟨h1,hl,hd,hz,hc,he⟩
 simp only at h1 hl hd hz hc he
 subst h1
 simp only[n8]
 by_cases hlt:i<a.length
 ·left
  rw[if_pos (by simpa using hlt),bO hlt,ad7]
  have ga:=ha.get hlt
  have gb:=FP hb i
  have hT:(if decide ((i:Int)<(b.length:Int))=true then (P.idx b (i:Int)).bind fun x22=>some (IntKind.i64.wrap ((IntKind.i64.wrap (c+a[i]))+x22)) else some (IntKind.i64.wrap (c+a[i])))=some (c+a[i]+gd b i):=by
   by_cases hib:i<b.length
   ·rw[if_pos (by simpa using hib),bO hib,ad7]
    have:gd b i=b[i]:=by unfold gd;rw[dif_pos hib]
    rw[this]at gb ⊢
    rw[gx (x:=c+a[i]) (by omega),gx (by omega)]
   ·rw[if_neg (by simpa using hib)]
    have:gd b i=0:=by unfold gd;rw[dif_neg hib]
    rw[this,gx (by omega)];simp
  rw[hT,ad7,bO (by omega),ad7,Nd,ad7,sU (by omega) (by omega)]
  have hli:l[i]=0:=hz i (by omega) (acB _)
  have e1:IntKind.i64.wrap ((i:Int)+1)=((i+1:Nat):Int):=by rw[gx (by omega)];omega
  refine⟨hlt,_,rfl,e1,by simpa using hl,hd.set _ (by omega),fun j hj hij =>?_,by simp only;omega,?_⟩
  ·simp only[Int.toNat_natCast]at hj ⊢
   rw[aeM (by omega)]
   exact hz j (by simpa using hj) (by omega)
  ·simp only[Int.toNat_natCast]
   rw[qX (by omega),hli,po,po]
   have hga:gd a i=a[i]:=by unfold gd;rw[dif_pos hlt]
   rw[hga]
   have hp:=tJ i (c+a[i]+gd b i)
   rw[aeH,aeH]at hp
   rw[Int.sub_zero]
   omega
 ·right
  have hia:i=a.length:=by omega
  subst hia
  refine⟨_,by rw[if_neg (by simp)],hl,hd,fun j hj h=>hz j hj h,hc,?_⟩
  rw[he,wy (acB _),wy hab]
theorem add_eq {a b:List Int} (ha:Dg a) (hb:Dg b) (hfa:a.length<17592186044416) (hfb:b.length<17592186044416):oV a b=some (aE (dv a+dv b).toNat):=by
 have main:∀ {a b:List Int},Dg a->Dg b->a.length<17592186044416->b.length<=a.length ->
   ((D7 8 (IntKind.i64.wrap ((a.length:Int)+1)) (IntKind.i64.wrap ((a.length:Int)+1)) 0).bind fun x2 =>
    (aY (n8 a b) (0,0,x2)).bind fun q=>match q with
    | (s6bx,l5bx) =>
     (P.idx l5bx (a.length:Int)).bind fun x23 =>
     (dp (l5bx.set ((a.length:Int)).toNat s6bx)).bind fun r26 =>
     some r26)=some (aE (dv a+dv b).toNat):=by
  intro a b ha hb hfa hab
  have e:IntKind.i64.wrap ((a.length:Int)+1)=((a.length+1:Nat):Int):=by rw[gx (by omega)];omega
  rw[e,ZZ (by omega),ad7]
  obtain⟨⟨c,l⟩,h1,h2,h3,h4,h5,h6⟩:=T4 ha hb hfa hab
  rw[h1]
  simp only[Option.bind_some]at h2 h3 h4 h5 h6 ⊢
  have hlt:a.length<l.length:=by omega
  rw[bO hlt,ad7,adC,mO]
  have hv:dv (l.set a.length c)=dv a+dv b:=by
   rw[qX hlt,h4 _ hlt (acB _),Int.sub_zero,h6]
  rw[sb (by simp[Fit];omega) (h3.set _ (by omega)),hv]
 unfold oV
 by_cases h:a.length<b.length
 ·rw[if_pos (by simpa using h),ad7,Int.add_comm]
  exact main hb ha hfb (by omega)
 ·rw[if_neg (by simpa using h),ad7]
  exact main ha hb hfa (by omega)
theorem s5 {l:List Int} (h:Fit l):cB l=some l:=by
 unfold cB
 rw[wX (by simpa using h),aei]
theorem KB {l:List Int} {i:Nat} (h:i<l.length):gd l i=l[i]:=by unfold gd;rw[dif_pos h]
theorem FQ {l:List Int} {i:Nat} (h:l.length<=i):gd l i=0:=by unfold gd;rw[dif_neg (by omega)]
theorem Wg {a b:List Int} (ha:Dg a) (hb:Dg b) (hf:Fit a) (hab:b.length<=a.length) (hle:dv b<=dv a) :
  ∃l,aY (qT b a) (0,0,a)=some l∧l.length=a.length∧Dg l∧dv l=dv a-dv b:=by
 unfold Fit at hf
 refine cy (I:=fun i s=>s.2.1=(i:Int)∧s.2.2.length=a.length∧Dg s.2.2∧(∀j (hj:j<s.2.2.length) (hj':j<a.length),i<=j->s.2.2[j]=a[j])∧(0<=s.1∧s.1<=1)∧dv s.2.2+dv (b.take i)=dv a+pw i*s.1)
  a.length _ ⟨rfl,rfl,ha,fun j hj _ _=>rfl,by simp,by simp[dv]⟩ (iO (by omega)) ?_
 rintro i ⟨c,s,l⟩ hi ⟨h1,hl,hd,hz,hc,he⟩
 simp only at h1 hl hd hz hc he
 subst h1
 simp only[qT]
 by_cases hlt:i<a.length
 ·left
  have hli:i<l.length:=by omega
  rw[if_pos (by simpa using hlt),bO hli,ad7,hz i hli hlt (acB _)]
  have ga:=ha.get hlt
  have gb:=FP hb i
  have hT:(if decide ((i:Int)<(b.length:Int))=true then (P.idx b (i:Int)).bind fun x18=>some (IntKind.i64.wrap ((IntKind.i64.wrap (a[i]-c))-x18)) else some (IntKind.i64.wrap (a[i]-c)))=some (a[i]-c-gd b i):=by
   by_cases hib:i<b.length
   ·rw[if_pos (by simpa using hib),bO hib,ad7]
    rw[KB hib]at gb ⊢
    rw[gx (x:=a[i]-c) (by omega),gx (by omega)]
   ·rw[if_neg (by simpa using hib),FQ (by omega),gx (by omega)];simp
  rw[hT,ad7,Nd,ad7,sU (by omega) (by omega),W9 (by omega) (by omega)]
  have e1:IntKind.i64.wrap ((i:Int)+1)=((i+1:Nat):Int):=by rw[gx (by omega)];omega
  refine⟨hlt,_,rfl,e1,by simpa using hl,hd.set _ (by omega),fun j hj hj' hij =>?_,by simp only;omega,?_⟩
  ·simp only[Int.toNat_natCast]at hj ⊢
   rw[aeM (by omega)]
   exact hz j (by simpa using hj) hj' (by omega)
  ·simp only[Int.toNat_natCast]
   rw[qX hli,hz i hli hlt (acB _),po]
   have hp:=tJ i (a[i]-c-gd b i)
   have hb2:(a[i]-c-gd b i) / 1048576 % 2 = - ((a[i]-c-gd b i) / 1048576):=by omega
   rw[hb2,Int.mul_neg]
   rw[aeN,aeN]at hp
   rw[aeN]
   omega
 ·right
  have hia:i=a.length:=by omega
  subst hia
  refine⟨l,by rw[if_neg (by simp)],hl,hd,?_⟩
  rw[wy hab]at he
  have h1:=m9 hd
  rw[hl]at h1
  have hc0:c=0:=by
   rcases (show c=0∨c=1 by omega) with h|h
   ·exact h
   ·subst h;omega
  subst hc0
  omega
theorem sub_eq {a b:List Int} (ha:Dg a) (hb:Dg b) (hf:Fit a) (hab:b.length<=a.length) (hle:dv b<=dv a):nt a b=some (aE (dv a-dv b).toNat):=by
 obtain⟨l,h1,h2,h3,h4⟩:=Wg ha hb hf hab hle
 unfold nt
 rw[s5 hf,ad7,h1,ad7,mO,sb (by unfold Fit at *;omega) h3,h4]
theorem jk {l:List Int} {i:Nat} (h:i<l.length):dv (l.drop i)=l[i]+1048576*dv (l.drop (i+1)):=by
 rw[aew h,dv]
theorem Xk {x d:Int} (h:0<=x) (hd:0<d) (hx:x<4611686018427387904):ym .i64 x d=some (x / d):=by
 unfold ym
 rw[if_neg (by omega),Int.tdiv_eq_ediv_of_nonneg h,gx]
 have:=aeO h (Int.le_of_lt hd)
 have:=Int.ediv_le_self d h
 omega
theorem ZA {x d:Int} (h:0<=x) (hd:0<d):CA .i64 x d=some (x % d):=by
 unfold CA
 rw[if_neg (by omega),Int.tmod_eq_emod_of_nonneg h]
theorem Pu {a:List Int} {d:Int} (ha:Dg a) (hd:0<d∧d<=1048576) (hf:Fit a) :
  ∃r,aY (ns a d) (0,IntKind.i64.wrap ((a.length:Int)-1),List.replicate a.length 0)=some r∧r.2.length=a.length∧Dg r.2∧(0<=r.1∧r.1<d)∧dv a=d*dv r.2+r.1:=by
 unfold Fit at hf
 have e0:IntKind.i64.wrap ((a.length:Int)-1)=(a.length:Int)-1:=gx (by omega)
 rw[e0]
 refine cy (I:=fun i s=>s.2.1=((a.length-i:Nat):Int)-1∧s.2.2.length=a.length∧Dg s.2.2∧(0<=s.1∧s.1<d)∧dv (a.drop (a.length-i))=d*dv (s.2.2.drop (a.length-i))+s.1)
  a.length _ ⟨rfl,by simp,Dg.rep _,by simp;omega,by simp[dv]⟩ (iO (by omega)) ?_
 rintro i ⟨r,s,l⟩ hi ⟨h1,hl,hg,hr,he⟩
 simp only at h1 hl hg hr he
 subst h1
 generalize hk:a.length-i=k at *
 simp only[ns]
 by_cases h0:0<k
 ·left
  have hk1:k-1<a.length:=by omega
  have hk2:k-1<l.length:=by omega
  have ek:((k:Int)-1)=((k-1:Nat):Int):=by omega
  have ga:=ha.get hk1
  rw[ek,if_pos (by simp),V2 (by omega) (by omega),ad7,bO hk1,ad7,Pk (by omega) (by omega) ga,Xk (by omega) hd.1 (by omega),ad7,bO hk2,ad7,ZA (by omega) hd.1,ad7]
  have e1:IntKind.i64.wrap (((k-1:Nat):Int)-1)=((k-1:Nat):Int)-1:=gx (by omega)
  have hx0:0<=1048576*r+a[k-1]:=by omega
  have hq0:0<=(1048576*r+a[k-1]) / d:=aeO hx0 (by omega)
  have hq1:(1048576*r+a[k-1]) / d<1048576:=by
   apply aeP hd.1
   have:1048576*r<=1048576*(d-1):=aeG (by omega) (by omega)
   omega
  have hm0:=Int.emod_nonneg (1048576*r+a[k-1]) (show d≠0 by omega)
  have hm1:=aeQ (1048576*r+a[k-1]) hd.1
  refine⟨by omega,_,rfl,by rw[e1,show a.length-(i+1)=k-1 by omega],by simpa using hl,hg.set _ ⟨hq0,hq1⟩,⟨hm0,hm1⟩,?_⟩
  simp only[Int.toNat_natCast]
  rw[show a.length-(i+1)=k-1 by omega,jk hk1,jk (l:=l.set (k-1) _) (i:=k-1) (by simpa using hk2),show k-1+1=k by omega,List.getElem_set_self,List.drop_set_of_lt (by omega),he]
  have:=aeR (1048576*r+a[k-1]) d
  rw[aeH,aeH]
  have e3:d*(1048576*dv (l.drop k))=1048576*(d*dv (l.drop k)):=by rw[<- aeI,aeE d,aeI]
  rw[e3]
  omega
 ·right
  have:k=0:=by omega
  subst this
  refine⟨(r,l),by rw[if_neg (by simp)],hl,hg,hr,?_⟩
  simpa using he
theorem Nc {a:List Int} {d:Int} (ha:Dg a) (hd:0<d∧d<=1048576) (hf:Fit a):kv a d=some (aE (dv a / d).toNat,dv a % d):=by
 obtain⟨⟨r,l⟩,h1,h2,h3,h4,h5⟩:=Pu ha hd hf
 unfold kv
 rw[ZZ hf,ad7,h1,ad7]
 simp only at h2 h3 h4 h5 ⊢
 rw[sb (by unfold Fit at *;omega) h3,ad7]
 have e1:dv a / d=dv l:=by
  rw[h5,aeE,Int.add_comm,Int.add_mul_ediv_right _ _ (by omega),Int.ediv_eq_zero_of_lt h4.1 h4.2];omega
 have e2:dv a % d=r:=by
  rw[h5,aeE,Int.add_comm,Int.add_mul_emod_self_right]
  exact Int.emod_eq_of_lt h4.1 h4.2
 rw[e1,e2]
theorem Tq {b l0:List Int} {x:Int} {i n:Nat} (hb:Dg b) (hx:0<=x∧x<1048576) (h0:Dg l0) (hn:l0.length=n) (hi:i+b.length<n) (hf:n<=17592186044416) (hz:∀j (hj:j<l0.length),i+b.length<=j->l0[j]=0) :
  ∃r,aY (qS b (i:Int) x) (0,0,l0)=some r∧r.2.length=n∧Dg r.2∧(0<=r.1∧r.1<1048576)∧(∀j (hj:j<r.2.length),i+b.length<=j->r.2[j]=0)∧dv r.2+pw (i+b.length)*r.1=dv l0+pw i*(x*dv b):=by
 refine cy (I:=fun k s=>s.2.1=(k:Int)∧s.2.2.length=n∧Dg s.2.2∧(0<=s.1∧s.1<1048576)∧(∀j (hj:j<s.2.2.length),i+b.length<=j->s.2.2[j]=0)∧dv s.2.2+pw (i+k)*s.1=dv l0+pw i*(x*dv (b.take k)))
  b.length _ ⟨rfl,hn,h0,by simp,hz,by simp[dv]⟩ (iO (by omega)) ?_
 rintro k ⟨c,s,l⟩ hk ⟨h1,hl,hd,hc,hz,he⟩
 simp only at h1 hl hd hc hz he
 subst h1
 simp only[qS]
 by_cases hlt:k<b.length
 ·left
  have hik:i+k<l.length:=by omega
  have ei:IntKind.i64.wrap ((i:Int)+(k:Int))=((i+k:Nat):Int):=by rw[gx (by omega)];omega
  have gb:=hb.get hlt
  have gl:=hd.get hik
  have hm0:0<=x*b[k]:=aeS hx.1 gb.1
  have hm1:x*b[k]<=1048575*1048575:=aeT (by omega) (by omega) gb.1 (by omega)
  rw[if_pos (by simpa using hlt),bO hlt,ad7,ei,bO hik,ad7,gx (x:=x*b[k]) (by omega),gx (x:=l[i+k]+x*b[k]) (by omega),gx (x:=l[i+k]+x*b[k]+c) (by omega),Nd,ad7,sU (by omega) (by omega)]
  have e1:IntKind.i64.wrap ((k:Int)+1)=((k+1:Nat):Int):=by rw[gx (by omega)];omega
  refine⟨hlt,_,rfl,e1,by simpa using hl,hd.set _ (by omega),by simp only;omega,fun j hj hij =>?_,?_⟩
  ·simp only[Int.toNat_natCast]at hj ⊢
   rw[aeM (by omega)]
   exact hz j (by simpa using hj) hij
  ·simp only[Int.toNat_natCast]
   rw[qX hik,fa hlt]
   have hp:=tJ (i+k) (l[i+k]+x*b[k]+c)
   rw[aeH (pw (i+k)),aeH (pw (i+k))]at hp
   have e2:pw i*(x*(dv (b.take k)+pw k*b[k]))=pw i*(x*dv (b.take k))+pw (i+k)*(x*b[k]):=by
    rw[aeH,aeH,C3]
    congr 1
    rw[aeU x,<- aeI]
   rw[e2,aeN,show i+(k+1)=i+k+1 by omega]
   omega
 ·right
  have hkb:k=b.length:=by omega
  subst hkb
  refine⟨(c,l),by rw[if_neg (by simp)],hl,hd,hc,hz,?_⟩
  rw[he,aeC]
theorem Tp {a b:List Int} (ha:Dg a) (hb:Dg b) (hf:a.length+b.length<=17592186044416) :
  ∃l,aY (qQ a b) (0,List.replicate (a.length+b.length) 0)=some l∧l.length=a.length+b.length∧Dg l∧dv l=dv a*dv b:=by
 refine cy (I:=fun i s=>s.1=(i:Int)∧s.2.length=a.length+b.length∧Dg s.2∧(∀j (hj:j<s.2.length),i+b.length<=j->s.2[j]=0)∧dv s.2=dv (a.take i)*dv b)
  a.length _ ⟨rfl,by simp,Dg.rep _,fun j hj _=>by simp,by simp[dv,yo]⟩ (iO (by omega)) ?_
 rintro i ⟨s,l⟩ hi ⟨h1,hl,hd,hz,he⟩
 simp only at h1 hl hd hz he
 subst h1
 simp only[qQ]
 by_cases hlt:i<a.length
 ·left
  have ga:=ha.get hlt
  obtain⟨⟨c,m⟩,g1,g2,g3,g4,g5,g6⟩:=Tq (i:=i) (n:=a.length+b.length) hb ga hd hl (by omega) hf hz
  rw[if_pos (by simpa using hlt),bO hlt,ad7,g1,ad7]
  simp only at g2 g3 g4 g5 g6 ⊢
  have ei:IntKind.i64.wrap ((i:Int)+(b.length:Int))=((i+b.length:Nat):Int):=by rw[gx (by omega)];omega
  have hib:i+b.length<m.length:=by omega
  rw[ei,bO hib,ad7,g5 _ hib (acB _),Int.zero_add,gx (x:=c) (by omega)]
  have e1:IntKind.i64.wrap ((i:Int)+1)=((i+1:Nat):Int):=by rw[gx (by omega)];omega
  refine⟨hlt,_,rfl,e1,by simpa using g2,g3.set _ g4,fun j hj hij =>?_,?_⟩
  ·simp only[Int.toNat_natCast]at hj ⊢
   rw[aeM (by omega)]
   exact g5 j (by simpa using hj) (by omega)
  ·simp only[Int.toNat_natCast]
   rw[qX hib,g5 _ hib (acB _),Int.sub_zero,g6,he,fa hlt,aeV,aeI]
 ·right
  have hia:i=a.length:=by omega
  subst hia
  refine⟨l,by rw[if_neg (by simp)],hl,hd,?_⟩
  rw[he,aeC]
theorem mul_eq {a b:List Int} (ha:Dg a) (hb:Dg b) (hf:a.length+b.length<=17592186044416):np a b=some (aE (dv a*dv b).toNat):=by
 obtain⟨l,h1,h2,h3,h4⟩:=Tp ha hb hf
 unfold np
 have e:IntKind.i64.wrap ((a.length:Int)+(b.length:Int))=((a.length+b.length:Nat):Int):=by rw[gx (by omega)];omega
 rw[e,ZZ hf,ad7,h1,ad7,mO,sb (by unfold Fit;omega) h3,h4]
def mZ (x y:Int):Int:=if x<y then -1 else if y<x then 1 else 0
theorem Br (x y:Int):ee x y=some (mZ x y):=by
 unfold ee lT mZ
 simp only[bne_self_eq_false,Option.bind_some,adb,if_false,decide_eq_true_eq]
 split
 ·rfl
 ·split<;>rfl
theorem JQ {a b:List Int} (ha:Dg a) (hb:Dg b) (hf:Fit a) (hl:a.length=b.length):eD a b=some (mZ (dv a) (dv b)):=by
 unfold Fit at hf
 unfold eD
 rw[if_neg (by simp;omega)]
 have e0:IntKind.i64.wrap ((a.length:Int)-1)=(a.length:Int)-1:=gx (by omega)
 rw[e0]
 have key:∃r,aY (kU a b) ((a.length:Int)-1)=some r∧(match r with | .inl _=>mZ (dv a) (dv b)=0 | .inr x=>x=mZ (dv a) (dv b)):=by
  refine cy (I:=fun i s=>s=((a.length-i:Nat):Int)-1∧a.drop (a.length-i)=b.drop (a.length-i)) a.length _ ⟨rfl,?_⟩ (iO hf) ?_
  ·rw[ael (by omega),ael (by omega)]
  rintro i s hi ⟨rfl,he⟩
  generalize hk:a.length-i=k at *
  simp only[kU]
  by_cases h0:0<k
  ·have h1:k-1<a.length:=by omega
   have h2:k-1<b.length:=by omega
   have ek:((k:Int)-1)=((k-1:Nat):Int):=by omega
   rw[ek,if_pos (by simp),bO h1,ad7,bO h2,ad7]
   by_cases hx:a[k-1]=b[k-1]
   ·left
    rw[if_neg (by simpa using hx)]
    refine⟨by omega,_,rfl,by rw[gx (by omega)];omega,?_⟩
    rw[show a.length-(i+1)=k-1 by omega,aew h1,aew h2,hx,show k-1+1=k by omega,he]
   ·right
    rw[if_pos (by simpa using hx),Br,ad7]
    refine⟨_,rfl,?_⟩
    simp only
    have ea:=ij a (i:=k) (by omega)
    have eb:=ij b (i:=k) (by omega)
    have ta:=fa h1
    have tb:=fa h2
    rw[show k-1+1=k by omega]at ta tb
    have la:=m9 (ha.take (k-1))
    have lb:=m9 (hb.take (k-1))
    rw[acU,adI (by omega)]at la lb
    have na:=cq (ha.take (k-1))
    have nb:=cq (hb.take (k-1))
    have hp:=l4 (k-1)
    rw[ta]at ea
    rw[tb]at eb
    rw[he]at ea
    unfold mZ
    rcases Int.lt_or_gt_of_ne hx with hlt|hlt
    ·have:pw (k-1)*a[k-1]+pw (k-1)<=pw (k-1)*b[k-1]:=by
      have:pw (k-1)*(a[k-1]+1)<=pw (k-1)*b[k-1]:=aeG (by omega) (by omega)
      rwa [aeH,aeF]at this
     rw[if_pos hlt,if_pos (by omega)]
    ·have:pw (k-1)*b[k-1]+pw (k-1)<=pw (k-1)*a[k-1]:=by
      have:pw (k-1)*(b[k-1]+1)<=pw (k-1)*a[k-1]:=aeG (by omega) (by omega)
      rwa [aeH,aeF]at this
     rw[if_neg (by omega),if_pos hlt,if_neg (by omega),if_pos (by omega)]
  ·right
   have:k=0:=by omega
   subst this
   refine⟨.inl (),by rw[if_neg (by simp)],?_⟩
   simp only[adX]at he
   simp[he,mZ]
 obtain⟨r,h1,h2⟩:=key
 rw[h1,ad7]
 cases r with
 | inl u=>simp only at h2 ⊢;rw[h2]
 | inr x=>simp only at h2 ⊢;rw[h2]
theorem s7 {m n:Nat} (h:(aE m).length<(aE n).length):m<n:=by
 have h1:=eT m
 have hn:n≠0:=fun h0=>by subst h0;rw[cf]at h;simp at h
 have h2:=w6 hn
 have h3:=pz (i:=(aE m).length) (j:=(aE n).length-1) (by omega)
 omega
theorem b8 {m n:Nat} (h:m<=n):(aE m).length<=(aE n).length:=by
 rcases ado (aE n).length (aE m).length with h1|h1
 ·have:=s7 h1;omega
 ·exact h1
theorem Bs {m n:Nat} (hm:Fit (aE m)) (hn:Fit (aE n)):eD (aE m) (aE n)=some (mZ m n):=by
 by_cases hl:(aE m).length=(aE n).length
 ·rw[JQ (bZ m) (bZ n) hm hl,bh,bh]
 ·unfold eD
  rw[if_pos (by simp;omega),Br,mO]
  unfold mZ
  rcases Nat.lt_or_gt_of_ne hl with h|h
  ·have:=s7 h
   rw[if_pos (by omega),if_pos (by omega)]
  ·have:=s7 h
   rw[if_neg (by omega),if_pos (by omega),if_neg (by omega),if_pos (by omega)]
theorem IE {u v:List Int} {g:Int} (hu:Dg u) (hv:Dg v) (hg:0<=g∧g<=1048576) (hf:Fit u) (hl:v.length<=u.length) :
  ∃r,aY (jY u v g) (0,0,u)=some r∧r.2.length=u.length∧Dg r.2∧(0<=r.1∧r.1<=1048576)∧dv r.2+g*dv v=dv u+pw u.length*r.1:=by
 unfold Fit at hf
 refine cy (I:=fun i s=>s.2.1=(i:Int)∧s.2.2.length=u.length∧Dg s.2.2∧(∀j (hj:j<s.2.2.length) (hj':j<u.length),i<=j->s.2.2[j]=u[j])∧(0<=s.1∧s.1<=1048576)∧dv s.2.2+g*dv (v.take i)=dv u+pw i*s.1)
  u.length _ ⟨rfl,rfl,hu,fun j hj _ _=>rfl,by simp,by simp[dv]⟩ (iO (by omega)) ?_
 rintro i ⟨c,s,l⟩ hi ⟨h1,hll,hd,hz,hc,he⟩
 simp only at h1 hll hd hz hc he
 subst h1
 simp only[jY]
 by_cases hlt:i<u.length
 ·left
  have hli:i<l.length:=by omega
  rw[if_pos (by simpa using hlt),bO hli,ad7,hz i hli hlt (acB _)]
  have ga:=hu.get hlt
  have gb:=FP hv i
  have hm0:0<=g*gd v i:=aeS hg.1 gb.1
  have hm1:g*gd v i<=1048576*1048575:=aeT (by omega) (by omega) gb.1 (by omega)
  have hT:(if decide ((i:Int)<(v.length:Int))=true then (P.idx v (i:Int)).bind fun x17=>some (IntKind.i64.wrap ((IntKind.i64.wrap (u[i]-c))-(IntKind.i64.wrap (g*x17)))) else some (IntKind.i64.wrap (u[i]-c)))=some (u[i]-c-g*gd v i):=by
   by_cases hib:i<v.length
   ·rw[if_pos (by simpa using hib),bO hib,ad7]
    rw[KB hib]at gb hm0 hm1 ⊢
    rw[gx (x:=u[i]-c) (by omega),gx (x:=g*v[i]) (by omega),gx (by omega)]
   ·rw[if_neg (by simpa using hib),FQ (by omega),gx (by omega)];simp
  rw[hT,ad7,Nd,ad7,sU (by omega) (by omega),gx (x:=0-_) (by omega)]
  have e1:IntKind.i64.wrap ((i:Int)+1)=((i+1:Nat):Int):=by rw[gx (by omega)];omega
  refine⟨hlt,_,rfl,e1,by simpa using hll,hd.set _ (by omega),fun j hj hj' hij =>?_,by simp only;omega,?_⟩
  ·simp only[Int.toNat_natCast]at hj ⊢
   rw[aeM (by omega)]
   exact hz j (by simpa using hj) hj' (by omega)
  ·simp only[Int.toNat_natCast]
   rw[qX hli,hz i hli hlt (acB _),po]
   have hp:=tJ i (u[i]-c-g*gd v i)
   rw[aeN (pw i),aeN (pw i)]at hp
   have e2:g*(dv (v.take i)+pw i*gd v i)=g*dv (v.take i)+pw i*(g*gd v i):=by rw[aeH,aeU]
   rw[e2,aeN (pw i),aeN (pw (i+1)),aeW]
   omega
 ·right
  have hia:i=u.length:=by omega
  subst hia
  refine⟨(c,l),by rw[if_neg (by simp)],hll,hd,hc,?_⟩
  rw[wy hl]at he
  exact he
theorem IF {u v:List Int} (hu:Dg u) (hv:Dg v) (hf:Fit u) (hl:v.length<=u.length) :
  ∃l,aY (jZ v u) (0,0,u)=some l∧l.length=u.length∧Dg l∧∃c,0<=c∧dv l+pw u.length*c=dv u+dv v:=by
 unfold Fit at hf
 refine cy (I:=fun i s=>s.2.1=(i:Int)∧s.2.2.length=u.length∧Dg s.2.2∧(∀j (hj:j<s.2.2.length) (hj':j<u.length),i<=j->s.2.2[j]=u[j])∧(0<=s.1∧s.1<=1)∧dv s.2.2+pw i*s.1=dv u+dv (v.take i))
  u.length _ ⟨rfl,rfl,hu,fun j hj _ _=>rfl,by simp,by simp[dv]⟩ (iO (by omega)) ?_
 rintro i ⟨c,s,l⟩ hi ⟨h1,hll,hd,hz,hc,he⟩
 simp only at h1 hll hd hz hc he
 subst h1
 simp only[jZ]
 by_cases hlt:i<u.length
 ·left
  have hli:i<l.length:=by omega
  rw[if_pos (by simpa using hlt),bO hli,ad7,hz i hli hlt (acB _)]
  have ga:=hu.get hlt
  have gb:=FP hv i
  have hT:(if decide ((i:Int)<(v.length:Int))=true then (P.idx v (i:Int)).bind fun x35=>some (IntKind.i64.wrap ((IntKind.i64.wrap (c+u[i]))+x35)) else some (IntKind.i64.wrap (c+u[i])))=some (c+u[i]+gd v i):=by
   by_cases hib:i<v.length
   ·rw[if_pos (by simpa using hib),bO hib,ad7]
    rw[KB hib]at gb ⊢
    rw[gx (x:=c+u[i]) (by omega),gx (by omega)]
   ·rw[if_neg (by simpa using hib),FQ (by omega),gx (by omega)];simp
  rw[hT,ad7,Nd,ad7,sU (by omega) (by omega)]
  have e1:IntKind.i64.wrap ((i:Int)+1)=((i+1:Nat):Int):=by rw[gx (by omega)];omega
  refine⟨hlt,_,rfl,e1,by simpa using hll,hd.set _ (by omega),fun j hj hj' hij =>?_,by simp only;omega,?_⟩
  ·simp only[Int.toNat_natCast]at hj ⊢
   rw[aeM (by omega)]
   exact hz j (by simpa using hj) hj' (by omega)
  ·simp only[Int.toNat_natCast]
   rw[qX hli,hz i hli hlt (acB _),po]
   have hp:=tJ i (c+u[i]+gd v i)
   rw[aeH (pw i),aeH (pw i)]at hp
   rw[aeN (pw i)]
   omega
 ·right
  have hia:i=u.length:=by omega
  subst hia
  refine⟨l,by rw[if_neg (by simp)],hll,hd,c,hc.1,?_⟩
  rw[wy hl]at he
  exact he
theorem Tz {u v:List Int} {g:Int} (hu:Dg u) (hv:Dg v) (hf:Fit u) (hl:v.length<=u.length) (hV:0<dv v) (hg0:dv u / dv v<=g) (hg1:g<=dv u / dv v+1) (hgB:g<=1048576) :
  ∃l,eZ u v g=some (l,dv u / dv v)∧l.length=u.length∧Dg l∧dv l=dv u % dv v:=by
 have hq0:0<=dv u / dv v:=aeO (cq hu) (by omega)
 obtain⟨⟨c,l⟩,h1,h2,h3,h4,h5⟩:=IE hu hv ⟨by omega,hgB⟩ hf hl
 simp only at h2 h3 h4 h5
 have hm:=aeR (dv u) (dv v)
 have hm0:=Int.emod_nonneg (dv u) (show dv v≠0 by omega)
 have hm1:=aeQ (dv u) hV
 have hll:=m9 h3
 have hl0:=cq h3
 rw[h2]at hll
 have hp:=l4 u.length
 have hvl:dv v<pw u.length:=Int.lt_of_lt_of_le (m9 hv) (pz hl)
 unfold eZ n9
 rw[h1,ad7]
 simp only
 rcases (show g=dv u / dv v∨g=dv u / dv v+1 by omega) with hg|hg
 ·have hgv:g*dv v=dv v*(dv u / dv v):=by rw[hg,aeE]
  have hc0:c=0:=by
   rcases (show c=0∨1<=c by omega) with h|h
   ·exact h
   ·have:pw u.length*1<=pw u.length*c:=aeG h (by omega)
    omega
  subst hc0
  rw[if_pos (by simp),ad7,if_pos (by simpa using h2)]
  exact⟨l,by rw[hg],h2,h3,by rw[aeW]at h5;omega⟩
 ·have hgv:g*dv v=dv v*(dv u / dv v)+dv v:=by rw[hg,aeV,aeX,aeE]
  have hc0:c≠0:=by
   intro h
   subst h
   rw[aeW]at h5
   omega
  obtain⟨m,g1,g2,g3,d,g4,g5⟩:=IF h3 hv (by unfold Fit at *;omega) (by omega)
  rw[if_neg (by simpa using hc0),g1,ad7,ad7,if_pos (by simp;omega)]
  refine⟨m,by rw[gx (by omega),hg];simp,by omega,g3,?_⟩
  rw[h2]at g5
  have hml:=m9 g3
  have hm0':=cq g3
  rw[g2,h2]at hml
  have hcd:c=d:=by
   rcases Int.lt_trichotomy c d with h|h|h
   ·have:pw u.length*(c+1)<=pw u.length*d:=aeG (by omega) (by omega)
    rw[aeH,aeF]at this
    omega
   ·exact h
   ·have:pw u.length*(d+1)<=pw u.length*c:=aeG (by omega) (by omega)
    rw[aeH,aeF]at this
    omega
  subst hcd
  omega
theorem OG {v u:List Int} {s13:Int} {v1 v2 w2 T V W:Int} {n:Nat} (hn:2<=n) (hlen:v.length=n) (hfv:n<=17592186044416) (i:Nat) (hs:s13=i) (hfi:i+n<=17592186044416)
  (hv2:P.idx v (((n-2:Nat)):Int)=some v2) (hw2:P.idx u (((i+n-2:Nat)):Int)=some w2)
  (b1:524288<=v1∧v1<1048576) (b2:0<=v2∧v2<1048576) (bw:0<=w2∧w2<1048576) (hT0:0<=T) (hT1:T<1048576*1048576)
  (hV:pw (n-2)*(v1*1048576+v2)<=V∧V<pw (n-2)*(v1*1048576+v2+1)) (hW:pw (n-2)*(T*1048576+w2)<=W∧W<pw (n-2)*(T*1048576+w2+1)) (hWV:W<1048576*V) :
  ∃g,aY (qP v s13 u v1) (T / v1,T % v1)=some g∧W / V<=g∧g<=W / V+1∧g<=1048576:=by
 subst hs
 have hp:=l4 (n-2)
 have hVp:0<V:=by
  have:pw (n-2)*1<=pw (n-2)*(v1*1048576+v2):=aeG (by omega) (by omega)
  omega
 have hW0:0<=W:=by
  have:0<=pw (n-2)*(T*1048576+w2):=aeS (by omega) (by omega)
  omega
 have hq0:0<=W / V:=aeO hW0 (by omega)
 have hqB:W / V<1048576:=aeP hVp hWV
 have hm:=aeR T v1
 have hm0:=Int.emod_nonneg T (show v1≠0 by omega)
 have hm1:=aeQ T (show 0<v1 by omega)
 have hd0:0<=T / v1:=aeO hT0 (by omega)
 have hd1:T / v1<=2097152:=by
  have:T / v1<2097153:=aeP (by omega) (by
   have:2097153*524288<=2097153*v1:=aeG b1.1 (by omega)
   omega)
  omega
 have hge:∀g r:Int,g*v1+r=T->W / V<=g->g*v2>r*1048576+w2->W / V<=g-1:=by
  intro g r h1 h2 h3
  have h4:W<g*V:=by
   have e1:g*(v1*1048576+v2)>=T*1048576+w2+1:=by
    rw[<- h1]
    have:g*(v1*1048576+v2)=g*v1*1048576+g*v2:=by rw[aeH,aeI]
    rw[this,aeV]
    omega
   have e2:pw (n-2)*(T*1048576+w2+1)<=pw (n-2)*(g*(v1*1048576+v2)):=aeG e1 (by omega)
   have e3:g*(pw (n-2)*(v1*1048576+v2))<=g*V:=aeG hV.1 (by omega)
   have e4:pw (n-2)*(g*(v1*1048576+v2))=g*(pw (n-2)*(v1*1048576+v2)):=aeU _ _ _
   omega
  have:=aeP hVp h4
  omega
 have hle:∀g r:Int,g*v1+r=T->0<=g->g<=1048576->g*v2<=r*1048576+w2->g<=W / V+1:=by
  intro g r h1 h0 hB h3
  have e1:g*(v1*1048576+v2)<=T*1048576+w2:=by
   rw[<- h1]
   have:g*(v1*1048576+v2)=g*v1*1048576+g*v2:=by rw[aeH,aeI]
   rw[this,aeV]
   omega
  have e2:g*V<=W+V:=by
   have f1:g*V<=g*(pw (n-2)*(v1*1048576+v2+1)):=aeG (by omega) h0
   have f2:g*(pw (n-2)*(v1*1048576+v2+1))=pw (n-2)*(g*(v1*1048576+v2))+pw (n-2)*g:=by
    rw[aeU,aeH g,aeF,aeH]
   have f3:pw (n-2)*(g*(v1*1048576+v2))<=pw (n-2)*(T*1048576+w2):=aeG e1 (by omega)
   have f4:pw (n-2)*g<=pw (n-2)*(v1*1048576+v2):=aeG (by omega) (by omega)
   omega
  have e3:(g-1)*V<=W:=by rw[Int.sub_mul,aeX];omega
  have:=Int.le_ediv_of_mul_le hVp e3
  omega
 have hbase:W / V<=T / v1:=by
  have e1:W<(T / v1+1)*V:=by
   have f1:T+1<=(T / v1+1)*v1:=by
    have:(T / v1+1)*v1=v1*(T / v1)+v1:=by rw[aeV,aeX,aeE]
    omega
   have f2:T*1048576+w2+1<=(T / v1+1)*(v1*1048576+v2):=by
    have g1:(T+1)*1048576<=(T / v1+1)*v1*1048576:=aeY f1 (by omega)
    have g2:0<=(T / v1+1)*v2:=aeS (by omega) b2.1
    rw[aeH,<- aeI]
    omega
   have f3:pw (n-2)*(T*1048576+w2+1)<=pw (n-2)*((T / v1+1)*(v1*1048576+v2)):=aeG f2 (by omega)
   have f4:(T / v1+1)*(pw (n-2)*(v1*1048576+v2))<=(T / v1+1)*V:=aeG hV.1 (by omega)
   have f5:pw (n-2)*((T / v1+1)*(v1*1048576+v2))=(T / v1+1)*(pw (n-2)*(v1*1048576+v2)):=aeU _ _ _
   omega
  have:=aeP hVp e1
  omega
 refine oD (I:=fun (s:Int×Int)=>s.1*v1+s.2=T∧W / V<=s.1∧s.1<=2097152∧0<=s.2) (μ:=fun (s:Int×Int)=>s.1.toNat) _ ⟨?_,hbase,hd1,hm0⟩ (by unfold FU;omega) ?_
 ·show T / v1*v1+T % v1=T
  rw[aeE];exact hm
 rintro⟨g,r⟩ ⟨h1,h2,h3,h4⟩
 simp only at h1 h2 h3 h4
 have hgv:0<=g*v1:=aeS (by omega) (by omega)
 simp only[qP]
 have el:IntKind.i64.wrap ((v.length:Int)-2)=((n-2:Nat):Int):=by rw[hlen,gx (by omega)];omega
 have ei:IntKind.i64.wrap ((IntKind.i64.wrap ((i:Int)+(v.length:Int)))-2)=((i+n-2:Nat):Int):=by rw[hlen,gx (x:=(i:Int)+n) (by omega),gx (by omega)];omega
 rw[el,ei]
 have hstep:W / V<=g-1->∃s':Int×Int,(some (Sum.inl (IntKind.i64.wrap (g-1),IntKind.i64.wrap (r+v1))):Option ((Int×Int)⊕Int))=some (.inl s')∧(s'.1*v1+s'.2=T∧W / V<=s'.1∧s'.1<=2097152∧0<=s'.2)∧s'.1.toNat<g.toNat:=by
  intro hlt
  refine⟨_,rfl,?_⟩
  rw[gx (x:=g-1) (by omega),gx (x:=r+v1) (by omega)]
  simp only
  refine⟨⟨by rw[Int.sub_mul,aeX];omega,hlt,by omega,by omega⟩,by omega⟩
 by_cases hgB:g>=1048576
 ·rw[if_pos (by simpa using hgB),ad7,if_pos rfl]
  exact .inl (hstep (by omega))
 ·rw[if_neg (by simpa using hgB)]
  by_cases hr:r<1048576
  ·have hgv2:0<=g*v2:=aeS (by omega) b2.1
   have hgv2':g*v2<=1048576*1048576:=aeT (by omega) (by omega) b2.1 (by omega)
   rw[if_pos (by simpa using hr),hv2,ad7,V2 h4 (by omega),ad7,hw2,ad7,gx (x:=g*v2) (by omega),Pk h4 (by omega) bw,ad7]
   by_cases ht:g*v2>1048576*r+w2
   ·rw[if_pos (by simpa using ht)]
    exact .inl (hstep (hge g r h1 h2 (by omega)))
   ·rw[if_neg (by simpa using ht)]
    exact .inr ⟨g,rfl,h2,hle g r h1 (by omega) (by omega) (by omega),by omega⟩
  ·rw[if_neg (by simpa using hr),ad7,if_neg (by simp)]
   refine .inr ⟨g,rfl,h2,hle g r h1 (by omega) (by omega) ?_,by omega⟩
   have:g*v2<=1048575*1048575:=aeT (by omega) (by omega) b2.1 (by omega)
   have:1048576*1048576<=r*1048576:=aeY (by omega) (by omega)
   omega
theorem ZM {α:Type} {l:List α} {a b:Nat} (h:a<=b) (hb:b<=l.length):Aq l (a:Int) (b:Int)=some ((l.drop a).take (b-a)):=by
 unfold Aq
 rw[if_pos ⟨by omega,by omega,by omega⟩]
 simp
theorem Xm {l:List Int} {n:Nat} (hl:l.length=n) (hn:2<=n) (hd:Dg l) :
  pw (n-2)*((l[n-1]'(by omega))*1048576+l[n-2]'(by omega))<=dv l∧dv l<pw (n-2)*((l[n-1]'(by omega))*1048576+l[n-2]'(by omega)+1):=by
 have e:=ij l (i:=n-2) (by omega)
 rw[jk (by omega),jk (i:=n-2+1) (by omega),ael (by omega)]at e
 have e1:l[n-2+1]'(by omega)=l[n-1]'(by omega):=by congr 1;omega
 rw[e1]at e
 have h1:=cq (hd.take (n-2))
 have h2:=m9 (hd.take (n-2))
 rw[acU,adI (by omega)]at h2
 simp only[dv]at e
 have e2:l[n-2]'(by omega)+1048576*(l[n-1]'(by omega)+1048576*0)=(l[n-1]'(by omega))*1048576+l[n-2]'(by omega):=by omega
 rw[e2]at e
 rw[aeH (pw (n-2)) _ 1,aeF]
 omega
theorem Xn {l:List Int} {n:Nat} (hl:l.length=n+1) (hn:2<=n) (hd:Dg l) :
  pw (n-2)*((1048576*(l[n]'(by omega))+l[n-1]'(by omega))*1048576+l[n-2]'(by omega))<=dv l∧dv l<pw (n-2)*((1048576*(l[n]'(by omega))+l[n-1]'(by omega))*1048576+l[n-2]'(by omega)+1):=by
 have e:=ij l (i:=n-2) (by omega)
 rw[jk (by omega),jk (i:=n-2+1) (by omega),jk (i:=n-2+1+1) (by omega),ael (by omega)]at e
 have e1:l[n-2+1]'(by omega)=l[n-1]'(by omega):=by congr 1;omega
 have e3:l[n-2+1+1]'(by omega)=l[n]'(by omega):=by congr 1;omega
 rw[e1,e3]at e
 have h1:=cq (hd.take (n-2))
 have h2:=m9 (hd.take (n-2))
 rw[acU,adI (by omega)]at h2
 simp only[dv]at e
 have e2:l[n-2]'(by omega)+1048576*(l[n-1]'(by omega)+1048576*(l[n]'(by omega)+1048576*0))=(1048576*(l[n]'(by omega))+l[n-1]'(by omega))*1048576+l[n-2]'(by omega):=by omega
 rw[e2]at e
 rw[aeH (pw (n-2)) _ 1,aeF]
 omega
theorem UK {v u0:List Int} {n m:Nat} (hv:Dg v) (hvl:v.length=n) (hn:2<=n) (hv1:524288<=v[n-1]'(by omega)) (hu:Dg u0) (hul:u0.length=m+n) (hf:m+n<=17592186044416) (hdr:dv (u0.drop m)<dv v) :
  ∃r,aY (qO v) ((m:Int)-1,u0,List.replicate m 0)=some r∧r.1.length=m+n∧Dg r.1∧r.2.length=m∧Dg r.2∧dv r.1+dv v*dv r.2=dv u0∧dv r.1<dv v:=by
 have hvn:=m9 hv
 rw[hvl]at hvn
 refine cy (I:=fun i s=>s.1=((m-i:Nat):Int)-1∧s.2.1.length=m+n∧Dg s.2.1∧s.2.2.length=m∧Dg s.2.2∧(∀j (hj:j<s.2.2.length),j<m-i->s.2.2[j]=0)∧dv s.2.1+dv v*dv s.2.2=dv u0∧dv (s.2.1.drop (m-i))<dv v)
  m _ ⟨rfl,hul,hu,by simp,Dg.rep _,fun j hj _=>by simp,by simp[yo],hdr⟩ (iO (by omega)) ?_
 rintro i ⟨s,u,q⟩ hi ⟨h1,hl,hd,hql,hqd,hz,he,hdr⟩
 simp only at h1 hl hd hql hqd hz he hdr
 subst h1
 generalize hk:m-i=k at *
 simp only[qO]
 by_cases h0:0<k
 ·left
  have ek:((k:Int)-1)=((k-1:Nat):Int):=by omega
  rw[ek,if_pos (by simp)]
  have e1:IntKind.i64.wrap (((k-1:Nat):Int)+(v.length:Int))=((k-1+n:Nat):Int):=by rw[hvl,gx (by omega)];omega
  have e2:IntKind.i64.wrap (((k-1+n:Nat):Int)-1)=((k-1+n-1:Nat):Int):=by rw[gx (by omega)];omega
  have e3:IntKind.i64.wrap ((v.length:Int)-1)=((n-1:Nat):Int):=by rw[hvl,gx (by omega)];omega
  have e4:IntKind.i64.wrap (((k-1+n:Nat):Int)+1)=((k-1+n+1:Nat):Int):=by rw[gx (by omega)];omega
  have e5:IntKind.i64.wrap (((k-1:Nat):Int)-1)=((k-1:Nat):Int)-1:=gx (by omega)
  rw[e1,e2,e3,e4,e5]
  have i1:k-1+n<u.length:=by omega
  have i2:k-1+n-1<u.length:=by omega
  have i3:k-1+n-2<u.length:=by omega
  have iv:n-1<v.length:=by omega
  have iv2:n-2<v.length:=by omega
  have g1:=hd.get i1
  have g2:=hd.get i2
  have g3:=hd.get i3
  have gv:=hv.get iv
  have gv2:=hv.get iv2
  rw[bO i1,ad7,V2 g1.1 (by omega),ad7,bO i2,ad7,bO iv,ad7,Pk g1.1 (by omega) g2,Xk (by omega) (by omega) (by omega),ad7,ZA (by omega) (by omega),ad7,ZM (by omega) (by omega),show k-1+n+1-(k-1)=n+1 by omega]
  generalize hw:(u.drop (k-1)).take (n+1)=w
  have hwl:w.length=n+1:=by rw[<- hw,acU,acV];omega
  have hwd:Dg w:=by rw[<- hw];exact (hd.drop _).take _
  have hwg:∀j (hj:j<n+1),w[j]'(by omega)=u[k-1+j]'(by omega):=by
   intro j hj
   subst hw
   rw[List.getElem_take,List.getElem_drop]
  have hup:dv (u.drop (k+n))=0:=by
   have s1:=ij (u.drop k) (i:=n) (by rw[acV];omega)
   rw[aen]at s1
   have n1:=cq ((hd.drop k).take n)
   have n2:=cq (hd.drop (k+n))
   have hp:=l4 n
   rcases (show dv (u.drop (k+n))=0∨1<=dv (u.drop (k+n)) by omega) with h|h
   ·exact h
   ·have:pw n*1<=pw n*dv (u.drop (k+n)):=aeG h (by omega)
    omega
  have hW:dv w=dv (u.drop (k-1)):=by
   have s1:=ij (u.drop (k-1)) (i:=n+1) (by rw[acV];omega)
   rw[aen,show k-1+(n+1)=k+n by omega,hup,hw]at s1
   omega
  have hWk:dv w=u[k-1]+1048576*dv (u.drop k):=by
   rw[hW,jk (by omega),show k-1+1=k by omega]
  have gk:=hd.get (show k-1<u.length by omega)
  have hWV:dv w<1048576*dv v:=by omega
  have t2:=Xm hvl hn hv
  have t3:=Xn hwl hn hwd
  rw[hwg n (by omega),hwg (n-1) (by omega),hwg (n-2) (by omega)]at t3
  have a1:u[k-1+(n-1)]'(by omega)=u[k-1+n-1]'(by omega):=by congr 1;omega
  have a2:u[k-1+(n-2)]'(by omega)=u[k-1+n-2]'(by omega):=by congr 1;omega
  rw[a1,a2]at t3
  obtain⟨g,q1,q2,q3,q4⟩:=OG (s13:=((k-1:Nat):Int)) hn hvl (by omega) (k-1) rfl (by omega) (bO iv2) (bO i3) ⟨hv1,gv.2⟩ gv2 g3 (T:=1048576*u[k-1+n]+u[k-1+n-1]) (by omega) (by omega) t2 t3 hWV
  rw[q1,ad7,ad7]
  have hVp:0<dv v:=by
   have:=cq hwd
   omega
  obtain⟨l,r1,r2,r3,r4⟩:=Tz hwd hv (by unfold Fit;omega) (by omega) hVp q2 q3 q4
  have iq:k-1<q.length:=by omega
  rw[r1,ad7,bO iq,ad7]
  simp only
  have hq0:0<=dv w / dv v:=aeO (cq hwd) (by omega)
  have hqB:dv w / dv v<1048576:=aeP hVp hWV
  have hmod:=aeQ (dv w) hVp
  simp only[Int.toNat_natCast]
  have hdl:dv (l++u.drop (k-1+n+1))=dv w % dv v:=by
   rw[fp,show k-1+n+1=k+n by omega,hup,r4];omega
  have hut:(u.take (k-1)).length=k-1:=by rw[acU];omega
  have hdu:dv (u.take (k-1)++(l++u.drop (k-1+n+1)))=dv (u.take (k-1))+pw (k-1)*(dv w % dv v):=by rw[fp,hut,hdl]
  refine⟨by omega,_,rfl,by rw[show m-(i+1)=k-1 by omega],?_,(hd.take _).append (r3.append (hd.drop _)),by simpa using hql,hqd.set _ ⟨hq0,hqB⟩,fun j hj hjk =>?_,?_,?_⟩
  ·simp only[adF,acU,acV];omega
  ·rw[aeM (by omega)]
   exact hz j (by simpa using hj) (by omega)
  ·rw[hdu,qX iq,hz _ iq (by omega),Int.sub_zero,aeH]
   have s2:=ij u (i:=k-1) (by omega)
   rw[<- hW]at s2
   have hm:=aeR (dv w) (dv v)
   have:pw (k-1)*dv w=dv v*(pw (k-1)*(dv w / dv v))+pw (k-1)*(dv w % dv v):=by
    rw[aeU,<- aeH,hm]
   omega
  ·rw[show m-(i+1)=k-1 by omega,aek,hut,adH,adX,ael (by omega),aei,hdl]
   exact hmod
 ·right
  have:k=0:=by omega
  subst this
  refine⟨(u,q),by rw[if_neg (by simp)],hl,hd,hql,hqd,he,?_⟩
  simpa using hdr
theorem Pt {v:List Int} {t:Int} {n:Nat} (hl:v.length=n) (hn:0<n) (hf:n<=17592186044416) (ht:v[n-1]'(by omega)=t) (h1:1<=t) (h2:t<1048576) :
  ∃s,aY (qN v) 1=some s∧∃j:Nat,s=2 ^ j∧j<=19∧524288<=t*s∧t*s<1048576:=by
 refine cy (I:=fun i s=>s=2 ^ i∧t*s<1048576) 20 _ ⟨rfl,by omega⟩ (by unfold FU;omega) ?_
 rintro i s hi ⟨rfl,hb⟩
 have hp:(0:Int)<2 ^ i:=Int.pow_pos (by decide)
 have hpt:(2:Int) ^ i<=t*2 ^ i:=by
  have:1*(2:Int) ^ i<=t*2 ^ i:=aeY h1 (by omega)
  omega
 have hi20:i<=19:=by
  rcases ado 19 i with h|h
  ·have hx:i=20:=by omega
   subst hx
   omega
  ·exact h
 simp only[qN]
 have e:IntKind.i64.wrap ((v.length:Int)-1)=((n-1:Nat):Int):=by rw[hl,gx (by omega)];omega
 rw[e,bO (by omega),ad7,ht,gx (x:=t*2 ^ i) (by omega)]
 by_cases h:t*2 ^ i<524288
 ·left
  rw[if_pos (by simpa using h)]
  refine⟨by omega,_,rfl,by rw[gx (by omega),Int.pow_succ],?_⟩
  rw[gx (by omega),<- aeI]
  omega
 ·right
  rw[if_neg (by simpa using h)]
  exact⟨_,rfl,i,rfl,hi20,by omega,hb⟩
theorem div_eq {m n:Nat} (hn:n≠0) (hfm:(aE m).length<=17592186043904) (hfn:(aE n).length<=17592186043904):oW (aE m) (aE n)=some (aE (m / n),aE (m % n)):=by
 unfold oW
 rw[Bs (by unfold Fit;omega) (by unfold Fit;omega),ad7]
 by_cases hlt:m<n
 ·have:mZ (m:Int) n<0:=by unfold mZ;rw[if_pos (by omega)];decide
  rw[if_pos (by simpa using this),s5 (by unfold Fit;omega),ad7,aeZ hlt,ady hlt,cf]
 have:¬mZ (m:Int) n<0:=by unfold mZ;rw[if_neg (by omega)];split<;>decide
 rw[if_neg (by simpa using this)]
 obtain⟨hp1,hp2⟩:=w6 hn
 have hnl:=eT n
 by_cases h1:(aE n).length=1
 ·rw[if_pos (by simp;omega)]
  have hnB:(n:Int)<1048576:=by rw[h1]at hnl;simpa [pw] using hnl
  have e:aE n=[(n:Int)]:=by
   rw[mC hn,aeZ (by omega),cf,ady (by omega)]
  have ei:P.idx (aE n) 0=some (n:Int):=by rw[e];rfl
  rw[ei,ad7,Nc (bZ m) ⟨by omega,by omega⟩ (by unfold Fit;omega),ad7,bh]
  have hm1:(m:Int) % n=((m % n:Nat):Int):=(Int.natCast_emod m n).symm
  have hm2:((m:Int) / n).toNat=m / n:=by
   rw[<- Int.natCast_ediv];rfl
  have hml:m % n<n:=adw _ (by omega)
  simp only[hm1,hm2]
  rw[AH (n:=m % n) (by simp[Fit]) (Dg.mk (by omega) Dg.nil) (by simp[dv]),ad7]
 ·rw[if_neg (by simp;omega)]
  generalize hN:(aE n).length=N at *
  have hN2:2<=N:=by omega
  have hdn:=bZ n
  have gt:=hdn.get (show N-1<(aE n).length by omega)
  generalize ht:(aE n)[N-1]'(by omega)=t at gt
  have hsp:=ij (aE n) (i:=N-1) (by omega)
  rw[bh,jk (by omega),ael (by omega),ht]at hsp
  simp only[dv,aeW,ae0]at hsp
  have lo0:=cq (hdn.take (N-1))
  have lo1:=m9 (hdn.take (N-1))
  rw[acU,adI (by omega)]at lo1
  have hpw:=l4 (N-1)
  have ht1:1<=t:=by
   rcases (show t=0∨1<=t by omega) with h|h
   ·subst h;omega
   ·exact h
  obtain⟨s,hs1,j,hs2,hj,hs3,hs4⟩:=Pt hN (by omega) (by omega) ht ht1 gt.2
  have hj2:(2:Int) ^ j<=524288:=by
   have:∀j:Nat,j<=19->(2:Int) ^ j<=524288:=by decide
   exact this j hj
  have hj1:(0:Int)<2 ^ j:=Int.pow_pos (by decide)
  have hts:(t+1)*s<=1048576:=by
   have h20:(1048576:Int)=2 ^ (20-j)*2 ^ j:=by rw[<- Int.pow_add,Nat.sub_add_cancel (by omega)];rfl
   rw[h20]at hs4 ⊢
   rw[hs2]at hs4 ⊢
   have:t<2 ^ (20-j):=Int.lt_of_mul_lt_mul_right hs4 (by omega)
   exact aeY (by omega) (by omega)
  rw[<- hs2]at hj1 hj2
  obtain⟨S,rfl⟩:∃S:Nat,s=S:=⟨s.toNat,by omega⟩
  have hSd:Dg [(S:Int)]:=Dg.mk (by omega) Dg.nil
  have hdvS:dv [(S:Int)]=S:=by simp[dv]
  rw[hs1,ad7,mul_eq (bZ m) hSd (by simp;omega),ad7,bh,hdvS]
  have em:((m:Int)*S).toNat=m*S:=by rw[<- adB];rfl
  have en:((n:Int)*S).toNat=n*S:=by rw[<- adB];rfl
  rw[em]
  have hmS:(aE (m*S)).length<=(aE m).length+1:=by
   apply gf
   rw[jx,adB]
   have a1:=eT m
   have:(m:Int)*S<=m*1048576:=aeG (by omega) (by omega)
   omega
  have hU:∃u,((if ((((aE (m*S)++[0]).length:Int))==((aE m).length:Int))=true then (lS 8 (aE (m*S)++[0]) [0]).bind fun x98=>some x98 else some (aE (m*S)++[0]))=some u)∧Dg u∧dv u=(m*S:Nat)∧dv u<pw (u.length-1)∧(aE (m*S)).length+1<=u.length∧u.length<=(aE m).length+3:=by
   have d1:Dg (aE (m*S)++[0]):=(bZ _).append (Dg.mk (by omega) Dg.nil)
   have v1:dv (aE (m*S)++[0])=(m*S:Nat):=by rw[fp,bh];simp[dv]
   have v2:=eT (m*S)
   split
   ·rw[wX (by simp;omega),ad7]
    refine⟨_,rfl,d1.append (Dg.mk (by omega) Dg.nil),by rw[fp,v1];simp[dv],?_,by simp,by simp;omega⟩
    rw[fp,v1]
    simp only[dv,adF,List.length_cons,List.length_nil]
    have:=pz (i:=(aE (m*S)).length) (j:=(aE (m*S)).length+1) (by omega)
    rw[show (aE (m*S)).length+(0+1)+(0+1)-1=(aE (m*S)).length+1 by omega]
    omega
   ·refine⟨_,rfl,d1,v1,?_,by simp,by simp;omega⟩
    rw[v1]
    simpa using v2
  obtain⟨u,hu1,hu2,hu3,hu4,hu5,hu6⟩:=hU
  rw[wX (by simp;omega),ad7,mul_eq (bZ n) hSd (by simp;omega),ad7,bh,hdvS,en,hu1,ad7]
  have hVlo:524288*pw (N-1)<=((n*S:Nat):Int):=by
   rw[adB,hsp,aeV]
   have a1:0<=dv ((aE n).take (N-1))*S:=aeS lo0 (by omega)
   have a2:pw (N-1)*524288<=pw (N-1)*(t*S):=aeG hs3 (by omega)
   rw[aeI]
   omega
  have hVhi:((n*S:Nat):Int)<pw N:=by
   have a0:pw N=1048576*pw (N-1):=by rw[<- jx];congr 1;omega
   rw[a0,adB,hsp]
   have a1:(dv ((aE n).take (N-1))+pw (N-1)*t+1)*S<=(pw (N-1)*(t+1))*S:=aeY (by rw[aeH];omega) (by omega)
   have a2:pw (N-1)*((t+1)*S)<=pw (N-1)*1048576:=aeG hts (by omega)
   rw[aeI]at a1
   rw[aeV _ 1,aeX]at a1
   omega
  have hVN:(aE (n*S)).length=N:=by
   have a1:=gf hVhi
   rcases ado (aE (n*S)).length N with h|h
   ·have a2:=eT (n*S)
    have a3:=pz (i:=(aE (n*S)).length) (j:=N-1) (by omega)
    omega
   ·omega
  have hV1:524288<=(aE (n*S))[N-1]'(by omega):=by
   have a1:=ij (aE (n*S)) (i:=N-1) (by omega)
   rw[bh,jk (by omega),ael (by omega)]at a1
   simp only[dv,aeW,ae0]at a1
   have a2:=m9 ((bZ (n*S)).take (N-1))
   rw[acU,adI (by omega)]at a2
   have a3:pw (N-1)*524288<pw (N-1)*((aE (n*S))[N-1]'(by omega)+1):=by rw[aeH];omega
   have:=Int.lt_of_mul_lt_mul_left a3 (by omega)
   omega
  have hlen:N+1<=u.length:=by
   have:n*S<=m*S:=adp _ (by omega)
   have:=b8 this
   omega
  obtain⟨M,hM⟩:∃M,u.length=M+N:=⟨u.length-N,by omega⟩
  have e1:IntKind.i64.wrap ((u.length:Int)-((aE (n*S)).length:Int))=(M:Int):=by rw[hVN,hM,gx (by omega)];omega
  rw[e1,ZZ (by omega),ad7,List.length_replicate,gx (x:=(M:Int)-1) (by omega)]
  have hdr:dv (u.drop M)<dv (aE (n*S)):=by
   rw[bh]
   have a1:=ij u (i:=M) (by omega)
   have a2:=cq (hu2.take M)
   have a3:pw M*dv (u.drop M)<pw M*pw (N-1):=by
    rw[<- C3,show M+(N-1)=u.length-1 by omega]
    omega
   have:=Int.lt_of_mul_lt_mul_left a3 (by have:=l4 M;omega)
   omega
  obtain⟨⟨U,Q⟩,r1,r2,r3,r4,r5,r6,r7⟩:=UK (bZ (n*S)) hVN hN2 hV1 hu2 hM (by omega) hdr
  simp only at r2 r3 r4 r5 r6 r7
  rw[r1,ad7]
  simp only
  rw[bh,hu3]at r6
  rw[bh]at r7
  have hU0:=cq r3
  have hQ0:=cq r5
  have hS:0<S:=by omega
  have hnS:0<n*S:=Nat.mul_pos (by omega) hS
  obtain⟨U',hU'⟩:∃k:Nat,dv U=k:=⟨(dv U).toNat,by omega⟩
  obtain⟨Q',hQ'⟩:∃k:Nat,dv Q=k:=⟨(dv Q).toNat,by omega⟩
  rw[hU',hQ']at r6
  rw[hU']at r7
  have hnat:U'+n*S*Q'=m*S:=by
   have:((U'+n*S*Q':Nat):Int)=((m*S:Nat):Int):=by rw[Int.natCast_add,adB (n*S) Q'];exact r6
   omega
  have hUlt:U'<n*S:=by omega
  have hQe:Q'=m / n:=by
   have:m*S / (n*S)=Q':=by
    rw[<- hnat,Nat.add_mul_div_left _ _ hnS,aeZ hUlt,adq]
   rw[<- this,Nat.mul_div_mul_right _ _ hS]
  have hUe:U'=(m % n)*S:=by
   have:m*S % (n*S)=U':=by rw[<- hnat,Nat.add_mul_mod_self_left,ady hUlt]
   rw[<- this,Nat.mul_mod_mul_right]
  rw[AH (n:=U') (by unfold Fit;omega) r3 hU',ad7]
  have hUlen:(aE U').length<=N:=gf (by omega)
  rw[Nc (bZ U') ⟨by omega,by omega⟩ (by unfold Fit;omega),ad7,AH (n:=Q') (by unfold Fit;omega) r5 hQ',ad7,bh,hQe,hUe]
  have:((((m % n)*S:Nat):Int) / (S:Int)).toNat=m % n:=by
   rw[adB,Int.mul_ediv_cancel _ (by omega)];rfl
  rw[this]
def eh (x:Int):al:=al.mk x.sign (aE x.natAbs)
def Ln (x:Int):Nat:=(aE x.natAbs).length
def dB:Nat:=4398046511104
def lP:Nat:=17592186043904
theorem pW {n:Nat} (h:n<=dB):n<=lP:=acD h (by decide)
theorem Cy:eh 0=al.mk 0 []:=by unfold eh;rw[show (0:Int).natAbs=0 from rfl,cf];rfl
theorem Ru {x y:Int} (h:eh x=eh y):x=y:=by
 unfold eh at h
 simp only[al.mk.injEq]at h
 have:=UI h.2
 have h1:=Int.sign_mul_natAbs x
 have h2:=Int.sign_mul_natAbs y
 rw[<- h1,<- h2,h.1,this]
theorem Qa {x:Int} {k:Nat} (h:(x.natAbs:Int)<pw k):Ln x<=k:=gf h
theorem Rr (x:Int):(x.natAbs:Int)<pw (Ln x):=eT _
theorem Qb {x y:Int} (h:x.natAbs<=y.natAbs):Ln x<=Ln y:=b8 h
theorem AQ (x:Int):Ln (-x)=Ln x:=by unfold Ln;rw[Int.natAbs_neg]
theorem NP (x y:Int):Ln (x+y)<=max (Ln x) (Ln y)+1:=by
 apply Qa
 have h1:=Rr x
 have h2:=Rr y
 have h3:=pz (i:=Ln x) (j:=max (Ln x) (Ln y)) (by omega)
 have h4:=pz (i:=Ln y) (j:=max (Ln x) (Ln y)) (by omega)
 have h5:=Int.natAbs_add_le x y
 rw[jx]
 omega
theorem kc (x y:Int):Ln (x*y)<=Ln x+Ln y:=by
 apply Qa
 have h1:=Rr x
 have h2:=Rr y
 rw[ae1,adB,C3]
 have hx:=l4 (Ln x)
 calc (x.natAbs:Int)*y.natAbs<=pw (Ln x)*y.natAbs:=aeY (by omega) (by omega)
  _<pw (Ln x)*pw (Ln y):=Int.mul_lt_mul_of_pos_left h2 hx
theorem I3 {x:Int} (h:x.natAbs<1048576):Ln x<=1:=Qa (by rw[jx,nJ];omega)
instance (l:List Int):Decidable (Dg l):=by unfold Dg;infer_instance
def okB (b:al):Bool:=decide (Dg b.aa)&&(match b.aa.getLast? with|none=>b.ag==0|some d=>(b.ag==1||b.ag == -1)&&d != 0)
theorem xB {b:al} : okB b=true↔∃x,b=eh x:=by
 obtain⟨s,l⟩:=b
 unfold okB
 simp only[ade,decide_eq_true_eq]
 constructor
 ·rintro⟨hd,h⟩
  cases hl:l.getLast? with
  | none =>
   rw[hl]at h
   have:l=[]:=List.getLast?_eq_none_iff.1 hl
   subst this
   exact⟨0,by rw[Cy];simpa using h⟩
  | some d =>
   rw[hl]at h
   simp only[ade,ad8,beq_iff_eq,bne_iff_ne]at h
   have hne:l≠[]:=by intro h0;subst h0;simp at hl
   have hlast:∀h:l≠[],l.getLast h≠0:=by
    intro h'
    rw[ae2 h']at hl
    cases hl
    exact h.2
   have e:=Av hd hlast
   have h0:(dv l).toNat≠0:=by
    intro h0
    rw[h0,cf]at e
    exact hne e.symm
   have hn:=cq hd
   refine⟨s*dv l,?_⟩
   unfold eh
   rcases h.1 with rfl|rfl
   ·rw[aeX,ae3 (by omega)]
    have:(dv l).natAbs=(dv l).toNat:=by omega
    rw[this,e]
   ·rw[Int.neg_mul,aeX,Int.sign_neg,ae3 (by omega)]
    have:(-dv l).natAbs=(dv l).toNat:=by omega
    rw[this,e]
 ·rintro⟨x,hx⟩
  unfold eh at hx
  simp only[al.mk.injEq]at hx
  obtain⟨rfl,rfl⟩:=hx
  refine⟨bZ _,?_⟩
  by_cases h0:x=0
  ·subst h0;simp[cf]
  ·have hne:aE x.natAbs≠[]:=fun h=>h0 (by have:=p6.1 h;omega)
   rw[ae2 hne]
   have h1:=SA _ hne
   simp only[ade,ad8,beq_iff_eq,bne_iff_ne]
   refine⟨?_,h1⟩
   rcases Int.lt_trichotomy x 0 with h|h|h
   ·right;exact ae4 h
   ·exact absurd h h0
   ·left;exact ae3 h
theorem Io (x:Int):okB (eh x)=true:=xB.2 ⟨x,rfl⟩
theorem Df {b:al} (hf:Fit b.aa):cn b=some (okB b):=by
 obtain⟨s,l⟩:=b
 simp only[Fit]at hf
 have key:∃r,aY (nn ⟨s,l⟩) 0=some r∧(match r with | .inl _=>Dg l | .inr x=>x=false∧¬Dg l):=by
  refine cy (I:=fun i s=>s=(i:Int)∧Dg (l.take i)) l.length _ ⟨rfl,by simpa using Dg.nil⟩ (iO hf) ?_
  rintro i s hi ⟨rfl,hd⟩
  simp only[nn]
  by_cases hlt:i<l.length
  ·rw[if_pos (by simpa using hlt),bO hlt,ad7]
   by_cases h1:l[i]<0
   ·right
    exact⟨.inr false,by rw[if_pos (by simpa using h1)],rfl,fun hh=>by have:=hh.get hlt;omega⟩
   ·by_cases h2:l[i]>1048575
    ·right
     exact⟨.inr false,by rw[if_neg (by simpa using h1),if_pos (by simpa using h2)],rfl,fun hh=>by have:=hh.get hlt;omega⟩
    ·left
     refine⟨hlt,_,by rw[if_neg (by simpa using h1),if_neg (by simpa using h2)],by rw[gx (by omega)];omega,?_⟩
     have e:l.take (i+1)=l.take i++[l[i]]:=by rw[aeJ];simp[hlt]
     rw[e]
     exact hd.append (Dg.mk (by omega) Dg.nil)
  ·right
   have:i=l.length:=by omega
   subst this
   rw[aeC]at hd
   exact⟨.inl (),by rw[if_neg (by simp)],hd⟩
 obtain⟨r,h1,h2⟩:=key
 unfold cn okB
 rw[h1,ad7]
 cases r with
 | inr x =>
  obtain⟨rfl,h⟩:=h2
  simp[h]
 | inl u =>
  simp only at h2 ⊢
  simp only[h2,decide_true,adZ]
  by_cases h0:l=[]
  ·subst h0;simp
  ·have hp:0<l.length:=aeq.2 h0
   have e:IntKind.i64.wrap ((l.length:Int)-1)=((l.length-1:Nat):Int):=by rw[gx (by omega)];omega
   rw[if_neg (by simpa using h0),e,bO (by omega),ae2 h0,List.getLast_eq_getElem]
   simp only[Option.bind_some]
   by_cases hs:s=1
   ·subst hs;simp
   ·rw[if_neg (by simpa using hs)]
    by_cases hs':s = -1
    ·subst hs';simp
    ·rw[if_neg (by simpa using hs')]
     simp[hs,hs']
theorem ir {x:Int} (h:Ln x<=17592186044416):cn (eh x)=some true:=by
 rw[Df (show Fit (eh x).aa from h),Io]
theorem qo {s:Int} {l:List Int} (x:Int) (hf:Fit l) (hd:Dg l) (hv:dv l=x.natAbs) (hs:x≠0->s=x.sign):cp s l=some (eh x):=by
 unfold cp
 rw[AH hf hd hv,ad7]
 by_cases h0:x=0
 ·subst h0
  rw[show (0:Int).natAbs=0 from rfl,cf,Cy];rfl
 ·have:aE x.natAbs≠[]:=fun h=>h0 (by have:=p6.1 h;omega)
  rw[if_neg (by simpa using this),hs h0];rfl
theorem kV (b:al):dH true b=some (b,0):=rfl
theorem pJ (x:Int):x.sign = -1∨x.sign=0∨x.sign=1:=by
 rcases Int.lt_trichotomy x 0 with h|h|h
 ·left;exact ae4 h
 ·subst h;right;left;rfl
 ·right;right;exact ae3 h
theorem NQ {x:Int} (h:Ln x<=dB):mg (eh x)=some (eh (-x)):=by
 unfold mg
 have hL:dB=4398046511104:=rfl
 rw[ir (by omega),ad7]
 simp only[adY,adb,if_false]
 have hf:Fit (eh x).aa:=by unfold Fit;show Ln x<=_;omega
 rw[s5 hf,ad7,qo (-x) hf (bZ _) (by show dv (aE _)=_;rw[bh,Int.natAbs_neg]),ad7]
 intro h0
 show IntKind.i64.wrap (0-x.sign)=_
 rw[gx (by have:=pJ x;omega),Int.sign_neg,Int.zero_sub]
theorem Yb (s t:Int):s6 [s,t]=some (if s≠0 then s else t):=by
 have key:∃r,aY (uv [s,t]) 0=some r∧(match r with | .inl _=>s=0∧t=0 | .inr x=>x=if s≠0 then s else t):=by
  refine cy (I:=fun i j=>j=(i:Int)∧(1<=i->s=0)∧(2<=i->t=0)) 2 _ ⟨rfl,by omega,by omega⟩ (by unfold FU;omega) ?_
  rintro i j hi ⟨rfl,h1,h2⟩
  simp only[uv]
  rcases (show i=0∨i=1∨i=2 by omega) with rfl|rfl|rfl
  ·rw[if_pos (by simp)]
   show _∨∃r,((some s).bind _=_)∧_
   rw[show P.idx [s,t] ((0:Nat):Int)=some s from rfl,ad7]
   by_cases hs:s=0
   ·left;exact⟨by omega,_,by rw[if_neg (by simpa using hs)],by rw[gx (by omega)];rfl,fun _=>hs,by omega⟩
   ·right;exact⟨_,by rw[if_pos (by simpa using hs)],by simp[hs]⟩
  ·have hs:=h1 (by omega)
   rw[if_pos (by simp),show P.idx [s,t] ((1:Nat):Int)=some t from rfl,ad7]
   by_cases ht:t=0
   ·left;exact⟨by omega,_,by rw[if_neg (by simpa using ht)],by rw[gx (by omega)];rfl,fun _=>hs,fun _=>ht⟩
   ·right;exact⟨_,by rw[if_pos (by simpa using ht)],by simp[hs]⟩
  ·right
   exact⟨.inl (),by rw[if_neg (by simp)],h1 (by omega),h2 (by omega)⟩
 obtain⟨r,h1,h2⟩:=key
 unfold s6
 rw[h1,ad7]
 cases r with
 | inl u=>simp only at h2 ⊢;rw[if_neg (by simp[h2.1]),h2.2]
 | inr x=>simp only at h2 ⊢;rw[h2]
theorem jV (x:Int):x.sign=1∧x=x.natAbs∧0<x∨x.sign = -1∧x = -x.natAbs∧x<0∨x.sign=0∧x=0:=by
 rcases Int.lt_trichotomy x 0 with h|h|h
 ·right;left;exact⟨ae4 h,by omega,h⟩
 ·subst h;right;right;exact⟨rfl,rfl⟩
 ·left;exact⟨ae3 h,by omega,h⟩
theorem nU {x:Int} {s:Int} {n:Nat} (hn:n=x.natAbs) (hs:x≠0->s=x.sign) (hL:n≠0->(aE n).length<=17592186044416):cp s (aE n)=some (eh x):=by
 subst hn
 refine qo x ?_ (bZ _) (bh _) hs
 unfold Fit
 by_cases h:x.natAbs=0
 ·rw[h,cf];simp
 ·exact hL h
theorem YZ {x y:Int} (hx:Ln x<=dB) (hy:Ln y<=dB):qJ (eh x) (eh y)=some (eh (x+y),0):=by
 have hL:dB=4398046511104:=rfl
 have hLa:=NP x y
 unfold qJ
 rw[ir (by omega),ad7]
 simp only[adY,adb,if_false]
 rw[ir (by omega),ad7,ad7]
 simp only[adY,adb,if_false]
 show (if decide (IntKind.i64.wrap (x.sign*y.sign)>=0)=true then _ else _)=_
 have hxd:(eh x).aa=aE x.natAbs:=rfl
 have hyd:(eh y).aa=aE y.natAbs:=rfl
 have hxs:(eh x).ag=x.sign:=rfl
 have hys:(eh y).ag=y.sign:=rfl
 rw[hxd,hyd,hxs,hys]
 have fx:(aE x.natAbs).length<=4398046511104:=by show Ln x<=_;omega
 have fy:(aE y.natAbs).length<=4398046511104:=by show Ln y<=_;omega
 have sx:=jV x
 have sy:=jV y
 have hw:IntKind.i64.wrap (x.sign*y.sign)=x.sign*y.sign:=by
  apply gx
  rcases pJ x with h|h|h<;>rcases pJ y with g|g|g<;>rw[h,g]<;>decide
 rw[hw]
 by_cases hs:x.sign*y.sign>=0
 ·rw[if_pos (by simpa using hs),Yb,ad7,add_eq (bZ _) (bZ _) (by omega) (by omega),ad7,bh,bh]
  have hn:((x.natAbs:Int)+y.natAbs).toNat=(x+y).natAbs:=by
   rcases sx with⟨a,b,c⟩|⟨a,b,c⟩|⟨a,b⟩<;>rcases sy with⟨a',b',c'⟩|⟨a',b',c'⟩|⟨a',b'⟩<;>first|omega|(rw[a,a']at hs;exact absurd hs (by decide))
  rw[hn,nU (x:=x+y) rfl ?_ (fun _=>by show Ln (x+y)<=_;omega),ad7,kV,ad7]
  intro h0
  rcases sx with⟨a,b,c⟩|⟨a,b,c⟩|⟨a,b⟩<;>rcases sy with⟨a',b',c'⟩|⟨a',b',c'⟩|⟨a',b'⟩<;>(try (rw[a,a']at hs;exact absurd hs (by decide)))<;>rw[a,a']
  ·rw[if_pos (by decide),ae3 (by omega)]
  ·rw[if_pos (by decide),ae3 (by omega)]
  ·rw[if_pos (by decide),ae4 (by omega)]
  ·rw[if_pos (by decide),ae4 (by omega)]
  ·rw[if_neg (by decide),ae3 (by omega)]
  ·rw[if_neg (by decide),ae4 (by omega)]
  ·omega
 ·rw[if_neg (by simpa using hs),Bs (by unfold Fit;omega) (by unfold Fit;omega),ad7]
  have hsg:x.sign=1∧y.sign = -1∧0<x∧y<0∨x.sign = -1∧y.sign=1∧x<0∧0<y:=by
   rcases sx with⟨a,b,c⟩|⟨a,b,c⟩|⟨a,b⟩<;>rcases sy with⟨a',b',c'⟩|⟨a',b',c'⟩|⟨a',b'⟩<;>first|exact .inl ⟨a,a',c,c'⟩|exact .inr ⟨a,a',c,c'⟩|(rw[a,a']at hs;exact absurd (by decide) hs)
  by_cases hlt:x.natAbs<y.natAbs
  ·have:mZ (x.natAbs:Int) y.natAbs<0:=by unfold mZ;rw[if_pos (by omega)];decide
   rw[if_pos (by simpa using this),sub_eq (bZ _) (bZ _) (by unfold Fit;omega) (b8 (by omega)) (by rw[bh,bh];omega),ad7,bh,bh]
   rw[nU (x:=x+y) (by omega) ?_ (fun _=>by rw[show ((y.natAbs:Int)-x.natAbs).toNat=(x+y).natAbs by omega];show Ln (x+y)<=_;omega),ad7,kV,ad7]
   intro h0
   rcases hsg with⟨a,a',b,b'⟩|⟨a,a',b,b'⟩
   ·rw[a',ae4 (by omega)]
   ·rw[a',ae3 (by omega)]
  ·have:¬mZ (x.natAbs:Int) y.natAbs<0:=by unfold mZ;rw[if_neg (by omega)];split<;>decide
   rw[if_neg (by simpa using this),sub_eq (bZ _) (bZ _) (by unfold Fit;omega) (b8 (by omega)) (by rw[bh,bh];omega),ad7,bh,bh]
   rw[nU (x:=x+y) (by omega) ?_ (fun _=>by rw[show ((x.natAbs:Int)-y.natAbs).toNat=(x+y).natAbs by omega];show Ln (x+y)<=_;omega),ad7,kV,ad7]
   intro h0
   rcases hsg with⟨a,a',b,b'⟩|⟨a,a',b,b'⟩
   ·rw[a,ae3 (by omega)]
   ·rw[a,ae4 (by omega)]
theorem Y0 {x y:Int} (hx:Ln x<=dB) (hy:Ln y<=dB):qM (eh x) (eh y)=some (eh (x*y),0):=by
 have hL:dB=4398046511104:=rfl
 have hLa:=kc x y
 unfold qM
 rw[ir (by omega),ad7]
 simp only[adY,adb,if_false]
 rw[ir (by omega),ad7,ad7]
 simp only[adY,adb,if_false]
 have hxd:(eh x).aa=aE x.natAbs:=rfl
 have hyd:(eh y).aa=aE y.natAbs:=rfl
 have hxs:(eh x).ag=x.sign:=rfl
 have hys:(eh y).ag=y.sign:=rfl
 rw[hxd,hyd,hxs,hys]
 have fx:(aE x.natAbs).length<=4398046511104:=by show Ln x<=_;omega
 have fy:(aE y.natAbs).length<=4398046511104:=by show Ln y<=_;omega
 have hw:IntKind.i64.wrap (x.sign*y.sign)=(x*y).sign:=by
  rw[Int.sign_mul]
  apply gx
  rcases pJ x with h|h|h<;>rcases pJ y with g|g|g<;>rw[h,g]<;>decide
 rw[hw,mul_eq (bZ _) (bZ _) (by omega),ad7,bh,bh]
 have hn:((x.natAbs:Int)*y.natAbs).toNat=(x*y).natAbs:=by rw[ae1,<- adB];rfl
 rw[hn,nU (x:=x*y) rfl (fun _=>rfl) (fun _=>by show Ln (x*y)<=_;omega),ad7,kV,ad7]
theorem oO {x y:Int} (hx:Ln x<=dB) (hy:Ln y<=dB):bV (eh x) (eh y)=some (eh (x*y)):=by
 unfold bV
 rw[Y0 hx hy];rfl
theorem TO {x y:Int} (hx:Ln x<=dB) (hy:Ln y<=dB) (h0:0<y) (hd:y∣x):mf (eh x) (eh y)=some (eh (x / y),eh 0,0):=by
 have hL:dB=4398046511104:=rfl
 unfold mf
 rw[ir (by omega),ad7]
 simp only[adY,adb,if_false]
 rw[ir (by omega),ad7,ad7]
 simp only[adY,adb,if_false]
 have hxd:(eh x).aa=aE x.natAbs:=rfl
 have hyd:(eh y).aa=aE y.natAbs:=rfl
 have hxs:(eh x).ag=x.sign:=rfl
 have hys:(eh y).ag=1:=ae3 h0
 rw[hxd,hyd,hxs,hys]
 have fx:(aE x.natAbs).length<=4398046511104:=by show Ln x<=_;omega
 have fy:(aE y.natAbs).length<=4398046511104:=by show Ln y<=_;omega
 have fq:=b8 (Nat.div_le_self x.natAbs y.natAbs)
 obtain⟨z,rfl⟩:=hd
 have hyz:y*z / y=z:=Int.mul_ediv_cancel_left _ (by omega)
 have hn:(y*z).natAbs=y.natAbs*z.natAbs:=ae1 _ _
 have hq:(y*z).natAbs / y.natAbs=z.natAbs:=by rw[hn,Nat.mul_div_cancel_left _ (by omega)]
 have hr:(y*z).natAbs % y.natAbs=0:=by rw[hn,Nat.mul_mod_right]
 have hsg:(y*z).sign=z.sign:=by rw[Int.sign_mul,ae3 h0,aeX]
 rw[if_neg (by decide),div_eq (by omega) (by omega) (by omega),ad7,aeF,hsg,gx (x:=z.sign) (by have:=pJ z;omega),hyz,hq,hr,cf]
 rw[hq]at fq
 have hT:(if decide (z.sign<0)=true then some (decide ((([]:List Int).length:Int)>0)) else some false)=some false:=by split<;>rfl
 simp only[hT,Option.bind_some,adb,if_false]
 rw[nU (x:=z) rfl (fun _=>rfl) (fun _=>by omega),ad7]
 have:cp z.sign []=some (eh 0):=qo 0 (by simp[Fit]) Dg.nil rfl (fun h=>absurd rfl h)
 rw[this,ad7]
def lg (n:Nat):Nat:=if n=0 then 0 else n.log2+1
theorem YD {r x:Nat} (h:2*r<x):lg r<lg x:=by
 unfold lg
 rw[if_neg (show x≠0 by omega)]
 by_cases h0:r=0
 ·rw[if_pos h0];omega
 ·rw[if_neg h0]
  have h1:=Nat.log2_self_le h0
  have h2:=@Nat.lt_log2_self x
  have:2 ^ (r.log2+1)<2 ^ (x.log2+1):=by rw[Nat.pow_succ];omega
  have:=(Nat.pow_lt_pow_iff_right (by decide:1<2)).1 this
  omega
theorem Rp {n k:Nat} (h:(n:Int)<pw k):lg n<=20*k:=by
 unfold lg
 by_cases h0:n=0
 ·rw[if_pos h0];omega
 ·rw[if_neg h0]
  have:n<2 ^ (20*k):=by
   have:pw k=((2 ^ (20*k):Nat):Int):=by
    unfold pw
    rw[Nat.pow_mul,Int.natCast_pow];rfl
   omega
  have:=(Nat.log2_lt h0).2 this
  omega
theorem Vf {a b:Nat} (ha:(aE a).length<=lP) (hb:(aE b).length<=lP):aY n7 (aE a,aE b)=some (aE (Nat.gcd a b)):=by
 have hL:lP=17592186043904:=rfl
 have key:∃r,aY n7 (aE a,aE b)=some r∧r=aE (Nat.gcd a b):=by
  have la:=Rp (eT a)
  have lb:=Rp (eT b)
  let val:List Int->Nat:=fun l=>(dv l).toNat
  have hval:∀n,val (aE n)=n:=fun n=>by show (dv (aE n)).toNat=n;rw[bh];rfl
  refine oD (I:=fun (s:List Int×List Int)=>∃x y,s=(aE x,aE y)∧Nat.gcd x y=Nat.gcd a b∧(aE x).length<=lP∧(aE y).length<=lP)
   (μ:=fun (s:List Int×List Int)=>lg (val s.1)+lg (val s.2)+(if val s.1<val s.2 then 1 else 0)) _ ⟨a,b,rfl,rfl,ha,hb⟩ (by simp only[hval];unfold FU;split<;>omega) ?_
  rintro _ ⟨x,y,rfl,hg,hx,hy⟩
  simp only[n7]
  by_cases h0:y=0
  ·right
   subst h0
   refine⟨_,by rw[cf,if_neg (by simp)],?_⟩
   rw[<- hg,ae5]
  ·left
   have hne:0<(aE y).length:=aeq.2 (fun h=>h0 (p6.1 h))
   rw[if_pos (by simpa using hne),div_eq h0 (by omega) (by omega),ad7]
   have hlt:=adw x (ae6 h0)
   refine⟨_,rfl,⟨y,x % y,rfl,?_,hy,?_⟩,?_⟩
   ·rw[<- hg,Nat.gcd_comm y,<- Nat.gcd_rec,Nat.gcd_comm]
   ·have:=b8 (Nat.mod_le x y);omega
   ·simp only[hval]
    rw[if_neg (by omega)]
    by_cases hxy:x<y
    ·rw[if_pos hxy,ady hxy];omega
    ·rw[if_neg hxy]
     have:lg (x % y)<lg x:=by
      apply YD
      have h1:=ae7 x y
      have h2:1<=x / y:=(Nat.one_le_div_iff (by omega)).2 (by omega)
      have h3:y*1<=y*(x / y):=Nat.mul_le_mul_left _ h2
      omega
     omega
 obtain⟨r,h1,rfl⟩:=key
 exact h1
theorem TQ {x y:Int} (hx:Ln x<=lP) (hy:Ln y<=lP):nk (eh x) (eh y)=some (eh (Int.gcd x y),0):=by
 have hL:lP=17592186043904:=rfl
 unfold nk
 rw[ir (by omega),ad7]
 simp only[adY,adb,if_false]
 rw[ir (by omega),ad7,ad7]
 simp only[adY,adb,if_false]
 have hxd:(eh x).aa=aE x.natAbs:=rfl
 have hyd:(eh y).aa=aE y.natAbs:=rfl
 rw[hxd,hyd]
 have fx:(aE x.natAbs).length<=17592186043904:=by show Ln x<=_;omega
 have fy:(aE y.natAbs).length<=17592186043904:=by show Ln y<=_;omega
 have fg:(aE (Nat.gcd x.natAbs y.natAbs)).length<=17592186043904:=by
  by_cases h:y.natAbs=0
  ·rw[h,ae5];exact fx
  ·have:=b8 (ae8 x.natAbs (ae6 h));omega
 rw[s5 (by unfold Fit;omega),ad7,Vf (by omega) (by omega),ad7,s5 (by unfold Fit;omega),ad7]
 have hgn:Nat.gcd x.natAbs y.natAbs=((Int.gcd x y:Nat):Int).natAbs:=rfl
 rw[nU (x:=(Int.gcd x y:Int)) hgn ?_ (fun _=>by omega),ad7,kV,ad7]
 intro h
 rw[ae3 (by omega)]
theorem Sp (x:Int):IntKind.u64.wrap x=x % 18446744073709551616:=by
 unfold IntKind.wrap
 simp only[IntKind.bits,IntKind.signed,aez,adb,if_false]
 rfl
theorem wu {x:Int} (h:0<=x∧x<18446744073709551616):IntKind.u64.wrap x=x:=by rw[Sp];omega
theorem Ss {x:Int} (h:0<=x∧x<18446744073709551616):jK .and .u64 x 1048575=x % 1048576:=by
 unfold jK
 simp only
 have e1:(BitVec.ofInt IntKind.u64.bits x &&& BitVec.ofInt IntKind.u64.bits 1048575).toNat=((x % 18446744073709551616).toNat) % 1048576:=by
  rw[BitVec.toNat_and,BitVec.toNat_ofInt,BitVec.toNat_ofInt]
  have e:((1048575:Int) % ((2 ^ IntKind.u64.bits:Nat):Int)).toNat=2 ^ 20-1:=by decide
  rw[e,aeK]
  rfl
 rw[e1,wu (by omega)]
 omega
theorem ZK (x:Int):wK .u64 x 20=some (x / 1048576):=by
 unfold wK
 rw[if_neg (by decide)]
 have e:(2:Int) ^ (min (Int.toNat 20) IntKind.u64.bits)=1048576:=by decide
 rw[e,aeL _ (by decide)]
theorem pw4:pw 4=1208925819614629174706176:=by decide
theorem XJ {n:Nat} (hn:n<18446744073709551616):∃l,aY uq ((n:Int),[])=some l∧Dg l∧dv l=n∧l.length<=5:=by
 refine oD (I:=fun (s:Int×List Int)=>0<=s.1∧Dg s.2∧dv s.2+pw s.2.length*s.1=n∧s.2.length<=5∧(s.1=0∨s.2.length<5)) (μ:=fun (s:Int×List Int)=>s.1.toNat) _ ⟨by simp,Dg.nil,by simp[dv,nJ],by simp,by simp⟩ (by simp only[Int.toNat_natCast];unfold FU;omega) ?_
 rintro⟨u,l⟩ ⟨h1,hd,h2,h3,h5⟩
 simp only at h1 hd h2 h3 h5
 have hp:=l4 l.length
 have hdl:=cq hd
 have hu:u<=n:=by
  have:1*u<=pw l.length*u:=aeY (by omega) h1
  omega
 simp only[uq]
 by_cases h0:u>0
 ·left
  have hl5:l.length<5:=by omega
  have hl4:l.length<4:=by
   rcases ado l.length 4 with h|h
   ·exact h
   ·have h4:l.length=4:=by omega
    rw[h4,pw4]at h2
    omega
  have hw:IntKind.i64.wrap (u % 1048576)=u % 1048576:=gx (by omega)
  rw[if_pos (by simpa using h0),Ss ⟨h1,by omega⟩,hw,wX (by simp;omega),ad7,ZK,ad7]
  refine⟨_,rfl,⟨by simp only;omega,hd.append (Dg.mk (by omega) Dg.nil),?_,by simp;omega,by right;simp;omega⟩,by simp only;omega⟩
  simp only[fp,dv,adF,List.length_cons,List.length_nil,aeW,ae0,adq]
  have:=tJ l.length u
  omega
 ·right
  have:u=0:=by omega
  subst this
  refine⟨l,by rw[if_neg (by simp)],hd,?_,h3⟩
  rw[aeW]at h2
  omega
theorem Ya {x:Int} (h : -9223372036854775808<=x∧x<9223372036854775808):sV x=some (eh x):=by
 have hT:(if decide (x<0)=true then some ((-1:Int),IntKind.u64.wrap (0-(IntKind.u64.wrap x))) else some (1,IntKind.u64.wrap x))=some (if x<0 then -1 else 1,((x.natAbs:Nat):Int)):=by
  by_cases hx:x<0
  ·rw[if_pos (by simpa using hx),if_pos hx,Sp,Sp]
   congr 2
   omega
  ·rw[if_neg (by simpa using hx),if_neg hx,Sp]
   congr 2
   omega
 obtain⟨l,h1,h2,h3,h4⟩:=XJ (n:=x.natAbs) (by omega)
 unfold sV
 rw[hT,ad7]
 simp only
 rw[h1,ad7,mO]
 refine qo x (by unfold Fit;omega) h2 h3 (fun h0 =>?_)
 split
 ·rw[ae4 (by omega)]
 ·rw[ae3 (by omega)]
theorem abU {d:Int} {i:Nat} (hi:i<=3) (hd:0<=d∧d<1048576) (h8:i=3->d<=8):Ee .u64 (IntKind.u64.wrap d) (IntKind.i64.wrap (20*(i:Int)))=some (pw i*d):=by
 rw[wu (by omega),gx (by omega)]
 unfold Ee
 rw[if_neg (by omega)]
 have e:(2:Int) ^ (min (20*(i:Int)).toNat IntKind.u64.bits)=pw i:=by
  have:∀i:Nat,i<=3->(2:Int) ^ (min (20*(i:Int)).toNat IntKind.u64.bits)=pw i:=by decide
  exact this i hi
 rw[e,wu,aeE]
 rcases (show i=0∨i=1∨i=2∨i=3 by omega) with rfl|rfl|rfl|rfl
 ·rw[show pw 0=1 by decide];omega
 ·rw[show pw 1=1048576 by decide];omega
 ·rw[show pw 2=1099511627776 by decide];omega
 ·rw[show pw 3=1152921504606846976 by decide];have:=h8 rfl;omega
theorem aaz {u d:Int} {i:Nat} (hi:i<=3) (hu:0<=u∧u<pw i) (hd:0<=d∧pw i*d<9223372036854775809):jK .or .u64 u (pw i*d)=u+pw i*d:=by
 have hp:=l4 i
 have hpd:0<=pw i*d:=aeS (by omega) hd.1
 have hpw:pw i=((2 ^ (20*i):Nat):Int):=by unfold pw;rw[Nat.pow_mul,Int.natCast_pow];rfl
 have hp3:pw i<=1152921504606846976:=by
  have:=pz hi
  rwa [show pw 3=1152921504606846976 by decide]at this
 unfold jK
 simp only
 have e1:(BitVec.ofInt IntKind.u64.bits u ||| BitVec.ofInt IntKind.u64.bits (pw i*d)).toNat=(u+pw i*d).toNat:=by
  rw[BitVec.toNat_or,BitVec.toNat_ofInt,BitVec.toNat_ofInt]
  have e:((2 ^ IntKind.u64.bits:Nat):Int)=18446744073709551616:=by decide
  rw[e]
  have e2:(u % 18446744073709551616).toNat=u.toNat:=by omega
  have e3:((pw i*d) % 18446744073709551616).toNat=d.toNat <<< (20*i):=by
   rw[Nat.shiftLeft_eq,Int.emod_eq_of_lt hpd (by omega),hpw]
   have:d=(d.toNat:Int):=by omega
   rw[this,<- adB,adC,adC,adA]
  rw[e2,e3,Nat.or_comm,<- Nat.shiftLeft_add_eq_or_of_lt (by omega),Nat.shiftLeft_eq]
  have:pw i*d=((d.toNat*2 ^ (20*i):Nat):Int):=by
   rw[hpw,adB,aeE]
   congr 1
   omega
  omega
 rw[e1,wu (by omega)]
 omega
theorem ZC {g:Nat} (h:(aE g).length<=lP):ow (eh g)=some (decide (g=1)):=by
 have hL:lP=17592186043904:=rfl
 have hgd:(eh (g:Int)).aa=aE g:=rfl
 have hLn:Ln (g:Int)=(aE g).length:=rfl
 unfold ow
 have hsmall:g=1->(aE g).length<=4:=by
  rintro rfl
  exact acD (gf (k:=1) (by decide)) (by decide)
 suffices hI:∃r,qK (eh g)=some r∧((if r.2=true then some (r.1==1) else some false)=some (decide (g=1))) by
  obtain⟨r,h1,h2⟩:=hI
  rw[h1,ad7,h2]
 unfold qK
 rw[ir (by rw[hLn];omega),ad7]
 simp only[adY,adb,if_false,Option.bind_some,hgd]
 by_cases h4:(aE g).length>4
 ·rw[if_pos (by simp;omega)]
  refine⟨_,rfl,?_⟩
  have:g≠1:=fun hh=>by have:=hsmall hh;omega
  simp[this]
 rw[if_neg (by simp;omega)]
 have key:∃r,aY (qL (eh g)) (0,0)=some r∧(match r with | .inl u=>u=(g:Int) | .inr x=>x=(0,false)∧g≠1):=by
  refine cy (I:=fun i s=>s.2=(i:Int)∧s.1=dv ((aE g).take i)) (aE g).length _ ⟨rfl,rfl⟩ (iO (by omega)) ?_
  rintro i ⟨u,s⟩ hi ⟨h1,h2⟩
  simp only at h1 h2
  subst h1 h2
  simp only[qL,hgd]
  have hdg:=(bZ g).take i
  have hu0:=cq hdg
  have hu1:=m9 hdg
  rw[acU,adI hi]at hu1
  by_cases hlt:i<(aE g).length
  ·have gd:=(bZ g).get hlt
   rw[if_pos (by simpa using hlt),bO hlt,ad7]
   have hT:(if ((i:Int)==3)=true then some (decide ((aE g)[i]>8)) else some false)=some (decide (i=3∧(aE g)[i]>8)):=by
    by_cases h3:i=3
    ·subst h3;simp
    ·rw[if_neg (by simp;omega)];simp[h3]
   rw[hT,ad7]
   by_cases h8:i=3∧(aE g)[i]>8
   ·right
    rw[if_pos (by simpa using h8)]
    refine⟨.inr (0,false),rfl,rfl,?_⟩
    rintro rfl
    have:=gf (n:=1) (k:=1) (by decide)
    omega
   ·left
    rw[if_neg (by simpa using h8),abU (by omega) gd (by omega),ad7]
    have hb:pw i*(aE g)[i]<9223372036854775809:=by
     rcases (show i=0∨i=1∨i=2∨i=3 by omega) with h|h|h|h
     ·have:pw i=1:=by rw[h];decide
      rw[this];omega
     ·have:pw i=1048576:=by rw[h];decide
      rw[this];omega
     ·have:pw i=1099511627776:=by rw[h];decide
      rw[this];omega
     ·have:pw i=1152921504606846976:=by rw[h];decide
      rw[this];omega
    rw[aaz (by omega) ⟨hu0,hu1⟩ ⟨gd.1,hb⟩]
    exact⟨hlt,_,rfl,by rw[gx (by omega)];omega,by rw[fa hlt]⟩
  ·right
   have:i=(aE g).length:=by omega
   subst this
   exact⟨.inl (dv ((aE g).take (aE g).length)),by rw[if_neg (by simp)],by rw[aeC,bh]⟩
 obtain⟨r,h1,h2⟩:=key
 rw[h1,ad7]
 cases r with
 | inr x=>obtain⟨rfl,h⟩:=h2;exact⟨_,rfl,by simp[h]⟩
 | inl u =>
  simp only at h2
  subst h2
  have hs:(eh (g:Int)).ag=(g:Int).sign:=rfl
  have hs0:¬(g:Int).sign<0:=by have:=jV (g:Int);omega
  simp only[hs]
  rw[if_neg (by simp),ad7,if_neg (by simp),if_pos (by simp)]
  by_cases hg:(g:Int)<9223372036854775808
  ·rw[if_pos (by simpa using hg)]
   refine⟨_,rfl,?_⟩
   simp only[if_true]
   rw[wrap64 (by omega) hg]
   congr 1
   by_cases h:g=1
   ·subst h;rfl
   ·have:¬((g:Int)=1):=by omega
    simp[h,this]
  ·rw[if_neg (by simpa using hg)]
   have:g≠1:=by omega
   exact⟨_,rfl,by simp[this]⟩
def b6 (q:Rat):ak:=ak.mk (eh q.num) (eh q.den)
def LF (q:Rat):Nat:=max (Ln q.num) (Ln q.den)
theorem Rv {p q:Rat} (h:b6 p=b6 q):p=q:=by
 unfold b6 at h
 simp only[ak.mk.injEq]at h
 have h1:=Ru h.1
 have h2:=Ru h.2
 exact Rat.ext h1 (by omega)
def okF (f:ak):Bool:=okB f.aH&&okB f.aJ&&(f.aJ.ag==1)&&decide (Nat.gcd (dv f.aH.aa).toNat (dv f.aJ.aa).toNat=1)
theorem Az {f:ak} : okF f=true↔∃q,f=b6 q:=by
 obtain⟨p,q⟩:=f
 unfold okF
 simp only[ade,beq_iff_eq,decide_eq_true_eq]
 constructor
 ·rintro⟨⟨⟨h1,h2⟩,h3⟩,h4⟩
  obtain⟨x,rfl⟩:=xB.1 h1
  obtain⟨y,rfl⟩:=xB.1 h2
  have hy:0<y:=by
   have:y.sign=1:=h3
   rcases jV y with⟨a,b,c⟩|⟨a,b,c⟩|⟨a,b⟩<;>omega
  have h5:(dv (eh x).aa).toNat=x.natAbs:=by show (dv (aE _)).toNat=_;rw[bh];rfl
  have h6:(dv (eh y).aa).toNat=y.natAbs:=by show (dv (aE _)).toNat=_;rw[bh];rfl
  rw[h5,h6]at h4
  refine⟨⟨x,y.natAbs,by omega,h4⟩,?_⟩
  unfold b6
  simp only
  congr 2
  omega
 ·rintro⟨q,hq⟩
  unfold b6 at hq
  simp only[ak.mk.injEq]at hq
  obtain⟨rfl,rfl⟩:=hq
  have hd:=q.den_pos
  refine⟨⟨⟨Io _,Io _⟩,ae3 (by omega)⟩,?_⟩
  have h5:(dv (eh q.num).aa).toNat=q.num.natAbs:=by show (dv (aE _)).toNat=_;rw[bh];rfl
  have h6:(dv (eh (q.den:Int)).aa).toNat=q.den:=by show (dv (aE _)).toNat=_;rw[bh];rfl
  rw[h5,h6]
  exact q.reduced
theorem O7 (q:Rat):okF (b6 q)=true:=Az.2 ⟨q,rfl⟩
def W6 (f:ak):Prop:=f.aH.aa.length<=lP∧f.aJ.aa.length<=lP
theorem W7 {q:Rat} (h:LF q<=dB):W6 (b6 q):=by
 unfold LF at h
 exact⟨pW (show Ln q.num<=_ by omega),pW (show Ln q.den<=_ by omega)⟩
theorem AX {f:ak} (hf:W6 f):ca f=some (okF f):=by
 have hL:lP=17592186043904:=rfl
 obtain⟨p,q⟩:=f
 simp only[W6]at hf
 unfold ca okF
 rw[Df (show Fit p.aa by unfold Fit;omega),ad7]
 by_cases h1:okB p=true
 ·simp only[h1,adY,adb,if_false,adZ]
  rw[Df (show Fit q.aa by unfold Fit;omega),ad7]
  by_cases h2:okB q=true
  ·simp only[h2,adY,adb,if_false,adZ,Option.bind_some]
   by_cases h3:q.ag=1
   ·rw[if_neg (by simp[h3])]
    obtain⟨x,rfl⟩:=xB.1 h1
    obtain⟨y,rfl⟩:=xB.1 h2
    rw[TQ hf.1 hf.2,ad7]
    simp only[beq_self_eq_true,if_true]
    have h5:(dv (eh x).aa).toNat=x.natAbs:=by show (dv (aE _)).toNat=_;rw[bh];rfl
    have h6:(dv (eh y).aa).toNat=y.natAbs:=by show (dv (aE _)).toNat=_;rw[bh];rfl
    rw[ZC,ad7,h5,h6]
    ·rw[h3];rfl
    ·have hy:0<y.natAbs:=by
      have:y.sign=1:=h3
      rcases jV y with⟨a,b,c⟩|⟨a,b,c⟩|⟨a,b⟩<;>omega
     have:=b8 (ae8 x.natAbs hy)
     have h7:(aE y.natAbs).length<=lP:=hf.2
     show (aE (Nat.gcd x.natAbs y.natAbs)).length<=_
     omega
   ·rw[if_pos (by simpa using h3)]
    simp[h3]
  ·simp only[h2,aeA,if_true,Option.bind_some,aez]
 ·simp only[h1,aeA,if_true,Option.bind_some,aez]
theorem kT {q:Rat} (h:LF q<=dB):ca (b6 q)=some true:=by rw[AX (W7 h),O7]
theorem NR {p q:Int} (hp:Ln p<=dB) (hq:Ln q<=dB) (h0:q≠0):lf (eh p) (eh q)=some (b6 (Rat.divInt p q),0):=by
 have hL:dB=4398046511104:=rfl
 have main:∀ {p q:Int},Ln p<=dB->Ln q<=dB->0<q ->
   ((nk (eh p) (eh q)).bind fun r6=>(mf (eh p) r6.1).bind fun r7=>(mf (eh q) r6.1).bind fun r8=>some ((ak.mk r7.1 r8.1),(0:Int)))=some (b6 (Rat.divInt p q),0):=by
  intro p q hp hq h0
  have hg:0<Int.gcd p q:=Int.gcd_pos_of_ne_zero_right _ (by omega)
  have hgl:Ln (Int.gcd p q:Int)<=dB:=by
   have:=b8 (ae8 p.natAbs (show 0<q.natAbs by omega))
   show (aE (Nat.gcd p.natAbs q.natAbs)).length<=_
   have h7:(aE q.natAbs).length<=dB:=hq
   omega
  rw[TQ (pW hp) (pW hq),ad7]
  simp only
  rw[TO hp hgl (by omega) (Int.gcd_dvd_left ..),ad7,TO hq hgl (by omega) (Int.gcd_dvd_right ..),ad7]
  have hd:((q.natAbs / Int.gcd p q:Nat):Int)=q / (Int.gcd p q:Int):=by
   rw[Int.natCast_ediv]
   congr 1
   omega
  unfold b6
  rw[Rat.num_divInt,Rat.den_divInt,if_neg (by omega),ae3 h0,aeX,Int.gcd_comm q p,hd]
 unfold lf
 rw[ir (by omega),ad7]
 simp only[adY,adb,if_false]
 rw[ir (by omega),ad7,ad7]
 simp only[adY,adb,if_false]
 have hqs:(eh q).ag=q.sign:=rfl
 rw[hqs]
 rcases jV q with⟨a,b,c⟩|⟨a,b,c⟩|⟨a,b⟩
 ·rw[if_neg (by rw[a];decide),if_neg (by rw[a];decide),ad7]
  exact main hp hq c
 ·rw[if_neg (by rw[a];decide),if_pos (by rw[a];decide),NQ hp,ad7,NQ hq,ad7,ad7]
  have:=main (p := -p) (q := -q) (by rw[AQ];exact hp) (by rw[AQ];exact hq) (by omega)
  rw[Rat.neg_divInt_neg]at this
  exact this
 ·exact absurd b h0
theorem lO (q:Rat):Ln q.num<=LF q:=by unfold LF;omega
theorem mW (q:Rat):Ln q.den<=LF q:=by unfold LF;omega
theorem yf {p q:Int} (h0:q≠0):LF (Rat.divInt p q)<=max (Ln p) (Ln q):=by
 have hg:0<Int.gcd q p:=Int.gcd_pos_of_ne_zero_left _ h0
 have h1:Ln (Rat.divInt p q).num<=Ln p:=by
  apply Qb
  rw[Rat.num_divInt]
  obtain⟨z,hz⟩:(Int.gcd q p:Int)∣q.sign*p:=Int.dvd_mul_of_dvd_right (Int.gcd_dvd_right ..)
  rw[hz,Int.mul_ediv_cancel_left _ (by omega)]
  have h2:(q.sign*p).natAbs=p.natAbs:=by
   rw[ae1]
   have:q.sign.natAbs=1:=by
    rcases jV q with⟨a,b,c⟩|⟨a,b,c⟩|⟨a,b⟩
    ·rw[a];rfl
    ·rw[a];rfl
    ·exact absurd b h0
   rw[this,Nat.one_mul]
  rw[<- h2,hz,ae1]
  exact Nat.le_mul_of_pos_left _ (by omega)
 have h2:Ln ((Rat.divInt p q).den:Int)<=Ln q:=by
  apply Qb
  rw[Rat.den_divInt,if_neg h0]
  exact Nat.div_le_self _ _
 unfold LF
 omega
theorem P6 {a b:Rat} (h:LF a+LF b+1<=dB):jL (b6 a) (b6 b)=some (b6 (a+b),0):=by
 have n1:=lO a
 have n2:=lO b
 have d1:=mW a
 have d2:=mW b
 have m1:=kc a.num b.den
 have m2:=kc b.num a.den
 have m3:=kc a.den b.den
 have m4:=NP (a.num*b.den) (b.num*a.den)
 unfold jL
 rw[kT (by omega),ad7]
 simp only[adY,adb,if_false]
 rw[kT (by omega),ad7,ad7]
 simp only[adY,adb,if_false]
 show (bV (eh a.num) (eh b.den)).bind _=_
 rw[oO (by omega) (by omega),ad7]
 show (bV (eh b.num) (eh a.den)).bind _=_
 rw[oO (by omega) (by omega),ad7,YZ (by omega) (by omega),ad7]
 show (bV (eh a.den) (eh b.den)).bind _=_
 have hden:(a.den:Int)*b.den≠0:=by
  rw[<- adB]
  have:=Nat.mul_pos a.den_pos b.den_pos
  omega
 rw[oO (by omega) (by omega),ad7,NR (by omega) (by omega) hden,ad7]
 rw[Rat.add_def',<- Rat.divInt_ofNat,adB]
theorem AM (a b:Rat):LF (a+b)<=LF a+LF b+1:=by
 have n1:=lO a
 have n2:=lO b
 have d1:=mW a
 have d2:=mW b
 have m1:=kc a.num b.den
 have m2:=kc b.num a.den
 have m3:=kc a.den b.den
 have m4:=NP (a.num*b.den) (b.num*a.den)
 have hden:(a.den:Int)*b.den≠0:=by
  rw[<- adB]
  have:=Nat.mul_pos a.den_pos b.den_pos
  omega
 rw[Rat.add_def',<- Rat.divInt_ofNat,adB]
 have:=yf (p:=a.num*b.den+b.num*a.den) hden
 omega
theorem TU (a:Rat):LF (-a)=LF a:=by unfold LF;rw[Rat.neg_num,Rat.neg_den,AQ]
theorem NO (a b:Rat):LF (a-b)<=LF a+LF b+1:=by
 rw[Rat.sub_eq_add_neg]
 have:=AM a (-b)
 rw[TU]at this
 exact this
theorem Yf {a b:Rat} (h:LF a+LF b+1<=dB):mG (b6 a) (b6 b)=some (b6 (a-b),0):=by
 unfold mG
 rw[kT (by omega),ad7]
 simp only[adY,adb,if_false]
 rw[kT (by omega),ad7,ad7]
 simp only[adY,adb,if_false]
 show (mg (eh b.num)).bind _=_
 have n2:=lO b
 rw[NQ (by omega),ad7]
 have e:ak.mk (eh (-b.num)) (b6 b).aJ=b6 (-b):=by unfold b6;rw[Rat.neg_num,Rat.neg_den]
 rw[e,P6 (by rw[TU];exact h),ad7,Rat.sub_eq_add_neg]
theorem X8 {a b:Rat} (h:LF a+LF b<=dB):mF (b6 a) (b6 b)=some (b6 (a*b),0):=by
 have n1:=lO a
 have n2:=lO b
 have d1:=mW a
 have d2:=mW b
 have m1:=kc a.num b.num
 have m3:=kc a.den b.den
 unfold mF
 rw[kT (by omega),ad7]
 simp only[adY,adb,if_false]
 rw[kT (by omega),ad7,ad7]
 simp only[adY,adb,if_false]
 show (bV (eh a.num) (eh b.num)).bind _=_
 rw[oO (by omega) (by omega),ad7]
 show (bV (eh a.den) (eh b.den)).bind _=_
 have hden:(a.den:Int)*b.den≠0:=by
  rw[<- adB]
  have:=Nat.mul_pos a.den_pos b.den_pos
  omega
 rw[oO (by omega) (by omega),ad7,NR (by omega) (by omega) hden,ad7]
 rw[Rat.mul_def',<- Rat.divInt_ofNat,adB]
theorem yg (a b:Rat):LF (a*b)<=LF a+LF b:=by
 have n1:=lO a
 have n2:=lO b
 have d1:=mW a
 have d2:=mW b
 have m1:=kc a.num b.num
 have m3:=kc a.den b.den
 have hden:(a.den:Int)*b.den≠0:=by
  rw[<- adB]
  have:=Nat.mul_pos a.den_pos b.den_pos
  omega
 rw[Rat.mul_def',<- Rat.divInt_ofNat,adB]
 have:=yf (p:=a.num*b.num) hden
 omega
theorem Bv (a b:Rat):a / b=Rat.divInt (a.num*b.den) (a.den*b.num):=by
 rw[Rat.div_def,Rat.inv_def]
 conv=>lhs;rw[<- Rat.num_divInt_den a]
 rw[Rat.divInt_mul_divInt]
theorem Z2 {a b:Rat} (h:LF a+LF b<=dB) (h0:b≠0):ld (b6 a) (b6 b)=some (b6 (a / b),0):=by
 have n1:=lO a
 have n2:=lO b
 have d1:=mW a
 have d2:=mW b
 have m1:=kc a.num b.den
 have m3:=kc a.den b.num
 have hb:b.num≠0:=fun hh=>h0 (Rat.num_eq_zero.1 hh)
 unfold ld
 rw[kT (by omega),ad7]
 simp only[adY,adb,if_false]
 rw[kT (by omega),ad7,ad7]
 simp only[adY,adb,if_false]
 have hs:(b6 b).aH.ag=b.num.sign:=rfl
 have hs':b.num.sign≠0:=by rcases jV b.num with⟨a,b,c⟩|⟨a,b,c⟩|⟨a,b⟩<;>omega
 rw[hs,if_neg (by simpa using hs')]
 show (bV (eh a.num) (eh b.den)).bind _=_
 rw[oO (by omega) (by omega),ad7]
 show (bV (eh a.den) (eh b.num)).bind _=_
 have hden:(a.den:Int)*b.num≠0:=Int.mul_ne_zero (by have:=a.den_pos;omega) hb
 rw[oO (by omega) (by omega),ad7,NR (by omega) (by omega) hden,ad7,Bv]
theorem TT {a b:Rat} (h0:b≠0):LF (a / b)<=LF a+LF b:=by
 have n1:=lO a
 have n2:=lO b
 have d1:=mW a
 have d2:=mW b
 have m1:=kc a.num b.den
 have m3:=kc a.den b.num
 have hb:b.num≠0:=fun hh=>h0 (Rat.num_eq_zero.1 hh)
 have hden:(a.den:Int)*b.num≠0:=Int.mul_ne_zero (by have:=a.den_pos;omega) hb
 rw[Bv]
 have:=yf (p:=a.num*b.den) hden
 omega
theorem X6 {n:Int} (h : -9223372036854775808<=n∧n<9223372036854775808):gK n=some (b6 n):=by
 unfold gK
 rw[Ya h,ad7,Ya (by decide),ad7]
 unfold b6
 rw[Rat.num_intCast,Rat.den_intCast]
 rfl
theorem NJ {n:Int} (h:n.natAbs<1048576):LF (n:Rat)<=1:=by
 unfold LF
 rw[Rat.num_intCast,Rat.den_intCast]
 have h1:=I3 h
 have h2:=I3 (x:=((1:Nat):Int)) (by decide)
 omega
theorem NU {a:Rat} (h:LF a<=dB):iz (b6 a)=some a.num.sign:=by
 unfold iz
 rw[kT h,ad7]
 rfl
theorem Sl {l:List Int} (hl:Fit l) (hd:Dg l):gp l=some (aE (dv l).toNat):=by
 have h:=sb hl hd
 obtain⟨r,h1,k,rfl,hk,_⟩:=Hk hl
 unfold dp at h
 unfold gp
 have e:tO l=kx l:=rfl
 rw[h1,ad7,IG hk,ad7]at h
 rw[e,h1,ad7,IG hk,ad7,wX (by unfold Fit at hl;simp;omega),ad7]
 exact h
theorem Dz {l:List Int} {n:Nat} (hl:Fit l) (hd:Dg l) (hn:dv l=n):gp l=some (aE n):=by
 rw[Sl hl hd,hn];rfl
theorem Ay {s:Int} {l:List Int} (x:Int) (hf:Fit l) (hd:Dg l) (hv:dv l=x.natAbs) (hs:x≠0->s=x.sign):fD s l=some (eh x):=by
 have h:=qo x hf hd hv hs
 unfold cp at h
 rw[sb hf hd]at h
 unfold fD
 rw[Sl hf hd]
 exact h
theorem Cv {x:Int} {s:Int} {n:Nat} (hn:n=x.natAbs) (hs:x≠0->s=x.sign) (hL:n≠0->(aE n).length<=17592186044416):fD s (aE n)=some (eh x):=by
 subst hn
 refine Ay x ?_ (bZ _) (bh _) hs
 unfold Fit
 by_cases h:x.natAbs=0
 ·rw[h,cf];simp
 ·exact hL h
theorem MV {s:Int} {l:List Int} (hf:Fit l):∃r,aY (nL ⟨s,l⟩) 0=some r∧(match r with | .inl _=>Dg l | .inr x=>x=false∧¬Dg l):=by
 refine cy (I:=fun i s=>s=(i:Int)∧Dg (l.take i)) l.length _ ⟨rfl,by simpa using Dg.nil⟩ (iO hf) ?_
 unfold Fit at hf
 rintro i s hi ⟨rfl,hd⟩
 simp only[nL]
 by_cases hlt:i<l.length
 ·rw[if_pos (by simpa using hlt),bO hlt,ad7]
  by_cases h1:l[i]<0
  ·right
   exact⟨.inr false,by rw[if_pos (by simpa using h1)],rfl,fun hh=>by have:=hh.get hlt;omega⟩
  ·by_cases h2:l[i]>=1048576
   ·right
    exact⟨.inr false,by rw[if_neg (by simpa using h1),if_pos (by simpa using h2)],rfl,fun hh=>by have:=hh.get hlt;omega⟩
   ·left
    refine⟨hlt,_,by rw[if_neg (by simpa using h1),if_neg (by simpa using h2)],by rw[gx (by omega)];omega,?_⟩
    have e:l.take (i+1)=l.take i++[l[i]]:=by rw[aeJ];simp[hlt]
    rw[e]
    exact hd.append (Dg.mk (by omega) Dg.nil)
 ·right
  have:i=l.length:=by omega
  subst this
  rw[aeC]at hd
  exact⟨.inl (),by rw[if_neg (by simp)],hd⟩
theorem ZI {b:al} (hf:Fit b.aa):eP b=some (okB b):=by
 obtain⟨s,l⟩:=b
 simp only[Fit]at hf
 obtain⟨r,h1,h2⟩:=MV (s:=s) (l:=l) hf
 unfold eP okB
 rw[h1,ad7]
 cases r with
 | inr x =>
  obtain⟨rfl,h⟩:=h2
  simp[h]
 | inl u =>
  simp only at h2 ⊢
  simp only[h2,decide_true,adZ]
  by_cases h0:l=[]
  ·subst h0
   by_cases hs0:s=0
   ·subst hs0;simp
   ·have:(s==0)=false:=by simpa using hs0
    simp only[List.length_nil,List.getLast?_nil,this]
    split<;>(try split)<;>simp
  ·have hp:0<l.length:=aeq.2 h0
   have e:IntKind.i64.wrap ((l.length:Int)-1)=((l.length-1:Nat):Int):=by rw[gx (by omega)];omega
   have hl0:((l.length:Int)==0)=false:=by simpa using h0
   rw[e,bO (by omega),ae2 h0,List.getLast_eq_getElem,hl0]
   simp only[Option.bind_some,adb,if_false]
   by_cases hs:s < -1
   ·rw[if_pos (by simpa using hs)]
    have h1:(s==1)=false:=by simp;omega
    have h2:(s == -1)=false:=by simp;omega
    simp[h1,h2]
   ·rw[if_neg (by simpa using hs)]
    by_cases hs':s>1
    ·rw[if_pos (by simpa using hs')]
     have h1:(s==1)=false:=by simp;omega
     have h2:(s == -1)=false:=by simp;omega
     simp[h1,h2]
    ·rw[if_neg (by simpa using hs')]
     rcases (show s = -1∨s=0∨s=1 by omega) with rfl|rfl|rfl<;>simp
theorem ma {x:Int} (h:Ln x<=17592186044416):eP (eh x)=some true:=by
 rw[ZI (show Fit (eh x).aa from h),Io]
theorem w5 (l:List Int) (i:Nat):fV l (i:Int)=some (gd l i):=by
 unfold fV
 by_cases h:i<l.length
 ·rw[if_pos (by simpa using h),bO h,ad7,KB h]
 ·rw[if_neg (by simpa using h),FQ (by omega)]
theorem Nw {a b l0:List Int} {i n:Nat} (ha:Dg a) (hb:Dg b) (hia:i<a.length) (h0:Dg l0) (hn:l0.length=n) (hi:i+b.length<n) (hf:n<=17592186044416) (hz:∀j (hj:j<l0.length),i+b.length<=j->l0[j]=0) :
  ∃l,aY (nO a b (i:Int)) (0,0,l0)=some l∧l.length=n∧Dg l∧(∀j (hj:j<l.length),i+b.length<j->l[j]=0)∧dv l=dv l0+pw i*(a[i]*dv b):=by
 have hx:=ha.get hia
 refine cy (I:=fun k s=>s.2.1=(k:Int)∧s.2.2.length=n∧Dg s.2.2∧(0<=s.1∧s.1<1048576)∧(∀j (hj:j<s.2.2.length),i+b.length<=j->i+k<=j->s.2.2[j]=0)∧(k=b.length+1->s.1=0)∧dv s.2.2+pw (i+k)*s.1=dv l0+pw i*(a[i]*dv (b.take k)))
  (b.length+1) _ ⟨rfl,hn,h0,by simp,fun j hj h _=>hz j hj h,by omega,by simp[dv]⟩ (iO (by omega)) ?_
 rintro k ⟨c,s,l⟩ hk ⟨h1,hl,hd,hc,hz,hend,he⟩
 simp only at h1 hl hd hc hz hend he
 subst h1
 simp only[nO]
 have hT:(if decide ((k:Int)<(b.length:Int))=true then some true else some (decide (c>0)))=some (decide (k<b.length∨c>0)):=by
  by_cases h:k<b.length
  ·rw[if_pos (by simpa using h)];simp[h]
  ·rw[if_neg (by simpa using h)];simp[h]
 rw[hT,ad7]
 by_cases hgo:k<b.length∨c>0
 ·left
  have hkb:k<=b.length:=by
   rcases hgo with h|h
   ·omega
   ·rcases ado b.length k with h'|h'
    ·have:=hend (by omega);omega
    ·exact h'
  have hik:i+k<l.length:=by omega
  have ei:IntKind.i64.wrap ((i:Int)+(k:Int))=((i+k:Nat):Int):=by rw[gx (by omega)];omega
  have gb:=FP hb k
  have gl:=hd.get hik
  have hm0:0<=a[i]*gd b k:=aeS hx.1 gb.1
  have hm1:a[i]*gd b k<=1048575*1048575:=aeT (by omega) (by omega) gb.1 (by omega)
  rw[if_pos (by simpa using hgo),ei,bO hik,ad7,bO hia,ad7,w5,ad7,gx (x:=a[i]*gd b k) (by omega),gx (x:=l[i+k]+a[i]*gd b k) (by omega),gx (x:=l[i+k]+a[i]*gd b k+c) (by omega),ZA (by omega) (by omega),ad7,Xk (by omega) (by omega) (by omega),ad7]
  have e1:IntKind.i64.wrap ((k:Int)+1)=((k+1:Nat):Int):=by rw[gx (by omega)];omega
  refine⟨by omega,_,rfl,e1,by simpa using hl,hd.set _ (by omega),by simp only;omega,fun j hj hij hij2 =>?_,fun hk1 =>?_,?_⟩
  ·simp only[Int.toNat_natCast]at hj ⊢
   rw[aeM (by omega)]
   exact hz j (by simpa using hj) hij (by omega)
  ·have hkl:k=b.length:=by omega
   simp only
   rw[FQ (by omega),aeW,hz _ hik (by omega) (acB _)]
   omega
  ·simp only[Int.toNat_natCast]
   rw[qX hik,po]
   have hp:=tJ (i+k) (l[i+k]+a[i]*gd b k+c)
   rw[aeH (pw (i+k)),aeH (pw (i+k))]at hp
   have e2:pw i*(a[i]*(dv (b.take k)+pw k*gd b k))=pw i*(a[i]*dv (b.take k))+pw (i+k)*(a[i]*gd b k):=by
    rw[aeH,aeH,C3]
    congr 1
    rw[aeU a[i],<- aeI]
   rw[e2,aeN,show i+(k+1)=i+k+1 by omega]
   omega
 ·right
  have hkb:b.length<=k:=by omega
  have hc0:c=0:=by omega
  subst hc0
  refine⟨l,by rw[if_neg (by simpa using hgo)],hl,hd,fun j hj h=>hz j hj (by omega) (by omega),?_⟩
  rw[wy hkb,aeW]at he
  omega
theorem WK {a b:List Int} (ha:Dg a) (hb:Dg b) (hf:a.length+b.length<=17592186044416):kI a b=some (aE (dv a*dv b).toNat):=by
 have key:∃l,aY (nN a b) (0,List.replicate (a.length+b.length) 0)=some l∧l.length=a.length+b.length∧Dg l∧dv l=dv a*dv b:=by
  refine cy (I:=fun i s=>s.1=(i:Int)∧s.2.length=a.length+b.length∧Dg s.2∧(∀j (hj:j<s.2.length),i+b.length<=j->s.2[j]=0)∧dv s.2=dv (a.take i)*dv b)
   a.length _ ⟨rfl,by simp,Dg.rep _,fun j hj _=>by simp,by simp[dv,yo]⟩ (iO (by omega)) ?_
  rintro i ⟨s,l⟩ hi ⟨h1,hl,hd,hz,he⟩
  simp only at h1 hl hd hz he
  subst h1
  simp only[nN]
  by_cases hlt:i<a.length
  ·left
   obtain⟨m,g1,g2,g3,g4,g5⟩:=Nw (i:=i) (n:=a.length+b.length) ha hb hlt hd hl (by omega) hf hz
   rw[if_pos (by simpa using hlt),g1,ad7]
   have e1:IntKind.i64.wrap ((i:Int)+1)=((i+1:Nat):Int):=by rw[gx (by omega)];omega
   refine⟨hlt,_,rfl,e1,g2,g3,fun j hj hij=>g4 j hj (by omega),?_⟩
   rw[g5,he,fa hlt,aeV,aeI]
  ·right
   have hia:i=a.length:=by omega
   subst hia
   refine⟨l,by rw[if_neg (by simp)],hl,hd,?_⟩
   rw[he,aeC]
 obtain⟨l,h1,h2,h3,h4⟩:=key
 unfold kI
 have e:IntKind.i64.wrap ((a.length:Int)+(b.length:Int))=((a.length+b.length:Nat):Int):=by rw[gx (by omega)];omega
 rw[e,ZZ hf,ad7,h1,ad7,mO,Sl (by unfold Fit;omega) h3,h4]
theorem Fp (l:List Int) (i:Nat):dv l=dv (l.take i)+pw i*dv (l.drop i):=by
 by_cases h:i<=l.length
 ·exact ij l h
 ·rw[adW (by omega),ael (by omega)];simp[dv]
theorem wo (l:List Int) (i:Nat):dv (l.drop i)=gd l i+1048576*dv (l.drop (i+1)):=by
 by_cases h:i<l.length
 ·rw[jk h,KB h]
 ·rw[ael (by omega),ael (by omega),FQ (by omega)];simp[dv]
theorem BK {l:List Int} (h:Dg l) (i:Nat):0<=dv (l.take i)∧dv (l.take i)<pw i:=by
 have h1:=m9 (h.take i)
 have h2:=pz (show (l.take i).length<=i by rw[acU];omega)
 exact⟨cq (h.take i),by omega⟩
theorem UW {a b:List Int} (ha:Dg a) (hb:Dg b) {k:Nat} (he:dv (a.drop (k+1))=dv (b.drop (k+1))) (hlt:gd a k<gd b k):dv a<dv b:=by
 have ea:=Fp a k
 have eb:=Fp b k
 rw[wo]at ea eb
 have la:=BK ha k
 have lb:=BK hb k
 have hp:=l4 k
 have:pw k*(gd a k+1048576*dv (a.drop (k+1))+1)<=pw k*(gd b k+1048576*dv (b.drop (k+1))):=aeG (by omega) (by omega)
 rw[aeH _ _ 1,aeF]at this
 omega
theorem aar {a b:List Int} (ha:Dg a) (hb:Dg b) (hfa:Fit a) (hfb:Fit b):oL a b=some (decide (dv a<dv b)):=by
 unfold Fit at hfa hfb
 generalize hm:max a.length b.length=m
 have em:(if (b.length:Int)>(a.length:Int) then (b.length:Int) else (a.length:Int))=(m:Int):=by split<;>omega
 have key:∃r,aY (pG a b) ((m:Int)-1)=some r∧(match r with | .inl _=>¬dv a<dv b | .inr x=>x=decide (dv a<dv b)):=by
  refine cy (I:=fun i s=>s=((m-i:Nat):Int)-1∧dv (a.drop (m-i))=dv (b.drop (m-i))) m _ ⟨rfl,?_⟩ (iO (by omega)) ?_
  ·rw[ael (by omega),ael (by omega)]
  rintro i s hi ⟨rfl,he⟩
  generalize hk:m-i=k at *
  simp only[pG]
  by_cases h0:0<k
  ·have ek:((k:Int)-1)=((k-1:Nat):Int):=by omega
   rw[ek,if_pos (by simp),w5,ad7,w5,ad7]
   rw[show k=k-1+1 by omega]at he
   by_cases hx:gd a (k-1)=gd b (k-1)
   ·left
    rw[if_neg (by simpa using hx)]
    refine⟨by omega,_,rfl,by rw[gx (by omega)];omega,?_⟩
    rw[show m-(i+1)=k-1 by omega,wo,wo b,hx,he]
   ·right
    rw[if_pos (by simpa using hx)]
    refine⟨.inr (decide (gd a (k-1)<gd b (k-1))),rfl,?_⟩
    rcases Int.lt_or_gt_of_ne hx with h|h
    ·have:=UW ha hb he h
     simp[h,this]
    ·have:=UW hb ha he.symm h
     have h1:¬gd a (k-1)<gd b (k-1):=by omega
     have h2:¬dv a<dv b:=by omega
     simp[h1,h2]
  ·right
   have:k=0:=by omega
   subst this
   refine⟨.inl (),by rw[if_neg (by simp)],?_⟩
   simp only[adX]at he
   omega
 obtain⟨r,h1,h2⟩:=key
 unfold oL
 rw[em,gx (x:=(m:Int)-1) (by omega),h1,ad7]
 cases r with
 | inl u=>simp only at h2 ⊢;simp[h2]
 | inr x=>simp only at h2 ⊢;rw[h2]
theorem Zw {a b:List Int} (ha:Dg a) (hb:Dg b) (hf:Fit a) (hab:b.length<=a.length) (hle:dv b<=dv a):kH a b=some (aE (dv a-dv b).toNat):=by
 unfold Fit at hf
 have key:∃l,aY (nM a b) (0,0,[])=some l∧l.length=a.length∧Dg l∧dv l=dv a-dv b:=by
  refine cy (I:=fun i s=>s.2.1=(i:Int)∧s.2.2.length=i∧Dg s.2.2∧(0<=s.1∧s.1<=1)∧dv s.2.2+dv (b.take i)=dv (a.take i)+pw i*s.1)
   a.length _ ⟨rfl,rfl,Dg.nil,by simp,by simp[dv]⟩ (iO (by omega)) ?_
  rintro i ⟨c,s,l⟩ hi ⟨h1,hl,hd,hc,he⟩
  simp only at h1 hl hd hc he
  subst h1
  simp only[nM]
  by_cases hlt:i<a.length
  ·left
   have ga:=ha.get hlt
   have gb:=FP hb i
   rw[if_pos (by simpa using hlt),bO hlt,ad7,w5,ad7,gx (x:=a[i]-gd b i) (by omega),gx (x:=a[i]-gd b i-c) (by omega)]
   have e1:IntKind.i64.wrap ((i:Int)+1)=((i+1:Nat):Int):=by rw[gx (by omega)];omega
   by_cases hn:a[i]-gd b i-c<0
   ·rw[if_pos (by simpa using hn),gx (by omega),wX (by simp;omega),ad7]
    refine⟨hlt,_,rfl,e1,by simp[hl],hd.append (Dg.mk (by omega) Dg.nil),by simp,?_⟩
    simp only
    rw[fp,po,fa hlt,hl,RN]
    simp only[dv,aeW,ae0,aeF]
    rw[aeH,aeN,aeN]
    omega
   ·rw[if_neg (by simpa using hn),wX (by simp;omega),ad7]
    refine⟨hlt,_,rfl,e1,by simp[hl],hd.append (Dg.mk (by omega) Dg.nil),by simp,?_⟩
    simp only
    rw[fp,po,fa hlt,hl]
    simp only[dv,aeW,ae0]
    rw[aeN,aeN]
    omega
  ·right
   have hia:i=a.length:=by omega
   subst hia
   refine⟨l,by rw[if_neg (by simp)],hl,hd,?_⟩
   rw[wy hab,aeC]at he
   have h1:=m9 hd
   rw[hl]at h1
   have hc0:c=0:=by
    rcases (show c=0∨c=1 by omega) with h|h
    ·exact h
    ·subst h;omega
   subst hc0
   omega
 obtain⟨l,h1,h2,h3,h4⟩:=key
 unfold kH
 rw[h1,ad7,mO,Sl (by unfold Fit;omega) h3,h4]
theorem ML {n R:Nat} (hn:n≠0) (hfn:(aE n).length<=17592186043904) (hfR:(aE R).length<=17592186043906) (hR:R<1048576*n):aY (mT (aE n) (aE R)) (0,1048576)=some ((R / n:Nat):Int):=by
 have key:∃r,aY (mT (aE n) (aE R)) (0,1048576)=some r∧r=((R / n:Nat):Int):=by
  refine oD (I:=fun (s:Int×Int)=>∃lo hi:Nat,s=((lo:Int),(hi:Int))∧lo<hi∧hi<=1048576∧lo*n<=R∧R<hi*n) (μ:=fun (s:Int×Int)=>(s.2-s.1).toNat) _ ⟨0,1048576,rfl,by omega,by omega,by omega,hR⟩ (by simp only;unfold FU;omega) ?_
  rintro _ ⟨lo,hi,rfl,h1,h2,h3,h4⟩
  simp only[mT]
  rw[gx (x:=(hi:Int)-lo) (by omega)]
  by_cases hgo:(hi:Int)-lo>1
  ·left
   have em:((lo:Int)+hi) / 2=(((lo+hi) / 2:Nat):Int):=by omega
   have hd:Dg [(((lo+hi) / 2:Nat):Int)]:=Dg.mk (by omega) Dg.nil
   have ed:dv (aE n)*dv [(((lo+hi) / 2:Nat):Int)]=((n*((lo+hi) / 2):Nat):Int):=by rw[bh,adB];simp[dv]
   rw[if_pos (by simpa using hgo),gx (x:=(lo:Int)+hi) (by omega),Xk (by omega) (by omega) (by omega),ad7,em,WK (bZ n) hd (by simp;omega),ad7,ed,adC]
   have hfl:(aE (n*((lo+hi) / 2))).length<=17592186043905:=by
    have:((n*((lo+hi) / 2):Nat):Int)<pw ((aE n).length+1):=by
     rw[jx,adB]
     have a1:=eT n
     have:(n:Int)*((lo+hi) / 2:Nat)<=n*1048576:=aeG (by omega) (by omega)
     omega
    have:=gf this
    omega
   rw[aar (bZ R) (bZ _) (by unfold Fit;omega) (by unfold Fit;omega),ad7,bh,bh]
   by_cases hc:R<n*((lo+hi) / 2)
   ·rw[if_pos (decide_eq_true (by omega))]
    refine⟨_,rfl,⟨lo,(lo+hi) / 2,rfl,by omega,by omega,h3,by rw[adA];exact hc⟩,by simp only;omega⟩
   ·rw[if_neg (by rw[decide_eq_true_eq];omega)]
    refine⟨_,rfl,⟨(lo+hi) / 2,hi,rfl,by omega,by omega,by rw[adA];omega,h4⟩,by simp only;omega⟩
  ·right
   refine⟨_,by rw[if_neg (by simpa using hgo)],?_⟩
   have:hi=lo+1:=by omega
   subst this
   congr 1
   have:R / n=lo:=by
    apply Nat.div_eq_of_lt_le
    ·exact h3
    ·exact h4
   exact this.symm
 obtain⟨r,h1,rfl⟩:=key
 exact h1
theorem YN {m n:Nat} (hn:n≠0) (hfm:(aE m).length<=17592186043904) (hfn:(aE n).length<=17592186043904):mS (aE m) (aE n)=some (aE (m / n),aE (m % n)):=by
 generalize ha:aE m=a at *
 have hda:Dg a:=by rw[<- ha];exact bZ m
 have key:∃r,aY (pH a (aE n)) ([],(a.length:Int)-1,List.replicate a.length 0)=some r∧r.2.length=a.length∧Dg r.2∧∃R:Nat,r.1=aE R∧R<n∧dv a=n*dv r.2+R:=by
  refine cy (I:=fun i s=>s.2.1=((a.length-i:Nat):Int)-1∧s.2.2.length=a.length∧Dg s.2.2∧∃R:Nat,s.1=aE R∧R<n∧dv (a.drop (a.length-i))=n*dv (s.2.2.drop (a.length-i))+R)
   a.length _ ⟨rfl,by simp,Dg.rep _,0,cf.symm,by omega,by simp[dv]⟩ (iO (by omega)) ?_
  rintro i ⟨r,s,l⟩ hi ⟨h1,hl,hg,R,h2,hR,he⟩
  simp only at h1 hl hg h2 he
  subst h1 h2
  generalize hk:a.length-i=k at *
  simp only[pH]
  by_cases h0:0<k
  ·left
   have hk1:k-1<a.length:=by omega
   have hk2:k-1<l.length:=by omega
   have ek:((k:Int)-1)=((k-1:Nat):Int):=by omega
   have ga:=hda.get hk1
   have hRl:=b8 (show R<=n by omega)
   have hdR:Dg ([a[k-1]]++aE R):=(Dg.mk ga Dg.nil).append (bZ R)
   obtain⟨X,hX⟩:∃X:Nat,a[k-1]+1048576*(R:Int)=X:=⟨(a[k-1]+1048576*(R:Int)).toNat,by omega⟩
   have hXn:X<1048576*n:=by omega
   have hXl:(aE X).length<=17592186043906:=by
    have:(X:Int)<pw ((aE n).length+1):=by
     rw[jx]
     have a1:=eT n
     omega
    have:=gf this
    omega
   rw[ek,if_pos (by simp),bO hk1,ad7,wX (by simp;omega),ad7,Dz (n:=X) (by unfold Fit;simp;omega) hdR (by rw[fp,bh];simp only[dv,List.length_cons,List.length_nil];rw[show pw (0+1)=1048576 by decide];omega),ad7,ML hn hfn hXl hXn,ad7,bO hk2,ad7]
   have hq:X / n<1048576:=Nat.div_lt_of_lt_mul (by rw[adA];exact hXn)
   have hq0:(0:Int)<=((X / n:Nat):Int):=Int.natCast_nonneg _
   rw[Dz (n:=X / n) (by simp[Fit]) (Dg.mk (by omega) Dg.nil) (by simp[dv]),ad7]
   have hql:(aE (X / n)).length<=1:=gf (by rw[jx,nJ];omega)
   have hprod:(dv (aE n)*dv (aE (X / n))).toNat=n*(X / n):=by rw[bh,bh,<- adB];rfl
   rw[WK (bZ _) (bZ _) (by omega),ad7,hprod]
   have hle:n*(X / n)<=X:=Nat.mul_div_le X n
   rw[Zw (bZ _) (bZ _) (by unfold Fit;omega) (b8 hle) (by rw[bh,bh];omega),ad7,bh,bh]
   have hsub:((X:Int)-(n*(X / n):Nat)).toNat=X % n:=by
    have:=ae7 X n
    omega
   rw[hsub]
   have e1:IntKind.i64.wrap (((k-1:Nat):Int)-1)=((k-1:Nat):Int)-1:=gx (by omega)
   refine⟨by omega,_,rfl,by rw[e1,show a.length-(i+1)=k-1 by omega],by simpa using hl,hg.set _ (by omega),X % n,rfl,adw _ (by omega),?_⟩
   simp only[Int.toNat_natCast]
   rw[show a.length-(i+1)=k-1 by omega,jk hk1,jk (l:=l.set (k-1) _) (i:=k-1) (by simpa using hk2),show k-1+1=k by omega,List.getElem_set_self,List.drop_set_of_lt (by omega),he,aeH,aeH]
   have h3:=ae7 X n
   have e3:(n:Int)*(1048576*dv (l.drop k))=1048576*(n*dv (l.drop k)):=aeU _ _ _
   rw[e3,<- adB n (X / n)]
   omega
  ·right
   have:k=0:=by omega
   subst this
   refine⟨(aE R,l),by rw[if_neg (by simp)],hl,hg,R,rfl,hR,?_⟩
   simpa using he
 obtain⟨⟨r,l⟩,h1,h2,h3,R,h4,h5,h6⟩:=key
 simp only at h2 h3 h4 h6
 unfold mS
 rw[ZZ (by omega),ad7,gx (x:=(a.length:Int)-1) (by omega),h1,ad7]
 simp only
 rw[<- ha,bh]at h6
 have hl0:=cq h3
 obtain⟨Q,hQ⟩:∃Q:Nat,dv l=Q:=⟨(dv l).toNat,by omega⟩
 rw[hQ]at h6
 have hm:m=n*Q+R:=by
  have:((m:Nat):Int)=((n*Q+R:Nat):Int):=by rw[Int.natCast_add,adB];exact h6
  omega
 have e1:m / n=Q:=by rw[hm,Nat.mul_add_div (by omega),aeZ h5,ada]
 have e2:m % n=R:=by rw[hm,Nat.mul_add_mod,ady h5]
 rw[Dz (n:=Q) (by unfold Fit;omega) h3 hQ,ad7,h4,e1,e2]
theorem SQ {a b:Nat} (ha:(aE a).length<=lP) (hb:(aE b).length<=lP):aY oK (aE a,aE b)=some (aE (Nat.gcd a b)):=by
 have hL:lP=17592186043904:=rfl
 have key:∃r,aY oK (aE a,aE b)=some r∧r=aE (Nat.gcd a b):=by
  have la:=Rp (eT a)
  have lb:=Rp (eT b)
  let val:List Int->Nat:=fun l=>(dv l).toNat
  have hval:∀n,val (aE n)=n:=fun n=>by show (dv (aE n)).toNat=n;rw[bh];rfl
  refine oD (I:=fun (s:List Int×List Int)=>∃x y,s=(aE x,aE y)∧Nat.gcd x y=Nat.gcd a b∧(aE x).length<=lP∧(aE y).length<=lP)
   (μ:=fun (s:List Int×List Int)=>lg (val s.1)+lg (val s.2)+(if val s.1<val s.2 then 1 else 0)) _ ⟨a,b,rfl,rfl,ha,hb⟩ (by simp only[hval];unfold FU;split<;>omega) ?_
  rintro _ ⟨x,y,rfl,hg,hx,hy⟩
  simp only[oK]
  by_cases h0:y=0
  ·right
   subst h0
   refine⟨_,by rw[cf,if_neg (by simp)],?_⟩
   rw[<- hg,ae5]
  ·left
   have hne:0<(aE y).length:=aeq.2 (fun h=>h0 (p6.1 h))
   rw[if_pos (by simpa using hne),YN h0 (by omega) (by omega),ad7]
   have hlt:=adw x (ae6 h0)
   refine⟨_,rfl,⟨y,x % y,rfl,?_,hy,?_⟩,?_⟩
   ·rw[<- hg,Nat.gcd_comm y,<- Nat.gcd_rec,Nat.gcd_comm]
   ·have:=b8 (Nat.mod_le x y);omega
   ·simp only[hval]
    rw[if_neg (by omega)]
    by_cases hxy:x<y
    ·rw[if_pos hxy,ady hxy];omega
    ·rw[if_neg hxy]
     have:lg (x % y)<lg x:=by
      apply YD
      have h1:=ae7 x y
      have h2:1<=x / y:=(Nat.one_le_div_iff (by omega)).2 (by omega)
      have h3:y*1<=y*(x / y):=Nat.mul_le_mul_left _ h2
      omega
     omega
 obtain⟨r,h1,rfl⟩:=key
 exact h1
theorem abz {x y:Int} (hx:Ln x<=lP) (hy:Ln y<=lP):pE (eh x) (eh y)=some (eh (Int.gcd x y),0):=by
 have hL:lP=17592186043904:=rfl
 unfold pE
 rw[ma (by omega),ad7]
 simp only[adY,adb,if_false]
 rw[ma (by omega),ad7,ad7]
 simp only[adY,adb,if_false]
 have hxd:(eh x).aa=aE x.natAbs:=rfl
 have hyd:(eh y).aa=aE y.natAbs:=rfl
 rw[hxd,hyd]
 have fx:(aE x.natAbs).length<=17592186043904:=by show Ln x<=_;omega
 have fy:(aE y.natAbs).length<=17592186043904:=by show Ln y<=_;omega
 have fg:(aE (Nat.gcd x.natAbs y.natAbs)).length<=17592186043904:=by
  by_cases h:y.natAbs=0
  ·rw[h,ae5];exact fx
  ·have:=b8 (ae8 x.natAbs (ae6 h));omega
 have hgn:Nat.gcd x.natAbs y.natAbs=((Int.gcd x y:Nat):Int).natAbs:=rfl
 rw[SQ (by omega) (by omega),ad7,Cv (x:=(Int.gcd x y:Int)) hgn ?_ (fun _=>by omega),ad7]
 intro h
 rw[ae3 (by omega)]
theorem Z1 {x y:Int} (hx:Ln x<=dB) (hy:Ln y<=dB) (h0:0<y) (hd:y∣x):mr (eh x) (eh y)=some (eh (x / y),eh 0,0):=by
 have hL:dB=4398046511104:=rfl
 unfold mr
 rw[ma (by omega),ad7]
 simp only[adY,adb,if_false]
 rw[ma (by omega),ad7,ad7]
 simp only[adY,adb,if_false]
 have hxd:(eh x).aa=aE x.natAbs:=rfl
 have hyd:(eh y).aa=aE y.natAbs:=rfl
 have hxs:(eh x).ag=x.sign:=rfl
 have hys:(eh y).ag=1:=ae3 h0
 rw[hxd,hyd,hxs,hys]
 have fx:(aE x.natAbs).length<=4398046511104:=by show Ln x<=_;omega
 have fy:(aE y.natAbs).length<=4398046511104:=by show Ln y<=_;omega
 have fq:=b8 (Nat.div_le_self x.natAbs y.natAbs)
 obtain⟨z,rfl⟩:=hd
 have hyz:y*z / y=z:=Int.mul_ediv_cancel_left _ (by omega)
 have hn:(y*z).natAbs=y.natAbs*z.natAbs:=ae1 _ _
 have hq:(y*z).natAbs / y.natAbs=z.natAbs:=by rw[hn,Nat.mul_div_cancel_left _ (by omega)]
 have hr:(y*z).natAbs % y.natAbs=0:=by rw[hn,Nat.mul_mod_right]
 have hsg:(y*z).sign=z.sign:=by rw[Int.sign_mul,ae3 h0,aeX]
 rw[if_neg (by decide),YN (by omega) (by omega) (by omega),ad7,aeF,hsg,gx (x:=z.sign) (by have:=pJ z;omega),hyz,hq,hr,cf]
 rw[hq]at fq
 have hT:(if decide (z.sign>=0)=true then some true else some ((([]:List Int).length:Int)==0))=some true:=by split<;>rfl
 simp only[hT,Option.bind_some,if_true]
 rw[Cv (x:=z) rfl (fun _=>rfl) (fun _=>by omega),ad7]
 have:fD z.sign []=some (eh 0):=Ay 0 (by simp[Fit]) Dg.nil rfl (fun h=>absurd rfl h)
 rw[this,ad7]
theorem Z3 {x:Int} (h:Ln x<=dB):pF (eh x)=some (eh (-x)):=by
 unfold pF
 have hL:dB=4398046511104:=rfl
 rw[ma (by omega),ad7]
 simp only[adY,adb,if_false]
 have hf:Fit (eh x).aa:=by unfold Fit;show Ln x<=_;omega
 rw[Ay (-x) hf (bZ _) (by show dv (aE _)=_;rw[bh,Int.natAbs_neg]),ad7]
 intro h0
 show IntKind.i64.wrap (0-x.sign)=_
 rw[gx (by have:=pJ x;omega),Int.sign_neg,Int.zero_sub]
theorem VJ {x:Int} (hx : -9223372036854775808<=x∧x<9223372036854775808):∃l,aY u6 (x,[])=some l∧Dg l∧dv l=x.natAbs∧l.length<=5:=by
 refine oD (I:=fun (s:Int×List Int)=>Dg s.2∧dv s.2+pw s.2.length*s.1.natAbs=x.natAbs∧s.2.length<=5∧(s.1=0∨s.2.length<5)) (μ:=fun (s:Int×List Int)=>s.1.natAbs) _ ⟨Dg.nil,by simp[dv,nJ],by simp,by simp⟩ (by simp only;unfold FU;omega) ?_
 rintro⟨u,l⟩ ⟨hd,h2,h3,h5⟩
 simp only at hd h2 h3 h5
 have hp:=l4 l.length
 have hdl:=cq hd
 have hu:(u.natAbs:Int)<=x.natAbs:=by
  have:1*(u.natAbs:Int)<=pw l.length*u.natAbs:=aeY (by omega) (by omega)
  omega
 simp only[u6]
 by_cases h0:u≠0
 ·left
  have hl4:l.length<4:=by
   rcases ado l.length 4 with h|h
   ·exact h
   ·have h4:l.length=4:=by omega
    rw[h4,pw4]at h2
    omega
  have hm:CA .i64 u 1048576=some (u.tmod 1048576):=by unfold CA;rw[if_neg (by decide)]
  have hq:ym .i64 u 1048576=some (u.tdiv 1048576):=by
   unfold ym
   have:(u.tdiv 1048576).natAbs=u.natAbs / 1048576:=Int.natAbs_tdiv u 1048576
   rw[if_neg (by decide),gx (by omega)]
  have ha:(u.tmod 1048576).natAbs=u.natAbs % 1048576:=Int.natAbs_tmod u 1048576
  have hb:(u.tdiv 1048576).natAbs=u.natAbs / 1048576:=Int.natAbs_tdiv u 1048576
  have hpd:=tJ l.length (u.natAbs:Int)
  rw[if_pos (by simpa using h0),hm,ad7]
  have fin:∀d:Int,d=((u.natAbs % 1048576:Nat):Int)->(Dg (l++[d])∧dv (l++[d])+pw (l++[d]).length*((u.tdiv 1048576).natAbs:Int)=x.natAbs∧(l++[d]).length<=5∧(u.tdiv 1048576=0∨(l++[d]).length<5))∧(u.tdiv 1048576).natAbs<u.natAbs:=by
   rintro d rfl
   refine⟨⟨hd.append (Dg.mk (by omega) Dg.nil),?_,by simp;omega,by right;simp;omega⟩,by omega⟩
   rw[hb]
   simp only[fp,dv,adF,List.length_cons,List.length_nil,aeW,ae0,adq]
   rw[Int.natCast_emod,Int.natCast_ediv]
   have:((1048576:Nat):Int)=1048576:=rfl
   rw[this]
   omega
  by_cases hneg:u.tmod 1048576<0
  ·rw[if_pos (by simpa using hneg),gx (x:=0-u.tmod 1048576) (by omega),wX (by simp;omega),ad7,hq,ad7]
   have:=fin (0-u.tmod 1048576) (by omega)
   exact⟨_,rfl,this.1,this.2⟩
  ·rw[if_neg (by simpa using hneg),wX (by simp;omega),ad7,hq,ad7]
   have:=fin (u.tmod 1048576) (by omega)
   exact⟨_,rfl,this.1,this.2⟩
 ·right
  have:u=0:=by omega
  subst this
  refine⟨l,by rw[if_neg (by simp)],hd,?_,h3⟩
  simp at h2
  omega
theorem Of4 {x:Int} (h : -9223372036854775808<=x∧x<9223372036854775808):tM x=some (eh x):=by
 unfold tM
 by_cases h0:x=0
 ·subst h0;rw[Cy];rfl
 ·have hT:(if decide (x<0)=true then some (-1:Int) else some 1)=some x.sign:=by
   rcases jV x with⟨a,b,c⟩|⟨a,b,c⟩|⟨a,b⟩
   ·rw[if_neg (by simp;omega),a]
   ·rw[if_pos (by simp;omega),a]
   ·exact absurd b h0
  obtain⟨l,h1,h2,h3,h4⟩:=VJ h
  rw[if_neg (by simpa using h0),hT,ad7,h1,ad7,mO,Ay x (by unfold Fit;omega) h2 h3 (fun _=>rfl)]
instance:DecidableEq al:=fun a b=>decidable_of_iff (a.ag=b.ag∧a.aa=b.aa) (by cases a;cases b;simp)
instance:DecidableEq ak:=fun a b=>decidable_of_iff (a.aH=b.aH∧a.aJ=b.aJ) (by cases a;cases b;simp)
theorem Tx {b c:al} (hf:Fit b.aa) (hl:b.aa.length=c.aa.length):∃r,aY (lB b c) 0=some r∧(match r with | .inl _=>b.aa=c.aa | .inr x=>x=false∧b.aa≠c.aa):=by
 refine cy (I:=fun i s=>s=(i:Int)∧b.aa.take i=c.aa.take i) b.aa.length _ ⟨rfl,by simp⟩ (iO hf) ?_
 unfold Fit at hf
 rintro i s hi ⟨rfl,he⟩
 simp only[lB]
 by_cases hlt:i<b.aa.length
 ·rw[if_pos (by simpa using hlt),bO hlt,ad7,bO (by omega),ad7]
  by_cases hx:b.aa[i]=c.aa[i]
  ·left
   rw[if_neg (by simpa using hx)]
   refine⟨hlt,_,rfl,by rw[gx (by omega)];omega,?_⟩
   rw[aeJ,aeJ,he]
   simp[hlt,show i<c.aa.length by omega,hx]
  ·right
   rw[if_pos (by simpa using hx)]
   refine⟨.inr false,rfl,rfl,fun h=>hx ?_⟩
   simp[h]
 ·right
  have:i=b.aa.length:=by omega
  subst this
  refine⟨.inl (),by rw[if_neg (by simp)],?_⟩
  rw[aeC,adW (by omega)]at he
  exact he
theorem RU {b c:al} (hf:Fit b.aa):gZ b c=some (decide (b=c)):=by
 have hiff:b=c↔b.ag=c.ag∧b.aa=c.aa:=by cases b;cases c;simp
 unfold gZ
 by_cases h1:b.ag=c.ag
 ·rw[if_neg (by simpa using h1),ad7]
  by_cases h2:b.aa.length=c.aa.length
  ·rw[if_neg (by simp;omega)]
   obtain⟨r,h3,h4⟩:=Tx hf h2
   rw[h3,ad7]
   cases r with
   | inl u=>simp only at h4 ⊢;simp[hiff,h1,h4]
   | inr x=>simp only at h4 ⊢;simp[hiff,h1,h4.1,h4.2]
  ·rw[if_pos (by simp;omega)]
   have:b≠c:=fun h=>h2 (by rw[h])
   simp[this]
 ·rw[if_pos (by simpa using h1),ad7,if_pos rfl]
  have:b≠c:=fun h=>h1 (by rw[h])
  simp[this]
theorem aaF {f g:ak} (hp:Fit f.aH.aa) (hq:Fit f.aJ.aa):lA f g=some (decide (f=g)):=by
 have hiff:f=g↔f.aH=g.aH∧f.aJ=g.aJ:=by cases f;cases g;simp
 unfold lA
 rw[RU hp,ad7]
 by_cases h:f.aH=g.aH
 ·rw[if_pos (by simpa using h),RU hq,ad7];simp[hiff,h]
 ·rw[if_neg (by simpa using h)];simp[hiff,h]
theorem abC {p q:Int} (hp:Ln p<=dB) (hq:Ln q<=dB) (h0:q≠0):rR (eh p) (eh q)=some (b6 (Rat.divInt p q),0):=by
 have hL:dB=4398046511104:=rfl
 have main:∀ {p q:Int},Ln p<=dB->Ln q<=dB->0<q ->
   ((pE (eh p) (eh q)).bind fun r6=>(mr (eh p) r6.1).bind fun r7=>(mr (eh q) r6.1).bind fun r8=>some ((ak.mk r7.1 r8.1),(0:Int)))=some (b6 (Rat.divInt p q),0):=by
  intro p q hp hq h0
  have hg:0<Int.gcd p q:=Int.gcd_pos_of_ne_zero_right _ (by omega)
  have hgl:Ln (Int.gcd p q:Int)<=dB:=by
   have:=b8 (ae8 p.natAbs (show 0<q.natAbs by omega))
   show (aE (Nat.gcd p.natAbs q.natAbs)).length<=_
   have h7:(aE q.natAbs).length<=dB:=hq
   omega
  rw[abz (pW hp) (pW hq),ad7]
  simp only
  rw[Z1 hp hgl (by omega) (Int.gcd_dvd_left ..),ad7,Z1 hq hgl (by omega) (Int.gcd_dvd_right ..),ad7]
  have hd:((q.natAbs / Int.gcd p q:Nat):Int)=q / (Int.gcd p q:Int):=by
   rw[Int.natCast_ediv]
   congr 1
   omega
  unfold b6
  rw[Rat.num_divInt,Rat.den_divInt,if_neg (by omega),ae3 h0,aeX,Int.gcd_comm q p,hd]
 unfold rR
 rw[ma (by omega),ad7]
 simp only[adY,adb,if_false]
 rw[ma (by omega),ad7,ad7]
 simp only[adY,adb,if_false]
 have hqs:(eh q).ag=q.sign:=rfl
 rw[hqs]
 rcases jV q with⟨a,b,c⟩|⟨a,b,c⟩|⟨a,b⟩
 ·rw[if_neg (by rw[a];decide),if_neg (by rw[a];decide),ad7]
  exact main hp hq c
 ·rw[if_neg (by rw[a];decide),if_pos (by rw[a];decide),Z3 hp,ad7,Z3 hq,ad7,ad7]
  have:=main (p := -p) (q := -q) (by rw[AQ];exact hp) (by rw[AQ];exact hq) (by omega)
  rw[Rat.neg_divInt_neg]at this
  exact this
 ·exact absurd b h0
theorem TV {x:Int} (h : -9223372036854775808<=x∧x<9223372036854775808):Ln x<=dB:=by
 have:Ln x<=4:=Qa (by rw[pw4];omega)
 have hL:dB=4398046511104:=rfl
 omega
theorem Of5 {p q:Int} (hp : -9223372036854775808<=p∧p<9223372036854775808) (hq : -9223372036854775808<=q∧q<9223372036854775808) (h0:q≠0):tP p q=some (b6 (Rat.divInt p q),0):=by
 unfold tP
 rw[Of4 hp,ad7,Of4 hq,ad7,abC (TV hp) (TV hq) h0,ad7]
theorem abA {n:Int} (h : -9223372036854775808<=n∧n<9223372036854775808):nP n=some (b6 n):=by
 unfold nP
 rw[Of5 h (by decide) (by decide),ad7]
 simp only
 congr 2
 have:=Rat.num_divInt_den (n:Rat)
 rw[Rat.num_intCast,Rat.den_intCast]at this
 exact this
theorem aah (f:ak) (n:Int):pI f n=some (decide ((f.aH.aa.length:Int)<=n∧(f.aJ.aa.length:Int)<=n)):=by
 unfold pI
 by_cases h:(f.aH.aa.length:Int)<=n
 ·rw[if_pos (by simpa using h)];simp[h]
 ·rw[if_neg (by simpa using h)];simp[h]
theorem Vo {σ ρ:Type} {body:σ->Option (σ⊕ρ)} {n:Nat} {s s':σ} (h:body s=some (.inl s')):nc body (n+1) s=nc body n s':=by simp only[nc,h]
theorem Lg {σ ρ:Type} {body:σ->Option (σ⊕ρ)} {n:Nat} {s:σ} {r:ρ} (h:body s=some (.inr r)):nc body (n+1) s=some r:=by simp only[nc,h]
theorem cY {i:Nat} (h:i<4611686018427387904):IntKind.i64.wrap ((i:Int)+1)=((i+1:Nat):Int):=by rw[wrap64 (by omega) (by omega)];omega
theorem ch {α:Type} {l:List α} {i:Nat} {x:α} (h:l[i]? = some x):P.idx l (i:Int)=some x:=K9 (by omega) (by simpa using h)
theorem cT {α:Type} {l:List α} {i:Nat} {x:α} (h:l[i]? = some x):i<l.length:=(ac4.1 h).1
theorem drop_cons {α:Type} {l rest:List α} {i:Nat} {x:α} (h:l.drop i=x::rest):i<l.length∧l[i]? = some x∧l.drop (i+1)=rest:=by
 have hi:i<l.length:=by
  rcases ado i l.length with h1|h1
  ·exact h1
  ·rw[ael h1]at h;cases h
 rw[aew hi]at h
 simp only[acZ]at h
 exact⟨hi,by rw[acO hi,h.1],h.2⟩
def kf {α ρ:Type} (st:Nat->α->Option ρ):Nat->List α->Option ρ
 | _,[]=>none
 | i,x::l=>match st i x with|some r=>some r|none=>kf st (i+1) l
theorem iU {α ρ:Type} {st:Nat->α->Option ρ} : ∀ {l:List α} {i:Nat},kf st i l=none↔∀(j:Nat) x,l[j]? = some x->st (i+j) x=none
 | [],i=>by simp[kf]
 | x::l,i=>by
  simp only[kf]
  constructor
  ·intro h j y hj
   cases hs:st i x with
   | some r=>rw[hs]at h;cases h
   | none =>
    rw[hs]at h
    cases j with
    | zero=>simp only[List.getElem?_cons_zero,acK]at hj;subst hj;exact hs
    | succ j =>
     have:=iU.1 h j y (by simpa using hj)
     rw[<- this];congr 1;omega
  ·intro h
   have h0:=h 0 x rfl
   simp only[Nat.add_zero]at h0
   rw[h0]
   refine iU.2 fun j y hj =>?_
   have:=h (j+1) y (by simpa using hj)
   rw[<- this];congr 1;omega
theorem ky {α ρ:Type} {st:Nat->α->Option ρ} {r:ρ} : ∀ {l:List α} {i:Nat},kf st i l=some r->∃(j:Nat) (x:α),l[j]? = some x∧st (i+j) x=some r∧∀(k:Nat) y,k<j->l[k]? = some y->st (i+k) y=none
 | [],i,h=>by cases h
 | x::l,i,h=>by
  simp only[kf]at h
  cases hs:st i x with
  | some r' =>
   rw[hs]at h
   exact⟨0,x,rfl,by rw[ada,hs];exact h,fun k y hk=>by omega⟩
  | none =>
   rw[hs]at h
   obtain⟨j,y,h1,h2,h3⟩:=ky h
   refine⟨j+1,y,by simpa using h1,by rw[<- h2];congr 1;omega,fun k z hk hz =>?_⟩
   cases k with
   | zero=>simp only[List.getElem?_cons_zero,acK]at hz;subst hz;exact hs
   | succ k =>
    have:=h3 k z (by omega) (by simpa using hz)
    rw[<- this];congr 1;omega
theorem Na {α ρ:Type} (l:List α) {body:Int->Option (Int⊕(Unit⊕ρ))} (st:Nat->α->Option ρ) (hlen:l.length<4611686018427387904)
  (hb:∀(i:Nat) x,l[i]? = some x->body (i:Int)=some (match st i x with|none =>.inl ((i+1:Nat):Int)|some r =>.inr (.inr r))) (he:body (l.length:Int)=some (.inr (.inl ()))) :
  aY body 0=some (match kf st 0 l with|none =>.inl ()|some r =>.inr r):=by
 have key:∀(rest:List α) (i fuel:Nat),i<=l.length->l.drop i=rest->rest.length<fuel->nc body fuel (i:Int)=some (match kf st i rest with|none =>.inl ()|some r =>.inr r):=by
  intro rest
  induction rest with
  | nil =>
   intro i fuel hi hd hf
   obtain⟨f,rfl⟩:∃f,fuel=f+1:=⟨fuel-1,by simp at hf;omega⟩
   have hle:l.length<=i:=by
    have:=congrArg List.length hd
    simp at this
    omega
   have:i=l.length:=by omega
   subst this
   rw[Lg he]
   rfl
  | cons x rest ih =>
   intro i fuel hi hd hf
   obtain⟨f,rfl⟩:∃f,fuel=f+1:=⟨fuel-1,by simp at hf;omega⟩
   obtain⟨h1,h2,h3⟩:=drop_cons hd
   have:=hb i x h2
   cases hs:st i x with
   | some r =>
    rw[hs]at this
    rw[Lg this]
    simp only[kf,hs]
   | none =>
    rw[hs]at this
    rw[Vo this,ih (i+1) f h1 h3 (by simp at hf;omega)]
    simp only[kf,hs]
 exact key l 0 FU (acC _) rfl (by have:FU=1000000000000000000000000:=rfl;omega)
theorem Af {α σ ρ:Type} {body:Int×σ->Option ((Int×σ)⊕ρ)} (l:List α) (hl:l.length<=17592186044416) (inv:Nat->σ->Prop) (Q:ρ->Prop) {s0:σ} (h0:inv 0 s0)
  (hstep:∀(i:Nat) x s,l[i]? = some x->inv i s->∃s',body ((i:Int),s)=some (.inl (((i+1:Nat):Int),s'))∧inv (i+1) s')
  (hend:∀s,inv l.length s->∃r,body ((l.length:Int),s)=some (.inr r)∧Q r):∃r,aY body ((0:Int),s0)=some r∧Q r:=by
 refine cy (fun i s=>s.1=(i:Int)∧inv i s.2) l.length Q ⟨rfl,h0⟩ (iO hl) ?_
 rintro i ⟨k,s⟩ hi ⟨rfl,hI⟩
 rcases ado i l.length with h|h
 ·obtain⟨s',h1,h2⟩:=hstep i _ s (acO h) hI
  exact .inl ⟨h,_,h1,rfl,h2⟩
 ·have:i=l.length:=by omega
  subst this
  exact .inr (hend s hI)
theorem ct {α:Type} {N j:Nat} (f:Nat->α) (h:j<N):((List.range N).map f)[j]? = some (f j):=by simp[h]
theorem yH {α:Type} {N:Nat} (f:Nat->α):((List.range N).map f).length=N:=by simp
theorem hZ {α:Type} {l:List α} {N:Nat} {f:Nat->α} (hl:l.length=N) (h:∀j,j<N->l[j]? = some (f j)):l=(List.range N).map f:=by
 apply aeD
 intro j
 by_cases hj:j<N
 ·rw[h j hj,ct f hj]
 ·rw[ad9 (by omega),ad9 (by simp;omega)]
theorem iD {α:Type} {N i:Nat} (f:Nat->α) (v:α):((List.range N).map f).set i v=(List.range N).map fun j=>if j=i then v else f j:=by
 refine hZ (by simp) fun j hj =>?_
 rw[List.getElem?_set]
 by_cases h:i=j
 ·subst h
  rw[if_pos rfl,if_pos (by simpa using hj)]
  simp
 ·rw[if_neg h,ct f hj,if_neg (fun e=>h e.symm)]
theorem wA {α β:Type} {mk:β->α} {R:β->Prop} : ∀ {l:List α},(∀x∈l,∃y,x=mk y∧R y)->∃ys:List β,l=ys.map mk∧∀y∈ys,R y
 | [],_=>⟨[],rfl,fun _ h=>by cases h⟩
 | x::l,h=>by
  obtain⟨y,h1,h2⟩:=h x (ad3 ..)
  obtain⟨ys,h3,h4⟩:=wA (l:=l) fun z hz=>h z (ad4 _ hz)
  refine⟨y::ys,by rw[acH,<- h1,<- h3],fun z hz =>?_⟩
  rcases acI.1 hz with rfl|hz
  ·exact h2
  ·exact h4 z hz
theorem Iw {α:Type} {R:α->α->Prop} (ht:∀a b c,R a b->R b c->R a c) {l:List α} (h:∀(i:Nat) a b,l[i]? = some a->l[i+1]? = some b->R a b):l.Pairwise R:=by
 rw[List.pairwise_iff_getElem]
 intro i j hi hj hij
 obtain⟨d,rfl⟩:∃d,j=i+1+d:=⟨j-(i+1),by omega⟩
 clear hij
 induction d with
 | zero=>exact h i _ _ (acO hi) (acO hj)
 | succ d ih=>exact ht _ _ _ (ih (by omega)) (h (i+1+d) _ _ (acO (by omega)) (acO hj))
abbrev Tk:=Nat×Nat×Rat
def wR (t:Tk):dk:=dk.mk (t.1:Int) (t.2.1:Int) (b6 t.2.2)
def mL (N:Nat) (tk:List Tk):bR:=bR.mk (N:Int) (tk.map wR)
theorem XG {a b:Tk} (h:wR a=wR b):a=b:=by
 unfold wR at h
 injection h with h1 h2 h3
 exact Prod.ext (by omega) (Prod.ext (by omega) (Rv h3))
theorem XF {N M:Nat} {a b:List Tk} (h:mL N a=mL M b):N=M∧a=b:=by
 unfold mL at h
 injection h with h1 h2
 refine⟨by omega,?_⟩
 exact List.map_inj_right (f:=wR) (fun x y h=>XG h) |>.1 h2
def rM:List Tk->Nat->Rat
 | [],_=>0
 | t::l,p=>(if t.1=p then t.2.2 else 0)+rM l p
theorem MK (a b:List Tk) (p:Nat):rM (a++b) p=rM a p+rM b p:=by
 induction a with
 | nil=>rw[aei,rM,Rat.zero_add]
 | cons t a ih=>rw[aes,rM,rM,ih];grind
def bM (tk:List Tk) (p:Nat):Rat:=1-rM tk p
theorem Co {tk:List Tk} {i:Nat} {t:Tk} (h:tk[i]? = some t) (p:Nat):bM (tk.take (i+1)) p=bM (tk.take i) p-(if t.1=p then t.2.2 else 0):=by
 obtain⟨hi,he⟩:=ac4.1 h
 unfold bM
 rw[afc hi,MK,he]
 simp only[rM]
 grind
theorem Hu {tk:List Tk} {K:Nat} (hs:∀t∈tk,LF t.2.2<=K) (p:Nat):∀i,i<=tk.length->LF (bM (tk.take i) p)<=1+i*(K+1)
 | 0,_=>by
  have:bM (tk.take 0) p=((1:Int):Rat):=by unfold bM;rw[aex,rM];grind
  rw[this]
  exact acD (NJ (n:=1) (by decide)) (by omega)
 | i+1,h=>by
  have ih:=Hu hs p i (by omega)
  have hg:tk[i]? = some tk[i]:=acO (by omega)
  rw[Co hg]
  have hk:=hs _ (acN (show i<tk.length by omega))
  rw[adz]
  split
  ·have:=NO (bM (tk.take i) p) tk[i].2.2
   omega
  ·rw[show ∀x:Rat,x-0=x by intro x;grind]
   omega
theorem AN {tk:List Tk} {K:Nat} (hs:∀t∈tk,LF t.2.2<=K) (p:Nat):LF (bM tk p)<=1+tk.length*(K+1):=by
 have:=Hu hs p tk.length (acB _)
 rwa [aeC]at this
theorem Ma {α:Type} {N B:Nat} (z:α) (h:N*B<=140737488355328) (h2:N<=2000):D7 B (N:Int) (N:Int) z=some (List.replicate N z):=by
 unfold D7
 have:(2000:Nat)<=maxLen:=by decide
 rw[if_pos ⟨by omega,by omega,by omega,by simpa using h⟩]
 simp
theorem Zq:gK 1=some (b6 1):=X6 (n:=1) (by decide)
theorem Cp {N K:Nat} {tk:List Tk} (hN:N<=2000) (hlen:tk.length<=8000) (hf:∀t∈tk,t.1<N) (hK:K<=1000000) (hs:∀t∈tk,LF t.2.2<=K) :
  jw (mL N tk)=some ((List.range N).map fun p=>b6 (bM tk p)):=by
 unfold jw mL
 simp only
 rw[Ma _ (by omega) hN,ad7]
 have h1:∃r,aY (lq (List.replicate N (ak.mk (al.mk 0 []) (al.mk 0 [])))) ((0:Int),List.replicate N (ak.mk (al.mk 0 []) (al.mk 0 [])))=some r∧r=(List.range N).map fun p=>b6 (bM (tk.take 0) p):=by
  refine Af (List.replicate N (ak.mk (al.mk 0 []) (al.mk 0 []))) (by simp;omega) (fun i l=>l.length=N∧∀j,j<i->l[j]? = some (b6 1)) _ ⟨by simp,fun j hj=>by omega⟩ ?_ ?_
  ·rintro i x l hx ⟨hl,hI⟩
   have hi:i<N:=by have:=cT hx;simpa using this
   have hg:l[i]? = some l[i]:=acO (by omega)
   refine⟨l.set i (b6 1),?_,by simpa using hl,fun j hj =>?_⟩
   ·simp only[lq]
    rw[if_pos (by simp;omega),Zq,ad7,ch hg,ad7,cY (by omega),adC]
   ·rw[List.getElem?_set]
    by_cases h:i=j
    ·rw[if_pos h,if_pos (by omega)]
    ·rw[if_neg h];exact hI j (by omega)
  ·rintro l ⟨hl,hI⟩
   refine⟨l,?_,?_⟩
   ·simp only[lq];rw[if_neg (by simp)]
   ·rw[List.length_replicate]at hI
    refine hZ hl fun j hj =>?_
    rw[hI j hj,aex]
    congr 2
    unfold bM rM;grind
 obtain⟨r,h1,rfl⟩:=h1
 rw[h1,ad7]
 have h2:∃r,aY (lr (bR.mk (N:Int) (tk.map wR))) ((0:Int),(List.range N).map fun p=>b6 (bM (tk.take 0) p))=some r∧r=(List.range N).map fun p=>b6 (bM tk p):=by
  refine Af tk (by omega) (fun i l=>l=(List.range N).map fun p=>b6 (bM (tk.take i) p)) _ rfl ?_ ?_
  ·rintro i t _ ht rfl
   have hi:=cT ht
   have hm:=ac3 ht
   have hfr:=hf t hm
   have hg:(tk.map wR)[i]? = some (wR t):=by rw[acy,ht];rfl
   refine⟨_,?_,rfl⟩
   simp only[lr]
   have hLF:=Hu hs t.1 i (by omega)
   have hkt:=hs t hm
   have hmul:i*(K+1)<=8000*1000001:=afd (by omega) (by omega)
   rw[if_pos (by simp;omega),ch hg,ad7]
   simp only[wR]
   rw[ch (ct _ hfr),ad7,Yf (by unfold dB;omega),ad7,cY (by omega),adC,iD]
   congr 3
   refine congrArg (fun f=>(List.range N).map f) (funext fun p =>?_)
   rw[Co ht]
   by_cases h:p=t.1
   ·subst h;rw[if_pos rfl,if_pos rfl]
   ·rw[if_neg h,if_neg (fun e=>h e.symm)]
    congr 1;grind
  ·rintro _ rfl
   refine⟨_,?_,rfl⟩
   simp only[lr]
   rw[if_neg (by simp),aeC]
 obtain⟨r,h2,rfl⟩:=h2
 rw[h2,ad7]
def W4 (a b:Tk):Prop:=a.1<b.1∨(a.1=b.1∧a.2.1<b.2.1)
theorem S2 (a b c:Tk) (h:W4 a b) (k:W4 b c):W4 a c:=by unfold W4 at *;omega
structure jG (N:Nat) (tk:List Tk):Prop where
 ports:N<=2000
 takes:tk.length<=8000
 ok:∀t∈tk,t.1<N∧t.2.1<N∧0<t.2.2
 sorted:tk.Pairwise W4
 leak:∀p,p<N->0<=bM tk p
theorem vk (a b c:Int):fA a b c=some (decide (b<=a∧a<=c)):=by
 unfold fA
 by_cases h1:a>=b<;>by_cases h2:a<=c<;>simp[h1,h2]
theorem Sx (a b:dk):∃c,ki a b=some c∧(c<0↔(a.dj<b.dj∨(a.dj=b.dj∧a.lG<b.lG))):=by
 unfold ki
 rw[Br,ad7,Br,ad7,Yb,ad7]
 refine⟨_,rfl,?_⟩
 unfold mZ
 split<;>split<;>(try split)<;>(try split)<;>simp at *<;>omega
theorem AD {q:Rat} : q.num.sign<0↔q<0:=by
 rw[Int.sign_neg_iff,<- Rat.not_le,<- Rat.num_nonneg]
 omega
theorem Nb {q:Rat} : q.num.sign=0↔q=0:=by
 rw[Int.sign_eq_zero_iff_zero,Rat.num_eq_zero]
theorem AE {q:Rat} : 0<q.num.sign↔0<q:=by
 constructor
 ·intro h
  have h1:¬q<0:=fun h'=>by have:=AD.2 h';omega
  have h2:q≠0:=fun h'=>by have:=Nb.2 h';omega
  grind
 ·intro h
  have h1:¬q.num.sign<0:=fun h'=>by have:=AD.1 h';grind
  have h2:q.num.sign≠0:=fun h'=>by have:=Nb.1 h';grind
  omega
theorem Ar {q:Rat} {k:Nat} (h1:(b6 q).aH.aa.length<=k) (h2:(b6 q).aJ.aa.length<=k):LF q<=k:=by
 unfold LF Ln
 exact Nat.max_le.2 ⟨h1,h2⟩
theorem HC {q:Rat} {k:Nat} (h:LF q<=k):(b6 q).aH.aa.length<=k∧(b6 q).aJ.aa.length<=k:=by
 unfold LF Ln at h
 exact Nat.max_le.1 h
theorem Bt {l:List Rat} (hl:l.length<=17592186044416) (hs:∀q∈l,LF q<=dB):bs (l.map b6)=some (decide (∃q∈l,q<0)):=by
 unfold bs bX
 rw[Na l (fun i q=>if q<0 then some (i:Int) else none) (by omega) (fun i q hq =>?_) (by simp only[cW];rw[if_neg (by simp)])]
 ·rw[ad7]
  cases hf:kf (fun i (q:Rat)=>if q<0 then some (i:Int) else none) 0 l with
  | none =>
   simp only
   rw[ad7,decide_eq_false (by decide),decide_eq_false]
   rintro⟨q,hq,hn⟩
   obtain⟨j,hj⟩:=acX hq
   have:=iU.1 hf j q hj
   rw[if_pos hn]at this
   cases this
  | some r =>
   obtain⟨j,q,h1,h2,_⟩:=ky hf
   by_cases hn:q<0
   ·rw[if_pos hn]at h2
    cases h2
    simp only
    rw[ad7,decide_eq_true (by omega),decide_eq_true ⟨q,ac3 h1,hn⟩]
   ·rw[if_neg hn]at h2;cases h2
 ·have hi:=cT hq
  simp only[cW,kC]
  rw[if_pos (by simp;omega),ch (x:=b6 q) (by rw[acy,hq];rfl),ad7,NU (hs q (ac3 hq)),ad7,ad7]
  by_cases hn:q<0
  ·rw[decide_eq_true (AD.2 hn),if_pos hn];rfl
  ·rw[decide_eq_false (fun h=>hn (AD.1 h)),if_neg hn,cY (by omega)];rfl
def Ts (N:Nat) (x:dk):Bool:=decide (0<=x.dj∧x.dj<=(N:Int)-1)&&decide (0<=x.lG∧x.lG<=(N:Int)-1)&&okF x.bd&&decide (0<x.bd.aH.ag)
def Sw (a b:dk):Prop:=a.dj<b.dj∨(a.dj=b.dj∧a.lG<b.lG)
instance (a b:dk):Decidable (Sw a b):=by unfold Sw;infer_instance
def Ce (N:Nat) (l:List dk) (i:Nat) (x:dk):Bool:=Ts N x&&(decide (i=0)||(match l[i-1]? with|some y=>decide (Sw y x)|none=>false))
theorem Mx {N:Nat} {x:dk} : Ts N x=true↔∃t:Tk,x=wR t∧t.1<N∧t.2.1<N∧0<t.2.2:=by
 unfold Ts
 simp only[ade,decide_eq_true_eq]
 constructor
 ·rintro⟨⟨⟨h1,h2⟩,h3⟩,h4⟩
  obtain⟨q,hq⟩:=Az.1 h3
  refine⟨(x.dj.toNat,x.lG.toNat,q),?_,by simp only;omega,by simp only;omega,?_⟩
  ·unfold wR
   cases x
   simp only at *
   rw[<- hq,Int.toNat_of_nonneg h1.1,Int.toNat_of_nonneg h2.1]
  ·rw[hq]at h4
   exact AE.1 h4
 ·rintro⟨t,rfl,h1,h2,h3⟩
  exact⟨⟨⟨by simp only[wR];omega,by simp only[wR];omega⟩,O7 _⟩,AE.2 h3⟩
theorem Qw {a b:Tk} : Sw (wR a) (wR b)↔W4 a b:=by
 unfold Sw W4 wR
 simp only
 omega
theorem yK {n:bR} {K:Nat} (hK:K<=1000000) (hs:∀t∈n.ax,t.bd.aH.aa.length<=K∧t.bd.aJ.aa.length<=K) :
  ∃b,iA n=some b∧(b=true↔∃N tk,n=mL N tk∧jG N tk):=by
 unfold iA
 rw[vk,ad7]
 by_cases hN:0<=n.aG∧n.aG<=2000
 rotate_left
 ·rw[decide_eq_false hN]
  refine⟨false,by simp,?_⟩
  simp only[adb,false_iff]
  rintro⟨N,tk,rfl,h⟩
  have:=h.ports
  simp only[mL]at hN
  omega
 rw[decide_eq_true hN]
 simp only[adY,adb,if_false,Option.bind_some]
 by_cases hL:(n.ax.length:Int)>8000
 ·rw[decide_eq_true hL]
  refine⟨false,by simp,?_⟩
  simp only[adb,false_iff]
  rintro⟨N,tk,rfl,h⟩
  have:=h.takes
  simp only[mL,ac5]at hL
  omega
 rw[decide_eq_false hL]
 simp only[adb,if_false]
 obtain⟨N,hNe⟩:∃N:Nat,n.aG=(N:Int):=⟨n.aG.toNat,by omega⟩
 have hwr:IntKind.i64.wrap (n.aG-1)=(N:Int)-1:=by rw[hNe,wrap64 (by omega) (by omega)]
 have hK2:K<=lP:=acD hK (by unfold lP;omega)
 have hscan:=Na n.ax (body:=lp n) (fun i x=>if Ce N n.ax i x=true then none else some false) (by omega) (fun i x hx=>by
  have hi:=cT hx
  obtain⟨hs1,hs2⟩:=hs x (ac3 hx)
  simp only[lp]
  rw[if_pos (by simp;omega),ch hx,ad7,vk,ad7,hwr]
  have hcond:(if (!decide (0<=x.dj∧x.dj<=(N:Int)-1))=true then some true
   else (fA x.lG 0 ((N:Int)-1)).bind fun r30 =>
    if (!r30)=true then some true
    else (ca x.bd).bind fun r32=>if (!r32)=true then some true else (iz x.bd).bind fun r34=>some (decide (r34<=0)))=some (!Ts N x):=by
   unfold Ts
   by_cases c1:0<=x.dj∧x.dj<=(N:Int)-1
   rotate_left
   ·rw[decide_eq_false c1];simp
   rw[decide_eq_true c1,vk,ad7]
   by_cases c2:0<=x.lG∧x.lG<=(N:Int)-1
   rotate_left
   ·rw[decide_eq_false c2];simp
   rw[decide_eq_true c2,AX ⟨by omega,by omega⟩,ad7]
   cases hq:okF x.bd with
   | false=>simp
   | true =>
    obtain⟨q,hq⟩:=Az.1 hq
    rw[hq]at hs1 hs2 ⊢
    have hLF:=Ar hs1 hs2
    rw[NU (by unfold dB;omega),ad7]
    have:(b6 q).aH.ag=q.num.sign:=rfl
    rw[this]
    by_cases c3:q.num.sign<=0
    ·rw[decide_eq_true c3,decide_eq_false (show ¬0<q.num.sign by omega)];simp
    ·rw[decide_eq_false c3,decide_eq_true (show 0<q.num.sign by omega)];simp
  rw[hcond,ad7]
  unfold Ce
  cases hok:Ts N x with
  | false=>simp
  | true =>
   simp only[adY,adb,if_false,adZ]
   cases i with
   | zero=>rw[if_neg (by simp),cY (by omega)];simp
   | succ i =>
    rw[if_pos (by simp)]
    have hg:n.ax[i]? = some n.ax[i]:=acO (by omega)
    have e1:IntKind.i64.wrap (((i+1:Nat):Int)-1)=(i:Int):=by rw[wrap64 (by omega) (by omega)];omega
    obtain⟨c,hc1,hc2⟩:=Sx n.ax[i] x
    rw[e1,ch hg,ad7,hc1,ad7,aem,hg]
    simp only[Nat.add_eq_zero_iff,Nat.one_ne_zero,and_false,decide_false,Bool.false_or]
    by_cases hb:Sw n.ax[i] x
    ·rw[if_neg (by simp;exact hc2.2 hb),decide_eq_true hb,cY (by omega)];rfl
    ·rw[if_pos (by simp only[decide_eq_true_eq];have:¬c<0:=fun h=>hb (hc2.1 h);omega),decide_eq_false hb];rfl) (by
  unfold lp
  rw[if_neg (by simp)])
 rw[hscan,ad7]
 cases hfs:kf (fun i x=>if Ce N n.ax i x=true then none else some false) 0 n.ax with
 | some r =>
  obtain⟨j,x,h1,h2,_⟩:=ky hfs
  simp only[adq]at h2
  split at h2
  ·cases h2
  rename_i hbad
  cases h2
  refine⟨false,rfl,?_⟩
  simp only[adb,false_iff]
  rintro⟨M,tk,rfl,hR⟩
  refine hbad ?_
  simp only[mL]at h1 hNe ⊢
  obtain rfl:M=N:=by omega
  rw[acy,acz]at h1
  obtain⟨t,ht,rfl⟩:=h1
  have hm:=ac3 ht
  unfold Ce
  rw[Mx.2 ⟨t,rfl,hR.ok t hm⟩,adZ]
  cases j with
  | zero=>simp
  | succ j =>
   have hjl:=cT ht
   have hg:tk[j]? = some tk[j]:=acO (by omega)
   rw[aem,acy,hg]
   simp only[Option.map_some]
   rw[decide_eq_true (Qw.2 ?_),Bool.or_true]
   have:=List.pairwise_iff_getElem.1 hR.sorted j (j+1) (by omega) hjl (by omega)
   rwa [(ac4.1 ht).2]at this
 | none =>
  have hall:=iU.1 hfs
  simp only[adq]at hall
  have hgood:∀(j:Nat) x,n.ax[j]? = some x->Ce N n.ax j x=true:=fun j x hj=>by
   have:=hall j x hj
   split at this
   ·assumption
   ·cases this
  obtain⟨tk,htk,htk2⟩:=wA (mk:=wR) (R:=fun t=>t.1<N∧t.2.1<N∧0<t.2.2) (l:=n.ax) fun x hx=>by
   obtain⟨j,hj⟩:=acX hx
   have:=hgood j x hj
   unfold Ce at this
   rw[ade]at this
   exact Mx.1 this.1
  have hn:n=mL N tk:=by
   unfold mL
   rw[<- hNe,<- htk]
  have hsort:tk.Pairwise W4:=Iw S2 fun i a b ha hb=>by
   have:=hgood (i+1) (wR b) (by rw[htk,acy,hb];rfl)
   unfold Ce at this
   rw[ade,aem,htk,acy,ha]at this
   simpa [Qw] using this.2
  have hLF:∀t∈tk,LF t.2.2<=K:=fun t ht=>by
   have:=hs (wR t) (by rw[htk];exact List.mem_map_of_mem ht)
   exact Ar this.1 this.2
  have hlen:tk.length<=8000:=by
   have:=congrArg List.length htk
   rw[ac5]at this
   omega
  have hN2:N<=2000:=by omega
  simp only
  rw[hn,Cp hN2 hlen (fun t ht=>(htk2 t ht).1) hK hLF,ad7]
  have hmap:((List.range N).map fun p=>b6 (bM tk p))=((List.range N).map fun p=>bM tk p).map b6:=by rw[List.map_map];rfl
  rw[hmap,Bt (by simp;omega) (fun q hq=>by
   obtain⟨p,_,rfl⟩:=acA.1 hq
   have:=AN hLF p
   have h2:tk.length*(K+1)<=8000*1000001:=afd hlen (by omega)
   unfold dB;omega),ad7]
  refine⟨_,rfl,?_⟩
  simp only[adf,decide_eq_false_iff_not]
  constructor
  ·intro hno
   refine⟨N,tk,rfl,⟨hN2,hlen,htk2,hsort,fun p hp =>?_⟩⟩
   by_cases h0:bM tk p<0
   ·exact absurd ⟨_,acA.2 ⟨p,aee.2 hp,rfl⟩,h0⟩ hno
   ·grind
  ·rintro⟨M,tk',he,hR⟩ ⟨q,hq,hneg⟩
   obtain⟨rfl,rfl⟩:=XF he
   obtain⟨p,hp,rfl⟩:=acA.1 hq
   have:=hR.leak p (aee.1 hp)
   grind
theorem xy:∀(N:Nat) (l:List Nat),l.Nodup->(∀x∈l,x<N)->l.length<=N
 | 0,l,_,h=>by
  cases l with
  | nil=>simp
  | cons x l=>exact absurd (h x (ad3 ..)) (by omega)
 | N+1,l,hn,h=>by
  have h1:=xy N (l.erase N) (hn.erase N) fun x hx=>by
   have h2:=h x (List.mem_of_mem_erase hx)
   have h3:x≠N:=fun e=>by subst e;exact (List.Nodup.mem_erase_iff hn).1 hx |>.1 rfl
   omega
  rw[List.length_erase]at h1
  split at h1<;>omega
def jq (l:List Nat):List Int:=l.map fun (p:Nat)=>(p:Int)
theorem VG {l:List Nat} {i p:Nat} (h:l[i]? = some p):(jq l)[i]? = some (p:Int):=by unfold jq;rw[acy,h];rfl
theorem mM (l:List Nat):(jq l).length=l.length:=ac5 ..
def jJ (tk:List Tk) (p:Nat):List Nat:=(tk.filter fun t=>decide (t.2.1=p)).map fun t=>t.1
theorem F6 {tk:List Tk} {p q:Nat} : q∈jJ tk p↔∃t∈tk,t.1=q∧t.2.1=p:=by
 unfold jJ
 simp only[acA,aea,decide_eq_true_eq]
 constructor
 ·rintro⟨t,⟨h1,h2⟩,h3⟩;exact⟨t,h1,h3,h2⟩
 ·rintro⟨t,h1,h3,h2⟩;exact⟨t,⟨h1,h2⟩,h3⟩
theorem Ey (tk:List Tk) (p:Nat):(jJ tk p).length<=tk.length:=by
 unfold jJ
 rw[ac5]
 exact afe ..
theorem N2 {tk:List Tk} {i:Nat} {t:Tk} (h:tk[i]? = some t) (p:Nat):jJ (tk.take (i+1)) p=if t.2.1=p then jJ (tk.take i) p++[t.1] else jJ (tk.take i) p:=by
 obtain⟨hi,he⟩:=ac4.1 h
 unfold jJ
 rw[afc hi,aff,ad0,he]
 by_cases hc:t.2.1=p
 ·rw[if_pos hc,afg (by simpa using hc)];rfl
 ·rw[if_neg hc,afh (by simpa using hc)];simp
structure pR (N:Nat) (tk:List Tk) (r:Nat->Int):Prop where
 ge:∀p,p<N -> -1<=r p
 zero:∀p,p<N->(r p=0↔0<bM tk p)
 down:∀p,p<N->0<r p->∃t∈tk,t.1=p∧r t.2.1=r p-1
 near:∀t∈tk,0<=r t.2.1->0<=r t.1∧r t.1<=r t.2.1+1
 le:∀p,p<N->r p<=2000
structure BF (N:Nat) (tk:List Tk) (r:Nat->Int) (D Q:List Nat) (h m:Int):Prop where
 nodup:(D++Q).Nodup
 lt:∀p∈D++Q,p<N
 rk:∀p,p<N->(0<=r p↔p∈D++Q)
 ge:∀p,p<N -> -1<=r p
 zero:∀p,p<N->(r p=0↔0<bM tk p)
 down:∀p,p<N->0<r p->∃t∈tk,t.1=p∧r t.2.1=r p-1
 near:∀t∈tk,t.2.1∈D->0<=r t.1∧r t.1<=r t.2.1+1
 mono:Q.Pairwise fun a b=>r a<=r b
 top:∀p∈D++Q,r p<=h+1
 low:∀q∈Q,h<=r q
 bnd:∀p,p<N->r p<=m
def TH (r:Nat->Int) (q:Nat) (v:Int):Nat->Int:=fun x=>if x=q then v else r x
theorem jz (r:Nat->Int) (q:Nat) (v:Int):TH r q v q=v:=if_pos rfl
theorem gF {r:Nat->Int} {q x:Nat} (v:Int) (h:x≠q):TH r q v x=r x:=if_neg h
theorem BF.pop {N:Nat} {tk:List Tk} {r:Nat->Int} {D Q:List Nat} {p:Nat} {h m:Int} (hB:BF N tk r D (p::Q) h m):BF N tk r D (p::Q) (r p) (m+1)∧0<=r p∧p<N∧r p<=m where
 left:={
  nodup:=hB.nodup,lt:=hB.lt,rk:=hB.rk,ge:=hB.ge,zero:=hB.zero,down:=hB.down,near:=hB.near,mono:=hB.mono
  top:=fun x hx=>by
   have h1:=hB.top x hx
   have h2:=hB.low p (ad3 ..)
   omega
  low:=fun q hq=>by
   rcases acI.1 hq with rfl|hq
   ·exact Int.le_refl _
   ·exact (aeb.1 hB.mono).1 q hq
  bnd:=fun x hx=>by have:=hB.bnd x hx;omega }
 right:=by
  have hm:p∈D++p::Q:=acQ _ (ad3 ..)
  have hp:=hB.lt p hm
  exact⟨(hB.rk p hp).2 hm,hp,hB.bnd p hp⟩
theorem BF.push {N:Nat} {tk:List Tk} {r:Nat->Int} {D Q:List Nat} {p q:Nat} {m:Int} (hB:BF N tk r D (p::Q) (r p) m) (hp0:0<=r p) (hm:r p+1<=m) (hq:q<N) (hr:r q = -1) (ht:∃t∈tk,t.1=q∧t.2.1=p) :
  BF N tk (TH r q (r p+1)) D (p::(Q++[q])) (r p) m∧TH r q (r p+1) p=r p:=by
 have hqn:q∉D++p::Q:=fun h=>by have:=(hB.rk q hq).2 h;omega
 have hap:∀x,x∈D++p::(Q++[q])↔x∈D++p::Q∨x=q:=fun x=>by
  simp only[adL,acI,afi,or_false]
  constructor
  ·rintro (h|h|h|h)<;>simp[h]
  ·rintro ((h|h|h)|h)<;>simp[h]
 have hne:∀x,x∈D++p::Q->x≠q:=fun x hx e=>hqn (e ▸ hx)
 have hpm:p∈D++p::Q:=acQ _ (ad3 ..)
 have hpq:p≠q:=hne p hpm
 refine⟨?_,gF _ hpq⟩
 constructor
 ·have:D++p::(Q++[q])=(D++p::Q)++[q]:=by simp
  rw[this,List.nodup_append]
  refine⟨hB.nodup,by simp,fun a ha b hb =>?_⟩
  simp only[acI,afi,or_false]at hb
  subst hb
  exact hne a ha
 ·intro x hx
  rcases (hap x).1 hx with h|rfl
  ·exact hB.lt x h
  ·exact hq
 ·intro x hx
  rw[hap]
  by_cases h:x=q
  ·subst h;rw[jz];exact⟨fun _ =>.inr rfl,fun _=>by omega⟩
  ·rw[gF _ h,hB.rk x hx];exact⟨.inl,fun k=>k.elim id fun e=>absurd e h⟩
 ·intro x hx
  by_cases h:x=q
  ·subst h;rw[jz];omega
  ·rw[gF _ h];exact hB.ge x hx
 ·intro x hx
  by_cases h:x=q
  ·subst h
   rw[jz]
   have:=hB.zero x hx
   constructor
   ·intro h;omega
   ·intro h;have:=this.2 h;omega
  ·rw[gF _ h];exact hB.zero x hx
 ·intro x hx h0
  by_cases h:x=q
  ·subst h
   obtain⟨t,h1,h2,h3⟩:=ht
   refine⟨t,h1,h2,?_⟩
   rw[h3,gF _ hpq,jz]
   omega
  ·rw[gF _ h]at h0 ⊢
   obtain⟨t,h1,h2,h3⟩:=hB.down x hx h0
   refine⟨t,h1,h2,?_⟩
   rw[gF _ (fun e=>by rw[e,hr]at h3;omega)]
   exact h3
 ·intro t ht' hD
  obtain⟨h1,h2⟩:=hB.near t ht' hD
  have e1:t.2.1≠q:=hne _ (acP _ hD)
  have e2:t.1≠q:=fun e=>by rw[e]at h1;omega
  rw[gF _ e1,gF _ e2]
  exact⟨h1,h2⟩
 ·have h1:=hB.mono
  have:p::(Q++[q])=(p::Q)++[q]:=by simp
  rw[this,aec]
  refine⟨h1.imp_of_mem fun {a b} ha hb h =>?_,by simp,fun a ha b hb =>?_⟩
  ·rw[gF _ (hne a (acQ _ ha)),gF _ (hne b (acQ _ hb))]
   exact h
  ·simp only[acI,afi,or_false]at hb
   subst hb
   rw[gF _ (hne a (acQ _ ha)),jz]
   exact hB.top a (acQ _ ha)
 ·intro x hx
  rcases (hap x).1 hx with h|rfl
  ·rw[gF _ (hne x h)];exact hB.top x h
  ·rw[jz];exact Int.le_refl _
 ·intro x hx
  by_cases h:x=q
  ·subst h;rw[jz];omega
  ·rw[gF _ h]
   refine hB.low x ?_
   simp only[acI,adL,afi,or_false]at hx ⊢
   rcases hx with h1|h1|h1
   ·exact .inl h1
   ·exact .inr h1
   ·exact absurd h1 h
 ·intro x hx
  by_cases h:x=q
  ·subst h;rw[jz];exact hm
  ·rw[gF _ h];exact hB.bnd x hx
theorem BF.finish {N:Nat} {tk:List Tk} {r:Nat->Int} {D Q:List Nat} {p:Nat} {h m:Int} (hB:BF N tk r D (p::Q) h m) (hn:∀q∈jJ tk p,0<=r q∧r q<=r p+1):BF N tk r (D++[p]) Q h m:=by
 have e:(D++[p])++Q=D++p::Q:=by simp
 exact {
  nodup:=by rw[e];exact hB.nodup
  lt:=by rw[e];exact hB.lt
  rk:=by rw[e];exact hB.rk
  ge:=hB.ge,zero:=hB.zero,down:=hB.down
  near:=fun t ht hD=>by
   rcases adL.1 hD with h1|h1
   ·exact hB.near t ht h1
   ·simp only[acI,afi,or_false]at h1
    rw[h1]
    exact hn t.1 (F6.2 ⟨t,ht,rfl,h1⟩)
  mono:=(aeb.1 hB.mono).2
  top:=by rw[e];exact hB.top
  low:=fun q hq=>hB.low q (ad4 _ hq)
  bnd:=hB.bnd }
theorem BF.aaC {N:Nat} {tk:List Tk} {r:Nat->Int} {D:List Nat} {h m:Int} (hB:BF N tk r D [] h m) (ht:∀t∈tk,t.1<N∧t.2.1<N) (hm:m<=2000):pR N tk r where
 ge:=hB.ge
 zero:=hB.zero
 down:=hB.down
 near t h1 h2:=hB.near t h1 (by have:=(hB.rk t.2.1 (ht t h1).2).1 h2;simpa using this)
 le p hp:=by have:=hB.bnd p hp;omega
theorem V7 {α:Type} (a:α) (l:List α):Aq (a::l) 1 ((a::l).length:Int)=some l:=by
 unfold Aq
 rw[if_pos ⟨by omega,by simp;omega,by omega⟩]
 simp
variable {N:Nat} {tk:List Tk}
theorem Pn {r:Nat->Int} {D Q:List Nat} {p:Nat} {m:Int} (hB:BF N tk r D (p::Q) (r p) m) (hp:p<N) (hp0:0<=r p) (hm:r p+1<=m) (hm2:m<=2001) (htk:∀t∈tk,t.1<N∧t.2.1<N) (hlen:tk.length<=8000) (hN:N<=2000) :
  ∃r' Q',aY (jv (p:Int) (jq (jJ tk p))) ((0:Int),(List.range N).map r,jq Q)=some ((List.range N).map r',jq Q')∧BF N tk r' (D++[p]) Q' (r p) m:=by
 have hbl:=Ey tk p
 have key:=fun hs he=>Af (body:=jv (p:Int) (jq (jJ tk p))) (jJ tk p) (by omega) (fun i (s:List Int×List Int)=>∃r' Q',s=((List.range N).map r',jq Q')∧BF N tk r' D (p::Q') (r p) m∧r' p=r p∧∀q∈(jJ tk p).take i,0<=r' q∧r' q<=r p+1)
  (fun x=>∃r' Q',x=((List.range N).map r',jq Q')∧BF N tk r' (D++[p]) Q' (r p) m) (s0:=((List.range N).map r,jq Q)) ⟨r,Q,rfl,hB,rfl,fun q hq=>by simp at hq⟩ hs he
 refine (key ?_ ?_).elim fun x ⟨h1,r',Q',hx,h2⟩=>⟨r',Q',hx ▸ h1,h2⟩
 ·rintro i q _ hq ⟨r',Q',rfl,hB',hrp,hnear⟩
  have hi:=cT hq
  have hqm:=ac3 hq
  obtain⟨t,ht1,ht2,ht3⟩:=F6.1 hqm
  have hqN:q<N:=by rw[<- ht2];exact (htk t ht1).1
  have htake:(jJ tk p).take (i+1)=(jJ tk p).take i++[q]:=by
   rw[afc hi,(ac4.1 hq).2]
  have hQl:Q'.length<=N:=by
   have h1:=xy N (D++p::Q') hB'.nodup hB'.lt
   simp only[adF,List.length_cons]at h1
   omega
  simp only[jv]
  rw[if_pos (by rw[mM];simp;omega),ch (VG hq),ad7,ch (ct r' hqN),ad7]
  by_cases hc:r' q = -1
  ·rw[if_pos (by rw[hc];rfl),ch (ct r' hp),ad7,hrp,wX (by rw[mM];simp;omega),ad7,cY (by omega),adC,iD]
   have hw:IntKind.i64.wrap (r p+1)=r p+1:=wrap64 (by omega) (by omega)
   rw[hw]
   have hB2:=hB'
   rw[<- hrp]at hB2
   obtain⟨h1,h2⟩:=hB2.push (by omega) (by omega) hqN hc ⟨t,ht1,ht2,ht3⟩
   rw[hrp]at h1 h2
   refine⟨_,rfl,TH r' q (r p+1),Q'++[q],?_,h1,h2,fun x hx =>?_⟩
   ·unfold jq TH;simp
   ·rw[htake]at hx
    rcases adL.1 hx with hx|hx
    ·have:=hnear x hx
     by_cases hxq:x=q
     ·subst hxq;rw[hc]at this;omega
     ·rw[gF _ hxq];exact this
    ·simp only[acI,afi,or_false]at hx
     subst hx
     rw[jz];omega
  ·rw[if_neg (by simpa using hc),cY (by omega)]
   refine⟨_,rfl,r',Q',rfl,hB',hrp,fun x hx =>?_⟩
   rw[htake]at hx
   rcases adL.1 hx with hx|hx
   ·exact hnear x hx
   ·simp only[acI,afi,or_false]at hx
    subst hx
    have h0:0<=r' x:=by have:=hB'.ge x hqN;omega
    exact⟨h0,hB'.top x ((hB'.rk x hqN).1 h0)⟩
 ·rintro _ ⟨r',Q',rfl,hB',hrp,hnear⟩
  refine⟨_,?_,r',Q',rfl,hB'.finish fun q hq =>?_⟩
  ·simp only[jv]
   rw[if_neg (by rw[mM];simp)]
  ·rw[aeC]at hnear
   rw[hrp]
   exact hnear q hq
theorem Po {r:Nat->Int} {Q:List Nat} (hB:BF N tk r [] Q 0 0) (htk:∀t∈tk,t.1<N∧t.2.1<N) (hlen:tk.length<=8000) (hN:N<=2000) :
  ∃r',aY (ju ((List.range N).map fun p=>jq (jJ tk p))) ((List.range N).map r,jq Q)=some ((List.range N).map r')∧pR N tk r':=by
 have key:=fun hs=>cy (body:=ju ((List.range N).map fun p=>jq (jJ tk p))) (fun i (s:List Int×List Int)=>∃r' D Q' h,s=((List.range N).map r',jq Q')∧D.length=i∧BF N tk r' D Q' h (i:Int)) N
  (fun x=>∃r',x=(List.range N).map r'∧pR N tk r') (s:=((List.range N).map r,jq Q)) ⟨r,[],Q,0,rfl,rfl,hB⟩ (iO (by omega)) hs
 refine (key ?_).elim fun x ⟨h1,r',hx,h2⟩=>⟨r',hx ▸ h1,h2⟩
 ·rintro i _ hi ⟨r',D,Q',h,rfl,hD,hB'⟩
  cases Q' with
  | nil =>
   refine .inr ⟨_,?_,r',rfl,hB'.aaC htk (by omega)⟩
   simp only[ju,jq,adr]
   rw[if_neg (by simp)]
  | cons p Q' =>
   obtain⟨hB2,hp0,hp,hpm⟩:=hB'.pop
   have hiN:i<N:=by
    have h1:=xy N (D++p::Q') hB'.nodup hB'.lt
    simp only[adF,List.length_cons]at h1
    omega
   obtain⟨r2,Q2,h1,h2⟩:=Pn hB2 hp hp0 (by omega) (by omega) htk hlen hN
   refine .inl ⟨hiN,((List.range N).map r2,jq Q2),?_,r2,D++[p],Q2,r' p,rfl,by simp[hD],by simpa using h2⟩
   simp only[ju]
   have e1:jq (p::Q')=(p:Int)::jq Q':=rfl
   rw[e1,if_pos (by simp),idx_zero' ,ad7,V7,ad7,ch (ct (fun p=>jq (jJ tk p)) hp),ad7,h1,ad7]
where
 idx_zero':∀ {α:Type} {a:α} {l:List α},P.idx (a::l) 0=some a:=fun {_ a l}=>ch (l:=a::l) (i:=0) rfl
theorem Sv {L:Nat} (htk:∀t∈tk,t.1<N∧t.2.1<N) (hlen:tk.length<=8000) :
  aY (js (mL N tk)) ((0:Int),List.replicate N ([]:List Int))=some ((List.range N).map fun p=>jq (jJ tk p)):=by
 unfold mL
 have key:=fun hs he=>Af (body:=js (bR.mk (N:Int) (tk.map wR))) tk (by omega) (fun i l=>l=(List.range N).map fun p=>jq (jJ (tk.take i) p)) (fun l=>l=(List.range N).map fun p=>jq (jJ tk p)) (s0:=List.replicate N ([]:List Int))
  (hZ (by simp) fun j hj=>by rw[afj,if_pos hj,List.take_zero];rfl) hs he
 refine (key ?_ ?_).elim fun x ⟨h1,hx⟩=>hx ▸ h1
 ·rintro i t _ ht rfl
  have hi:=cT ht
  have hto:=(htk t (ac3 ht)).2
  have hg:(tk.map wR)[i]? = some (wR t):=by rw[acy,ht];rfl
  have hbl:=Ey (tk.take i) t.2.1
  rw[acU]at hbl
  refine⟨_,?_,rfl⟩
  simp only[js]
  rw[if_pos (by simp;omega),ch hg,ad7]
  simp only[wR]
  rw[ch (ct _ hto),ad7,wX (by rw[mM];simp;omega),ad7,cY (by omega),adC,iD]
  congr 3
  refine congrArg (fun f=>(List.range N).map f) (funext fun p =>?_)
  rw[N2 ht]
  by_cases h:p=t.2.1
  ·subst h;rw[if_pos rfl,if_pos rfl];unfold jq;simp
  ·rw[if_neg h,if_neg (fun e=>h e.symm)]
 ·rintro _ rfl
  refine⟨_,?_,rfl⟩
  simp only[js]
  rw[if_neg (by simp),aeC]
def zQ (tk:List Tk) (p:Nat):Int:=if 0<bM tk p then 0 else -1
def lz (tk:List Tk) (n:Nat):List Nat:=(List.range n).filter fun p=>decide (0<bM tk p)
theorem MQ (tk:List Tk) (n:Nat):lz tk (n+1)=if 0<bM tk n then lz tk n++[n] else lz tk n:=by
 unfold lz
 rw[List.range_succ,aff]
 by_cases h:0<bM tk n
 ·rw[if_pos h,afg (by simpa using h)];rfl
 ·rw[if_neg h,afh (by simpa using h)];simp
theorem SV {K:Nat} (hN:N<=2000) (hlen:tk.length<=8000) (hK:K<=1000000) (hs:∀t∈tk,LF t.2.2<=K) :
  aY (jt ((List.range N).map fun p=>b6 (bM tk p))) ((0:Int),List.replicate N (0:Int),([]:List Int))=some ((List.range N).map (zQ tk),jq (lz tk N)):=by
 have key:=fun hs he=>Af (body:=jt ((List.range N).map fun p=>b6 (bM tk p))) (List.range N) (by simp;omega) (fun i (s:List Int×List Int)=>s=((List.range N).map (fun p=>if p<i then zQ tk p else 0),jq (lz tk i))) (fun s=>s=((List.range N).map (zQ tk),jq (lz tk N))) (s0:=(List.replicate N (0:Int),([]:List Int)))
  (by rw[show lz tk 0=[] from rfl];refine Prod.ext ?_ rfl;exact hZ (by simp) fun j hj=>by rw[afj,if_pos hj,if_neg (by omega)]) hs he
 refine (key ?_ ?_).elim fun x ⟨h1,hx⟩=>hx ▸ h1
 ·rintro i x _ hx rfl
  have hi:i<N:=by have:=cT hx;simpa using this
  have hLF:=AN hs i
  have h2:tk.length*(K+1)<=8000*1000001:=afd hlen (by omega)
  have hql:(lz tk i).length<=i:=by unfold lz;have:=afe (fun p=>decide (0<bM tk p)) (List.range i);simpa using this
  refine⟨_,?_,rfl⟩
  simp only[jt]
  rw[if_pos (by simp;omega),ch (ct (fun p=>b6 (bM tk p)) hi),ad7,ch (ct _ hi),ad7,NU (by unfold dB;omega),ad7,adC,iD,iD,cY (by omega),MQ]
  by_cases hl:0<bM tk i
  ·rw[if_pos (by simpa using AE.2 hl),ch (ct _ hi),ad7,wX (by rw[mM];simp;omega),ad7,if_pos hl]
   refine congrArg some (congrArg Sum.inl (congrArg (Prod.mk _) (Prod.ext ?_ ?_)))
   ·refine congrArg (fun f=>(List.range N).map f) (funext fun p =>?_)
    by_cases h:p=i
    ·subst h;rw[if_pos rfl,if_pos (by omega)];unfold zQ;rw[if_pos hl]
    ·rw[if_neg h,if_neg h]
     by_cases h3:p<i
     ·rw[if_pos h3,if_pos (by omega)]
     ·rw[if_neg h3,if_neg (by omega)]
   ·unfold jq;simp
  ·rw[if_neg (by simpa using fun h=>hl (AE.1 h)),if_neg hl]
   refine congrArg some (congrArg Sum.inl (congrArg (Prod.mk _) (Prod.ext ?_ rfl)))
   refine congrArg (fun f=>(List.range N).map f) (funext fun p =>?_)
   by_cases h:p=i
   ·subst h;rw[if_pos rfl,if_pos (by omega)];unfold zQ;rw[if_neg hl]
   ·rw[if_neg h]
    by_cases h3:p<i
    ·rw[if_pos h3,if_pos (by omega)]
    ·rw[if_neg h3,if_neg (by omega)]
 ·rintro _ rfl
  refine⟨_,?_,rfl⟩
  simp only[jt]
  rw[if_neg (by simp),ac6]
  refine congrArg some (congrArg Sum.inr (Prod.ext ?_ rfl))
  refine hZ (by simp) fun j hj =>?_
  rw[ct _ hj,if_pos hj]
theorem Xv (N:Nat) (tk:List Tk):BF N tk (zQ tk) [] (lz tk N) 0 0:=by
 have hm:∀p,p∈lz tk N↔p<N∧0<bM tk p:=fun p=>by unfold lz;simp[aea]
 have h0:∀p,0<bM tk p->zQ tk p=0:=fun p h=>if_pos h
 have h1:∀p,¬0<bM tk p->zQ tk p = -1:=fun p h=>if_neg h
 constructor
 ·rw[aei];unfold lz;exact List.nodup_range.filter _
 ·intro p hp;rw[aei]at hp;exact ((hm p).1 hp).1
 ·intro p hp
  rw[aei,hm]
  by_cases h:0<bM tk p
  ·rw[h0 p h];simp[hp,h]
  ·rw[h1 p h];simp[h]
 ·intro p hp
  by_cases h:0<bM tk p
  ·rw[h0 p h];omega
  ·rw[h1 p h];omega
 ·intro p hp
  by_cases h:0<bM tk p
  ·rw[h0 p h];simp[h]
  ·rw[h1 p h];simp[h]
 ·intro p hp hpos
  by_cases h:0<bM tk p
  ·rw[h0 p h]at hpos;omega
  ·rw[h1 p h]at hpos;omega
 ·intro t _ h;simp at h
 ·refine List.Pairwise.imp_of_mem (R:=fun _ _=>True) (fun {a b} ha hb _ =>?_) (List.pairwise_of_forall (fun _ _=>trivial))
  rw[h0 a ((hm a).1 ha).2,h0 b ((hm b).1 hb).2]
  exact Int.le_refl _
 ·intro p hp
  rw[aei]at hp
  rw[h0 p ((hm p).1 hp).2];omega
 ·intro q hq;rw[h0 q ((hm q).1 hq).2];omega
 ·intro p hp
  by_cases h:0<bM tk p
  ·rw[h0 p h];omega
  ·rw[h1 p h];omega
theorem VX {K:Nat} (hR:jG N tk) (hK:K<=1000000) (hs:∀t∈tk,LF t.2.2<=K):∃r,jr (mL N tk)=some ((List.range N).map r)∧pR N tk r:=by
 have hN:=hR.ports
 have hlen:=hR.takes
 have htk:∀t∈tk,t.1<N∧t.2.1<N:=fun t ht=>⟨(hR.ok t ht).1,(hR.ok t ht).2.1⟩
 obtain⟨b,hb1,hb2⟩:=yK (n:=mL N tk) hK (fun t ht=>by
  simp only[mL,acA]at ht
  obtain⟨t',h1,rfl⟩:=ht
  exact HC (hs t' h1))
 obtain rfl:b=true:=hb2.2 ⟨N,tk,rfl,hR⟩
 obtain⟨r',h1,h2⟩:=Po (Xv N tk) htk hlen hN
 refine⟨r',?_,h2⟩
 unfold jr
 rw[hb1,ad7]
 simp only[adY,adb,if_false]
 have e1:(mL N tk).aG=(N:Int):=rfl
 rw[e1,Ma _ (by omega) hN,ad7,Sv (L:=0) htk hlen,ad7,Ma _ (by omega) hN,ad7,Cp hN hlen (fun t ht=>(htk t ht).1) hK hs,ad7,SV hN hlen hK hs,ad7]
 simp only
 rw[h1,ad7]
def nf (N:Nat) (r:Nat->Int):List Nat:=(List.range N).filter fun p=>decide (r p = -1)
theorem PO (n:Nat) (r:Nat->Int):nf (n+1) r=if r n = -1 then nf n r++[n] else nf n r:=by
 unfold nf
 rw[List.range_succ,aff]
 by_cases h:r n = -1
 ·rw[if_pos h,afg (by simpa using h)];rfl
 ·rw[if_neg h,afh (by simpa using h)];simp
theorem PQ {r:Nat->Int} (hN:N<=2000) (h:jr (mL N tk)=some ((List.range N).map r)):gV (mL N tk)=some (jq (nf N r)):=by
 unfold gV
 rw[h,ad7]
 have key:=fun hs he=>Af (body:=gN ((List.range N).map r)) (List.range N) (by simp;omega) (fun i l=>l=jq (nf i r)) (fun l=>l=jq (nf N r)) (s0:=([]:List Int)) rfl hs he
 have h2:aY (gN ((List.range N).map r)) ((0:Int),[])=some (jq (nf N r)):=by
  refine (key ?_ ?_).elim fun x ⟨h1,hx⟩=>hx ▸ h1
  ·rintro i x _ hx rfl
   have hi:i<N:=by have:=cT hx;simpa using this
   have hql:(nf i r).length<=i:=by unfold nf;have:=afe (fun p=>decide (r p = -1)) (List.range i);simpa using this
   refine⟨_,?_,rfl⟩
   simp only[gN]
   rw[if_pos (by simp;omega),ch (ct r hi),ad7,cY (by omega),PO]
   by_cases hc:r i = -1
   ·rw[if_pos (by rw[hc];rfl),wX (by rw[mM];simp;omega),ad7,if_pos hc]
    unfold jq;simp
   ·rw[if_neg (by simpa using hc),if_neg hc]
  ·rintro _ rfl
   refine⟨_,?_,rfl⟩
   simp only[gN]
   rw[if_neg (by simp),ac6]
 rw[h2,ad7]
end Go.Proofs.Ytchndpjlijbplaa.P
namespace Go.Proofs.Ytchndpjlijbplaa.P
open Go.RowKit
set_option linter.unusedSimpArgs false
set_option linter.unusedVariables false
def sm:Nat->(Nat->Rat)->Rat
 | 0,_=>0
 | n+1,f=>sm n f+f n
theorem qp {n:Nat} {f g:Nat->Rat} (h:∀i,i<n->f i=g i):sm n f=sm n g:=by
 induction n with
 | zero=>rfl
 | succ n ih=>rw[sm,sm,ih fun i hi=>h i (by omega),h n (by omega)]
theorem Pv (n:Nat) (f g:Nat->Rat):sm n (fun i=>f i+g i)=sm n f+sm n g:=by
 induction n with
 | zero=>simp only[sm];grind
 | succ n ih=>simp only[sm];rw[ih];grind
theorem Pw (n:Nat) (f g:Nat->Rat):sm n (fun i=>f i-g i)=sm n f-sm n g:=by
 induction n with
 | zero=>simp only[sm];grind
 | succ n ih=>simp only[sm];rw[ih];grind
theorem yN {n:Nat} {f:Nat->Rat} (h:∀i,i<n->0<=f i):0<=sm n f:=by
 induction n with
 | zero=>simp only[sm];grind
 | succ n ih =>
  have h1:=ih fun i hi=>h i (by omega)
  have h2:=h n (by omega)
  simp only[sm];grind
theorem RX {n:Nat} {f:Nat->Rat} (h:∀i,i<n->0<=f i) (hs:sm n f<=0):∀i,i<n->f i=0:=by
 induction n with
 | zero=>intro i hi;omega
 | succ n ih =>
  have h1:=yN (n:=n) fun i hi=>h i (by omega)
  have h2:=h n (by omega)
  simp only[sm]at hs
  intro i hi
  by_cases hin:i=n
  ·subst hin;grind
  ·exact ih (fun j hj=>h j (by omega)) (by grind) i (by omega)
theorem XU (n:Nat):sm n (fun _=>0)=0:=by
 induction n with
 | zero=>rfl
 | succ n ih=>simp only[sm];rw[ih];grind
theorem GY {n t:Nat} (v:Rat) (h:t<n):sm n (fun p=>if t=p then v else 0)=v:=by
 induction n with
 | zero=>omega
 | succ n ih =>
  simp only[sm]
  by_cases hn:t=n
  ·subst hn
   rw[qp (g:=fun _=>0) fun i hi=>if_neg (by omega),XU,if_pos rfl];grind
  ·rw[ih (by omega),if_neg hn];grind
def Ah:List Tk->(Nat->Rat)->Nat->Rat
 | [],_,_=>0
 | t::l,x,p=>(if t.2.1=p then t.2.2*x t.1 else 0)+Ah l x p
theorem Xu (l:List Tk) (c:Rat) (x:Nat->Rat) (p:Nat):Ah l (fun j=>c*x j) p=c*Ah l x p:=by
 induction l with
 | nil=>simp only[Ah];grind
 | cons t l ih=>simp only[Ah];rw[ih];split<;>grind
theorem La {x y:Nat->Rat} {p:Nat} : ∀ {l:List Tk},(∀t∈l,0<=t.2.2)->(∀t∈l,t.2.1=p->x t.1<=y t.1)->Ah l x p<=Ah l y p
 | [],_,_=>by simp only[Ah];grind
 | t::l,h0,h=>by
  simp only[Ah]
  have ih:=La (l:=l) (fun t ht=>h0 t (ad4 _ ht)) fun t ht=>h t (ad4 _ ht)
  have ht:=h0 t (ad3 ..)
  by_cases hp:t.2.1=p
  ·rw[if_pos hp,if_pos hp]
   have:=Rat.mul_le_mul_of_nonneg_left (h t (ad3 ..) hp) ht
   grind
  ·rw[if_neg hp,if_neg hp];grind
theorem OH {x:Nat->Rat} {p:Nat} {l:List Tk} (h0:∀t∈l,0<=t.2.2) (h:∀t∈l,t.2.1=p->0<=x t.1):0<=Ah l x p:=by
 have:=La (x:=fun _=>0) (y:=x) (p:=p) h0 h
 have h2:Ah l (fun _=>0) p=0:=by
  have:=Xu l 0 (fun _=>0) p
  have e:(fun j:Nat=>(0:Rat)*(fun _=>0) j)=fun _=>0:=by funext j;grind
  rw[e]at this
  rw[this];grind
 grind
theorem Vk {x:Nat->Rat} {p:Nat} : ∀ {l:List Tk},(∀t∈l,0<=t.2.2)->(∀t∈l,t.2.1=p->0<=x t.1)->∀t∈l,t.2.1=p->t.2.2*x t.1<=Ah l x p
 | [],_,_,t,ht,_=>by cases ht
 | t::l,h0,h,u,hu,hp=>by
  simp only[Ah]
  have h1:=OH (x:=x) (p:=p) (l:=l) (fun t ht=>h0 t (ad4 _ ht)) fun t ht=>h t (ad4 _ ht)
  rcases acI.1 hu with rfl|hu
  ·rw[if_pos hp];grind
  ·have ih:=Vk (x:=x) (p:=p) (l:=l) (fun t ht=>h0 t (ad4 _ ht)) (fun t ht=>h t (ad4 _ ht)) u hu hp
   by_cases hq:t.2.1=p
   ·rw[if_pos hq]
    have:=afk (h0 t (ad3 ..)) (h t (ad3 ..) hq)
    grind
   ·rw[if_neg hq];grind
theorem H3 {N:Nat} (x:Nat->Rat):∀ {l:List Tk},(∀t∈l,t.1<N∧t.2.1<N)->sm N (fun p=>Ah l x p)=sm N (fun q=>rM l q*x q)
 | [],_=>by simp only[Ah,rM];exact qp fun i _=>by grind
 | t::l,h=>by
  simp only[Ah,rM]
  obtain⟨h1,h2⟩:=h t (ad3 ..)
  rw[Pv,GY _ h2,H3 x fun t ht=>h t (ad4 _ ht)]
  have:sm N (fun q=>((if t.1=q then t.2.2 else 0)+rM l q)*x q)=sm N (fun q=>(if t.1=q then t.2.2*x t.1 else 0)+rM l q*x q):=qp fun q _=>by
   by_cases hq:t.1=q
   ·rw[if_pos hq,if_pos hq,hq];grind
   ·rw[if_neg hq,if_neg hq];grind
  rw[this,Pv,GY _ h1]
variable {N:Nat} {tk:List Tk} {r:Nat->Int}
theorem jG.pos (hR:jG N tk):∀t∈tk,0<=t.2.2:=fun t ht=>by have:=(hR.ok t ht).2.2;grind
theorem jG.ZJ (hR:jG N tk):∀t∈tk,t.1<N∧t.2.1<N:=fun t ht=>⟨(hR.ok t ht).1,(hR.ok t ht).2.1⟩
theorem P5 (hR:jG N tk) (hr:pR N tk r) (h0:∀p,p<N->0<=r p) {y:Nat->Rat} (hy:∀p,p<N->0<=y p) (hle:∀p,p<N->y p<=Ah tk y p):∀p,p<N->y p=0:=by
 have hs:=H3 y hR.ZJ
 have hl0:∀p,p<N->0<=bM tk p*y p:=fun p hp=>afk (hR.leak p hp) (hy p hp)
 have hd0:∀p,p<N->0<=Ah tk y p-y p:=fun p hp=>by have:=hle p hp;grind
 have e1:sm N (fun p=>bM tk p*y p)=sm N y-sm N (fun q=>rM tk q*y q):=by
  rw[<- Pw]
  exact qp fun p _=>by unfold bM;grind
 have e2:sm N (fun p=>Ah tk y p-y p)=sm N (fun q=>rM tk q*y q)-sm N y:=by rw[Pw,hs]
 have n1:=yN hl0
 have n2:=yN hd0
 have z1:=RX hl0 (by grind)
 have z2:=RX hd0 (by grind)
 have key:∀(k:Nat) p,p<N->r p=(k:Int)->y p=0:=by
  intro k
  induction k with
  | zero =>
   intro p hp hk
   have hl:=(hr.zero p hp).1 hk
   have:=z1 p hp
   rcases Rat.mul_eq_zero.1 this with h|h
   ·grind
   ·exact h
  | succ k ih =>
   intro p hp hk
   obtain⟨t,ht,rfl,ht2⟩:=hr.down p hp (by omega)
   have hto:=(hR.ZJ t ht).2
   have hq:=ih t.2.1 hto (by omega)
   have e:=z2 t.2.1 hto
   have hge:=Vk (x:=y) (p:=t.2.1) hR.pos (fun u hu _=>hy _ (hR.ZJ u hu).1) t ht rfl
   have hpos:=(hR.ok t ht).2.2
   have hy1:=hy t.1 hp
   have h3:t.2.2*y t.1<=0:=by grind
   have h4:=afk (show 0<=t.2.2 by grind) hy1
   rcases Rat.mul_eq_zero.1 (show t.2.2*y t.1=0 by grind) with h|h
   ·grind
   ·exact h
 intro p hp
 have:=h0 p hp
 exact key (r p).toNat p hp (by omega)
def Z4 (N:Nat) (tk:List Tk) (d x:Nat->Rat):Prop:=∀p,p<N->x p=d p+Ah tk x p
theorem XW (hR:jG N tk) {d x:Nat->Rat} (hx:Z4 N tk d x):sm N d=sm N (fun p=>bM tk p*x p):=by
 have h1:=H3 x hR.ZJ
 have e:sm N x=sm N d+sm N (fun p=>Ah tk x p):=by rw[<- Pv];exact qp hx
 have e2:sm N (fun p=>bM tk p*x p)=sm N x-sm N (fun q=>rM tk q*x q):=by
  rw[<- Pw]
  exact qp fun p _=>by unfold bM;grind
 grind
end Go.Proofs.Ytchndpjlijbplaa.P
namespace Go.Proofs.Ytchndpjlijbplaa.P
open Go.RowKit
set_option linter.unusedSimpArgs false
set_option linter.unusedVariables false
abbrev Tm:=Nat×Rat
def iS (t:Tm):dz:=dz.mk (t.1:Int) (b6 t.2)
structure QE where
 D:Rat
 T:List Tm
def mkEq (e:QE):aq:=aq.mk (b6 e.D) (e.T.map iS)
def cI:List Tm->(Nat->Rat)->Rat
 | [],_=>0
 | t::l,x=>t.2*x t.1+cI l x
theorem mI (a b:List Tm) (x:Nat->Rat):cI (a++b) x=cI a x+cI b x:=by
 induction a with
 | nil=>simp only[List.nil_append,cI];grind
 | cons t a ih=>simp only[List.cons_append,cI];rw[ih];grind
abbrev gR (T:List Tm):Prop:=T.Pairwise fun a b=>a.1<b.1
def jP (T:List Tm) (k:Nat):List Tm:=T.filter fun t=>decide (t.1<k)
def xU (T:List Tm) (k:Nat):List Tm:=T.filter fun t=>decide (k<t.1)
def dS:List Tm->Nat->Option Rat
 | [],_=>none
 | t::l,k=>if t.1=k then some t.2 else dS l k
theorem Ij {T:List Tm} {k:Nat} {t:Tm} : t∈jP T k↔t∈T∧t.1<k:=by unfold jP;simp[aea]
theorem Cx {T:List Tm} {k:Nat} {t:Tm} : t∈xU T k↔t∈T∧k<t.1:=by unfold xU;simp[aea]
theorem OL {T:List Tm} {k:Nat} (h:∀t∈T,k<=t.1):jP T k=[]:=by
 unfold jP
 rw[List.filter_eq_nil_iff]
 intro t ht
 have:=h t ht
 simp;omega
theorem Vh {T:List Tm} {k:Nat} (h:∀t∈T,k<t.1):xU T k=T:=by
 unfold xU
 rw[List.filter_eq_self]
 intro t ht
 simpa using h t ht
theorem Sz {T:List Tm} {k:Nat} (h:∀t∈T,t.1≠k):dS T k=none:=by
 induction T with
 | nil=>rfl
 | cons t T ih=>rw[dS,if_neg (h t (ad3 ..)),ih fun u hu=>h u (ad4 _ hu)]
theorem ve {k:Nat} : ∀ {T:List Tm},gR T->(dS T k=none∧T=jP T k++xU T k)∨∃c,dS T k=some c∧T=jP T k++(k,c)::xU T k
 | [],_ =>.inl ⟨rfl,rfl⟩
 | t::T,h=>by
  obtain⟨h1,h2⟩:=aeb.1 h
  rcases afl t.1 k with hk|hk|hk
  ·have e1:jP (t::T) k=t::jP T k:=afg (by simpa using hk)
   have e2:xU (t::T) k=xU T k:=afh (by simp;omega)
   have e3:dS (t::T) k=dS T k:=by rw[dS,if_neg (by omega)]
   rw[e1,e2,e3]
   rcases ve (k:=k) h2 with⟨g1,g2⟩|⟨c,g1,g2⟩
   ·exact .inl ⟨g1,by rw[aes,<- g2]⟩
   ·exact .inr ⟨c,g1,by rw[aes,<- g2]⟩
  ·subst hk
   have e1:jP (t::T) t.1=[]:=OL fun u hu=>by
    rcases acI.1 hu with rfl|hu
    ·exact acB _
    ·have:=h1 u hu;omega
   have e2:xU (t::T) t.1=T:=by
    rw[show xU (t::T) t.1=xU T t.1 from afh (by simp),Vh h1]
   refine .inr ⟨t.2,by rw[dS,if_pos rfl],?_⟩
   rw[e1,e2];rfl
  ·have e1:jP (t::T) k=[]:=OL fun u hu=>by
    rcases acI.1 hu with rfl|hu
    ·omega
    ·have:=h1 u hu;omega
   have e2:xU (t::T) k=t::T:=Vh fun u hu=>by
    rcases acI.1 hu with rfl|hu
    ·exact hk
    ·have:=h1 u hu;omega
   refine .inl ⟨Sz fun u hu =>?_,by rw[e1,e2];rfl⟩
   rcases acI.1 hu with rfl|hu
   ·omega
   ·have:=h1 u hu;omega
def iI (T:List Tm) (k:Nat):List Tm:=jP T k++xU T k
def H5 (T:List Tm) (k:Nat) (a:Rat):List Tm:=jP T k++(k,a)::xU T k
def AY (T:List Tm) (k:Nat) (v:Rat):List Tm:=H5 T k ((dS T k).getD 0+v)
theorem ia {T:List Tm} {k:Nat} {t:Tm} : t∈iI T k↔t∈T∧t.1≠k:=by
 unfold iI
 rw[adL,Ij,Cx]
 constructor
 ·rintro (⟨h1,h2⟩|⟨h1,h2⟩)<;>exact⟨h1,by omega⟩
 ·rintro⟨h1,h2⟩
  rcases ado t.1 k with h|h
  ·exact .inl ⟨h1,h⟩
  ·exact .inr ⟨h1,by omega⟩
theorem Ii {T:List Tm} {k:Nat} {a:Rat} {t:Tm} : t∈H5 T k a↔t=(k,a)∨t∈iI T k:=by
 unfold H5 iI
 simp only[adL,acI]
 constructor
 ·rintro (h|h|h)<;>simp[h]
 ·rintro (h|h|h)<;>simp[h]
theorem Dr {T:List Tm} (h:gR T) (k:Nat):gR (iI T k):=by
 unfold iI
 rw[gR,aec]
 refine⟨h.filter _,h.filter _,fun a ha b hb =>?_⟩
 have:=(Ij.1 ha).2
 have:=(Cx.1 hb).2
 omega
theorem V9 {T:List Tm} (h:gR T) (k:Nat) (a:Rat):gR (H5 T k a):=by
 unfold H5
 rw[gR,aec,aeb]
 refine⟨h.filter _,⟨fun b hb=>(Cx.1 hb).2,h.filter _⟩,fun x hx b hb =>?_⟩
 have h1:=(Ij.1 hx).2
 rcases acI.1 hb with rfl|hb
 ·exact h1
 ·have:=(Cx.1 hb).2;omega
theorem uT {T:List Tm} (h:gR T) (k:Nat) (x:Nat->Rat):cI T x=cI (iI T k) x+(dS T k).getD 0*x k:=by
 rcases ve (k:=k) h with⟨g1,g2⟩|⟨c,g1,g2⟩
 ·rw[g1];unfold iI;rw[<- g2];simp only[Option.getD_none];grind
 ·have e:cI T x=cI (jP T k++(k,c)::xU T k) x:=by rw[<- g2]
  rw[e,g1]
  unfold iI
  rw[mI,mI]
  simp only[cI,Option.getD_some]
  grind
theorem XA {T:List Tm} (k:Nat) (a:Rat) (x:Nat->Rat):cI (H5 T k a) x=cI (iI T k) x+a*x k:=by
 unfold H5 iI
 rw[mI,mI]
 simp only[cI]
 grind
theorem Xy {T:List Tm} (h:gR T) (k:Nat) (v:Rat) (x:Nat->Rat):cI (AY T k v) x=cI T x+v*x k:=by
 unfold AY
 rw[XA,uT h k x]
 grind
theorem mB {T:List Tm} {k:Nat} {c:Rat} (h:dS T k=some c):(k,c)∈T:=by
 induction T with
 | nil=>cases h
 | cons t T ih =>
  rw[dS]at h
  split at h
  ·rename_i hk
   cases h
   rw[<- hk]
   exact ad3 ..
  ·exact ad4 _ (ih h)
theorem F1 {x y:Nat->Rat} : ∀ {T:List Tm},(∀t∈T,x t.1=y t.1)->cI T x=cI T y
 | [],_=>rfl
 | t::T,h=>by rw[cI,cI,h t (ad3 ..),F1 fun u hu=>h u (ad4 _ hu)]
theorem rH {x:Nat->Rat} : ∀ {T:List Tm},(∀t∈T,0<=t.2)->(∀t∈T,0<=x t.1)->0<=cI T x
 | [],_,_=>by simp only[cI];grind
 | t::T,h,hx=>by
  have h1:=afk (h t (ad3 ..)) (hx t (ad3 ..))
  have h2:=rH (T:=T) (fun u hu=>h u (ad4 _ hu)) fun u hu=>hx u (ad4 _ hu)
  simp only[cI];grind
theorem Xz (T:List Tm) (c:Rat) (x:Nat->Rat):cI (T.map fun t=>(t.1,t.2 / c)) x=cI T x / c:=by
 induction T with
 | nil=>simp only[adr,cI];grind
 | cons t T ih=>simp only[acH,cI];rw[ih];grind
structure Qg (N K:Nat) (T:List Tm):Prop where
 sorted:gR T
 lt:∀t∈T,t.1<N
 sz:∀t∈T,LF t.2<=K
theorem Qg.len {N K:Nat} {T:List Tm} (h:Qg N K T):T.length<=N:=by
 have h1:=xy N (T.map (·.1)) (by
  rw[List.Nodup,List.pairwise_map]
  exact h.sorted.imp fun h=>by omega) (fun x hx=>by
  obtain⟨t,ht,rfl⟩:=acA.1 hx
  exact h.lt t ht)
 simpa using h1
theorem Qg.rem {N K:Nat} {T:List Tm} (h:Qg N K T) (k:Nat):Qg N K (iI T k):=⟨Dr h.sorted k,fun t ht=>h.lt t (ia.1 ht).1,fun t ht=>h.sz t (ia.1 ht).1⟩
theorem Qg.mono {N K K':Nat} {T:List Tm} (h:Qg N K T) (hk:K<=K'):Qg N K' T:=⟨h.sorted,h.lt,fun t ht=>acD (h.sz t ht) hk⟩
theorem aaH (x:Int):wK .u64 x 1=some (x / 2):=by
 unfold wK
 rw[if_neg (by decide)]
 have e:(2:Int) ^ (min (Int.toNat 1) IntKind.u64.bits)=2:=by decide
 rw[e,aeL _ (by decide)]
theorem YG {k:Nat} : ∀ {T:List Tm},gR T->∀(i:Nat) t,T[i]? = some t->(t.1<k↔i<(jP T k).length)
 | [],_,i,t,h=>by simp at h
 | a::T,hs,i,t,h=>by
  obtain⟨h1,h2⟩:=aeb.1 hs
  by_cases ha:a.1<k
  ·have e1:jP (a::T) k=a::jP T k:=afg (by simpa using ha)
   rw[e1,ac1]
   cases i with
   | zero=>simp only[List.getElem?_cons_zero,acK]at h;subst h;simp[ha]
   | succ i =>
    have:=YG (k:=k) h2 i t (by simpa using h)
    omega
  ·have e1:jP (a::T) k=[]:=OL fun u hu=>by
    rcases acI.1 hu with rfl|hu
    ·omega
    ·have:=h1 u hu;omega
   rw[e1]
   have:¬t.1<k:=by
    rcases acI.1 (ac3 h) with rfl|hu
    ·exact ha
    ·have:=h1 t hu;omega
   simp[this]
theorem B3 (t:Tm) (k:Nat):ck (iS t) (k:Int)=some (mZ (t.1:Int) (k:Int)):=by
 unfold ck
 rw[Br];rfl
theorem JN {a b:Int} : mZ a b<0↔a<b:=by unfold mZ;split<;>(try split)<;>simp at *<;>omega
theorem EZ {a b:Int} : mZ a b=0↔a=b:=by unfold mZ;split<;>(try split)<;>simp at *<;>omega
theorem N4 {T:List Tm} (hs:gR T) (hl:T.length<=2000) (k:Nat) :
  aQ (T.map iS) (k:Int)=some (((jP T k).length:Int),(dS T k).isSome):=by
 have hlo:(jP T k).length<=T.length:=afe ..
 have key:=fun hst=>oD (body:=bz (T.map iS) (k:Int)) (I:=fun (s:Int×Int)=>∃lo hi:Nat,s=((lo:Int),(hi:Int))∧lo<=(jP T k).length∧(jP T k).length<=hi∧hi<=T.length) (μ:=fun (s:Int×Int)=>(s.2-s.1).toNat)
  (fun r=>r=((jP T k).length:Int)) (s:=(0,((T.map iS).length:Int))) ⟨0,T.length,by simp,by omega,hlo,acB _⟩ (by simp only[ac5];unfold FU;omega) hst
 obtain⟨r,h1,rfl⟩:=key (by
  rintro _ ⟨lo,hi,rfl,h1,h2,h3⟩
  simp only[bz]
  by_cases hc:lo<hi
  ·have hm:(lo+hi) / 2<T.length:=by omega
   have hg:(T.map iS)[(lo+hi) / 2]? = some (iS T[(lo+hi) / 2]):=by rw[acy,acO hm];rfl
   have hlt:=YG (k:=k) hs ((lo+hi) / 2) _ (acO hm)
   have e1:IntKind.i64.wrap ((lo:Int)+hi)=(lo:Int)+hi:=wrap64 (by omega) (by omega)
   have e2:IntKind.u64.wrap ((lo:Int)+hi)=(lo:Int)+hi:=wu (by omega)
   have e3:IntKind.i64.wrap (((lo:Int)+hi) / 2)=(((lo+hi) / 2:Nat):Int):=by rw[wrap64 (by omega) (by omega)];omega
   rw[if_pos (by simpa using hc),e1,e2,aaH,ad7,e3,ch hg,ad7,B3,ad7]
   refine .inl ?_
   by_cases hk:T[(lo+hi) / 2].1<k
   ·rw[if_pos (by simp only[decide_eq_true_eq];exact JN.2 (by omega)),cY (by omega)]
    refine⟨_,rfl,⟨(lo+hi) / 2+1,hi,rfl,by have:=hlt.1 hk;omega,h2,h3⟩,?_⟩
    simp only;omega
   ·rw[if_neg (by simp only[decide_eq_true_eq];intro h;exact hk (by have:=JN.1 h;omega))]
    refine⟨_,rfl,⟨lo,(lo+hi) / 2,rfl,h1,by have:¬(lo+hi) / 2<(jP T k).length:=fun h=>hk (hlt.2 h);omega,by omega⟩,?_⟩
    simp only;omega
  ·rw[if_neg (by simpa using hc)]
   exact .inr ⟨_,rfl,by omega⟩)
 unfold aQ
 rw[h1,ad7]
 rcases ve (k:=k) hs with⟨g1,g2⟩|⟨c,g1,g2⟩
 ·rw[g1]
  by_cases hlt:(jP T k).length<T.length
  ·have hg:(T.map iS)[(jP T k).length]? = some (iS T[(jP T k).length]):=by rw[acy,acO hlt];rfl
   rw[if_pos (by simpa using hlt),ch hg,ad7,B3,ad7]
   have hne:T[(jP T k).length].1≠k:=by
    have hm:T[(jP T k).length]∈jP T k++xU T k:=by rw[<- g2];exact acN hlt
    rcases adL.1 hm with h|h
    ·have:=(Ij.1 h).2;omega
    ·have:=(Cx.1 h).2;omega
   have:mZ (T[(jP T k).length].1:Int) (k:Int)≠0:=fun h=>hne (by have:=EZ.1 h;omega)
   simp[this]
  ·rw[if_neg (by simpa using hlt)];rfl
 ·rw[g1]
  have hgT:T[(jP T k).length]? = some (k,c):=by
   have:(jP T k++(k,c)::xU T k)[(jP T k).length]? = some (k,c):=by simp
   rwa [<- g2]at this
  have hlt:=cT hgT
  have hg:(T.map iS)[(jP T k).length]? = some (iS (k,c)):=by rw[acy,hgT];rfl
  rw[if_pos (by simpa using hlt),ch hg,ad7,B3,ad7]
  have:mZ ((k,c).1:Int) (k:Int)=0:=EZ.2 rfl
  rw[this];rfl
theorem find_eq {e:QE} (hs:gR e.T) (hl:e.T.length<=2000) (k:Nat):cm (mkEq e) (k:Int)=some (mkEq e,((jP e.T k).length:Int),(dS e.T k).isSome):=by
 unfold cm mkEq
 rw[N4 hs hl,ad7]
theorem C1 {a x y:Rat} (h:LF a+(LF x+LF y)+1<=dB):eW (b6 a) (b6 x) (b6 y)=some (b6 (a+x*y)):=by
 unfold eW
 have:=yg x y
 rw[X8 (by omega),ad7]
 simp only
 rw[P6 (by omega),ad7]
theorem aaj:gK 0=some (b6 0):=X6 (n:=0) (by decide)
theorem NN:LF 1<=1:=NJ (n:=1) (by decide)
theorem NM:LF 0<=1:=NJ (n:=0) (by decide)
def Z8 (e:QE) (k:Nat) (v:Rat):QE:=⟨e.D,AY e.T k v⟩
theorem Z9 {N K:Nat} {e:QE} (he:Qg N K e.T) (hN:N<=2000) {k:Nat} {v:Rat} (h:K+LF v+10<=dB):dD (mkEq e) (k:Int) (b6 v)=some (mkEq (Z8 e k v),()):=by
 have hl:=he.len
 unfold dD
 rw[find_eq he.sorted (by omega),ad7]
 simp only
 have hLF1:=NN
 rcases ve (k:=k) he.sorted with⟨g1,g2⟩|⟨c,g1,g2⟩
 ·rw[g1]
  simp only[Option.isSome_none,adb,if_false]
  have hll:(jP e.T k).length<=e.T.length:=afe ..
  have hins:Vl 72 (mkEq e).bk ((jP e.T k).length:Int) [dz.mk (k:Int) (b6 v)]=some ((AY e.T k v).map iS):=by
   unfold Vl mkEq
   simp only[ac5,List.length_cons,List.length_nil,Int.toNat_natCast]
   rw[if_pos ⟨by omega,by omega,by omega,by omega⟩]
   congr 1
   have e1:e.T.map iS=(jP e.T k).map iS++(xU e.T k).map iS:=by rw[<- ad0,<- g2]
   unfold AY H5
   rw[g1,e1,List.take_left' (by simp),List.drop_left' (by simp),ad0,acH]
   simp only[Option.getD_none,List.cons_append,List.nil_append]
   congr 2
   unfold iS
   simp only
   congr 1
   rw[Rat.zero_add]
  rw[hins];rfl
 ·rw[g1]
  simp only[Option.isSome_some,if_true]
  have hgT:e.T[(jP e.T k).length]? = some (k,c):=by
   have:(jP e.T k++(k,c)::xU e.T k)[(jP e.T k).length]? = some (k,c):=by simp
   rwa [<- g2]at this
  have hg:(e.T.map iS)[(jP e.T k).length]? = some (iS (k,c)):=by rw[acy,hgT];rfl
  have hck:LF c<=K:=he.sz (k,c) (mB g1)
  have e0:(mkEq e).bk=e.T.map iS:=rfl
  rw[e0,ch hg,ad7,Zq,ad7]
  simp only[iS]
  rw[C1 (by omega),ad7,adC]
  unfold Z8 AY H5 mkEq
  rw[g1]
  simp only[Option.getD_some]
  have e1:e.T.map iS=(jP e.T k).map iS++iS (k,c)::(xU e.T k).map iS:=by rw[<- acH,<- ad0,<- g2]
  have e2:((e.T.map fun t=>dz.mk (t.1:Int) (b6 t.2)).set (jP e.T k).length (dz.mk (k:Int) (b6 (c+v*1))))=(jP e.T k++(k,c+v)::xU e.T k).map iS:=by
   show (e.T.map iS).set (jP e.T k).length _=_
   rw[e1,List.set_append_right _ _ (by simp),ac5,adH,List.set_cons_zero,ad0,acH]
   unfold iS
   simp only
   congr 4
   grind
  rw[<- e2];rfl
def gM (e:QE) (p:Nat):QE:=match dS e.T p with|none=>e|some c=>⟨e.D / (1-c),(iI e.T p).map fun t=>(t.1,t.2 / (1-c))⟩
theorem UG {T:List Tm} {k:Nat} {c:Rat} (hl:T.length<=2000) (g:T=jP T k++(k,c)::xU T k):UF (T.map iS) ((jP T k).length:Int) (IntKind.i64.wrap (((jP T k).length:Int)+1))=some ((iI T k).map iS):=by
 have hlen:T.length=(jP T k).length+1+(xU T k).length:=by
  have:=congrArg List.length g
  simp only[adF,List.length_cons]at this
  omega
 rw[cY (by omega)]
 unfold UF
 have:(2000:Nat)<=maxLen:=by decide
 rw[if_pos ⟨by omega,by omega,by simp;omega,by simp;omega⟩,adC,adC]
 have e1:T.map iS=(jP T k).map iS++iS (k,c)::(xU T k).map iS:=by rw[<- acH,<- ad0,<- g]
 rw[e1,List.take_left' (by simp)]
 have e2:((jP T k).map iS++iS (k,c)::(xU T k).map iS).drop ((jP T k).length+1)=(xU T k).map iS:=by
  rw[aek,ael (by simp)]
  simp
 rw[e2]
 unfold iI
 rw[ad0]
theorem Yk {a b:Rat} (h:LF a+LF b<=dB) (h0:b≠0):ld (b6 a) (b6 b)=some (b6 (a / b),0):=Z2 h h0
theorem XB {N K:Nat} {e:QE} (he:Qg N K e.T) (hD:LF e.D<=K) (hN:N<=2000) (hK:2*K+10<=dB) {p:Nat} (hc:∀c,dS e.T p=some c->1-c≠0):cX (mkEq e) (p:Int)=some (mkEq (gM e p),()):=by
 have hl:=he.len
 unfold cX
 rw[find_eq he.sorted (by omega),ad7]
 simp only
 have hLF1:=NN
 unfold gM
 rcases ve (k:=p) he.sorted with⟨g1,g2⟩|⟨c,g1,g2⟩
 ·rw[g1];rfl
 ·rw[g1]
  simp only[Option.isSome_some,adY,adb,if_false]
  have hgT:e.T[(jP e.T p).length]? = some (p,c):=by
   have:(jP e.T p++(p,c)::xU e.T p)[(jP e.T p).length]? = some (p,c):=by simp
   rwa [<- g2]at this
  have hg:(e.T.map iS)[(jP e.T p).length]? = some (iS (p,c)):=by rw[acy,hgT];rfl
  have hck:LF c<=K:=he.sz (p,c) (mB g1)
  have h0:=hc c g1
  have e0:(mkEq e).bk=e.T.map iS:=rfl
  have e3:(mkEq e).aP=b6 e.D:=rfl
  rw[Zq,ad7,e0,ch hg,ad7]
  simp only[iS]
  have hs1:=NO 1 c
  rw[Yf (by omega),ad7]
  have hd:fm (e.T.map iS) ((jP e.T p).length:Int) (IntKind.i64.wrap (((jP e.T p).length:Int)+1))=some ((iI e.T p).map iS):=by unfold fm;exact UG (by omega) g2
  rw[hd,ad7,e3]
  simp only
  rw[Yk (by omega) h0,ad7]
  have hrl:=(he.rem p).len
  have key:=fun hs hend=>Af (body:=dK (b6 (1-c),0) ((iI e.T p).map iS)) (iI e.T p) (by omega) (fun i (l:List dz)=>l.length=(iI e.T p).length∧∀(j:Nat) t,(iI e.T p)[j]? = some t->l[j]? = some (if j<i then iS (t.1,t.2 / (1-c)) else iS t)) (fun l=>l=((iI e.T p).map fun t=>(t.1,t.2 / (1-c))).map iS) (s0:=(iI e.T p).map iS)
   ⟨by simp,fun j t ht=>by rw[acy,ht,if_neg (by omega)];rfl⟩ hs hend
  obtain⟨r,h1,rfl⟩:=key (by
   rintro i t l ht ⟨hl1,hI⟩
   have hi:=cT ht
   have hgl:=hI i t ht
   rw[if_neg (by omega)]at hgl
   have hst:=he.sz t (ia.1 (ac3 ht)).1
   refine⟨l.set i (iS (t.1,t.2 / (1-c))),?_,by simpa using hl1,fun j u hu =>?_⟩
   ·simp only[dK]
    rw[if_pos (by simp;omega),ch hgl,ad7]
    simp only[iS]
    rw[Yk (by omega) h0,ad7,cY (by omega),adC]
   ·rw[List.getElem?_set]
    by_cases hij:i=j
    ·subst hij
     rw[hu]at ht
     cases ht
     rw[if_pos rfl,if_pos (by omega),if_pos (by omega)]
    ·rw[if_neg hij,hI j u hu]
     by_cases hj:j<i
     ·rw[if_pos hj,if_pos (by omega)]
     ·rw[if_neg hj,if_neg (by omega)]) (by
   rintro l ⟨hl1,hI⟩
   refine⟨l,?_,?_⟩
   ·simp only[dK];rw[if_neg (by simp)]
   ·apply aeD
    intro j
    rw[acy,acy]
    cases hj:(iI e.T p)[j]? with
    | none =>
     have:(iI e.T p).length<=j:=by simpa using hj
     rw[ad9 (by omega)];rfl
    | some t=>rw[hI j t hj,if_pos (cT hj)];rfl)
  rw[h1,ad7]
  rfl
def iL (c:Rat):List Tm->List Tm->List Tm
 | [],T=>T
 | b::B,T=>iL c B (AY T b.1 (c*b.2))
def yG (e:QE) (p:Nat) (b:QE):QE:=match dS e.T p with|none=>e|some c=>⟨e.D+c*b.D,iL c b.T (iI e.T p)⟩
theorem q9 (c:Rat):∀(A B T:List Tm),iL c (A++B) T=iL c B (iL c A T)
 | [],_,_=>rfl
 | a::A,B,T=>by rw[aes,iL,iL,q9 c A B]
theorem En {T:List Tm} (h:gR T) (k:Nat) (v:Rat):gR (AY T k v):=V9 h k _
theorem B5 (c:Rat):∀(B:List Tm) {T:List Tm},gR T->gR (iL c B T)
 | [],_,h=>h
 | b::B,_,h=>B5 c B (En h _ _)
theorem Lv (c:Rat) (x:Nat->Rat):∀(B:List Tm) {T:List Tm},gR T->cI (iL c B T) x=cI T x+c*cI B x
 | [],T,_=>by simp only[iL,cI];grind
 | b::B,T,h=>by
  rw[iL,Lv c x B (En h _ _),Xy h,cI]
  grind
theorem wx (c:Rat) {R:Nat->Prop} : ∀(B:List Tm) {T:List Tm},(∀t∈T,R t.1)->(∀b∈B,R b.1)->∀t∈iL c B T,R t.1
 | [],_,h,_=>h
 | b::B,T,h,hB=>wx c B (T:=AY T b.1 (c*b.2)) (fun t ht=>by
   rcases Ii.1 ht with rfl|ht
   ·exact hB b (ad3 ..)
   ·exact h t (ia.1 ht).1) fun u hu=>hB u (ad4 _ hu)
theorem Ky {c:Rat} (hc:0<=c):∀(B:List Tm) {T:List Tm},(∀t∈T,0<=t.2)->(∀b∈B,0<=b.2)->∀t∈iL c B T,0<=t.2
 | [],_,h,_=>h
 | b::B,T,h,hB=>Ky hc B (T:=AY T b.1 (c*b.2)) (fun t ht=>by
   rcases Ii.1 ht with rfl|ht
   ·have h1:=afk hc (hB b (ad3 ..))
    simp only
    cases hcf:dS T b.1 with
    | none=>simp only[Option.getD_none];grind
    | some a=>have:=h _ (mB hcf);simp only[Option.getD_some]at *;grind
   ·exact h t (ia.1 ht).1) fun u hu=>hB u (ad4 _ hu)
theorem Rb {K1 K2:Nat} {c:Rat} (hc:LF c<=K1):∀(A B:List Tm) {T:List Tm},gR (A++B)->(∀b∈A++B,LF b.2<=K2)->(∀t∈T,LF t.2<=K1)->∀t∈iL c A T,LF t.2<=2*K1+K2+1∧((∀a∈A,a.1≠t.1)->LF t.2<=K1)
 | [],_,_,_,_,h,t,ht=>⟨by have:=h t ht;omega,fun _=>h t ht⟩
 | a::A,B,T,hs,hz,h,t,ht=>by
  obtain⟨A',z,hA⟩:∃A' z,a::A=A'++[z]:=⟨(a::A).dropLast,(a::A).getLast (by simp),(List.dropLast_concat_getLast (by simp)).symm⟩
  have hlen:A'.length<(a::A).length:=by rw[hA];simp
  rw[hA,q9]at ht
  simp only[iL]at ht
  rw[hA,adR]at hs hz
  have ih:=Rb hc A' ([z]++B) (T:=T) hs hz h
  have hzK:=hz z (acQ _ (acP _ (ad3 ..)))
  rw[hA]
  rcases Ii.1 ht with rfl|ht
  ·refine⟨?_,fun hn=>absurd rfl (hn z (acQ _ (ad3 ..)))⟩
   simp only
   have hm:=yg c z.2
   cases hcf:dS (iL c A' T) z.1 with
   | none=>rw[afm,Rat.zero_add];omega
   | some y =>
    have h1:=(ih _ (mB hcf)).2 fun u hu=>by
     have:=(aec.1 hs).2.2 u hu z (acP _ (ad3 ..))
     simp only;omega
    have:=AM y (c*z.2)
    rw[ads]
    simp only at h1
    omega
  ·obtain⟨h1,h2⟩:=ih t (ia.1 ht).1
   exact⟨h1,fun hn=>h2 fun u hu=>hn u (acP _ hu)⟩
 termination_by A=>A.length
structure Qf (N K:Nat) (e:QE):Prop where
 t:Qg N K e.T
 d:LF e.D<=K
theorem Qf.mono {N K K':Nat} {e:QE} (h:Qf N K e) (hk:K<=K'):Qf N K' e:=⟨h.t.mono hk,acD h.d hk⟩
theorem SP (c:Rat) {B:List Tm} {i:Nat} {b:Tm} (h:B[i]? = some b) (T:List Tm):iL c (B.take (i+1)) T=AY (iL c (B.take i) T) b.1 (c*b.2):=by
 obtain⟨hi,he⟩:=ac4.1 h
 rw[afc hi,q9,he];rfl
theorem Kx {N K1 K2:Nat} {c:Rat} (hc:LF c<=K1) {B T:List Tm} (hB:Qg N K2 B) (hT:Qg N K1 T) (i:Nat):Qg N (2*K1+K2+1) (iL c (B.take i) T) where
 sorted:=B5 c _ hT.sorted
 lt:=wx c (R:=fun p=>p<N) _ hT.lt fun b hb=>hB.lt b (adn hb)
 sz t ht:=(Rb (K1:=K1) (K2:=K2) hc (B.take i) (B.drop i) (by rw[aeo];exact hB.sorted) (by rw[aeo];exact hB.sz) hT.sz t ht).1
theorem XO {N K1 K2:Nat} {e b:QE} (he:Qf N K1 e) (hb:Qf N K2 b) (p:Nat):Qf N (2*K1+K2+1) (yG e p b):=by
 unfold yG
 cases hcf:dS e.T p with
 | none=>exact he.mono (by omega)
 | some c =>
  have hc:LF c<=K1:=he.t.sz _ (mB hcf)
  have h1:=Kx hc hb.t (he.t.rem p) b.T.length
  rw[aeC]at h1
  refine⟨h1,?_⟩
  have h2:=AM e.D (c*b.D)
  have h3:=yg c b.D
  have:=he.d
  have:=hb.d
  simp only
  omega
theorem F4 {N K:Nat} {e:QE} (he:Qf N K e) (p:Nat) (h0:∀c,dS e.T p=some c->1-c≠0):Qf N (2*K+2) (gM e p):=by
 unfold gM
 cases hcf:dS e.T p with
 | none=>exact he.mono (by omega)
 | some c =>
  have hc:LF c<=K:=he.t.sz _ (mB hcf)
  have h1:=NO 1 c
  have h2:=NN
  have h3:=h0 c hcf
  refine⟨⟨?_,?_,?_⟩,?_⟩
  ·simp only
   rw[gR,List.pairwise_map]
   exact (Dr he.t.sorted p)
  ·intro t ht
   simp only[acA]at ht
   obtain⟨u,hu,rfl⟩:=ht
   exact he.t.lt u (ia.1 hu).1
  ·intro t ht
   simp only[acA]at ht
   obtain⟨u,hu,rfl⟩:=ht
   have:=he.t.sz u (ia.1 hu).1
   have:=TT (a:=u.2) h3
   simp only
   omega
  ·have:=he.d
   have:=TT (a:=e.D) h3
   simp only
   omega
theorem aaB {N K1 K2:Nat} {e b:QE} (he:Qf N K1 e) (hb:Qf N K2 b) (hN:N<=2000) (hK:4*K1+3*K2+20<=dB) (p:Nat):dE (mkEq e) (p:Int) (mkEq b)=some (mkEq (yG e p b),()):=by
 have hl:=he.t.len
 unfold dE
 rw[find_eq he.t.sorted (by omega),ad7]
 simp only
 unfold yG
 rcases ve (k:=p) he.t.sorted with⟨g1,g2⟩|⟨c,g1,g2⟩
 ·rw[g1];rfl
 ·rw[g1]
  simp only[Option.isSome_some,adY,adb,if_false]
  have hgT:e.T[(jP e.T p).length]? = some (p,c):=by
   have:(jP e.T p++(p,c)::xU e.T p)[(jP e.T p).length]? = some (p,c):=by simp
   rwa [<- g2]at this
  have hg:(e.T.map iS)[(jP e.T p).length]? = some (iS (p,c)):=by rw[acy,hgT];rfl
  have hck:LF c<=K1:=he.t.sz (p,c) (mB g1)
  have hDe:=he.d
  have hDb:=hb.d
  have hbl:=hb.t.len
  have e0:(mkEq e).bk=e.T.map iS:=rfl
  have e1:(mkEq b).bk=b.T.map iS:=rfl
  have e2:(mkEq b).aP=b6 b.D:=rfl
  have e3:(mkEq e).aP=b6 e.D:=rfl
  have hd:fm (e.T.map iS) ((jP e.T p).length:Int) (IntKind.i64.wrap (((jP e.T p).length:Int)+1))=some ((iI e.T p).map iS):=by unfold fm;exact UG (by omega) g2
  rw[e0,ch hg,ad7,hd,ad7,e3,e2]
  have e4:(iS (p,c)).dC=b6 c:=rfl
  rw[e4,C1 (by omega),ad7]
  have key:=fun hs hend=>Af (body:=ej (mkEq b) (iS (p,c))) b.T (by omega) (fun i (s:Int×List Int×Int×List Int×List dz)=>s=((b6 (e.D+c*b.D)).aH.ag,(b6 (e.D+c*b.D)).aH.aa,(b6 (e.D+c*b.D)).aJ.ag,(b6 (e.D+c*b.D)).aJ.aa,(iL c (b.T.take i) (iI e.T p)).map iS))
   (fun s=>s=((b6 (e.D+c*b.D)).aH.ag,(b6 (e.D+c*b.D)).aH.aa,(b6 (e.D+c*b.D)).aJ.ag,(b6 (e.D+c*b.D)).aJ.aa,(iL c b.T (iI e.T p)).map iS)) (s0:=((b6 (e.D+c*b.D)).aH.ag,(b6 (e.D+c*b.D)).aH.aa,(b6 (e.D+c*b.D)).aJ.ag,(b6 (e.D+c*b.D)).aJ.aa,(iI e.T p).map iS)) rfl hs hend
  obtain⟨r,h1,rfl⟩:=key (by
   rintro i t _ ht rfl
   have hi:=cT ht
   have htm:=ac3 ht
   have htz:=hb.t.sz t htm
   have hsz:=Kx hck hb.t (he.t.rem p) i
   have hm:=yg c t.2
   have hg2:(b.T.map iS)[i]? = some (iS t):=by rw[acy,ht];rfl
   have hn:=NM
   refine⟨_,?_,rfl⟩
   simp only[ej]
   rw[if_pos (by rw[e1];simp;omega),e1,ch hg2,ad7,aaj,ad7]
   have e5:(iS t).dC=b6 t.2:=rfl
   have e6:(iS t).ke=(t.1:Int):=rfl
   rw[e4,e5,C1 (by omega),ad7,Rat.zero_add,e6]
   have e7:aq.mk (ak.mk (al.mk (b6 (e.D+c*b.D)).aH.ag (b6 (e.D+c*b.D)).aH.aa) (al.mk (b6 (e.D+c*b.D)).aJ.ag (b6 (e.D+c*b.D)).aJ.aa)) ((iL c (b.T.take i) (iI e.T p)).map iS)=mkEq ⟨e.D+c*b.D,iL c (b.T.take i) (iI e.T p)⟩:=rfl
   rw[e7,Z9 (e:=⟨e.D+c*b.D,iL c (b.T.take i) (iI e.T p)⟩) hsz hN (by omega),ad7,cY (by omega),SP c ht]
   rfl) (by
   rintro _ rfl
   refine⟨_,?_,rfl⟩
   simp only[ej]
   rw[if_neg (by rw[e1];simp),aeC])
  rw[h1,ad7]
  rfl
theorem QN {T:List Tm} {k:Nat} (h:dS T k=none):∀t∈T,t.1≠k:=by
 induction T with
 | nil=>intro t ht;cases ht
 | cons u T ih =>
  rw[dS]at h
  split at h
  ·cases h
  ·rename_i hne
   intro t ht
   rcases acI.1 ht with rfl|ht
   ·exact hne
   ·exact ih h t ht
theorem S1 {e:QE} (hs:gR e.T) {p:Nat} (h0:∀c,dS e.T p=some c->1-c≠0) (s:Rat) (x:Nat->Rat):(1-(dS e.T p).getD 0)*(s*(gM e p).D+cI (gM e p).T x)=s*e.D+cI e.T x-(dS e.T p).getD 0*x p:=by
 unfold gM
 have h1:=uT hs p x
 cases hcf:dS e.T p with
 | none=>simp only[Option.getD_none];grind
 | some c =>
  have hc:=h0 c hcf
  rw[hcf]at h1
  simp only[Option.getD_some]at h1 ⊢
  rw[Xz]
  have h2:(1-c)*(e.D / (1-c))=e.D:=by rw[Rat.mul_comm];exact Rat.div_mul_cancel hc
  have h3:(1-c)*(cI (iI e.T p) x / (1-c))=cI (iI e.T p) x:=by rw[Rat.mul_comm];exact Rat.div_mul_cancel hc
  have h4:(1-c)*(s*(e.D / (1-c))+cI (iI e.T p) x / (1-c))=s*((1-c)*(e.D / (1-c)))+(1-c)*(cI (iI e.T p) x / (1-c)):=by grind
  rw[h4,h2,h3]
  grind
theorem XP {e b:QE} (hs:gR e.T) (p:Nat) (s:Rat) (x:Nat->Rat):s*(yG e p b).D+cI (yG e p b).T x=s*e.D+cI e.T x+(dS e.T p).getD 0*(s*b.D+cI b.T x-x p):=by
 unfold yG
 have h1:=uT hs p x
 cases hcf:dS e.T p with
 | none=>simp only[Option.getD_none];grind
 | some c =>
  rw[hcf]at h1
  simp only[Option.getD_some]at h1 ⊢
  rw[Lv c x _ (Dr hs p)]
  grind
def ff (E0:Nat->QE):Nat->Nat->QE
 | 0,k=>E0 k
 | p+1,k=>if k<p then ff E0 p k else if k=p then gM (ff E0 p p) p else yG (ff E0 p k) p (gM (ff E0 p p) p)
def II (K0:Nat):Nat->Nat
 | 0=>K0
 | p+1=>4*II K0 p+3
theorem Py (K0:Nat):∀p,II K0 p+1=4 ^ p*(K0+1)
 | 0=>by simp[II]
 | p+1=>by
  have ih:=Py K0 p
  simp only[II,Nat.pow_succ]
  rw[adA (4 ^ p) 4,Nat.mul_assoc,<- ih]
  omega
def ZT (x:Nat->Rat) (p:Nat) (v:Rat):Nat->Rat:=fun j=>if j=p then v else x j
theorem A3 (E:Nat->QE) (s:Rat):∀(p:Nat),(∀k,k<p->∀t∈(E k).T,k<t.1)->∀z:Nat->Rat,∃x:Nat->Rat,(∀j,p<=j->x j=z j)∧(∀k,k<p->x k=s*(E k).D+cI (E k).T x)∧(s=0->(∀j,0<=z j)->(∀k,k<p->∀t∈(E k).T,0<=t.2)->∀j,0<=x j)
 | 0,_,z=>⟨z,fun _ _=>rfl,fun k hk=>by omega,fun _ h _=>h⟩
 | p+1,hp,z=>by
  obtain⟨x,h1,h2,h3⟩:=A3 E s p (fun k hk=>hp k (by omega)) (ZT z p (s*(E p).D+cI (E p).T z))
  refine⟨x,fun j hj =>?_,fun k hk =>?_,fun hs hz hpos =>?_⟩
  ·rw[h1 j (by omega)];exact if_neg (by omega)
  ·by_cases hkp:k=p
   ·subst hkp
    rw[h1 k (acB _),show ZT z k (s*(E k).D+cI (E k).T z) k=s*(E k).D+cI (E k).T z from if_pos rfl]
    congr 1
    refine F1 fun t ht =>?_
    have:=hp k (by omega) t ht
    rw[h1 t.1 (by omega)]
    exact (if_neg (by omega)).symm
   ·exact h2 k (by omega)
  ·refine h3 hs (fun j =>?_) fun k hk=>hpos k (by omega)
   unfold ZT
   split
   ·have:=rH (x:=z) (hpos p (by omega)) fun t _=>hz t.1
    subst hs
    grind
   ·exact hz j
theorem Y9 {a b:Rat} (ha:0<=a) (hb:0<b):0<=a / b:=by
 have h1:a / b*b=a:=Rat.div_mul_cancel (by grind)
 by_cases h:0<=a / b
 ·exact h
 ·exfalso
  have h2:0 <= -(a / b)*b:=afk (by grind) (by grind)
  have h3:a / b*b=0:=by grind
  rcases Rat.mul_eq_zero.1 h3 with h4|h4<;>grind
variable {N:Nat} {tk:List Tk} {r:Nat->Int}
structure qw (N:Nat) (tk:List Tk) (d:Nat->Rat) (K0:Nat) (E:Nat->QE) (p:Nat):Prop where
 sz:∀k,k<N->p<=k->Qf N (II K0 p) (E k)
 szd:∀k,k<p->Qf N (2*II K0 k+2) (E k)
 up:∀k,k<p->∀t∈(E k).T,k<t.1
 ge:∀k,k<N->p<=k->∀t∈(E k).T,p<=t.1
 pos:∀k,k<N->∀t∈(E k).T,0<=t.2
 sem:∀(s:Rat) (x:Nat->Rat),(∀q,q<p->x q=s*(E q).D+cI (E q).T x)->(∀k,k<p->x k=s*d k+Ah tk x k)∧∀k,k<N->p<=k->s*(E k).D+cI (E k).T x=s*d k+Ah tk x k
theorem Gv (hR:jG N tk) (hr:pR N tk r) (h0:∀p,p<N->0<=r p) {d:Nat->Rat} {K0:Nat} {E:Nat->QE} {p:Nat} (hE:qw N tk d K0 E p) (hp:p<N):∀c,dS (E p).T p=some c->c<1:=by
 intro c hc
 by_cases hlt:c<1
 ·exact hlt
 exfalso
 obtain⟨x,h1,h2,h3⟩:=A3 E 0 p hE.up (fun j=>if j=p then 1 else 0)
 have hx:=h3 rfl (fun j=>by split<;>grind) fun k hk=>hE.pos k (by omega)
 obtain⟨g1,g2⟩:=hE.sem 0 x h2
 have hxp:x p=1:=by rw[h1 p (acB _),if_pos rfl]
 have hxq:∀j,p<j->x j=0:=fun j hj=>by rw[h1 j (by omega),if_neg (by omega)]
 have:=P5 hR hr h0 (y:=x) (fun q _=>hx q) (fun q hq=>by
  rcases afl q p with h|h|h
  ·have:=g1 q h;grind
  ·subst h
   have e1:=g2 q hq (acB _)
   have e2:=uT (hE.sz q hq (acB _)).t.sorted q x
   rw[hc,hxp]at e2
   have e3:0<=cI (iI (E q).T q) x:=rH (fun t ht=>hE.pos q hq t (ia.1 ht).1) fun t _=>hx t.1
   simp only[Option.getD_some]at e2
   grind
  ·have e1:=g2 q hq (by omega)
   have e3:0<=cI (E q).T x:=rH (hE.pos q hq) fun t _=>hx t.1
   have:=hxq q h
   grind) p hp
 grind
theorem SJ (hR:jG N tk) (hr:pR N tk r) (h0:∀p,p<N->0<=r p) {d:Nat->Rat} {K0:Nat} {E0:Nat->QE} {p:Nat} (hE:qw N tk d K0 (ff E0 p) p) (hp:p<N):qw N tk d K0 (ff E0 (p+1)) (p+1):=by
 have hpiv:=Gv hR hr h0 hE hp
 generalize hEp:ff E0 p=E at *
 have hv:∀k,ff E0 (p+1) k=if k<p then E k else if k=p then gM (E p) p else yG (E k) p (gM (E p) p):=fun k=>by rw[ff,hEp]
 have hv1:∀k,k<p->ff E0 (p+1) k=E k:=fun k hk=>by rw[hv,if_pos hk]
 have hv2:ff E0 (p+1) p=gM (E p) p:=by rw[hv,if_neg (by omega),if_pos rfl]
 have hv3:∀k,p<k->ff E0 (p+1) k=yG (E k) p (gM (E p) p):=fun k hk=>by rw[hv,if_neg (by omega),if_neg (by omega)]
 have hne:∀c,dS (E p).T p=some c->1-c≠0:=fun c hc=>by have:=hpiv c hc;grind
 have hszp:=hE.sz p hp (acB _)
 have hL:=F4 hszp p hne
 have hup:∀t∈(gM (E p) p).T,p<t.1:=by
  intro t ht
  unfold gM at ht
  cases hcf:dS (E p).T p with
  | none =>
   rw[hcf]at ht
   have h1:=hE.ge p hp (acB _) t ht
   have h2:=QN hcf t ht
   omega
  | some c =>
   rw[hcf]at ht
   simp only[acA]at ht
   obtain⟨u,hu,rfl⟩:=ht
   have h1:=hE.ge p hp (acB _) u (ia.1 hu).1
   have h2:=(ia.1 hu).2
   simp only
   omega
 have hlpos:∀t∈(gM (E p) p).T,0<=t.2:=by
  intro t ht
  unfold gM at ht
  cases hcf:dS (E p).T p with
  | none=>rw[hcf]at ht;exact hE.pos p hp t ht
  | some c =>
   rw[hcf]at ht
   simp only[acA]at ht
   obtain⟨u,hu,rfl⟩:=ht
   have h1:=hE.pos p hp u (ia.1 hu).1
   have h2:=hpiv c hcf
   simp only
   have h3:0<1-c:=by grind
   exact Y9 h1 h3
 constructor
 ·intro k hk hpk
  rw[hv3 k (by omega)]
  have:=XO (hE.sz k hk (by omega)) hL p
  exact this.mono (by simp only[II];omega)
 ·intro k hk
  by_cases hkp:k=p
  ·subst hkp;rw[hv2];exact hL
  ·rw[hv1 k (by omega)];exact hE.szd k (by omega)
 ·intro k hk
  by_cases hkp:k=p
  ·subst hkp;rw[hv2];exact hup
  ·rw[hv1 k (by omega)];exact hE.up k (by omega)
 ·intro k hk hpk
  rw[hv3 k (by omega)]
  unfold yG
  cases hcf:dS (E k).T p with
  | none =>
   intro t ht
   have h1:=hE.ge k hk (by omega) t ht
   have h2:=QN hcf t ht
   omega
  | some c =>
   refine wx c (R:=fun q=>p+1<=q) _ (fun t ht =>?_) hup
   have h1:=hE.ge k hk (by omega) t (ia.1 ht).1
   have h2:=(ia.1 ht).2
   omega
 ·intro k hk
  rcases afl k p with h|h|h
  ·rw[hv1 k h];exact hE.pos k hk
  ·subst h;rw[hv2];exact hlpos
  ·rw[hv3 k h]
   unfold yG
   cases hcf:dS (E k).T p with
   | none=>exact hE.pos k hk
   | some c=>exact Ky (hE.pos k hk _ (mB hcf)) _ (fun t ht=>hE.pos k hk t (ia.1 ht).1) hlpos
 ·intro s x hx
  have hxp:=hx p (by omega)
  rw[hv2]at hxp
  obtain⟨g1,g2⟩:=hE.sem s x fun q hq=>by have:=hx q (by omega);rwa [hv1 q hq]at this
  have hpe:x p=s*(E p).D+cI (E p).T x:=by
   have h1:=S1 hszp.t.sorted hne s x
   rw[<- hxp]at h1
   grind
  refine⟨fun k hk =>?_,fun k hk hpk =>?_⟩
  ·by_cases hkp:k=p
   ·subst hkp;rw[hpe,g2 k hp (acB _)]
   ·exact g1 k (by omega)
  ·rw[hv3 k (by omega),XP (hE.sz k hk (by omega)).t.sorted,<- hxp,g2 k hk (by omega)]
   grind
theorem Kh (hR:jG N tk) (hr:pR N tk r) (h0:∀p,p<N->0<=r p) {d:Nat->Rat} {K0:Nat} {E0:Nat->QE} (hE:qw N tk d K0 E0 0):∀p,p<=N->qw N tk d K0 (ff E0 p) p
 | 0,_=>hE
 | p+1,h=>SJ hR hr h0 (Kh hR hr h0 hE p (by omega)) (by omega)
end Go.Proofs.Ytchndpjlijbplaa.P
