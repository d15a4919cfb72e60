/- Part of a proof, made small by a program (wip/mini.py). -/
import Derived.Test.YtchndpjlijbplaaKe
namespace Go.Proofs.Ytchndpjlijbplaa.Am
open Go.RowKit Go.Proofs.Ytchndpjlijbplaa.P
set_option maxRecDepth 100000
set_option maxHeartbeats 4000000
set_option linter.unusedSimpArgs false
set_option linter.unusedVariables false
theorem DZ (p0:bW) (p1:(List al)) (p2:(List al)) (r:Bool) (hh:kP p0 p1 p2=some r):a8 .clean tab mr FU Try.f15 none [.agg [.int .i64 p0.aF,.sl false false p0.ax.length (ae a7 p0.ax)],.sl false false p1.length (ae av p1),.sl false false p2.length (ae av p2)]=some (.clean (.bool r),none):=by
 refine aC rfl Try.ntmps15 Try.results15 ?_
 unfold kP at hh
 obtain⟨r1,hr1,hh⟩:=ah hh
 try simp only[aS,seval,hr1]
 obtain⟨o2,ho2,hh⟩:=ah hh
 refine bJ 0 (fun s t H e=>match s with|s28j1=>∃v3j1:Nat,t 1=.sl false false p1.length (ae av p1)∧t 2=.sl false false p2.length (ae av p2)∧t 3=.ptr 3 v3j1 0∧t 28=.bool s28j1∧H 3=some ⟨v3j1,24,[.int .i64 p0.aF,.sl false false p0.ax.length (ae a7 p0.ax)],false,false,false⟩) (fun s=>s=o2) ?_ ?_
 ·rintro s28j1 t H e ⟨v3j1,Zj1⟩ rfl
  try dsimp only at hh
  try simp only[aS,seval,hr1,Zj1]
  refine sp aq hh (fun _ hh =>?_) (fun _ hh =>?_)
  ·cases hh
   try simp only[aS,seval,hr1,Zj1]
  ·obtain⟨r4,hr4,hh⟩:=ah hh
   try simp only[aS,seval,hr1,Zj1,hr4]
   obtain⟨o19,ho19,hh⟩:=ah hh
   refine aB (fun s t H e=>match s with|s33b=>t 2=.sl false false p2.length (ae av p2)∧t 31=.sl false false r4.length (ae cp r4)∧t 32=.int .i64 (r4.length:Int)∧t 33=.int .i64 s33b) (fun o x t H e=>match o with|(.inl _)=>x=.exit 0|(.inr r)=>x=.ret∧jv .clean tab none [.tmp 6] ⟨t,EH H,e⟩=some (.clean (.bool r),none)) ho19 ?_ ?_ ?_
   ·refine⟨?_,?_,?_,?_⟩
    all_goals first|rfl|(simp only[aS,seval,hr1,Zj1,hr4]<;>rfl)
   ·rintro s33b t H e Zb c hh
    simp only[tC]at hh
    try simp only[aS,seval,hr1,hr4,Zb]
    refine sp aq hh (fun _ hh =>?_) (fun _ hh =>?_)
    ·obtain⟨x21,hx21,hh⟩:=ah hh
     have ax21:=bG cp hx21
     simp only[bB]at ax21
     try simp only[aS,seval,hr1,hr4,Zb,ax21]
     obtain⟨o26,ho26,hh⟩:=ah hh
     refine aB (fun s t H e=>match s with|(s43d,r9_0d,r9_1d,r9_2d,r9_3d)=>∃v9d:Nat,t 2=.sl false false p2.length (ae av p2)∧t 7=.int .i64 s33b∧t 9=.ptr 9 v9d 0∧t 31=.sl false false r4.length (ae cp r4)∧t 32=.int .i64 (r4.length:Int)∧t 33=.int .i64 s33b∧t 41=.sl false false x21.bl.length (ae bn x21.bl)∧t 42=.int .i64 (x21.bl.length:Int)∧t 43=.int .i64 s43d∧H 9=some ⟨v9d,41,[.int .i64 r9_0d,.sl false false r9_1d.length (ae (eI .i64) r9_1d),.int .i64 r9_2d,.sl false false r9_3d.length (ae (eI .i64) r9_3d)],false,false,false⟩) (fun o x t H e=>match o with|(r9_0dx,r9_1dx,r9_2dx,r9_3dx)=>x=.exit 2∧∃v9dx:Nat,t 2=.sl false false p2.length (ae av p2)∧t 7=.int .i64 s33b∧t 9=.ptr 9 v9dx 0∧t 31=.sl false false r4.length (ae cp r4)∧t 32=.int .i64 (r4.length:Int)∧t 33=.int .i64 s33b∧H 9=some ⟨v9dx,41,[.int .i64 r9_0dx,.sl false false r9_1dx.length (ae (eI .i64) r9_1dx),.int .i64 r9_2dx,.sl false false r9_3dx.length (ae (eI .i64) r9_3dx)],false,false,false⟩) ho26 ?_ ?_ ?_
     ·refine⟨e+1+1,?_,?_,?_,?_,?_,?_,?_,?_,?_,?_⟩
      all_goals first|rfl|(simp only[aS,seval,hr1,hr4,Zb,ax21]<;>rfl)
     ·rintro⟨s43d,r9_0d,r9_1d,r9_2d,r9_3d⟩ t H e ⟨v9d,Zd⟩ c hh
      simp only[tD]at hh
      try simp only[aS,seval,hr1,hr4,ax21,Zd]
      refine sp aq hh (fun _ hh =>?_) (fun _ hh =>?_)
      ·obtain⟨x28,hx28,hh⟩:=ah hh
       have ax28:=bG bn hx28
       simp only[bB]at ax28
       obtain⟨x29,hx29,hh⟩:=ah hh
       have ax29:=bG av hx29
       simp only[bB]at ax29
       obtain⟨r30,hr30,hh⟩:=ah hh
       try simp only[aS,seval,hr1,hr4,ax21,Zd,ax28,ax29,hr30]
       refine bf (by kernel_rfl) ?_
       cases hh
       try simp only[aS,seval,hr1,hr4,ax21,Zd,ax28,ax29,hr30]
       refine jN ?_
       refine⟨v9d,?_,?_,?_,?_,?_,?_,?_,?_,?_,?_⟩
       all_goals first|rfl|(simp only[aS,seval,hr1,hr4,ax21,Zd,ax28,ax29,hr30]<;>rfl)
      ·cases hh
       try simp only[aS,seval,hr1,hr4,ax21,Zd]
       refine kW ?_
       refine⟨rfl,⟨v9d,?_,?_,?_,?_,?_,?_,?_⟩⟩
       all_goals first|rfl|(simp only[aS,seval,hr1,hr4,ax21,Zd]<;>rfl)
     ·rintro x t H e hx
      rcases o26 with⟨r9_0dx,r9_1dx,r9_2dx,r9_3dx⟩
      dsimp only at hx hh
      obtain⟨rfl,⟨v9dx,Zdx⟩⟩:=hx
      obtain⟨x31,hx31,hh⟩:=ah hh
      have ax31:=bG av hx31
      simp only[bB]at ax31
      obtain⟨r32,hr32,hh⟩:=ah hh
      try simp only[aS,seval,hr1,hr4,ax21,Zdx,ax31,hr32]
      refine bf (by kernel_rfl) ?_
      try simp only[aS,seval,hr1,hr4,ax21,Zdx,ax31,hr32]
      refine sp aq hh (fun _ hh =>?_) (fun _ hh =>?_)
      ·cases hh
       try simp only[aS,seval,hr1,hr4,ax21,Zdx,ax31,hr32]
       refine DR ⟨rfl,?_⟩
       try simp only[aS,seval,hr1,hr4,ax21,Zdx,ax31,hr32]
      ·cases hh
       try simp only[aS,seval,hr1,hr4,ax21,Zdx,ax31,hr32]
       refine jN ?_
       refine⟨?_,?_,?_,?_⟩
       all_goals first|rfl|(simp only[aS,seval,hr1,hr4,ax21,Zdx,ax31,hr32]<;>rfl)
    ·cases hh
     try simp only[aS,seval,hr1,hr4,Zb]
     refine kW ?_
     exact rfl
   ·rintro x t H e hx
    rcases o19 with _|rb
    ·dsimp only at hx hh
     subst hx
     cases hh
     try simp only[aS,seval,hr1,hr4]
    ·dsimp only at hx hh
     obtain⟨rfl,hE⟩:=hx
     cases hh
     try simp only[bO,bI,b6,eJ,eF,dE,dF]
     exact hE
 ·clear hh
  have hh:=ho2
  try simp only[aS,seval,hr1]
  refine sp bd hh (fun _ hh =>?_) (fun _ hh =>?_)
  ·cases hh
   try simp only[aS,seval,hr1]
   rw[au]
   refine⟨_,rfl,?_⟩
   refine⟨0,?_,?_,?_,?_,?_⟩
   all_goals first|rfl|(simp only[aS,seval,hr1]<;>rfl)
  ·obtain⟨r35,hr35,hh⟩:=ah hh
   try simp only[aS,seval,hr1,hr35]
   refine sp bd hh (fun _ hh =>?_) (fun _ hh =>?_)
   ·cases hh
    try simp only[aS,seval,hr1,hr35]
    rw[au]
    refine⟨_,rfl,?_⟩
    refine⟨0,?_,?_,?_,?_,?_⟩
    all_goals first|rfl|(simp only[aS,seval,hr1,hr35]<;>rfl)
   ·obtain⟨r37,hr37,hh⟩:=ah hh
    cases hh
    try simp only[aS,seval,hr1,hr35,hr37]
    rw[au]
    refine⟨_,rfl,?_⟩
    refine⟨0,?_,?_,?_,?_,?_⟩
    all_goals first|rfl|(simp only[aS,seval,hr1,hr35,hr37]<;>rfl)
theorem tl:bY Try.prog 15 mg:=bY.of (mode := .clean) tok B7 mixed Try.func15 (by kernel_rfl) ⟨by kernel_rfl,by kernel_rfl⟩ (fun _=>ad4 (by kernel_rfl)) (fun x r h=>DZ x.1 x.2.1 x.2.2 r h)
noncomputable def vF:=gf (iQ (cW m5) (iQ (mB (eI .i64)) (fP (mB (eI .i64))))) (fun x:bW×(List Int)×(List Int)=>mI x.1 x.2.1 x.2.2) (fun r:Bool =>.clean (.bool r))
theorem ma (p0_0:Int) (p0_1:(List di)) (p1:(List Int)) (p2:(List Int)):vF none [.agg [.int .i64 p0_0,.sl false false p0_1.length (ae a7 p0_1)],.sl false false p1.length (ae (eI .i64) p1),.sl false false p2.length (ae (eI .i64) p2)]=(mI (bW.mk p0_0 p0_1) p1 p2).map fun r:Bool=>(.clean (.bool r),none):=aW _ _ _ ((bW.mk p0_0 p0_1),p1,p2)
noncomputable def qO:Env:=(Am.ext (Am.ext (Am.ext (Am.ext a6 13 false nQ) 15 false mg) 16 false vJ) 32 false p8)
theorem KH:bD Try.prog qO:=((((bD.none.add tn false).add tl false).add MB false).add zA false)
theorem ib:type_of% (ai @w<|ai @jh<|ai @jZ<|ai @CZ<|ai @jf<|@qO.eq_1):=⟨@w,@jh,@jZ,@CZ,@jf,@qO.eq_1⟩
theorem OQ (p0:bW) (p1:(List Int)) (p2:(List Int)) (r:Bool) (hh:mI p0 p1 p2=some r):a8 .clean tab qO FU Try.f33 none [.agg [.int .i64 p0.aF,.sl false false p0.ax.length (ae a7 p0.ax)],.sl false false p1.length (ae (eI .i64) p1),.sl false false p2.length (ae (eI .i64) p2)]=some (.clean (.bool r),none):=by
 refine aC rfl Try.ntmps33 Try.results33 ?_
 unfold mI at hh
 obtain⟨r1,hr1,hh⟩:=ah hh
 obtain⟨r2,hr2,hh⟩:=ah hh
 try simp only[ib,seval,hr1,hr2]
 refine bf (by kernel_rfl) ?_
 try simp only[ib,seval,hr1,hr2]
 refine sp pn hh (fun _ hh =>?_) (fun _ hh =>?_)
 ·obtain⟨r4,hr4,hh⟩:=ah hh
  obtain⟨r5,hr5,hh⟩:=ah hh
  try simp only[ib,seval,hr1,hr2,hr4,hr5]
  refine sp pn hh (fun _ hh =>?_) (fun _ hh =>?_)
  ·obtain⟨r7,hr7,hh⟩:=ah hh
   try simp only[ib,seval,hr1,hr2,hr4,hr5,hr7]
   refine bf (by kernel_rfl) ?_
   cases hh
   try simp only[ib,seval,hr1,hr2,hr4,hr5,hr7]
  ·try simp only[ib,seval,hr1,hr2,hr4,hr5]
   refine bf (by kernel_rfl) ?_
   cases hh
   try simp only[ib,seval,hr1,hr2,hr4,hr5]
 ·try simp only[ib,seval,hr1,hr2]
  refine bf (by kernel_rfl) ?_
  cases hh
  try simp only[ib,seval,hr1,hr2]
theorem Mx:bY Try.prog 33 vF:=bY.of (mode := .clean) tok KH mixed Try.func33 (by kernel_rfl) ⟨by kernel_rfl,by kernel_rfl⟩ (fun _=>ad4 (by kernel_rfl)) (fun x r h=>OQ x.1 x.2.1 x.2.2 r h)
noncomputable def ss:=gf (as0) (fun x:Unit=>nF) (fun r:Bool =>.clean (.bool r))
theorem zI:ss none []=(nF).map fun r:Bool=>(.clean (.bool r),none):=aW _ _ _ ()
noncomputable def oR:Env:=(Am.ext (Am.ext (Am.ext (Am.ext (Am.ext a6 13 false nQ) 15 false mg) 31 false vG) 32 false p8) 33 false vF)
theorem HP:bD Try.prog oR:=(((((bD.none.add tn false).add tl false).add My false).add zA false).add Mx false)
theorem bp:type_of% (ai @w<|ai @jh<|ai @jZ<|ai @CX<|ai @jf<|ai @ma<|@oR.eq_1):=⟨@w,@jh,@jZ,@CX,@jf,@ma,@oR.eq_1⟩
theorem LQ (r:Bool) (hh:nF=some r):a8 .clean tab oR FU Try.f8 none []=some (.clean (.bool r),none):=by
 refine aC rfl Try.ntmps8 Try.results8 ?_
 unfold nF at hh
 obtain⟨r1,hr1,hh⟩:=ah hh
 obtain⟨r2,hr2,hh⟩:=ah hh
 obtain⟨r3,hr3,hh⟩:=ah hh
 obtain⟨r4,hr4,hh⟩:=ah hh
 obtain⟨r5,hr5,hh⟩:=ah hh
 obtain⟨r6,hr6,hh⟩:=ah hh
 have i7:=jf ([1,0])
 simp only[aJ,bB,List.length_cons,List.length_nil,ada,Nat.reduceAdd,aem]at i7
 obtain⟨r8,hr8,hh⟩:=ah hh
 have i9:=jh 2 ([r3,r6]) r8
 simp only[aJ,bB,List.length_cons,List.length_nil,ada,Nat.reduceAdd,aem]at i9
 obtain⟨r10,hr10,hh⟩:=ah hh
 try simp only[bp,seval,hr1,hr2,hr3,hr4,hr5,hr6,i7,hr8,i9,hr10]
 refine bf (by kernel_rfl) ?_
 have i11:=jf ([1])
 simp only[aJ,bB,List.length_cons,List.length_nil,ada,Nat.reduceAdd,aem]at i11
 obtain⟨r12,hr12,hh⟩:=ah hh
 have i13:=jh 2 ([r1,r2]) r12
 simp only[aJ,bB,List.length_cons,List.length_nil,ada,Nat.reduceAdd,aem]at i13
 obtain⟨r14,hr14,hh⟩:=ah hh
 try simp only[bp,seval,hr1,hr2,hr3,hr4,hr5,hr6,i7,hr8,i9,hr10,i11,hr12,i13,hr14]
 refine bf (by kernel_rfl) ?_
 have i15:=ma 2 ([r1,r2]) ([30,0]) ([40,20])
 simp only[aJ,bB,List.length_cons,List.length_nil,ada,Nat.reduceAdd,aem]at i15
 obtain⟨r16,hr16,hh⟩:=ah hh
 try simp only[bp,seval,hr1,hr2,hr3,hr4,hr5,hr6,i7,hr8,i9,hr10,i11,hr12,i13,hr14,i15,hr16]
 obtain⟨o17,ho17,hh⟩:=ah hh
 refine bJ 0 (fun s t H e=>match s with|s9j1=>∃v1j1:Nat,t 1=.ptr 1 v1j1 0∧t 6=.int .i64 r10.2∧t 8=.int .i64 r14.2∧t 9=.bool s9j1∧H 1=some ⟨v1j1,24,[.int .i64 2,.sl false false ([r1,r2]).length (ae a7 ([r1,r2]))],false,false,false⟩) (fun s=>s=o17) ?_ ?_
 ·rintro s9j1 t H e ⟨v1j1,Zj1⟩ rfl
  try dsimp only at hh
  try simp only[bp,seval,hr1,hr2,hr3,hr4,hr5,hr6,i7,hr8,i9,hr10,i11,hr12,i13,hr14,i15,hr16,Zj1]
  refine sp pn hh (fun _ hh =>?_) (fun _ hh =>?_)
  ·try simp only[bp,seval,hr1,hr2,hr3,hr4,hr5,hr6,i7,hr8,i9,hr10,i11,hr12,i13,hr14,i15,hr16,Zj1]
   refine sp pn hh (fun _ hh =>?_) (fun _ hh =>?_)
   ·try simp only[bp,seval,hr1,hr2,hr3,hr4,hr5,hr6,i7,hr8,i9,hr10,i11,hr12,i13,hr14,i15,hr16,Zj1]
    refine sp pn hh (fun _ hh =>?_) (fun _ hh =>?_)
    ·have i21:=jf ([30,0])
     simp only[aJ,bB,List.length_cons,List.length_nil,ada,Nat.reduceAdd,aem]at i21
     obtain⟨r22,hr22,hh⟩:=ah hh
     have i23:=jf ([40,21])
     simp only[aJ,bB,List.length_cons,List.length_nil,ada,Nat.reduceAdd,aem]at i23
     obtain⟨r24,hr24,hh⟩:=ah hh
     have i25:=jZ 2 ([r1,r2]) r22 r24
     simp only[aJ,bB,List.length_cons,List.length_nil,ada,Nat.reduceAdd,aem]at i25
     obtain⟨r26,hr26,hh⟩:=ah hh
     try simp only[bp,seval,hr1,hr2,hr3,hr4,hr5,hr6,i7,hr8,i9,hr10,i11,hr12,i13,hr14,i15,hr16,Zj1,i21,hr22,i23,hr24,i25,hr26]
     refine bf (by kernel_rfl) ?_
     cases hh
     try simp only[bp,seval,hr1,hr2,hr3,hr4,hr5,hr6,i7,hr8,i9,hr10,i11,hr12,i13,hr14,i15,hr16,Zj1,i21,hr22,i23,hr24,i25,hr26]
    ·try simp only[bp,seval,hr1,hr2,hr3,hr4,hr5,hr6,i7,hr8,i9,hr10,i11,hr12,i13,hr14,i15,hr16,Zj1]
     refine bf (by kernel_rfl) ?_
     cases hh
     try simp only[bp,seval,hr1,hr2,hr3,hr4,hr5,hr6,i7,hr8,i9,hr10,i11,hr12,i13,hr14,i15,hr16,Zj1]
   ·try simp only[bp,seval,hr1,hr2,hr3,hr4,hr5,hr6,i7,hr8,i9,hr10,i11,hr12,i13,hr14,i15,hr16,Zj1]
    refine bf (by kernel_rfl) ?_
    cases hh
    try simp only[bp,seval,hr1,hr2,hr3,hr4,hr5,hr6,i7,hr8,i9,hr10,i11,hr12,i13,hr14,i15,hr16,Zj1]
  ·try simp only[bp,seval,hr1,hr2,hr3,hr4,hr5,hr6,i7,hr8,i9,hr10,i11,hr12,i13,hr14,i15,hr16,Zj1]
   refine bf (by kernel_rfl) ?_
   cases hh
   try simp only[bp,seval,hr1,hr2,hr3,hr4,hr5,hr6,i7,hr8,i9,hr10,i11,hr12,i13,hr14,i15,hr16,Zj1]
 ·clear hh
  have hh:=ho17
  try simp only[bp,seval,hr1,hr2,hr3,hr4,hr5,hr6,i7,hr8,i9,hr10,i11,hr12,i13,hr14,i15,hr16]
  refine sp dW hh (fun _ hh =>?_) (fun _ hh =>?_)
  ·have i28:=ma 3 ([r3,r4]) ([6,3,0]) ([6,9,3])
   simp only[aJ,bB,List.length_cons,List.length_nil,ada,Nat.reduceAdd,aem]at i28
   obtain⟨r29,hr29,hh⟩:=ah hh
   try simp only[bp,seval,hr1,hr2,hr3,hr4,hr5,hr6,i7,hr8,i9,hr10,i11,hr12,i13,hr14,i15,hr16,i28,hr29]
   refine sp dW hh (fun _ hh =>?_) (fun _ hh =>?_)
   ·have i31:=ma 1 ([r5]) ([1]) ([4])
    simp only[aJ,bB,List.length_cons,List.length_nil,ada,Nat.reduceAdd,aem]at i31
    obtain⟨r32,hr32,hh⟩:=ah hh
    try simp only[bp,seval,hr1,hr2,hr3,hr4,hr5,hr6,i7,hr8,i9,hr10,i11,hr12,i13,hr14,i15,hr16,i28,hr29,i31,hr32]
    refine sp dW hh (fun _ hh =>?_) (fun _ hh =>?_)
    ·have i34:=ma 0 ([]) ([]) ([])
     simp only[aJ,bB,List.length_cons,List.length_nil,ada,Nat.reduceAdd,aem]at i34
     obtain⟨r35,hr35,hh⟩:=ah hh
     cases hh
     try simp only[bp,seval,hr1,hr2,hr3,hr4,hr5,hr6,i7,hr8,i9,hr10,i11,hr12,i13,hr14,i15,hr16,i28,hr29,i31,hr32,i34,hr35]
     rw[au]
     refine⟨_,rfl,?_⟩
     refine⟨1,?_,?_,?_,?_,?_⟩
     all_goals first|rfl|(simp only[bp,seval,hr1,hr2,hr3,hr4,hr5,hr6,i7,hr8,i9,hr10,i11,hr12,i13,hr14,i15,hr16,i28,hr29,i31,hr32,i34,hr35]<;>rfl)
    ·cases hh
     try simp only[bp,seval,hr1,hr2,hr3,hr4,hr5,hr6,i7,hr8,i9,hr10,i11,hr12,i13,hr14,i15,hr16,i28,hr29,i31,hr32]
     rw[au]
     refine⟨_,rfl,?_⟩
     refine⟨1,?_,?_,?_,?_,?_⟩
     all_goals first|rfl|(simp only[bp,seval,hr1,hr2,hr3,hr4,hr5,hr6,i7,hr8,i9,hr10,i11,hr12,i13,hr14,i15,hr16,i28,hr29,i31,hr32]<;>rfl)
   ·cases hh
    try simp only[bp,seval,hr1,hr2,hr3,hr4,hr5,hr6,i7,hr8,i9,hr10,i11,hr12,i13,hr14,i15,hr16,i28,hr29]
    rw[au]
    refine⟨_,rfl,?_⟩
    refine⟨1,?_,?_,?_,?_,?_⟩
    all_goals first|rfl|(simp only[bp,seval,hr1,hr2,hr3,hr4,hr5,hr6,i7,hr8,i9,hr10,i11,hr12,i13,hr14,i15,hr16,i28,hr29]<;>rfl)
  ·cases hh
   try simp only[bp,seval,hr1,hr2,hr3,hr4,hr5,hr6,i7,hr8,i9,hr10,i11,hr12,i13,hr14,i15,hr16]
   rw[au]
   refine⟨_,rfl,?_⟩
   refine⟨1,?_,?_,?_,?_,?_⟩
   all_goals first|rfl|(simp only[bp,seval,hr1,hr2,hr3,hr4,hr5,hr6,i7,hr8,i9,hr10,i11,hr12,i13,hr14,i15,hr16]<;>rfl)
theorem Io:bY Try.prog 8 ss:=bY.of (mode := .clean) tok HP mixed Try.func8 (by kernel_rfl) ⟨by kernel_rfl,by kernel_rfl⟩ (fun _=>ad4 (by kernel_rfl)) (fun x r h=>LQ  r h)
noncomputable def pF:=gf (iQ (cW av) (fP (aI .i64))) (fun x:al×Int=>nD x.1 x.2) (fun r:Bool =>.clean (.bool r))
theorem nH (p0_0:Int) (p0_1:(List Int)) (p0_2:Int) (p0_3:(List Int)) (p1:Int):pF none [.agg [.int .i64 p0_0,.sl false false p0_1.length (ae (eI .i64) p0_1),.int .i64 p0_2,.sl false false p0_3.length (ae (eI .i64) p0_3)],.int .i64 p1]=(nD (al.mk (an.mk p0_0 p0_1) (an.mk p0_2 p0_3)) p1).map fun r:Bool=>(.clean (.bool r),none):=aW _ _ _ ((al.mk (an.mk p0_0 p0_1) (an.mk p0_2 p0_3)),p1)
theorem Te (p0:al) (p1:Int) (r:Bool) (hh:nD p0 p1=some r):a8 .clean tab a6 FU Try.f21 none [.agg [.int .i64 p0.aH.ag,.sl false false p0.aH.aa.length (ae (eI .i64) p0.aH.aa),.int .i64 p0.aK.ag,.sl false false p0.aK.aa.length (ae (eI .i64) p0.aK.aa)],.int .i64 p1]=some (.clean (.bool r),none):=by
 refine aC rfl Try.ntmps21 Try.results21 ?_
 unfold nD at hh
 try simp only[w,seval]
 refine sp dW hh (fun _ hh =>?_) (fun _ hh =>?_)
 ·cases hh
  try simp only[w,seval]
 ·cases hh
  try simp only[w,seval]
theorem vX:bY Try.prog 21 pF:=bY.of (mode := .clean) tok bD.none mixed Try.func21 (by kernel_rfl) ⟨by kernel_rfl,by kernel_rfl⟩ (fun _=>ad4 (by kernel_rfl)) (fun x r h=>Te x.1 x.2 r h)
noncomputable def qg:=gf (fP (cW m5)) (fun x:bW=>kv x) (fun r:Bool =>.clean (.bool r))
theorem xr (p0_0:Int) (p0_1:(List di)):qg none [.agg [.int .i64 p0_0,.sl false false p0_1.length (ae a7 p0_1)]]=(kv (bW.mk p0_0 p0_1)).map fun r:Bool=>(.clean (.bool r),none):=aW _ _ _ ((bW.mk p0_0 p0_1))
noncomputable def ns:Env:=(Am.ext a6 21 false pF)
theorem DP:bD Try.prog ns:=(bD.none.add vX false)
theorem bF:type_of% (ai @w<|ai @nH<|@ns.eq_1):=⟨@w,@nH,@ns.eq_1⟩
theorem H7 (p0:bW) (r:Bool) (hh:kv p0=some r):a8 .clean tab ns FU Try.f28 none [.agg [.int .i64 p0.aF,.sl false false p0.ax.length (ae a7 p0.ax)]]=some (.clean (.bool r),none):=by
 refine aC rfl Try.ntmps28 Try.results28 ?_
 unfold kv at hh
 try simp only[bF,seval]
 obtain⟨o7,ho7,hh⟩:=ah hh
 refine aB (fun s t H e=>match s with|s3a=>∃v1a:Nat,t 1=.ptr 1 v1a 0∧t 3=.int .i64 s3a∧H 1=some ⟨v1a,24,[.int .i64 p0.aF,.sl false false p0.ax.length (ae a7 p0.ax)],false,false,false⟩) (fun o x t H e=>match o with|(.inl _)=>x=.exit 0∧∃v1ax:Nat,t 1=.ptr 1 v1ax 0∧H 1=some ⟨v1ax,24,[.int .i64 p0.aF,.sl false false p0.ax.length (ae a7 p0.ax)],false,false,false⟩|(.inr r)=>x=.ret∧jv .clean tab none [.tmp 2] ⟨t,EH H,e⟩=some (.clean (.bool r),none)) ho7 ?_ ?_ ?_
 ·refine⟨0,?_,?_,?_⟩
  all_goals first|rfl|(simp only[bF,seval]<;>rfl)
 ·rintro s3a t H e ⟨v1a,Za⟩ c hh
  simp only[my]at hh
  try simp only[bF,seval,Za]
  obtain⟨o8,ho8,hh⟩:=ah hh
  refine bJ 0 (fun s t H e=>match s with|s12j3=>∃v1j3:Nat,t 1=.ptr 1 v1j3 0∧t 3=.int .i64 s3a∧t 12=.bool s12j3∧H 1=some ⟨v1j3,24,[.int .i64 p0.aF,.sl false false p0.ax.length (ae a7 p0.ax)],false,false,false⟩) (fun s=>s=o8) ?_ ?_
  ·rintro s12j3 t H e ⟨v1j3,Zj3⟩ rfl
   try dsimp only at hh
   try simp only[bF,seval,Zj3]
   refine sp aq hh (fun _ hh =>?_) (fun _ hh =>?_)
   ·obtain⟨x10,hx10,hh⟩:=ah hh
    have ax10:=bG a7 hx10
    simp only[bB]at ax10
    obtain⟨r11,hr11,hh⟩:=ah hh
    try simp only[bF,seval,Zj3,ax10,hr11]
    refine sp aq hh (fun _ hh =>?_) (fun _ hh =>?_)
    ·cases hh
     try simp only[bF,seval,Zj3,ax10,hr11]
     refine DR ⟨rfl,?_⟩
     try simp only[bF,seval,Zj3,ax10,hr11]
    ·cases hh
     try simp only[bF,seval,Zj3,ax10,hr11]
     refine jN ?_
     refine⟨v1j3,?_,?_,?_⟩
     all_goals first|rfl|(simp only[bF,seval,Zj3,ax10,hr11]<;>rfl)
   ·cases hh
    try simp only[bF,seval,Zj3]
    refine kW ?_
    refine⟨rfl,⟨v1j3,?_,?_⟩⟩
    all_goals first|rfl|(simp only[bF,seval,Zj3]<;>rfl)
  ·clear hh
   have hh:=ho8
   try simp only[bF,seval,Za]
   refine sp dW hh (fun _ hh =>?_) (fun _ hh =>?_)
   ·cases hh
    try simp only[bF,seval,Za]
    rw[au]
    refine⟨_,rfl,?_⟩
    refine⟨v1a,?_,?_,?_,?_⟩
    all_goals first|rfl|(simp only[bF,seval,Za]<;>rfl)
   ·cases hh
    try simp only[bF,seval,Za]
    rw[au]
    refine⟨_,rfl,?_⟩
    refine⟨v1a,?_,?_,?_,?_⟩
    all_goals first|rfl|(simp only[bF,seval,Za]<;>rfl)
 ·rintro x t H e hx
  rcases o7 with _|ra
  ·dsimp only at hx hh
   obtain⟨rfl,⟨v1ax,Zax⟩⟩:=hx
   try simp only[bF,seval,Zax]
   refine sp bd hh (fun _ hh =>?_) (fun _ hh =>?_)
   ·cases hh
    try simp only[bF,seval,Zax]
   ·try simp only[bF,seval,Zax]
    refine sp dW hh (fun _ hh =>?_) (fun _ hh =>?_)
    ·cases hh
     try simp only[bF,seval,Zax]
    ·cases hh
     try simp only[bF,seval,Zax]
  ·dsimp only at hx hh
   obtain⟨rfl,hE⟩:=hx
   cases hh
   try simp only[bO,bI,b6,eJ,eF,dE,dF]
   exact hE
theorem D5:bY Try.prog 28 qg:=bY.of (mode := .clean) tok DP mixed Try.func28 (by kernel_rfl) ⟨by kernel_rfl,by kernel_rfl⟩ (fun _=>ad4 (by kernel_rfl)) (fun x r h=>H7 x r h)
noncomputable def tQ:=gf (iQ (mB av) (fP (aI .i64))) (fun x:(List al)×Int=>pj x.1 x.2) (fun r:Bool =>.clean (.bool r))
theorem uG (p0:(List al)) (p1:Int):tQ none [.sl false false p0.length (ae av p0),.int .i64 p1]=(pj p0 p1).map fun r:Bool=>(.clean (.bool r),none):=aW _ _ _ (p0,p1)
noncomputable def uy:Env:=(Am.ext a6 21 false pF)
theorem OB:bD Try.prog uy:=(bD.none.add vX false)
theorem dJ:type_of% (ai @w<|ai @nH<|@uy.eq_1):=⟨@w,@nH,@uy.eq_1⟩
theorem Th (p0:(List al)) (p1:Int) (r:Bool) (hh:pj p0 p1=some r):a8 .clean tab uy FU Try.f10 none [.sl false false p0.length (ae av p0),.int .i64 p1]=some (.clean (.bool r),none):=by
 refine aC rfl Try.ntmps10 Try.results10 ?_
 unfold pj at hh
 try simp only[dJ,seval]
 obtain⟨o7,ho7,hh⟩:=ah hh
 refine aB (fun s t H e=>match s with|s5a=>t 0=.sl false false p0.length (ae av p0)∧t 1=.int .i64 p1∧t 5=.int .i64 s5a) (fun o x t H e=>match o with|(.inl _)=>x=.exit 0∧t 0=.sl false false p0.length (ae av p0)|(.inr r)=>x=.ret∧jv .clean tab none [.tmp 4] ⟨t,EH H,e⟩=some (.clean (.bool r),none)) ho7 ?_ ?_ ?_
 ·refine⟨?_,?_,?_⟩
  all_goals first|rfl|(simp only[dJ,seval]<;>rfl)
 ·rintro s5a t H e Za c hh
  simp only[ru]at hh
  try simp only[dJ,seval,Za]
  obtain⟨o8,ho8,hh⟩:=ah hh
  refine bJ 0 (fun s t H e=>match s with|s13j3=>t 0=.sl false false p0.length (ae av p0)∧t 1=.int .i64 p1∧t 5=.int .i64 s5a∧t 13=.bool s13j3) (fun s=>s=o8) ?_ ?_
  ·rintro s13j3 t H e Zj3 rfl
   try dsimp only at hh
   try simp only[dJ,seval,Zj3]
   refine sp aq hh (fun _ hh =>?_) (fun _ hh =>?_)
   ·obtain⟨x10,hx10,hh⟩:=ah hh
    have ax10:=bG av hx10
    simp only[bB]at ax10
    obtain⟨r11,hr11,hh⟩:=ah hh
    try simp only[dJ,seval,Zj3,ax10,hr11]
    refine sp aq hh (fun _ hh =>?_) (fun _ hh =>?_)
    ·cases hh
     try simp only[dJ,seval,Zj3,ax10,hr11]
     refine DR ⟨rfl,?_⟩
     try simp only[dJ,seval,Zj3,ax10,hr11]
    ·cases hh
     try simp only[dJ,seval,Zj3,ax10,hr11]
     refine jN ?_
     refine⟨?_,?_,?_⟩
     all_goals first|rfl|(simp only[dJ,seval,Zj3,ax10,hr11]<;>rfl)
   ·cases hh
    try simp only[dJ,seval,Zj3]
    refine kW ?_
    refine⟨rfl,?_⟩
    all_goals first|rfl|(simp only[dJ,seval,Zj3]<;>rfl)
  ·clear hh
   have hh:=ho8
   try simp only[dJ,seval,Za]
   refine sp dW hh (fun _ hh =>?_) (fun _ hh =>?_)
   ·cases hh
    try simp only[dJ,seval,Za]
    rw[au]
    refine⟨_,rfl,?_⟩
    refine⟨?_,?_,?_,?_⟩
    all_goals first|rfl|(simp only[dJ,seval,Za]<;>rfl)
   ·cases hh
    try simp only[dJ,seval,Za]
    rw[au]
    refine⟨_,rfl,?_⟩
    refine⟨?_,?_,?_,?_⟩
    all_goals first|rfl|(simp only[dJ,seval,Za]<;>rfl)
 ·rintro x t H e hx
  rcases o7 with _|ra
  ·dsimp only at hx hh
   obtain⟨rfl,Zax⟩:=hx
   cases hh
   try simp only[dJ,seval,Zax]
  ·dsimp only at hx hh
   obtain⟨rfl,hE⟩:=hx
   cases hh
   try simp only[bO,bI,b6,eJ,eF,dE,dF]
   exact hE
theorem CO:bY Try.prog 10 tQ:=bY.of (mode := .clean) tok OB mixed Try.func10 (by kernel_rfl) ⟨by kernel_rfl,by kernel_rfl⟩ (fun _=>ad4 (by kernel_rfl)) (fun x r h=>Th x.1 x.2 r h)
noncomputable def xV:=gf (iQ (cW m5) (fP (mB av))) (fun x:bW×(List al)=>qZ x.1 x.2) (fun r:Bool =>.clean (.bool r))
theorem Gv (p0_0:Int) (p0_1:(List di)) (p1:(List al)):xV none [.agg [.int .i64 p0_0,.sl false false p0_1.length (ae a7 p0_1)],.sl false false p1.length (ae av p1)]=(qZ (bW.mk p0_0 p0_1) p1).map fun r:Bool=>(.clean (.bool r),none):=aW _ _ _ ((bW.mk p0_0 p0_1),p1)
noncomputable def uq:Env:=(Am.ext (Am.ext a6 10 false tQ) 28 false qg)
theorem Ov:bD Try.prog uq:=((bD.none.add CO false).add D5 false)
theorem yP:type_of% (ai @w<|ai @uG<|ai @xr<|@uq.eq_1):=⟨@w,@uG,@xr,@uq.eq_1⟩
theorem Ta (p0:bW) (p1:(List al)) (r:Bool) (hh:qZ p0 p1=some r):a8 .clean tab uq FU Try.f9 none [.agg [.int .i64 p0.aF,.sl false false p0.ax.length (ae a7 p0.ax)],.sl false false p1.length (ae av p1)]=some (.clean (.bool r),none):=by
 refine aC rfl Try.ntmps9 Try.results9 ?_
 unfold qZ at hh
 obtain⟨r1,hr1,hh⟩:=ah hh
 try simp only[yP,seval,hr1]
 refine sp dW hh (fun _ hh =>?_) (fun _ hh =>?_)
 ·obtain⟨r3,hr3,hh⟩:=ah hh
  cases hh
  try simp only[yP,seval,hr1,hr3]
 ·cases hh
  try simp only[yP,seval,hr1]
theorem O7:bY Try.prog 9 xV:=bY.of (mode := .clean) tok Ov mixed Try.func9 (by kernel_rfl) ⟨by kernel_rfl,by kernel_rfl⟩ (fun _=>ad4 (by kernel_rfl)) (fun x r h=>Ta x.1 x.2 r h)
noncomputable def wA:=gf (iQ (cW m5) (iQ (mB av) (iQ (mB av) (fP (cW av))))) (fun x:bW×(List al)×(List al)×al=>eT x.1 x.2.1 x.2.2.1 x.2.2.2) (fun r:Bool =>.clean (.bool r))
noncomputable def iK:Env:=(Am.ext (Am.ext (Am.ext (Am.ext (Am.ext (Am.ext (Am.ext (Am.ext (Am.ext (Am.ext (Am.ext a6 8 false ss) 9 false xV) 10 false tQ) 13 false nQ) 18 false nO) 19 false p6) 20 false kz) 21 false pF) 22 false dP) 23 false qf) 24 false kX)
theorem vR:bD Try.prog iK:=(((((((((((bD.none.add Io false).add O7 false).add CO false).add tn false).add th false).add zx false).add nA false).add vX false).add ey false).add zC false).add rR false)
theorem ak:type_of% (ai @w<|ai @zI<|ai @Gv<|ai @uG<|ai @jh<|ai @l8<|ai @rm<|ai @gT<|ai @nH<|ai @bR<|ai @rq<|ai @lF<|@iK.eq_1):=⟨@w,@zI,@Gv,@uG,@jh,@l8,@rm,@gT,@nH,@bR,@rq,@lF,@iK.eq_1⟩
theorem xb (p0:bW) (p1:(List al)) (p2:(List al)) (p3:al) (r:Bool) (hh:eT p0 p1 p2 p3=some r):a8 .clean tab iK FU Try.f4 none [.agg [.int .i64 p0.aF,.sl false false p0.ax.length (ae a7 p0.ax)],.sl false false p1.length (ae av p1),.sl false false p2.length (ae av p2),.agg [.int .i64 p3.aH.ag,.sl false false p3.aH.aa.length (ae (eI .i64) p3.aH.aa),.int .i64 p3.aK.ag,.sl false false p3.aK.aa.length (ae (eI .i64) p3.aK.aa)]]=some (.clean (.bool r),none):=by
 refine aC rfl Try.ntmps4 Try.results4 ?_
 unfold eT at hh
 obtain⟨r1,hr1,hh⟩:=ah hh
 obtain⟨r2,hr2,hh⟩:=ah hh
 try simp only[ak,seval,hr1,hr2]
 obtain⟨o3,ho3,hh⟩:=ah hh
 refine bJ 0 (fun s t H e=>match s with|s50j1=>∃v4j1:Nat,∃v7j1:Nat,t 1=.sl false false p1.length (ae av p1)∧t 2=.sl false false p2.length (ae av p2)∧t 4=.ptr 4 v4j1 0∧t 7=.ptr 7 v7j1 0∧t 9=.bool r1∧t 50=.bool s50j1∧H 4=some ⟨v4j1,24,[.int .i64 p0.aF,.sl false false p0.ax.length (ae a7 p0.ax)],false,false,false⟩∧H 7=some ⟨v7j1,41,[.int .i64 p3.aH.ag,.sl false false p3.aH.aa.length (ae (eI .i64) p3.aH.aa),.int .i64 p3.aK.ag,.sl false false p3.aK.aa.length (ae (eI .i64) p3.aK.aa)],false,false,false⟩) (fun s=>s=o3) ?_ ?_
 ·rintro s50j1 t H e ⟨v4j1,v7j1,Zj1⟩ rfl
  try dsimp only at hh
  try simp only[ak,seval,hr1,hr2,Zj1]
  refine sp aq hh (fun _ hh =>?_) (fun _ hh =>?_)
  ·cases hh
   try simp only[ak,seval,hr1,hr2,Zj1]
  ·obtain⟨r5,hr5,hh⟩:=ah hh
   obtain⟨r6,hr6,hh⟩:=ah hh
   try simp only[ak,seval,hr1,hr2,Zj1,hr5,hr6]
   obtain⟨o7,ho7,hh⟩:=ah hh
   refine bJ 0 (fun s t H e=>match s with|s69j2=>∃v4j2:Nat,∃v7j2:Nat,t 1=.sl false false p1.length (ae av p1)∧t 2=.sl false false p2.length (ae av p2)∧t 4=.ptr 4 v4j2 0∧t 7=.ptr 7 v7j2 0∧t 9=.bool r1∧t 10=.sl false false r5.1.length (ae av r5.1)∧t 12=.sl false false r6.1.length (ae av r6.1)∧t 69=.bool s69j2∧H 4=some ⟨v4j2,24,[.int .i64 p0.aF,.sl false false p0.ax.length (ae a7 p0.ax)],false,false,false⟩∧H 7=some ⟨v7j2,41,[.int .i64 p3.aH.ag,.sl false false p3.aH.aa.length (ae (eI .i64) p3.aH.aa),.int .i64 p3.aK.ag,.sl false false p3.aK.aa.length (ae (eI .i64) p3.aK.aa)],false,false,false⟩) (fun s=>s=o7) ?_ ?_
   ·rintro s69j2 t H e ⟨v4j2,v7j2,Zj2⟩ rfl
    try dsimp only at hh
    try simp only[ak,seval,hr1,hr2,hr5,hr6,Zj2]
    refine sp aq hh (fun _ hh =>?_) (fun _ hh =>?_)
    ·cases hh
     try simp only[ak,seval,hr1,hr2,hr5,hr6,Zj2]
    ·try simp only[ak,seval,hr1,hr2,hr5,hr6,Zj2]
     obtain⟨o9,ho9,hh⟩:=ah hh
     refine bJ 0 (fun s t H e=>match s with|s89j3=>∃v4j3:Nat,∃v7j3:Nat,t 1=.sl false false p1.length (ae av p1)∧t 2=.sl false false p2.length (ae av p2)∧t 4=.ptr 4 v4j3 0∧t 7=.ptr 7 v7j3 0∧t 9=.bool r1∧t 10=.sl false false r5.1.length (ae av r5.1)∧t 12=.sl false false r6.1.length (ae av r6.1)∧t 89=.bool s89j3∧H 4=some ⟨v4j3,24,[.int .i64 p0.aF,.sl false false p0.ax.length (ae a7 p0.ax)],false,false,false⟩∧H 7=some ⟨v7j3,41,[.int .i64 p3.aH.ag,.sl false false p3.aH.aa.length (ae (eI .i64) p3.aH.aa),.int .i64 p3.aK.ag,.sl false false p3.aK.aa.length (ae (eI .i64) p3.aK.aa)],false,false,false⟩) (fun s=>s=o9) ?_ ?_
     ·rintro s89j3 t H e ⟨v4j3,v7j3,Zj3⟩ rfl
      try dsimp only at hh
      try simp only[ak,seval,hr1,hr2,hr5,hr6,Zj3]
      refine sp aq hh (fun _ hh =>?_) (fun _ hh =>?_)
      ·cases hh
       try simp only[ak,seval,hr1,hr2,hr5,hr6,Zj3]
      ·try simp only[ak,seval,hr1,hr2,hr5,hr6,Zj3]
       obtain⟨o22,ho22,hh⟩:=ah hh
       refine aB (fun s t H e=>match s with|(s16d,s17d,l14d,l15d)=>∃v4d:Nat,∃v7d:Nat,∃v14d:Nat,∃v15d:Nat,t 1=.sl false false p1.length (ae av p1)∧t 2=.sl false false p2.length (ae av p2)∧t 4=.ptr 4 v4d 0∧t 7=.ptr 7 v7d 0∧t 9=.bool r1∧t 10=.sl false false r5.1.length (ae av r5.1)∧t 12=.sl false false r6.1.length (ae av r6.1)∧t 14=.buf 14 v14d 4 0 (l14d).length∧t 15=.buf 15 v15d 4 0 (l15d).length∧t 16=.bool s16d∧t 17=.int .i64 s17d∧H 4=some ⟨v4d,24,[.int .i64 p0.aF,.sl false false p0.ax.length (ae a7 p0.ax)],false,false,false⟩∧H 7=some ⟨v7d,41,[.int .i64 p3.aH.ag,.sl false false p3.aH.aa.length (ae (eI .i64) p3.aH.aa),.int .i64 p3.aK.ag,.sl false false p3.aK.aa.length (ae (eI .i64) p3.aK.aa)],false,false,false⟩∧H 14=some ⟨v14d,41,ae av l14d,false,true,false⟩∧H 15=some ⟨v15d,41,ae av l15d,false,true,false⟩) (fun o x t H e=>match o with|(s16dx,l14dx,l15dx)=>x=.exit 0∧∃v4dx:Nat,∃v7dx:Nat,∃v14dx:Nat,∃v15dx:Nat,t 4=.ptr 4 v4dx 0∧t 7=.ptr 7 v7dx 0∧t 9=.bool r1∧t 10=.sl false false r5.1.length (ae av r5.1)∧t 12=.sl false false r6.1.length (ae av r6.1)∧t 14=.buf 14 v14dx 4 0 (l14dx).length∧t 15=.buf 15 v15dx 4 0 (l15dx).length∧t 16=.bool s16dx∧H 4=some ⟨v4dx,24,[.int .i64 p0.aF,.sl false false p0.ax.length (ae a7 p0.ax)],false,false,false⟩∧H 7=some ⟨v7dx,41,[.int .i64 p3.aH.ag,.sl false false p3.aH.aa.length (ae (eI .i64) p3.aH.aa),.int .i64 p3.aK.ag,.sl false false p3.aK.aa.length (ae (eI .i64) p3.aK.aa)],false,false,false⟩∧H 14=some ⟨v14dx,41,ae av l14dx,false,true,false⟩∧H 15=some ⟨v15dx,41,ae av l15dx,false,true,false⟩) ho22 ?_ ?_ ?_
       ·refine⟨v4j3,v7j3,e,e+1,?_,?_,?_,?_,?_,?_,?_,?_,?_,?_,?_,?_,?_,?_,?_⟩
        all_goals first|rfl|(simp only[ak,seval,hr1,hr2,hr5,hr6,Zj3]<;>rfl)
       ·rintro⟨s16d,s17d,l14d,l15d⟩ t H e ⟨v4d,v7d,v14d,v15d,Zd⟩ c hh
        simp only[gZ]at hh
        try simp only[ak,seval,hr1,hr2,hr5,hr6,Zd]
        refine sp aq hh (fun _ hh =>?_) (fun _ hh =>?_)
        ·obtain⟨x24,hx24,hh⟩:=ah hh
         have ax24:=bG av hx24
         simp only[bB]at ax24
         obtain⟨x25,hx25,hh⟩:=ah hh
         have ax25:=bG av hx25
         simp only[bB]at ax25
         obtain⟨r26,hr26,hh⟩:=ah hh
         try simp only[ak,seval,hr1,hr2,hr5,hr6,Zd,ax24,ax25,hr26]
         refine bf (by kernel_rfl) ?_
         have ax24:=bG av hx24
         simp only[bB]at ax24
         obtain⟨r27,hr27,hh⟩:=ah hh
         try simp only[ak,seval,hr1,hr2,hr5,hr6,Zd,ax24,ax25,hr26,ax24,hr27]
         refine bf (by kernel_rfl) ?_
         obtain⟨x28,hx28,hh⟩:=ah hh
         obtain⟨q29a,q29b,q29c,q29d⟩:=gz av hx28
         simp only[bB]at q29b
         obtain⟨x30,hx30,hh⟩:=ah hh
         obtain⟨q31a,q31b,q31c,q31d⟩:=gz av hx30
         simp only[bB]at q31b
         try simp only[ak,seval,hr1,hr2,hr5,hr6,Zd,ax24,ax25,hr26,ax24,hr27,q29a,q29b,q29c,q29d,q31a,q31b,q31c,q31d]
         refine sp dW hh (fun _ hh =>?_) (fun _ hh =>?_)
         ·have ax25:=bG av hx25
          simp only[bB]at ax25
          obtain⟨r33,hr33,hh⟩:=ah hh
          cases hh
          try simp only[ak,seval,hr1,hr2,hr5,hr6,Zd,ax24,ax25,hr26,ax24,hr27,q29a,q29b,q29c,q29d,q31a,q31b,q31c,q31d,ax25,hr33]
          refine jN ?_
          refine⟨v4d,v7d,e+1+1+1,e+1+1+1+1,?_,?_,?_,?_,?_,?_,?_,?_,?_,?_,?_,?_,?_,?_,?_⟩
          all_goals first|rfl|(simp only[ak,seval,hr1,hr2,hr5,hr6,Zd,ax24,ax25,hr26,ax24,hr27,q29a,q29b,q29c,q29d,q31a,q31b,q31c,q31d,ax25,hr33]<;>rfl)
         ·cases hh
          try simp only[ak,seval,hr1,hr2,hr5,hr6,Zd,ax24,ax25,hr26,ax24,hr27,q29a,q29b,q29c,q29d,q31a,q31b,q31c,q31d]
          refine jN ?_
          refine⟨v4d,v7d,e+1+1+1,e+1+1+1+1,?_,?_,?_,?_,?_,?_,?_,?_,?_,?_,?_,?_,?_,?_,?_⟩
          all_goals first|rfl|(simp only[ak,seval,hr1,hr2,hr5,hr6,Zd,ax24,ax25,hr26,ax24,hr27,q29a,q29b,q29c,q29d,q31a,q31b,q31c,q31d]<;>rfl)
        ·cases hh
         try simp only[ak,seval,hr1,hr2,hr5,hr6,Zd]
         refine kW ?_
         refine⟨rfl,⟨v4d,v7d,v14d,v15d,?_,?_,?_,?_,?_,?_,?_,?_,?_,?_,?_,?_⟩⟩
         all_goals first|rfl|(simp only[ak,seval,hr1,hr2,hr5,hr6,Zd]<;>rfl)
       ·rintro x t H e hx
        rcases o22 with⟨s16dx,l14dx,l15dx⟩
        dsimp only at hx hh
        obtain⟨rfl,⟨v4dx,v7dx,v14dx,v15dx,Zdx⟩⟩:=hx
        obtain⟨r34,hr34,hh⟩:=ah hh
        obtain⟨r35,hr35,hh⟩:=ah hh
        try simp only[ak,seval,hr1,hr2,hr5,hr6,Zdx,hr34,hr35]
        obtain⟨o36,ho36,hh⟩:=ah hh
        refine bJ 0 (fun s t H e=>match s with|s167j5=>∃v7j5:Nat,t 7=.ptr 7 v7j5 0∧t 9=.bool r1∧t 10=.sl false false r5.1.length (ae av r5.1)∧t 12=.sl false false r6.1.length (ae av r6.1)∧t 16=.bool s16dx∧t 22=.sl false false r34.1.length (ae av r34.1)∧t 24=.sl false false r35.1.length (ae av r35.1)∧t 167=.bool s167j5∧H 7=some ⟨v7j5,41,[.int .i64 p3.aH.ag,.sl false false p3.aH.aa.length (ae (eI .i64) p3.aH.aa),.int .i64 p3.aK.ag,.sl false false p3.aK.aa.length (ae (eI .i64) p3.aK.aa)],false,false,false⟩) (fun s=>s=o36) ?_ ?_
        ·rintro s167j5 t H e ⟨v7j5,Zj5⟩ rfl
         try dsimp only at hh
         try simp only[ak,seval,hr1,hr2,hr5,hr6,hr34,hr35,Zj5]
         refine sp aq hh (fun _ hh =>?_) (fun _ hh =>?_)
         ·cases hh
          try simp only[ak,seval,hr1,hr2,hr5,hr6,hr34,hr35,Zj5]
         ·try simp only[ak,seval,hr1,hr2,hr5,hr6,hr34,hr35,Zj5]
          obtain⟨o54,ho54,hh⟩:=ah hh
          refine aB (fun s t H e=>match s with|s26f=>∃v7f:Nat,t 7=.ptr 7 v7f 0∧t 9=.bool r1∧t 10=.sl false false r5.1.length (ae av r5.1)∧t 12=.sl false false r6.1.length (ae av r6.1)∧t 16=.bool s16dx∧t 22=.sl false false r34.1.length (ae av r34.1)∧t 24=.sl false false r35.1.length (ae av r35.1)∧t 26=.int .i64 s26f∧H 7=some ⟨v7f,41,[.int .i64 p3.aH.ag,.sl false false p3.aH.aa.length (ae (eI .i64) p3.aH.aa),.int .i64 p3.aK.ag,.sl false false p3.aK.aa.length (ae (eI .i64) p3.aK.aa)],false,false,false⟩) (fun o x t H e=>match o with|(.inl _)=>x=.exit 2∧t 9=.bool r1|(.inr r)=>x=.ret∧jv .clean tab none [.tmp 8] ⟨t,EH H,e⟩=some (.clean (.bool r),none)) ho54 ?_ ?_ ?_
          ·refine⟨v7j5,?_,?_,?_,?_,?_,?_,?_,?_,?_⟩
           all_goals first|rfl|(simp only[ak,seval,hr1,hr2,hr5,hr6,hr34,hr35,Zj5]<;>rfl)
          ·rintro s26f t H e ⟨v7f,Zf⟩ c hh
           simp only[g9]at hh
           try simp only[ak,seval,hr1,hr2,hr5,hr6,hr34,hr35,Zf]
           refine sp aq hh (fun _ hh =>?_) (fun _ hh =>?_)
           ·obtain⟨x56,hx56,hh⟩:=ah hh
            have ax56:=bG av hx56
            simp only[bB]at ax56
            obtain⟨x57,hx57,hh⟩:=ah hh
            have ax57:=bG av hx57
            simp only[bB]at ax57
            obtain⟨r58,hr58,hh⟩:=ah hh
            try simp only[ak,seval,hr1,hr2,hr5,hr6,hr34,hr35,Zf,ax56,ax57,hr58]
            refine bf (by kernel_rfl) ?_
            have ax56:=bG av hx56
            simp only[bB]at ax56
            obtain⟨r59,hr59,hh⟩:=ah hh
            try simp only[ak,seval,hr1,hr2,hr5,hr6,hr34,hr35,Zf,ax56,ax57,hr58,ax56,hr59]
            refine bf (by kernel_rfl) ?_
            obtain⟨x60,hx60,hh⟩:=ah hh
            have ax60:=bG av hx60
            simp only[bB]at ax60
            obtain⟨r61,hr61,hh⟩:=ah hh
            try simp only[ak,seval,hr1,hr2,hr5,hr6,hr34,hr35,Zf,ax56,ax57,hr58,ax56,hr59,ax60,hr61]
            refine sp xI hh (fun _ hh =>?_) (fun _ hh =>?_)
            ·try simp only[ak,seval,hr1,hr2,hr5,hr6,hr34,hr35,Zf,ax56,ax57,hr58,ax56,hr59,ax60,hr61]
             refine bf (by kernel_rfl) ?_
             cases hh
             try simp only[ak,seval,hr1,hr2,hr5,hr6,hr34,hr35,Zf,ax56,ax57,hr58,ax56,hr59,ax60,hr61]
             refine DR ⟨rfl,?_⟩
             try simp only[ak,seval,hr1,hr2,hr5,hr6,hr34,hr35,Zf,ax56,ax57,hr58,ax56,hr59,ax60,hr61]
            ·obtain⟨x63,hx63,hh⟩:=ah hh
             have ax63:=bG av hx63
             simp only[bB]at ax63
             obtain⟨r64,hr64,hh⟩:=ah hh
             try simp only[ak,seval,hr1,hr2,hr5,hr6,hr34,hr35,Zf,ax56,ax57,hr58,ax56,hr59,ax60,hr61,ax63,hr64]
             refine sp xI hh (fun _ hh =>?_) (fun _ hh =>?_)
             ·try simp only[ak,seval,hr1,hr2,hr5,hr6,hr34,hr35,Zf,ax56,ax57,hr58,ax56,hr59,ax60,hr61,ax63,hr64]
              refine bf (by kernel_rfl) ?_
              cases hh
              try simp only[ak,seval,hr1,hr2,hr5,hr6,hr34,hr35,Zf,ax56,ax57,hr58,ax56,hr59,ax60,hr61,ax63,hr64]
              refine DR ⟨rfl,?_⟩
              try simp only[ak,seval,hr1,hr2,hr5,hr6,hr34,hr35,Zf,ax56,ax57,hr58,ax56,hr59,ax60,hr61,ax63,hr64]
             ·try simp only[ak,seval,hr1,hr2,hr5,hr6,hr34,hr35,Zf,ax56,ax57,hr58,ax56,hr59,ax60,hr61,ax63,hr64]
              refine sp pn hh (fun _ hh =>?_) (fun _ hh =>?_)
              ·have ax57:=bG av hx57
               simp only[bB]at ax57
               obtain⟨r67,hr67,hh⟩:=ah hh
               try simp only[ak,seval,hr1,hr2,hr5,hr6,hr34,hr35,Zf,ax56,ax57,hr58,ax56,hr59,ax60,hr61,ax63,hr64,ax57,hr67]
               refine sp xI hh (fun _ hh =>?_) (fun _ hh =>?_)
               ·try simp only[ak,seval,hr1,hr2,hr5,hr6,hr34,hr35,Zf,ax56,ax57,hr58,ax56,hr59,ax60,hr61,ax63,hr64,ax57,hr67]
                refine bf (by kernel_rfl) ?_
                cases hh
                try simp only[ak,seval,hr1,hr2,hr5,hr6,hr34,hr35,Zf,ax56,ax57,hr58,ax56,hr59,ax60,hr61,ax63,hr64,ax57,hr67]
                refine DR ⟨rfl,?_⟩
                try simp only[ak,seval,hr1,hr2,hr5,hr6,hr34,hr35,Zf,ax56,ax57,hr58,ax56,hr59,ax60,hr61,ax63,hr64,ax57,hr67]
               ·have ax60:=bG av hx60
                simp only[bB]at ax60
                have ax56:=bG av hx56
                simp only[bB]at ax56
                obtain⟨r69,hr69,hh⟩:=ah hh
                try simp only[ak,seval,hr1,hr2,hr5,hr6,hr34,hr35,Zf,ax56,ax57,hr58,ax56,hr59,ax60,hr61,ax63,hr64,ax57,hr67,ax60,ax56,hr69]
                refine bf (by kernel_rfl) ?_
                try simp only[ak,seval,hr1,hr2,hr5,hr6,hr34,hr35,Zf,ax56,ax57,hr58,ax56,hr59,ax60,hr61,ax63,hr64,ax57,hr67,ax60,ax56,hr69]
                refine sp aq hh (fun _ hh =>?_) (fun _ hh =>?_)
                ·cases hh
                 try simp only[ak,seval,hr1,hr2,hr5,hr6,hr34,hr35,Zf,ax56,ax57,hr58,ax56,hr59,ax60,hr61,ax63,hr64,ax57,hr67,ax60,ax56,hr69]
                 refine DR ⟨rfl,?_⟩
                 try simp only[ak,seval,hr1,hr2,hr5,hr6,hr34,hr35,Zf,ax56,ax57,hr58,ax56,hr59,ax60,hr61,ax63,hr64,ax57,hr67,ax60,ax56,hr69]
                ·cases hh
                 try simp only[ak,seval,hr1,hr2,hr5,hr6,hr34,hr35,Zf,ax56,ax57,hr58,ax56,hr59,ax60,hr61,ax63,hr64,ax57,hr67,ax60,ax56,hr69]
                 refine jN ?_
                 refine⟨v7f,?_,?_,?_,?_,?_,?_,?_,?_,?_⟩
                 all_goals first|rfl|(simp only[ak,seval,hr1,hr2,hr5,hr6,hr34,hr35,Zf,ax56,ax57,hr58,ax56,hr59,ax60,hr61,ax63,hr64,ax57,hr67,ax60,ax56,hr69]<;>rfl)
              ·try simp only[ak,seval,hr1,hr2,hr5,hr6,hr34,hr35,Zf,ax56,ax57,hr58,ax56,hr59,ax60,hr61,ax63,hr64]
               refine bf (by kernel_rfl) ?_
               cases hh
               try simp only[ak,seval,hr1,hr2,hr5,hr6,hr34,hr35,Zf,ax56,ax57,hr58,ax56,hr59,ax60,hr61,ax63,hr64]
               refine jN ?_
               refine⟨v7f,?_,?_,?_,?_,?_,?_,?_,?_,?_⟩
               all_goals first|rfl|(simp only[ak,seval,hr1,hr2,hr5,hr6,hr34,hr35,Zf,ax56,ax57,hr58,ax56,hr59,ax60,hr61,ax63,hr64]<;>rfl)
           ·cases hh
            try simp only[ak,seval,hr1,hr2,hr5,hr6,hr34,hr35,Zf]
            refine kW ?_
            refine⟨rfl,?_⟩
            all_goals first|rfl|(simp only[ak,seval,hr1,hr2,hr5,hr6,hr34,hr35,Zf]<;>rfl)
          ·rintro x t H e hx
           rcases o54 with _|rf
           ·dsimp only at hx hh
            obtain⟨rfl,Zfx⟩:=hx
            cases hh
            try simp only[ak,seval,hr1,hr2,hr5,hr6,hr34,hr35,Zfx]
           ·dsimp only at hx hh
            obtain⟨rfl,hE⟩:=hx
            cases hh
            try simp only[bO,bI,b6,eJ,eF,dE,dF]
            exact hE
        ·clear hh
         have hh:=ho36
         try simp only[ak,seval,hr1,hr2,hr5,hr6,Zdx,hr34,hr35]
         refine sp bd hh (fun _ hh =>?_) (fun _ hh =>?_)
         ·cases hh
          try simp only[ak,seval,hr1,hr2,hr5,hr6,Zdx,hr34,hr35]
          rw[au]
          refine⟨_,rfl,?_⟩
          refine⟨v7dx,?_,?_,?_,?_,?_,?_,?_,?_,?_⟩
          all_goals first|rfl|(simp only[ak,seval,hr1,hr2,hr5,hr6,Zdx,hr34,hr35]<;>rfl)
         ·try simp only[ak,seval,hr1,hr2,hr5,hr6,Zdx,hr34,hr35]
          refine sp bd hh (fun _ hh =>?_) (fun _ hh =>?_)
          ·cases hh
           try simp only[ak,seval,hr1,hr2,hr5,hr6,Zdx,hr34,hr35]
           rw[au]
           refine⟨_,rfl,?_⟩
           refine⟨v7dx,?_,?_,?_,?_,?_,?_,?_,?_,?_⟩
           all_goals first|rfl|(simp only[ak,seval,hr1,hr2,hr5,hr6,Zdx,hr34,hr35]<;>rfl)
          ·try simp only[ak,seval,hr1,hr2,hr5,hr6,Zdx,hr34,hr35]
           refine sp bd hh (fun _ hh =>?_) (fun _ hh =>?_)
           ·cases hh
            try simp only[ak,seval,hr1,hr2,hr5,hr6,Zdx,hr34,hr35]
            rw[au]
            refine⟨_,rfl,?_⟩
            refine⟨v7dx,?_,?_,?_,?_,?_,?_,?_,?_,?_⟩
            all_goals first|rfl|(simp only[ak,seval,hr1,hr2,hr5,hr6,Zdx,hr34,hr35]<;>rfl)
           ·cases hh
            try simp only[ak,seval,hr1,hr2,hr5,hr6,Zdx,hr34,hr35]
            rw[au]
            refine⟨_,rfl,?_⟩
            refine⟨v7dx,?_,?_,?_,?_,?_,?_,?_,?_,?_⟩
            all_goals first|rfl|(simp only[ak,seval,hr1,hr2,hr5,hr6,Zdx,hr34,hr35]<;>rfl)
     ·clear hh
      have hh:=ho9
      try simp only[ak,seval,hr1,hr2,hr5,hr6,Zj2]
      refine sp bd hh (fun _ hh =>?_) (fun _ hh =>?_)
      ·cases hh
       try simp only[ak,seval,hr1,hr2,hr5,hr6,Zj2]
       rw[au]
       refine⟨_,rfl,?_⟩
       refine⟨v4j2,v7j2,?_,?_,?_,?_,?_,?_,?_,?_,?_,?_⟩
       all_goals first|rfl|(simp only[ak,seval,hr1,hr2,hr5,hr6,Zj2]<;>rfl)
      ·try simp only[ak,seval,hr1,hr2,hr5,hr6,Zj2]
       refine sp bd hh (fun _ hh =>?_) (fun _ hh =>?_)
       ·cases hh
        try simp only[ak,seval,hr1,hr2,hr5,hr6,Zj2]
        rw[au]
        refine⟨_,rfl,?_⟩
        refine⟨v4j2,v7j2,?_,?_,?_,?_,?_,?_,?_,?_,?_,?_⟩
        all_goals first|rfl|(simp only[ak,seval,hr1,hr2,hr5,hr6,Zj2]<;>rfl)
       ·cases hh
        try simp only[ak,seval,hr1,hr2,hr5,hr6,Zj2]
        rw[au]
        refine⟨_,rfl,?_⟩
        refine⟨v4j2,v7j2,?_,?_,?_,?_,?_,?_,?_,?_,?_,?_⟩
        all_goals first|rfl|(simp only[ak,seval,hr1,hr2,hr5,hr6,Zj2]<;>rfl)
   ·clear hh
    have hh:=ho7
    try simp only[ak,seval,hr1,hr2,Zj1,hr5,hr6]
    refine sp bd hh (fun _ hh =>?_) (fun _ hh =>?_)
    ·cases hh
     try simp only[ak,seval,hr1,hr2,Zj1,hr5,hr6]
     rw[au]
     refine⟨_,rfl,?_⟩
     refine⟨v4j1,v7j1,?_,?_,?_,?_,?_,?_,?_,?_,?_,?_⟩
     all_goals first|rfl|(simp only[ak,seval,hr1,hr2,Zj1,hr5,hr6]<;>rfl)
    ·cases hh
     try simp only[ak,seval,hr1,hr2,Zj1,hr5,hr6]
     rw[au]
     refine⟨_,rfl,?_⟩
     refine⟨v4j1,v7j1,?_,?_,?_,?_,?_,?_,?_,?_,?_,?_⟩
     all_goals first|rfl|(simp only[ak,seval,hr1,hr2,Zj1,hr5,hr6]<;>rfl)
 ·clear hh
  have hh:=ho3
  try simp only[ak,seval,hr1,hr2]
  refine sp bd hh (fun _ hh =>?_) (fun _ hh =>?_)
  ·cases hh
   try simp only[ak,seval,hr1,hr2]
   rw[au]
   refine⟨_,rfl,?_⟩
   refine⟨0,0,?_,?_,?_,?_,?_,?_,?_,?_⟩
   all_goals first|rfl|(simp only[ak,seval,hr1,hr2]<;>rfl)
  ·obtain⟨r78,hr78,hh⟩:=ah hh
   try simp only[ak,seval,hr1,hr2,hr78]
   refine sp bd hh (fun _ hh =>?_) (fun _ hh =>?_)
   ·cases hh
    try simp only[ak,seval,hr1,hr2,hr78]
    rw[au]
    refine⟨_,rfl,?_⟩
    refine⟨0,0,?_,?_,?_,?_,?_,?_,?_,?_⟩
    all_goals first|rfl|(simp only[ak,seval,hr1,hr2,hr78]<;>rfl)
   ·obtain⟨r80,hr80,hh⟩:=ah hh
    try simp only[ak,seval,hr1,hr2,hr78,hr80]
    refine sp bd hh (fun _ hh =>?_) (fun _ hh =>?_)
    ·cases hh
     try simp only[ak,seval,hr1,hr2,hr78,hr80]
     rw[au]
     refine⟨_,rfl,?_⟩
     refine⟨0,0,?_,?_,?_,?_,?_,?_,?_,?_⟩
     all_goals first|rfl|(simp only[ak,seval,hr1,hr2,hr78,hr80]<;>rfl)
    ·obtain⟨r82,hr82,hh⟩:=ah hh
     cases hh
     try simp only[ak,seval,hr1,hr2,hr78,hr80,hr82]
     rw[au]
     refine⟨_,rfl,?_⟩
     refine⟨0,0,?_,?_,?_,?_,?_,?_,?_,?_⟩
     all_goals first|rfl|(simp only[ak,seval,hr1,hr2,hr78,hr80,hr82]<;>rfl)
theorem vW:bY Try.prog 4 wA:=bY.of (mode := .clean) tok vR mixed Try.func4 (by kernel_rfl) ⟨by kernel_rfl,by kernel_rfl⟩ (fun _=>ad4 (by kernel_rfl)) (fun x r h=>xb x.1 x.2.1 x.2.2.1 x.2.2.2 r h)
end Go.Proofs.Ytchndpjlijbplaa.Am
namespace Go.Proofs.Ytchndpjlijbplaa.Am
open Go.ChangeShapes Go.WideShapes Go.ChangeAt Go.RowKit Go.Proofs.Ytchndpjlijbplaa.P
set_option maxRecDepth 100000
set_option linter.unusedVariables false
theorem Try.own:ownKnob Try.prog.godebug=none:=by kernel_rfl
theorem Try.laidOut:laidOutB Try.prog=true:=by kernel_rfl
theorem VQ (n:Nat):Nz tab (n+1) 3 (eI .i64) (fun x=>(Lit.int .i64 x).wf=true):=opI Sc rfl rfl
theorem aap (n:Nat):Nz tab (n+2) 33 (NA (eI .i64)) (fun x=>(x.length*8<=140737488351232∧∀y∈x,(Lit.int .i64 y).wf=true)):=ZD IH rfl rfl (by rw[Sc];rfl) (VQ n)
def Ik (x:an):Prop:=(Lit.int .i64 x.ag).wf=true∧((x.aa.length*8<=140737488351232∧∀y∈x.aa,(Lit.int .i64 y).wf=true))
theorem YN (n:Nat):Nz tab (n+3) 39 eM (fun x=>Ik x):=opS (g:=fun y=>an.mk y.1 y.2) Pv rfl rfl (fun _=>rfl) (VP (VQ (n+1)) rfl (XN (aap n)))
def ik (x:al):Prop:=Ik x.aH∧(Ik x.aK)
theorem VR (n:Nat):Nz tab (n+4) 41 av (fun x=>ik x):=opS (g:=fun y=>al.mk y.1 y.2) Dm rfl rfl (fun _=>rfl) (VP (YN n) rfl (XN (YN n)))
def CC (x:di):Prop:=(Lit.int .i64 x.de).wf=true∧((Lit.int .i64 x.lN).wf=true∧(ik x.bg))
theorem aaq (n:Nat):Nz tab (n+5) 46 a7 (fun x=>CC x):=opS (g:=fun y=>di.mk y.1 y.2.1 y.2.2) II rfl rfl (fun _=>rfl) (VP (VQ (n+3)) rfl (VP (VQ (n+3)) rfl (XN (VR n))))
theorem aan (n:Nat):Nz tab (n+6) 22 (NA a7) (fun x=>(x.length*80<=140737488351232∧∀y∈x,CC y)):=ZD Pu rfl rfl (by rw[II];rfl) (aaq n)
def Av (x:bW):Prop:=(Lit.int .i64 x.aF).wf=true∧((x.ax.length*80<=140737488351232∧∀y∈x.ax,CC y))
theorem aao (n:Nat):Nz tab (n+7) 24 m5 (fun x=>Av x):=opS (g:=fun y=>bW.mk y.1 y.2) IG rfl rfl (fun _=>rfl) (VP (VQ (n+5)) rfl (XN (aan n)))
theorem YM (n:Nat):Nz tab (n+5) 25 (NA av) (fun x=>(x.length*64<=140737488351232∧∀y∈x,ik y)):=ZD Dl rfl rfl (by rw[Dm];rfl) (VR n)
theorem sf:TX tab 8 [24,25,25,41] (iQ (cW m5) (iQ (mB av) (iQ (mB av) (fP (cW av))))) (fun x=>Av x.1∧((x.2.1.length*64<=140737488351232∧∀y∈x.2.1,ik y)∧((x.2.2.1.length*64<=140737488351232∧∀y∈x.2.2.1,ik y)∧(ik x.2.2.2)))):=(ZB (oaS IG rfl (aao 1)) (ZB (aam Dl rfl (YM 3)) (ZB (aam Dl rfl (YM 3)) (abF (oaS Dm rfl (VR 4))))))
theorem q8 (law:∀(a0:bW) (a1:(List al)) (a2:(List al)) (a3:al),(Av a0)->((a1.length*64<=140737488351232∧∀y∈a1,ik y))->((a2.length*64<=140737488351232∧∀y∈a2,ik y))->(ik a3)->P.eT a0 a1 a2 a3=some true) (os:Os) (started:os.Started) (H:Type) (enc:TypeId×Value->H) :
  ReturnsInHanded {} Try.checked os 4 .any (Rows.solveLinearSpec.pre6 enc Try.prog Try.f4 Rows.solveLinearRow.domain false) (Rows.solveLinearSpec.post enc Try.prog Try.f4 false true false false):=by
 refine Pm (C:=Try.checked) (T:=tab) (tb:=4) (n:=8) tok Try.own started (by kernel_rfl) Try.func4
  (ChangeSpec.witness6 (enc:=enc) (C:=Try.checked) false ⟨#[],#[.agg #[.int .i64 0,.slice none 0 0],.slice none 0 0,.slice none 0 0,.agg #[.int .i64 0,.slice none 0 0,.int .i64 0,.slice none 0 0]],[]⟩ 8 (by kernel_rfl) (by kernel_rfl) (by kernel_rfl) (by kernel_rfl)) Try.laidOut (by kernel_rfl) rfl (by kernel_rfl) rfl (fun ds hds =>?_) (fun ar hl hs =>?_)
 ·rw[Try.params4]at hds
  match ds,hds with
  | [d0,d1,d2,d3],_=>exact⟨rfl,rfl,rfl⟩
 ·rw[Try.params4]at hl hs
  exact Zt sf vW (fun x hx=>law x.1 x.2.1 x.2.2.1 x.2.2.2 hx.1 hx.2.1 hx.2.2.1 hx.2.2.2) ar hl hs
theorem sd (law:∀(a0:bW) (a1:(List al)) (a2:(List al)) (a3:al),(Av a0)->((a1.length*64<=140737488351232∧∀y∈a1,ik y))->((a2.length*64<=140737488351232∧∀y∈a2,ik y))->(ik a3)->P.eT a0 a1 a2 a3=some true):Rows.SolveLinearSaid :=
 OpenClaim.holds_of_wide 4 Try.f4 rfl rfl rfl rfl rfl rfl rfl ⟨rfl,rfl,rfl,rfl,rfl⟩ rfl rfl rfl rfl rfl (by kernel_rfl) Try.func4 (by kernel_rfl)
  (of_decide_eq_true (by kernel_rfl)) (by unfold Func.isWrapper;first|(rw[if_pos (by decide +kernel)];kernel_rfl)|(rw[if_neg (by decide +kernel)];exact⟨rfl,rfl⟩))
  (fun os started H enc _=>q8 law os started H enc)
end Go.Proofs.Ytchndpjlijbplaa.Am
namespace Go.Proofs.Ytchndpjlijbplaa.P
open Go.RowKit
set_option linter.unusedSimpArgs false
set_option linter.unusedVariables false
def aZ (n:Nat):List Int:=if h:n=0 then [] else ((n % 1048576:Nat):Int)::aZ (n / 1048576)
termination_by n
decreasing_by omega
def dv:List Int->Int
 | []=>0
 | d::l=>d+1048576*dv l
def Dg (l:List Int):Prop:=∀d∈l,0<=d∧d<1048576
def pw (i:Nat):Int:=1048576 ^ i
theorem rl:pw 0=1:=rfl
theorem mw (i:Nat):pw (i+1)=1048576*pw i:=by unfold pw;rw[Int.pow_succ,aep]
theorem ov (i:Nat):0<pw i:=by unfold pw;exact Int.pow_pos (by decide)
theorem Iw (i j:Nat):pw (i+j)=pw i*pw j:=by unfold pw;rw[Int.pow_add]
theorem rj {i j:Nat} (h:i<=j):pw i<=pw j:=by
 obtain⟨k,rfl⟩:=Nat.le.dest h
 rw[Iw]
 have h1:=ov i
 have h2:=ov k
 calc pw i=pw i*1:=by rw[aeq]
  _<=pw i*pw k:=aer (by omega) (by omega)
theorem cN:aZ 0=[]:=by rw[aZ];rfl
theorem mF {n:Nat} (h:n≠0):aZ n=((n % 1048576:Nat):Int)::aZ (n / 1048576):=by rw[aZ,dif_neg h]
theorem sL {n:Nat} : aZ n=[]↔n=0:=by
 constructor
 ·intro h
  rcases acF n with h0|h0
  ·exact h0
  ·rw[mF (by omega)]at h;cases h
 ·rintro rfl;exact cN
theorem bQ:∀n:Nat,dv (aZ n)=n:=by
 intro n
 induction n using Nat.strongRecOn with
 | _ n ih =>
  rcases acF n with h0|h0
  ·subst h0;rw[cN];rfl
  ·rw[mF (by omega),dv,ih (n / 1048576) (by omega)]
   omega
theorem dK:∀n:Nat,Dg (aZ n):=by
 intro n
 induction n using Nat.strongRecOn with
 | _ n ih =>
  rcases acF n with h0|h0
  ·subst h0;rw[cN];intro d hd;cases hd
  ·rw[mF (by omega)]
   intro d hd
   rcases acu.1 hd with rfl|hd
   ·omega
   ·exact ih (n / 1048576) (by omega) d hd
theorem Dg.nil:Dg []:=fun d hd=>by cases hd
theorem Dg.cons {d:Int} {l:List Int} (h:Dg (d::l)):(0<=d∧d<1048576)∧Dg l:=⟨h d adO,fun x hx=>h x (adP _ hx)⟩
theorem Dg.mk {d:Int} {l:List Int} (h:0<=d∧d<1048576) (hl:Dg l):Dg (d::l):=fun x hx=>by
 rcases acu.1 hx with rfl|hx
 ·exact h
 ·exact hl x hx
theorem Dg.append {l m:List Int} (h:Dg l) (hm:Dg m):Dg (l++m):=fun x hx=>(adw.1 hx).elim (h x) (hm x)
theorem Dg.take {l:List Int} (h:Dg l) (n:Nat):Dg (l.take n):=fun x hx=>h x (ac7 hx)
theorem Dg.drop {l:List Int} (h:Dg l) (n:Nat):Dg (l.drop n):=fun x hx=>h x (ac5 hx)
theorem Dg.rep (n:Nat):Dg (List.replicate n 0):=fun x hx=>by rw[(List.mem_replicate.1 hx).2];omega
theorem Dg.set {l:List Int} (h:Dg l) (i:Nat) {x:Int} (hx:0<=x∧x<1048576):Dg (l.set i x):=fun y hy=>by
 rcases List.mem_or_eq_of_mem_set hy with hy|rfl
 ·exact h y hy
 ·exact hx
theorem Dg.get {l:List Int} (h:Dg l) {i:Nat} (hi:i<l.length):0<=l[i]∧l[i]<1048576:=h _ (acz hi)
theorem cO:∀ {l:List Int},Dg l->0<=dv l
 | [],_=>Int.le_refl _
 | d::l,h=>by
  have h1:=h.cons
  have:=cO h1.2
  simp only[dv]
  omega
theorem oK:∀ {l:List Int},Dg l->dv l<pw l.length
 | [],_=>by simp[dv,rl]
 | d::l,h=>by
  have h1:=h.cons
  have:=oK h1.2
  simp only[dv,List.length_cons,mw]
  omega
theorem jt:∀l m:List Int,dv (l++m)=dv l+pw l.length*dv m
 | [],m=>by simp[dv,rl]
 | d::l,m=>by
  rw[aed,dv,dv,jt l m,acN,mw,aes,aet]
  omega
theorem BB:∀n:Nat,dv (List.replicate n 0)=0
 | 0=>rfl
 | n+1=>by rw[adi,dv,BB n];rfl
theorem ju {l:List Int} {i:Nat} (h:i<l.length):dv (l.take (i+1))=dv (l.take i)+pw i*l[i]:=by
 have e:l.take (i+1)=l.take i++[l[i]]:=by rw[List.take_add_one];simp[h]
 rw[e,jt,acG,adt (by omega)]
 simp[dv]
theorem iW (l:List Int) {i:Nat} (h:i<=l.length):dv l=dv (l.take i)+pw i*dv (l.drop i):=by
 have:=jt (l.take i) (l.drop i)
 rw[ad9,acG,adt h]at this
 exact this
theorem sR {l:List Int} {i:Nat} (h:i<l.length) (x:Int):dv (l.set i x)=dv l+pw i*(x-l[i]):=by
 induction l generalizing i with
 | nil=>simp at h
 | cons d l ih =>
  cases i with
  | zero=>simp only[List.set_cons_zero,dv,rl,List.getElem_cons_zero];omega
  | succ i =>
   have:=ih (i:=i) (by simpa using h)
   simp only[List.set_cons_succ,dv,this,mw,List.getElem_cons_succ,aes,aet]
   omega
theorem Aq:∀ {l:List Int},Dg l->(∀h:l≠[],l.getLast h≠0)->aZ (dv l).toNat=l
 | [],_,_=>by simp[dv,cN]
 | d::l,h,hl=>by
  have h1:=h.cons
  have h2:=cO h1.2
  have hne:(dv (d::l)).toNat≠0:=by
   simp only[dv]
   intro h0
   have hd:d=0:=by omega
   have hv:dv l=0:=by omega
   cases l with
   | nil=>exact hl (by simp) (by simpa using hd)
   | cons e m =>
    have ih:=Aq h1.2 (fun hh=>by have:=hl (by simp);simpa using this)
    rw[hv]at ih
    simp[cN]at ih
  rw[mF hne]
  have e1:(dv (d::l)).toNat % 1048576=d.toNat:=by simp only[dv];omega
  have e2:(dv (d::l)).toNat / 1048576=(dv l).toNat:=by simp only[dv];omega
  rw[e1,e2]
  have hd:(d.toNat:Int)=d:=by omega
  rw[hd]
  cases l with
  | nil=>simp[dv,cN]
  | cons e m=>rw[Aq h1.2 (fun hh=>by have:=hl (by simp);simpa using this)]
theorem Sw:∀(n:Nat) (h:aZ n≠[]),(aZ n).getLast h≠0:=by
 intro n
 induction n using Nat.strongRecOn with
 | _ n ih =>
  intro h
  have hn:n≠0:=fun h0=>h (sL.2 h0)
  have e:=mF hn
  by_cases hq:n / 1048576=0
  ·have:aZ n=[((n % 1048576:Nat):Int)]:=by rw[e,hq,cN]
   simp only[this,List.getLast_singleton]
   omega
  ·have hne:aZ (n / 1048576)≠[]:=fun h0=>hq (sL.1 h0)
   have:=ih (n / 1048576) (by omega) hne
   simp only[e]
   rw[List.getLast_cons hne]
   exact this
theorem UI {a b:Nat} (h:aZ a=aZ b):a=b:=by
 have:=congrArg dv h
 rw[bQ,bQ]at this
 omega
theorem kG {n k:Nat} (h:(n:Int)<pw k):(aZ n).length<=k:=by
 induction k generalizing n with
 | zero =>
  rw[rl]at h
  have:n=0:=by omega
  rw[this,cN];simp
 | succ k ih =>
  by_cases h0:n=0
  ·rw[h0,cN];simp
  ·rw[mF h0,acN]
   rw[mw]at h
   have:=ih (n:=n / 1048576) (by omega)
   omega
theorem jd (n:Nat):(n:Int)<pw (aZ n).length:=by
 have:=oK (dK n)
 rwa [bQ]at this
theorem wK {n:Nat} (h:n≠0):pw ((aZ n).length-1)<=n∧0<(aZ n).length:=by
 induction n using Nat.strongRecOn with
 | _ n ih =>
  rw[mF h,acN]
  refine⟨?_,by omega⟩
  by_cases hq:n / 1048576=0
  ·rw[hq,cN];simp[rl];omega
  ·obtain⟨h1,h2⟩:=ih (n / 1048576) (by omega) hq
   have:(aZ (n / 1048576)).length+1-1=((aZ (n / 1048576)).length-1)+1:=by omega
   rw[this,mw]
   omega
theorem sA {x:Int} (h1 : -9223372036854775808<=x) (h2:x<9223372036854775808):jR .and .i64 x 1048575=x % 1048576:=by
 unfold jR
 simp only
 have e1:(BitVec.ofInt IntKind.i64.bits x &&& BitVec.ofInt IntKind.i64.bits 1048575).toNat=((x % 18446744073709551616).toNat) % 1048576:=by
  rw[BitVec.toNat_and,BitVec.toNat_ofInt,BitVec.toNat_ofInt]
  have e:((1048575:Int) % ((2 ^ IntKind.i64.bits:Nat):Int)).toNat=2 ^ 20-1:=by decide
  rw[e,aeu]
  rfl
 rw[e1,wrap64 (by omega) (by omega)]
 omega
theorem W9 {x:Int} (h1 : -9223372036854775808<=x) (h2:x<9223372036854775808):jR .and .i64 x 1=x % 2:=by
 unfold jR
 simp only
 have e1:(BitVec.ofInt IntKind.i64.bits x &&& BitVec.ofInt IntKind.i64.bits 1).toNat=((x % 18446744073709551616).toNat) % 2:=by
  rw[BitVec.toNat_and,BitVec.toNat_ofInt,BitVec.toNat_ofInt]
  have e:((1:Int) % ((2 ^ IntKind.i64.bits:Nat):Int)).toNat=2 ^ 1-1:=by decide
  rw[e,aeu]
  rfl
 rw[e1,wrap64 (by omega) (by omega)]
 omega
theorem M7 (x:Int):wc .i64 x 20=some (x / 1048576):=by
 unfold wc
 rw[if_neg (by decide)]
 have e:(2:Int) ^ (min (Int.toNat 20) IntKind.i64.bits)=1048576:=by decide
 rw[e,aev _ (by decide)]
theorem V3 {x:Int} (h0:0<=x) (h:x<8796093022208):D8 .i64 x 20=some (1048576*x):=by
 unfold D8
 rw[if_neg (by decide)]
 have e:(2:Int) ^ (min (Int.toNat 20) IntKind.i64.bits)=1048576:=by decide
 rw[e,wrap64 (by omega) (by omega),aep]
theorem Pe {x y:Int} (h0:0<=x) (h:x<8796093022208) (hy:0<=y∧y<1048576):jR .or .i64 (1048576*x) y=1048576*x+y:=by
 unfold jR
 simp only
 have e1:(BitVec.ofInt IntKind.i64.bits (1048576*x) ||| BitVec.ofInt IntKind.i64.bits y).toNat=1048576*x.toNat+y.toNat:=by
  rw[BitVec.toNat_or,BitVec.toNat_ofInt,BitVec.toNat_ofInt]
  have e:((2 ^ IntKind.i64.bits:Nat):Int)=18446744073709551616:=by decide
  rw[e]
  have e2:((1048576*x) % 18446744073709551616).toNat=x.toNat <<< 20:=by rw[Nat.shiftLeft_eq];omega
  have e3:(y % 18446744073709551616).toNat=y.toNat:=by omega
  rw[e2,e3,<- Nat.shiftLeft_add_eq_or_of_lt (by omega),Nat.shiftLeft_eq]
  omega
 rw[e1,wrap64 (by omega) (by omega)]
 omega
theorem mk0 {n:Nat} (h:n<=17592186044416):D0 8 (n:Int) (n:Int) (0:Int)=some (List.replicate n 0):=by
 unfold D0
 rw[if_pos]
 ·simp
 ·have:(17592186044416:Int)<=maxLen:=by decide
  refine⟨by omega,by omega,by omega,?_⟩
  simp only[Int.toNat_natCast]
  omega
theorem I4 {l m:List Int} (h:l.length+m.length<=17592186044416):km 8 l m=some (l++m):=by
 unfold km
 have:(17592186044416:Nat)<=maxLen:=by decide
 rw[if_pos ⟨by omega,by omega⟩]
theorem dm {σ ρ:Type} {body:σ->Option (σ⊕ρ)} (I:Nat->σ->Prop) (n:Nat) (Q:ρ->Prop) {s:σ} (hI:I 0 s) (hn:n+1<FU)
  (hstep:∀i s,i<=n->I i s->(i<n∧∃s',body s=some (.inl s')∧I (i+1) s')∨(∃r,body s=some (.inr r)∧Q r)):∃r,ba body s=some r∧Q r:=by
 have key:∀(k i:Nat) (s:σ),i<=n->n-i<k->I i s->∃r,m6 body k s=some r∧Q r:=by
  intro k
  induction k with
  | zero=>intro i s _ h;omega
  | succ k ih =>
   intro i s hi hk hI
   rcases hstep i s hi hI with⟨hlt,s',h1,h2⟩|⟨r,h1,h2⟩
   ·obtain⟨r,h3,h4⟩:=ih (i+1) s' (by omega) (by omega) h2
    exact⟨r,by simp only[m6,h1];exact h3,h4⟩
   ·exact⟨r,by simp only[m6,h1],h2⟩
 exact key FU 0 s (acn _) (by omega) hI
theorem XS (i:Nat) (x:Int):pw (i+1)*x=pw i*(1048576*x):=by rw[mw,aep 1048576 (pw i),aet]
theorem yA (i:Nat) (t:Int):pw i*(t % 1048576)+pw (i+1)*(t / 1048576)=pw i*t:=by
 rw[XS,<- aes]
 congr 1
 omega
theorem lv {n:Nat} (h:n<=17592186044416):n+1<FU:=by unfold FU;omega
abbrev Fit (l:List Int):Prop:=l.length<=17592186044416
theorem j5 {x:Int} (h : -4611686018427387904<=x∧x<=4611686018427387904):IntKind.i64.wrap x=x:=wrap64 (by omega) (by omega)
theorem tf {α:Type} (o:Option α):(o.bind fun r=>some r)=o:=by cases o<;>rfl
theorem TA {l:List Int} (hl:Fit l):∃r,ba (mC l) (l.length:Int)=some r∧∃k:Nat,r=k∧k<=l.length∧(∀j (hj:j<l.length),k<=j->l[j]=0)∧(∀h:0<k,∀hk:k-1<l.length,l[k-1]≠0):=by
 unfold Fit at hl
 refine dm (I:=fun i s=>s=((l.length-i:Nat):Int)∧(∀j (hj:j<l.length),l.length-i<=j->l[j]=0)) l.length _ ⟨rfl,fun j hj h=>by omega⟩ (lv hl) ?_
 rintro i s hi ⟨rfl,hz⟩
 generalize hk:l.length-i=k at *
 simp only[mC]
 by_cases h0:0<k
 ·have hk1:k-1<l.length:=by omega
  have e:IntKind.i64.wrap ((k:Int)-1)=((k-1:Nat):Int):=by rw[j5 (by omega)];omega
  rw[if_pos (by simp;omega),e,cr hk1,adS]
  by_cases hx:l[k-1]=0
  ·left
   refine⟨by omega,_,by rw[if_pos (by simpa using hx)],by rw[show l.length-(i+1)=k-1 by omega],fun j hj h =>?_⟩
   by_cases hj':j=k-1
   ·subst hj';exact hx
   ·exact hz j hj (by omega)
  ·right
   exact⟨_,by rw[if_neg (by simpa using hx)],k,rfl,by omega,hz,fun _ _=>hx⟩
 ·right
  exact⟨_,by rw[if_neg (by simp;omega)],k,rfl,by omega,hz,fun h=>absurd h h0⟩
theorem UW {l:List Int} {k:Nat} (hz:∀j (hj:j<l.length),k<=j->l[j]=0):dv (l.drop k)=0:=by
 have:l.drop k=List.replicate (l.drop k).length 0:=by
  refine List.eq_replicate_of_mem fun x hx =>?_
  obtain⟨i,hi,rfl⟩:=List.mem_iff_getElem.1 hx
  rw[List.getElem_drop]
  exact hz _ _ (by omega)
 rw[this,BB]
theorem xH {l:List Int} (hl:Fit l) (hd:Dg l):dD l=some (aZ (dv l).toNat):=by
 obtain⟨r,h1,k,rfl,hk,hz,hlast⟩:=TA hl
 unfold dD
 rw[h1,adS,XW hk,adS]
 congr 1
 have h2:dv l=dv (l.take k):=by rw[iW l hk,UW hz];omega
 rw[h2]
 refine (Aq (hd.take k) fun hne =>?_).symm
 have hk0:0<k:=by
  rcases acF k with h|h
  ·subst h;simp at hne
  ·exact h
 have:=hlast hk0 (by omega)
 rw[List.getLast_eq_getElem]
 simp only[acG,List.getElem_take,adt hk]
 exact this
theorem AA {l:List Int} {n:Nat} (hl:Fit l) (hd:Dg l) (hn:dv l=n):dD l=some (aZ n):=by
 rw[xH hl hd,hn];rfl
def gd (l:List Int) (i:Nat):Int:=if h:i<l.length then l[i] else 0
theorem Q7 {l:List Int} (h:Dg l) (i:Nat):0<=gd l i∧gd l i<1048576:=by
 unfold gd
 split
 ·exact h.get _
 ·omega
theorem w4 {l:List Int} (i:Nat):dv (l.take (i+1))=dv (l.take i)+pw i*gd l i:=by
 unfold gd
 split
 ·exact ju _
 ·rw[adH (by omega),adH (by omega)];simp
theorem B1 {l:List Int} {i:Nat} (h:l.length<=i):dv (l.take i)=dv l:=by rw[adH h]
theorem T4 {a b:List Int} (ha:Dg a) (hb:Dg b) (hf:a.length<17592186044416) (hab:b.length<=a.length) :
  ∃r,ba (nT a b) (0,0,List.replicate (a.length+1) 0)=some r∧r.2.length=a.length+1∧Dg r.2∧(∀j (hj:j<r.2.length),a.length<=j->r.2[j]=0)∧(0<=r.1∧r.1<=1)∧dv r.2+pw a.length*r.1=dv a+dv b:=by
 refine dm (I:=fun i s=>s.2.1=(i:Int)∧s.2.2.length=a.length+1∧Dg s.2.2∧(∀j (hj:j<s.2.2.length),i<=j->s.2.2[j]=0)∧(0<=s.1∧s.1<=1)∧dv s.2.2+pw i*s.1=dv (a.take i)+dv (b.take i))
  a.length _ ⟨rfl,by simp,Dg.rep _,fun j hj _=>by simp,by simp,by simp[BB,dv]⟩ (lv (by omega)) ?_
 rintro i ⟨c,s,l⟩ hi ⟨h1,hl,hd,hz,hc,he⟩
 simp only at h1 hl hd hz hc he
 subst h1
 simp only[nT]
 by_cases hlt:i<a.length
 ·left
  rw[if_pos (by simpa using hlt),cr hlt,adS]
  have ga:=ha.get hlt
  have gb:=Q7 hb i
  have hT:(if decide ((i:Int)<(b.length:Int))=true then (P.idx b (i:Int)).bind fun x22=>some (IntKind.i64.wrap ((IntKind.i64.wrap (c+a[i]))+x22)) else some (IntKind.i64.wrap (c+a[i])))=some (c+a[i]+gd b i):=by
   by_cases hib:i<b.length
   ·rw[if_pos (by simpa using hib),cr hib,adS]
    have:gd b i=b[i]:=by unfold gd;rw[dif_pos hib]
    rw[this]at gb ⊢
    rw[j5 (x:=c+a[i]) (by omega),j5 (by omega)]
   ·rw[if_neg (by simpa using hib)]
    have:gd b i=0:=by unfold gd;rw[dif_neg hib]
    rw[this,j5 (by omega)];simp
  rw[hT,adS,cr (by omega),adS,M7,adS,sA (by omega) (by omega)]
  have hli:l[i]=0:=hz i (by omega) (acm _)
  have e1:IntKind.i64.wrap ((i:Int)+1)=((i+1:Nat):Int):=by rw[j5 (by omega)];omega
  refine⟨hlt,_,rfl,e1,by simpa using hl,hd.set _ (by omega),fun j hj hij =>?_,by simp only;omega,?_⟩
  ·simp only[Int.toNat_natCast]at hj ⊢
   rw[aew (by omega)]
   exact hz j (by simpa using hj) (by omega)
  ·simp only[Int.toNat_natCast]
   rw[sR (by omega),hli,w4,w4]
   have hga:gd a i=a[i]:=by unfold gd;rw[dif_pos hlt]
   rw[hga]
   have hp:=yA i (c+a[i]+gd b i)
   rw[aes,aes]at hp
   rw[Int.sub_zero]
   omega
 ·right
  have hia:i=a.length:=by omega
  subst hia
  refine⟨_,by rw[if_neg (by simp)],hl,hd,fun j hj h=>hz j hj h,hc,?_⟩
  rw[he,B1 (acm _),B1 hab]
theorem add_eq {a b:List Int} (ha:Dg a) (hb:Dg b) (hfa:a.length<17592186044416) (hfb:b.length<17592186044416):oI a b=some (aZ (dv a+dv b).toNat):=by
 have main:∀ {a b:List Int},Dg a->Dg b->a.length<17592186044416->b.length<=a.length ->
   ((D0 8 (IntKind.i64.wrap ((a.length:Int)+1)) (IntKind.i64.wrap ((a.length:Int)+1)) 0).bind fun x2 =>
    (ba (nT a b) (0,0,x2)).bind fun q=>match q with
    | (s6bx,l5bx) =>
     (P.idx l5bx (a.length:Int)).bind fun x23 =>
     (dD (l5bx.set ((a.length:Int)).toNat s6bx)).bind fun r26 =>
     some r26)=some (aZ (dv a+dv b).toNat):=by
  intro a b ha hb hfa hab
  have e:IntKind.i64.wrap ((a.length:Int)+1)=((a.length+1:Nat):Int):=by rw[j5 (by omega)];omega
  rw[e,mk0 (by omega),adS]
  obtain⟨⟨c,l⟩,h1,h2,h3,h4,h5,h6⟩:=T4 ha hb hfa hab
  rw[h1]
  simp only[Option.bind_some]at h2 h3 h4 h5 h6 ⊢
  have hlt:a.length<l.length:=by omega
  rw[cr hlt,adS,adn,tf]
  have hv:dv (l.set a.length c)=dv a+dv b:=by
   rw[sR hlt,h4 _ hlt (acm _),Int.sub_zero,h6]
  rw[xH (by simp[Fit];omega) (h3.set _ (by omega)),hv]
 unfold oI
 by_cases h:a.length<b.length
 ·rw[if_pos (by simpa using h),adS,Int.add_comm]
  exact main hb ha hfb (by omega)
 ·rw[if_neg (by simpa using h),adS]
  exact main ha hb hfa (by omega)
theorem sI {l:List Int} (h:Fit l):ct l=some l:=by
 unfold ct
 rw[I4 (by simpa using h),ad3]
theorem Vg {l:List Int} {i:Nat} (h:i<l.length):gd l i=l[i]:=by unfold gd;rw[dif_pos h]
theorem Vf {l:List Int} {i:Nat} (h:l.length<=i):gd l i=0:=by unfold gd;rw[dif_neg (by omega)]
theorem Wj {a b:List Int} (ha:Dg a) (hb:Dg b) (hf:Fit a) (hab:b.length<=a.length) (hle:dv b<=dv a) :
  ∃l,ba (qy b a) (0,0,a)=some l∧l.length=a.length∧Dg l∧dv l=dv a-dv b:=by
 unfold Fit at hf
 refine dm (I:=fun i s=>s.2.1=(i:Int)∧s.2.2.length=a.length∧Dg s.2.2∧(∀j (hj:j<s.2.2.length) (hj':j<a.length),i<=j->s.2.2[j]=a[j])∧(0<=s.1∧s.1<=1)∧dv s.2.2+dv (b.take i)=dv a+pw i*s.1)
  a.length _ ⟨rfl,rfl,ha,fun j hj _ _=>rfl,by simp,by simp[dv]⟩ (lv (by omega)) ?_
 rintro i ⟨c,s,l⟩ hi ⟨h1,hl,hd,hz,hc,he⟩
 simp only at h1 hl hd hz hc he
 subst h1
 simp only[qy]
 by_cases hlt:i<a.length
 ·left
  have hli:i<l.length:=by omega
  rw[if_pos (by simpa using hlt),cr hli,adS,hz i hli hlt (acm _)]
  have ga:=ha.get hlt
  have gb:=Q7 hb i
  have hT:(if decide ((i:Int)<(b.length:Int))=true then (P.idx b (i:Int)).bind fun x18=>some (IntKind.i64.wrap ((IntKind.i64.wrap (a[i]-c))-x18)) else some (IntKind.i64.wrap (a[i]-c)))=some (a[i]-c-gd b i):=by
   by_cases hib:i<b.length
   ·rw[if_pos (by simpa using hib),cr hib,adS]
    rw[Vg hib]at gb ⊢
    rw[j5 (x:=a[i]-c) (by omega),j5 (by omega)]
   ·rw[if_neg (by simpa using hib),Vf (by omega),j5 (by omega)];simp
  rw[hT,adS,M7,adS,sA (by omega) (by omega),W9 (by omega) (by omega)]
  have e1:IntKind.i64.wrap ((i:Int)+1)=((i+1:Nat):Int):=by rw[j5 (by omega)];omega
  refine⟨hlt,_,rfl,e1,by simpa using hl,hd.set _ (by omega),fun j hj hj' hij =>?_,by simp only;omega,?_⟩
  ·simp only[Int.toNat_natCast]at hj ⊢
   rw[aew (by omega)]
   exact hz j (by simpa using hj) hj' (by omega)
  ·simp only[Int.toNat_natCast]
   rw[sR hli,hz i hli hlt (acm _),w4]
   have hp:=yA i (a[i]-c-gd b i)
   have hb2:(a[i]-c-gd b i) / 1048576 % 2 = - ((a[i]-c-gd b i) / 1048576):=by omega
   rw[hb2,Int.mul_neg]
   rw[aex,aex]at hp
   rw[aex]
   omega
 ·right
  have hia:i=a.length:=by omega
  subst hia
  refine⟨l,by rw[if_neg (by simp)],hl,hd,?_⟩
  rw[B1 hab]at he
  have h1:=oK hd
  rw[hl]at h1
  have hc0:c=0:=by
   rcases (show c=0∨c=1 by omega) with h|h
   ·exact h
   ·subst h;omega
  subst hc0
  omega
theorem sub_eq {a b:List Int} (ha:Dg a) (hb:Dg b) (hf:Fit a) (hab:b.length<=a.length) (hle:dv b<=dv a):ng a b=some (aZ (dv a-dv b).toNat):=by
 obtain⟨l,h1,h2,h3,h4⟩:=Wj ha hb hf hab hle
 unfold ng
 rw[sI hf,adS,h1,adS,tf,xH (by unfold Fit at *;omega) h3,h4]
theorem mj {l:List Int} {i:Nat} (h:i<l.length):dv (l.drop i)=l[i]+1048576*dv (l.drop (i+1)):=by
 rw[aeh h,dv]
theorem Z6 {x d:Int} (h:0<=x) (hd:0<d) (hx:x<4611686018427387904):Bm .i64 x d=some (x / d):=by
 unfold Bm
 rw[if_neg (by omega),Int.tdiv_eq_ediv_of_nonneg h,j5]
 have:=aey h (Int.le_of_lt hd)
 have:=Int.ediv_le_self d h
 omega
theorem aal {x d:Int} (h:0<=x) (hd:0<d):Ig .i64 x d=some (x % d):=by
 unfold Ig
 rw[if_neg (by omega),Int.tmod_eq_emod_of_nonneg h]
theorem Pq {a:List Int} {d:Int} (ha:Dg a) (hd:0<d∧d<=1048576) (hf:Fit a) :
  ∃r,ba (nf a d) (0,IntKind.i64.wrap ((a.length:Int)-1),List.replicate a.length 0)=some r∧r.2.length=a.length∧Dg r.2∧(0<=r.1∧r.1<d)∧dv a=d*dv r.2+r.1:=by
 unfold Fit at hf
 have e0:IntKind.i64.wrap ((a.length:Int)-1)=(a.length:Int)-1:=j5 (by omega)
 rw[e0]
 refine dm (I:=fun i s=>s.2.1=((a.length-i:Nat):Int)-1∧s.2.2.length=a.length∧Dg s.2.2∧(0<=s.1∧s.1<d)∧dv (a.drop (a.length-i))=d*dv (s.2.2.drop (a.length-i))+s.1)
  a.length _ ⟨rfl,by simp,Dg.rep _,by simp;omega,by simp[dv]⟩ (lv (by omega)) ?_
 rintro i ⟨r,s,l⟩ hi ⟨h1,hl,hg,hr,he⟩
 simp only at h1 hl hg hr he
 subst h1
 generalize hk:a.length-i=k at *
 simp only[nf]
 by_cases h0:0<k
 ·left
  have hk1:k-1<a.length:=by omega
  have hk2:k-1<l.length:=by omega
  have ek:((k:Int)-1)=((k-1:Nat):Int):=by omega
  have ga:=ha.get hk1
  rw[ek,if_pos (by simp),V3 (by omega) (by omega),adS,cr hk1,adS,Pe (by omega) (by omega) ga,Z6 (by omega) hd.1 (by omega),adS,cr hk2,adS,aal (by omega) hd.1,adS]
  have e1:IntKind.i64.wrap (((k-1:Nat):Int)-1)=((k-1:Nat):Int)-1:=j5 (by omega)
  have hx0:0<=1048576*r+a[k-1]:=by omega
  have hq0:0<=(1048576*r+a[k-1]) / d:=aey hx0 (by omega)
  have hq1:(1048576*r+a[k-1]) / d<1048576:=by
   apply aez hd.1
   have:1048576*r<=1048576*(d-1):=aer (by omega) (by omega)
   omega
  have hm0:=Int.emod_nonneg (1048576*r+a[k-1]) (show d≠0 by omega)
  have hm1:=aeA (1048576*r+a[k-1]) hd.1
  refine⟨by omega,_,rfl,by rw[e1,show a.length-(i+1)=k-1 by omega],by simpa using hl,hg.set _ ⟨hq0,hq1⟩,⟨hm0,hm1⟩,?_⟩
  simp only[Int.toNat_natCast]
  rw[show a.length-(i+1)=k-1 by omega,mj hk1,mj (l:=l.set (k-1) _) (i:=k-1) (by simpa using hk2),show k-1+1=k by omega,List.getElem_set_self,List.drop_set_of_lt (by omega),he]
  have:=aeB (1048576*r+a[k-1]) d
  rw[aes,aes]
  have e3:d*(1048576*dv (l.drop k))=1048576*(d*dv (l.drop k)):=by rw[<- aet,aep d,aet]
  rw[e3]
  omega
 ·right
  have:k=0:=by omega
  subst this
  refine⟨(r,l),by rw[if_neg (by simp)],hl,hg,hr,?_⟩
  simpa using he
theorem M6 {a:List Int} {d:Int} (ha:Dg a) (hd:0<d∧d<=1048576) (hf:Fit a):kF a d=some (aZ (dv a / d).toNat,dv a % d):=by
 obtain⟨⟨r,l⟩,h1,h2,h3,h4,h5⟩:=Pq ha hd hf
 unfold kF
 rw[mk0 hf,adS,h1,adS]
 simp only at h2 h3 h4 h5 ⊢
 rw[xH (by unfold Fit at *;omega) h3,adS]
 have e1:dv a / d=dv l:=by
  rw[h5,aep,Int.add_comm,Int.add_mul_ediv_right _ _ (by omega),Int.ediv_eq_zero_of_lt h4.1 h4.2];omega
 have e2:dv a % d=r:=by
  rw[h5,aep,Int.add_comm,Int.add_mul_emod_self_right]
  exact Int.emod_eq_of_lt h4.1 h4.2
 rw[e1,e2]
theorem Tn {b l0:List Int} {x:Int} {i n:Nat} (hb:Dg b) (hx:0<=x∧x<1048576) (h0:Dg l0) (hn:l0.length=n) (hi:i+b.length<n) (hf:n<=17592186044416) (hz:∀j (hj:j<l0.length),i+b.length<=j->l0[j]=0) :
  ∃r,ba (qw b (i:Int) x) (0,0,l0)=some r∧r.2.length=n∧Dg r.2∧(0<=r.1∧r.1<1048576)∧(∀j (hj:j<r.2.length),i+b.length<=j->r.2[j]=0)∧dv r.2+pw (i+b.length)*r.1=dv l0+pw i*(x*dv b):=by
 refine dm (I:=fun k s=>s.2.1=(k:Int)∧s.2.2.length=n∧Dg s.2.2∧(0<=s.1∧s.1<1048576)∧(∀j (hj:j<s.2.2.length),i+b.length<=j->s.2.2[j]=0)∧dv s.2.2+pw (i+k)*s.1=dv l0+pw i*(x*dv (b.take k)))
  b.length _ ⟨rfl,hn,h0,by simp,hz,by simp[dv]⟩ (lv (by omega)) ?_
 rintro k ⟨c,s,l⟩ hk ⟨h1,hl,hd,hc,hz,he⟩
 simp only at h1 hl hd hc hz he
 subst h1
 simp only[qw]
 by_cases hlt:k<b.length
 ·left
  have hik:i+k<l.length:=by omega
  have ei:IntKind.i64.wrap ((i:Int)+(k:Int))=((i+k:Nat):Int):=by rw[j5 (by omega)];omega
  have gb:=hb.get hlt
  have gl:=hd.get hik
  have hm0:0<=x*b[k]:=aeC hx.1 gb.1
  have hm1:x*b[k]<=1048575*1048575:=Int.mul_le_mul (by omega) (by omega) gb.1 (by omega)
  rw[if_pos (by simpa using hlt),cr hlt,adS,ei,cr hik,adS,j5 (x:=x*b[k]) (by omega),j5 (x:=l[i+k]+x*b[k]) (by omega),j5 (x:=l[i+k]+x*b[k]+c) (by omega),M7,adS,sA (by omega) (by omega)]
  have e1:IntKind.i64.wrap ((k:Int)+1)=((k+1:Nat):Int):=by rw[j5 (by omega)];omega
  refine⟨hlt,_,rfl,e1,by simpa using hl,hd.set _ (by omega),by simp only;omega,fun j hj hij =>?_,?_⟩
  ·simp only[Int.toNat_natCast]at hj ⊢
   rw[aew (by omega)]
   exact hz j (by simpa using hj) hij
  ·simp only[Int.toNat_natCast]
   rw[sR hik,ju hlt]
   have hp:=yA (i+k) (l[i+k]+x*b[k]+c)
   rw[aes (pw (i+k)),aes (pw (i+k))]at hp
   have e2:pw i*(x*(dv (b.take k)+pw k*b[k]))=pw i*(x*dv (b.take k))+pw (i+k)*(x*b[k]):=by
    rw[aes,aes,Iw]
    congr 1
    rw[aeD x,<- aet]
   rw[e2,aex,show i+(k+1)=i+k+1 by omega]
   omega
 ·right
  have hkb:k=b.length:=by omega
  subst hkb
  refine⟨(c,l),by rw[if_neg (by simp)],hl,hd,hc,hz,?_⟩
  rw[he,aen]
theorem Tl {a b:List Int} (ha:Dg a) (hb:Dg b) (hf:a.length+b.length<=17592186044416) :
  ∃l,ba (qv a b) (0,List.replicate (a.length+b.length) 0)=some l∧l.length=a.length+b.length∧Dg l∧dv l=dv a*dv b:=by
 refine dm (I:=fun i s=>s.1=(i:Int)∧s.2.length=a.length+b.length∧Dg s.2∧(∀j (hj:j<s.2.length),i+b.length<=j->s.2[j]=0)∧dv s.2=dv (a.take i)*dv b)
  a.length _ ⟨rfl,by simp,Dg.rep _,fun j hj _=>by simp,by simp[dv,BB]⟩ (lv (by omega)) ?_
 rintro i ⟨s,l⟩ hi ⟨h1,hl,hd,hz,he⟩
 simp only at h1 hl hd hz he
 subst h1
 simp only[qv]
 by_cases hlt:i<a.length
 ·left
  have ga:=ha.get hlt
  obtain⟨⟨c,m⟩,g1,g2,g3,g4,g5,g6⟩:=Tn (i:=i) (n:=a.length+b.length) hb ga hd hl (by omega) hf hz
  rw[if_pos (by simpa using hlt),cr hlt,adS,g1,adS]
  simp only at g2 g3 g4 g5 g6 ⊢
  have ei:IntKind.i64.wrap ((i:Int)+(b.length:Int))=((i+b.length:Nat):Int):=by rw[j5 (by omega)];omega
  have hib:i+b.length<m.length:=by omega
  rw[ei,cr hib,adS,g5 _ hib (acm _),Int.zero_add,j5 (x:=c) (by omega)]
  have e1:IntKind.i64.wrap ((i:Int)+1)=((i+1:Nat):Int):=by rw[j5 (by omega)];omega
  refine⟨hlt,_,rfl,e1,by simpa using g2,g3.set _ g4,fun j hj hij =>?_,?_⟩
  ·simp only[Int.toNat_natCast]at hj ⊢
   rw[aew (by omega)]
   exact g5 j (by simpa using hj) (by omega)
  ·simp only[Int.toNat_natCast]
   rw[sR hib,g5 _ hib (acm _),Int.sub_zero,g6,he,ju hlt,aeE,aet]
 ·right
  have hia:i=a.length:=by omega
  subst hia
  refine⟨l,by rw[if_neg (by simp)],hl,hd,?_⟩
  rw[he,aen]
theorem mul_eq {a b:List Int} (ha:Dg a) (hb:Dg b) (hf:a.length+b.length<=17592186044416):nd a b=some (aZ (dv a*dv b).toNat):=by
 obtain⟨l,h1,h2,h3,h4⟩:=Tl ha hb hf
 unfold nd
 have e:IntKind.i64.wrap ((a.length:Int)+(b.length:Int))=((a.length+b.length:Nat):Int):=by rw[j5 (by omega)];omega
 rw[e,mk0 hf,adS,h1,adS,tf,xH (by unfold Fit;omega) h3,h4]
def js (x y:Int):Int:=if x<y then -1 else if y<x then 1 else 0
theorem yi (x y:Int):ee x y=some (js x y):=by
 unfold ee lX js
 simp only[bne_self_eq_false,Option.bind_some,acX,if_false,decide_eq_true_eq]
 split
 ·rfl
 ·split<;>rfl
theorem JO {a b:List Int} (ha:Dg a) (hb:Dg b) (hf:Fit a) (hl:a.length=b.length):eE a b=some (js (dv a) (dv b)):=by
 unfold Fit at hf
 unfold eE
 rw[if_neg (by simp;omega)]
 have e0:IntKind.i64.wrap ((a.length:Int)-1)=(a.length:Int)-1:=j5 (by omega)
 rw[e0]
 have key:∃r,ba (ld a b) ((a.length:Int)-1)=some r∧(match r with | .inl _=>js (dv a) (dv b)=0 | .inr x=>x=js (dv a) (dv b)):=by
  refine dm (I:=fun i s=>s=((a.length-i:Nat):Int)-1∧a.drop (a.length-i)=b.drop (a.length-i)) a.length _ ⟨rfl,?_⟩ (lv hf) ?_
  ·rw[ad6 (by omega),ad6 (by omega)]
  rintro i s hi ⟨rfl,he⟩
  generalize hk:a.length-i=k at *
  simp only[ld]
  by_cases h0:0<k
  ·have h1:k-1<a.length:=by omega
   have h2:k-1<b.length:=by omega
   have ek:((k:Int)-1)=((k-1:Nat):Int):=by omega
   rw[ek,if_pos (by simp),cr h1,adS,cr h2,adS]
   by_cases hx:a[k-1]=b[k-1]
   ·left
    rw[if_neg (by simpa using hx)]
    refine⟨by omega,_,rfl,by rw[j5 (by omega)];omega,?_⟩
    rw[show a.length-(i+1)=k-1 by omega,aeh h1,aeh h2,hx,show k-1+1=k by omega,he]
   ·right
    rw[if_pos (by simpa using hx),yi,adS]
    refine⟨_,rfl,?_⟩
    simp only
    have ea:=iW a (i:=k) (by omega)
    have eb:=iW b (i:=k) (by omega)
    have ta:=ju h1
    have tb:=ju h2
    rw[show k-1+1=k by omega]at ta tb
    have la:=oK (ha.take (k-1))
    have lb:=oK (hb.take (k-1))
    rw[acG,adt (by omega)]at la lb
    have na:=cO (ha.take (k-1))
    have nb:=cO (hb.take (k-1))
    have hp:=ov (k-1)
    rw[ta]at ea
    rw[tb]at eb
    rw[he]at ea
    unfold js
    rcases Int.lt_or_gt_of_ne hx with hlt|hlt
    ·have:pw (k-1)*a[k-1]+pw (k-1)<=pw (k-1)*b[k-1]:=by
      have:pw (k-1)*(a[k-1]+1)<=pw (k-1)*b[k-1]:=aer (by omega) (by omega)
      rwa [aes,aeq]at this
     rw[if_pos hlt,if_pos (by omega)]
    ·have:pw (k-1)*b[k-1]+pw (k-1)<=pw (k-1)*a[k-1]:=by
      have:pw (k-1)*(b[k-1]+1)<=pw (k-1)*a[k-1]:=aer (by omega) (by omega)
      rwa [aes,aeq]at this
     rw[if_neg (by omega),if_pos hlt,if_neg (by omega),if_pos (by omega)]
  ·right
   have:k=0:=by omega
   subst this
   refine⟨.inl (),by rw[if_neg (by simp)],?_⟩
   simp only[adI]at he
   simp[he,js]
 obtain⟨r,h1,h2⟩:=key
 rw[h1,adS]
 cases r with
 | inl u=>simp only at h2 ⊢;rw[h2]
 | inr x=>simp only at h2 ⊢;rw[h2]
theorem sK {m n:Nat} (h:(aZ m).length<(aZ n).length):m<n:=by
 have h1:=jd m
 have hn:n≠0:=fun h0=>by subst h0;rw[cN]at h;simp at h
 have h2:=wK hn
 have h3:=rj (i:=(aZ m).length) (j:=(aZ n).length-1) (by omega)
 omega
theorem ew {m n:Nat} (h:m<=n):(aZ m).length<=(aZ n).length:=by
 rcases ac8 (aZ n).length (aZ m).length with h1|h1
 ·have:=sK h1;omega
 ·exact h1
theorem vM {m n:Nat} (hm:Fit (aZ m)) (hn:Fit (aZ n)):eE (aZ m) (aZ n)=some (js m n):=by
 by_cases hl:(aZ m).length=(aZ n).length
 ·rw[JO (dK m) (dK n) hm hl,bQ,bQ]
 ·unfold eE
  rw[if_pos (by simp;omega),yi,tf]
  unfold js
  rcases Nat.lt_or_gt_of_ne hl with h|h
  ·have:=sK h
   rw[if_pos (by omega),if_pos (by omega)]
  ·have:=sK h
   rw[if_neg (by omega),if_pos (by omega),if_neg (by omega),if_pos (by omega)]
theorem IB {u v:List Int} {g:Int} (hu:Dg u) (hv:Dg v) (hg:0<=g∧g<=1048576) (hf:Fit u) (hl:v.length<=u.length) :
  ∃r,ba (j7 u v g) (0,0,u)=some r∧r.2.length=u.length∧Dg r.2∧(0<=r.1∧r.1<=1048576)∧dv r.2+g*dv v=dv u+pw u.length*r.1:=by
 unfold Fit at hf
 refine dm (I:=fun i s=>s.2.1=(i:Int)∧s.2.2.length=u.length∧Dg s.2.2∧(∀j (hj:j<s.2.2.length) (hj':j<u.length),i<=j->s.2.2[j]=u[j])∧(0<=s.1∧s.1<=1048576)∧dv s.2.2+g*dv (v.take i)=dv u+pw i*s.1)
  u.length _ ⟨rfl,rfl,hu,fun j hj _ _=>rfl,by simp,by simp[dv]⟩ (lv (by omega)) ?_
 rintro i ⟨c,s,l⟩ hi ⟨h1,hll,hd,hz,hc,he⟩
 simp only at h1 hll hd hz hc he
 subst h1
 simp only[j7]
 by_cases hlt:i<u.length
 ·left
  have hli:i<l.length:=by omega
  rw[if_pos (by simpa using hlt),cr hli,adS,hz i hli hlt (acm _)]
  have ga:=hu.get hlt
  have gb:=Q7 hv i
  have hm0:0<=g*gd v i:=aeC hg.1 gb.1
  have hm1:g*gd v i<=1048576*1048575:=Int.mul_le_mul (by omega) (by omega) gb.1 (by omega)
  have hT:(if decide ((i:Int)<(v.length:Int))=true then (P.idx v (i:Int)).bind fun x17=>some (IntKind.i64.wrap ((IntKind.i64.wrap (u[i]-c))-(IntKind.i64.wrap (g*x17)))) else some (IntKind.i64.wrap (u[i]-c)))=some (u[i]-c-g*gd v i):=by
   by_cases hib:i<v.length
   ·rw[if_pos (by simpa using hib),cr hib,adS]
    rw[Vg hib]at gb hm0 hm1 ⊢
    rw[j5 (x:=u[i]-c) (by omega),j5 (x:=g*v[i]) (by omega),j5 (by omega)]
   ·rw[if_neg (by simpa using hib),Vf (by omega),j5 (by omega)];simp
  rw[hT,adS,M7,adS,sA (by omega) (by omega),j5 (x:=0-_) (by omega)]
  have e1:IntKind.i64.wrap ((i:Int)+1)=((i+1:Nat):Int):=by rw[j5 (by omega)];omega
  refine⟨hlt,_,rfl,e1,by simpa using hll,hd.set _ (by omega),fun j hj hj' hij =>?_,by simp only;omega,?_⟩
  ·simp only[Int.toNat_natCast]at hj ⊢
   rw[aew (by omega)]
   exact hz j (by simpa using hj) hj' (by omega)
  ·simp only[Int.toNat_natCast]
   rw[sR hli,hz i hli hlt (acm _),w4]
   have hp:=yA i (u[i]-c-g*gd v i)
   rw[aex (pw i),aex (pw i)]at hp
   have e2:g*(dv (v.take i)+pw i*gd v i)=g*dv (v.take i)+pw i*(g*gd v i):=by rw[aes,aeD]
   rw[e2,aex (pw i),aex (pw (i+1)),aeF]
   omega
 ·right
  have hia:i=u.length:=by omega
  subst hia
  refine⟨(c,l),by rw[if_neg (by simp)],hll,hd,hc,?_⟩
  rw[B1 hl]at he
  exact he
theorem IC {u v:List Int} (hu:Dg u) (hv:Dg v) (hf:Fit u) (hl:v.length<=u.length) :
  ∃l,ba (j8 v u) (0,0,u)=some l∧l.length=u.length∧Dg l∧∃c,0<=c∧dv l+pw u.length*c=dv u+dv v:=by
 unfold Fit at hf
 refine dm (I:=fun i s=>s.2.1=(i:Int)∧s.2.2.length=u.length∧Dg s.2.2∧(∀j (hj:j<s.2.2.length) (hj':j<u.length),i<=j->s.2.2[j]=u[j])∧(0<=s.1∧s.1<=1)∧dv s.2.2+pw i*s.1=dv u+dv (v.take i))
  u.length _ ⟨rfl,rfl,hu,fun j hj _ _=>rfl,by simp,by simp[dv]⟩ (lv (by omega)) ?_
 rintro i ⟨c,s,l⟩ hi ⟨h1,hll,hd,hz,hc,he⟩
 simp only at h1 hll hd hz hc he
 subst h1
 simp only[j8]
 by_cases hlt:i<u.length
 ·left
  have hli:i<l.length:=by omega
  rw[if_pos (by simpa using hlt),cr hli,adS,hz i hli hlt (acm _)]
  have ga:=hu.get hlt
  have gb:=Q7 hv i
  have hT:(if decide ((i:Int)<(v.length:Int))=true then (P.idx v (i:Int)).bind fun x35=>some (IntKind.i64.wrap ((IntKind.i64.wrap (c+u[i]))+x35)) else some (IntKind.i64.wrap (c+u[i])))=some (c+u[i]+gd v i):=by
   by_cases hib:i<v.length
   ·rw[if_pos (by simpa using hib),cr hib,adS]
    rw[Vg hib]at gb ⊢
    rw[j5 (x:=c+u[i]) (by omega),j5 (by omega)]
   ·rw[if_neg (by simpa using hib),Vf (by omega),j5 (by omega)];simp
  rw[hT,adS,M7,adS,sA (by omega) (by omega)]
  have e1:IntKind.i64.wrap ((i:Int)+1)=((i+1:Nat):Int):=by rw[j5 (by omega)];omega
  refine⟨hlt,_,rfl,e1,by simpa using hll,hd.set _ (by omega),fun j hj hj' hij =>?_,by simp only;omega,?_⟩
  ·simp only[Int.toNat_natCast]at hj ⊢
   rw[aew (by omega)]
   exact hz j (by simpa using hj) hj' (by omega)
  ·simp only[Int.toNat_natCast]
   rw[sR hli,hz i hli hlt (acm _),w4]
   have hp:=yA i (c+u[i]+gd v i)
   rw[aes (pw i),aes (pw i)]at hp
   rw[aex (pw i)]
   omega
 ·right
  have hia:i=u.length:=by omega
  subst hia
  refine⟨l,by rw[if_neg (by simp)],hll,hd,c,hc.1,?_⟩
  rw[B1 hl]at he
  exact he
theorem Tv {u v:List Int} {g:Int} (hu:Dg u) (hv:Dg v) (hf:Fit u) (hl:v.length<=u.length) (hV:0<dv v) (hg0:dv u / dv v<=g) (hg1:g<=dv u / dv v+1) (hgB:g<=1048576) :
  ∃l,e9 u v g=some (l,dv u / dv v)∧l.length=u.length∧Dg l∧dv l=dv u % dv v:=by
 have hq0:0<=dv u / dv v:=aey (cO hu) (by omega)
 obtain⟨⟨c,l⟩,h1,h2,h3,h4,h5⟩:=IB hu hv ⟨by omega,hgB⟩ hf hl
 simp only at h2 h3 h4 h5
 have hm:=aeB (dv u) (dv v)
 have hm0:=Int.emod_nonneg (dv u) (show dv v≠0 by omega)
 have hm1:=aeA (dv u) hV
 have hll:=oK h3
 have hl0:=cO h3
 rw[h2]at hll
 have hp:=ov u.length
 have hvl:dv v<pw u.length:=Int.lt_of_lt_of_le (oK hv) (rj hl)
 unfold e9 nU
 rw[h1,adS]
 simp only
 rcases (show g=dv u / dv v∨g=dv u / dv v+1 by omega) with hg|hg
 ·have hgv:g*dv v=dv v*(dv u / dv v):=by rw[hg,aep]
  have hc0:c=0:=by
   rcases (show c=0∨1<=c by omega) with h|h
   ·exact h
   ·have:pw u.length*1<=pw u.length*c:=aer h (by omega)
    omega
  subst hc0
  rw[if_pos (by simp),adS,if_pos (by simpa using h2)]
  exact⟨l,by rw[hg],h2,h3,by rw[aeF]at h5;omega⟩
 ·have hgv:g*dv v=dv v*(dv u / dv v)+dv v:=by rw[hg,aeE,aeG,aep]
  have hc0:c≠0:=by
   intro h
   subst h
   rw[aeF]at h5
   omega
  obtain⟨m,g1,g2,g3,d,g4,g5⟩:=IC h3 hv (by unfold Fit at *;omega) (by omega)
  rw[if_neg (by simpa using hc0),g1,adS,adS,if_pos (by simp;omega)]
  refine⟨m,by rw[j5 (by omega),hg];simp,by omega,g3,?_⟩
  rw[h2]at g5
  have hml:=oK g3
  have hm0':=cO g3
  rw[g2,h2]at hml
  have hcd:c=d:=by
   rcases Int.lt_trichotomy c d with h|h|h
   ·have:pw u.length*(c+1)<=pw u.length*d:=aer (by omega) (by omega)
    rw[aes,aeq]at this
    omega
   ·exact h
   ·have:pw u.length*(d+1)<=pw u.length*c:=aer (by omega) (by omega)
    rw[aes,aeq]at this
    omega
  subst hcd
  omega
theorem OC {v u:List Int} {s13:Int} {v1 v2 w2 T V W:Int} {n:Nat} (hn:2<=n) (hlen:v.length=n) (hfv:n<=17592186044416) (i:Nat) (hs:s13=i) (hfi:i+n<=17592186044416)
  (hv2:P.idx v (((n-2:Nat)):Int)=some v2) (hw2:P.idx u (((i+n-2:Nat)):Int)=some w2)
  (b1:524288<=v1∧v1<1048576) (b2:0<=v2∧v2<1048576) (bw:0<=w2∧w2<1048576) (hT0:0<=T) (hT1:T<1048576*1048576)
  (hV:pw (n-2)*(v1*1048576+v2)<=V∧V<pw (n-2)*(v1*1048576+v2+1)) (hW:pw (n-2)*(T*1048576+w2)<=W∧W<pw (n-2)*(T*1048576+w2+1)) (hWV:W<1048576*V) :
  ∃g,ba (qu v s13 u v1) (T / v1,T % v1)=some g∧W / V<=g∧g<=W / V+1∧g<=1048576:=by
 subst hs
 have hp:=ov (n-2)
 have hVp:0<V:=by
  have:pw (n-2)*1<=pw (n-2)*(v1*1048576+v2):=aer (by omega) (by omega)
  omega
 have hW0:0<=W:=by
  have:0<=pw (n-2)*(T*1048576+w2):=aeC (by omega) (by omega)
  omega
 have hq0:0<=W / V:=aey hW0 (by omega)
 have hqB:W / V<1048576:=aez hVp hWV
 have hm:=aeB T v1
 have hm0:=Int.emod_nonneg T (show v1≠0 by omega)
 have hm1:=aeA T (show 0<v1 by omega)
 have hd0:0<=T / v1:=aey hT0 (by omega)
 have hd1:T / v1<=2097152:=by
  have:T / v1<2097153:=aez (by omega) (by
   have:2097153*524288<=2097153*v1:=aer b1.1 (by omega)
   omega)
  omega
 have hge:∀g r:Int,g*v1+r=T->W / V<=g->g*v2>r*1048576+w2->W / V<=g-1:=by
  intro g r h1 h2 h3
  have h4:W<g*V:=by
   have e1:g*(v1*1048576+v2)>=T*1048576+w2+1:=by
    rw[<- h1]
    have:g*(v1*1048576+v2)=g*v1*1048576+g*v2:=by rw[aes,aet]
    rw[this,aeE]
    omega
   have e2:pw (n-2)*(T*1048576+w2+1)<=pw (n-2)*(g*(v1*1048576+v2)):=aer e1 (by omega)
   have e3:g*(pw (n-2)*(v1*1048576+v2))<=g*V:=aer hV.1 (by omega)
   have e4:pw (n-2)*(g*(v1*1048576+v2))=g*(pw (n-2)*(v1*1048576+v2)):=aeD _ _ _
   omega
  have:=aez hVp h4
  omega
 have hle:∀g r:Int,g*v1+r=T->0<=g->g<=1048576->g*v2<=r*1048576+w2->g<=W / V+1:=by
  intro g r h1 h0 hB h3
  have e1:g*(v1*1048576+v2)<=T*1048576+w2:=by
   rw[<- h1]
   have:g*(v1*1048576+v2)=g*v1*1048576+g*v2:=by rw[aes,aet]
   rw[this,aeE]
   omega
  have e2:g*V<=W+V:=by
   have f1:g*V<=g*(pw (n-2)*(v1*1048576+v2+1)):=aer (by omega) h0
   have f2:g*(pw (n-2)*(v1*1048576+v2+1))=pw (n-2)*(g*(v1*1048576+v2))+pw (n-2)*g:=by
    rw[aeD,aes g,aeq,aes]
   have f3:pw (n-2)*(g*(v1*1048576+v2))<=pw (n-2)*(T*1048576+w2):=aer e1 (by omega)
   have f4:pw (n-2)*g<=pw (n-2)*(v1*1048576+v2):=aer (by omega) (by omega)
   omega
  have e3:(g-1)*V<=W:=by rw[Int.sub_mul,aeG];omega
  have:=Int.le_ediv_of_mul_le hVp e3
  omega
 have hbase:W / V<=T / v1:=by
  have e1:W<(T / v1+1)*V:=by
   have f1:T+1<=(T / v1+1)*v1:=by
    have:(T / v1+1)*v1=v1*(T / v1)+v1:=by rw[aeE,aeG,aep]
    omega
   have f2:T*1048576+w2+1<=(T / v1+1)*(v1*1048576+v2):=by
    have g1:(T+1)*1048576<=(T / v1+1)*v1*1048576:=aeH f1 (by omega)
    have g2:0<=(T / v1+1)*v2:=aeC (by omega) b2.1
    rw[aes,<- aet]
    omega
   have f3:pw (n-2)*(T*1048576+w2+1)<=pw (n-2)*((T / v1+1)*(v1*1048576+v2)):=aer f2 (by omega)
   have f4:(T / v1+1)*(pw (n-2)*(v1*1048576+v2))<=(T / v1+1)*V:=aer hV.1 (by omega)
   have f5:pw (n-2)*((T / v1+1)*(v1*1048576+v2))=(T / v1+1)*(pw (n-2)*(v1*1048576+v2)):=aeD _ _ _
   omega
  have:=aez hVp e1
  omega
 refine xa (I:=fun (s:Int×Int)=>s.1*v1+s.2=T∧W / V<=s.1∧s.1<=2097152∧0<=s.2) (μ:=fun (s:Int×Int)=>s.1.toNat) _ ⟨?_,hbase,hd1,hm0⟩ (by unfold FU;omega) ?_
 ·show T / v1*v1+T % v1=T
  rw[aep];exact hm
 rintro⟨g,r⟩ ⟨h1,h2,h3,h4⟩
 simp only at h1 h2 h3 h4
 have hgv:0<=g*v1:=aeC (by omega) (by omega)
 simp only[qu]
 have el:IntKind.i64.wrap ((v.length:Int)-2)=((n-2:Nat):Int):=by rw[hlen,j5 (by omega)];omega
 have ei:IntKind.i64.wrap ((IntKind.i64.wrap ((i:Int)+(v.length:Int)))-2)=((i+n-2:Nat):Int):=by rw[hlen,j5 (x:=(i:Int)+n) (by omega),j5 (by omega)];omega
 rw[el,ei]
 have hstep:W / V<=g-1->∃s':Int×Int,(some (Sum.inl (IntKind.i64.wrap (g-1),IntKind.i64.wrap (r+v1))):Option ((Int×Int)⊕Int))=some (.inl s')∧(s'.1*v1+s'.2=T∧W / V<=s'.1∧s'.1<=2097152∧0<=s'.2)∧s'.1.toNat<g.toNat:=by
  intro hlt
  refine⟨_,rfl,?_⟩
  rw[j5 (x:=g-1) (by omega),j5 (x:=r+v1) (by omega)]
  simp only
  refine⟨⟨by rw[Int.sub_mul,aeG];omega,hlt,by omega,by omega⟩,by omega⟩
 by_cases hgB:g>=1048576
 ·rw[if_pos (by simpa using hgB),adS,if_pos rfl]
  exact .inl (hstep (by omega))
 ·rw[if_neg (by simpa using hgB)]
  by_cases hr:r<1048576
  ·have hgv2:0<=g*v2:=aeC (by omega) b2.1
   have hgv2':g*v2<=1048576*1048576:=Int.mul_le_mul (by omega) (by omega) b2.1 (by omega)
   rw[if_pos (by simpa using hr),hv2,adS,V3 h4 (by omega),adS,hw2,adS,j5 (x:=g*v2) (by omega),Pe h4 (by omega) bw,adS]
   by_cases ht:g*v2>1048576*r+w2
   ·rw[if_pos (by simpa using ht)]
    exact .inl (hstep (hge g r h1 h2 (by omega)))
   ·rw[if_neg (by simpa using ht)]
    exact .inr ⟨g,rfl,h2,hle g r h1 (by omega) (by omega) (by omega),by omega⟩
  ·rw[if_neg (by simpa using hr),adS,if_neg (by simp)]
   refine .inr ⟨g,rfl,h2,hle g r h1 (by omega) (by omega) ?_,by omega⟩
   have:g*v2<=1048575*1048575:=Int.mul_le_mul (by omega) (by omega) b2.1 (by omega)
   have:1048576*1048576<=r*1048576:=aeH (by omega) (by omega)
   omega
theorem ZK {α:Type} {l:List α} {a b:Nat} (h:a<=b) (hb:b<=l.length):Al l (a:Int) (b:Int)=some ((l.drop a).take (b-a)):=by
 unfold Al
 rw[if_pos ⟨by omega,by omega,by omega⟩]
 simp
theorem Xn {l:List Int} {n:Nat} (hl:l.length=n) (hn:2<=n) (hd:Dg l) :
  pw (n-2)*((l[n-1]'(by omega))*1048576+l[n-2]'(by omega))<=dv l∧dv l<pw (n-2)*((l[n-1]'(by omega))*1048576+l[n-2]'(by omega)+1):=by
 have e:=iW l (i:=n-2) (by omega)
 rw[mj (by omega),mj (i:=n-2+1) (by omega),ad6 (by omega)]at e
 have e1:l[n-2+1]'(by omega)=l[n-1]'(by omega):=by congr 1;omega
 rw[e1]at e
 have h1:=cO (hd.take (n-2))
 have h2:=oK (hd.take (n-2))
 rw[acG,adt (by omega)]at h2
 simp only[dv]at e
 have e2:l[n-2]'(by omega)+1048576*(l[n-1]'(by omega)+1048576*0)=(l[n-1]'(by omega))*1048576+l[n-2]'(by omega):=by omega
 rw[e2]at e
 rw[aes (pw (n-2)) _ 1,aeq]
 omega
theorem Xo {l:List Int} {n:Nat} (hl:l.length=n+1) (hn:2<=n) (hd:Dg l) :
  pw (n-2)*((1048576*(l[n]'(by omega))+l[n-1]'(by omega))*1048576+l[n-2]'(by omega))<=dv l∧dv l<pw (n-2)*((1048576*(l[n]'(by omega))+l[n-1]'(by omega))*1048576+l[n-2]'(by omega)+1):=by
 have e:=iW l (i:=n-2) (by omega)
 rw[mj (by omega),mj (i:=n-2+1) (by omega),mj (i:=n-2+1+1) (by omega),ad6 (by omega)]at e
 have e1:l[n-2+1]'(by omega)=l[n-1]'(by omega):=by congr 1;omega
 have e3:l[n-2+1+1]'(by omega)=l[n]'(by omega):=by congr 1;omega
 rw[e1,e3]at e
 have h1:=cO (hd.take (n-2))
 have h2:=oK (hd.take (n-2))
 rw[acG,adt (by omega)]at h2
 simp only[dv]at e
 have e2:l[n-2]'(by omega)+1048576*(l[n-1]'(by omega)+1048576*(l[n]'(by omega)+1048576*0))=(1048576*(l[n]'(by omega))+l[n-1]'(by omega))*1048576+l[n-2]'(by omega):=by omega
 rw[e2]at e
 rw[aes (pw (n-2)) _ 1,aeq]
 omega
theorem UK {v u0:List Int} {n m:Nat} (hv:Dg v) (hvl:v.length=n) (hn:2<=n) (hv1:524288<=v[n-1]'(by omega)) (hu:Dg u0) (hul:u0.length=m+n) (hf:m+n<=17592186044416) (hdr:dv (u0.drop m)<dv v) :
  ∃r,ba (qt v) ((m:Int)-1,u0,List.replicate m 0)=some r∧r.1.length=m+n∧Dg r.1∧r.2.length=m∧Dg r.2∧dv r.1+dv v*dv r.2=dv u0∧dv r.1<dv v:=by
 have hvn:=oK hv
 rw[hvl]at hvn
 refine dm (I:=fun i s=>s.1=((m-i:Nat):Int)-1∧s.2.1.length=m+n∧Dg s.2.1∧s.2.2.length=m∧Dg s.2.2∧(∀j (hj:j<s.2.2.length),j<m-i->s.2.2[j]=0)∧dv s.2.1+dv v*dv s.2.2=dv u0∧dv (s.2.1.drop (m-i))<dv v)
  m _ ⟨rfl,hul,hu,by simp,Dg.rep _,fun j hj _=>by simp,by simp[BB],hdr⟩ (lv (by omega)) ?_
 rintro i ⟨s,u,q⟩ hi ⟨h1,hl,hd,hql,hqd,hz,he,hdr⟩
 simp only at h1 hl hd hql hqd hz he hdr
 subst h1
 generalize hk:m-i=k at *
 simp only[qt]
 by_cases h0:0<k
 ·left
  have ek:((k:Int)-1)=((k-1:Nat):Int):=by omega
  rw[ek,if_pos (by simp)]
  have e1:IntKind.i64.wrap (((k-1:Nat):Int)+(v.length:Int))=((k-1+n:Nat):Int):=by rw[hvl,j5 (by omega)];omega
  have e2:IntKind.i64.wrap (((k-1+n:Nat):Int)-1)=((k-1+n-1:Nat):Int):=by rw[j5 (by omega)];omega
  have e3:IntKind.i64.wrap ((v.length:Int)-1)=((n-1:Nat):Int):=by rw[hvl,j5 (by omega)];omega
  have e4:IntKind.i64.wrap (((k-1+n:Nat):Int)+1)=((k-1+n+1:Nat):Int):=by rw[j5 (by omega)];omega
  have e5:IntKind.i64.wrap (((k-1:Nat):Int)-1)=((k-1:Nat):Int)-1:=j5 (by omega)
  rw[e1,e2,e3,e4,e5]
  have i1:k-1+n<u.length:=by omega
  have i2:k-1+n-1<u.length:=by omega
  have i3:k-1+n-2<u.length:=by omega
  have iv:n-1<v.length:=by omega
  have iv2:n-2<v.length:=by omega
  have g1:=hd.get i1
  have g2:=hd.get i2
  have g3:=hd.get i3
  have gv:=hv.get iv
  have gv2:=hv.get iv2
  rw[cr i1,adS,V3 g1.1 (by omega),adS,cr i2,adS,cr iv,adS,Pe g1.1 (by omega) g2,Z6 (by omega) (by omega) (by omega),adS,aal (by omega) (by omega),adS,ZK (by omega) (by omega),show k-1+n+1-(k-1)=n+1 by omega]
  generalize hw:(u.drop (k-1)).take (n+1)=w
  have hwl:w.length=n+1:=by rw[<- hw,acG,acH];omega
  have hwd:Dg w:=by rw[<- hw];exact (hd.drop _).take _
  have hwg:∀j (hj:j<n+1),w[j]'(by omega)=u[k-1+j]'(by omega):=by
   intro j hj
   subst hw
   rw[List.getElem_take,List.getElem_drop]
  have hup:dv (u.drop (k+n))=0:=by
   have s1:=iW (u.drop k) (i:=n) (by rw[acH];omega)
   rw[ad8]at s1
   have n1:=cO ((hd.drop k).take n)
   have n2:=cO (hd.drop (k+n))
   have hp:=ov n
   rcases (show dv (u.drop (k+n))=0∨1<=dv (u.drop (k+n)) by omega) with h|h
   ·exact h
   ·have:pw n*1<=pw n*dv (u.drop (k+n)):=aer h (by omega)
    omega
  have hW:dv w=dv (u.drop (k-1)):=by
   have s1:=iW (u.drop (k-1)) (i:=n+1) (by rw[acH];omega)
   rw[ad8,show k-1+(n+1)=k+n by omega,hup,hw]at s1
   omega
  have hWk:dv w=u[k-1]+1048576*dv (u.drop k):=by
   rw[hW,mj (by omega),show k-1+1=k by omega]
  have gk:=hd.get (show k-1<u.length by omega)
  have hWV:dv w<1048576*dv v:=by omega
  have t2:=Xn hvl hn hv
  have t3:=Xo hwl hn hwd
  rw[hwg n (by omega),hwg (n-1) (by omega),hwg (n-2) (by omega)]at t3
  have a1:u[k-1+(n-1)]'(by omega)=u[k-1+n-1]'(by omega):=by congr 1;omega
  have a2:u[k-1+(n-2)]'(by omega)=u[k-1+n-2]'(by omega):=by congr 1;omega
  rw[a1,a2]at t3
  obtain⟨g,q1,q2,q3,q4⟩:=OC (s13:=((k-1:Nat):Int)) hn hvl (by omega) (k-1) rfl (by omega) (cr iv2) (cr i3) ⟨hv1,gv.2⟩ gv2 g3 (T:=1048576*u[k-1+n]+u[k-1+n-1]) (by omega) (by omega) t2 t3 hWV
  rw[q1,adS,adS]
  have hVp:0<dv v:=by
   have:=cO hwd
   omega
  obtain⟨l,r1,r2,r3,r4⟩:=Tv hwd hv (by unfold Fit;omega) (by omega) hVp q2 q3 q4
  have iq:k-1<q.length:=by omega
  rw[r1,adS,cr iq,adS]
  simp only
  have hq0:0<=dv w / dv v:=aey (cO hwd) (by omega)
  have hqB:dv w / dv v<1048576:=aez hVp hWV
  have hmod:=aeA (dv w) hVp
  simp only[Int.toNat_natCast]
  have hdl:dv (l++u.drop (k-1+n+1))=dv w % dv v:=by
   rw[jt,show k-1+n+1=k+n by omega,hup,r4];omega
  have hut:(u.take (k-1)).length=k-1:=by rw[acG];omega
  have hdu:dv (u.take (k-1)++(l++u.drop (k-1+n+1)))=dv (u.take (k-1))+pw (k-1)*(dv w % dv v):=by rw[jt,hut,hdl]
  refine⟨by omega,_,rfl,by rw[show m-(i+1)=k-1 by omega],?_,(hd.take _).append (r3.append (hd.drop _)),by simpa using hql,hqd.set _ ⟨hq0,hqB⟩,fun j hj hjk =>?_,?_,?_⟩
  ·simp only[adq,acG,acH];omega
  ·rw[aew (by omega)]
   exact hz j (by simpa using hj) (by omega)
  ·rw[hdu,sR iq,hz _ iq (by omega),Int.sub_zero,aes]
   have s2:=iW u (i:=k-1) (by omega)
   rw[<- hW]at s2
   have hm:=aeB (dv w) (dv v)
   have:pw (k-1)*dv w=dv v*(pw (k-1)*(dv w / dv v))+pw (k-1)*(dv w % dv v):=by
    rw[aeD,<- aes,hm]
   omega
  ·rw[show m-(i+1)=k-1 by omega,ad5,hut,ads,adI,ad6 (by omega),ad3,hdl]
   exact hmod
 ·right
  have:k=0:=by omega
  subst this
  refine⟨(u,q),by rw[if_neg (by simp)],hl,hd,hql,hqd,he,?_⟩
  simpa using hdr
theorem Pp {v:List Int} {t:Int} {n:Nat} (hl:v.length=n) (hn:0<n) (hf:n<=17592186044416) (ht:v[n-1]'(by omega)=t) (h1:1<=t) (h2:t<1048576) :
  ∃s,ba (qq v) 1=some s∧∃j:Nat,s=2 ^ j∧j<=19∧524288<=t*s∧t*s<1048576:=by
 refine dm (I:=fun i s=>s=2 ^ i∧t*s<1048576) 20 _ ⟨rfl,by omega⟩ (by unfold FU;omega) ?_
 rintro i s hi ⟨rfl,hb⟩
 have hp:(0:Int)<2 ^ i:=Int.pow_pos (by decide)
 have hpt:(2:Int) ^ i<=t*2 ^ i:=by
  have:1*(2:Int) ^ i<=t*2 ^ i:=aeH h1 (by omega)
  omega
 have hi20:i<=19:=by
  rcases ac8 19 i with h|h
  ·have hx:i=20:=by omega
   subst hx
   omega
  ·exact h
 simp only[qq]
 have e:IntKind.i64.wrap ((v.length:Int)-1)=((n-1:Nat):Int):=by rw[hl,j5 (by omega)];omega
 rw[e,cr (by omega),adS,ht,j5 (x:=t*2 ^ i) (by omega)]
 by_cases h:t*2 ^ i<524288
 ·left
  rw[if_pos (by simpa using h)]
  refine⟨by omega,_,rfl,by rw[j5 (by omega),Int.pow_succ],?_⟩
  rw[j5 (by omega),<- aet]
  omega
 ·right
  rw[if_neg (by simpa using h)]
  exact⟨_,rfl,i,rfl,hi20,by omega,hb⟩
theorem div_eq {m n:Nat} (hn:n≠0) (hfm:(aZ m).length<=17592186043904) (hfn:(aZ n).length<=17592186043904):oJ (aZ m) (aZ n)=some (aZ (m / n),aZ (m % n)):=by
 unfold oJ
 rw[vM (by unfold Fit;omega) (by unfold Fit;omega),adS]
 by_cases hlt:m<n
 ·have:js (m:Int) n<0:=by unfold js;rw[if_pos (by omega)];decide
  rw[if_pos (by simpa using this),sI (by unfold Fit;omega),adS,Nat.div_eq_of_lt hlt,adj hlt,cN]
 have:¬js (m:Int) n<0:=by unfold js;rw[if_neg (by omega)];split<;>decide
 rw[if_neg (by simpa using this)]
 obtain⟨hp1,hp2⟩:=wK hn
 have hnl:=jd n
 by_cases h1:(aZ n).length=1
 ·rw[if_pos (by simp;omega)]
  have hnB:(n:Int)<1048576:=by rw[h1]at hnl;simpa [pw] using hnl
  have e:aZ n=[(n:Int)]:=by
   rw[mF hn,Nat.div_eq_of_lt (by omega),cN,adj (by omega)]
  have ei:P.idx (aZ n) 0=some (n:Int):=by rw[e];rfl
  rw[ei,adS,M6 (dK m) ⟨by omega,by omega⟩ (by unfold Fit;omega),adS,bQ]
  have hm1:(m:Int) % n=((m % n:Nat):Int):=(Int.natCast_emod m n).symm
  have hm2:((m:Int) / n).toNat=m / n:=by
   rw[<- Int.natCast_ediv];rfl
  have hml:m % n<n:=Nat.mod_lt _ (by omega)
  simp only[hm1,hm2]
  rw[AA (n:=m % n) (by simp[Fit]) (Dg.mk (by omega) Dg.nil) (by simp[dv]),adS]
 ·rw[if_neg (by simp;omega)]
  generalize hN:(aZ n).length=N at *
  have hN2:2<=N:=by omega
  have hdn:=dK n
  have gt:=hdn.get (show N-1<(aZ n).length by omega)
  generalize ht:(aZ n)[N-1]'(by omega)=t at gt
  have hsp:=iW (aZ n) (i:=N-1) (by omega)
  rw[bQ,mj (by omega),ad6 (by omega),ht]at hsp
  simp only[dv,aeF,Int.add_zero]at hsp
  have lo0:=cO (hdn.take (N-1))
  have lo1:=oK (hdn.take (N-1))
  rw[acG,adt (by omega)]at lo1
  have hpw:=ov (N-1)
  have ht1:1<=t:=by
   rcases (show t=0∨1<=t by omega) with h|h
   ·subst h;omega
   ·exact h
  obtain⟨s,hs1,j,hs2,hj,hs3,hs4⟩:=Pp hN (by omega) (by omega) ht ht1 gt.2
  have hj2:(2:Int) ^ j<=524288:=by
   have:∀j:Nat,j<=19->(2:Int) ^ j<=524288:=by decide
   exact this j hj
  have hj1:(0:Int)<2 ^ j:=Int.pow_pos (by decide)
  have hts:(t+1)*s<=1048576:=by
   have h20:(1048576:Int)=2 ^ (20-j)*2 ^ j:=by rw[<- Int.pow_add,Nat.sub_add_cancel (by omega)];rfl
   rw[h20]at hs4 ⊢
   rw[hs2]at hs4 ⊢
   have:t<2 ^ (20-j):=Int.lt_of_mul_lt_mul_right hs4 (by omega)
   exact aeH (by omega) (by omega)
  rw[<- hs2]at hj1 hj2
  obtain⟨S,rfl⟩:∃S:Nat,s=S:=⟨s.toNat,by omega⟩
  have hSd:Dg [(S:Int)]:=Dg.mk (by omega) Dg.nil
  have hdvS:dv [(S:Int)]=S:=by simp[dv]
  rw[hs1,adS,mul_eq (dK m) hSd (by simp;omega),adS,bQ,hdvS]
  have em:((m:Int)*S).toNat=m*S:=by rw[<- adm];rfl
  have en:((n:Int)*S).toNat=n*S:=by rw[<- adm];rfl
  rw[em]
  have hmS:(aZ (m*S)).length<=(aZ m).length+1:=by
   apply kG
   rw[mw,adm]
   have a1:=jd m
   have:(m:Int)*S<=m*1048576:=aer (by omega) (by omega)
   omega
  have hU:∃u,((if ((((aZ (m*S)++[0]).length:Int))==((aZ m).length:Int))=true then (km 8 (aZ (m*S)++[0]) [0]).bind fun x98=>some x98 else some (aZ (m*S)++[0]))=some u)∧Dg u∧dv u=(m*S:Nat)∧dv u<pw (u.length-1)∧(aZ (m*S)).length+1<=u.length∧u.length<=(aZ m).length+3:=by
   have d1:Dg (aZ (m*S)++[0]):=(dK _).append (Dg.mk (by omega) Dg.nil)
   have v1:dv (aZ (m*S)++[0])=(m*S:Nat):=by rw[jt,bQ];simp[dv]
   have v2:=jd (m*S)
   split
   ·rw[I4 (by simp;omega),adS]
    refine⟨_,rfl,d1.append (Dg.mk (by omega) Dg.nil),by rw[jt,v1];simp[dv],?_,by simp,by simp;omega⟩
    rw[jt,v1]
    simp only[dv,adq,List.length_cons,List.length_nil]
    have:=rj (i:=(aZ (m*S)).length) (j:=(aZ (m*S)).length+1) (by omega)
    rw[show (aZ (m*S)).length+(0+1)+(0+1)-1=(aZ (m*S)).length+1 by omega]
    omega
   ·refine⟨_,rfl,d1,v1,?_,by simp,by simp;omega⟩
    rw[v1]
    simpa using v2
  obtain⟨u,hu1,hu2,hu3,hu4,hu5,hu6⟩:=hU
  rw[I4 (by simp;omega),adS,mul_eq (dK n) hSd (by simp;omega),adS,bQ,hdvS,en,hu1,adS]
  have hVlo:524288*pw (N-1)<=((n*S:Nat):Int):=by
   rw[adm,hsp,aeE]
   have a1:0<=dv ((aZ n).take (N-1))*S:=aeC lo0 (by omega)
   have a2:pw (N-1)*524288<=pw (N-1)*(t*S):=aer hs3 (by omega)
   rw[aet]
   omega
  have hVhi:((n*S:Nat):Int)<pw N:=by
   have a0:pw N=1048576*pw (N-1):=by rw[<- mw];congr 1;omega
   rw[a0,adm,hsp]
   have a1:(dv ((aZ n).take (N-1))+pw (N-1)*t+1)*S<=(pw (N-1)*(t+1))*S:=aeH (by rw[aes];omega) (by omega)
   have a2:pw (N-1)*((t+1)*S)<=pw (N-1)*1048576:=aer hts (by omega)
   rw[aet]at a1
   rw[aeE _ 1,aeG]at a1
   omega
  have hVN:(aZ (n*S)).length=N:=by
   have a1:=kG hVhi
   rcases ac8 (aZ (n*S)).length N with h|h
   ·have a2:=jd (n*S)
    have a3:=rj (i:=(aZ (n*S)).length) (j:=N-1) (by omega)
    omega
   ·omega
  have hV1:524288<=(aZ (n*S))[N-1]'(by omega):=by
   have a1:=iW (aZ (n*S)) (i:=N-1) (by omega)
   rw[bQ,mj (by omega),ad6 (by omega)]at a1
   simp only[dv,aeF,Int.add_zero]at a1
   have a2:=oK ((dK (n*S)).take (N-1))
   rw[acG,adt (by omega)]at a2
   have a3:pw (N-1)*524288<pw (N-1)*((aZ (n*S))[N-1]'(by omega)+1):=by rw[aes];omega
   have:=Int.lt_of_mul_lt_mul_left a3 (by omega)
   omega
  have hlen:N+1<=u.length:=by
   have:n*S<=m*S:=ac9 _ (by omega)
   have:=ew this
   omega
  obtain⟨M,hM⟩:∃M,u.length=M+N:=⟨u.length-N,by omega⟩
  have e1:IntKind.i64.wrap ((u.length:Int)-((aZ (n*S)).length:Int))=(M:Int):=by rw[hVN,hM,j5 (by omega)];omega
  rw[e1,mk0 (by omega),adS,List.length_replicate,j5 (x:=(M:Int)-1) (by omega)]
  have hdr:dv (u.drop M)<dv (aZ (n*S)):=by
   rw[bQ]
   have a1:=iW u (i:=M) (by omega)
   have a2:=cO (hu2.take M)
   have a3:pw M*dv (u.drop M)<pw M*pw (N-1):=by
    rw[<- Iw,show M+(N-1)=u.length-1 by omega]
    omega
   have:=Int.lt_of_mul_lt_mul_left a3 (by have:=ov M;omega)
   omega
  obtain⟨⟨U,Q⟩,r1,r2,r3,r4,r5,r6,r7⟩:=UK (dK (n*S)) hVN hN2 hV1 hu2 hM (by omega) hdr
  simp only at r2 r3 r4 r5 r6 r7
  rw[r1,adS]
  simp only
  rw[bQ,hu3]at r6
  rw[bQ]at r7
  have hU0:=cO r3
  have hQ0:=cO r5
  have hS:0<S:=by omega
  have hnS:0<n*S:=Nat.mul_pos (by omega) hS
  obtain⟨U',hU'⟩:∃k:Nat,dv U=k:=⟨(dv U).toNat,by omega⟩
  obtain⟨Q',hQ'⟩:∃k:Nat,dv Q=k:=⟨(dv Q).toNat,by omega⟩
  rw[hU',hQ']at r6
  rw[hU']at r7
  have hnat:U'+n*S*Q'=m*S:=by
   have:((U'+n*S*Q':Nat):Int)=((m*S:Nat):Int):=by rw[Int.natCast_add,adm (n*S) Q'];exact r6
   omega
  have hUlt:U'<n*S:=by omega
  have hQe:Q'=m / n:=by
   have:m*S / (n*S)=Q':=by
    rw[<- hnat,Nat.add_mul_div_left _ _ hnS,Nat.div_eq_of_lt hUlt,ada]
   rw[<- this,Nat.mul_div_mul_right _ _ hS]
  have hUe:U'=(m % n)*S:=by
   have:m*S % (n*S)=U':=by rw[<- hnat,Nat.add_mul_mod_self_left,adj hUlt]
   rw[<- this,Nat.mul_mod_mul_right]
  rw[AA (n:=U') (by unfold Fit;omega) r3 hU',adS]
  have hUlen:(aZ U').length<=N:=kG (by omega)
  rw[M6 (dK U') ⟨by omega,by omega⟩ (by unfold Fit;omega),adS,AA (n:=Q') (by unfold Fit;omega) r5 hQ',adS,bQ,hQe,hUe]
  have:((((m % n)*S:Nat):Int) / (S:Int)).toNat=m % n:=by
   rw[adm,Int.mul_ediv_cancel _ (by omega)];rfl
  rw[this]
def fH (x:Int):an:=an.mk x.sign (aZ x.natAbs)
def Ln (x:Int):Nat:=(aZ x.natAbs).length
def eD:Nat:=4398046511104
def pA:Nat:=17592186043904
theorem wD {n:Nat} (h:n<=eD):n<=pA:=aco h (by decide)
theorem L5:fH 0=an.mk 0 []:=by unfold fH;rw[show (0:Int).natAbs=0 from rfl,cN];rfl
theorem Rp {x y:Int} (h:fH x=fH y):x=y:=by
 unfold fH at h
 simp only[an.mk.injEq]at h
 have:=UI h.2
 have h1:=Int.sign_mul_natAbs x
 have h2:=Int.sign_mul_natAbs y
 rw[<- h1,<- h2,h.1,this]
theorem TU {x:Int} {k:Nat} (h:(x.natAbs:Int)<pw k):Ln x<=k:=kG h
theorem Rm (x:Int):(x.natAbs:Int)<pw (Ln x):=jd _
theorem P4 {x y:Int} (h:x.natAbs<=y.natAbs):Ln x<=Ln y:=ew h
theorem NL (x:Int):Ln (-x)=Ln x:=by unfold Ln;rw[Int.natAbs_neg]
theorem NJ (x y:Int):Ln (x+y)<=max (Ln x) (Ln y)+1:=by
 apply TU
 have h1:=Rm x
 have h2:=Rm y
 have h3:=rj (i:=Ln x) (j:=max (Ln x) (Ln y)) (by omega)
 have h4:=rj (i:=Ln y) (j:=max (Ln x) (Ln y)) (by omega)
 have h5:=Int.natAbs_add_le x y
 rw[mw]
 omega
theorem iS (x y:Int):Ln (x*y)<=Ln x+Ln y:=by
 apply TU
 have h1:=Rm x
 have h2:=Rm y
 rw[aeI,adm,Iw]
 have hx:=ov (Ln x)
 calc (x.natAbs:Int)*y.natAbs<=pw (Ln x)*y.natAbs:=aeH (by omega) (by omega)
  _<pw (Ln x)*pw (Ln y):=Int.mul_lt_mul_of_pos_left h2 hx
theorem IY {x:Int} (h:x.natAbs<1048576):Ln x<=1:=TU (by rw[mw,rl];omega)
instance (l:List Int):Decidable (Dg l):=by unfold Dg;infer_instance
def okB (b:an):Bool:=decide (Dg b.aa)&&(match b.aa.getLast? with|none=>b.ag==0|some d=>(b.ag==1||b.ag == -1)&&d != 0)
theorem xj {b:an} : okB b=true↔∃x,b=fH x:=by
 obtain⟨s,l⟩:=b
 unfold okB
 simp only[acY,decide_eq_true_eq]
 constructor
 ·rintro⟨hd,h⟩
  cases hl:l.getLast? with
  | none =>
   rw[hl]at h
   have:l=[]:=List.getLast?_eq_none_iff.1 hl
   subst this
   exact⟨0,by rw[L5];simpa using h⟩
  | some d =>
   rw[hl]at h
   simp only[acY,adT,beq_iff_eq,bne_iff_ne]at h
   have hne:l≠[]:=by intro h0;subst h0;simp at hl
   have hlast:∀h:l≠[],l.getLast h≠0:=by
    intro h'
    rw[aeJ h']at hl
    cases hl
    exact h.2
   have e:=Aq hd hlast
   have h0:(dv l).toNat≠0:=by
    intro h0
    rw[h0,cN]at e
    exact hne e.symm
   have hn:=cO hd
   refine⟨s*dv l,?_⟩
   unfold fH
   rcases h.1 with rfl|rfl
   ·rw[aeG,aeK (by omega)]
    have:(dv l).natAbs=(dv l).toNat:=by omega
    rw[this,e]
   ·rw[Int.neg_mul,aeG,Int.sign_neg,aeK (by omega)]
    have:(-dv l).natAbs=(dv l).toNat:=by omega
    rw[this,e]
 ·rintro⟨x,hx⟩
  unfold fH at hx
  simp only[an.mk.injEq]at hx
  obtain⟨rfl,rfl⟩:=hx
  refine⟨dK _,?_⟩
  by_cases h0:x=0
  ·subst h0;simp[cN]
  ·have hne:aZ x.natAbs≠[]:=fun h=>h0 (by have:=sL.1 h;omega)
   rw[aeJ hne]
   have h1:=Sw _ hne
   simp only[acY,adT,beq_iff_eq,bne_iff_ne]
   refine⟨?_,h1⟩
   rcases Int.lt_trichotomy x 0 with h|h|h
   ·right;exact aeL h
   ·exact absurd h h0
   ·left;exact aeK h
theorem O1 (x:Int):okB (fH x)=true:=xj.2 ⟨x,rfl⟩
theorem C5 {b:an} (hf:Fit b.aa):ch b=some (okB b):=by
 obtain⟨s,l⟩:=b
 simp only[Fit]at hf
 have key:∃r,ba (nc ⟨s,l⟩) 0=some r∧(match r with | .inl _=>Dg l | .inr x=>x=false∧¬Dg l):=by
  refine dm (I:=fun i s=>s=(i:Int)∧Dg (l.take i)) l.length _ ⟨rfl,by simpa using Dg.nil⟩ (lv hf) ?_
  rintro i s hi ⟨rfl,hd⟩
  simp only[nc]
  by_cases hlt:i<l.length
  ·rw[if_pos (by simpa using hlt),cr hlt,adS]
   by_cases h1:l[i]<0
   ·right
    exact⟨.inr false,by rw[if_pos (by simpa using h1)],rfl,fun hh=>by have:=hh.get hlt;omega⟩
   ·by_cases h2:l[i]>1048575
    ·right
     exact⟨.inr false,by rw[if_neg (by simpa using h1),if_pos (by simpa using h2)],rfl,fun hh=>by have:=hh.get hlt;omega⟩
    ·left
     refine⟨hlt,_,by rw[if_neg (by simpa using h1),if_neg (by simpa using h2)],by rw[j5 (by omega)];omega,?_⟩
     have e:l.take (i+1)=l.take i++[l[i]]:=by rw[List.take_add_one];simp[hlt]
     rw[e]
     exact hd.append (Dg.mk (by omega) Dg.nil)
  ·right
   have:i=l.length:=by omega
   subst this
   rw[aen]at hd
   exact⟨.inl (),by rw[if_neg (by simp)],hd⟩
 obtain⟨r,h1,h2⟩:=key
 unfold ch okB
 rw[h1,adS]
 cases r with
 | inr x =>
  obtain⟨rfl,h⟩:=h2
  simp[h]
 | inl u =>
  simp only at h2 ⊢
  simp only[h2,decide_true,adK]
  by_cases h0:l=[]
  ·subst h0;simp
  ·have hp:0<l.length:=aeb.2 h0
   have e:IntKind.i64.wrap ((l.length:Int)-1)=((l.length-1:Nat):Int):=by rw[j5 (by omega)];omega
   rw[if_neg (by simpa using h0),e,cr (by omega),aeJ h0,List.getLast_eq_getElem]
   simp only[Option.bind_some]
   by_cases hs:s=1
   ·subst hs;simp
   ·rw[if_neg (by simpa using hs)]
    by_cases hs':s = -1
    ·subst hs';simp
    ·rw[if_neg (by simpa using hs')]
     simp[hs,hs']
theorem gj {x:Int} (h:Ln x<=17592186044416):ch (fH x)=some true:=by
 rw[C5 (show Fit (fH x).aa from h),O1]
theorem uO {s:Int} {l:List Int} (x:Int) (hf:Fit l) (hd:Dg l) (hv:dv l=x.natAbs) (hs:x≠0->s=x.sign):cn s l=some (fH x):=by
 unfold cn
 rw[AA hf hd hv,adS]
 by_cases h0:x=0
 ·subst h0
  rw[show (0:Int).natAbs=0 from rfl,cN,L5];rfl
 ·have:aZ x.natAbs≠[]:=fun h=>h0 (by have:=sL.1 h;omega)
  rw[if_neg (by simpa using this),hs h0];rfl
theorem lf (b:an):dC true b=some (b,0):=rfl
theorem rF (x:Int):x.sign = -1∨x.sign=0∨x.sign=1:=by
 rcases Int.lt_trichotomy x 0 with h|h|h
 ·left;exact aeL h
 ·subst h;right;left;rfl
 ·right;right;exact aeK h
theorem NM {x:Int} (h:Ln x<=eD):mi (fH x)=some (fH (-x)):=by
 unfold mi
 have hL:eD=4398046511104:=rfl
 rw[gj (by omega),adS]
 simp only[adJ,acX,if_false]
 have hf:Fit (fH x).aa:=by unfold Fit;show Ln x<=_;omega
 rw[sI hf,adS,uO (-x) hf (dK _) (by show dv (aZ _)=_;rw[bQ,Int.natAbs_neg]),adS]
 intro h0
 show IntKind.i64.wrap (0-x.sign)=_
 rw[j5 (by have:=rF x;omega),Int.sign_neg,Int.zero_sub]
theorem Yb (s t:Int):sJ [s,t]=some (if s≠0 then s else t):=by
 have key:∃r,ba (tW [s,t]) 0=some r∧(match r with | .inl _=>s=0∧t=0 | .inr x=>x=if s≠0 then s else t):=by
  refine dm (I:=fun i j=>j=(i:Int)∧(1<=i->s=0)∧(2<=i->t=0)) 2 _ ⟨rfl,by omega,by omega⟩ (by unfold FU;omega) ?_
  rintro i j hi ⟨rfl,h1,h2⟩
  simp only[tW]
  rcases (show i=0∨i=1∨i=2 by omega) with rfl|rfl|rfl
  ·rw[if_pos (by simp)]
   show _∨∃r,((some s).bind _=_)∧_
   rw[show P.idx [s,t] ((0:Nat):Int)=some s from rfl,adS]
   by_cases hs:s=0
   ·left;exact⟨by omega,_,by rw[if_neg (by simpa using hs)],by rw[j5 (by omega)];rfl,fun _=>hs,by omega⟩
   ·right;exact⟨_,by rw[if_pos (by simpa using hs)],by simp[hs]⟩
  ·have hs:=h1 (by omega)
   rw[if_pos (by simp),show P.idx [s,t] ((1:Nat):Int)=some t from rfl,adS]
   by_cases ht:t=0
   ·left;exact⟨by omega,_,by rw[if_neg (by simpa using ht)],by rw[j5 (by omega)];rfl,fun _=>hs,fun _=>ht⟩
   ·right;exact⟨_,by rw[if_pos (by simpa using ht)],by simp[hs]⟩
  ·right
   exact⟨.inl (),by rw[if_neg (by simp)],h1 (by omega),h2 (by omega)⟩
 obtain⟨r,h1,h2⟩:=key
 unfold sJ
 rw[h1,adS]
 cases r with
 | inl u=>simp only at h2 ⊢;rw[if_neg (by simp[h2.1]),h2.2]
 | inr x=>simp only at h2 ⊢;rw[h2]
theorem il (x:Int):x.sign=1∧x=x.natAbs∧0<x∨x.sign = -1∧x = -x.natAbs∧x<0∨x.sign=0∧x=0:=by
 rcases Int.lt_trichotomy x 0 with h|h|h
 ·right;left;exact⟨aeL h,by omega,h⟩
 ·subst h;right;right;exact⟨rfl,rfl⟩
 ·left;exact⟨aeK h,by omega,h⟩
theorem nL {x:Int} {s:Int} {n:Nat} (hn:n=x.natAbs) (hs:x≠0->s=x.sign) (hL:n≠0->(aZ n).length<=17592186044416):cn s (aZ n)=some (fH x):=by
 subst hn
 refine uO x ?_ (dK _) (bQ _) hs
 unfold Fit
 by_cases h:x.natAbs=0
 ·rw[h,cN];simp
 ·exact hL h
theorem YZ {x y:Int} (hx:Ln x<=eD) (hy:Ln y<=eD):qm (fH x) (fH y)=some (fH (x+y),0):=by
 have hL:eD=4398046511104:=rfl
 have hLa:=NJ x y
 unfold qm
 rw[gj (by omega),adS]
 simp only[adJ,acX,if_false]
 rw[gj (by omega),adS,adS]
 simp only[adJ,acX,if_false]
 show (if decide (IntKind.i64.wrap (x.sign*y.sign)>=0)=true then _ else _)=_
 have hxd:(fH x).aa=aZ x.natAbs:=rfl
 have hyd:(fH y).aa=aZ y.natAbs:=rfl
 have hxs:(fH x).ag=x.sign:=rfl
 have hys:(fH y).ag=y.sign:=rfl
 rw[hxd,hyd,hxs,hys]
 have fx:(aZ x.natAbs).length<=4398046511104:=by show Ln x<=_;omega
 have fy:(aZ y.natAbs).length<=4398046511104:=by show Ln y<=_;omega
 have sx:=il x
 have sy:=il y
 have hw:IntKind.i64.wrap (x.sign*y.sign)=x.sign*y.sign:=by
  apply j5
  rcases rF x with h|h|h<;>rcases rF y with g|g|g<;>rw[h,g]<;>decide
 rw[hw]
 by_cases hs:x.sign*y.sign>=0
 ·rw[if_pos (by simpa using hs),Yb,adS,add_eq (dK _) (dK _) (by omega) (by omega),adS,bQ,bQ]
  have hn:((x.natAbs:Int)+y.natAbs).toNat=(x+y).natAbs:=by
   rcases sx with⟨a,b,c⟩|⟨a,b,c⟩|⟨a,b⟩<;>rcases sy with⟨a',b',c'⟩|⟨a',b',c'⟩|⟨a',b'⟩<;>first|omega|(rw[a,a']at hs;exact absurd hs (by decide))
  rw[hn,nL (x:=x+y) rfl ?_ (fun _=>by show Ln (x+y)<=_;omega),adS,lf,adS]
  intro h0
  rcases sx with⟨a,b,c⟩|⟨a,b,c⟩|⟨a,b⟩<;>rcases sy with⟨a',b',c'⟩|⟨a',b',c'⟩|⟨a',b'⟩<;>(try (rw[a,a']at hs;exact absurd hs (by decide)))<;>rw[a,a']
  ·rw[if_pos (by decide),aeK (by omega)]
  ·rw[if_pos (by decide),aeK (by omega)]
  ·rw[if_pos (by decide),aeL (by omega)]
  ·rw[if_pos (by decide),aeL (by omega)]
  ·rw[if_neg (by decide),aeK (by omega)]
  ·rw[if_neg (by decide),aeL (by omega)]
  ·omega
 ·rw[if_neg (by simpa using hs),vM (by unfold Fit;omega) (by unfold Fit;omega),adS]
  have hsg:x.sign=1∧y.sign = -1∧0<x∧y<0∨x.sign = -1∧y.sign=1∧x<0∧0<y:=by
   rcases sx with⟨a,b,c⟩|⟨a,b,c⟩|⟨a,b⟩<;>rcases sy with⟨a',b',c'⟩|⟨a',b',c'⟩|⟨a',b'⟩<;>first|exact .inl ⟨a,a',c,c'⟩|exact .inr ⟨a,a',c,c'⟩|(rw[a,a']at hs;exact absurd (by decide) hs)
  by_cases hlt:x.natAbs<y.natAbs
  ·have:js (x.natAbs:Int) y.natAbs<0:=by unfold js;rw[if_pos (by omega)];decide
   rw[if_pos (by simpa using this),sub_eq (dK _) (dK _) (by unfold Fit;omega) (ew (by omega)) (by rw[bQ,bQ];omega),adS,bQ,bQ]
   rw[nL (x:=x+y) (by omega) ?_ (fun _=>by rw[show ((y.natAbs:Int)-x.natAbs).toNat=(x+y).natAbs by omega];show Ln (x+y)<=_;omega),adS,lf,adS]
   intro h0
   rcases hsg with⟨a,a',b,b'⟩|⟨a,a',b,b'⟩
   ·rw[a',aeL (by omega)]
   ·rw[a',aeK (by omega)]
  ·have:¬js (x.natAbs:Int) y.natAbs<0:=by unfold js;rw[if_neg (by omega)];split<;>decide
   rw[if_neg (by simpa using this),sub_eq (dK _) (dK _) (by unfold Fit;omega) (ew (by omega)) (by rw[bQ,bQ];omega),adS,bQ,bQ]
   rw[nL (x:=x+y) (by omega) ?_ (fun _=>by rw[show ((x.natAbs:Int)-y.natAbs).toNat=(x+y).natAbs by omega];show Ln (x+y)<=_;omega),adS,lf,adS]
   intro h0
   rcases hsg with⟨a,a',b,b'⟩|⟨a,a',b,b'⟩
   ·rw[a,aeK (by omega)]
   ·rw[a,aeL (by omega)]
theorem Y0 {x y:Int} (hx:Ln x<=eD) (hy:Ln y<=eD):qp (fH x) (fH y)=some (fH (x*y),0):=by
 have hL:eD=4398046511104:=rfl
 have hLa:=iS x y
 unfold qp
 rw[gj (by omega),adS]
 simp only[adJ,acX,if_false]
 rw[gj (by omega),adS,adS]
 simp only[adJ,acX,if_false]
 have hxd:(fH x).aa=aZ x.natAbs:=rfl
 have hyd:(fH y).aa=aZ y.natAbs:=rfl
 have hxs:(fH x).ag=x.sign:=rfl
 have hys:(fH y).ag=y.sign:=rfl
 rw[hxd,hyd,hxs,hys]
 have fx:(aZ x.natAbs).length<=4398046511104:=by show Ln x<=_;omega
 have fy:(aZ y.natAbs).length<=4398046511104:=by show Ln y<=_;omega
 have hw:IntKind.i64.wrap (x.sign*y.sign)=(x*y).sign:=by
  rw[Int.sign_mul]
  apply j5
  rcases rF x with h|h|h<;>rcases rF y with g|g|g<;>rw[h,g]<;>decide
 rw[hw,mul_eq (dK _) (dK _) (by omega),adS,bQ,bQ]
 have hn:((x.natAbs:Int)*y.natAbs).toNat=(x*y).natAbs:=by rw[aeI,<- adm];rfl
 rw[hn,nL (x:=x*y) rfl (fun _=>rfl) (fun _=>by show Ln (x*y)<=_;omega),adS,lf,adS]
theorem lM {x y:Int} (hx:Ln x<=eD) (hy:Ln y<=eD):bN (fH x) (fH y)=some (fH (x*y)):=by
 unfold bN
 rw[Y0 hx hy];rfl
theorem TM {x y:Int} (hx:Ln x<=eD) (hy:Ln y<=eD) (h0:0<y) (hd:y∣x):mh (fH x) (fH y)=some (fH (x / y),fH 0,0):=by
 have hL:eD=4398046511104:=rfl
 unfold mh
 rw[gj (by omega),adS]
 simp only[adJ,acX,if_false]
 rw[gj (by omega),adS,adS]
 simp only[adJ,acX,if_false]
 have hxd:(fH x).aa=aZ x.natAbs:=rfl
 have hyd:(fH y).aa=aZ y.natAbs:=rfl
 have hxs:(fH x).ag=x.sign:=rfl
 have hys:(fH y).ag=1:=aeK h0
 rw[hxd,hyd,hxs,hys]
 have fx:(aZ x.natAbs).length<=4398046511104:=by show Ln x<=_;omega
 have fy:(aZ y.natAbs).length<=4398046511104:=by show Ln y<=_;omega
 have fq:=ew (Nat.div_le_self x.natAbs y.natAbs)
 obtain⟨z,rfl⟩:=hd
 have hyz:y*z / y=z:=Int.mul_ediv_cancel_left _ (by omega)
 have hn:(y*z).natAbs=y.natAbs*z.natAbs:=aeI _ _
 have hq:(y*z).natAbs / y.natAbs=z.natAbs:=by rw[hn,Nat.mul_div_cancel_left _ (by omega)]
 have hr:(y*z).natAbs % y.natAbs=0:=by rw[hn,Nat.mul_mod_right]
 have hsg:(y*z).sign=z.sign:=by rw[Int.sign_mul,aeK h0,aeG]
 rw[if_neg (by decide),div_eq (by omega) (by omega) (by omega),adS,aeq,hsg,j5 (x:=z.sign) (by have:=rF z;omega),hyz,hq,hr,cN]
 rw[hq]at fq
 have hT:(if decide (z.sign<0)=true then some (decide ((([]:List Int).length:Int)>0)) else some false)=some false:=by split<;>rfl
 simp only[hT,Option.bind_some,acX,if_false]
 rw[nL (x:=z) rfl (fun _=>rfl) (fun _=>by omega),adS]
 have:cn z.sign []=some (fH 0):=uO 0 (by simp[Fit]) Dg.nil rfl (fun h=>absurd rfl h)
 rw[this,adS]
def lg (n:Nat):Nat:=if n=0 then 0 else n.log2+1
theorem aai {r x:Nat} (h:2*r<x):lg r<lg x:=by
 unfold lg
 rw[if_neg (show x≠0 by omega)]
 by_cases h0:r=0
 ·rw[if_pos h0];omega
 ·rw[if_neg h0]
  have h1:=Nat.log2_self_le h0
  have h2:=@Nat.lt_log2_self x
  have:2 ^ (r.log2+1)<2 ^ (x.log2+1):=by rw[Nat.pow_succ];omega
  have:=(Nat.pow_lt_pow_iff_right (by decide:1<2)).1 this
  omega
theorem YE {n k:Nat} (h:(n:Int)<pw k):lg n<=20*k:=by
 unfold lg
 by_cases h0:n=0
 ·rw[if_pos h0];omega
 ·rw[if_neg h0]
  have:n<2 ^ (20*k):=by
   have:pw k=((2 ^ (20*k):Nat):Int):=by
    unfold pw
    rw[Nat.pow_mul,Int.natCast_pow];rfl
   omega
  have:=(Nat.log2_lt h0).2 this
  omega
theorem Ve {a b:Nat} (ha:(aZ a).length<=pA) (hb:(aZ b).length<=pA):ba nS (aZ a,aZ b)=some (aZ (Nat.gcd a b)):=by
 have hL:pA=17592186043904:=rfl
 have key:∃r,ba nS (aZ a,aZ b)=some r∧r=aZ (Nat.gcd a b):=by
  have la:=YE (jd a)
  have lb:=YE (jd b)
  let val:List Int->Nat:=fun l=>(dv l).toNat
  have hval:∀n,val (aZ n)=n:=fun n=>by show (dv (aZ n)).toNat=n;rw[bQ];rfl
  refine xa (I:=fun (s:List Int×List Int)=>∃x y,s=(aZ x,aZ y)∧Nat.gcd x y=Nat.gcd a b∧(aZ x).length<=pA∧(aZ y).length<=pA)
   (μ:=fun (s:List Int×List Int)=>lg (val s.1)+lg (val s.2)+(if val s.1<val s.2 then 1 else 0)) _ ⟨a,b,rfl,rfl,ha,hb⟩ (by simp only[hval];unfold FU;split<;>omega) ?_
  rintro _ ⟨x,y,rfl,hg,hx,hy⟩
  simp only[nS]
  by_cases h0:y=0
  ·right
   subst h0
   refine⟨_,by rw[cN,if_neg (by simp)],?_⟩
   rw[<- hg,Nat.gcd_zero_right]
  ·left
   have hne:0<(aZ y).length:=aeb.2 (fun h=>h0 (sL.1 h))
   rw[if_pos (by simpa using hne),div_eq h0 (by omega) (by omega),adS]
   have hlt:=Nat.mod_lt x (Nat.pos_of_ne_zero h0)
   refine⟨_,rfl,⟨y,x % y,rfl,?_,hy,?_⟩,?_⟩
   ·rw[<- hg,Nat.gcd_comm y,<- Nat.gcd_rec,Nat.gcd_comm]
   ·have:=ew (Nat.mod_le x y);omega
   ·simp only[hval]
    rw[if_neg (by omega)]
    by_cases hxy:x<y
    ·rw[if_pos hxy,adj hxy];omega
    ·rw[if_neg hxy]
     have:lg (x % y)<lg x:=by
      apply aai
      have h1:=Nat.div_add_mod x y
      have h2:1<=x / y:=(Nat.one_le_div_iff (by omega)).2 (by omega)
      have h3:y*1<=y*(x / y):=Nat.mul_le_mul_left _ h2
      omega
     omega
 obtain⟨r,h1,rfl⟩:=key
 exact h1
theorem TO {x y:Int} (hx:Ln x<=pA) (hy:Ln y<=pA):m9 (fH x) (fH y)=some (fH (Int.gcd x y),0):=by
 have hL:pA=17592186043904:=rfl
 unfold m9
 rw[gj (by omega),adS]
 simp only[adJ,acX,if_false]
 rw[gj (by omega),adS,adS]
 simp only[adJ,acX,if_false]
 have hxd:(fH x).aa=aZ x.natAbs:=rfl
 have hyd:(fH y).aa=aZ y.natAbs:=rfl
 rw[hxd,hyd]
 have fx:(aZ x.natAbs).length<=17592186043904:=by show Ln x<=_;omega
 have fy:(aZ y.natAbs).length<=17592186043904:=by show Ln y<=_;omega
 have fg:(aZ (Nat.gcd x.natAbs y.natAbs)).length<=17592186043904:=by
  by_cases h:y.natAbs=0
  ·rw[h,Nat.gcd_zero_right];exact fx
  ·have:=ew (Nat.gcd_le_right x.natAbs (Nat.pos_of_ne_zero h));omega
 rw[sI (by unfold Fit;omega),adS,Ve (by omega) (by omega),adS,sI (by unfold Fit;omega),adS]
 have hgn:Nat.gcd x.natAbs y.natAbs=((Int.gcd x y:Nat):Int).natAbs:=rfl
 rw[nL (x:=(Int.gcd x y:Int)) hgn ?_ (fun _=>by omega),adS,lf,adS]
 intro h
 rw[aeK (by omega)]
theorem ND {x y:Int} (hx:Ln x<=eD) (hy:Ln y<=eD):iV (fH x) (fH y)=some (js x y):=by
 have hL:eD=4398046511104:=rfl
 unfold iV
 rw[gj (by omega),adS]
 simp only[adJ,acX,if_false]
 rw[gj (by omega),adS,adS]
 simp only[adJ,acX,if_false]
 have hxd:(fH x).aa=aZ x.natAbs:=rfl
 have hyd:(fH y).aa=aZ y.natAbs:=rfl
 have hxs:(fH x).ag=x.sign:=rfl
 have hys:(fH y).ag=y.sign:=rfl
 rw[hxd,hyd,hxs,hys]
 have fx:(aZ x.natAbs).length<=4398046511104:=by show Ln x<=_;omega
 have fy:(aZ y.natAbs).length<=4398046511104:=by show Ln y<=_;omega
 by_cases h:x.sign=y.sign
 ·rw[if_neg (by simpa using h),vM (by unfold Fit;omega) (by unfold Fit;omega),adS]
  have hc:∀s:Int,s = -1∨s=0∨s=1->∀c:Int,c = -1∨c=0∨c=1->IntKind.i64.wrap (s*c)=s*c:=by
   rintro s (rfl|rfl|rfl) c (rfl|rfl|rfl)<;>exact j5 (by decide)
  have hcm:∀a b:Int,js a b = -1∨js a b=0∨js a b=1:=by
   intro a b;unfold js;split
   ·simp
   ·split<;>simp
  rw[hc _ (rF x) _ (hcm _ _)]
  congr 1
  unfold js
  rcases il x with⟨a,b,c⟩|⟨a,b,c⟩|⟨a,b⟩<;>rcases il y with⟨a',b',c'⟩|⟨a',b',c'⟩|⟨a',b'⟩<;>(try (rw[a,a']at h;exact absurd h (by decide)))<;>rw[a]<;>split<;>(try split)<;>(try split)<;>(try split)<;>omega
 ·rw[if_pos (by simpa using h),yi,adS]
  congr 1
  unfold js
  rcases il x with⟨a,b,c⟩|⟨a,b,c⟩|⟨a,b⟩<;>rcases il y with⟨a',b',c'⟩|⟨a',b',c'⟩|⟨a',b'⟩<;>(try (exact absurd (a.trans a'.symm) h))<;>rw[a,a']<;>split<;>(try split)<;>(try split)<;>(try split)<;>omega
theorem Si (x:Int):IntKind.u64.wrap x=x % 18446744073709551616:=by
 unfold IntKind.wrap
 simp only[IntKind.bits,IntKind.signed,aek,acX,if_false]
 rfl
theorem wu {x:Int} (h:0<=x∧x<18446744073709551616):IntKind.u64.wrap x=x:=by rw[Si];omega
theorem So {x:Int} (h:0<=x∧x<18446744073709551616):jR .and .u64 x 1048575=x % 1048576:=by
 unfold jR
 simp only
 have e1:(BitVec.ofInt IntKind.u64.bits x &&& BitVec.ofInt IntKind.u64.bits 1048575).toNat=((x % 18446744073709551616).toNat) % 1048576:=by
  rw[BitVec.toNat_and,BitVec.toNat_ofInt,BitVec.toNat_ofInt]
  have e:((1048575:Int) % ((2 ^ IntKind.u64.bits:Nat):Int)).toNat=2 ^ 20-1:=by decide
  rw[e,aeu]
  rfl
 rw[e1,wu (by omega)]
 omega
theorem ZI (x:Int):wc .u64 x 20=some (x / 1048576):=by
 unfold wc
 rw[if_neg (by decide)]
 have e:(2:Int) ^ (min (Int.toNat 20) IntKind.u64.bits)=1048576:=by decide
 rw[e,aev _ (by decide)]
theorem pw4:pw 4=1208925819614629174706176:=by decide
theorem XL {n:Nat} (hn:n<18446744073709551616):∃l,ba tT ((n:Int),[])=some l∧Dg l∧dv l=n∧l.length<=5:=by
 refine xa (I:=fun (s:Int×List Int)=>0<=s.1∧Dg s.2∧dv s.2+pw s.2.length*s.1=n∧s.2.length<=5∧(s.1=0∨s.2.length<5)) (μ:=fun (s:Int×List Int)=>s.1.toNat) _ ⟨by simp,Dg.nil,by simp[dv,rl],by simp,by simp⟩ (by simp only[Int.toNat_natCast];unfold FU;omega) ?_
 rintro⟨u,l⟩ ⟨h1,hd,h2,h3,h5⟩
 simp only at h1 hd h2 h3 h5
 have hp:=ov l.length
 have hdl:=cO hd
 have hu:u<=n:=by
  have:1*u<=pw l.length*u:=aeH (by omega) h1
  omega
 simp only[tT]
 by_cases h0:u>0
 ·left
  have hl5:l.length<5:=by omega
  have hl4:l.length<4:=by
   rcases ac8 l.length 4 with h|h
   ·exact h
   ·have h4:l.length=4:=by omega
    rw[h4,pw4]at h2
    omega
  have hw:IntKind.i64.wrap (u % 1048576)=u % 1048576:=j5 (by omega)
  rw[if_pos (by simpa using h0),So ⟨h1,by omega⟩,hw,I4 (by simp;omega),adS,ZI,adS]
  refine⟨_,rfl,⟨by simp only;omega,hd.append (Dg.mk (by omega) Dg.nil),?_,by simp;omega,by right;simp;omega⟩,by simp only;omega⟩
  simp only[jt,dv,adq,List.length_cons,List.length_nil,aeF,Int.add_zero,ada]
  have:=yA l.length u
  omega
 ·right
  have:u=0:=by omega
  subst this
  refine⟨l,by rw[if_neg (by simp)],hd,?_,h3⟩
  rw[aeF]at h2
  omega
theorem Ya {x:Int} (h : -9223372036854775808<=x∧x<9223372036854775808):sB x=some (fH x):=by
 have hT:(if decide (x<0)=true then some ((-1:Int),IntKind.u64.wrap (0-(IntKind.u64.wrap x))) else some (1,IntKind.u64.wrap x))=some (if x<0 then -1 else 1,((x.natAbs:Nat):Int)):=by
  by_cases hx:x<0
  ·rw[if_pos (by simpa using hx),if_pos hx,Si,Si]
   congr 2
   omega
  ·rw[if_neg (by simpa using hx),if_neg hx,Si]
   congr 2
   omega
 obtain⟨l,h1,h2,h3,h4⟩:=XL (n:=x.natAbs) (by omega)
 unfold sB
 rw[hT,adS]
 simp only
 rw[h1,adS,tf]
 refine uO x (by unfold Fit;omega) h2 h3 (fun h0 =>?_)
 split
 ·rw[aeL (by omega)]
 ·rw[aeK (by omega)]
theorem abH {d:Int} {i:Nat} (hi:i<=3) (hd:0<=d∧d<1048576) (h8:i=3->d<=8):D8 .u64 (IntKind.u64.wrap d) (IntKind.i64.wrap (20*(i:Int)))=some (pw i*d):=by
 rw[wu (by omega),j5 (by omega)]
 unfold D8
 rw[if_neg (by omega)]
 have e:(2:Int) ^ (min (20*(i:Int)).toNat IntKind.u64.bits)=pw i:=by
  have:∀i:Nat,i<=3->(2:Int) ^ (min (20*(i:Int)).toNat IntKind.u64.bits)=pw i:=by decide
  exact this i hi
 rw[e,wu,aep]
 rcases (show i=0∨i=1∨i=2∨i=3 by omega) with rfl|rfl|rfl|rfl
 ·rw[show pw 0=1 by decide];omega
 ·rw[show pw 1=1048576 by decide];omega
 ·rw[show pw 2=1099511627776 by decide];omega
 ·rw[show pw 3=1152921504606846976 by decide];have:=h8 rfl;omega
theorem aar {u d:Int} {i:Nat} (hi:i<=3) (hu:0<=u∧u<pw i) (hd:0<=d∧pw i*d<9223372036854775809):jR .or .u64 u (pw i*d)=u+pw i*d:=by
 have hp:=ov i
 have hpd:0<=pw i*d:=aeC (by omega) hd.1
 have hpw:pw i=((2 ^ (20*i):Nat):Int):=by unfold pw;rw[Nat.pow_mul,Int.natCast_pow];rfl
 have hp3:pw i<=1152921504606846976:=by
  have:=rj hi
  rwa [show pw 3=1152921504606846976 by decide]at this
 unfold jR
 simp only
 have e1:(BitVec.ofInt IntKind.u64.bits u ||| BitVec.ofInt IntKind.u64.bits (pw i*d)).toNat=(u+pw i*d).toNat:=by
  rw[BitVec.toNat_or,BitVec.toNat_ofInt,BitVec.toNat_ofInt]
  have e:((2 ^ IntKind.u64.bits:Nat):Int)=18446744073709551616:=by decide
  rw[e]
  have e2:(u % 18446744073709551616).toNat=u.toNat:=by omega
  have e3:((pw i*d) % 18446744073709551616).toNat=d.toNat <<< (20*i):=by
   rw[Nat.shiftLeft_eq,Int.emod_eq_of_lt hpd (by omega),hpw]
   have:d=(d.toNat:Int):=by omega
   rw[this,<- adm,adn,adn,adl]
  rw[e2,e3,Nat.or_comm,<- Nat.shiftLeft_add_eq_or_of_lt (by omega),Nat.shiftLeft_eq]
  have:pw i*d=((d.toNat*2 ^ (20*i):Nat):Int):=by
   rw[hpw,adm,aep]
   congr 1
   omega
  omega
 rw[e1,wu (by omega)]
 omega
theorem ZC {g:Nat} (h:(aZ g).length<=pA):oa (fH g)=some (decide (g=1)):=by
 have hL:pA=17592186043904:=rfl
 have hgd:(fH (g:Int)).aa=aZ g:=rfl
 have hLn:Ln (g:Int)=(aZ g).length:=rfl
 unfold oa
 have hsmall:g=1->(aZ g).length<=4:=by
  rintro rfl
  exact aco (kG (k:=1) (by decide)) (by decide)
 suffices hI:∃r,qn (fH g)=some r∧((if r.2=true then some (r.1==1) else some false)=some (decide (g=1))) by
  obtain⟨r,h1,h2⟩:=hI
  rw[h1,adS,h2]
 unfold qn
 rw[gj (by rw[hLn];omega),adS]
 simp only[adJ,acX,if_false,Option.bind_some,hgd]
 by_cases h4:(aZ g).length>4
 ·rw[if_pos (by simp;omega)]
  refine⟨_,rfl,?_⟩
  have:g≠1:=fun hh=>by have:=hsmall hh;omega
  simp[this]
 rw[if_neg (by simp;omega)]
 have key:∃r,ba (qo (fH g)) (0,0)=some r∧(match r with | .inl u=>u=(g:Int) | .inr x=>x=(0,false)∧g≠1):=by
  refine dm (I:=fun i s=>s.2=(i:Int)∧s.1=dv ((aZ g).take i)) (aZ g).length _ ⟨rfl,rfl⟩ (lv (by omega)) ?_
  rintro i ⟨u,s⟩ hi ⟨h1,h2⟩
  simp only at h1 h2
  subst h1 h2
  simp only[qo,hgd]
  have hdg:=(dK g).take i
  have hu0:=cO hdg
  have hu1:=oK hdg
  rw[acG,adt hi]at hu1
  by_cases hlt:i<(aZ g).length
  ·have gd:=(dK g).get hlt
   rw[if_pos (by simpa using hlt),cr hlt,adS]
   have hT:(if ((i:Int)==3)=true then some (decide ((aZ g)[i]>8)) else some false)=some (decide (i=3∧(aZ g)[i]>8)):=by
    by_cases h3:i=3
    ·subst h3;simp
    ·rw[if_neg (by simp;omega)];simp[h3]
   rw[hT,adS]
   by_cases h8:i=3∧(aZ g)[i]>8
   ·right
    rw[if_pos (by simpa using h8)]
    refine⟨.inr (0,false),rfl,rfl,?_⟩
    rintro rfl
    have:=kG (n:=1) (k:=1) (by decide)
    omega
   ·left
    rw[if_neg (by simpa using h8),abH (by omega) gd (by omega),adS]
    have hb:pw i*(aZ g)[i]<9223372036854775809:=by
     rcases (show i=0∨i=1∨i=2∨i=3 by omega) with h|h|h|h
     ·have:pw i=1:=by rw[h];decide
      rw[this];omega
     ·have:pw i=1048576:=by rw[h];decide
      rw[this];omega
     ·have:pw i=1099511627776:=by rw[h];decide
      rw[this];omega
     ·have:pw i=1152921504606846976:=by rw[h];decide
      rw[this];omega
    rw[aar (by omega) ⟨hu0,hu1⟩ ⟨gd.1,hb⟩]
    exact⟨hlt,_,rfl,by rw[j5 (by omega)];omega,by rw[ju hlt]⟩
  ·right
   have:i=(aZ g).length:=by omega
   subst this
   exact⟨.inl (dv ((aZ g).take (aZ g).length)),by rw[if_neg (by simp)],by rw[aen,bQ]⟩
 obtain⟨r,h1,h2⟩:=key
 rw[h1,adS]
 cases r with
 | inr x=>obtain⟨rfl,h⟩:=h2;exact⟨_,rfl,by simp[h]⟩
 | inl u =>
  simp only at h2
  subst h2
  have hs:(fH (g:Int)).ag=(g:Int).sign:=rfl
  have hs0:¬(g:Int).sign<0:=by have:=il (g:Int);omega
  simp only[hs]
  rw[if_neg (by simp),adS,if_neg (by simp),if_pos (by simp)]
  by_cases hg:(g:Int)<9223372036854775808
  ·rw[if_pos (by simpa using hg)]
   refine⟨_,rfl,?_⟩
   simp only[if_true]
   rw[wrap64 (by omega) hg]
   congr 1
   by_cases h:g=1
   ·subst h;rfl
   ·have:¬((g:Int)=1):=by omega
    simp[h,this]
  ·rw[if_neg (by simpa using hg)]
   have:g≠1:=by omega
   exact⟨_,rfl,by simp[this]⟩
def dg (q:Rat):al:=al.mk (fH q.num) (fH q.den)
def LF (q:Rat):Nat:=max (Ln q.num) (Ln q.den)
theorem Ib {p q:Rat} (h:dg p=dg q):p=q:=by
 unfold dg at h
 simp only[al.mk.injEq]at h
 have h1:=Rp h.1
 have h2:=Rp h.2
 exact Rat.ext h1 (by omega)
def okF (f:al):Bool:=okB f.aH&&okB f.aK&&(f.aK.ag==1)&&decide (Nat.gcd (dv f.aH.aa).toNat (dv f.aK.aa).toNat=1)
theorem xk {f:al} : okF f=true↔∃q,f=dg q:=by
 obtain⟨p,q⟩:=f
 unfold okF
 simp only[acY,beq_iff_eq,decide_eq_true_eq]
 constructor
 ·rintro⟨⟨⟨h1,h2⟩,h3⟩,h4⟩
  obtain⟨x,rfl⟩:=xj.1 h1
  obtain⟨y,rfl⟩:=xj.1 h2
  have hy:0<y:=by
   have:y.sign=1:=h3
   rcases il y with⟨a,b,c⟩|⟨a,b,c⟩|⟨a,b⟩<;>omega
  have h5:(dv (fH x).aa).toNat=x.natAbs:=by show (dv (aZ _)).toNat=_;rw[bQ];rfl
  have h6:(dv (fH y).aa).toNat=y.natAbs:=by show (dv (aZ _)).toNat=_;rw[bQ];rfl
  rw[h5,h6]at h4
  refine⟨⟨x,y.natAbs,by omega,h4⟩,?_⟩
  unfold dg
  simp only
  congr 2
  omega
 ·rintro⟨q,hq⟩
  unfold dg at hq
  simp only[al.mk.injEq]at hq
  obtain⟨rfl,rfl⟩:=hq
  have hd:=q.den_pos
  refine⟨⟨⟨O1 _,O1 _⟩,aeK (by omega)⟩,?_⟩
  have h5:(dv (fH q.num).aa).toNat=q.num.natAbs:=by show (dv (aZ _)).toNat=_;rw[bQ];rfl
  have h6:(dv (fH (q.den:Int)).aa).toNat=q.den:=by show (dv (aZ _)).toNat=_;rw[bQ];rfl
  rw[h5,h6]
  exact q.reduced
theorem O2 (q:Rat):okF (dg q)=true:=xk.2 ⟨q,rfl⟩
def W7 (f:al):Prop:=f.aH.aa.length<=pA∧f.aK.aa.length<=pA
theorem W8 {q:Rat} (h:LF q<=eD):W7 (dg q):=by
 unfold LF at h
 exact⟨wD (show Ln q.num<=_ by omega),wD (show Ln q.den<=_ by omega)⟩
theorem wF {f:al} (hf:W7 f):bU f=some (okF f):=by
 have hL:pA=17592186043904:=rfl
 obtain⟨p,q⟩:=f
 simp only[W7]at hf
 unfold bU okF
 rw[C5 (show Fit p.aa by unfold Fit;omega),adS]
 by_cases h1:okB p=true
 ·simp only[h1,adJ,acX,if_false,adK]
  rw[C5 (show Fit q.aa by unfold Fit;omega),adS]
  by_cases h2:okB q=true
  ·simp only[h2,adJ,acX,if_false,adK,Option.bind_some]
   by_cases h3:q.ag=1
   ·rw[if_neg (by simp[h3])]
    obtain⟨x,rfl⟩:=xj.1 h1
    obtain⟨y,rfl⟩:=xj.1 h2
    rw[TO hf.1 hf.2,adS]
    simp only[beq_self_eq_true,if_true]
    have h5:(dv (fH x).aa).toNat=x.natAbs:=by show (dv (aZ _)).toNat=_;rw[bQ];rfl
    have h6:(dv (fH y).aa).toNat=y.natAbs:=by show (dv (aZ _)).toNat=_;rw[bQ];rfl
    rw[ZC,adS,h5,h6]
    ·rw[h3];rfl
    ·have hy:0<y.natAbs:=by
      have:y.sign=1:=h3
      rcases il y with⟨a,b,c⟩|⟨a,b,c⟩|⟨a,b⟩<;>omega
     have:=ew (Nat.gcd_le_right x.natAbs hy)
     have h7:(aZ y.natAbs).length<=pA:=hf.2
     show (aZ (Nat.gcd x.natAbs y.natAbs)).length<=_
     omega
   ·rw[if_pos (by simpa using h3)]
    simp[h3]
  ·simp only[h2,ael,if_true,Option.bind_some,aek]
 ·simp only[h1,ael,if_true,Option.bind_some,aek]
theorem iU {q:Rat} (h:LF q<=eD):bU (dg q)=some true:=by rw[wF (W8 h),O2]
theorem NN {p q:Int} (hp:Ln p<=eD) (hq:Ln q<=eD) (h0:q≠0):lq (fH p) (fH q)=some (dg (Rat.divInt p q),0):=by
 have hL:eD=4398046511104:=rfl
 have main:∀ {p q:Int},Ln p<=eD->Ln q<=eD->0<q ->
   ((m9 (fH p) (fH q)).bind fun r6=>(mh (fH p) r6.1).bind fun r7=>(mh (fH q) r6.1).bind fun r8=>some ((al.mk r7.1 r8.1),(0:Int)))=some (dg (Rat.divInt p q),0):=by
  intro p q hp hq h0
  have hg:0<Int.gcd p q:=Int.gcd_pos_of_ne_zero_right _ (by omega)
  have hgl:Ln (Int.gcd p q:Int)<=eD:=by
   have:=ew (Nat.gcd_le_right p.natAbs (show 0<q.natAbs by omega))
   show (aZ (Nat.gcd p.natAbs q.natAbs)).length<=_
   have h7:(aZ q.natAbs).length<=eD:=hq
   omega
  rw[TO (wD hp) (wD hq),adS]
  simp only
  rw[TM hp hgl (by omega) (Int.gcd_dvd_left ..),adS,TM hq hgl (by omega) (Int.gcd_dvd_right ..),adS]
  have hd:((q.natAbs / Int.gcd p q:Nat):Int)=q / (Int.gcd p q:Int):=by
   rw[Int.natCast_ediv]
   congr 1
   omega
  unfold dg
  rw[Rat.num_divInt,Rat.den_divInt,if_neg (by omega),aeK h0,aeG,Int.gcd_comm q p,hd]
 unfold lq
 rw[gj (by omega),adS]
 simp only[adJ,acX,if_false]
 rw[gj (by omega),adS,adS]
 simp only[adJ,acX,if_false]
 have hqs:(fH q).ag=q.sign:=rfl
 rw[hqs]
 rcases il q with⟨a,b,c⟩|⟨a,b,c⟩|⟨a,b⟩
 ·rw[if_neg (by rw[a];decide),if_neg (by rw[a];decide),adS]
  exact main hp hq c
 ·rw[if_neg (by rw[a];decide),if_pos (by rw[a];decide),NM hp,adS,NM hq,adS,adS]
  have:=main (p := -p) (q := -q) (by rw[NL];exact hp) (by rw[NL];exact hq) (by omega)
  rw[Rat.neg_divInt_neg]at this
  exact this
 ·exact absurd b h0
theorem kj (q:Rat):Ln q.num<=LF q:=by unfold LF;omega
theorem k9 (q:Rat):Ln q.den<=LF q:=by unfold LF;omega
theorem yb {p q:Int} (h0:q≠0):LF (Rat.divInt p q)<=max (Ln p) (Ln q):=by
 have hg:0<Int.gcd q p:=Int.gcd_pos_of_ne_zero_left _ h0
 have h1:Ln (Rat.divInt p q).num<=Ln p:=by
  apply P4
  rw[Rat.num_divInt]
  obtain⟨z,hz⟩:(Int.gcd q p:Int)∣q.sign*p:=Int.dvd_mul_of_dvd_right (Int.gcd_dvd_right ..)
  rw[hz,Int.mul_ediv_cancel_left _ (by omega)]
  have h2:(q.sign*p).natAbs=p.natAbs:=by
   rw[aeI]
   have:q.sign.natAbs=1:=by
    rcases il q with⟨a,b,c⟩|⟨a,b,c⟩|⟨a,b⟩
    ·rw[a];rfl
    ·rw[a];rfl
    ·exact absurd b h0
   rw[this,Nat.one_mul]
  rw[<- h2,hz,aeI]
  exact Nat.le_mul_of_pos_left _ (by omega)
 have h2:Ln ((Rat.divInt p q).den:Int)<=Ln q:=by
  apply P4
  rw[Rat.den_divInt,if_neg h0]
  exact Nat.div_le_self _ _
 unfold LF
 omega
theorem PY {a b:Rat} (h:LF a+LF b+1<=eD):jS (dg a) (dg b)=some (dg (a+b),0):=by
 have n1:=kj a
 have n2:=kj b
 have d1:=k9 a
 have d2:=k9 b
 have m1:=iS a.num b.den
 have m2:=iS b.num a.den
 have m3:=iS a.den b.den
 have m4:=NJ (a.num*b.den) (b.num*a.den)
 unfold jS
 rw[iU (by omega),adS]
 simp only[adJ,acX,if_false]
 rw[iU (by omega),adS,adS]
 simp only[adJ,acX,if_false]
 show (bN (fH a.num) (fH b.den)).bind _=_
 rw[lM (by omega) (by omega),adS]
 show (bN (fH b.num) (fH a.den)).bind _=_
 rw[lM (by omega) (by omega),adS,YZ (by omega) (by omega),adS]
 show (bN (fH a.den) (fH b.den)).bind _=_
 have hden:(a.den:Int)*b.den≠0:=by
  rw[<- adm]
  have:=Nat.mul_pos a.den_pos b.den_pos
  omega
 rw[lM (by omega) (by omega),adS,NN (by omega) (by omega) hden,adS]
 rw[Rat.add_def',<- Rat.divInt_ofNat,adm]
theorem AG (a b:Rat):LF (a+b)<=LF a+LF b+1:=by
 have n1:=kj a
 have n2:=kj b
 have d1:=k9 a
 have d2:=k9 b
 have m1:=iS a.num b.den
 have m2:=iS b.num a.den
 have m3:=iS a.den b.den
 have m4:=NJ (a.num*b.den) (b.num*a.den)
 have hden:(a.den:Int)*b.den≠0:=by
  rw[<- adm]
  have:=Nat.mul_pos a.den_pos b.den_pos
  omega
 rw[Rat.add_def',<- Rat.divInt_ofNat,adm]
 have:=yb (p:=a.num*b.den+b.num*a.den) hden
 omega
theorem TS (a:Rat):LF (-a)=LF a:=by unfold LF;rw[Rat.neg_num,Rat.neg_den,NL]
theorem NI (a b:Rat):LF (a-b)<=LF a+LF b+1:=by
 rw[Rat.sub_eq_add_neg]
 have:=AG a (-b)
 rw[TS]at this
 exact this
theorem Yf {a b:Rat} (h:LF a+LF b+1<=eD):mH (dg a) (dg b)=some (dg (a-b),0):=by
 unfold mH
 rw[iU (by omega),adS]
 simp only[adJ,acX,if_false]
 rw[iU (by omega),adS,adS]
 simp only[adJ,acX,if_false]
 show (mi (fH b.num)).bind _=_
 have n2:=kj b
 rw[NM (by omega),adS]
 have e:al.mk (fH (-b.num)) (dg b).aK=dg (-b):=by unfold dg;rw[Rat.neg_num,Rat.neg_den]
 rw[e,PY (by rw[TS];exact h),adS,Rat.sub_eq_add_neg]
theorem TV {a b:Rat} (h:LF a+LF b<=eD):lp (dg a) (dg b)=some (dg (a*b),0):=by
 have n1:=kj a
 have n2:=kj b
 have d1:=k9 a
 have d2:=k9 b
 have m1:=iS a.num b.num
 have m3:=iS a.den b.den
 unfold lp
 rw[iU (by omega),adS]
 simp only[adJ,acX,if_false]
 rw[iU (by omega),adS,adS]
 simp only[adJ,acX,if_false]
 show (bN (fH a.num) (fH b.num)).bind _=_
 rw[lM (by omega) (by omega),adS]
 show (bN (fH a.den) (fH b.den)).bind _=_
 have hden:(a.den:Int)*b.den≠0:=by
  rw[<- adm]
  have:=Nat.mul_pos a.den_pos b.den_pos
  omega
 rw[lM (by omega) (by omega),adS,NN (by omega) (by omega) hden,adS]
 rw[Rat.mul_def',<- Rat.divInt_ofNat,adm]
theorem yc (a b:Rat):LF (a*b)<=LF a+LF b:=by
 have n1:=kj a
 have n2:=kj b
 have d1:=k9 a
 have d2:=k9 b
 have m1:=iS a.num b.num
 have m3:=iS a.den b.den
 have hden:(a.den:Int)*b.den≠0:=by
  rw[<- adm]
  have:=Nat.mul_pos a.den_pos b.den_pos
  omega
 rw[Rat.mul_def',<- Rat.divInt_ofNat,adm]
 have:=yb (p:=a.num*b.num) hden
 omega
theorem Bn (a b:Rat):a / b=Rat.divInt (a.num*b.den) (a.den*b.num):=by
 rw[Rat.div_def,Rat.inv_def]
 conv=>lhs;rw[<- Rat.num_divInt_den a]
 rw[Rat.divInt_mul_divInt]
theorem ZX {a b:Rat} (h:LF a+LF b<=eD) (h0:b≠0):ln (dg a) (dg b)=some (dg (a / b),0):=by
 have n1:=kj a
 have n2:=kj b
 have d1:=k9 a
 have d2:=k9 b
 have m1:=iS a.num b.den
 have m3:=iS a.den b.num
 have hb:b.num≠0:=fun hh=>h0 (Rat.num_eq_zero.1 hh)
 unfold ln
 rw[iU (by omega),adS]
 simp only[adJ,acX,if_false]
 rw[iU (by omega),adS,adS]
 simp only[adJ,acX,if_false]
 have hs:(dg b).aH.ag=b.num.sign:=rfl
 have hs':b.num.sign≠0:=by rcases il b.num with⟨a,b,c⟩|⟨a,b,c⟩|⟨a,b⟩<;>omega
 rw[hs,if_neg (by simpa using hs')]
 show (bN (fH a.num) (fH b.den)).bind _=_
 rw[lM (by omega) (by omega),adS]
 show (bN (fH a.den) (fH b.num)).bind _=_
 have hden:(a.den:Int)*b.num≠0:=Int.mul_ne_zero (by have:=a.den_pos;omega) hb
 rw[lM (by omega) (by omega),adS,NN (by omega) (by omega) hden,adS,Bn]
theorem TR {a b:Rat} (h0:b≠0):LF (a / b)<=LF a+LF b:=by
 have n1:=kj a
 have n2:=kj b
 have d1:=k9 a
 have d2:=k9 b
 have m1:=iS a.num b.den
 have m3:=iS a.den b.num
 have hb:b.num≠0:=fun hh=>h0 (Rat.num_eq_zero.1 hh)
 have hden:(a.den:Int)*b.num≠0:=Int.mul_ne_zero (by have:=a.den_pos;omega) hb
 rw[Bn]
 have:=yb (p:=a.num*b.den) hden
 omega
theorem X8 {n:Int} (h : -9223372036854775808<=n∧n<9223372036854775808):gH n=some (dg n):=by
 unfold gH
 rw[Ya h,adS,Ya (by decide),adS]
 unfold dg
 rw[Rat.num_intCast,Rat.den_intCast]
 rfl
theorem NF {n:Int} (h:n.natAbs<1048576):LF (n:Rat)<=1:=by
 unfold LF
 rw[Rat.num_intCast,Rat.den_intCast]
 have h1:=IY h
 have h2:=IY (x:=((1:Nat):Int)) (by decide)
 omega
theorem AP {a:Rat} (h:LF a<=eD):fQ (dg a)=some a.num.sign:=by
 unfold fQ
 rw[iU h,adS]
 rfl
def Xi (a b:Rat):Int:=if a<b then -1 else if b<a then 1 else 0
theorem Xj (a b:Rat):js (a.num*b.den) (b.num*a.den)=Xi a b:=by
 unfold js Xi
 simp only[Rat.lt_iff]
theorem Sj {a b:Rat} (h:LF a+LF b<=eD):fW (dg a) (dg b)=some (Xi a b):=by
 have n1:=kj a
 have n2:=kj b
 have d1:=k9 a
 have d2:=k9 b
 have m1:=iS a.num b.den
 have m2:=iS b.num a.den
 unfold fW
 rw[iU (by omega),adS]
 simp only[adJ,acX,if_false]
 rw[iU (by omega),adS,adS]
 simp only[adJ,acX,if_false]
 show (bN (fH a.num) (fH b.den)).bind _=_
 rw[lM (by omega) (by omega),adS]
 show (bN (fH b.num) (fH a.den)).bind _=_
 rw[lM (by omega) (by omega),adS,ND (by omega) (by omega),adS,Xj]
instance:DecidableEq an:=fun a b=>decidable_of_iff (a.ag=b.ag∧a.aa=b.aa) (by cases a;cases b;simp)
instance:DecidableEq al:=fun a b=>decidable_of_iff (a.aH=b.aH∧a.aK=b.aK) (by cases a;cases b;simp)
theorem Tu {b c:an} (hf:Fit b.aa) (hl:b.aa.length=c.aa.length):∃r,ba (lH b c) 0=some r∧(match r with | .inl _=>b.aa=c.aa | .inr x=>x=false∧b.aa≠c.aa):=by
 refine dm (I:=fun i s=>s=(i:Int)∧b.aa.take i=c.aa.take i) b.aa.length _ ⟨rfl,by simp⟩ (lv hf) ?_
 unfold Fit at hf
 rintro i s hi ⟨rfl,he⟩
 simp only[lH]
 by_cases hlt:i<b.aa.length
 ·rw[if_pos (by simpa using hlt),cr hlt,adS,cr (by omega),adS]
  by_cases hx:b.aa[i]=c.aa[i]
  ·left
   rw[if_neg (by simpa using hx)]
   refine⟨hlt,_,rfl,by rw[j5 (by omega)];omega,?_⟩
   rw[List.take_add_one,List.take_add_one,he]
   simp[hlt,show i<c.aa.length by omega,hx]
  ·right
   rw[if_pos (by simpa using hx)]
   refine⟨.inr false,rfl,rfl,fun h=>hx ?_⟩
   simp[h]
 ·right
  have:i=b.aa.length:=by omega
  subst this
  refine⟨.inl (),by rw[if_neg (by simp)],?_⟩
  rw[aen,adH (by omega)]at he
  exact he
theorem RL {b c:an} (hf:Fit b.aa):gW b c=some (decide (b=c)):=by
 have hiff:b=c↔b.ag=c.ag∧b.aa=c.aa:=by cases b;cases c;simp
 unfold gW
 by_cases h1:b.ag=c.ag
 ·rw[if_neg (by simpa using h1),adS]
  by_cases h2:b.aa.length=c.aa.length
  ·rw[if_neg (by simp;omega)]
   obtain⟨r,h3,h4⟩:=Tu hf h2
   rw[h3,adS]
   cases r with
   | inl u=>simp only at h4 ⊢;simp[hiff,h1,h4]
   | inr x=>simp only at h4 ⊢;simp[hiff,h1,h4.1,h4.2]
  ·rw[if_pos (by simp;omega)]
   have:b≠c:=fun h=>h2 (by rw[h])
   simp[this]
 ·rw[if_pos (by simpa using h1),adS,if_pos rfl]
  have:b≠c:=fun h=>h1 (by rw[h])
  simp[this]
theorem aay {f g:al} (hp:Fit f.aH.aa) (hq:Fit f.aK.aa):j0 f g=some (decide (f=g)):=by
 have hiff:f=g↔f.aH=g.aH∧f.aK=g.aK:=by cases f;cases g;simp
 unfold j0
 rw[RL hp,adS]
 by_cases h:f.aH=g.aH
 ·rw[if_pos (by simpa using h),RL hq,adS];simp[hiff,h]
 ·rw[if_neg (by simpa using h)];simp[hiff,h]
theorem Zl (f:al) (n:Int):nD f n=some (decide ((f.aH.aa.length:Int)<=n∧(f.aK.aa.length:Int)<=n)):=by
 unfold nD
 by_cases h:(f.aH.aa.length:Int)<=n
 ·rw[if_pos (by simpa using h)];simp[h]
 ·rw[if_neg (by simpa using h)];simp[h]
theorem Vp {σ ρ:Type} {body:σ->Option (σ⊕ρ)} {n:Nat} {s s':σ} (h:body s=some (.inl s')):m6 body (n+1) s=m6 body n s':=by simp only[m6,h]
theorem Lb {σ ρ:Type} {body:σ->Option (σ⊕ρ)} {n:Nat} {s:σ} {r:ρ} (h:body s=some (.inr r)):m6 body (n+1) s=some r:=by simp only[m6,h]
theorem cy {i:Nat} (h:i<4611686018427387904):IntKind.i64.wrap ((i:Int)+1)=((i+1:Nat):Int):=by rw[wrap64 (by omega) (by omega)];omega
theorem bV {α:Type} {l:List α} {i:Nat} {x:α} (h:l[i]? = some x):P.idx l (i:Int)=some x:=K5 (by omega) (by simpa using h)
theorem cP {α:Type} {l:List α} {i:Nat} {x:α} (h:l[i]? = some x):i<l.length:=(acQ.1 h).1
theorem drop_cons {α:Type} {l rest:List α} {i:Nat} {x:α} (h:l.drop i=x::rest):i<l.length∧l[i]? = some x∧l.drop (i+1)=rest:=by
 have hi:i<l.length:=by
  rcases ac8 i l.length with h1|h1
  ·exact h1
  ·rw[ad6 h1]at h;cases h
 rw[aeh hi]at h
 simp only[acL]at h
 exact⟨hi,by rw[acA hi,h.1],h.2⟩
def iY {α ρ:Type} (st:Nat->α->Option ρ):Nat->List α->Option ρ
 | _,[]=>none
 | i,x::l=>match st i x with|some r=>some r|none=>iY st (i+1) l
theorem iZ {α ρ:Type} {st:Nat->α->Option ρ} : ∀ {l:List α} {i:Nat},iY st i l=none↔∀(j:Nat) x,l[j]? = some x->st (i+j) x=none
 | [],i=>by simp[iY]
 | x::l,i=>by
  simp only[iY]
  constructor
  ·intro h j y hj
   cases hs:st i x with
   | some r=>rw[hs]at h;cases h
   | none =>
    rw[hs]at h
    cases j with
    | zero=>simp only[List.getElem?_cons_zero,acw]at hj;subst hj;exact hs
    | succ j =>
     have:=iZ.1 h j y (by simpa using hj)
     rw[<- this];congr 1;omega
  ·intro h
   have h0:=h 0 x rfl
   simp only[Nat.add_zero]at h0
   rw[h0]
   refine iZ.2 fun j y hj =>?_
   have:=h (j+1) y (by simpa using hj)
   rw[<- this];congr 1;omega
theorem kH {α ρ:Type} {st:Nat->α->Option ρ} {r:ρ} : ∀ {l:List α} {i:Nat},iY st i l=some r->∃(j:Nat) (x:α),l[j]? = some x∧st (i+j) x=some r∧∀(k:Nat) y,k<j->l[k]? = some y->st (i+k) y=none
 | [],i,h=>by cases h
 | x::l,i,h=>by
  simp only[iY]at h
  cases hs:st i x with
  | some r' =>
   rw[hs]at h
   exact⟨0,x,rfl,by rw[acW,hs];exact h,fun k y hk=>by omega⟩
  | none =>
   rw[hs]at h
   obtain⟨j,y,h1,h2,h3⟩:=kH h
   refine⟨j+1,y,by simpa using h1,by rw[<- h2];congr 1;omega,fun k z hk hz =>?_⟩
   cases k with
   | zero=>simp only[List.getElem?_cons_zero,acw]at hz;subst hz;exact hs
   | succ k =>
    have:=h3 k z (by omega) (by simpa using hz)
    rw[<- this];congr 1;omega
theorem GP {α ρ:Type} (l:List α) {body:Int->Option (Int⊕(Unit⊕ρ))} (st:Nat->α->Option ρ) (hlen:l.length<4611686018427387904)
  (hb:∀(i:Nat) x,l[i]? = some x->body (i:Int)=some (match st i x with|none =>.inl ((i+1:Nat):Int)|some r =>.inr (.inr r))) (he:body (l.length:Int)=some (.inr (.inl ()))) :
  ba body 0=some (match iY st 0 l with|none =>.inl ()|some r =>.inr r):=by
 have key:∀(rest:List α) (i fuel:Nat),i<=l.length->l.drop i=rest->rest.length<fuel->m6 body fuel (i:Int)=some (match iY st i rest with|none =>.inl ()|some r =>.inr r):=by
  intro rest
  induction rest with
  | nil =>
   intro i fuel hi hd hf
   obtain⟨f,rfl⟩:∃f,fuel=f+1:=⟨fuel-1,by simp at hf;omega⟩
   have hle:l.length<=i:=by
    have:=congrArg List.length hd
    simp at this
    omega
   have:i=l.length:=by omega
   subst this
   rw[Lb he]
   rfl
  | cons x rest ih =>
   intro i fuel hi hd hf
   obtain⟨f,rfl⟩:∃f,fuel=f+1:=⟨fuel-1,by simp at hf;omega⟩
   obtain⟨h1,h2,h3⟩:=drop_cons hd
   have:=hb i x h2
   cases hs:st i x with
   | some r =>
    rw[hs]at this
    rw[Lb this]
    simp only[iY,hs]
   | none =>
    rw[hs]at this
    rw[Vp this,ih (i+1) f h1 h3 (by simp at hf;omega)]
    simp only[iY,hs]
 exact key l 0 FU (acn _) rfl (by have:FU=1000000000000000000000000:=rfl;omega)
theorem BY {α σ ρ:Type} {body:Int×σ->Option ((Int×σ)⊕ρ)} (l:List α) (hl:l.length<=17592186044416) (inv:Nat->σ->Prop) (Q:ρ->Prop) {s0:σ} (h0:inv 0 s0)
  (hstep:∀(i:Nat) x s,l[i]? = some x->inv i s->∃s',body ((i:Int),s)=some (.inl (((i+1:Nat):Int),s'))∧inv (i+1) s')
  (hend:∀s,inv l.length s->∃r,body ((l.length:Int),s)=some (.inr r)∧Q r):∃r,ba body ((0:Int),s0)=some r∧Q r:=by
 refine dm (fun i s=>s.1=(i:Int)∧inv i s.2) l.length Q ⟨rfl,h0⟩ (lv hl) ?_
 rintro i ⟨k,s⟩ hi ⟨rfl,hI⟩
 rcases ac8 i l.length with h|h
 ·obtain⟨s',h1,h2⟩:=hstep i _ s (acA h) hI
  exact .inl ⟨h,_,h1,rfl,h2⟩
 ·have:i=l.length:=by omega
  subst this
  exact .inr (hend s hI)
theorem cc {α:Type} {N j:Nat} (f:Nat->α) (h:j<N):((List.range N).map f)[j]? = some (f j):=by simp[h]
theorem yD {α:Type} {N:Nat} (f:Nat->α):((List.range N).map f).length=N:=by simp
theorem hX {α:Type} {l:List α} {N:Nat} {f:Nat->α} (hl:l.length=N) (h:∀j,j<N->l[j]? = some (f j)):l=(List.range N).map f:=by
 apply aeo
 intro j
 by_cases hj:j<N
 ·rw[h j hj,cc f hj]
 ·rw[adU (by omega),adU (by simp;omega)]
theorem iC {α:Type} {N i:Nat} (f:Nat->α) (v:α):((List.range N).map f).set i v=(List.range N).map fun j=>if j=i then v else f j:=by
 refine hX (by simp) fun j hj =>?_
 rw[List.getElem?_set]
 by_cases h:i=j
 ·subst h
  rw[if_pos rfl,if_pos (by simpa using hj)]
  simp
 ·rw[if_neg h,cc f hj,if_neg (fun e=>h e.symm)]
theorem vT {α β:Type} {mk:β->α} {R:β->Prop} : ∀ {l:List α},(∀x∈l,∃y,x=mk y∧R y)->∃ys:List β,l=ys.map mk∧∀y∈ys,R y
 | [],_=>⟨[],rfl,fun _ h=>by cases h⟩
 | x::l,h=>by
  obtain⟨y,h1,h2⟩:=h x (adO ..)
  obtain⟨ys,h3,h4⟩:=vT (l:=l) fun z hz=>h z (adP _ hz)
  refine⟨y::ys,by rw[acs,<- h1,<- h3],fun z hz =>?_⟩
  rcases acu.1 hz with rfl|hz
  ·exact h2
  ·exact h4 z hz
theorem Ir {α:Type} {R:α->α->Prop} (ht:∀a b c,R a b->R b c->R a c) {l:List α} (h:∀(i:Nat) a b,l[i]? = some a->l[i+1]? = some b->R a b):l.Pairwise R:=by
 rw[List.pairwise_iff_getElem]
 intro i j hi hj hij
 obtain⟨d,rfl⟩:∃d,j=i+1+d:=⟨j-(i+1),by omega⟩
 clear hij
 induction d with
 | zero=>exact h i _ _ (acA hi) (acA hj)
 | succ d ih=>exact ht _ _ _ (ih (by omega)) (h (i+1+d) _ _ (acA (by omega)) (acA hj))
abbrev Tk:=Nat×Nat×Rat
def wv (t:Tk):di:=di.mk (t.1:Int) (t.2.1:Int) (dg t.2.2)
def mT (N:Nat) (tk:List Tk):bW:=bW.mk (N:Int) (tk.map wv)
theorem XI {a b:Tk} (h:wv a=wv b):a=b:=by
 unfold wv at h
 injection h with h1 h2 h3
 exact Prod.ext (by omega) (Prod.ext (by omega) (Ib h3))
theorem Ie {N M:Nat} {a b:List Tk} (h:mT N a=mT M b):N=M∧a=b:=by
 unfold mT at h
 injection h with h1 h2
 refine⟨by omega,?_⟩
 exact List.map_inj_right (f:=wv) (fun x y h=>XI h) |>.1 h2
def sg:List Tk->Nat->Rat
 | [],_=>0
 | t::l,p=>(if t.1=p then t.2.2 else 0)+sg l p
theorem MG (a b:List Tk) (p:Nat):sg (a++b) p=sg a p+sg b p:=by
 induction a with
 | nil=>rw[ad3,sg,Rat.zero_add]
 | cons t a ih=>rw[aed,sg,sg,ih];grind
def dM (tk:List Tk) (p:Nat):Rat:=1-sg tk p
theorem Cj {tk:List Tk} {i:Nat} {t:Tk} (h:tk[i]? = some t) (p:Nat):dM (tk.take (i+1)) p=dM (tk.take i) p-(if t.1=p then t.2.2 else 0):=by
 obtain⟨hi,he⟩:=acQ.1 h
 unfold dM
 rw[aeP hi,MG,he]
 simp only[sg]
 grind
theorem Hq {tk:List Tk} {K:Nat} (hs:∀t∈tk,LF t.2.2<=K) (p:Nat):∀i,i<=tk.length->LF (dM (tk.take i) p)<=1+i*(K+1)
 | 0,_=>by
  have:dM (tk.take 0) p=((1:Int):Rat):=by unfold dM;rw[aei,sg];grind
  rw[this]
  exact aco (NF (n:=1) (by decide)) (by omega)
 | i+1,h=>by
  have ih:=Hq hs p i (by omega)
  have hg:tk[i]? = some tk[i]:=acA (by omega)
  rw[Cj hg]
  have hk:=hs _ (acz (show i<tk.length by omega))
  rw[adk]
  split
  ·have:=NI (dM (tk.take i) p) tk[i].2.2
   omega
  ·rw[show ∀x:Rat,x-0=x by intro x;grind]
   omega
theorem IX {tk:List Tk} {K:Nat} (hs:∀t∈tk,LF t.2.2<=K) (p:Nat):LF (dM tk p)<=1+tk.length*(K+1):=by
 have:=Hq hs p tk.length (acm _)
 rwa [aen]at this
theorem L7 {α:Type} {N B:Nat} (z:α) (h:N*B<=140737488355328) (h2:N<=2000):D0 B (N:Int) (N:Int) z=some (List.replicate N z):=by
 unfold D0
 have:(2000:Nat)<=maxLen:=by decide
 rw[if_pos ⟨by omega,by omega,by omega,by simpa using h⟩]
 simp
theorem Zs:gH 1=some (dg 1):=X8 (n:=1) (by decide)
theorem Lq {N K:Nat} {tk:List Tk} (hN:N<=2000) (hlen:tk.length<=8000) (hf:∀t∈tk,t.1<N) (hK:K<=1000000) (hs:∀t∈tk,LF t.2.2<=K) :
  kK (mT N tk)=some ((List.range N).map fun p=>dg (dM tk p)):=by
 unfold kK mT
 simp only
 rw[L7 _ (by omega) hN,adS]
 have h1:∃r,ba (lz (List.replicate N (al.mk (an.mk 0 []) (an.mk 0 [])))) ((0:Int),List.replicate N (al.mk (an.mk 0 []) (an.mk 0 [])))=some r∧r=(List.range N).map fun p=>dg (dM (tk.take 0) p):=by
  refine BY (List.replicate N (al.mk (an.mk 0 []) (an.mk 0 []))) (by simp;omega) (fun i l=>l.length=N∧∀j,j<i->l[j]? = some (dg 1)) _ ⟨by simp,fun j hj=>by omega⟩ ?_ ?_
  ·rintro i x l hx ⟨hl,hI⟩
   have hi:i<N:=by have:=cP hx;simpa using this
   have hg:l[i]? = some l[i]:=acA (by omega)
   refine⟨l.set i (dg 1),?_,by simpa using hl,fun j hj =>?_⟩
   ·simp only[lz]
    rw[if_pos (by simp;omega),Zs,adS,bV hg,adS,cy (by omega),adn]
   ·rw[List.getElem?_set]
    by_cases h:i=j
    ·rw[if_pos h,if_pos (by omega)]
    ·rw[if_neg h];exact hI j (by omega)
  ·rintro l ⟨hl,hI⟩
   refine⟨l,?_,?_⟩
   ·simp only[lz];rw[if_neg (by simp)]
   ·rw[List.length_replicate]at hI
    refine hX hl fun j hj =>?_
    rw[hI j hj,aei]
    congr 2
    unfold dM sg;grind
 obtain⟨r,h1,rfl⟩:=h1
 rw[h1,adS]
 have h2:∃r,ba (lA (bW.mk (N:Int) (tk.map wv))) ((0:Int),(List.range N).map fun p=>dg (dM (tk.take 0) p))=some r∧r=(List.range N).map fun p=>dg (dM tk p):=by
  refine BY tk (by omega) (fun i l=>l=(List.range N).map fun p=>dg (dM (tk.take i) p)) _ rfl ?_ ?_
  ·rintro i t _ ht rfl
   have hi:=cP ht
   have hm:=acP ht
   have hfr:=hf t hm
   have hg:(tk.map wv)[i]? = some (wv t):=by rw[aci,ht];rfl
   refine⟨_,?_,rfl⟩
   simp only[lA]
   have hLF:=Hq hs t.1 i (by omega)
   have hkt:=hs t hm
   have hmul:i*(K+1)<=8000*1000001:=aeQ (by omega) (by omega)
   rw[if_pos (by simp;omega),bV hg,adS]
   simp only[wv]
   rw[bV (cc _ hfr),adS,Yf (by unfold eD;omega),adS,cy (by omega),adn,iC]
   congr 3
   refine congrArg (fun f=>(List.range N).map f) (funext fun p =>?_)
   rw[Cj ht]
   by_cases h:p=t.1
   ·subst h;rw[if_pos rfl,if_pos rfl]
   ·rw[if_neg h,if_neg (fun e=>h e.symm)]
    congr 1;grind
  ·rintro _ rfl
   refine⟨_,?_,rfl⟩
   simp only[lA]
   rw[if_neg (by simp),aen]
 obtain⟨r,h2,rfl⟩:=h2
 rw[h2,adS]
def W5 (a b:Tk):Prop:=a.1<b.1∨(a.1=b.1∧a.2.1<b.2.1)
theorem SZ (a b c:Tk) (h:W5 a b) (k:W5 b c):W5 a c:=by unfold W5 at *;omega
structure iT (N:Nat) (tk:List Tk):Prop where
 ports:N<=2000
 takes:tk.length<=8000
 ok:∀t∈tk,t.1<N∧t.2.1<N∧0<t.2.2
 sorted:tk.Pairwise W5
 leak:∀p,p<N->0<=dM tk p
theorem yN (a b c:Int):gp a b c=some (decide (b<=a∧a<=c)):=by
 unfold gp
 by_cases h1:a>=b<;>by_cases h2:a<=c<;>simp[h1,h2]
theorem Ss (a b:di):∃c,kq a b=some c∧(c<0↔(a.de<b.de∨(a.de=b.de∧a.lN<b.lN))):=by
 unfold kq
 rw[yi,adS,yi,adS,Yb,adS]
 refine⟨_,rfl,?_⟩
 unfold js
 split<;>split<;>(try split)<;>(try split)<;>simp at *<;>omega
theorem uN {q:Rat} : q.num.sign<0↔q<0:=by
 rw[Int.sign_neg_iff,<- Rat.not_le,<- Rat.num_nonneg]
 omega
theorem M5 {q:Rat} : q.num.sign=0↔q=0:=by
 rw[Int.sign_eq_zero_iff_zero,Rat.num_eq_zero]
theorem Ax {q:Rat} : 0<q.num.sign↔0<q:=by
 constructor
 ·intro h
  have h1:¬q<0:=fun h'=>by have:=uN.2 h';omega
  have h2:q≠0:=fun h'=>by have:=M5.2 h';omega
  grind
 ·intro h
  have h1:¬q.num.sign<0:=fun h'=>by have:=uN.1 h';grind
  have h2:q.num.sign≠0:=fun h'=>by have:=M5.1 h';grind
  omega
theorem wC {q:Rat} {k:Nat} (h1:(dg q).aH.aa.length<=k) (h2:(dg q).aK.aa.length<=k):LF q<=k:=by
 unfold LF Ln
 exact Nat.max_le.2 ⟨h1,h2⟩
theorem Ap {q:Rat} {k:Nat} (h:LF q<=k):(dg q).aH.aa.length<=k∧(dg q).aK.aa.length<=k:=by
 unfold LF Ln at h
 exact Nat.max_le.1 h
theorem Bk {l:List Rat} (hl:l.length<=17592186044416) (hs:∀q∈l,LF q<=eD):bs (l.map dg)=some (decide (∃q∈l,q<0)):=by
 unfold bs bX
 rw[GP l (fun i q=>if q<0 then some (i:Int) else none) (by omega) (fun i q hq =>?_) (by simp only[cS];rw[if_neg (by simp)])]
 ·rw[adS]
  cases hf:iY (fun i (q:Rat)=>if q<0 then some (i:Int) else none) 0 l with
  | none =>
   simp only
   rw[adS,decide_eq_false (by decide),decide_eq_false]
   rintro⟨q,hq,hn⟩
   obtain⟨j,hj⟩:=acJ hq
   have:=iZ.1 hf j q hj
   rw[if_pos hn]at this
   cases this
  | some r =>
   obtain⟨j,q,h1,h2,_⟩:=kH hf
   by_cases hn:q<0
   ·rw[if_pos hn]at h2
    cases h2
    simp only
    rw[adS,decide_eq_true (by omega),decide_eq_true ⟨q,acP h1,hn⟩]
   ·rw[if_neg hn]at h2;cases h2
 ·have hi:=cP hq
  simp only[cS,kJ]
  rw[if_pos (by simp;omega),bV (x:=dg q) (by rw[aci,hq];rfl),adS,AP (hs q (acP hq)),adS,adS]
  by_cases hn:q<0
  ·rw[decide_eq_true (uN.2 hn),if_pos hn];rfl
  ·rw[decide_eq_false (fun h=>hn (uN.1 h)),if_neg hn,cy (by omega)];rfl
def Tp (N:Nat) (x:di):Bool:=decide (0<=x.de∧x.de<=(N:Int)-1)&&decide (0<=x.lN∧x.lN<=(N:Int)-1)&&okF x.bg&&decide (0<x.bg.aH.ag)
def Sr (a b:di):Prop:=a.de<b.de∨(a.de=b.de∧a.lN<b.lN)
instance (a b:di):Decidable (Sr a b):=by unfold Sr;infer_instance
def B8 (N:Nat) (l:List di) (i:Nat) (x:di):Bool:=Tp N x&&(decide (i=0)||(match l[i-1]? with|some y=>decide (Sr y x)|none=>false))
theorem Mu {N:Nat} {x:di} : Tp N x=true↔∃t:Tk,x=wv t∧t.1<N∧t.2.1<N∧0<t.2.2:=by
 unfold Tp
 simp only[acY,decide_eq_true_eq]
 constructor
 ·rintro⟨⟨⟨h1,h2⟩,h3⟩,h4⟩
  obtain⟨q,hq⟩:=xk.1 h3
  refine⟨(x.de.toNat,x.lN.toNat,q),?_,by simp only;omega,by simp only;omega,?_⟩
  ·unfold wv
   cases x
   simp only at *
   rw[<- hq,Int.toNat_of_nonneg h1.1,Int.toNat_of_nonneg h2.1]
  ·rw[hq]at h4
   exact Ax.1 h4
 ·rintro⟨t,rfl,h1,h2,h3⟩
  exact⟨⟨⟨by simp only[wv];omega,by simp only[wv];omega⟩,O2 _⟩,Ax.2 h3⟩
theorem Qq {a b:Tk} : Sr (wv a) (wv b)↔W5 a b:=by
 unfold Sr W5 wv
 simp only
 omega
theorem GI {n:bW} {K:Nat} (hK:K<=1000000) (hs:∀t∈n.ax,t.bg.aH.aa.length<=K∧t.bg.aK.aa.length<=K) :
  ∃b,jE n=some b∧(b=true↔∃N tk,n=mT N tk∧iT N tk):=by
 unfold jE
 rw[yN,adS]
 by_cases hN:0<=n.aF∧n.aF<=2000
 rotate_left
 ·rw[decide_eq_false hN]
  refine⟨false,by simp,?_⟩
  simp only[acX,false_iff]
  rintro⟨N,tk,rfl,h⟩
  have:=h.ports
  simp only[mT]at hN
  omega
 rw[decide_eq_true hN]
 simp only[adJ,acX,if_false,Option.bind_some]
 by_cases hL:(n.ax.length:Int)>8000
 ·rw[decide_eq_true hL]
  refine⟨false,by simp,?_⟩
  simp only[acX,false_iff]
  rintro⟨N,tk,rfl,h⟩
  have:=h.takes
  simp only[mT,acR]at hL
  omega
 rw[decide_eq_false hL]
 simp only[acX,if_false]
 obtain⟨N,hNe⟩:∃N:Nat,n.aF=(N:Int):=⟨n.aF.toNat,by omega⟩
 have hwr:IntKind.i64.wrap (n.aF-1)=(N:Int)-1:=by rw[hNe,wrap64 (by omega) (by omega)]
 have hK2:K<=pA:=aco hK (by unfold pA;omega)
 have hscan:=GP n.ax (body:=ly n) (fun i x=>if B8 N n.ax i x=true then none else some false) (by omega) (fun i x hx=>by
  have hi:=cP hx
  obtain⟨hs1,hs2⟩:=hs x (acP hx)
  simp only[ly]
  rw[if_pos (by simp;omega),bV hx,adS,yN,adS,hwr]
  have hcond:(if (!decide (0<=x.de∧x.de<=(N:Int)-1))=true then some true
   else (gp x.lN 0 ((N:Int)-1)).bind fun r30 =>
    if (!r30)=true then some true
    else (bU x.bg).bind fun r32=>if (!r32)=true then some true else (fQ x.bg).bind fun r34=>some (decide (r34<=0)))=some (!Tp N x):=by
   unfold Tp
   by_cases c1:0<=x.de∧x.de<=(N:Int)-1
   rotate_left
   ·rw[decide_eq_false c1];simp
   rw[decide_eq_true c1,yN,adS]
   by_cases c2:0<=x.lN∧x.lN<=(N:Int)-1
   rotate_left
   ·rw[decide_eq_false c2];simp
   rw[decide_eq_true c2,wF ⟨by omega,by omega⟩,adS]
   cases hq:okF x.bg with
   | false=>simp
   | true =>
    obtain⟨q,hq⟩:=xk.1 hq
    rw[hq]at hs1 hs2 ⊢
    have hLF:=wC hs1 hs2
    rw[AP (by unfold eD;omega),adS]
    have:(dg q).aH.ag=q.num.sign:=rfl
    rw[this]
    by_cases c3:q.num.sign<=0
    ·rw[decide_eq_true c3,decide_eq_false (show ¬0<q.num.sign by omega)];simp
    ·rw[decide_eq_false c3,decide_eq_true (show 0<q.num.sign by omega)];simp
  rw[hcond,adS]
  unfold B8
  cases hok:Tp N x with
  | false=>simp
  | true =>
   simp only[adJ,acX,if_false,adK]
   cases i with
   | zero=>rw[if_neg (by simp),cy (by omega)];simp
   | succ i =>
    rw[if_pos (by simp)]
    have hg:n.ax[i]? = some n.ax[i]:=acA (by omega)
    have e1:IntKind.i64.wrap (((i+1:Nat):Int)-1)=(i:Int):=by rw[wrap64 (by omega) (by omega)];omega
    obtain⟨c,hc1,hc2⟩:=Ss n.ax[i] x
    rw[e1,bV hg,adS,hc1,adS,ad7,hg]
    simp only[Nat.add_eq_zero_iff,Nat.one_ne_zero,and_false,decide_false,Bool.false_or]
    by_cases hb:Sr n.ax[i] x
    ·rw[if_neg (by simp;exact hc2.2 hb),decide_eq_true hb,cy (by omega)];rfl
    ·rw[if_pos (by simp only[decide_eq_true_eq];have:¬c<0:=fun h=>hb (hc2.1 h);omega),decide_eq_false hb];rfl) (by
  unfold ly
  rw[if_neg (by simp)])
 rw[hscan,adS]
 cases hfs:iY (fun i x=>if B8 N n.ax i x=true then none else some false) 0 n.ax with
 | some r =>
  obtain⟨j,x,h1,h2,_⟩:=kH hfs
  simp only[ada]at h2
  split at h2
  ·cases h2
  rename_i hbad
  cases h2
  refine⟨false,rfl,?_⟩
  simp only[acX,false_iff]
  rintro⟨M,tk,rfl,hR⟩
  refine hbad ?_
  simp only[mT]at h1 hNe ⊢
  obtain rfl:M=N:=by omega
  rw[aci,acj]at h1
  obtain⟨t,ht,rfl⟩:=h1
  have hm:=acP ht
  unfold B8
  rw[Mu.2 ⟨t,rfl,hR.ok t hm⟩,adK]
  cases j with
  | zero=>simp
  | succ j =>
   have hjl:=cP ht
   have hg:tk[j]? = some tk[j]:=acA (by omega)
   rw[ad7,aci,hg]
   simp only[Option.map_some]
   rw[decide_eq_true (Qq.2 ?_),Bool.or_true]
   have:=List.pairwise_iff_getElem.1 hR.sorted j (j+1) (by omega) hjl (by omega)
   rwa [(acQ.1 ht).2]at this
 | none =>
  have hall:=iZ.1 hfs
  simp only[ada]at hall
  have hgood:∀(j:Nat) x,n.ax[j]? = some x->B8 N n.ax j x=true:=fun j x hj=>by
   have:=hall j x hj
   split at this
   ·assumption
   ·cases this
  obtain⟨tk,htk,htk2⟩:=vT (mk:=wv) (R:=fun t=>t.1<N∧t.2.1<N∧0<t.2.2) (l:=n.ax) fun x hx=>by
   obtain⟨j,hj⟩:=acJ hx
   have:=hgood j x hj
   unfold B8 at this
   rw[acY]at this
   exact Mu.1 this.1
  have hn:n=mT N tk:=by
   unfold mT
   rw[<- hNe,<- htk]
  have hsort:tk.Pairwise W5:=Ir SZ fun i a b ha hb=>by
   have:=hgood (i+1) (wv b) (by rw[htk,aci,hb];rfl)
   unfold B8 at this
   rw[acY,ad7,htk,aci,ha]at this
   simpa [Qq] using this.2
  have hLF:∀t∈tk,LF t.2.2<=K:=fun t ht=>by
   have:=hs (wv t) (by rw[htk];exact List.mem_map_of_mem ht)
   exact wC this.1 this.2
  have hlen:tk.length<=8000:=by
   have:=congrArg List.length htk
   rw[acR]at this
   omega
  have hN2:N<=2000:=by omega
  simp only
  rw[hn,Lq hN2 hlen (fun t ht=>(htk2 t ht).1) hK hLF,adS]
  have hmap:((List.range N).map fun p=>dg (dM tk p))=((List.range N).map fun p=>dM tk p).map dg:=by rw[List.map_map];rfl
  rw[hmap,Bk (by simp;omega) (fun q hq=>by
   obtain⟨p,_,rfl⟩:=ack.1 hq
   have:=IX hLF p
   have h2:tk.length*(K+1)<=8000*1000001:=aeQ hlen (by omega)
   unfold eD;omega),adS]
  refine⟨_,rfl,?_⟩
  simp only[acZ,decide_eq_false_iff_not]
  constructor
  ·intro hno
   refine⟨N,tk,rfl,⟨hN2,hlen,htk2,hsort,fun p hp =>?_⟩⟩
   by_cases h0:dM tk p<0
   ·exact absurd ⟨_,ack.2 ⟨p,adZ.2 hp,rfl⟩,h0⟩ hno
   ·grind
  ·rintro⟨M,tk',he,hR⟩ ⟨q,hq,hneg⟩
   obtain⟨rfl,rfl⟩:=Ie he
   obtain⟨p,hp,rfl⟩:=ack.1 hq
   have:=hR.leak p (adZ.1 hp)
   grind
theorem xg:∀(N:Nat) (l:List Nat),l.Nodup->(∀x∈l,x<N)->l.length<=N
 | 0,l,_,h=>by
  cases l with
  | nil=>simp
  | cons x l=>exact absurd (h x (adO ..)) (by omega)
 | N+1,l,hn,h=>by
  have h1:=xg N (l.erase N) (hn.erase N) fun x hx=>by
   have h2:=h x (List.mem_of_mem_erase hx)
   have h3:x≠N:=fun e=>by subst e;exact (List.Nodup.mem_erase_iff hn).1 hx |>.1 rfl
   omega
  rw[List.length_erase]at h1
  split at h1<;>omega
def jz (l:List Nat):List Int:=l.map fun (p:Nat)=>(p:Int)
theorem VG {l:List Nat} {i p:Nat} (h:l[i]? = some p):(jz l)[i]? = some (p:Int):=by unfold jz;rw[aci,h];rfl
theorem mM (l:List Nat):(jz l).length=l.length:=acR ..
def jQ (tk:List Tk) (p:Nat):List Nat:=(tk.filter fun t=>decide (t.2.1=p)).map fun t=>t.1
theorem FZ {tk:List Tk} {p q:Nat} : q∈jQ tk p↔∃t∈tk,t.1=q∧t.2.1=p:=by
 unfold jQ
 simp only[ack,adV,decide_eq_true_eq]
 constructor
 ·rintro⟨t,⟨h1,h2⟩,h3⟩;exact⟨t,h1,h3,h2⟩
 ·rintro⟨t,h1,h3,h2⟩;exact⟨t,⟨h1,h2⟩,h3⟩
theorem Es (tk:List Tk) (p:Nat):(jQ tk p).length<=tk.length:=by
 unfold jQ
 rw[acR]
 exact aeR ..
theorem NY {tk:List Tk} {i:Nat} {t:Tk} (h:tk[i]? = some t) (p:Nat):jQ (tk.take (i+1)) p=if t.2.1=p then jQ (tk.take i) p++[t.1] else jQ (tk.take i) p:=by
 obtain⟨hi,he⟩:=acQ.1 h
 unfold jQ
 rw[aeP hi,aeS,adL,he]
 by_cases hc:t.2.1=p
 ·rw[if_pos hc,aeT (by simpa using hc)];rfl
 ·rw[if_neg hc,aeU (by simpa using hc)];simp
structure mU (N:Nat) (tk:List Tk) (r:Nat->Int):Prop where
 ge:∀p,p<N -> -1<=r p
 zero:∀p,p<N->(r p=0↔0<dM tk p)
 down:∀p,p<N->0<r p->∃t∈tk,t.1=p∧r t.2.1=r p-1
 near:∀t∈tk,0<=r t.2.1->0<=r t.1∧r t.1<=r t.2.1+1
 le:∀p,p<N->r p<=2000
structure BF (N:Nat) (tk:List Tk) (r:Nat->Int) (D Q:List Nat) (h m:Int):Prop where
 nodup:(D++Q).Nodup
 lt:∀p∈D++Q,p<N
 rk:∀p,p<N->(0<=r p↔p∈D++Q)
 ge:∀p,p<N -> -1<=r p
 zero:∀p,p<N->(r p=0↔0<dM tk p)
 down:∀p,p<N->0<r p->∃t∈tk,t.1=p∧r t.2.1=r p-1
 near:∀t∈tk,t.2.1∈D->0<=r t.1∧r t.1<=r t.2.1+1
 mono:Q.Pairwise fun a b=>r a<=r b
 top:∀p∈D++Q,r p<=h+1
 low:∀q∈Q,h<=r q
 bnd:∀p,p<N->r p<=m
def TF (r:Nat->Int) (q:Nat) (v:Int):Nat->Int:=fun x=>if x=q then v else r x
theorem jG (r:Nat->Int) (q:Nat) (v:Int):TF r q v q=v:=if_pos rfl
theorem gC {r:Nat->Int} {q x:Nat} (v:Int) (h:x≠q):TF r q v x=r x:=if_neg h
theorem BF.pop {N:Nat} {tk:List Tk} {r:Nat->Int} {D Q:List Nat} {p:Nat} {h m:Int} (hB:BF N tk r D (p::Q) h m):BF N tk r D (p::Q) (r p) (m+1)∧0<=r p∧p<N∧r p<=m where
 left:={
  nodup:=hB.nodup,lt:=hB.lt,rk:=hB.rk,ge:=hB.ge,zero:=hB.zero,down:=hB.down,near:=hB.near,mono:=hB.mono
  top:=fun x hx=>by
   have h1:=hB.top x hx
   have h2:=hB.low p (adO ..)
   omega
  low:=fun q hq=>by
   rcases acu.1 hq with rfl|hq
   ·exact Int.le_refl _
   ·exact (adW.1 hB.mono).1 q hq
  bnd:=fun x hx=>by have:=hB.bnd x hx;omega }
 right:=by
  have hm:p∈D++p::Q:=acC _ (adO ..)
  have hp:=hB.lt p hm
  exact⟨(hB.rk p hp).2 hm,hp,hB.bnd p hp⟩
theorem BF.push {N:Nat} {tk:List Tk} {r:Nat->Int} {D Q:List Nat} {p q:Nat} {m:Int} (hB:BF N tk r D (p::Q) (r p) m) (hp0:0<=r p) (hm:r p+1<=m) (hq:q<N) (hr:r q = -1) (ht:∃t∈tk,t.1=q∧t.2.1=p) :
  BF N tk (TF r q (r p+1)) D (p::(Q++[q])) (r p) m∧TF r q (r p+1) p=r p:=by
 have hqn:q∉D++p::Q:=fun h=>by have:=(hB.rk q hq).2 h;omega
 have hap:∀x,x∈D++p::(Q++[q])↔x∈D++p::Q∨x=q:=fun x=>by
  simp only[adw,acu,aeV,or_false]
  constructor
  ·rintro (h|h|h|h)<;>simp[h]
  ·rintro ((h|h|h)|h)<;>simp[h]
 have hne:∀x,x∈D++p::Q->x≠q:=fun x hx e=>hqn (e ▸ hx)
 have hpm:p∈D++p::Q:=acC _ (adO ..)
 have hpq:p≠q:=hne p hpm
 refine⟨?_,gC _ hpq⟩
 constructor
 ·have:D++p::(Q++[q])=(D++p::Q)++[q]:=by simp
  rw[this,List.nodup_append]
  refine⟨hB.nodup,by simp,fun a ha b hb =>?_⟩
  simp only[acu,aeV,or_false]at hb
  subst hb
  exact hne a ha
 ·intro x hx
  rcases (hap x).1 hx with h|rfl
  ·exact hB.lt x h
  ·exact hq
 ·intro x hx
  rw[hap]
  by_cases h:x=q
  ·subst h;rw[jG];exact⟨fun _ =>.inr rfl,fun _=>by omega⟩
  ·rw[gC _ h,hB.rk x hx];exact⟨.inl,fun k=>k.elim id fun e=>absurd e h⟩
 ·intro x hx
  by_cases h:x=q
  ·subst h;rw[jG];omega
  ·rw[gC _ h];exact hB.ge x hx
 ·intro x hx
  by_cases h:x=q
  ·subst h
   rw[jG]
   have:=hB.zero x hx
   constructor
   ·intro h;omega
   ·intro h;have:=this.2 h;omega
  ·rw[gC _ h];exact hB.zero x hx
 ·intro x hx h0
  by_cases h:x=q
  ·subst h
   obtain⟨t,h1,h2,h3⟩:=ht
   refine⟨t,h1,h2,?_⟩
   rw[h3,gC _ hpq,jG]
   omega
  ·rw[gC _ h]at h0 ⊢
   obtain⟨t,h1,h2,h3⟩:=hB.down x hx h0
   refine⟨t,h1,h2,?_⟩
   rw[gC _ (fun e=>by rw[e,hr]at h3;omega)]
   exact h3
 ·intro t ht' hD
  obtain⟨h1,h2⟩:=hB.near t ht' hD
  have e1:t.2.1≠q:=hne _ (acB _ hD)
  have e2:t.1≠q:=fun e=>by rw[e]at h1;omega
  rw[gC _ e1,gC _ e2]
  exact⟨h1,h2⟩
 ·have h1:=hB.mono
  have:p::(Q++[q])=(p::Q)++[q]:=by simp
  rw[this,adX]
  refine⟨h1.imp_of_mem fun {a b} ha hb h =>?_,by simp,fun a ha b hb =>?_⟩
  ·rw[gC _ (hne a (acC _ ha)),gC _ (hne b (acC _ hb))]
   exact h
  ·simp only[acu,aeV,or_false]at hb
   subst hb
   rw[gC _ (hne a (acC _ ha)),jG]
   exact hB.top a (acC _ ha)
 ·intro x hx
  rcases (hap x).1 hx with h|rfl
  ·rw[gC _ (hne x h)];exact hB.top x h
  ·rw[jG];exact Int.le_refl _
 ·intro x hx
  by_cases h:x=q
  ·subst h;rw[jG];omega
  ·rw[gC _ h]
   refine hB.low x ?_
   simp only[acu,adw,aeV,or_false]at hx ⊢
   rcases hx with h1|h1|h1
   ·exact .inl h1
   ·exact .inr h1
   ·exact absurd h1 h
 ·intro x hx
  by_cases h:x=q
  ·subst h;rw[jG];exact hm
  ·rw[gC _ h];exact hB.bnd x hx
theorem BF.finish {N:Nat} {tk:List Tk} {r:Nat->Int} {D Q:List Nat} {p:Nat} {h m:Int} (hB:BF N tk r D (p::Q) h m) (hn:∀q∈jQ tk p,0<=r q∧r q<=r p+1):BF N tk r (D++[p]) Q h m:=by
 have e:(D++[p])++Q=D++p::Q:=by simp
 exact {
  nodup:=by rw[e];exact hB.nodup
  lt:=by rw[e];exact hB.lt
  rk:=by rw[e];exact hB.rk
  ge:=hB.ge,zero:=hB.zero,down:=hB.down
  near:=fun t ht hD=>by
   rcases adw.1 hD with h1|h1
   ·exact hB.near t ht h1
   ·simp only[acu,aeV,or_false]at h1
    rw[h1]
    exact hn t.1 (FZ.2 ⟨t,ht,rfl,h1⟩)
  mono:=(adW.1 hB.mono).2
  top:=by rw[e];exact hB.top
  low:=fun q hq=>hB.low q (adP _ hq)
  bnd:=hB.bnd }
theorem BF.aau {N:Nat} {tk:List Tk} {r:Nat->Int} {D:List Nat} {h m:Int} (hB:BF N tk r D [] h m) (ht:∀t∈tk,t.1<N∧t.2.1<N) (hm:m<=2000):mU N tk r where
 ge:=hB.ge
 zero:=hB.zero
 down:=hB.down
 near t h1 h2:=hB.near t h1 (by have:=(hB.rk t.2.1 (ht t h1).2).1 h2;simpa using this)
 le p hp:=by have:=hB.bnd p hp;omega
theorem V8 {α:Type} (a:α) (l:List α):Al (a::l) 1 ((a::l).length:Int)=some l:=by
 unfold Al
 rw[if_pos ⟨by omega,by simp;omega,by omega⟩]
 simp
variable {N:Nat} {tk:List Tk}
theorem Ph {r:Nat->Int} {D Q:List Nat} {p:Nat} {m:Int} (hB:BF N tk r D (p::Q) (r p) m) (hp:p<N) (hp0:0<=r p) (hm:r p+1<=m) (hm2:m<=2001) (htk:∀t∈tk,t.1<N∧t.2.1<N) (hlen:tk.length<=8000) (hN:N<=2000) :
  ∃r' Q',ba (jD (p:Int) (jz (jQ tk p))) ((0:Int),(List.range N).map r,jz Q)=some ((List.range N).map r',jz Q')∧BF N tk r' (D++[p]) Q' (r p) m:=by
 have hbl:=Es tk p
 have key:=fun hs he=>BY (body:=jD (p:Int) (jz (jQ tk p))) (jQ tk p) (by omega) (fun i (s:List Int×List Int)=>∃r' Q',s=((List.range N).map r',jz Q')∧BF N tk r' D (p::Q') (r p) m∧r' p=r p∧∀q∈(jQ tk p).take i,0<=r' q∧r' q<=r p+1)
  (fun x=>∃r' Q',x=((List.range N).map r',jz Q')∧BF N tk r' (D++[p]) Q' (r p) m) (s0:=((List.range N).map r,jz Q)) ⟨r,Q,rfl,hB,rfl,fun q hq=>by simp at hq⟩ hs he
 refine (key ?_ ?_).elim fun x ⟨h1,r',Q',hx,h2⟩=>⟨r',Q',hx ▸ h1,h2⟩
 ·rintro i q _ hq ⟨r',Q',rfl,hB',hrp,hnear⟩
  have hi:=cP hq
  have hqm:=acP hq
  obtain⟨t,ht1,ht2,ht3⟩:=FZ.1 hqm
  have hqN:q<N:=by rw[<- ht2];exact (htk t ht1).1
  have htake:(jQ tk p).take (i+1)=(jQ tk p).take i++[q]:=by
   rw[aeP hi,(acQ.1 hq).2]
  have hQl:Q'.length<=N:=by
   have h1:=xg N (D++p::Q') hB'.nodup hB'.lt
   simp only[adq,List.length_cons]at h1
   omega
  simp only[jD]
  rw[if_pos (by rw[mM];simp;omega),bV (VG hq),adS,bV (cc r' hqN),adS]
  by_cases hc:r' q = -1
  ·rw[if_pos (by rw[hc];rfl),bV (cc r' hp),adS,hrp,I4 (by rw[mM];simp;omega),adS,cy (by omega),adn,iC]
   have hw:IntKind.i64.wrap (r p+1)=r p+1:=wrap64 (by omega) (by omega)
   rw[hw]
   have hB2:=hB'
   rw[<- hrp]at hB2
   obtain⟨h1,h2⟩:=hB2.push (by omega) (by omega) hqN hc ⟨t,ht1,ht2,ht3⟩
   rw[hrp]at h1 h2
   refine⟨_,rfl,TF r' q (r p+1),Q'++[q],?_,h1,h2,fun x hx =>?_⟩
   ·unfold jz TF;simp
   ·rw[htake]at hx
    rcases adw.1 hx with hx|hx
    ·have:=hnear x hx
     by_cases hxq:x=q
     ·subst hxq;rw[hc]at this;omega
     ·rw[gC _ hxq];exact this
    ·simp only[acu,aeV,or_false]at hx
     subst hx
     rw[jG];omega
  ·rw[if_neg (by simpa using hc),cy (by omega)]
   refine⟨_,rfl,r',Q',rfl,hB',hrp,fun x hx =>?_⟩
   rw[htake]at hx
   rcases adw.1 hx with hx|hx
   ·exact hnear x hx
   ·simp only[acu,aeV,or_false]at hx
    subst hx
    have h0:0<=r' x:=by have:=hB'.ge x hqN;omega
    exact⟨h0,hB'.top x ((hB'.rk x hqN).1 h0)⟩
 ·rintro _ ⟨r',Q',rfl,hB',hrp,hnear⟩
  refine⟨_,?_,r',Q',rfl,hB'.finish fun q hq =>?_⟩
  ·simp only[jD]
   rw[if_neg (by rw[mM];simp)]
  ·rw[aen]at hnear
   rw[hrp]
   exact hnear q hq
theorem Pj {r:Nat->Int} {Q:List Nat} (hB:BF N tk r [] Q 0 0) (htk:∀t∈tk,t.1<N∧t.2.1<N) (hlen:tk.length<=8000) (hN:N<=2000) :
  ∃r',ba (jC ((List.range N).map fun p=>jz (jQ tk p))) ((List.range N).map r,jz Q)=some ((List.range N).map r')∧mU N tk r':=by
 have key:=fun hs=>dm (body:=jC ((List.range N).map fun p=>jz (jQ tk p))) (fun i (s:List Int×List Int)=>∃r' D Q' h,s=((List.range N).map r',jz Q')∧D.length=i∧BF N tk r' D Q' h (i:Int)) N
  (fun x=>∃r',x=(List.range N).map r'∧mU N tk r') (s:=((List.range N).map r,jz Q)) ⟨r,[],Q,0,rfl,rfl,hB⟩ (lv (by omega)) hs
 refine (key ?_).elim fun x ⟨h1,r',hx,h2⟩=>⟨r',hx ▸ h1,h2⟩
 ·rintro i _ hi ⟨r',D,Q',h,rfl,hD,hB'⟩
  cases Q' with
  | nil =>
   refine .inr ⟨_,?_,r',rfl,hB'.aau htk (by omega)⟩
   simp only[jC,jz,adb]
   rw[if_neg (by simp)]
  | cons p Q' =>
   obtain⟨hB2,hp0,hp,hpm⟩:=hB'.pop
   have hiN:i<N:=by
    have h1:=xg N (D++p::Q') hB'.nodup hB'.lt
    simp only[adq,List.length_cons]at h1
    omega
   obtain⟨r2,Q2,h1,h2⟩:=Ph hB2 hp hp0 (by omega) (by omega) htk hlen hN
   refine .inl ⟨hiN,((List.range N).map r2,jz Q2),?_,r2,D++[p],Q2,r' p,rfl,by simp[hD],by simpa using h2⟩
   simp only[jC]
   have e1:jz (p::Q')=(p:Int)::jz Q':=rfl
   rw[e1,if_pos (by simp),idx_zero' ,adS,V8,adS,bV (cc (fun p=>jz (jQ tk p)) hp),adS,h1,adS]
where
 idx_zero':∀ {α:Type} {a:α} {l:List α},P.idx (a::l) 0=some a:=fun {_ a l}=>bV (l:=a::l) (i:=0) rfl
theorem Sq {L:Nat} (htk:∀t∈tk,t.1<N∧t.2.1<N) (hlen:tk.length<=8000) :
  ba (jA (mT N tk)) ((0:Int),List.replicate N ([]:List Int))=some ((List.range N).map fun p=>jz (jQ tk p)):=by
 unfold mT
 have key:=fun hs he=>BY (body:=jA (bW.mk (N:Int) (tk.map wv))) tk (by omega) (fun i l=>l=(List.range N).map fun p=>jz (jQ (tk.take i) p)) (fun l=>l=(List.range N).map fun p=>jz (jQ tk p)) (s0:=List.replicate N ([]:List Int))
  (hX (by simp) fun j hj=>by rw[aeW,if_pos hj,List.take_zero];rfl) hs he
 refine (key ?_ ?_).elim fun x ⟨h1,hx⟩=>hx ▸ h1
 ·rintro i t _ ht rfl
  have hi:=cP ht
  have hto:=(htk t (acP ht)).2
  have hg:(tk.map wv)[i]? = some (wv t):=by rw[aci,ht];rfl
  have hbl:=Es (tk.take i) t.2.1
  rw[acG]at hbl
  refine⟨_,?_,rfl⟩
  simp only[jA]
  rw[if_pos (by simp;omega),bV hg,adS]
  simp only[wv]
  rw[bV (cc _ hto),adS,I4 (by rw[mM];simp;omega),adS,cy (by omega),adn,iC]
  congr 3
  refine congrArg (fun f=>(List.range N).map f) (funext fun p =>?_)
  rw[NY ht]
  by_cases h:p=t.2.1
  ·subst h;rw[if_pos rfl,if_pos rfl];unfold jz;simp
  ·rw[if_neg h,if_neg (fun e=>h e.symm)]
 ·rintro _ rfl
  refine⟨_,?_,rfl⟩
  simp only[jA]
  rw[if_neg (by simp),aen]
def zQ (tk:List Tk) (p:Nat):Int:=if 0<dM tk p then 0 else -1
def lG (tk:List Tk) (n:Nat):List Nat:=(List.range n).filter fun p=>decide (0<dM tk p)
theorem MM (tk:List Tk) (n:Nat):lG tk (n+1)=if 0<dM tk n then lG tk n++[n] else lG tk n:=by
 unfold lG
 rw[List.range_succ,aeS]
 by_cases h:0<dM tk n
 ·rw[if_pos h,aeT (by simpa using h)];rfl
 ·rw[if_neg h,aeU (by simpa using h)];simp
theorem SP {K:Nat} (hN:N<=2000) (hlen:tk.length<=8000) (hK:K<=1000000) (hs:∀t∈tk,LF t.2.2<=K) :
  ba (jB ((List.range N).map fun p=>dg (dM tk p))) ((0:Int),List.replicate N (0:Int),([]:List Int))=some ((List.range N).map (zQ tk),jz (lG tk N)):=by
 have key:=fun hs he=>BY (body:=jB ((List.range N).map fun p=>dg (dM tk p))) (List.range N) (by simp;omega) (fun i (s:List Int×List Int)=>s=((List.range N).map (fun p=>if p<i then zQ tk p else 0),jz (lG tk i))) (fun s=>s=((List.range N).map (zQ tk),jz (lG tk N))) (s0:=(List.replicate N (0:Int),([]:List Int)))
  (by rw[show lG tk 0=[] from rfl];refine Prod.ext ?_ rfl;exact hX (by simp) fun j hj=>by rw[aeW,if_pos hj,if_neg (by omega)]) hs he
 refine (key ?_ ?_).elim fun x ⟨h1,hx⟩=>hx ▸ h1
 ·rintro i x _ hx rfl
  have hi:i<N:=by have:=cP hx;simpa using this
  have hLF:=IX hs i
  have h2:tk.length*(K+1)<=8000*1000001:=aeQ hlen (by omega)
  have hql:(lG tk i).length<=i:=by unfold lG;have:=aeR (fun p=>decide (0<dM tk p)) (List.range i);simpa using this
  refine⟨_,?_,rfl⟩
  simp only[jB]
  rw[if_pos (by simp;omega),bV (cc (fun p=>dg (dM tk p)) hi),adS,bV (cc _ hi),adS,AP (by unfold eD;omega),adS,adn,iC,iC,cy (by omega),MM]
  by_cases hl:0<dM tk i
  ·rw[if_pos (by simpa using Ax.2 hl),bV (cc _ hi),adS,I4 (by rw[mM];simp;omega),adS,if_pos hl]
   refine congrArg some (congrArg Sum.inl (congrArg (Prod.mk _) (Prod.ext ?_ ?_)))
   ·refine congrArg (fun f=>(List.range N).map f) (funext fun p =>?_)
    by_cases h:p=i
    ·subst h;rw[if_pos rfl,if_pos (by omega)];unfold zQ;rw[if_pos hl]
    ·rw[if_neg h,if_neg h]
     by_cases h3:p<i
     ·rw[if_pos h3,if_pos (by omega)]
     ·rw[if_neg h3,if_neg (by omega)]
   ·unfold jz;simp
  ·rw[if_neg (by simpa using fun h=>hl (Ax.1 h)),if_neg hl]
   refine congrArg some (congrArg Sum.inl (congrArg (Prod.mk _) (Prod.ext ?_ rfl)))
   refine congrArg (fun f=>(List.range N).map f) (funext fun p =>?_)
   by_cases h:p=i
   ·subst h;rw[if_pos rfl,if_pos (by omega)];unfold zQ;rw[if_neg hl]
   ·rw[if_neg h]
    by_cases h3:p<i
    ·rw[if_pos h3,if_pos (by omega)]
    ·rw[if_neg h3,if_neg (by omega)]
 ·rintro _ rfl
  refine⟨_,?_,rfl⟩
  simp only[jB]
  rw[if_neg (by simp),acS]
  refine congrArg some (congrArg Sum.inr (Prod.ext ?_ rfl))
  refine hX (by simp) fun j hj =>?_
  rw[cc _ hj,if_pos hj]
theorem Xy (N:Nat) (tk:List Tk):BF N tk (zQ tk) [] (lG tk N) 0 0:=by
 have hm:∀p,p∈lG tk N↔p<N∧0<dM tk p:=fun p=>by unfold lG;simp[adV]
 have h0:∀p,0<dM tk p->zQ tk p=0:=fun p h=>if_pos h
 have h1:∀p,¬0<dM tk p->zQ tk p = -1:=fun p h=>if_neg h
 constructor
 ·rw[ad3];unfold lG;exact List.nodup_range.filter _
 ·intro p hp;rw[ad3]at hp;exact ((hm p).1 hp).1
 ·intro p hp
  rw[ad3,hm]
  by_cases h:0<dM tk p
  ·rw[h0 p h];simp[hp,h]
  ·rw[h1 p h];simp[h]
 ·intro p hp
  by_cases h:0<dM tk p
  ·rw[h0 p h];omega
  ·rw[h1 p h];omega
 ·intro p hp
  by_cases h:0<dM tk p
  ·rw[h0 p h];simp[h]
  ·rw[h1 p h];simp[h]
 ·intro p hp hpos
  by_cases h:0<dM tk p
  ·rw[h0 p h]at hpos;omega
  ·rw[h1 p h]at hpos;omega
 ·intro t _ h;simp at h
 ·refine List.Pairwise.imp_of_mem (R:=fun _ _=>True) (fun {a b} ha hb _ =>?_) (List.pairwise_of_forall (fun _ _=>trivial))
  rw[h0 a ((hm a).1 ha).2,h0 b ((hm b).1 hb).2]
  exact Int.le_refl _
 ·intro p hp
  rw[ad3]at hp
  rw[h0 p ((hm p).1 hp).2];omega
 ·intro q hq;rw[h0 q ((hm q).1 hq).2];omega
 ·intro p hp
  by_cases h:0<dM tk p
  ·rw[h0 p h];omega
  ·rw[h1 p h];omega
theorem VX {K:Nat} (hR:iT N tk) (hK:K<=1000000) (hs:∀t∈tk,LF t.2.2<=K):∃r,iy (mT N tk)=some ((List.range N).map r)∧mU N tk r:=by
 have hN:=hR.ports
 have hlen:=hR.takes
 have htk:∀t∈tk,t.1<N∧t.2.1<N:=fun t ht=>⟨(hR.ok t ht).1,(hR.ok t ht).2.1⟩
 obtain⟨b,hb1,hb2⟩:=GI (n:=mT N tk) hK (fun t ht=>by
  simp only[mT,ack]at ht
  obtain⟨t',h1,rfl⟩:=ht
  exact Ap (hs t' h1))
 obtain rfl:b=true:=hb2.2 ⟨N,tk,rfl,hR⟩
 obtain⟨r',h1,h2⟩:=Pj (Xy N tk) htk hlen hN
 refine⟨r',?_,h2⟩
 unfold iy
 rw[hb1,adS]
 simp only[adJ,acX,if_false]
 have e1:(mT N tk).aF=(N:Int):=rfl
 rw[e1,L7 _ (by omega) hN,adS,Sq (L:=0) htk hlen,adS,L7 _ (by omega) hN,adS,Lq hN hlen (fun t ht=>(htk t ht).1) hK hs,adS,SP hN hlen hK hs,adS]
 simp only
 rw[h1,adS]
def j3 (N:Nat) (r:Nat->Int):List Nat:=(List.range N).filter fun p=>decide (r p = -1)
theorem PI (n:Nat) (r:Nat->Int):j3 (n+1) r=if r n = -1 then j3 n r++[n] else j3 n r:=by
 unfold j3
 rw[List.range_succ,aeS]
 by_cases h:r n = -1
 ·rw[if_pos h,aeT (by simpa using h)];rfl
 ·rw[if_neg h,aeU (by simpa using h)];simp
theorem PJ {r:Nat->Int} (hN:N<=2000) (h:iy (mT N tk)=some ((List.range N).map r)):gS (mT N tk)=some (jz (j3 N r)):=by
 unfold gS
 rw[h,adS]
 have key:=fun hs he=>BY (body:=gJ ((List.range N).map r)) (List.range N) (by simp;omega) (fun i l=>l=jz (j3 i r)) (fun l=>l=jz (j3 N r)) (s0:=([]:List Int)) rfl hs he
 have h2:ba (gJ ((List.range N).map r)) ((0:Int),[])=some (jz (j3 N r)):=by
  refine (key ?_ ?_).elim fun x ⟨h1,hx⟩=>hx ▸ h1
  ·rintro i x _ hx rfl
   have hi:i<N:=by have:=cP hx;simpa using this
   have hql:(j3 i r).length<=i:=by unfold j3;have:=aeR (fun p=>decide (r p = -1)) (List.range i);simpa using this
   refine⟨_,?_,rfl⟩
   simp only[gJ]
   rw[if_pos (by simp;omega),bV (cc r hi),adS,cy (by omega),PI]
   by_cases hc:r i = -1
   ·rw[if_pos (by rw[hc];rfl),I4 (by rw[mM];simp;omega),adS,if_pos hc]
    unfold jz;simp
   ·rw[if_neg (by simpa using hc),if_neg hc]
  ·rintro _ rfl
   refine⟨_,?_,rfl⟩
   simp only[gJ]
   rw[if_neg (by simp),acS]
 rw[h2,adS]
end Go.Proofs.Ytchndpjlijbplaa.P
namespace Go.Proofs.Ytchndpjlijbplaa.P
open Go.RowKit
set_option linter.unusedSimpArgs false
set_option linter.unusedVariables false
def sm:Nat->(Nat->Rat)->Rat
 | 0,_=>0
 | n+1,f=>sm n f+f n
theorem xC {n:Nat} {f g:Nat->Rat} (h:∀i,i<n->f i=g i):sm n f=sm n g:=by
 induction n with
 | zero=>rfl
 | succ n ih=>rw[sm,sm,ih fun i hi=>h i (by omega),h n (by omega)]
theorem V9 (n:Nat) (f g:Nat->Rat):sm n (fun i=>f i+g i)=sm n f+sm n g:=by
 induction n with
 | zero=>simp only[sm];grind
 | succ n ih=>simp only[sm];rw[ih];grind
theorem Wa (n:Nat) (f g:Nat->Rat):sm n (fun i=>f i-g i)=sm n f-sm n g:=by
 induction n with
 | zero=>simp only[sm];grind
 | succ n ih=>simp only[sm];rw[ih];grind
theorem yI {n:Nat} {f:Nat->Rat} (h:∀i,i<n->0<=f i):0<=sm n f:=by
 induction n with
 | zero=>simp only[sm];grind
 | succ n ih =>
  have h1:=ih fun i hi=>h i (by omega)
  have h2:=h n (by omega)
  simp only[sm];grind
theorem RQ {n:Nat} {f:Nat->Rat} (h:∀i,i<n->0<=f i) (hs:sm n f<=0):∀i,i<n->f i=0:=by
 induction n with
 | zero=>intro i hi;omega
 | succ n ih =>
  have h1:=yI (n:=n) fun i hi=>h i (by omega)
  have h2:=h n (by omega)
  simp only[sm]at hs
  intro i hi
  by_cases hin:i=n
  ·subst hin;grind
  ·exact ih (fun j hj=>h j (by omega)) (by grind) i (by omega)
theorem XX (n:Nat):sm n (fun _=>0)=0:=by
 induction n with
 | zero=>rfl
 | succ n ih=>simp only[sm];rw[ih];grind
theorem GV {n t:Nat} (v:Rat) (h:t<n):sm n (fun p=>if t=p then v else 0)=v:=by
 induction n with
 | zero=>omega
 | succ n ih =>
  simp only[sm]
  by_cases hn:t=n
  ·subst hn
   rw[xC (g:=fun _=>0) fun i hi=>if_neg (by omega),XX,if_pos rfl];grind
  ·rw[ih (by omega),if_neg hn];grind
def oC:List Tk->(Nat->Rat)->Nat->Rat
 | [],_,_=>0
 | t::l,x,p=>(if t.2.1=p then t.2.2*x t.1 else 0)+oC l x p
theorem FM {x y:Nat->Rat} {p:Nat} : ∀ {l:List Tk},(∀t∈l,t.2.1=p->x t.1=y t.1)->oC l x p=oC l y p
 | [],_=>rfl
 | t::l,h=>by
  simp only[oC]
  rw[FM (l:=l) fun t ht=>h t (adP _ ht)]
  by_cases hp:t.2.1=p
  ·rw[if_pos hp,if_pos hp,h t (adO ..) hp]
  ·rw[if_neg hp,if_neg hp]
theorem Xw (l:List Tk) (x y:Nat->Rat) (p:Nat):oC l (fun j=>x j+y j) p=oC l x p+oC l y p:=by
 induction l with
 | nil=>simp only[oC];grind
 | cons t l ih=>simp only[oC];rw[ih];split<;>grind
theorem Xx (l:List Tk) (x y:Nat->Rat) (p:Nat):oC l (fun j=>x j-y j) p=oC l x p-oC l y p:=by
 induction l with
 | nil=>simp only[oC];grind
 | cons t l ih=>simp only[oC];rw[ih];split<;>grind
theorem Au (l:List Tk) (c:Rat) (x:Nat->Rat) (p:Nat):oC l (fun j=>c*x j) p=c*oC l x p:=by
 induction l with
 | nil=>simp only[oC];grind
 | cons t l ih=>simp only[oC];rw[ih];split<;>grind
theorem s5 {x y:Nat->Rat} {p:Nat} : ∀ {l:List Tk},(∀t∈l,0<=t.2.2)->(∀t∈l,t.2.1=p->x t.1<=y t.1)->oC l x p<=oC l y p
 | [],_,_=>by simp only[oC];grind
 | t::l,h0,h=>by
  simp only[oC]
  have ih:=s5 (l:=l) (fun t ht=>h0 t (adP _ ht)) fun t ht=>h t (adP _ ht)
  have ht:=h0 t (adO ..)
  by_cases hp:t.2.1=p
  ·rw[if_pos hp,if_pos hp]
   have:=Rat.mul_le_mul_of_nonneg_left (h t (adO ..) hp) ht
   grind
  ·rw[if_neg hp,if_neg hp];grind
theorem Ce {x:Nat->Rat} {p:Nat} {l:List Tk} (h0:∀t∈l,0<=t.2.2) (h:∀t∈l,t.2.1=p->0<=x t.1):0<=oC l x p:=by
 have:=s5 (x:=fun _=>0) (y:=x) (p:=p) h0 h
 have h2:oC l (fun _=>0) p=0:=by
  have:=Au l 0 (fun _=>0) p
  have e:(fun j:Nat=>(0:Rat)*(fun _=>0) j)=fun _=>0:=by funext j;grind
  rw[e]at this
  rw[this];grind
 grind
theorem Vl {x:Nat->Rat} {p:Nat} : ∀ {l:List Tk},(∀t∈l,0<=t.2.2)->(∀t∈l,t.2.1=p->0<=x t.1)->∀t∈l,t.2.1=p->t.2.2*x t.1<=oC l x p
 | [],_,_,t,ht,_=>by cases ht
 | t::l,h0,h,u,hu,hp=>by
  simp only[oC]
  have h1:=Ce (x:=x) (p:=p) (l:=l) (fun t ht=>h0 t (adP _ ht)) fun t ht=>h t (adP _ ht)
  rcases acu.1 hu with rfl|hu
  ·rw[if_pos hp];grind
  ·have ih:=Vl (x:=x) (p:=p) (l:=l) (fun t ht=>h0 t (adP _ ht)) (fun t ht=>h t (adP _ ht)) u hu hp
   by_cases hq:t.2.1=p
   ·rw[if_pos hq]
    have:=aeX (h0 t (adO ..)) (h t (adO ..) hq)
    grind
   ·rw[if_neg hq];grind
theorem Rc {N:Nat} (x:Nat->Rat):∀ {l:List Tk},(∀t∈l,t.1<N∧t.2.1<N)->sm N (fun p=>oC l x p)=sm N (fun q=>sg l q*x q)
 | [],_=>by simp only[oC,sg];exact xC fun i _=>by grind
 | t::l,h=>by
  simp only[oC,sg]
  obtain⟨h1,h2⟩:=h t (adO ..)
  rw[V9,GV _ h2,Rc x fun t ht=>h t (adP _ ht)]
  have:sm N (fun q=>((if t.1=q then t.2.2 else 0)+sg l q)*x q)=sm N (fun q=>(if t.1=q then t.2.2*x t.1 else 0)+sg l q*x q):=xC fun q _=>by
   by_cases hq:t.1=q
   ·rw[if_pos hq,if_pos hq,hq];grind
   ·rw[if_neg hq,if_neg hq];grind
  rw[this,V9,GV _ h1]
def Aa (x:Rat):Rat:=if 0<=x then x else -x
theorem I1 (x:Rat):0<=Aa x:=by unfold Aa;split<;>grind
theorem Qb (x:Rat):x<=Aa x ∧ -x<=Aa x:=by unfold Aa;split<;>grind
theorem NR {x y:Rat} (h1:x<=y) (h2 : -x<=y):Aa x<=y:=by unfold Aa;split<;>grind
theorem Sn {x:Rat} (h:Aa x=0):x=0:=by unfold Aa at h;split at h<;>grind
theorem Xv {l:List Tk} (h0:∀t∈l,0<=t.2.2) (x:Nat->Rat) (p:Nat):Aa (oC l x p)<=oC l (fun j=>Aa (x j)) p:=by
 refine NR (s5 h0 fun t _ _=>(Qb _).1) ?_
 have h1:=Au l (-1) x p
 have h2 : -oC l x p=oC l (fun j => -1*x j) p:=by rw[h1];grind
 rw[h2]
 exact s5 h0 fun t _ _=>by have:=(Qb (x t.1)).2;grind
variable {N:Nat} {tk:List Tk} {r:Nat->Int}
theorem iT.pos (hR:iT N tk):∀t∈tk,0<=t.2.2:=fun t ht=>by have:=(hR.ok t ht).2.2;grind
theorem iT.rng (hR:iT N tk):∀t∈tk,t.1<N∧t.2.1<N:=fun t ht=>⟨(hR.ok t ht).1,(hR.ok t ht).2.1⟩
theorem wq (hR:iT N tk) (hr:mU N tk r) (h0:∀p,p<N->0<=r p) {y:Nat->Rat} (hy:∀p,p<N->0<=y p) (hle:∀p,p<N->y p<=oC tk y p):∀p,p<N->y p=0:=by
 have hs:=Rc y hR.rng
 have hl0:∀p,p<N->0<=dM tk p*y p:=fun p hp=>aeX (hR.leak p hp) (hy p hp)
 have hd0:∀p,p<N->0<=oC tk y p-y p:=fun p hp=>by have:=hle p hp;grind
 have e1:sm N (fun p=>dM tk p*y p)=sm N y-sm N (fun q=>sg tk q*y q):=by
  rw[<- Wa]
  exact xC fun p _=>by unfold dM;grind
 have e2:sm N (fun p=>oC tk y p-y p)=sm N (fun q=>sg tk q*y q)-sm N y:=by rw[Wa,hs]
 have n1:=yI hl0
 have n2:=yI hd0
 have z1:=RQ hl0 (by grind)
 have z2:=RQ hd0 (by grind)
 have key:∀(k:Nat) p,p<N->r p=(k:Int)->y p=0:=by
  intro k
  induction k with
  | zero =>
   intro p hp hk
   have hl:=(hr.zero p hp).1 hk
   have:=z1 p hp
   rcases Rat.mul_eq_zero.1 this with h|h
   ·grind
   ·exact h
  | succ k ih =>
   intro p hp hk
   obtain⟨t,ht,rfl,ht2⟩:=hr.down p hp (by omega)
   have hto:=(hR.rng t ht).2
   have hq:=ih t.2.1 hto (by omega)
   have e:=z2 t.2.1 hto
   have hge:=Vl (x:=y) (p:=t.2.1) hR.pos (fun u hu _=>hy _ (hR.rng u hu).1) t ht rfl
   have hpos:=(hR.ok t ht).2.2
   have hy1:=hy t.1 hp
   have h3:t.2.2*y t.1<=0:=by grind
   have h4:=aeX (show 0<=t.2.2 by grind) hy1
   rcases Rat.mul_eq_zero.1 (show t.2.2*y t.1=0 by grind) with h|h
   ·grind
   ·exact h
 intro p hp
 have:=h0 p hp
 exact key (r p).toNat p hp (by omega)
def T2 (N:Nat) (tk:List Tk) (d x:Nat->Rat):Prop:=∀p,p<N->x p=d p+oC tk x p
theorem Df (hR:iT N tk) (hr:mU N tk r) (h0:∀p,p<N->0<=r p) {d x y:Nat->Rat} (hx:T2 N tk d x) (hy:T2 N tk d y):∀p,p<N->x p=y p:=by
 intro p hp
 have:=wq hR hr h0 (y:=fun j=>Aa (x j-y j)) (fun _ _=>I1 _) (fun q hq=>by
  have h1:=Xv hR.pos (fun j=>x j-y j) q
  rw[Xx]at h1
  have e:x q-y q=oC tk x q-oC tk y q:=by have:=hx q hq;have:=hy q hq;grind
  try simp only
  rw[e];exact h1) p hp
 have:=Sn this
 grind
theorem Pr (hR:iT N tk) (hr:mU N tk r) (h0:∀p,p<N->0<=r p) {d x:Nat->Rat} (hx:T2 N tk d x) (hd:∀p,p<N->0<=d p):∀p,p<N->0<=x p:=by
 intro p hp
 have:=wq hR hr h0 (y:=fun j=>if 0<=x j then 0 else -x j) (fun j _=>by (try simp only);split<;>grind) (fun q hq=>by
  have hz:0<=oC tk (fun j=>if 0<=x j then 0 else -x j) q:=Ce hR.pos fun t _ _=>by (try simp only);split<;>grind
  try simp only
  split
  ·exact hz
  ·have h1:=s5 (l:=tk) (p:=q) (x:=fun j => -1*x j) (y:=fun j=>if 0<=x j then 0 else -x j) hR.pos fun t _ _=>by (try simp only);split<;>grind
   rw[Au]at h1
   have:=hx q hq
   have:=hd q hq
   grind) p hp
 try simp only at this
 split at this
 ·assumption
 ·grind
end Go.Proofs.Ytchndpjlijbplaa.P
namespace Go.Proofs.Ytchndpjlijbplaa.P
open Go.RowKit
set_option linter.unusedSimpArgs false
set_option linter.unusedVariables false
abbrev Tm:=Nat×Rat
def iR (t:Tm):du:=du.mk (t.1:Int) (dg t.2)
structure QE where
 D:Rat
 T:List Tm
def mkEq (e:QE):aw:=aw.mk (dg e.D) (e.T.map iR)
def cB:List Tm->(Nat->Rat)->Rat
 | [],_=>0
 | t::l,x=>t.2*x t.1+cB l x
theorem mJ (a b:List Tm) (x:Nat->Rat):cB (a++b) x=cB a x+cB b x:=by
 induction a with
 | nil=>simp only[List.nil_append,cB];grind
 | cons t a ih=>simp only[List.cons_append,cB];rw[ih];grind
abbrev gO (T:List Tm):Prop:=T.Pairwise fun a b=>a.1<b.1
def jW (T:List Tm) (k:Nat):List Tm:=T.filter fun t=>decide (t.1<k)
def xQ (T:List Tm) (k:Nat):List Tm:=T.filter fun t=>decide (k<t.1)
def dR:List Tm->Nat->Option Rat
 | [],_=>none
 | t::l,k=>if t.1=k then some t.2 else dR l k
theorem Ia {T:List Tm} {k:Nat} {t:Tm} : t∈jW T k↔t∈T∧t.1<k:=by unfold jW;simp[adV]
theorem Cr {T:List Tm} {k:Nat} {t:Tm} : t∈xQ T k↔t∈T∧k<t.1:=by unfold xQ;simp[adV]
theorem OG {T:List Tm} {k:Nat} (h:∀t∈T,k<=t.1):jW T k=[]:=by
 unfold jW
 rw[List.filter_eq_nil_iff]
 intro t ht
 have:=h t ht
 simp;omega
theorem Vi {T:List Tm} {k:Nat} (h:∀t∈T,k<t.1):xQ T k=T:=by
 unfold xQ
 rw[List.filter_eq_self]
 intro t ht
 simpa using h t ht
theorem Sv {T:List Tm} {k:Nat} (h:∀t∈T,t.1≠k):dR T k=none:=by
 induction T with
 | nil=>rfl
 | cons t T ih=>rw[dR,if_neg (h t (adO ..)),ih fun u hu=>h u (adP _ hu)]
theorem uP {k:Nat} : ∀ {T:List Tm},gO T->(dR T k=none∧T=jW T k++xQ T k)∨∃c,dR T k=some c∧T=jW T k++(k,c)::xQ T k
 | [],_ =>.inl ⟨rfl,rfl⟩
 | t::T,h=>by
  obtain⟨h1,h2⟩:=adW.1 h
  rcases aeY t.1 k with hk|hk|hk
  ·have e1:jW (t::T) k=t::jW T k:=aeT (by simpa using hk)
   have e2:xQ (t::T) k=xQ T k:=aeU (by simp;omega)
   have e3:dR (t::T) k=dR T k:=by rw[dR,if_neg (by omega)]
   rw[e1,e2,e3]
   rcases uP (k:=k) h2 with⟨g1,g2⟩|⟨c,g1,g2⟩
   ·exact .inl ⟨g1,by rw[aed,<- g2]⟩
   ·exact .inr ⟨c,g1,by rw[aed,<- g2]⟩
  ·subst hk
   have e1:jW (t::T) t.1=[]:=OG fun u hu=>by
    rcases acu.1 hu with rfl|hu
    ·exact acm _
    ·have:=h1 u hu;omega
   have e2:xQ (t::T) t.1=T:=by
    rw[show xQ (t::T) t.1=xQ T t.1 from aeU (by simp),Vi h1]
   refine .inr ⟨t.2,by rw[dR,if_pos rfl],?_⟩
   rw[e1,e2];rfl
  ·have e1:jW (t::T) k=[]:=OG fun u hu=>by
    rcases acu.1 hu with rfl|hu
    ·omega
    ·have:=h1 u hu;omega
   have e2:xQ (t::T) k=t::T:=Vi fun u hu=>by
    rcases acu.1 hu with rfl|hu
    ·exact hk
    ·have:=h1 u hu;omega
   refine .inl ⟨Sv fun u hu =>?_,by rw[e1,e2];rfl⟩
   rcases acu.1 hu with rfl|hu
   ·omega
   ·have:=h1 u hu;omega
def iH (T:List Tm) (k:Nat):List Tm:=jW T k++xQ T k
def HX (T:List Tm) (k:Nat) (a:Rat):List Tm:=jW T k++(k,a)::xQ T k
def AR (T:List Tm) (k:Nat) (v:Rat):List Tm:=HX T k ((dR T k).getD 0+v)
theorem hY {T:List Tm} {k:Nat} {t:Tm} : t∈iH T k↔t∈T∧t.1≠k:=by
 unfold iH
 rw[adw,Ia,Cr]
 constructor
 ·rintro (⟨h1,h2⟩|⟨h1,h2⟩)<;>exact⟨h1,by omega⟩
 ·rintro⟨h1,h2⟩
  rcases ac8 t.1 k with h|h
  ·exact .inl ⟨h1,h⟩
  ·exact .inr ⟨h1,by omega⟩
theorem H9 {T:List Tm} {k:Nat} {a:Rat} {t:Tm} : t∈HX T k a↔t=(k,a)∨t∈iH T k:=by
 unfold HX iH
 simp only[adw,acu]
 constructor
 ·rintro (h|h|h)<;>simp[h]
 ·rintro (h|h|h)<;>simp[h]
theorem Dh {T:List Tm} (h:gO T) (k:Nat):gO (iH T k):=by
 unfold iH
 rw[gO,adX]
 refine⟨h.filter _,h.filter _,fun a ha b hb =>?_⟩
 have:=(Ia.1 ha).2
 have:=(Cr.1 hb).2
 omega
theorem Wc {T:List Tm} (h:gO T) (k:Nat) (a:Rat):gO (HX T k a):=by
 unfold HX
 rw[gO,adX,adW]
 refine⟨h.filter _,⟨fun b hb=>(Cr.1 hb).2,h.filter _⟩,fun x hx b hb =>?_⟩
 have h1:=(Ia.1 hx).2
 rcases acu.1 hb with rfl|hb
 ·exact h1
 ·have:=(Cr.1 hb).2;omega
theorem uz {T:List Tm} (h:gO T) (k:Nat) (x:Nat->Rat):cB T x=cB (iH T k) x+(dR T k).getD 0*x k:=by
 rcases uP (k:=k) h with⟨g1,g2⟩|⟨c,g1,g2⟩
 ·rw[g1];unfold iH;rw[<- g2];simp only[Option.getD_none];grind
 ·have e:cB T x=cB (jW T k++(k,c)::xQ T k) x:=by rw[<- g2]
  rw[e,g1]
  unfold iH
  rw[mJ,mJ]
  simp only[cB,Option.getD_some]
  grind
theorem XD {T:List Tm} (k:Nat) (a:Rat) (x:Nat->Rat):cB (HX T k a) x=cB (iH T k) x+a*x k:=by
 unfold HX iH
 rw[mJ,mJ]
 simp only[cB]
 grind
theorem XB {T:List Tm} (h:gO T) (k:Nat) (v:Rat) (x:Nat->Rat):cB (AR T k v) x=cB T x+v*x k:=by
 unfold AR
 rw[XD,uz h k x]
 grind
theorem mE {T:List Tm} {k:Nat} {c:Rat} (h:dR T k=some c):(k,c)∈T:=by
 induction T with
 | nil=>cases h
 | cons t T ih =>
  rw[dR]at h
  split at h
  ·rename_i hk
   cases h
   rw[<- hk]
   exact adO ..
  ·exact adP _ (ih h)
theorem FT {x y:Nat->Rat} : ∀ {T:List Tm},(∀t∈T,x t.1=y t.1)->cB T x=cB T y
 | [],_=>rfl
 | t::T,h=>by rw[cB,cB,h t (adO ..),FT fun u hu=>h u (adP _ hu)]
theorem q9 {x:Nat->Rat} : ∀ {T:List Tm},(∀t∈T,0<=t.2)->(∀t∈T,0<=x t.1)->0<=cB T x
 | [],_,_=>by simp only[cB];grind
 | t::T,h,hx=>by
  have h1:=aeX (h t (adO ..)) (hx t (adO ..))
  have h2:=q9 (T:=T) (fun u hu=>h u (adP _ hu)) fun u hu=>hx u (adP _ hu)
  simp only[cB];grind
theorem XC (T:List Tm) (c:Rat) (x:Nat->Rat):cB (T.map fun t=>(t.1,t.2 / c)) x=cB T x / c:=by
 induction T with
 | nil=>simp only[adb,cB];grind
 | cons t T ih=>simp only[acs,cB];rw[ih];grind
structure P9 (N K:Nat) (T:List Tm):Prop where
 sorted:gO T
 lt:∀t∈T,t.1<N
 sz:∀t∈T,LF t.2<=K
theorem P9.len {N K:Nat} {T:List Tm} (h:P9 N K T):T.length<=N:=by
 have h1:=xg N (T.map (·.1)) (by
  rw[List.Nodup,List.pairwise_map]
  exact h.sorted.imp fun h=>by omega) (fun x hx=>by
  obtain⟨t,ht,rfl⟩:=ack.1 hx
  exact h.lt t ht)
 simpa using h1
theorem P9.rem {N K:Nat} {T:List Tm} (h:P9 N K T) (k:Nat):P9 N K (iH T k):=⟨Dh h.sorted k,fun t ht=>h.lt t (hY.1 ht).1,fun t ht=>h.sz t (hY.1 ht).1⟩
theorem P9.mono {N K K':Nat} {T:List Tm} (h:P9 N K T) (hk:K<=K'):P9 N K' T:=⟨h.sorted,h.lt,fun t ht=>aco (h.sz t ht) hk⟩
theorem aaA (x:Int):wc .u64 x 1=some (x / 2):=by
 unfold wc
 rw[if_neg (by decide)]
 have e:(2:Int) ^ (min (Int.toNat 1) IntKind.u64.bits)=2:=by decide
 rw[e,aev _ (by decide)]
theorem YH {k:Nat} : ∀ {T:List Tm},gO T->∀(i:Nat) t,T[i]? = some t->(t.1<k↔i<(jW T k).length)
 | [],_,i,t,h=>by simp at h
 | a::T,hs,i,t,h=>by
  obtain⟨h1,h2⟩:=adW.1 hs
  by_cases ha:a.1<k
  ·have e1:jW (a::T) k=a::jW T k:=aeT (by simpa using ha)
   rw[e1,acN]
   cases i with
   | zero=>simp only[List.getElem?_cons_zero,acw]at h;subst h;simp[ha]
   | succ i =>
    have:=YH (k:=k) h2 i t (by simpa using h)
    omega
  ·have e1:jW (a::T) k=[]:=OG fun u hu=>by
    rcases acu.1 hu with rfl|hu
    ·omega
    ·have:=h1 u hu;omega
   rw[e1]
   have:¬t.1<k:=by
    rcases acu.1 (acP h) with rfl|hu
    ·exact ha
    ·have:=h1 t hu;omega
   simp[this]
theorem BV (t:Tm) (k:Nat):cf (iR t) (k:Int)=some (js (t.1:Int) (k:Int)):=by
 unfold cf
 rw[yi];rfl
theorem JL {a b:Int} : js a b<0↔a<b:=by unfold js;split<;>(try split)<;>simp at *<;>omega
theorem EU {a b:Int} : js a b=0↔a=b:=by unfold js;split<;>(try split)<;>simp at *<;>omega
theorem N0 {T:List Tm} (hs:gO T) (hl:T.length<=2000) (k:Nat) :
  aQ (T.map iR) (k:Int)=some (((jW T k).length:Int),(dR T k).isSome):=by
 have hlo:(jW T k).length<=T.length:=aeR ..
 have key:=fun hst=>xa (body:=bz (T.map iR) (k:Int)) (I:=fun (s:Int×Int)=>∃lo hi:Nat,s=((lo:Int),(hi:Int))∧lo<=(jW T k).length∧(jW T k).length<=hi∧hi<=T.length) (μ:=fun (s:Int×Int)=>(s.2-s.1).toNat)
  (fun r=>r=((jW T k).length:Int)) (s:=(0,((T.map iR).length:Int))) ⟨0,T.length,by simp,by omega,hlo,acm _⟩ (by simp only[acR];unfold FU;omega) hst
 obtain⟨r,h1,rfl⟩:=key (by
  rintro _ ⟨lo,hi,rfl,h1,h2,h3⟩
  simp only[bz]
  by_cases hc:lo<hi
  ·have hm:(lo+hi) / 2<T.length:=by omega
   have hg:(T.map iR)[(lo+hi) / 2]? = some (iR T[(lo+hi) / 2]):=by rw[aci,acA hm];rfl
   have hlt:=YH (k:=k) hs ((lo+hi) / 2) _ (acA hm)
   have e1:IntKind.i64.wrap ((lo:Int)+hi)=(lo:Int)+hi:=wrap64 (by omega) (by omega)
   have e2:IntKind.u64.wrap ((lo:Int)+hi)=(lo:Int)+hi:=wu (by omega)
   have e3:IntKind.i64.wrap (((lo:Int)+hi) / 2)=(((lo+hi) / 2:Nat):Int):=by rw[wrap64 (by omega) (by omega)];omega
   rw[if_pos (by simpa using hc),e1,e2,aaA,adS,e3,bV hg,adS,BV,adS]
   refine .inl ?_
   by_cases hk:T[(lo+hi) / 2].1<k
   ·rw[if_pos (by simp only[decide_eq_true_eq];exact JL.2 (by omega)),cy (by omega)]
    refine⟨_,rfl,⟨(lo+hi) / 2+1,hi,rfl,by have:=hlt.1 hk;omega,h2,h3⟩,?_⟩
    simp only;omega
   ·rw[if_neg (by simp only[decide_eq_true_eq];intro h;exact hk (by have:=JL.1 h;omega))]
    refine⟨_,rfl,⟨lo,(lo+hi) / 2,rfl,h1,by have:¬(lo+hi) / 2<(jW T k).length:=fun h=>hk (hlt.2 h);omega,by omega⟩,?_⟩
    simp only;omega
  ·rw[if_neg (by simpa using hc)]
   exact .inr ⟨_,rfl,by omega⟩)
 unfold aQ
 rw[h1,adS]
 rcases uP (k:=k) hs with⟨g1,g2⟩|⟨c,g1,g2⟩
 ·rw[g1]
  by_cases hlt:(jW T k).length<T.length
  ·have hg:(T.map iR)[(jW T k).length]? = some (iR T[(jW T k).length]):=by rw[aci,acA hlt];rfl
   rw[if_pos (by simpa using hlt),bV hg,adS,BV,adS]
   have hne:T[(jW T k).length].1≠k:=by
    have hm:T[(jW T k).length]∈jW T k++xQ T k:=by rw[<- g2];exact acz hlt
    rcases adw.1 hm with h|h
    ·have:=(Ia.1 h).2;omega
    ·have:=(Cr.1 h).2;omega
   have:js (T[(jW T k).length].1:Int) (k:Int)≠0:=fun h=>hne (by have:=EU.1 h;omega)
   simp[this]
  ·rw[if_neg (by simpa using hlt)];rfl
 ·rw[g1]
  have hgT:T[(jW T k).length]? = some (k,c):=by
   have:(jW T k++(k,c)::xQ T k)[(jW T k).length]? = some (k,c):=by simp
   rwa [<- g2]at this
  have hlt:=cP hgT
  have hg:(T.map iR)[(jW T k).length]? = some (iR (k,c)):=by rw[aci,hgT];rfl
  rw[if_pos (by simpa using hlt),bV hg,adS,BV,adS]
  have:js ((k,c).1:Int) (k:Int)=0:=EU.2 rfl
  rw[this];rfl
theorem find_eq {e:QE} (hs:gO e.T) (hl:e.T.length<=2000) (k:Nat):cg (mkEq e) (k:Int)=some (mkEq e,((jW e.T k).length:Int),(dR e.T k).isSome):=by
 unfold cg mkEq
 rw[N0 hs hl,adS]
theorem CS {a x y:Rat} (h:LF a+(LF x+LF y)+1<=eD):eW (dg a) (dg x) (dg y)=some (dg (a+x*y)):=by
 unfold eW
 have:=yc x y
 rw[TV (by omega),adS]
 simp only
 rw[PY (by omega),adS]
theorem aab:gH 0=some (dg 0):=X8 (n:=0) (by decide)
theorem NH:LF 1<=1:=NF (n:=1) (by decide)
theorem TT:LF 0<=1:=NF (n:=0) (by decide)
def Z1 (e:QE) (k:Nat) (v:Rat):QE:=⟨e.D,AR e.T k v⟩
theorem Z2 {N K:Nat} {e:QE} (he:P9 N K e.T) (hN:N<=2000) {k:Nat} {v:Rat} (h:K+LF v+10<=eD):dy (mkEq e) (k:Int) (dg v)=some (mkEq (Z1 e k v),()):=by
 have hl:=he.len
 unfold dy
 rw[find_eq he.sorted (by omega),adS]
 simp only
 have hLF1:=NH
 rcases uP (k:=k) he.sorted with⟨g1,g2⟩|⟨c,g1,g2⟩
 ·rw[g1]
  simp only[Option.isSome_none,acX,if_false]
  have hll:(jW e.T k).length<=e.T.length:=aeR ..
  have hins:Vm 72 (mkEq e).bl ((jW e.T k).length:Int) [du.mk (k:Int) (dg v)]=some ((AR e.T k v).map iR):=by
   unfold Vm mkEq
   simp only[acR,List.length_cons,List.length_nil,Int.toNat_natCast]
   rw[if_pos ⟨by omega,by omega,by omega,by omega⟩]
   congr 1
   have e1:e.T.map iR=(jW e.T k).map iR++(xQ e.T k).map iR:=by rw[<- adL,<- g2]
   unfold AR HX
   rw[g1,e1,List.take_left' (by simp),List.drop_left' (by simp),adL,acs]
   simp only[Option.getD_none,List.cons_append,List.nil_append]
   congr 2
   unfold iR
   simp only
   congr 1
   rw[Rat.zero_add]
  rw[hins];rfl
 ·rw[g1]
  simp only[Option.isSome_some,if_true]
  have hgT:e.T[(jW e.T k).length]? = some (k,c):=by
   have:(jW e.T k++(k,c)::xQ e.T k)[(jW e.T k).length]? = some (k,c):=by simp
   rwa [<- g2]at this
  have hg:(e.T.map iR)[(jW e.T k).length]? = some (iR (k,c)):=by rw[aci,hgT];rfl
  have hck:LF c<=K:=he.sz (k,c) (mE g1)
  have e0:(mkEq e).bl=e.T.map iR:=rfl
  rw[e0,bV hg,adS,Zs,adS]
  simp only[iR]
  rw[CS (by omega),adS,adn]
  unfold Z1 AR HX mkEq
  rw[g1]
  simp only[Option.getD_some]
  have e1:e.T.map iR=(jW e.T k).map iR++iR (k,c)::(xQ e.T k).map iR:=by rw[<- acs,<- adL,<- g2]
  have e2:((e.T.map fun t=>du.mk (t.1:Int) (dg t.2)).set (jW e.T k).length (du.mk (k:Int) (dg (c+v*1))))=(jW e.T k++(k,c+v)::xQ e.T k).map iR:=by
   show (e.T.map iR).set (jW e.T k).length _=_
   rw[e1,List.set_append_right _ _ (by simp),acR,ads,List.set_cons_zero,adL,acs]
   unfold iR
   simp only
   congr 4
   grind
  rw[<- e2];rfl
def gI (e:QE) (p:Nat):QE:=match dR e.T p with|none=>e|some c=>⟨e.D / (1-c),(iH e.T p).map fun t=>(t.1,t.2 / (1-c))⟩
theorem UG {T:List Tm} {k:Nat} {c:Rat} (hl:T.length<=2000) (g:T=jW T k++(k,c)::xQ T k):UF (T.map iR) ((jW T k).length:Int) (IntKind.i64.wrap (((jW T k).length:Int)+1))=some ((iH T k).map iR):=by
 have hlen:T.length=(jW T k).length+1+(xQ T k).length:=by
  have:=congrArg List.length g
  simp only[adq,List.length_cons]at this
  omega
 rw[cy (by omega)]
 unfold UF
 have:(2000:Nat)<=maxLen:=by decide
 rw[if_pos ⟨by omega,by omega,by simp;omega,by simp;omega⟩,adn,adn]
 have e1:T.map iR=(jW T k).map iR++iR (k,c)::(xQ T k).map iR:=by rw[<- acs,<- adL,<- g]
 rw[e1,List.take_left' (by simp)]
 have e2:((jW T k).map iR++iR (k,c)::(xQ T k).map iR).drop ((jW T k).length+1)=(xQ T k).map iR:=by
  rw[ad5,ad6 (by simp)]
  simp
 rw[e2]
 unfold iH
 rw[adL]
theorem Yk {a b:Rat} (h:LF a+LF b<=eD) (h0:b≠0):ln (dg a) (dg b)=some (dg (a / b),0):=ZX h h0
theorem XE {N K:Nat} {e:QE} (he:P9 N K e.T) (hD:LF e.D<=K) (hN:N<=2000) (hK:2*K+10<=eD) {p:Nat} (hc:∀c,dR e.T p=some c->1-c≠0):cT (mkEq e) (p:Int)=some (mkEq (gI e p),()):=by
 have hl:=he.len
 unfold cT
 rw[find_eq he.sorted (by omega),adS]
 simp only
 have hLF1:=NH
 unfold gI
 rcases uP (k:=p) he.sorted with⟨g1,g2⟩|⟨c,g1,g2⟩
 ·rw[g1];rfl
 ·rw[g1]
  simp only[Option.isSome_some,adJ,acX,if_false]
  have hgT:e.T[(jW e.T p).length]? = some (p,c):=by
   have:(jW e.T p++(p,c)::xQ e.T p)[(jW e.T p).length]? = some (p,c):=by simp
   rwa [<- g2]at this
  have hg:(e.T.map iR)[(jW e.T p).length]? = some (iR (p,c)):=by rw[aci,hgT];rfl
  have hck:LF c<=K:=he.sz (p,c) (mE g1)
  have h0:=hc c g1
  have e0:(mkEq e).bl=e.T.map iR:=rfl
  have e3:(mkEq e).aP=dg e.D:=rfl
  rw[Zs,adS,e0,bV hg,adS]
  simp only[iR]
  have hs1:=NI 1 c
  rw[Yf (by omega),adS]
  have hd:fl (e.T.map iR) ((jW e.T p).length:Int) (IntKind.i64.wrap (((jW e.T p).length:Int)+1))=some ((iH e.T p).map iR):=by unfold fl;exact UG (by omega) g2
  rw[hd,adS,e3]
  simp only
  rw[Yk (by omega) h0,adS]
  have hrl:=(he.rem p).len
  have key:=fun hs hend=>BY (body:=dG (dg (1-c),0) ((iH e.T p).map iR)) (iH e.T p) (by omega) (fun i (l:List du)=>l.length=(iH e.T p).length∧∀(j:Nat) t,(iH e.T p)[j]? = some t->l[j]? = some (if j<i then iR (t.1,t.2 / (1-c)) else iR t)) (fun l=>l=((iH e.T p).map fun t=>(t.1,t.2 / (1-c))).map iR) (s0:=(iH e.T p).map iR)
   ⟨by simp,fun j t ht=>by rw[aci,ht,if_neg (by omega)];rfl⟩ hs hend
  obtain⟨r,h1,rfl⟩:=key (by
   rintro i t l ht ⟨hl1,hI⟩
   have hi:=cP ht
   have hgl:=hI i t ht
   rw[if_neg (by omega)]at hgl
   have hst:=he.sz t (hY.1 (acP ht)).1
   refine⟨l.set i (iR (t.1,t.2 / (1-c))),?_,by simpa using hl1,fun j u hu =>?_⟩
   ·simp only[dG]
    rw[if_pos (by simp;omega),bV hgl,adS]
    simp only[iR]
    rw[Yk (by omega) h0,adS,cy (by omega),adn]
   ·rw[List.getElem?_set]
    by_cases hij:i=j
    ·subst hij
     rw[hu]at ht
     cases ht
     rw[if_pos rfl,if_pos (by omega),if_pos (by omega)]
    ·rw[if_neg hij,hI j u hu]
     by_cases hj:j<i
     ·rw[if_pos hj,if_pos (by omega)]
     ·rw[if_neg hj,if_neg (by omega)]) (by
   rintro l ⟨hl1,hI⟩
   refine⟨l,?_,?_⟩
   ·simp only[dG];rw[if_neg (by simp)]
   ·apply aeo
    intro j
    rw[aci,aci]
    cases hj:(iH e.T p)[j]? with
    | none =>
     have:(iH e.T p).length<=j:=by simpa using hj
     rw[adU (by omega)];rfl
    | some t=>rw[hI j t hj,if_pos (cP hj)];rfl)
  rw[h1,adS]
  rfl
def iJ (c:Rat):List Tm->List Tm->List Tm
 | [],T=>T
 | b::B,T=>iJ c B (AR T b.1 (c*b.2))
def yz (e:QE) (p:Nat) (b:QE):QE:=match dR e.T p with|none=>e|some c=>⟨e.D+c*b.D,iJ c b.T (iH e.T p)⟩
theorem qF (c:Rat):∀(A B T:List Tm),iJ c (A++B) T=iJ c B (iJ c A T)
 | [],_,_=>rfl
 | a::A,B,T=>by rw[aed,iJ,iJ,qF c A B]
theorem Eh {T:List Tm} (h:gO T) (k:Nat) (v:Rat):gO (AR T k v):=Wc h k _
theorem BX (c:Rat):∀(B:List Tm) {T:List Tm},gO T->gO (iJ c B T)
 | [],_,h=>h
 | b::B,_,h=>BX c B (Eh h _ _)
theorem Lr (c:Rat) (x:Nat->Rat):∀(B:List Tm) {T:List Tm},gO T->cB (iJ c B T) x=cB T x+c*cB B x
 | [],T,_=>by simp only[iJ,cB];grind
 | b::B,T,h=>by
  rw[iJ,Lr c x B (Eh h _ _),XB h,cB]
  grind
theorem vQ (c:Rat) {R:Nat->Prop} : ∀(B:List Tm) {T:List Tm},(∀t∈T,R t.1)->(∀b∈B,R b.1)->∀t∈iJ c B T,R t.1
 | [],_,h,_=>h
 | b::B,T,h,hB=>vQ c B (T:=AR T b.1 (c*b.2)) (fun t ht=>by
   rcases H9.1 ht with rfl|ht
   ·exact hB b (adO ..)
   ·exact h t (hY.1 ht).1) fun u hu=>hB u (adP _ hu)
theorem Kw {c:Rat} (hc:0<=c):∀(B:List Tm) {T:List Tm},(∀t∈T,0<=t.2)->(∀b∈B,0<=b.2)->∀t∈iJ c B T,0<=t.2
 | [],_,h,_=>h
 | b::B,T,h,hB=>Kw hc B (T:=AR T b.1 (c*b.2)) (fun t ht=>by
   rcases H9.1 ht with rfl|ht
   ·have h1:=aeX hc (hB b (adO ..))
    simp only
    cases hcf:dR T b.1 with
    | none=>simp only[Option.getD_none];grind
    | some a=>have:=h _ (mE hcf);simp only[Option.getD_some]at *;grind
   ·exact h t (hY.1 ht).1) fun u hu=>hB u (adP _ hu)
theorem Q5 {K1 K2:Nat} {c:Rat} (hc:LF c<=K1):∀(A B:List Tm) {T:List Tm},gO (A++B)->(∀b∈A++B,LF b.2<=K2)->(∀t∈T,LF t.2<=K1)->∀t∈iJ c A T,LF t.2<=2*K1+K2+1∧((∀a∈A,a.1≠t.1)->LF t.2<=K1)
 | [],_,_,_,_,h,t,ht=>⟨by have:=h t ht;omega,fun _=>h t ht⟩
 | a::A,B,T,hs,hz,h,t,ht=>by
  obtain⟨A',z,hA⟩:∃A' z,a::A=A'++[z]:=⟨(a::A).dropLast,(a::A).getLast (by simp),(List.dropLast_concat_getLast (by simp)).symm⟩
  have hlen:A'.length<(a::A).length:=by rw[hA];simp
  rw[hA,qF]at ht
  simp only[iJ]at ht
  rw[hA,adC]at hs hz
  have ih:=Q5 hc A' ([z]++B) (T:=T) hs hz h
  have hzK:=hz z (acC _ (acB _ (adO ..)))
  rw[hA]
  rcases H9.1 ht with rfl|ht
  ·refine⟨?_,fun hn=>absurd rfl (hn z (acC _ (adO ..)))⟩
   simp only
   have hm:=yc c z.2
   cases hcf:dR (iJ c A' T) z.1 with
   | none=>rw[aeZ,Rat.zero_add];omega
   | some y =>
    have h1:=(ih _ (mE hcf)).2 fun u hu=>by
     have:=(adX.1 hs).2.2 u hu z (acB _ (adO ..))
     simp only;omega
    have:=AG y (c*z.2)
    rw[ade]
    simp only at h1
    omega
  ·obtain⟨h1,h2⟩:=ih t (hY.1 ht).1
   exact⟨h1,fun hn=>h2 fun u hu=>hn u (acB _ hu)⟩
 termination_by A=>A.length
structure P8 (N K:Nat) (e:QE):Prop where
 t:P9 N K e.T
 d:LF e.D<=K
theorem P8.mono {N K K':Nat} {e:QE} (h:P8 N K e) (hk:K<=K'):P8 N K' e:=⟨h.t.mono hk,aco h.d hk⟩
theorem SL (c:Rat) {B:List Tm} {i:Nat} {b:Tm} (h:B[i]? = some b) (T:List Tm):iJ c (B.take (i+1)) T=AR (iJ c (B.take i) T) b.1 (c*b.2):=by
 obtain⟨hi,he⟩:=acQ.1 h
 rw[aeP hi,qF,he];rfl
theorem Kv {N K1 K2:Nat} {c:Rat} (hc:LF c<=K1) {B T:List Tm} (hB:P9 N K2 B) (hT:P9 N K1 T) (i:Nat):P9 N (2*K1+K2+1) (iJ c (B.take i) T) where
 sorted:=BX c _ hT.sorted
 lt:=vQ c (R:=fun p=>p<N) _ hT.lt fun b hb=>hB.lt b (ac7 hb)
 sz t ht:=(Q5 (K1:=K1) (K2:=K2) hc (B.take i) (B.drop i) (by rw[ad9];exact hB.sorted) (by rw[ad9];exact hB.sz) hT.sz t ht).1
theorem XQ {N K1 K2:Nat} {e b:QE} (he:P8 N K1 e) (hb:P8 N K2 b) (p:Nat):P8 N (2*K1+K2+1) (yz e p b):=by
 unfold yz
 cases hcf:dR e.T p with
 | none=>exact he.mono (by omega)
 | some c =>
  have hc:LF c<=K1:=he.t.sz _ (mE hcf)
  have h1:=Kv hc hb.t (he.t.rem p) b.T.length
  rw[aen]at h1
  refine⟨h1,?_⟩
  have h2:=AG e.D (c*b.D)
  have h3:=yc c b.D
  have:=he.d
  have:=hb.d
  simp only
  omega
theorem FX {N K:Nat} {e:QE} (he:P8 N K e) (p:Nat) (h0:∀c,dR e.T p=some c->1-c≠0):P8 N (2*K+2) (gI e p):=by
 unfold gI
 cases hcf:dR e.T p with
 | none=>exact he.mono (by omega)
 | some c =>
  have hc:LF c<=K:=he.t.sz _ (mE hcf)
  have h1:=NI 1 c
  have h2:=NH
  have h3:=h0 c hcf
  refine⟨⟨?_,?_,?_⟩,?_⟩
  ·simp only
   rw[gO,List.pairwise_map]
   exact (Dh he.t.sorted p)
  ·intro t ht
   simp only[ack]at ht
   obtain⟨u,hu,rfl⟩:=ht
   exact he.t.lt u (hY.1 hu).1
  ·intro t ht
   simp only[ack]at ht
   obtain⟨u,hu,rfl⟩:=ht
   have:=he.t.sz u (hY.1 hu).1
   have:=TR (a:=u.2) h3
   simp only
   omega
  ·have:=he.d
   have:=TR (a:=e.D) h3
   simp only
   omega
theorem aat {N K1 K2:Nat} {e b:QE} (he:P8 N K1 e) (hb:P8 N K2 b) (hN:N<=2000) (hK:4*K1+3*K2+20<=eD) (p:Nat):dz (mkEq e) (p:Int) (mkEq b)=some (mkEq (yz e p b),()):=by
 have hl:=he.t.len
 unfold dz
 rw[find_eq he.t.sorted (by omega),adS]
 simp only
 unfold yz
 rcases uP (k:=p) he.t.sorted with⟨g1,g2⟩|⟨c,g1,g2⟩
 ·rw[g1];rfl
 ·rw[g1]
  simp only[Option.isSome_some,adJ,acX,if_false]
  have hgT:e.T[(jW e.T p).length]? = some (p,c):=by
   have:(jW e.T p++(p,c)::xQ e.T p)[(jW e.T p).length]? = some (p,c):=by simp
   rwa [<- g2]at this
  have hg:(e.T.map iR)[(jW e.T p).length]? = some (iR (p,c)):=by rw[aci,hgT];rfl
  have hck:LF c<=K1:=he.t.sz (p,c) (mE g1)
  have hDe:=he.d
  have hDb:=hb.d
  have hbl:=hb.t.len
  have e0:(mkEq e).bl=e.T.map iR:=rfl
  have e1:(mkEq b).bl=b.T.map iR:=rfl
  have e2:(mkEq b).aP=dg b.D:=rfl
  have e3:(mkEq e).aP=dg e.D:=rfl
  have hd:fl (e.T.map iR) ((jW e.T p).length:Int) (IntKind.i64.wrap (((jW e.T p).length:Int)+1))=some ((iH e.T p).map iR):=by unfold fl;exact UG (by omega) g2
  rw[e0,bV hg,adS,hd,adS,e3,e2]
  have e4:(iR (p,c)).dx=dg c:=rfl
  rw[e4,CS (by omega),adS]
  have key:=fun hs hend=>BY (body:=eh (mkEq b) (iR (p,c))) b.T (by omega) (fun i (s:Int×List Int×Int×List Int×List du)=>s=((dg (e.D+c*b.D)).aH.ag,(dg (e.D+c*b.D)).aH.aa,(dg (e.D+c*b.D)).aK.ag,(dg (e.D+c*b.D)).aK.aa,(iJ c (b.T.take i) (iH e.T p)).map iR))
   (fun s=>s=((dg (e.D+c*b.D)).aH.ag,(dg (e.D+c*b.D)).aH.aa,(dg (e.D+c*b.D)).aK.ag,(dg (e.D+c*b.D)).aK.aa,(iJ c b.T (iH e.T p)).map iR)) (s0:=((dg (e.D+c*b.D)).aH.ag,(dg (e.D+c*b.D)).aH.aa,(dg (e.D+c*b.D)).aK.ag,(dg (e.D+c*b.D)).aK.aa,(iH e.T p).map iR)) rfl hs hend
  obtain⟨r,h1,rfl⟩:=key (by
   rintro i t _ ht rfl
   have hi:=cP ht
   have htm:=acP ht
   have htz:=hb.t.sz t htm
   have hsz:=Kv hck hb.t (he.t.rem p) i
   have hm:=yc c t.2
   have hg2:(b.T.map iR)[i]? = some (iR t):=by rw[aci,ht];rfl
   have hn:=TT
   refine⟨_,?_,rfl⟩
   simp only[eh]
   rw[if_pos (by rw[e1];simp;omega),e1,bV hg2,adS,aab,adS]
   have e5:(iR t).dx=dg t.2:=rfl
   have e6:(iR t).kn=(t.1:Int):=rfl
   rw[e4,e5,CS (by omega),adS,Rat.zero_add,e6]
   have e7:aw.mk (al.mk (an.mk (dg (e.D+c*b.D)).aH.ag (dg (e.D+c*b.D)).aH.aa) (an.mk (dg (e.D+c*b.D)).aK.ag (dg (e.D+c*b.D)).aK.aa)) ((iJ c (b.T.take i) (iH e.T p)).map iR)=mkEq ⟨e.D+c*b.D,iJ c (b.T.take i) (iH e.T p)⟩:=rfl
   rw[e7,Z2 (e:=⟨e.D+c*b.D,iJ c (b.T.take i) (iH e.T p)⟩) hsz hN (by omega),adS,cy (by omega),SL c ht]
   rfl) (by
   rintro _ rfl
   refine⟨_,?_,rfl⟩
   simp only[eh]
   rw[if_neg (by rw[e1];simp),aen])
  rw[h1,adS]
  rfl
theorem QH {T:List Tm} {k:Nat} (h:dR T k=none):∀t∈T,t.1≠k:=by
 induction T with
 | nil=>intro t ht;cases ht
 | cons u T ih =>
  rw[dR]at h
  split at h
  ·cases h
  ·rename_i hne
   intro t ht
   rcases acu.1 ht with rfl|ht
   ·exact hne
   ·exact ih h t ht
theorem SY {e:QE} (hs:gO e.T) {p:Nat} (h0:∀c,dR e.T p=some c->1-c≠0) (s:Rat) (x:Nat->Rat):(1-(dR e.T p).getD 0)*(s*(gI e p).D+cB (gI e p).T x)=s*e.D+cB e.T x-(dR e.T p).getD 0*x p:=by
 unfold gI
 have h1:=uz hs p x
 cases hcf:dR e.T p with
 | none=>simp only[Option.getD_none];grind
 | some c =>
  have hc:=h0 c hcf
  rw[hcf]at h1
  simp only[Option.getD_some]at h1 ⊢
  rw[XC]
  have h2:(1-c)*(e.D / (1-c))=e.D:=by rw[Rat.mul_comm];exact Rat.div_mul_cancel hc
  have h3:(1-c)*(cB (iH e.T p) x / (1-c))=cB (iH e.T p) x:=by rw[Rat.mul_comm];exact Rat.div_mul_cancel hc
  have h4:(1-c)*(s*(e.D / (1-c))+cB (iH e.T p) x / (1-c))=s*((1-c)*(e.D / (1-c)))+(1-c)*(cB (iH e.T p) x / (1-c)):=by grind
  rw[h4,h2,h3]
  grind
theorem XR {e b:QE} (hs:gO e.T) (p:Nat) (s:Rat) (x:Nat->Rat):s*(yz e p b).D+cB (yz e p b).T x=s*e.D+cB e.T x+(dR e.T p).getD 0*(s*b.D+cB b.T x-x p):=by
 unfold yz
 have h1:=uz hs p x
 cases hcf:dR e.T p with
 | none=>simp only[Option.getD_none];grind
 | some c =>
  rw[hcf]at h1
  simp only[Option.getD_some]at h1 ⊢
  rw[Lr c x _ (Dh hs p)]
  grind
def ff (E0:Nat->QE):Nat->Nat->QE
 | 0,k=>E0 k
 | p+1,k=>if k<p then ff E0 p k else if k=p then gI (ff E0 p p) p else yz (ff E0 p k) p (gI (ff E0 p p) p)
def IF (K0:Nat):Nat->Nat
 | 0=>K0
 | p+1=>4*IF K0 p+3
theorem Pt (K0:Nat):∀p,IF K0 p+1=4 ^ p*(K0+1)
 | 0=>by simp[IF]
 | p+1=>by
  have ih:=Pt K0 p
  simp only[IF,Nat.pow_succ]
  rw[adl (4 ^ p) 4,Nat.mul_assoc,<- ih]
  omega
def ZR (x:Nat->Rat) (p:Nat) (v:Rat):Nat->Rat:=fun j=>if j=p then v else x j
theorem AW (E:Nat->QE) (s:Rat):∀(p:Nat),(∀k,k<p->∀t∈(E k).T,k<t.1)->∀z:Nat->Rat,∃x:Nat->Rat,(∀j,p<=j->x j=z j)∧(∀k,k<p->x k=s*(E k).D+cB (E k).T x)∧(s=0->(∀j,0<=z j)->(∀k,k<p->∀t∈(E k).T,0<=t.2)->∀j,0<=x j)
 | 0,_,z=>⟨z,fun _ _=>rfl,fun k hk=>by omega,fun _ h _=>h⟩
 | p+1,hp,z=>by
  obtain⟨x,h1,h2,h3⟩:=AW E s p (fun k hk=>hp k (by omega)) (ZR z p (s*(E p).D+cB (E p).T z))
  refine⟨x,fun j hj =>?_,fun k hk =>?_,fun hs hz hpos =>?_⟩
  ·rw[h1 j (by omega)];exact if_neg (by omega)
  ·by_cases hkp:k=p
   ·subst hkp
    rw[h1 k (acm _),show ZR z k (s*(E k).D+cB (E k).T z) k=s*(E k).D+cB (E k).T z from if_pos rfl]
    congr 1
    refine FT fun t ht =>?_
    have:=hp k (by omega) t ht
    rw[h1 t.1 (by omega)]
    exact (if_neg (by omega)).symm
   ·exact h2 k (by omega)
  ·refine h3 hs (fun j =>?_) fun k hk=>hpos k (by omega)
   unfold ZR
   split
   ·have:=q9 (x:=z) (hpos p (by omega)) fun t _=>hz t.1
    subst hs
    grind
   ·exact hz j
theorem Y9 {a b:Rat} (ha:0<=a) (hb:0<b):0<=a / b:=by
 have h1:a / b*b=a:=Rat.div_mul_cancel (by grind)
 by_cases h:0<=a / b
 ·exact h
 ·exfalso
  have h2:0 <= -(a / b)*b:=aeX (by grind) (by grind)
  have h3:a / b*b=0:=by grind
  rcases Rat.mul_eq_zero.1 h3 with h4|h4<;>grind
variable {N:Nat} {tk:List Tk} {r:Nat->Int}
structure pZ (N:Nat) (tk:List Tk) (d:Nat->Rat) (K0:Nat) (E:Nat->QE) (p:Nat):Prop where
 sz:∀k,k<N->p<=k->P8 N (IF K0 p) (E k)
 szd:∀k,k<p->P8 N (2*IF K0 k+2) (E k)
 up:∀k,k<p->∀t∈(E k).T,k<t.1
 ge:∀k,k<N->p<=k->∀t∈(E k).T,p<=t.1
 pos:∀k,k<N->∀t∈(E k).T,0<=t.2
 sem:∀(s:Rat) (x:Nat->Rat),(∀q,q<p->x q=s*(E q).D+cB (E q).T x)->(∀k,k<p->x k=s*d k+oC tk x k)∧∀k,k<N->p<=k->s*(E k).D+cB (E k).T x=s*d k+oC tk x k
theorem Gn (hR:iT N tk) (hr:mU N tk r) (h0:∀p,p<N->0<=r p) {d:Nat->Rat} {K0:Nat} {E:Nat->QE} {p:Nat} (hE:pZ N tk d K0 E p) (hp:p<N):∀c,dR (E p).T p=some c->c<1:=by
 intro c hc
 by_cases hlt:c<1
 ·exact hlt
 exfalso
 obtain⟨x,h1,h2,h3⟩:=AW E 0 p hE.up (fun j=>if j=p then 1 else 0)
 have hx:=h3 rfl (fun j=>by split<;>grind) fun k hk=>hE.pos k (by omega)
 obtain⟨g1,g2⟩:=hE.sem 0 x h2
 have hxp:x p=1:=by rw[h1 p (acm _),if_pos rfl]
 have hxq:∀j,p<j->x j=0:=fun j hj=>by rw[h1 j (by omega),if_neg (by omega)]
 have:=wq hR hr h0 (y:=x) (fun q _=>hx q) (fun q hq=>by
  rcases aeY q p with h|h|h
  ·have:=g1 q h;grind
  ·subst h
   have e1:=g2 q hq (acm _)
   have e2:=uz (hE.sz q hq (acm _)).t.sorted q x
   rw[hc,hxp]at e2
   have e3:0<=cB (iH (E q).T q) x:=q9 (fun t ht=>hE.pos q hq t (hY.1 ht).1) fun t _=>hx t.1
   simp only[Option.getD_some]at e2
   grind
  ·have e1:=g2 q hq (by omega)
   have e3:0<=cB (E q).T x:=q9 (hE.pos q hq) fun t _=>hx t.1
   have:=hxq q h
   grind) p hp
 grind
theorem SF (hR:iT N tk) (hr:mU N tk r) (h0:∀p,p<N->0<=r p) {d:Nat->Rat} {K0:Nat} {E0:Nat->QE} {p:Nat} (hE:pZ N tk d K0 (ff E0 p) p) (hp:p<N):pZ N tk d K0 (ff E0 (p+1)) (p+1):=by
 have hpiv:=Gn hR hr h0 hE hp
 generalize hEp:ff E0 p=E at *
 have hv:∀k,ff E0 (p+1) k=if k<p then E k else if k=p then gI (E p) p else yz (E k) p (gI (E p) p):=fun k=>by rw[ff,hEp]
 have hv1:∀k,k<p->ff E0 (p+1) k=E k:=fun k hk=>by rw[hv,if_pos hk]
 have hv2:ff E0 (p+1) p=gI (E p) p:=by rw[hv,if_neg (by omega),if_pos rfl]
 have hv3:∀k,p<k->ff E0 (p+1) k=yz (E k) p (gI (E p) p):=fun k hk=>by rw[hv,if_neg (by omega),if_neg (by omega)]
 have hne:∀c,dR (E p).T p=some c->1-c≠0:=fun c hc=>by have:=hpiv c hc;grind
 have hszp:=hE.sz p hp (acm _)
 have hL:=FX hszp p hne
 have hup:∀t∈(gI (E p) p).T,p<t.1:=by
  intro t ht
  unfold gI at ht
  cases hcf:dR (E p).T p with
  | none =>
   rw[hcf]at ht
   have h1:=hE.ge p hp (acm _) t ht
   have h2:=QH hcf t ht
   omega
  | some c =>
   rw[hcf]at ht
   simp only[ack]at ht
   obtain⟨u,hu,rfl⟩:=ht
   have h1:=hE.ge p hp (acm _) u (hY.1 hu).1
   have h2:=(hY.1 hu).2
   simp only
   omega
 have hlpos:∀t∈(gI (E p) p).T,0<=t.2:=by
  intro t ht
  unfold gI at ht
  cases hcf:dR (E p).T p with
  | none=>rw[hcf]at ht;exact hE.pos p hp t ht
  | some c =>
   rw[hcf]at ht
   simp only[ack]at ht
   obtain⟨u,hu,rfl⟩:=ht
   have h1:=hE.pos p hp u (hY.1 hu).1
   have h2:=hpiv c hcf
   simp only
   have h3:0<1-c:=by grind
   exact Y9 h1 h3
 constructor
 ·intro k hk hpk
  rw[hv3 k (by omega)]
  have:=XQ (hE.sz k hk (by omega)) hL p
  exact this.mono (by simp only[IF];omega)
 ·intro k hk
  by_cases hkp:k=p
  ·subst hkp;rw[hv2];exact hL
  ·rw[hv1 k (by omega)];exact hE.szd k (by omega)
 ·intro k hk
  by_cases hkp:k=p
  ·subst hkp;rw[hv2];exact hup
  ·rw[hv1 k (by omega)];exact hE.up k (by omega)
 ·intro k hk hpk
  rw[hv3 k (by omega)]
  unfold yz
  cases hcf:dR (E k).T p with
  | none =>
   intro t ht
   have h1:=hE.ge k hk (by omega) t ht
   have h2:=QH hcf t ht
   omega
  | some c =>
   refine vQ c (R:=fun q=>p+1<=q) _ (fun t ht =>?_) hup
   have h1:=hE.ge k hk (by omega) t (hY.1 ht).1
   have h2:=(hY.1 ht).2
   omega
 ·intro k hk
  rcases aeY k p with h|h|h
  ·rw[hv1 k h];exact hE.pos k hk
  ·subst h;rw[hv2];exact hlpos
  ·rw[hv3 k h]
   unfold yz
   cases hcf:dR (E k).T p with
   | none=>exact hE.pos k hk
   | some c=>exact Kw (hE.pos k hk _ (mE hcf)) _ (fun t ht=>hE.pos k hk t (hY.1 ht).1) hlpos
 ·intro s x hx
  have hxp:=hx p (by omega)
  rw[hv2]at hxp
  obtain⟨g1,g2⟩:=hE.sem s x fun q hq=>by have:=hx q (by omega);rwa [hv1 q hq]at this
  have hpe:x p=s*(E p).D+cB (E p).T x:=by
   have h1:=SY hszp.t.sorted hne s x
   rw[<- hxp]at h1
   grind
  refine⟨fun k hk =>?_,fun k hk hpk =>?_⟩
  ·by_cases hkp:k=p
   ·subst hkp;rw[hpe,g2 k hp (acm _)]
   ·exact g1 k (by omega)
  ·rw[hv3 k (by omega),XR (hE.sz k hk (by omega)).t.sorted,<- hxp,g2 k hk (by omega)]
   grind
theorem Kf (hR:iT N tk) (hr:mU N tk r) (h0:∀p,p<N->0<=r p) {d:Nat->Rat} {K0:Nat} {E0:Nat->QE} (hE:pZ N tk d K0 E0 0):∀p,p<=N->pZ N tk d K0 (ff E0 p) p
 | 0,_=>hE
 | p+1,h=>SF hR hr h0 (Kf hR hr h0 hE p (by omega)) (by omega)
end Go.Proofs.Ytchndpjlijbplaa.P
namespace Go.Proofs.Ytchndpjlijbplaa.P
open Go.RowKit
set_option linter.unusedSimpArgs false
set_option linter.unusedVariables false
def IV:List Tm->(Nat->Rat)->Nat
 | [],_=>0
 | t::l,x=>LF t.2+LF (x t.1)+1+IV l x
theorem wg (a b:List Tm) (x:Nat->Rat):IV (a++b) x=IV a x+IV b x:=by
 induction a with
 | nil=>simp[IV]
 | cons t a ih=>simp only[List.cons_append,IV,ih];omega
theorem Wl (T:List Tm) (i:Nat) (x:Nat->Rat):IV (T.take i) x<=IV T x:=by
 have:=wg (T.take i) (T.drop i) x
 rw[ad9]at this
 omega
theorem Ls {T:List Tm} {i:Nat} {t:Tm} (h:T[i]? = some t) (x:Nat->Rat):cB (T.take (i+1)) x=cB (T.take i) x+t.2*x t.1:=by
 obtain⟨hi,he⟩:=acQ.1 h
 rw[aeP hi,mJ,he]
 simp only[cB];grind
theorem NG (a:Rat) (x:Nat->Rat) {T:List Tm} : ∀i,i<=T.length->LF (a+cB (T.take i) x)<=LF a+IV (T.take i) x
 | 0,_=>by
  rw[aei]
  simp only[cB,IV]
  rw[Rat.add_zero];exact acm _
 | i+1,h=>by
  have ih:=NG a x (T:=T) i (by omega)
  have hg:T[i]? = some T[i]:=acA (by omega)
  rw[Ls hg,<- Rat.add_assoc,aeP (by omega),wg]
  have h1:=AG (a+cB (T.take i) x) (T[i].2*x T[i].1)
  have h2:=yc T[i].2 (x T[i].1)
  simp only[IV]
  omega
theorem Vu:∀ {T:List Tm} {a N:Nat},gO T->(∀t∈T,a<=t.1∧t.1<N)->T.length<=N-a
 | [],_,_,_,_=>by simp
 | t::T,a,N,hs,h=>by
  obtain⟨h1,h2⟩:=adW.1 hs
  have ht:=h t (adO ..)
  have:=Vu (a:=t.1+1) (N:=N) h2 fun u hu=>⟨h1 u hu,(h u (adP _ hu)).2⟩
  rw[acN];omega
theorem Wk {K Q:Nat} {x:Nat->Rat} : ∀ {T:List Tm} {a N:Nat},gO T->(∀t∈T,a<=t.1∧t.1<N)->(∀t∈T,LF t.2<=K)->(∀j,a<=j->j<N->LF (x j)<=2 ^ (N-1-j)*Q)->IV T x+Q<=T.length*(K+1)+2 ^ (N-a)*Q
 | [],a,N,_,_,_,_=>by
  simp only[IV,List.length_nil,aea,ada]
  exact Nat.le_mul_of_pos_left _ (Nat.pow_pos (by decide))
 | t::T,a,N,hs,h,hk,hx=>by
  obtain⟨h1,h2⟩:=adW.1 hs
  have ht:=h t (adO ..)
  have ih:=Wk (K:=K) (Q:=Q) (x:=x) (T:=T) (a:=t.1+1) (N:=N) h2 (fun u hu=>⟨h1 u hu,(h u (adP _ hu)).2⟩) (fun u hu=>hk u (adP _ hu)) fun j hj hjN=>hx j (by omega) hjN
  have hkt:=hk t (adO ..)
  have hxt:=hx t.1 ht.1 ht.2
  simp only[IV,List.length_cons]
  rw[adk]
  have e1:N-(t.1+1)=N-1-t.1:=by omega
  rw[e1]at ih
  have e2:2 ^ (N-t.1)=2 ^ (N-1-t.1)*2:=by rw[<- Nat.pow_succ];congr 1;omega
  have e3:2 ^ (N-t.1)*Q<=2 ^ (N-a)*Q:=ac9 _ (ae0 (by decide) (by omega))
  have e4:2 ^ (N-t.1)*Q=2 ^ (N-1-t.1)*Q+2 ^ (N-1-t.1)*Q:=by rw[e2,Nat.mul_assoc,adl 2 Q,<- Nat.mul_assoc,Nat.mul_two]
  omega
theorem Hf:∀m:Nat,3*m<=4 ^ m
 | 0=>by decide
 | m+1=>by
  have:=Hf m
  rw[Nat.pow_succ]
  have:0<4 ^ m:=Nat.pow_pos (by decide)
  cases m with
  | zero=>decide
  | succ m=>omega
variable {N:Nat} {tk:List Tk} {r:Nat->Int}
theorem Wb {d:Nat->Rat} {K0:Nat} {E:Nat->QE} (hE:pZ N tk d K0 E N) {x:Nat->Rat} (hx:∀k,k<N->x k=1*(E k).D+cB (E k).T x) :
  ∀k,k<N->LF (E k).D+IV (E k).T x+1<=2 ^ (N-1-k)*(4 ^ N*(K0+1))∧LF (x k)<=2 ^ (N-1-k)*(4 ^ N*(K0+1)):=by
 have key:∀m k,k+m=N-1->k<N->LF (E k).D+IV (E k).T x+1<=2 ^ (N-1-k)*(4 ^ N*(K0+1))∧LF (x k)<=2 ^ (N-1-k)*(4 ^ N*(K0+1)):=by
  intro m
  induction m using Nat.strongRecOn with
  | ind m ih =>
   intro k hkm hk
   have hz:=hE.szd k hk
   have hup:=hE.up k hk
   have hrng:∀t∈(E k).T,k+1<=t.1∧t.1<N:=fun t ht=>⟨hup t ht,hz.t.lt t ht⟩
   have h1:=Wk (K:=2*IF K0 k+2) (Q:=4 ^ N*(K0+1)) (x:=x) hz.t.sorted hrng hz.t.sz fun j hj hjN=>(ih (N-1-j) (by omega) j (by omega) hjN).2
   have h2:=Vu hz.t.sorted hrng
   have h3:=hz.d
   have h4:=Pt K0 k
   have h5:(N-k)*(2*IF K0 k+3)<=4 ^ N*(K0+1):=by
    have g1:(N-k)*(2*IF K0 k+3)<=(N-k)*(3*(4 ^ k*(K0+1))):=Nat.mul_le_mul_left _ (by
     have:0<4 ^ k*(K0+1):=Nat.mul_pos (Nat.pow_pos (by decide)) (by omega)
     omega)
    have g2:(N-k)*(3*(4 ^ k*(K0+1)))=3*(N-k)*(4 ^ k*(K0+1)):=by rw[adl 3 (N-k),Nat.mul_assoc]
    have g3:3*(N-k)*(4 ^ k*(K0+1))<=4 ^ (N-k)*(4 ^ k*(K0+1)):=ac9 _ (Hf _)
    have g4:4 ^ (N-k)*(4 ^ k*(K0+1))=4 ^ N*(K0+1):=by rw[<- Nat.mul_assoc,<- Nat.pow_add];congr 2;omega
    omega
   have h6:(E k).T.length*(2*IF K0 k+3)<=(N-1-k)*(2*IF K0 k+3):=ac9 _ (by omega)
   have h7:(N-k)*(2*IF K0 k+3)=(N-1-k)*(2*IF K0 k+3)+(2*IF K0 k+3):=by
    rw[<- adk];congr 1;omega
   have e1:N-(k+1)=N-1-k:=by omega
   rw[e1]at h1
   have h8:=NG (E k).D x (T:=(E k).T) (E k).T.length (acm _)
   rw[aen]at h8
   have e2:x k=(E k).D+cB (E k).T x:=by rw[hx k hk];grind
   rw[e2]
   have e3:2*IF K0 k+2+1=2*IF K0 k+3:=rfl
   rw[e3]at h1
   omega
 intro k hk
 exact key (N-1-k) k (by omega) hk
def iP (tk:List Tk) (p:Nat):List Tm:=(tk.filter fun t=>decide (t.2.1=p)).map fun t=>(t.1,t.2.2)
theorem yw {p:Nat} {u:Tm} : u∈iP tk p↔∃t∈tk,t.2.1=p∧u=(t.1,t.2.2):=by
 unfold iP
 simp only[ack,adV,decide_eq_true_eq]
 constructor
 ·rintro⟨t,⟨h1,h2⟩,rfl⟩;exact⟨t,h1,h2,rfl⟩
 ·rintro⟨t,h1,h2,rfl⟩;exact⟨t,⟨h1,h2⟩,rfl⟩
theorem PH {i:Nat} {t:Tk} (h:tk[i]? = some t) (p:Nat):iP (tk.take (i+1)) p=if t.2.1=p then iP (tk.take i) p++[(t.1,t.2.2)] else iP (tk.take i) p:=by
 obtain⟨hi,he⟩:=acQ.1 h
 unfold iP
 rw[aeP hi,aeS,adL,he]
 by_cases hc:t.2.1=p
 ·rw[if_pos hc,aeT (by simpa using hc)];rfl
 ·rw[if_neg hc,aeU (by simpa using hc)];simp
theorem FV (x:Nat->Rat) (p:Nat):∀l:List Tk,cB (iP l p) x=oC l x p
 | []=>rfl
 | t::l=>by
  have ih:=FV x p l
  unfold iP at ih ⊢
  simp only[oC]
  by_cases hc:t.2.1=p
  ·rw[if_pos hc,aeT (by simpa using hc),acs,cB,ih]
  ·rw[if_neg hc,aeU (by simpa using hc),ih];grind
theorem Ps (hs:tk.Pairwise W5) (p:Nat):gO (iP tk p):=by
 unfold iP
 rw[gO,List.pairwise_map]
 refine (hs.filter _).imp_of_mem fun {a b} ha hb h =>?_
 have h1:a.2.1=p:=by simpa using (adV.1 ha).2
 have h2:b.2.1=p:=by simpa using (adV.1 hb).2
 unfold W5 at h
 simp only
 omega
theorem Tz (p:Nat):(iP tk p).length<=tk.length:=by
 unfold iP
 rw[acR]
 exact aeR ..
def QX (d:Nat->Rat) (tk:List Tk) (p:Nat):QE:=⟨d p,iP tk p⟩
def eZ (N:Nat) (x:Nat->Rat):List al:=(List.range N).map fun p=>dg (x p)
theorem fm (x:Nat->Rat):(eZ N x).length=N:=yD _
theorem iw (x:Nat->Rat) {p:Nat} (h:p<N):(eZ N x)[p]? = some (dg (x p)):=cc _ h
abbrev zF:al:=al.mk (an.mk 0 []) (an.mk 0 [])
theorem HK (hR:iT N tk) (d:Nat->Rat):cw (mT N tk) (eZ N d)=some ((List.range N).map fun p=>mkEq (QX d tk p)):=by
 have hN:=hR.ports
 have hlen:=hR.takes
 unfold cw mT
 simp only
 rw[L7 _ (by omega) hN,adS]
 have k1:=fun hs he=>BY (body:=fB (eZ N d) (List.replicate N (aw.mk zF []))) (List.range N) (by simp;omega) (fun i (l:List aw)=>l=(List.range N).map fun p=>aw.mk (if p<i then dg (d p) else zF) []) (fun l=>l=(List.range N).map fun p=>mkEq (QX d (tk.take 0) p)) (s0:=List.replicate N (aw.mk zF []))
  (hX (by simp) fun j hj=>by rw[aeW,if_pos hj,if_neg (by omega)]) hs he
 obtain⟨r1,h1,rfl⟩:=k1 (by
  rintro i x _ hx rfl
  have hi:i<N:=by have:=cP hx;simpa using this
  refine⟨_,?_,rfl⟩
  simp only[fB]
  rw[if_pos (by simp;omega),bV (iw d hi),adS,bV (cc _ hi),adS,cy (by omega),adn,iC]
  congr 3
  refine congrArg (fun f=>(List.range N).map f) (funext fun p =>?_)
  by_cases h:p=i
  ·subst h;rw[if_pos rfl,if_pos (show p<p+1 by omega)]
  ·rw[if_neg h]
   by_cases h3:p<i
   ·rw[if_pos h3,if_pos (show p<i+1 by omega)]
   ·rw[if_neg h3,if_neg (show ¬p<i+1 by omega)]) (by
  rintro _ rfl
  refine⟨(List.range N).map fun p=>aw.mk (if p<(List.range N).length then dg (d p) else zF) [],?_,?_⟩
  ·simp only[fB];rw[if_neg (by simp)]
  ·refine hX (by simp) fun j hj =>?_
   rw[cc _ hj,acS,if_pos hj,aei];rfl)
 rw[h1,adS]
 have k2:=fun hs he=>BY (body:=fC (bW.mk (N:Int) (tk.map wv))) tk (by omega) (fun i (l:List aw)=>l=(List.range N).map fun p=>mkEq (QX d (tk.take i) p)) (fun l=>l=(List.range N).map fun p=>mkEq (QX d tk p)) (s0:=(List.range N).map fun p=>mkEq (QX d (tk.take 0) p)) rfl hs he
 obtain⟨r2,h2,rfl⟩:=k2 (by
  rintro i t _ ht rfl
  have hi:=cP ht
  have hto:=(hR.rng t (acP ht)).2
  have hg:(tk.map wv)[i]? = some (wv t):=by rw[aci,ht];rfl
  have hbl:=Tz (tk:=tk.take i) t.2.1
  rw[acG]at hbl
  refine⟨_,?_,rfl⟩
  simp only[fC]
  have happ:km 72 (mkEq (QX d (tk.take i) t.2.1)).bl [du.mk (wv t).de (wv t).bg]=some ((iP (tk.take i) t.2.1++[(t.1,t.2.2)]).map iR):=by
   unfold km mkEq QX
   have:(17592186044416:Nat)<=maxLen:=by decide
   rw[if_pos ⟨by simp;omega,by simp;omega⟩,adL];rfl
  have e1:(wv t).lN=(t.2.1:Int):=rfl
  rw[if_pos (by simp;omega),bV hg,adS,e1,bV (cc _ hto),adS,happ,adS,cy (by omega),adn,iC]
  congr 3
  refine congrArg (fun f=>(List.range N).map f) (funext fun p =>?_)
  unfold QX
  rw[PH ht]
  by_cases h:p=t.2.1
  ·subst h;rw[if_pos rfl,if_pos rfl];rfl
  ·rw[if_neg h,if_neg (fun e=>h e.symm)]) (by
  rintro _ rfl
  refine⟨_,?_,rfl⟩
  simp only[fC]
  rw[if_neg (by simp),aen])
 rw[h2,adS]
theorem elim0 (hR:iT N tk) {K0:Nat} {d:Nat->Rat} (hd:∀p,p<N->LF (d p)<=K0) (hs:∀t∈tk,LF t.2.2<=K0):pZ N tk d K0 (QX d tk) 0 where
 sz k hk _:=⟨⟨Ps hR.sorted k,fun t ht=>by obtain⟨u,h1,h2,rfl⟩:=yw.1 ht;exact (hR.rng u h1).1,fun t ht=>by obtain⟨u,h1,h2,rfl⟩:=yw.1 ht;exact hs u h1⟩,hd k hk⟩
 szd k hk:=by omega
 up k hk:=by omega
 ge k hk _ t _:=acn _
 pos k hk t ht:=by obtain⟨u,h1,h2,rfl⟩:=yw.1 ht;exact hR.pos u h1
 sem s x _:=⟨fun k hk=>by omega,fun k _ _=>by unfold QX;rw[FV]⟩
def IU (E0:Nat->QE) (N p:Nat):List (Bool×aw):=(List.range N).map fun k=>(decide (k<p),mkEq (ff E0 p k))
def uW (E:Nat->QE) (N p:Nat) (L:QE) (k:Nat):List (Bool×aw):=(List.range N).map fun j=>if j<p then (true,mkEq (E j)) else if j=p then (true,mkEq L) else if j<k then (false,mkEq (yz (E j) p L)) else (false,mkEq (E j))
theorem Of {E:Nat->QE} {L:QE} {p K:Nat} (hN:N<=2000) (hp:p<N) (hE:∀k,k<N->p<=k->P8 N K (E k)) (hL:P8 N (2*K+2) L) (hK:10*K+50<=eD) :
  ba (kQ (p:Int)) (((p+1:Nat):Int),uW E N p L (p+1))=some (uW E N p L N):=by
 have key:=fun hs=>dm (body:=kQ (p:Int)) (fun i (s:Int×List (Bool×aw))=>s=(((p+1+i:Nat):Int),uW E N p L (p+1+i))) (N-(p+1)) (fun l=>l=uW E N p L N) (s:=(((p+1:Nat):Int),uW E N p L (p+1))) rfl (lv (by omega)) hs
 refine (key ?_).elim fun x ⟨h1,hx⟩=>hx ▸ h1
 rintro i _ hi rfl
 have hlen:(uW E N p L (p+1+i)).length=N:=yD _
 by_cases hc:p+1+i<N
 ·refine .inl ⟨by omega,_,?_,rfl⟩
  simp only[kQ]
  have g1:(uW E N p L (p+1+i))[p+1+i]? = some (false,mkEq (E (p+1+i))):=by
   unfold uW
   rw[cc _ hc,if_neg (by omega),if_neg (by omega),if_neg (by omega)]
  have g2:(uW E N p L (p+1+i))[p]? = some (true,mkEq L):=by
   unfold uW
   rw[cc _ hp,if_neg (by omega),if_pos rfl]
  have e1:M8 (true,mkEq L)=some (mkEq L):=rfl
  have e2:ME (false,mkEq (E (p+1+i)))=some (mkEq (E (p+1+i))):=rfl
  rw[if_pos (by rw[hlen];simp;omega),bV g1,adS,bV g2,adS,e1,adS,e2,adS,aat (hE _ hc (by omega)) hL hN (by omega),adS,cy (by omega),adn]
  refine congrArg some (congrArg Sum.inl (Prod.ext (by simp only;omega) ?_))
  simp only
  unfold uW
  rw[iC]
  refine congrArg (fun f=>(List.range N).map f) (funext fun j =>?_)
  by_cases h:j=p+1+i
  ·subst h
   rw[if_pos rfl,if_neg (by omega),if_neg (by omega),if_pos (by omega)]
  ·rw[if_neg h]
   by_cases h1:j<p
   ·rw[if_pos h1,if_pos h1]
   ·rw[if_neg h1,if_neg h1]
    by_cases h2:j=p
    ·rw[if_pos h2,if_pos h2]
    ·rw[if_neg h2,if_neg h2]
     by_cases h3:j<p+1+i
     ·rw[if_pos h3,if_pos (by omega)]
     ·rw[if_neg h3,if_neg (by omega)]
 ·refine .inr ⟨uW E N p L (p+1+i),?_,?_⟩
  ·simp only[kQ]
   rw[if_neg (by rw[hlen];simp;omega)]
  ·congr 1;omega
theorem SE {E0:Nat->QE} {K0:Nat} {d:Nat->Rat} (hN:N<=2000) (hE:∀p,p<=N->pZ N tk d K0 (ff E0 p) p) (hpiv:∀p,p<N->∀c,dR (ff E0 p p).T p=some c->c<1) (hK:∀p,p<N->10*IF K0 p+50<=eD) {r6:List aw} (h6:r6.length=N) :
  ba (jk r6) ((0:Int),IU E0 N 0)=some (IU E0 N N):=by
 have key:=fun hs=>dm (body:=jk r6) (fun i (s:Int×List (Bool×aw))=>s=((i:Int),IU E0 N i)) N (fun l=>l=IU E0 N N) (s:=((0:Int),IU E0 N 0)) rfl (lv (by omega)) hs
 refine (key ?_).elim fun x ⟨h1,hx⟩=>hx ▸ h1
 rintro p _ hp rfl
 by_cases hc:p<N
 ·refine .inl ⟨hc,_,?_,rfl⟩
  have hEp:=hE p (by omega)
  have hne:∀c,dR (ff E0 p p).T p=some c->1-c≠0:=fun c h=>by have:=hpiv p hc c h;grind
  have hz:=hEp.sz p hc (acm _)
  have hKp:=hK p hc
  have hL:=FX hz p hne
  simp only[jk]
  have g1:(IU E0 N p)[p]? = some (false,mkEq (ff E0 p p)):=by
   unfold IU
   rw[cc _ hc,decide_eq_false (by omega)]
  have e2:ME (false,mkEq (ff E0 p p))=some (mkEq (ff E0 p p)):=rfl
  have e3:(IU E0 N p).set p (true,mkEq (gI (ff E0 p p) p))=uW (ff E0 p) N p (gI (ff E0 p p) p) (p+1):=by
   unfold IU uW
   rw[iC]
   refine congrArg (fun f=>(List.range N).map f) (funext fun j =>?_)
   rcases aeY j p with h|h|h
   ·rw[if_neg (by omega),if_pos h,decide_eq_true h]
   ·rw[if_pos h,if_neg (by omega),if_pos h]
   ·rw[if_neg (by omega),if_neg (by omega),if_neg (by omega),if_neg (by omega),decide_eq_false (by omega)]
  have e4:uW (ff E0 p) N p (gI (ff E0 p p) p) N=IU E0 N (p+1):=by
   unfold IU uW
   refine adN fun j hj =>?_
   have hjN:=adZ.1 hj
   rw[ff]
   rcases aeY j p with h|h|h
   ·rw[if_pos h,if_pos h,decide_eq_true (by omega)]
   ·rw[if_neg (by omega),if_pos h,if_neg (by omega),if_pos h,decide_eq_true (by omega)]
   ·rw[if_neg (by omega),if_neg (by omega),if_pos hjN,if_neg (by omega),if_neg (by omega),decide_eq_false (by omega)]
  rw[if_pos (by simp;omega),bV g1,adS,e2,adS,XE hz.t hz.d hN (by omega) hne,adS,cy (by omega),adn,e3,Of hN hc (fun k hk hpk=>hEp.sz k hk hpk) hL hKp,adS,e4]
 ·have:p=N:=by omega
  subst this
  refine .inr ⟨_,?_,rfl⟩
  simp only[jk]
  rw[if_neg (by simp;omega)]
def yy (x:Nat->Rat) (N i:Nat):List al:=(List.range N).map fun j=>if N<=j+i then dg (x j) else zF
theorem NZ {E0:Nat->QE} {K0:Nat} {d x:Nat->Rat} (hN:N<=2000) (hE:pZ N tk d K0 (ff E0 N) N) (hx:∀k,k<N->x k=1*(ff E0 N k).D+cB (ff E0 N k).T x) (hsz:2*(2 ^ N*(4 ^ N*(K0+1)))+100<=eD) :
  ba (jl (IU E0 N N)) ((N:Int)-1,yy x N 0)=some (eZ N x):=by
 have hs:=Wb hE hx
 have key:=fun hs=>dm (body:=jl (IU E0 N N)) (fun i (s:Int×List al)=>s=((N:Int)-1-i,yy x N i)) N (fun l=>l=eZ N x) (s:=((N:Int)-1,yy x N 0)) (by simp) (lv (by omega)) hs
 refine (key ?_).elim fun x ⟨h1,hx⟩=>hx ▸ h1
 rintro i _ hi rfl
 by_cases hc:i<N
 ·refine .inl ⟨hc,_,?_,rfl⟩
  obtain⟨p,hp⟩:∃p,p+i+1=N:=⟨N-1-i,by omega⟩
  have hpN:p<N:=by omega
  have e0:(N:Int)-1-(i:Int)=(p:Int):=by omega
  obtain⟨hs1,hs2⟩:=hs p hpN
  have hz:=hE.szd p hpN
  have hup:=hE.up p hpN
  have hle:2 ^ (N-1-p)*(4 ^ N*(K0+1))<=2 ^ N*(4 ^ N*(K0+1)):=ac9 _ (ae0 (by decide) (by omega))
  have hxp:=hx p hpN
  generalize hEp:ff E0 N p=e at *
  simp only[jl]
  have g1:(IU E0 N N)[p]? = some (true,mkEq e):=by
   unfold IU
   rw[cc _ hpN,decide_eq_true hpN,hEp]
  have e1:M8 (true,mkEq e)=some (mkEq e):=rfl
  have e2:(mkEq e).aP=dg e.D:=rfl
  have e3:(mkEq e).bl=e.T.map iR:=rfl
  have hn:=TT
  rw[e0,if_pos (by simp),bV g1,adS,e1,adS,aab,adS,e2,CS (by omega),adS]
  have e4:e.D+0*0=e.D:=by grind
  rw[e4]
  have htl:=hz.t.len
  have k7:=fun hst hend=>BY (body:=mR (yy x N i) (mkEq e)) e.T (by omega) (fun j (s:Int×List Int×Int×List Int)=>s=((dg (e.D+cB (e.T.take j) x)).aH.ag,(dg (e.D+cB (e.T.take j) x)).aH.aa,(dg (e.D+cB (e.T.take j) x)).aK.ag,(dg (e.D+cB (e.T.take j) x)).aK.aa))
   (fun s=>s=((dg (x p)).aH.ag,(dg (x p)).aH.aa,(dg (x p)).aK.ag,(dg (x p)).aK.aa)) (s0:=((dg e.D).aH.ag,(dg e.D).aH.aa,(dg e.D).aK.ag,(dg e.D).aK.aa)) (by rw[aei,cB,Rat.add_zero]) hst hend
  obtain⟨r7,h7,rfl⟩:=k7 (by
   rintro j t _ ht rfl
   have hj:=cP ht
   have htm:=acP ht
   have hlt:=hz.t.lt t htm
   have hpt:=hup t htm
   have hg:(e.T.map iR)[j]? = some (iR t):=by rw[aci,ht];rfl
   have hgo:(yy x N i)[t.1]? = some (dg (x t.1)):=by
    unfold yy
    rw[cc _ hlt,if_pos (by omega)]
   have hLl:=NG e.D x (T:=e.T) j (by omega)
   have hszt:=Wl e.T j x
   have hst2:LF t.2+LF (x t.1)+1<=IV e.T x:=by
    have:=wg (e.T.take j) (e.T.drop j) x
    rw[ad9,aeh hj]at this
    simp only[IV]at this
    have he:e.T[j]=t:=(acQ.1 ht).2
    rw[he]at this
    omega
   refine⟨_,?_,rfl⟩
   simp only[mR]
   have e5:(iR t).dx=dg t.2:=rfl
   have e6:(iR t).kn=(t.1:Int):=rfl
   have e7:al.mk (an.mk (dg (e.D+cB (e.T.take j) x)).aH.ag (dg (e.D+cB (e.T.take j) x)).aH.aa) (an.mk (dg (e.D+cB (e.T.take j) x)).aK.ag (dg (e.D+cB (e.T.take j) x)).aK.aa)=dg (e.D+cB (e.T.take j) x):=rfl
   rw[if_pos (by rw[e3];simp;omega),e3,bV hg,adS,e6,bV hgo,adS,e5,e7,CS (by omega),adS,cy (by omega),Ls ht,<- Rat.add_assoc]) (by
   rintro _ rfl
   refine⟨((dg (e.D+cB (e.T.take e.T.length) x)).aH.ag,(dg (e.D+cB (e.T.take e.T.length) x)).aH.aa,(dg (e.D+cB (e.T.take e.T.length) x)).aK.ag,(dg (e.D+cB (e.T.take e.T.length) x)).aK.aa),?_,?_⟩
   ·simp only[mR];rw[if_neg (by rw[e3];simp)]
   ·have:e.D+cB (e.T.take e.T.length) x=x p:=by rw[aen,hxp];grind
    rw[this])
  rw[h7,adS]
  have hgp:(yy x N i)[p]? = some zF:=by
   unfold yy
   rw[cc _ hpN,if_neg (by omega)]
  simp only
  rw[bV hgp,adS,adn]
  have hw:IntKind.i64.wrap ((p:Int)-1)=(N:Int)-1-((i+1:Nat):Int):=by rw[wrap64 (by omega) (by omega)];omega
  rw[hw]
  refine congrArg some (congrArg Sum.inl (congrArg (Prod.mk _) ?_))
  show (yy x N i).set p (dg (x p))=yy x N (i+1)
  unfold yy
  rw[iC]
  refine congrArg (fun f=>(List.range N).map f) (funext fun j =>?_)
  by_cases h:j=p
  ·subst h;rw[if_pos rfl,if_pos (by omega)]
  ·rw[if_neg h]
   by_cases h1:N<=j+i
   ·rw[if_pos h1,if_pos (by omega)]
   ·rw[if_neg h1,if_neg (by omega)]
 ·have:i=N:=by omega
  subst this
  refine .inr ⟨_,?_,rfl⟩
  simp only[jl]
  rw[if_neg (by simp;omega)]
  congr 2
  unfold yy eZ
  exact adN fun j _=>if_pos (by omega)
end Go.Proofs.Ytchndpjlijbplaa.P
namespace Go.Proofs.Ytchndpjlijbplaa.P
open Go.RowKit
set_option linter.unusedSimpArgs false
set_option linter.unusedVariables false
theorem NV {l:List al} (n:Int) (hl:l.length<=17592186044416) (hf:∀f∈l,W7 f):eA l n=some (decide ((l.length:Int)=n)&&l.all okF):=by
 unfold eA
 by_cases hn:(l.length:Int)=n
 rotate_left
 ·rw[if_neg (by simpa using hn),decide_eq_false hn];rfl
 rw[if_pos (by simpa using hn),decide_eq_true hn,adK]
 unfold bu bL
 rw[GP l (fun i x=>if okF x=true then none else some (i:Int)) (by omega) (fun i x hx =>?_) (by simp only[ck];rw[if_neg (by simp)])]
 ·rw[adS]
  cases hfs:iY (fun i x=>if okF x=true then none else some (i:Int)) 0 l with
  | none =>
   simp only
   rw[adS,decide_eq_false (by decide),adS]
   have:l.all okF=true:=acy.2 fun x hx=>by
    obtain⟨j,hj⟩:=acJ hx
    have:=iZ.1 hfs j x hj
    by_cases h:okF x=true
    ·exact h
    ·rw[if_neg h]at this;cases this
   rw[this];rfl
  | some r =>
   obtain⟨j,x,h1,h2,_⟩:=kH hfs
   by_cases h:okF x=true
   ·rw[if_pos h]at h2;cases h2
   ·rw[if_neg h]at h2
    cases h2
    simp only
    rw[adS,decide_eq_true (by omega),adS]
    have:l.all okF=false:=by
     cases hall:l.all okF with
     | false=>rfl
     | true=>exact absurd (acy.1 hall x (acP h1)) h
    rw[this];rfl
 ·have hi:=cP hx
  simp only[ck,fS]
  rw[if_pos (by simp;omega),bV hx,adS,wF (hf x (acP hx)),adS,adS]
  cases okF x with
  | true=>rw[cy (by omega)];rfl
  | false=>rfl
theorem Vv {l:List al} {N:Nat} (hl:l.length=N) (h:l.all okF=true):∃d:Nat->Rat,l=eZ N d:=by
 obtain⟨qs,hq,_⟩:=vT (mk:=dg) (R:=fun _=>True) (l:=l) fun x hx=>by
  obtain⟨q,hq⟩:=xk.1 (acy.1 h x hx)
  exact⟨q,hq,trivial⟩
 refine⟨fun p=>qs.getD p 0,?_⟩
 subst hq
 rw[acR]at hl
 refine hX (by simpa using hl) fun j hj =>?_
 have e:(fun p=>qs.getD p 0) j=qs[j]'(by omega):=by
  show qs.getD j 0=_
  rw[ac0,acA (by omega)];rfl
 rw[aci,acA (by omega),e]
 rfl
theorem SU (N:Nat) (d:Nat->Rat):(eZ N d).all okF=true:=acy.2 fun x hx=>by
 unfold eZ at hx
 obtain⟨p,_,rfl⟩:=ack.1 hx
 exact O2 _
theorem SW {N M:Nat} {d e:Nat->Rat} (h:eZ N d=eZ M e):N=M∧∀p,p<N->d p=e p:=by
 have hl:=congrArg List.length h
 rw[fm,fm]at hl
 subst hl
 refine⟨rfl,fun p hp =>?_⟩
 have h1:=iw (N:=N) d hp
 rw[h,iw e hp]at h1
 exact (Ib (Option.some.inj h1)).symm
theorem Cm {N K:Nat} {d:Nat->Rat} (h:∀f∈eZ N d,f.aH.aa.length<=K∧f.aK.aa.length<=K):∀p,p<N->LF (d p)<=K:=fun p hp=>by
 have:=h _ (acP (iw d hp))
 exact wC this.1 this.2
theorem SV {N K:Nat} {d:Nat->Rat} (h:∀p,p<N->LF (d p)<=K):∀f∈eZ N d,f.aH.aa.length<=K∧f.aK.aa.length<=K:=fun f hf=>by
 unfold eZ at hf
 obtain⟨p,hp,rfl⟩:=ack.1 hf
 exact Ap (h p (adZ.1 hp))
def NQ (n:bW) (l:List al):Prop:=∃N tk d,n=mT N tk∧iT N tk∧l=eZ N d
abbrev Sl (n:bW) (K:Nat):Prop:=∀t∈n.ax,t.bg.aH.aa.length<=K∧t.bg.aK.aa.length<=K
abbrev W4 (l:List al) (K:Nat):Prop:=∀f∈l,f.aH.aa.length<=K∧f.aK.aa.length<=K
theorem Y1 {N K:Nat} {tk:List Tk} (h:∀t∈tk,LF t.2.2<=K):Sl (mT N tk) K:=fun t ht=>by
 simp only[mT,ack]at ht
 obtain⟨u,hu,rfl⟩:=ht
 exact Ap (h u hu)
theorem Zz {N K:Nat} {tk:List Tk} (h:Sl (mT N tk) K):∀t∈tk,LF t.2.2<=K:=fun t ht=>by
 have:=h (wv t) (by simp only[mT];exact List.mem_map_of_mem ht)
 exact wC this.1 this.2
theorem Nr {N:Nat} {tk:List Tk} {r:Nat->Int} (hr:mU N tk r) (h:j3 N r=[]):∀p,p<N->0<=r p:=by
 intro p hp
 have h1:=hr.ge p hp
 have h2:r p ≠ -1:=fun e=>by
  have:p∈j3 N r:=adV.2 ⟨adZ.2 hp,by simpa using e⟩
  rw[h]at this;cases this
 omega
end Go.Proofs.Ytchndpjlijbplaa.P
