/- Part of a proof, made small by a program (wip/mini.py). -/
import Derived.Test.YtchndpjlijbplaaLd
namespace Go.Proofs.Ytchndpjlijbplaa.Am
open Go.RowKit Go.Proofs.Ytchndpjlijbplaa.P
set_option maxRecDepth 100000
set_option maxHeartbeats 4000000
set_option linter.unusedSimpArgs false
set_option linter.unusedVariables false
theorem T3 (p0:al) (p1:al) (r:ak×Int) (hh:xZ p0 p1=some r):ba .clean tab uX FU Try.f74 none [.agg [.int .i64 p0.ag,.sl false false p0.aa.length (ae (eI .i64) p0.aa)],.agg [.int .i64 p1.ag,.sl false false p1.aa.length (ae (eI .i64) p1.aa)]]=some (.clean (.tup [.agg [.int .i64 r.1.aL.ag,.sl false false r.1.aL.aa.length (ae (eI .i64) r.1.aL.aa),.int .i64 r.1.aM.ag,.sl false false r.1.aM.aa.length (ae (eI .i64) r.1.aM.aa)],.int .i64 r.2]),none):=by
 refine aC rfl Try.ntmps74 Try.results74 ?_
 unfold xZ at hh
 obtain⟨r1,hr1,hh⟩:=ah hh
 try simp only[dM,seval,hr1]
 obtain⟨o2,ho2,hh⟩:=ah hh
 refine bF 0 (fun s t H e=>match s with|s21j1=>∃v2j1:Nat,∃v3j1:Nat,∃v4j1:Nat,t 2=.ptr 2 v2j1 0∧t 3=.ptr 3 v3j1 0∧t 4=.ptr 4 v4j1 0∧t 21=.bool s21j1∧H 2=some ⟨v2j1,39,[.int .i64 p0.ag,.sl false false p0.aa.length (ae (eI .i64) p0.aa)],false,false,false⟩∧H 3=some ⟨v3j1,39,[.int .i64 p1.ag,.sl false false p1.aa.length (ae (eI .i64) p1.aa)],false,false,false⟩∧H 4=some ⟨v4j1,41,[.int .i64 0,.sl true true 0 [],.int .i64 0,.sl true true 0 []],false,false,false⟩) (fun s=>s=o2) ?_ ?_
 ·rintro s21j1 t H e ⟨v2j1,v3j1,v4j1,Zj1⟩ rfl
  try dsimp only at hh
  try simp only[dM,seval,hr1,Zj1]
  refine sp aq hh (fun _ hh =>?_) (fun _ hh =>?_)
  ·cases hh
   try simp only[dM,seval,hr1,Zj1]
  ·try simp only[dM,seval,hr1,Zj1]
   refine sp aq hh (fun _ hh =>?_) (fun _ hh =>?_)
   ·cases hh
    try simp only[dM,seval,hr1,Zj1]
   ·try simp only[dM,seval,hr1,Zj1]
    obtain⟨o5,ho5,hh⟩:=ah hh
    refine j5 0 (fun s t H e=>match s with|(r2_0j2,r2_1j2,r3_0j2,r3_1j2)=>∃v2j2:Nat,∃v3j2:Nat,∃v4j2:Nat,t 2=.ptr 2 v2j2 0∧t 3=.ptr 3 v3j2 0∧t 4=.ptr 4 v4j2 0∧H 2=some ⟨v2j2,39,[.int .i64 r2_0j2,.sl false false r2_1j2.length (ae (eI .i64) r2_1j2)],false,false,false⟩∧H 3=some ⟨v3j2,39,[.int .i64 r3_0j2,.sl false false r3_1j2.length (ae (eI .i64) r3_1j2)],false,false,false⟩∧H 4=some ⟨v4j2,41,[.int .i64 0,.sl true true 0 [],.int .i64 0,.sl true true 0 []],false,false,false⟩) (fun s=>s=o5) ?_ ?_
    ·rintro⟨r2_0j2,r2_1j2,r3_0j2,r3_1j2⟩ t H e ⟨v2j2,v3j2,v4j2,Zj2⟩ rfl
     try dsimp only at hh
     obtain⟨r6,hr6,hh⟩:=ah hh
     obtain⟨r7,hr7,hh⟩:=ah hh
     obtain⟨r8,hr8,hh⟩:=ah hh
     cases hh
     try simp only[dM,seval,hr1,Zj2,hr6,hr7,hr8]
    ·clear hh
     have hh:=ho5
     try simp only[dM,seval,hr1,Zj1]
     refine sp aq hh (fun _ hh =>?_) (fun _ hh =>?_)
     ·obtain⟨r10,hr10,hh⟩:=ah hh
      obtain⟨r11,hr11,hh⟩:=ah hh
      cases hh
      try simp only[dM,seval,hr1,Zj1,hr10,hr11]
      rw[au]
      refine⟨_,rfl,?_⟩
      refine⟨v2j1,v3j1,v4j1,?_,?_,?_,?_,?_,?_⟩
      all_goals first|rfl|(simp only[dM,seval,hr1,Zj1,hr10,hr11]<;>rfl)
     ·cases hh
      try simp only[dM,seval,hr1,Zj1]
      rw[au]
      refine⟨_,rfl,?_⟩
      refine⟨v2j1,v3j1,v4j1,?_,?_,?_,?_,?_,?_⟩
      all_goals first|rfl|(simp only[dM,seval,hr1,Zj1]<;>rfl)
 ·clear hh
  have hh:=ho2
  try simp only[dM,seval,hr1]
  refine sp bc hh (fun _ hh =>?_) (fun _ hh =>?_)
  ·cases hh
   try simp only[dM,seval,hr1]
   rw[au]
   refine⟨_,rfl,?_⟩
   refine⟨0,0,0,?_,?_,?_,?_,?_,?_,?_⟩
   all_goals first|rfl|(simp only[dM,seval,hr1]<;>rfl)
  ·obtain⟨r13,hr13,hh⟩:=ah hh
   cases hh
   try simp only[dM,seval,hr1,hr13]
   rw[au]
   refine⟨_,rfl,?_⟩
   refine⟨0,0,0,?_,?_,?_,?_,?_,?_,?_⟩
   all_goals first|rfl|(simp only[dM,seval,hr1,hr13]<;>rfl)
theorem PZ:bX Try.prog 74 yB:=bX.of (mode := .clean) tok Pj mixed Try.func74 (by kernel_rfl) ⟨by kernel_rfl,by kernel_rfl⟩ (fun _=>aeX (by kernel_rfl)) (fun x r h=>T3 x.1 x.2 r h)
noncomputable def w8:=fR (iO (aI .i64) (fO (aI .i64))) (fun x:Int×Int=>y6 x.1 x.2) (fun r:ak×Int =>.clean (.tup [.agg [.int .i64 r.1.aL.ag,.sl false false r.1.aL.aa.length (ae (eI .i64) r.1.aL.aa),.int .i64 r.1.aM.ag,.sl false false r.1.aM.aa.length (ae (eI .i64) r.1.aM.aa)],.int .i64 r.2]))
theorem xW (p0:Int) (p1:Int):w8 none [.int .i64 p0,.int .i64 p1]=(y6 p0 p1).map fun r:ak×Int=>(.clean (.tup [.agg [.int .i64 r.1.aL.ag,.sl false false r.1.aL.aa.length (ae (eI .i64) r.1.aL.aa),.int .i64 r.1.aM.ag,.sl false false r.1.aM.aa.length (ae (eI .i64) r.1.aM.aa)],.int .i64 r.2]),none):=aU _ _ _ (p0,p1)
noncomputable def xC:Env:=(Am.ext (Am.ext a7 58 false w7) 74 false yB)
theorem TE:bB Try.prog xC:=((bB.none.add GS false).add PZ false)
theorem XN:type_of% (ai @w<|ai @xV<|ai @G9<|@xC.eq_1):=⟨@w,@xV,@G9,@xC.eq_1⟩
theorem Wi (p0:Int) (p1:Int) (r:ak×Int) (hh:y6 p0 p1=some r):ba .clean tab xC FU Try.f46 none [.int .i64 p0,.int .i64 p1]=some (.clean (.tup [.agg [.int .i64 r.1.aL.ag,.sl false false r.1.aL.aa.length (ae (eI .i64) r.1.aL.aa),.int .i64 r.1.aM.ag,.sl false false r.1.aM.aa.length (ae (eI .i64) r.1.aM.aa)],.int .i64 r.2]),none):=by
 refine aC rfl Try.ntmps46 Try.results46 ?_
 unfold y6 at hh
 obtain⟨r1,hr1,hh⟩:=ah hh
 obtain⟨r2,hr2,hh⟩:=ah hh
 obtain⟨r3,hr3,hh⟩:=ah hh
 cases hh
 try simp only[XN,seval,hr1,hr2,hr3]
theorem GU:bX Try.prog 46 w8:=bX.of (mode := .clean) tok TE mixed Try.func46 (by kernel_rfl) ⟨by kernel_rfl,by kernel_rfl⟩ (fun _=>aeX (by kernel_rfl)) (fun x r h=>Wi x.1 x.2 r h)
noncomputable def wm:=fR (iO (aI .i64) (iO (aI .i64) (iO (aI .i64) (fO (aI .i64))))) (fun x:Int×Int×Int×Int=>jY x.1 x.2.1 x.2.2.1 x.2.2.2) (fun r:dr =>.clean (.agg [.int .i64 r.cY,.int .i64 r.ko,.int .i64 r.bg.aL.ag,.sl false false r.bg.aL.aa.length (ae (eI .i64) r.bg.aL.aa),.int .i64 r.bg.aM.ag,.sl false false r.bg.aM.aa.length (ae (eI .i64) r.bg.aM.aa)]))
theorem Dv (p0:Int) (p1:Int) (p2:Int) (p3:Int):wm none [.int .i64 p0,.int .i64 p1,.int .i64 p2,.int .i64 p3]=(jY p0 p1 p2 p3).map fun r:dr=>(.clean (.agg [.int .i64 r.cY,.int .i64 r.ko,.int .i64 r.bg.aL.ag,.sl false false r.bg.aL.aa.length (ae (eI .i64) r.bg.aL.aa),.int .i64 r.bg.aM.ag,.sl false false r.bg.aM.aa.length (ae (eI .i64) r.bg.aM.aa)]),none):=aU _ _ _ (p0,p1,p2,p3)
noncomputable def rE:Env:=(Am.ext a7 46 false w8)
theorem Lp:bB Try.prog rE:=(bB.none.add GU false)
theorem QI:type_of% (ai @w<|ai @xW<|@rE.eq_1):=⟨@w,@xW,@rE.eq_1⟩
theorem PC (p0:Int) (p1:Int) (p2:Int) (p3:Int) (r:dr) (hh:jY p0 p1 p2 p3=some r):ba .clean tab rE FU Try.f31 none [.int .i64 p0,.int .i64 p1,.int .i64 p2,.int .i64 p3]=some (.clean (.agg [.int .i64 r.cY,.int .i64 r.ko,.int .i64 r.bg.aL.ag,.sl false false r.bg.aL.aa.length (ae (eI .i64) r.bg.aL.aa),.int .i64 r.bg.aM.ag,.sl false false r.bg.aM.aa.length (ae (eI .i64) r.bg.aM.aa)]),none):=by
 refine aC rfl Try.ntmps31 Try.results31 ?_
 unfold jY at hh
 obtain⟨r1,hr1,hh⟩:=ah hh
 cases hh
 try simp only[QI,seval,hr1]
theorem Ng:bX Try.prog 31 wm:=bX.of (mode := .clean) tok Lp mixed Try.func31 (by kernel_rfl) ⟨by kernel_rfl,by kernel_rfl⟩ (fun _=>aeX (by kernel_rfl)) (fun x r h=>PC x.1 x.2.1 x.2.2.1 x.2.2.2 r h)
noncomputable def yA:=fR (fO (aI .i64)) (fun x:Int=>xY x) (fun r:ak =>.clean (.agg [.int .i64 r.aL.ag,.sl false false r.aL.aa.length (ae (eI .i64) r.aL.aa),.int .i64 r.aM.ag,.sl false false r.aM.aa.length (ae (eI .i64) r.aM.aa)]))
theorem G8 (p0:Int):yA none [.int .i64 p0]=(xY p0).map fun r:ak=>(.clean (.agg [.int .i64 r.aL.ag,.sl false false r.aL.aa.length (ae (eI .i64) r.aL.aa),.int .i64 r.aM.ag,.sl false false r.aM.aa.length (ae (eI .i64) r.aM.aa)]),none):=aU _ _ _ (p0)
noncomputable def uW:Env:=(Am.ext a7 46 false w8)
theorem Ph:bB Try.prog uW:=(bB.none.add GU false)
theorem Us:type_of% (ai @w<|ai @xW<|@uW.eq_1):=⟨@w,@xW,@uW.eq_1⟩
theorem T2 (p0:Int) (r:ak) (hh:xY p0=some r):ba .clean tab uW FU Try.f17 none [.int .i64 p0]=some (.clean (.agg [.int .i64 r.aL.ag,.sl false false r.aL.aa.length (ae (eI .i64) r.aL.aa),.int .i64 r.aM.ag,.sl false false r.aM.aa.length (ae (eI .i64) r.aM.aa)]),none):=by
 refine aC rfl Try.ntmps17 Try.results17 ?_
 unfold xY at hh
 obtain⟨r1,hr1,hh⟩:=ah hh
 cases hh
 try simp only[Us,seval,hr1]
theorem PY:bX Try.prog 17 yA:=bX.of (mode := .clean) tok Ph mixed Try.func17 (by kernel_rfl) ⟨by kernel_rfl,by kernel_rfl⟩ (fun _=>aeX (by kernel_rfl)) (fun x r h=>T2 x r h)
noncomputable def qH:=fR (fO (nc (eI .i64))) (fun x:(List Int)=>jX x) (fun r:(List ak) =>.clean (.sl false false r.length (ae ay r)))
theorem jl (p0:(List Int)):qH none [.sl false false p0.length (ae (eI .i64) p0)]=(jX p0).map fun r:(List ak)=>(.clean (.sl false false r.length (ae ay r)),none):=aU _ _ _ (p0)
noncomputable def rC:Env:=(Am.ext a7 17 false yA)
theorem Lm:bB Try.prog rC:=(bB.none.add PY false)
theorem jr:type_of% (ai @w<|ai @G8<|@rC.eq_1):=⟨@w,@G8,@rC.eq_1⟩
theorem PA (p0:(List Int)) (r:(List ak)) (hh:jX p0=some r):ba .clean tab rC FU Try.f32 none [.sl false false p0.length (ae (eI .i64) p0)]=some (.clean (.sl false false r.length (ae ay r)),none):=by
 refine aC rfl Try.ntmps32 Try.results32 ?_
 unfold jX at hh
 try simp only[jr,seval]
 obtain⟨o6,ho6,hh⟩:=ah hh
 refine aB (fun s t H e=>match s with|(s4a,l3a)=>∃v3a:Nat,t 0=.sl false false p0.length (ae (eI .i64) p0)∧t 3=.buf 3 v3a 4 0 (l3a).length∧t 4=.int .i64 s4a∧H 3=some ⟨v3a,41,ae ay l3a,false,true,false⟩) (fun o x t H e=>match o with|l3ax=>x=.exit 0∧∃v3ax:Nat,t 3=.buf 3 v3ax 4 0 (l3ax).length∧H 3=some ⟨v3ax,41,ae ay l3ax,false,true,false⟩) ho6 ?_ ?_ ?_
 ·refine⟨1,?_,?_,?_,?_⟩
  all_goals first|rfl|(simp only[jr,seval]<;>rfl)
 ·rintro⟨s4a,l3a⟩ t H e ⟨v3a,Za⟩ c hh
  simp only[zW]at hh
  try simp only[jr,seval,Za]
  refine sp aq hh (fun _ hh =>?_) (fun _ hh =>?_)
  ·obtain⟨x8,hx8,hh⟩:=ah hh
   have ax8:=bK (eI .i64) hx8
   simp only[bC]at ax8
   obtain⟨r9,hr9,hh⟩:=ah hh
   obtain⟨x10,hx10,hh⟩:=ah hh
   obtain⟨q11a,q11b,q11c,q11d⟩:=iS ay hx10
   simp only[bC]at q11b
   cases hh
   try simp only[jr,seval,Za,ax8,hr9,q11a,q11b,q11c,q11d]
   refine jz ?_
   refine⟨e+1,?_,?_,?_,?_⟩
   all_goals first|rfl|(simp only[jr,seval,Za,ax8,hr9,q11a,q11b,q11c,q11d]<;>rfl)
  ·cases hh
   try simp only[jr,seval,Za]
   refine kK ?_
   refine⟨rfl,⟨v3a,?_,?_⟩⟩
   all_goals first|rfl|(simp only[jr,seval,Za]<;>rfl)
 ·rintro x t H e hx
  obtain⟨l3ax,rfl⟩:∃z,z=o6:=⟨_,rfl⟩
  dsimp only at hx hh
  obtain⟨rfl,⟨v3ax,Zax⟩⟩:=hx
  cases hh
  try simp only[jr,seval,Zax]
theorem z8:bX Try.prog 32 qH:=bX.of (mode := .clean) tok Lm mixed Try.func32 (by kernel_rfl) ⟨by kernel_rfl,by kernel_rfl⟩ (fun _=>aeX (by kernel_rfl)) (fun x r h=>PA x r h)
noncomputable def qJ:=fR (iO (aI .i64) (iO (aI .i64) (fO (aI .i64)))) (fun x:Int×Int×Int=>gE x.1 x.2.1 x.2.2) (fun r:Bool =>.clean (.bool r))
theorem xU (p0:Int) (p1:Int) (p2:Int):qJ none [.int .i64 p0,.int .i64 p1,.int .i64 p2]=(gE p0 p1 p2).map fun r:Bool=>(.clean (.bool r),none):=aU _ _ _ (p0,p1,p2)
theorem IM (p0:Int) (p1:Int) (p2:Int) (r:Bool) (hh:gE p0 p1 p2=some r):ba .clean tab a7 FU Try.f34 none [.int .i64 p0,.int .i64 p1,.int .i64 p2]=some (.clean (.bool r),none):=by
 refine aC rfl Try.ntmps34 Try.results34 ?_
 unfold gE at hh
 try simp only[w,seval]
 refine sp ec hh (fun _ hh =>?_) (fun _ hh =>?_)
 ·cases hh
  try simp only[w,seval]
 ·cases hh
  try simp only[w,seval]
theorem EA:bX Try.prog 34 qJ:=bX.of (mode := .clean) tok bB.none mixed Try.func34 (by kernel_rfl) ⟨by kernel_rfl,by kernel_rfl⟩ (fun _=>aeX (by kernel_rfl)) (fun x r h=>IM x.1 x.2.1 x.2.2 r h)
noncomputable def eL:=fR (fO (cN eo)) (fun x:al=>cl x) (fun r:Bool =>.clean (.bool r))
theorem ch (p0_0:Int) (p0_1:(List Int)):eL none [.agg [.int .i64 p0_0,.sl false false p0_1.length (ae (eI .i64) p0_1)]]=(cl (al.mk p0_0 p0_1)).map fun r:Bool=>(.clean (.bool r),none):=aU _ _ _ ((al.mk p0_0 p0_1))
theorem Ms (p0:al) (r:Bool) (hh:cl p0=some r):ba .clean tab a7 FU Try.f50 none [.agg [.int .i64 p0.ag,.sl false false p0.aa.length (ae (eI .i64) p0.aa)]]=some (.clean (.bool r),none):=by
 refine aC rfl Try.ntmps50 Try.results50 ?_
 unfold cl at hh
 try simp only[w,seval]
 obtain⟨o5,ho5,hh⟩:=ah hh
 refine aB (fun s t H e=>match s with|s12a=>∃v1a:Nat,t 1=.ptr 1 v1a 0∧t 3=.int .i64 (p0.aa.length:Int)∧t 10=.sl false false p0.aa.length (ae (eI .i64) p0.aa)∧t 11=.int .i64 (p0.aa.length:Int)∧t 12=.int .i64 s12a∧H 1=some ⟨v1a,39,[.int .i64 p0.ag,.sl false false p0.aa.length (ae (eI .i64) p0.aa)],false,false,false⟩) (fun o x t H e=>match o with|(.inl _)=>x=.exit 0∧∃v1ax:Nat,t 1=.ptr 1 v1ax 0∧t 3=.int .i64 (p0.aa.length:Int)∧H 1=some ⟨v1ax,39,[.int .i64 p0.ag,.sl false false p0.aa.length (ae (eI .i64) p0.aa)],false,false,false⟩|(.inr r)=>x=.ret∧jd .clean tab none [.tmp 2] ⟨t,EH H,e⟩=some (.clean (.bool r),none)) ho5 ?_ ?_ ?_
 ·refine⟨0,?_,?_,?_,?_,?_,?_⟩
  all_goals first|rfl|(simp only[w,seval]<;>rfl)
 ·rintro s12a t H e ⟨v1a,Za⟩ c hh
  simp only[nB]at hh
  try simp only[w,seval,Za]
  refine sp aq hh (fun _ hh =>?_) (fun _ hh =>?_)
  ·obtain⟨x7,hx7,hh⟩:=ah hh
   have ax7:=bK (eI .i64) hx7
   simp only[bC]at ax7
   try simp only[w,seval,Za,ax7]
   refine sp bc hh (fun _ hh =>?_) (fun _ hh =>?_)
   ·cases hh
    try simp only[w,seval,Za,ax7]
    refine IG ⟨rfl,?_⟩
    try simp only[w,seval,Za,ax7]
   ·try simp only[w,seval,Za,ax7]
    refine sp aq hh (fun _ hh =>?_) (fun _ hh =>?_)
    ·cases hh
     try simp only[w,seval,Za,ax7]
     refine IG ⟨rfl,?_⟩
     try simp only[w,seval,Za,ax7]
    ·cases hh
     try simp only[w,seval,Za,ax7]
     refine jz ?_
     refine⟨v1a,?_,?_,?_,?_,?_,?_⟩
     all_goals first|rfl|(simp only[w,seval,Za,ax7]<;>rfl)
  ·cases hh
   try simp only[w,seval,Za]
   refine kK ?_
   refine⟨rfl,⟨v1a,?_,?_,?_⟩⟩
   all_goals first|rfl|(simp only[w,seval,Za]<;>rfl)
 ·rintro x t H e hx
  rcases o5 with _|ra
  ·dsimp only at hx hh
   obtain⟨rfl,⟨v1ax,Zax⟩⟩:=hx
   try simp only[w,seval,Zax]
   refine sp aq hh (fun _ hh =>?_) (fun _ hh =>?_)
   ·cases hh
    try simp only[w,seval,Zax]
   ·try simp only[w,seval,Zax]
    refine sp bc hh (fun _ hh =>?_) (fun _ hh =>?_)
    ·obtain⟨x12,hx12,hh⟩:=ah hh
     have ax12:=bK (eI .i64) hx12
     simp only[bC]at ax12
     cases hh
     try simp only[w,seval,Zax,ax12]
    ·try simp only[w,seval,Zax]
     refine sp ec hh (fun _ hh =>?_) (fun _ hh =>?_)
     ·obtain⟨x14,hx14,hh⟩:=ah hh
      have ax14:=bK (eI .i64) hx14
      simp only[bC]at ax14
      cases hh
      try simp only[w,seval,Zax,ax14]
     ·cases hh
      try simp only[w,seval,Zax]
  ·dsimp only at hx hh
   obtain⟨rfl,hE⟩:=hx
   cases hh
   try simp only[bO,bE,bV,ey,ew,dm,dn]
   exact hE
theorem fj:bX Try.prog 50 eL:=bX.of (mode := .clean) tok bB.none mixed Try.func50 (by kernel_rfl) ⟨by kernel_rfl,by kernel_rfl⟩ (fun _=>aeX (by kernel_rfl)) (fun x r h=>Ms x r h)
noncomputable def jS:=fR (iO aaQ (fO (cN eo))) (fun x:Bool×al=>dJ x.1 x.2) (fun r:al×Int =>.clean (.tup [.agg [.int .i64 r.1.ag,.sl false false r.1.aa.length (ae (eI .i64) r.1.aa)],.int .i64 r.2]))
theorem eH (p0:Bool) (p1_0:Int) (p1_1:(List Int)):jS none [.bool p0,.agg [.int .i64 p1_0,.sl false false p1_1.length (ae (eI .i64) p1_1)]]=(dJ p0 (al.mk p1_0 p1_1)).map fun r:al×Int=>(.clean (.tup [.agg [.int .i64 r.1.ag,.sl false false r.1.aa.length (ae (eI .i64) r.1.aa)],.int .i64 r.2]),none):=aU _ _ _ (p0,(al.mk p1_0 p1_1))
theorem En (p0:Bool) (p1:al) (r:al×Int) (hh:dJ p0 p1=some r):ba .clean tab a7 FU Try.f75 none [.bool p0,.agg [.int .i64 p1.ag,.sl false false p1.aa.length (ae (eI .i64) p1.aa)]]=some (.clean (.tup [.agg [.int .i64 r.1.ag,.sl false false r.1.aa.length (ae (eI .i64) r.1.aa)],.int .i64 r.2]),none):=by
 refine aC rfl Try.ntmps75 Try.results75 ?_
 unfold dJ at hh
 try simp only[w,seval]
 refine sp aq hh (fun _ hh =>?_) (fun _ hh =>?_)
 ·cases hh
  try simp only[w,seval]
 ·cases hh
  try simp only[w,seval]
theorem oM:bX Try.prog 75 jS:=bX.of (mode := .clean) tok bB.none mixed Try.func75 (by kernel_rfl) ⟨by kernel_rfl,by kernel_rfl⟩ (fun _=>aeX (by kernel_rfl)) (fun x r h=>En x.1 x.2 r h)
theorem yV (r:(List Int)) (hh:cB []=some r):ba (.fresh 3 1) tab a7 FU Try.f82 none [.sl true true 0 []]=some (.fresh 3 1 r.length (ae (eI .i64) r),none):=by
 unfold cB at hh
 obtain⟨qa,qb,qc⟩:=xe hh
 subst qa
 refine aC rfl Try.ntmps82 Try.results82 ?_
 simp only[w,seval,Nat.lt_irrefl]
theorem yW (r:(List Int)) (hh:cB []=some r):ba (.fresh 3 1) tab a7 FU Try.f82 none [.sl true false 0 []]=some (.fresh 3 1 r.length (ae (eI .i64) r),none):=by
 unfold cB at hh
 obtain⟨qa,qb,qc⟩:=xe hh
 subst qa
 refine aC rfl Try.ntmps82 Try.results82 ?_
 simp only[w,seval,Nat.lt_irrefl]
theorem yX (p0 r:(List Int)) (hp:0<p0.length) (hh:cB p0=some r):ba (.fresh 3 1) tab a7 FU Try.f82 none [.sl false false p0.length (ae (eI .i64) p0)]=some (.fresh 3 1 r.length (ae (eI .i64) r),none):=by
 unfold cB at hh
 have hz:¬p0.length=0:=by omega
 obtain⟨qa,qb,qc⟩:=xe hh
 subst qa
 refine aC rfl Try.ntmps82 Try.results82 ?_
 simp only[w,seval,hp,hz,qb,qc]
noncomputable def gP:=fR (fO (nc (eI .i64))) (fun x:(List Int)=>cB x) (fun r:(List Int) =>.fresh 3 1 r.length (ae (eI .i64) r))
theorem eO (p0:(List Int)):gP none [.sl false false p0.length (ae (eI .i64) p0)]=(cB p0).map fun r:(List Int)=>(.fresh 3 1 r.length (ae (eI .i64) r),none):=aU _ _ _ p0
theorem ke:bX Try.prog 82 gP:=bX.aa9 (mode:=(.fresh 3 1)) tok bB.none mixed Try.func82 (by kernel_rfl) ⟨by kernel_rfl,by kernel_rfl⟩ (aeX (by kernel_rfl)) yV yW yX
noncomputable def sZ:=fR (fO (aI .i64)) (fun x:Int=>l7 x) (fun r:Bool =>.clean (.bool r))
theorem Ag (p0:Int):sZ none [.int .i64 p0]=(l7 p0).map fun r:Bool=>(.clean (.bool r),none):=aU _ _ _ (p0)
theorem Mu (p0:Int) (r:Bool) (hh:l7 p0=some r):ba .clean tab a7 FU Try.f96 none [.int .i64 p0]=some (.clean (.bool r),none):=by
 refine aC rfl Try.ntmps96 Try.results96 ?_
 unfold l7 at hh
 cases hh
 try simp only[w,seval]
theorem I2:bX Try.prog 96 sZ:=bX.of (mode := .clean) tok bB.none mixed Try.func96 (by kernel_rfl) ⟨by kernel_rfl,by kernel_rfl⟩ (fun _=>aeX (by kernel_rfl)) (fun x r h=>Mu x r h)
noncomputable def iD:=fR (iO (aI .i64) (fO (aI .i64))) (fun x:Int×Int=>ej x.1 x.2) (fun r:Int =>.clean (.int .i64 r))
theorem fp (p0:Int) (p1:Int):iD none [.int .i64 p0,.int .i64 p1]=(ej p0 p1).map fun r:Int=>(.clean (.int .i64 r),none):=aU _ _ _ (p0,p1)
noncomputable def mw:Env:=(Am.ext a7 96 false sZ)
theorem Cu:bB Try.prog mw:=(bB.none.add I2 false)
theorem dy:type_of% (ai @w<|ai @Ag<|@mw.eq_1):=⟨@w,@Ag,@mw.eq_1⟩
theorem Ep (p0:Int) (p1:Int) (r:Int) (hh:ej p0 p1=some r):ba .clean tab mw FU Try.f66 none [.int .i64 p0,.int .i64 p1]=some (.clean (.int .i64 r),none):=by
 refine aC rfl Try.ntmps66 Try.results66 ?_
 unfold ej at hh
 obtain⟨r1,hr1,hh⟩:=ah hh
 obtain⟨r2,hr2,hh⟩:=ah hh
 try simp only[dy,seval,hr1,hr2]
 refine sp aq hh (fun _ hh =>?_) (fun _ hh =>?_)
 ·try simp only[dy,seval,hr1,hr2]
  refine sp aq hh (fun _ hh =>?_) (fun _ hh =>?_)
  ·cases hh
   try simp only[dy,seval,hr1,hr2]
  ·cases hh
   try simp only[dy,seval,hr1,hr2]
 ·try simp only[dy,seval,hr1,hr2]
  refine sp aq hh (fun _ hh =>?_) (fun _ hh =>?_)
  ·cases hh
   try simp only[dy,seval,hr1,hr2]
  ·try simp only[dy,seval,hr1,hr2]
   refine sp aq hh (fun _ hh =>?_) (fun _ hh =>?_)
   ·cases hh
    try simp only[dy,seval,hr1,hr2]
   ·try simp only[dy,seval,hr1,hr2]
    refine sp aq hh (fun _ hh =>?_) (fun _ hh =>?_)
    ·cases hh
     try simp only[dy,seval,hr1,hr2]
    ·cases hh
     try simp only[dy,seval,hr1,hr2]
theorem lJ:bX Try.prog 66 iD:=bX.of (mode := .clean) tok Cu mixed Try.func66 (by kernel_rfl) ⟨by kernel_rfl,by kernel_rfl⟩ (fun _=>aeX (by kernel_rfl)) (fun x r h=>Ep x.1 x.2 r h)
noncomputable def jT:=fR (iO (nc (eI .i64)) (fO (nc (eI .i64)))) (fun x:(List Int)×(List Int)=>eM x.1 x.2) (fun r:Int =>.clean (.int .i64 r))
theorem iJ (p0:(List Int)) (p1:(List Int)):jT none [.sl false false p0.length (ae (eI .i64) p0),.sl false false p1.length (ae (eI .i64) p1)]=(eM p0 p1).map fun r:Int=>(.clean (.int .i64 r),none):=aU _ _ _ (p0,p1)
noncomputable def mv:Env:=(Am.ext a7 66 false iD)
theorem Ct:bB Try.prog mv:=(bB.none.add lJ false)
theorem cu:type_of% (ai @w<|ai @fp<|@mv.eq_1):=⟨@w,@fp,@mv.eq_1⟩
theorem Eo (p0:(List Int)) (p1:(List Int)) (r:Int) (hh:eM p0 p1=some r):ba .clean tab mv FU Try.f78 none [.sl false false p0.length (ae (eI .i64) p0),.sl false false p1.length (ae (eI .i64) p1)]=some (.clean (.int .i64 r),none):=by
 refine aC rfl Try.ntmps78 Try.results78 ?_
 unfold eM at hh
 try simp only[cu,seval]
 refine sp aq hh (fun _ hh =>?_) (fun _ hh =>?_)
 ·obtain⟨r2,hr2,hh⟩:=ah hh
  cases hh
  try simp only[cu,seval,hr2]
 ·try simp only[cu,seval]
  obtain⟨o8,ho8,hh⟩:=ah hh
  refine aB (fun s t H e=>match s with|s5a=>t 0=.sl false false p0.length (ae (eI .i64) p0)∧t 1=.sl false false p1.length (ae (eI .i64) p1)∧t 5=.int .i64 s5a) (fun o x t H e=>match o with|(.inl _)=>x=.exit 0|(.inr r)=>x=.ret∧jd .clean tab none [.tmp 4] ⟨t,EH H,e⟩=some (.clean (.int .i64 r),none)) ho8 ?_ ?_ ?_
  ·refine⟨?_,?_,?_⟩
   all_goals first|rfl|(simp only[cu,seval]<;>rfl)
  ·rintro s5a t H e Za c hh
   simp only[ll]at hh
   try simp only[cu,seval,Za]
   refine sp aq hh (fun _ hh =>?_) (fun _ hh =>?_)
   ·obtain⟨x10,hx10,hh⟩:=ah hh
    have ax10:=bK (eI .i64) hx10
    simp only[bC]at ax10
    obtain⟨x11,hx11,hh⟩:=ah hh
    have ax11:=bK (eI .i64) hx11
    simp only[bC]at ax11
    try simp only[cu,seval,Za,ax10,ax11]
    refine bn (by kernel_rfl) ?_
    try simp only[cu,seval,Za,ax10,ax11]
    refine sp aq hh (fun _ hh =>?_) (fun _ hh =>?_)
    ·have ax10:=bK (eI .i64) hx10
     simp only[bC]at ax10
     have ax11:=bK (eI .i64) hx11
     simp only[bC]at ax11
     obtain⟨r13,hr13,hh⟩:=ah hh
     try simp only[cu,seval,Za,ax10,ax11,ax10,ax11,hr13]
     refine bn (by kernel_rfl) ?_
     cases hh
     try simp only[cu,seval,Za,ax10,ax11,ax10,ax11,hr13]
     refine IG ⟨rfl,?_⟩
     try simp only[cu,seval,Za,ax10,ax11,ax10,ax11,hr13]
    ·cases hh
     try simp only[cu,seval,Za,ax10,ax11]
     refine jz ?_
     refine⟨?_,?_,?_⟩
     all_goals first|rfl|(simp only[cu,seval,Za,ax10,ax11]<;>rfl)
   ·cases hh
    try simp only[cu,seval,Za]
    refine kK ?_
    exact rfl
  ·rintro x t H e hx
   rcases o8 with _|ra
   ·dsimp only at hx hh
    subst hx
    cases hh
    try simp only[cu,seval]
   ·dsimp only at hx hh
    obtain⟨rfl,hE⟩:=hx
    cases hh
    try simp only[bO,bE,bV,ey,ew,dm,dn]
    exact hE
theorem oN:bX Try.prog 78 jT:=bX.of (mode := .clean) tok Ct mixed Try.func78 (by kernel_rfl) ⟨by kernel_rfl,by kernel_rfl⟩ (fun _=>aeX (by kernel_rfl)) (fun x r h=>Eo x.1 x.2 r h)
noncomputable def kh:=fR (fO (nc (eI .i64))) (fun x:(List Int)=>dt x) (fun r:(List Int) =>.clean (.sl false false r.length (ae (eI .i64) r)))
theorem eZ (p0:(List Int)):kh none [.sl false false p0.length (ae (eI .i64) p0)]=(dt p0).map fun r:(List Int)=>(.clean (.sl false false r.length (ae (eI .i64) r)),none):=aU _ _ _ (p0)
theorem Ps (p0:(List Int)) (r:(List Int)) (hh:dt p0=some r):ba .clean tab a7 FU Try.f102 none [.sl false false p0.length (ae (eI .i64) p0)]=some (.clean (.sl false false r.length (ae (eI .i64) r)),none):=by
 refine aC rfl Try.ntmps102 Try.results102 ?_
 unfold dt at hh
 try simp only[w,seval]
 obtain⟨o4,ho4,hh⟩:=ah hh
 refine aB (fun s t H e=>match s with|s3a=>t 0=.sl false false p0.length (ae (eI .i64) p0)∧t 3=.int .i64 s3a) (fun o x t H e=>match o with|s3ax=>x=.exit 0∧t 0=.sl false false p0.length (ae (eI .i64) p0)∧t 3=.int .i64 s3ax) ho4 ?_ ?_ ?_
 ·refine⟨?_,?_⟩
  all_goals first|rfl|(simp only[w,seval]<;>rfl)
 ·rintro s3a t H e Za c hh
  simp only[kG]at hh
  try simp only[w,seval,Za]
  refine sp ec hh (fun _ hh =>?_) (fun _ hh =>?_)
  ·obtain⟨x6,hx6,hh⟩:=ah hh
   have ax6:=bK (eI .i64) hx6
   simp only[bC]at ax6
   try simp only[w,seval,Za,ax6]
   refine sp aq hh (fun _ hh =>?_) (fun _ hh =>?_)
   ·cases hh
    try simp only[w,seval,Za,ax6]
    refine jz ?_
    refine⟨?_,?_⟩
    all_goals first|rfl|(simp only[w,seval,Za,ax6]<;>rfl)
   ·cases hh
    try simp only[w,seval,Za,ax6]
    refine kK ?_
    refine⟨rfl,⟨?_,?_⟩⟩
    all_goals first|rfl|(simp only[w,seval,Za,ax6]<;>rfl)
  ·cases hh
   try simp only[w,seval,Za]
   refine kK ?_
   refine⟨rfl,⟨?_,?_⟩⟩
   all_goals first|rfl|(simp only[w,seval,Za]<;>rfl)
 ·rintro x t H e hx
  obtain⟨s3ax,rfl⟩:∃z,z=o4:=⟨_,rfl⟩
  dsimp only at hx hh
  obtain⟨rfl,Zax⟩:=hx
  obtain⟨x8,hx8,hh⟩:=ah hh
  obtain⟨q9a,q9b,q9c,q9d,q9e⟩:=Jj (eI .i64) hx8
  simp only[bC]at q9e
  cases hh
  try simp only[w,seval,Zax,q9a,q9b,q9c,q9d,q9e]
theorem mX:bX Try.prog 102 kh:=bX.of (mode := .clean) tok bB.none mixed Try.func102 (by kernel_rfl) ⟨by kernel_rfl,by kernel_rfl⟩ (fun _=>aeX (by kernel_rfl)) (fun x r h=>Ps x r h)
noncomputable def qE:=Zz 3 (eI .i64) (as0) (fun (l:(List Int)) (x:Unit)=>dt l)
theorem Jb (pre post:List D) (p0:(List Int)):qE (some (.buf 0 0 1 pre.length p0.length,⟨0,3,pre++(ae (eI .i64) p0++post),false,true,false⟩)) []=(dt p0).map fun r=>(.fresh 3 1 r.length (ae (eI .i64) r),none):=Wj _ _ _ _ pre post p0 ()
theorem II (pre post:List D) (p0:(List Int)) (r:(List Int)) (hh:dt p0=some r):ba (.fresh 3 1) tab a7 FU Try.f102 (some (.buf 0 0 1 pre.length p0.length,⟨0,3,pre++(ae (eI .i64) p0++post),false,true,false⟩)) []=some (.fresh 3 1 r.length (ae (eI .i64) r),none):=by
 refine D2 rfl Try.ntmps102 Try.results102 ?_
 unfold dt at hh
 try simp only[w,seval]
 obtain⟨o4,ho4,hh⟩:=ah hh
 refine aB (fun s t H e=>match s with|s3a=>∃v0a:Nat,t 0=.buf 0 v0a 1 pre.length (p0).length∧t 3=.int .i64 s3a∧H 0=some ⟨v0a,3,pre++(ae (eI .i64) p0++post),false,true,false⟩) (fun o x t H e=>match o with|s3ax=>x=.exit 0∧∃v0ax:Nat,t 0=.buf 0 v0ax 1 pre.length (p0).length∧t 3=.int .i64 s3ax∧H 0=some ⟨v0ax,3,pre++(ae (eI .i64) p0++post),false,true,false⟩) ho4 ?_ ?_ ?_
 ·refine⟨0,?_,?_,?_⟩
  all_goals first|rfl|(simp only[w,seval]<;>rfl)
 ·rintro s3a t H e ⟨v0a,Za⟩ c hh
  simp only[kG]at hh
  try simp only[w,seval,Za]
  refine sp ec hh (fun _ hh =>?_) (fun _ hh =>?_)
  ·obtain⟨x6,hx6,hh⟩:=ah hh
   have ax6:=LO (pre:=pre) (post:=post) (eI .i64) hx6
   simp only[bC]at ax6
   try simp only[w,seval,Za,ax6]
   refine sp aq hh (fun _ hh =>?_) (fun _ hh =>?_)
   ·cases hh
    try simp only[w,seval,Za,ax6]
    refine jz ?_
    refine⟨v0a,?_,?_,?_⟩
    all_goals first|rfl|(simp only[w,seval,Za,ax6]<;>rfl)
   ·cases hh
    try simp only[w,seval,Za,ax6]
    refine kK ?_
    refine⟨rfl,⟨v0a,?_,?_,?_⟩⟩
    all_goals first|rfl|(simp only[w,seval,Za,ax6]<;>rfl)
  ·cases hh
   try simp only[w,seval,Za]
   refine kK ?_
   refine⟨rfl,⟨v0a,?_,?_,?_⟩⟩
   all_goals first|rfl|(simp only[w,seval,Za]<;>rfl)
 ·rintro x t H e hx
  obtain⟨s3ax,rfl⟩:∃z,z=o4:=⟨_,rfl⟩
  dsimp only at hx hh
  obtain⟨rfl,⟨v0ax,Zax⟩⟩:=hx
  obtain⟨x8,hx8,hh⟩:=ah hh
  obtain⟨q9a,q9b,q9c,q9d,q9e⟩:=Jj (eI .i64) hx8
  simp only[bC]at q9e
  obtain⟨q9f,q9g⟩:=YD (pre:=pre) (post:=post) (eI .i64) hx8
  simp only[bC]at q9f q9g
  cases hh
  try simp only[w,seval,Zax,q9a,q9b,q9c,q9f,q9g,q9d]
theorem Ey:bX Try.prog 102 qE:=bX.aa7 tok bB.none mixed Try.func102 (by kernel_rfl) ⟨by kernel_rfl,by kernel_rfl⟩ (fun _=>aeX (by kernel_rfl)) (fun pre post l x r h=>II pre post l r h)
noncomputable def sY:=fR (iO (nc (eI .i64)) (fO (aI .i64))) (fun x:(List Int)×Int=>kF x.1 x.2) (fun r:(List Int)×Int =>.clean (.tup [.sl false false r.1.length (ae (eI .i64) r.1),.int .i64 r.2]))
theorem Af (p0:(List Int)) (p1:Int):sY none [.sl false false p0.length (ae (eI .i64) p0),.int .i64 p1]=(kF p0 p1).map fun r:(List Int)×Int=>(.clean (.tup [.sl false false r.1.length (ae (eI .i64) r.1),.int .i64 r.2]),none):=aU _ _ _ (p0,p1)
noncomputable def pk:Env:=(Am.ext a7 102 false kh)
theorem Is:bB Try.prog pk:=(bB.none.add mX false)
theorem ie:type_of% (ai @w<|ai @eZ<|@pk.eq_1):=⟨@w,@eZ,@pk.eq_1⟩
theorem Mt (p0:(List Int)) (p1:Int) (r:(List Int)×Int) (hh:kF p0 p1=some r):ba .clean tab pk FU Try.f104 none [.sl false false p0.length (ae (eI .i64) p0),.int .i64 p1]=some (.clean (.tup [.sl false false r.1.length (ae (eI .i64) r.1),.int .i64 r.2]),none):=by
 refine aC rfl Try.ntmps104 Try.results104 ?_
 unfold kF at hh
 obtain⟨x1,hx1,hh⟩:=ah hh
 obtain⟨q2a,q2b,q2c,q2d,q2e⟩:=mk_one (eI .i64) hx1
 simp only[bC]at q2d
 try simp only[ie,seval,-Int.reduceToNat,q2a,q2b,q2c,q2d,q2e]
 obtain⟨o13,ho13,hh⟩:=ah hh
 refine aB (fun s t H e=>match s with|(s7a,s8a,l6a)=>∃v6a:Nat,t 0=.sl false false p0.length (ae (eI .i64) p0)∧t 1=.int .i64 p1∧t 6=.buf 6 v6a 1 0 (l6a).length∧t 7=.int .i64 s7a∧t 8=.int .i64 s8a∧H 6=some ⟨v6a,3,ae (eI .i64) l6a,false,true,false⟩) (fun o x t H e=>match o with|(s7ax,l6ax)=>x=.exit 0∧∃v6ax:Nat,t 6=.buf 6 v6ax 1 0 (l6ax).length∧t 7=.int .i64 s7ax∧H 6=some ⟨v6ax,3,ae (eI .i64) l6ax,false,true,false⟩) ho13 ?_ ?_ ?_
 ·refine⟨1,?_,?_,?_,?_,?_,?_⟩
  all_goals first|rfl|(simp only[ie,seval,-Int.reduceToNat,q2a,q2b,q2c,q2d,q2e]<;>rfl)
 ·rintro⟨s7a,s8a,l6a⟩ t H e ⟨v6a,Za⟩ c hh
  simp only[nD]at hh
  try simp only[ie,seval,-Int.reduceToNat,q2a,q2b,q2c,q2d,q2e,Za]
  refine sp aq hh (fun _ hh =>?_) (fun _ hh =>?_)
  ·obtain⟨x15,hx15,hh⟩:=ah hh
   have q16:=A0 hx15
   obtain⟨x17,hx17,hh⟩:=ah hh
   have ax17:=bK (eI .i64) hx17
   simp only[bC]at ax17
   obtain⟨x18,hx18,hh⟩:=ah hh
   have q19:=rh hx18
   obtain⟨x20,hx20,hh⟩:=ah hh
   have ax20:=bK (eI .i64) hx20
   simp only[bC]at ax20
   have p21:=dZ (eI .i64) (x':=x18) (fo:=0) (cs:=[.int .i64 x18]) hx20 rfl (aeX rfl)
   simp only[bC,Nat.add_zero]at p21
   have up21:=p21
   simp only[putCells,List.length_cons,List.length_nil,ad4,Nat.reduceAdd]at up21
   obtain⟨x22,hx22,hh⟩:=ah hh
   have q23:=u3 hx22
   cases hh
   try simp only[ie,seval,-Int.reduceToNat,q2a,q2b,q2c,q2d,q2e,Za,q16,ax17,q19,ax20,p21,up21,q23]
   refine jz ?_
   refine⟨v6a,?_,?_,?_,?_,?_,?_⟩
   all_goals first|rfl|(simp only[ie,seval,-Int.reduceToNat,q2a,q2b,q2c,q2d,q2e,Za,q16,ax17,q19,ax20,p21,up21,q23]<;>rfl)
  ·cases hh
   try simp only[ie,seval,-Int.reduceToNat,q2a,q2b,q2c,q2d,q2e,Za]
   refine kK ?_
   refine⟨rfl,⟨v6a,?_,?_,?_⟩⟩
   all_goals first|rfl|(simp only[ie,seval,-Int.reduceToNat,q2a,q2b,q2c,q2d,q2e,Za]<;>rfl)
 ·rintro x t H e hx
  rcases o13 with⟨s7ax,l6ax⟩
  dsimp only at hx hh
  obtain⟨rfl,⟨v6ax,Zax⟩⟩:=hx
  obtain⟨r24,hr24,hh⟩:=ah hh
  cases hh
  try simp only[ie,seval,-Int.reduceToNat,q2a,q2b,q2c,q2d,q2e,Zax,hr24]
theorem I1:bX Try.prog 104 sY:=bX.of (mode := .clean) tok Is mixed Try.func104 (by kernel_rfl) ⟨by kernel_rfl,by kernel_rfl⟩ (fun _=>aeX (by kernel_rfl)) (fun x r h=>Mt x.1 x.2 r h)
noncomputable def ur:=fR (iO (nc (eI .i64)) (fO (nc (eI .i64)))) (fun x:(List Int)×(List Int)=>nC x.1 x.2) (fun r:(List Int) =>.fresh 3 1 r.length (ae (eI .i64) r))
theorem nY (p0:(List Int)) (p1:(List Int)):ur none [.sl false false p0.length (ae (eI .i64) p0),.sl false false p1.length (ae (eI .i64) p1)]=(nC p0 p1).map fun r:(List Int)=>(.fresh 3 1 r.length (ae (eI .i64) r),none):=aU _ _ _ (p0,p1)
noncomputable def uQ:Env:=(Am.ext a7 102 true qE)
theorem Pb:bB Try.prog uQ:=(bB.none.add Ey true)
theorem eD:type_of% (ai @w<|@uQ.eq_1):=⟨@w,@uQ.eq_1⟩
theorem TV (p0:(List Int)) (p1:(List Int)) (r:(List Int)) (hh:nC p0 p1=some r):ba (.fresh 3 1) tab uQ FU Try.f103 none [.sl false false p0.length (ae (eI .i64) p0),.sl false false p1.length (ae (eI .i64) p1)]=some (.fresh 3 1 r.length (ae (eI .i64) r),none):=by
 refine aC rfl Try.ntmps103 Try.results103 ?_
 unfold nC at hh
 obtain⟨x1,hx1,hh⟩:=ah hh
 obtain⟨q2a,q2b,q2c,q2d,q2e⟩:=mk_one (eI .i64) hx1
 simp only[bC]at q2d
 try simp only[eD,seval,-Int.reduceToNat,q2a,q2b,q2c,q2d,q2e]
 obtain⟨o20,ho20,hh⟩:=ah hh
 refine aB (fun s t H e=>match s with|(s20a,l5a)=>∃v5a:Nat,t 1=.sl false false p1.length (ae (eI .i64) p1)∧t 5=.buf 5 v5a 1 0 (l5a).length∧t 18=.sl false false p0.length (ae (eI .i64) p0)∧t 19=.int .i64 (p0.length:Int)∧t 20=.int .i64 s20a∧H 5=some ⟨v5a,3,ae (eI .i64) l5a,false,true,false⟩) (fun o x t H e=>match o with|l5ax=>x=.exit 0∧∃v5ax:Nat,t 5=.buf 5 v5ax 1 0 (l5ax).length∧H 5=some ⟨v5ax,3,ae (eI .i64) l5ax,false,true,false⟩) ho20 ?_ ?_ ?_
 ·refine⟨1,?_,?_,?_,?_,?_,?_⟩
  all_goals first|rfl|(simp only[eD,seval,-Int.reduceToNat,q2a,q2b,q2c,q2d,q2e]<;>rfl)
 ·rintro⟨s20a,l5a⟩ t H e ⟨v5a,Za⟩ c hh
  simp only[qZ]at hh
  try simp only[eD,seval,-Int.reduceToNat,q2a,q2b,q2c,q2d,q2e,Za]
  refine sp aq hh (fun _ hh =>?_) (fun _ hh =>?_)
  ·obtain⟨x22,hx22,hh⟩:=ah hh
   have ax22:=bK (eI .i64) hx22
   simp only[bC]at ax22
   try simp only[eD,seval,-Int.reduceToNat,q2a,q2b,q2c,q2d,q2e,Za,ax22]
   obtain⟨o29,ho29,hh⟩:=ah hh
   refine aB (fun s t H e=>match s with|(s8c,s27c,l5c)=>∃v5c:Nat,t 1=.sl false false p1.length (ae (eI .i64) p1)∧t 5=.buf 5 v5c 1 0 (l5c).length∧t 6=.int .i64 s20a∧t 7=.int .i64 x22∧t 8=.int .i64 s8c∧t 18=.sl false false p0.length (ae (eI .i64) p0)∧t 19=.int .i64 (p0.length:Int)∧t 20=.int .i64 s20a∧t 25=.sl false false p1.length (ae (eI .i64) p1)∧t 26=.int .i64 (p1.length:Int)∧t 27=.int .i64 s27c∧H 5=some ⟨v5c,3,ae (eI .i64) l5c,false,true,false⟩) (fun o x t H e=>match o with|(s8cx,l5cx)=>x=.exit 2∧∃v5cx:Nat,t 1=.sl false false p1.length (ae (eI .i64) p1)∧t 5=.buf 5 v5cx 1 0 (l5cx).length∧t 6=.int .i64 s20a∧t 8=.int .i64 s8cx∧t 18=.sl false false p0.length (ae (eI .i64) p0)∧t 19=.int .i64 (p0.length:Int)∧t 20=.int .i64 s20a∧H 5=some ⟨v5cx,3,ae (eI .i64) l5cx,false,true,false⟩) ho29 ?_ ?_ ?_
   ·refine⟨v5a,?_,?_,?_,?_,?_,?_,?_,?_,?_,?_,?_,?_⟩
    all_goals first|rfl|(simp only[eD,seval,-Int.reduceToNat,q2a,q2b,q2c,q2d,q2e,Za,ax22]<;>rfl)
   ·rintro⟨s8c,s27c,l5c⟩ t H e ⟨v5c,Zc⟩ c hh
    simp only[q8]at hh
    try simp only[eD,seval,-Int.reduceToNat,q2a,q2b,q2c,q2d,q2e,ax22,Zc]
    refine sp aq hh (fun _ hh =>?_) (fun _ hh =>?_)
    ·obtain⟨x31,hx31,hh⟩:=ah hh
     have ax31:=bK (eI .i64) hx31
     simp only[bC]at ax31
     obtain⟨x32,hx32,hh⟩:=ah hh
     have ax32:=bK (eI .i64) hx32
     simp only[bC]at ax32
     obtain⟨x33,hx33,hh⟩:=ah hh
     have q34:=sk hx33
     have ax32:=bK (eI .i64) hx32
     simp only[bC]at ax32
     have p35:=dZ (eI .i64) (x':=jV .and .i64 (IntKind.i64.wrap ((IntKind.i64.wrap (x32+(IntKind.i64.wrap (x22*x31))))+s8c)) 1048575) (fo:=0) (cs:=[.int .i64 (jV .and .i64 (IntKind.i64.wrap ((IntKind.i64.wrap (x32+(IntKind.i64.wrap (x22*x31))))+s8c)) 1048575)]) hx32 rfl (aeX rfl)
     simp only[bC,Nat.add_zero]at p35
     have up35:=p35
     simp only[putCells,List.length_cons,List.length_nil,ad4,Nat.reduceAdd]at up35
     cases hh
     try simp only[eD,seval,-Int.reduceToNat,q2a,q2b,q2c,q2d,q2e,ax22,Zc,ax31,ax32,q34,ax32,p35,up35]
     refine jz ?_
     refine⟨v5c,?_,?_,?_,?_,?_,?_,?_,?_,?_,?_,?_,?_⟩
     all_goals first|rfl|(simp only[eD,seval,-Int.reduceToNat,q2a,q2b,q2c,q2d,q2e,ax22,Zc,ax31,ax32,q34,ax32,p35,up35]<;>rfl)
    ·cases hh
     try simp only[eD,seval,-Int.reduceToNat,q2a,q2b,q2c,q2d,q2e,ax22,Zc]
     refine kK ?_
     refine⟨rfl,⟨v5c,?_,?_,?_,?_,?_,?_,?_,?_⟩⟩
     all_goals first|rfl|(simp only[eD,seval,-Int.reduceToNat,q2a,q2b,q2c,q2d,q2e,ax22,Zc]<;>rfl)
   ·rintro x t H e hx
    rcases o29 with⟨s8cx,l5cx⟩
    dsimp only at hx hh
    obtain⟨rfl,⟨v5cx,Zcx⟩⟩:=hx
    obtain⟨x36,hx36,hh⟩:=ah hh
    have ax36:=bK (eI .i64) hx36
    simp only[bC]at ax36
    have ax36:=bK (eI .i64) hx36
    simp only[bC]at ax36
    have p37:=dZ (eI .i64) (x':=IntKind.i64.wrap (x36+s8cx)) (fo:=0) (cs:=[.int .i64 (IntKind.i64.wrap (x36+s8cx))]) hx36 rfl (aeX rfl)
    simp only[bC,Nat.add_zero]at p37
    have up37:=p37
    simp only[putCells,List.length_cons,List.length_nil,ad4,Nat.reduceAdd]at up37
    cases hh
    try simp only[eD,seval,-Int.reduceToNat,q2a,q2b,q2c,q2d,q2e,ax22,Zcx,ax36,ax36,p37,up37]
    refine jz ?_
    refine⟨v5cx,?_,?_,?_,?_,?_,?_⟩
    all_goals first|rfl|(simp only[eD,seval,-Int.reduceToNat,q2a,q2b,q2c,q2d,q2e,ax22,Zcx,ax36,ax36,p37,up37]<;>rfl)
  ·cases hh
   try simp only[eD,seval,-Int.reduceToNat,q2a,q2b,q2c,q2d,q2e,Za]
   refine kK ?_
   refine⟨rfl,⟨v5a,?_,?_⟩⟩
   all_goals first|rfl|(simp only[eD,seval,-Int.reduceToNat,q2a,q2b,q2c,q2d,q2e,Za]<;>rfl)
 ·rintro x t H e hx
  obtain⟨l5ax,rfl⟩:∃z,z=o20:=⟨_,rfl⟩
  dsimp only at hx hh
  obtain⟨rfl,⟨v5ax,Zax⟩⟩:=hx
  have i38:=Jb [] [] l5ax
  try simp only[List.nil_append,ae5,List.length_nil,aJ,aff,bC]at i38
  obtain⟨r39,hr39,hh⟩:=ah hh
  cases hh
  try simp only[eD,seval,-Int.reduceToNat,q2a,q2b,q2c,q2d,q2e,Zax,i38,hr39]
theorem Db:bX Try.prog 103 ur:=bX.of (mode:=(.fresh 3 1)) tok Pb mixed Try.func103 (by kernel_rfl) ⟨by kernel_rfl,by kernel_rfl⟩ (fun _=>aeX (by kernel_rfl)) (fun x r h=>TV x.1 x.2 r h)
noncomputable def n8:=mkW 3 (eI .i64) (iO (nc (eI .i64)) (fO (aI .i64))) (fun (l:(List Int)) (x:(List Int)×Int)=>fc l x.1 x.2) (fun r:Int =>.clean (.int .i64 r))
theorem Dq (pre post:List D) (p0:(List Int)) (p1:(List Int)) (p2:Int):n8 (some (.buf 0 0 1 pre.length p0.length,⟨0,3,pre++(ae (eI .i64) p0++post),false,true,false⟩)) [.sl false false p1.length (ae (eI .i64) p1),.int .i64 p2]=(fc p0 p1 p2).map fun r=>(.clean (.int .i64 r.2),some ⟨0,3,pre++(ae (eI .i64) r.1++post),false,true,false⟩):=aak _ _ _ _ _ pre post p0 (p1,p2)
theorem CP (pre post:List D) (p0:(List Int)) (p1:(List Int)) (p2:Int) (r:(List Int)×(Int)) (hh:fc p0 p1 p2=some r):ba .clean tab a7 FU Try.f105 (some (.buf 0 0 1 pre.length p0.length,⟨0,3,pre++(ae (eI .i64) p0++post),false,true,false⟩)) [.sl false false p1.length (ae (eI .i64) p1),.int .i64 p2]=some (.clean (.int .i64 r.2),some ⟨0,3,pre++(ae (eI .i64) r.1++post),false,true,false⟩):=by
 refine D2 rfl Try.ntmps105 Try.results105 ?_
 unfold fc at hh
 obtain⟨rw,hrw,hh⟩:=ah hh
 split at hh
 rotate_left
 ·cases hh
 cases hh
 rename_i hlen
 replace hh:=hrw
 unfold oo at hh
 try simp only[w,seval,-Int.reduceToNat]
 obtain⟨o9,ho9,hh⟩:=ah hh
 refine aB (fun s t H e=>match s with|(s7a,s14a,l0a)=>t 0=.buf 0 0 1 pre.length (l0a).length∧t 1=.sl false false p1.length (ae (eI .i64) p1)∧t 2=.int .i64 p2∧t 7=.int .i64 s7a∧t 13=.int .i64 ((p0).length:Int)∧t 14=.int .i64 s14a∧H 0=some ⟨0,3,pre++(ae (eI .i64) l0a++post),false,true,false⟩) (fun o x t H e=>match o with|(s7ax,l0ax)=>x=.exit 0∧t 0=.buf 0 0 1 pre.length (l0ax).length∧t 1=.sl false false p1.length (ae (eI .i64) p1)∧t 2=.int .i64 p2∧t 7=.int .i64 s7ax∧H 0=some ⟨0,3,pre++(ae (eI .i64) l0ax++post),false,true,false⟩) ho9 ?_ ?_ ?_
 ·refine⟨?_,?_,?_,?_,?_,?_,?_⟩
  all_goals first|rfl|(simp only[w,seval,-Int.reduceToNat]<;>rfl)
 ·rintro⟨s7a,s14a,l0a⟩ t H e Za c hh
  simp only[j7]at hh
  try simp only[w,seval,-Int.reduceToNat,Za]
  refine sp aq hh (fun _ hh =>?_) (fun _ hh =>?_)
  ·obtain⟨x11,hx11,hh⟩:=ah hh
   have ax11:=LO (pre:=pre) (post:=post) (eI .i64) hx11
   simp only[bC]at ax11
   try simp only[w,seval,-Int.reduceToNat,Za,ax11]
   obtain⟨o12,ho12,hh⟩:=ah hh
   refine j5 0 (fun s t H e=>match s with|s9j3=>t 0=.buf 0 0 1 pre.length (l0a).length∧t 1=.sl false false p1.length (ae (eI .i64) p1)∧t 2=.int .i64 p2∧t 8=.int .i64 s14a∧t 9=.int .i64 s9j3∧t 13=.int .i64 ((p0).length:Int)∧t 14=.int .i64 s14a∧H 0=some ⟨0,3,pre++(ae (eI .i64) l0a++post),false,true,false⟩) (fun s=>s=o12) ?_ ?_
   ·rintro s9j3 t H e Zj3 rfl
    try dsimp only at hh
    have ax11:=LO (pre:=pre) (post:=post) (eI .i64) hx11
    simp only[bC]at ax11
    have p13:=Nr (pre:=pre) (post:=post) (eI .i64) (y':=jV .and .i64 s9j3 1048575) hx11
    simp only[bC]at p13
    have up13:=p13
    simp only[putCells,List.length_cons,List.length_nil,ad4,Nat.reduceAdd]at up13
    obtain⟨x14,hx14,hh⟩:=ah hh
    have q15:=sk hx14
    cases hh
    try simp only[w,seval,-Int.reduceToNat,ax11,Zj3,ax11,p13,up13,q15]
    refine jz ?_
    refine⟨?_,?_,?_,?_,?_,?_,?_⟩
    all_goals first|rfl|(simp only[w,seval,-Int.reduceToNat,ax11,Zj3,ax11,p13,up13,q15]<;>rfl)
   ·clear hh
    have hh:=ho12
    try simp only[w,seval,-Int.reduceToNat,Za,ax11]
    refine sp aq hh (fun _ hh =>?_) (fun _ hh =>?_)
    ·obtain⟨x17,hx17,hh⟩:=ah hh
     have ax17:=bK (eI .i64) hx17
     simp only[bC]at ax17
     cases hh
     try simp only[w,seval,-Int.reduceToNat,Za,ax11,ax17]
     rw[au]
     refine⟨_,rfl,?_⟩
     refine⟨?_,?_,?_,?_,?_,?_,?_,?_⟩
     all_goals first|rfl|(simp only[w,seval,-Int.reduceToNat,Za,ax11,ax17]<;>rfl)
    ·cases hh
     try simp only[w,seval,-Int.reduceToNat,Za,ax11]
     rw[au]
     refine⟨_,rfl,?_⟩
     refine⟨?_,?_,?_,?_,?_,?_,?_,?_⟩
     all_goals first|rfl|(simp only[w,seval,-Int.reduceToNat,Za,ax11]<;>rfl)
  ·cases hh
   try simp only[w,seval,-Int.reduceToNat,Za]
   refine kK ?_
   refine⟨rfl,⟨?_,?_,?_,?_,?_⟩⟩
   all_goals first|rfl|(simp only[w,seval,-Int.reduceToNat,Za]<;>rfl)
 ·rintro x t H e hx
  rcases o9 with⟨s7ax,l0ax⟩
  dsimp only at hx hh
  obtain⟨rfl,Zax⟩:=hx
  try simp only[w,seval,-Int.reduceToNat,Zax]
  refine sp aq hh (fun _ hh =>?_) (fun _ hh =>?_)
  ·cases hh
   try simp only[w,seval,-Int.reduceToNat,Zax]
  ·try simp only[w,seval,-Int.reduceToNat,Zax]
   obtain⟨o27,ho27,hh⟩:=ah hh
   refine aB (fun s t H e=>match s with|(s10d,s49d,l0d)=>t 0=.buf 0 0 1 pre.length (l0d).length∧t 1=.sl false false p1.length (ae (eI .i64) p1)∧t 2=.int .i64 p2∧t 10=.int .i64 s10d∧t 48=.int .i64 ((l0ax).length:Int)∧t 49=.int .i64 s49d∧H 0=some ⟨0,3,pre++(ae (eI .i64) l0d++post),false,true,false⟩) (fun o x t H e=>match o with|l0dx=>x=.exit 2∧t 0=.buf 0 0 1 pre.length (l0dx).length∧t 2=.int .i64 p2∧H 0=some ⟨0,3,pre++(ae (eI .i64) l0dx++post),false,true,false⟩) ho27 ?_ ?_ ?_
   ·refine⟨?_,?_,?_,?_,?_,?_,?_⟩
    all_goals first|rfl|(simp only[w,seval,-Int.reduceToNat,Zax]<;>rfl)
   ·rintro⟨s10d,s49d,l0d⟩ t H e Zd c hh
    simp only[j8]at hh
    try simp only[w,seval,-Int.reduceToNat,Zd]
    refine sp aq hh (fun _ hh =>?_) (fun _ hh =>?_)
    ·obtain⟨x29,hx29,hh⟩:=ah hh
     have ax29:=LO (pre:=pre) (post:=post) (eI .i64) hx29
     simp only[bC]at ax29
     try simp only[w,seval,-Int.reduceToNat,Zd,ax29]
     obtain⟨o30,ho30,hh⟩:=ah hh
     refine j5 0 (fun s t H e=>match s with|s10j6=>t 0=.buf 0 0 1 pre.length (l0d).length∧t 1=.sl false false p1.length (ae (eI .i64) p1)∧t 2=.int .i64 p2∧t 10=.int .i64 s10j6∧t 11=.int .i64 s49d∧t 48=.int .i64 ((l0ax).length:Int)∧t 49=.int .i64 s49d∧H 0=some ⟨0,3,pre++(ae (eI .i64) l0d++post),false,true,false⟩) (fun s=>s=o30) ?_ ?_
     ·rintro s10j6 t H e Zj6 rfl
      try dsimp only at hh
      have ax29:=LO (pre:=pre) (post:=post) (eI .i64) hx29
      simp only[bC]at ax29
      have p31:=Nr (pre:=pre) (post:=post) (eI .i64) (y':=jV .and .i64 s10j6 1048575) hx29
      simp only[bC]at p31
      have up31:=p31
      simp only[putCells,List.length_cons,List.length_nil,ad4,Nat.reduceAdd]at up31
      obtain⟨x32,hx32,hh⟩:=ah hh
      have q33:=sk hx32
      cases hh
      try simp only[w,seval,-Int.reduceToNat,ax29,Zj6,ax29,p31,up31,q33]
      refine jz ?_
      refine⟨?_,?_,?_,?_,?_,?_,?_⟩
      all_goals first|rfl|(simp only[w,seval,-Int.reduceToNat,ax29,Zj6,ax29,p31,up31,q33]<;>rfl)
     ·clear hh
      have hh:=ho30
      try simp only[w,seval,-Int.reduceToNat,Zd,ax29]
      refine sp aq hh (fun _ hh =>?_) (fun _ hh =>?_)
      ·obtain⟨x35,hx35,hh⟩:=ah hh
       have ax35:=bK (eI .i64) hx35
       simp only[bC]at ax35
       cases hh
       try simp only[w,seval,-Int.reduceToNat,Zd,ax29,ax35]
       rw[au]
       refine⟨_,rfl,?_⟩
       refine⟨?_,?_,?_,?_,?_,?_,?_,?_⟩
       all_goals first|rfl|(simp only[w,seval,-Int.reduceToNat,Zd,ax29,ax35]<;>rfl)
      ·cases hh
       try simp only[w,seval,-Int.reduceToNat,Zd,ax29]
       rw[au]
       refine⟨_,rfl,?_⟩
       refine⟨?_,?_,?_,?_,?_,?_,?_,?_⟩
       all_goals first|rfl|(simp only[w,seval,-Int.reduceToNat,Zd,ax29]<;>rfl)
    ·cases hh
     try simp only[w,seval,-Int.reduceToNat,Zd]
     refine kK ?_
     refine⟨rfl,⟨?_,?_,?_⟩⟩
     all_goals first|rfl|(simp only[w,seval,-Int.reduceToNat,Zd]<;>rfl)
   ·rintro x t H e hx
    obtain⟨l0dx,rfl⟩:∃z,z=o27:=⟨_,rfl⟩
    dsimp only at hx hh
    obtain⟨rfl,Zdx⟩:=hx
    cases hh
    try simp only[w,seval,-Int.reduceToNat,Zdx]
theorem AK:bX Try.prog 105 n8:=bX.aa8 (mode := .clean) tok bB.none mixed Try.func105 (by kernel_rfl) ⟨by kernel_rfl,by kernel_rfl⟩ (fun _=>aeX (by kernel_rfl)) (fun pre post l x l' r h=>CP pre post l x.1 x.2 (l',r) h)
noncomputable def uq:=fR (iO (nc (eI .i64)) (fO (nc (eI .i64)))) (fun x:(List Int)×(List Int)=>pc x.1 x.2) (fun r:(List Int)×(List Int) =>.clean (.tup [.sl false false r.1.length (ae (eI .i64) r.1),.sl false false r.2.length (ae (eI .i64) r.2)]))
theorem u9 (p0:(List Int)) (p1:(List Int)):uq none [.sl false false p0.length (ae (eI .i64) p0),.sl false false p1.length (ae (eI .i64) p1)]=(pc p0 p1).map fun r:(List Int)×(List Int)=>(.clean (.tup [.sl false false r.1.length (ae (eI .i64) r.1),.sl false false r.2.length (ae (eI .i64) r.2)]),none):=aU _ _ _ (p0,p1)
noncomputable def uP:Env:=(Am.ext (Am.ext (Am.ext (Am.ext (Am.ext (Am.ext a7 78 false jT) 82 false gP) 102 false kh) 103 false ur) 104 false sY) 105 true n8)
theorem O9:bB Try.prog uP:=((((((bB.none.add oN false).add ke false).add mX false).add Db false).add I1 false).add AK true)
theorem aW:type_of% (ai @w<|ai @iJ<|ai @eO<|ai @eZ<|ai @nY<|ai @Af<|@uP.eq_1):=⟨@w,@iJ,@eO,@eZ,@nY,@Af,@uP.eq_1⟩
theorem TU (p0:(List Int)) (p1:(List Int)) (r:(List Int)×(List Int)) (hh:pc p0 p1=some r):ba .clean tab uP FU Try.f83 none [.sl false false p0.length (ae (eI .i64) p0),.sl false false p1.length (ae (eI .i64) p1)]=some (.clean (.tup [.sl false false r.1.length (ae (eI .i64) r.1),.sl false false r.2.length (ae (eI .i64) r.2)]),none):=by
 refine aC rfl Try.ntmps83 Try.results83 ?_
 unfold pc at hh
 obtain⟨r1,hr1,hh⟩:=ah hh
 try simp only[aW,seval,-Int.reduceToNat,hr1]
 refine sp aq hh (fun _ hh =>?_) (fun _ hh =>?_)
 ·obtain⟨r3,hr3,hh⟩:=ah hh
  cases hh
  try simp only[aW,seval,-Int.reduceToNat,hr1,hr3]
 ·try simp only[aW,seval,-Int.reduceToNat,hr1]
  refine sp aq hh (fun _ hh =>?_) (fun _ hh =>?_)
  ·obtain⟨x5,hx5,hh⟩:=ah hh
   have ax5:=bK (eI .i64) hx5
   simp only[bC]at ax5
   obtain⟨r6,hr6,hh⟩:=ah hh
   have i7:=eZ ([r6.2])
   simp only[aJ,bC,List.length_cons,List.length_nil,ad4,Nat.reduceAdd,aff]at i7
   obtain⟨r8,hr8,hh⟩:=ah hh
   cases hh
   try simp only[aW,seval,-Int.reduceToNat,hr1,ax5,hr6,i7,hr8]
  ·try simp only[aW,seval,-Int.reduceToNat,hr1]
   obtain⟨o11,ho11,hh⟩:=ah hh
   refine aB (fun s t H e=>match s with|s8a=>t 0=.sl false false p0.length (ae (eI .i64) p0)∧t 1=.sl false false p1.length (ae (eI .i64) p1)∧t 8=.int .i64 s8a) (fun o x t H e=>match o with|s8ax=>x=.exit 0∧t 0=.sl false false p0.length (ae (eI .i64) p0)∧t 1=.sl false false p1.length (ae (eI .i64) p1)∧t 8=.int .i64 s8ax) ho11 ?_ ?_ ?_
   ·refine⟨?_,?_,?_⟩
    all_goals first|rfl|(simp only[aW,seval,-Int.reduceToNat,hr1]<;>rfl)
   ·rintro s8a t H e Za c hh
    simp only[qW]at hh
    obtain⟨x12,hx12,hh⟩:=ah hh
    have ax12:=bK (eI .i64) hx12
    simp only[bC]at ax12
    try simp only[aW,seval,-Int.reduceToNat,hr1,Za,ax12]
    refine sp aq hh (fun _ hh =>?_) (fun _ hh =>?_)
    ·cases hh
     try simp only[aW,seval,-Int.reduceToNat,hr1,Za,ax12]
     refine jz ?_
     refine⟨?_,?_,?_⟩
     all_goals first|rfl|(simp only[aW,seval,-Int.reduceToNat,hr1,Za,ax12]<;>rfl)
    ·cases hh
     try simp only[aW,seval,-Int.reduceToNat,hr1,Za,ax12]
     refine kK ?_
     refine⟨rfl,⟨?_,?_,?_⟩⟩
     all_goals first|rfl|(simp only[aW,seval,-Int.reduceToNat,hr1,Za,ax12]<;>rfl)
   ·rintro x t H e hx
    obtain⟨s8ax,rfl⟩:∃z,z=o11:=⟨_,rfl⟩
    dsimp only at hx hh
    obtain⟨rfl,Zax⟩:=hx
    have i14:=nY p0 ([s8ax])
    simp only[aJ,bC,List.length_cons,List.length_nil,ad4,Nat.reduceAdd,aff]at i14
    obtain⟨r15,hr15,hh⟩:=ah hh
    obtain⟨x16,hx16,hh⟩:=ah hh
    obtain⟨q17a,q17b,q17c,q17d⟩:=iS (eI .i64) hx16
    simp only[bC]at q17b
    have i18:=nY p1 ([s8ax])
    simp only[aJ,bC,List.length_cons,List.length_nil,ad4,Nat.reduceAdd,aff]at i18
    obtain⟨r19,hr19,hh⟩:=ah hh
    try simp only[aW,seval,-Int.reduceToNat,hr1,Zax,i14,hr15,q17a,q17b,q17c,q17d,i18,hr19]
    obtain⟨o20,ho20,hh⟩:=ah hh
    refine j5 0 (fun s t H e=>match s with|l9j2=>∃v9j2:Nat,∃v10j2:Nat,t 8=.int .i64 s8ax∧t 9=.buf 9 v9j2 1 0 (l9j2).length∧t 10=.buf 10 v10j2 1 0 (r19).length∧H 9=some ⟨v9j2,3,ae (eI .i64) l9j2,false,true,false⟩∧H 10=some ⟨v10j2,3,ae (eI .i64) r19,false,true,false⟩) (fun s=>s=o20) ?_ ?_
    ·rintro l9j2 t H e ⟨v9j2,v10j2,Zj2⟩ rfl
     try dsimp only at hh
     obtain⟨x21,hx21,hh⟩:=ah hh
     obtain⟨q22a,q22b,q22c,q22d,q22e⟩:=mk_one (eI .i64) hx21
     simp only[bC]at q22d
     try simp only[aW,seval,-Int.reduceToNat,hr1,i14,hr15,q17a,q17b,q17c,q17d,i18,hr19,Zj2,q22a,q22b,q22c,q22d,q22e]
     obtain⟨o58,ho58,hh⟩:=ah hh
     refine aB (fun s t H e=>match s with|(s13c,l9c,l12c)=>∃v9c:Nat,∃v10c:Nat,∃v12c:Nat,∃z10c:Bool,t 8=.int .i64 s8ax∧t 9=.buf 9 v9c 1 0 (l9c).length∧t 10=.buf 10 v10c 1 0 (r19).length∧t 11=.int .i64 ((r19).length:Int)∧t 12=.buf 12 v12c 1 0 (l12c).length∧t 13=.int .i64 s13c∧H 9=some ⟨v9c,3,ae (eI .i64) l9c,false,true,false⟩∧H 10=some ⟨v10c,3,ae (eI .i64) r19,z10c,true,false⟩∧H 12=some ⟨v12c,3,ae (eI .i64) l12c,false,true,false⟩) (fun o x t H e=>match o with|(l9cx,l12cx)=>x=.exit 2∧∃v9cx:Nat,∃v12cx:Nat,t 8=.int .i64 s8ax∧t 9=.buf 9 v9cx 1 0 (l9cx).length∧t 12=.buf 12 v12cx 1 0 (l12cx).length∧H 9=some ⟨v9cx,3,ae (eI .i64) l9cx,false,true,false⟩∧H 12=some ⟨v12cx,3,ae (eI .i64) l12cx,false,true,false⟩) ho58 ?_ ?_ ?_
     ·refine⟨v9j2,v10j2,e+1,false,?_,?_,?_,?_,?_,?_,?_,?_,?_⟩
      all_goals first|rfl|(simp only[aW,seval,-Int.reduceToNat,hr1,i14,hr15,q17a,q17b,q17c,q17d,i18,hr19,Zj2,q22a,q22b,q22c,q22d,q22e]<;>rfl)
     ·rintro⟨s13c,l9c,l12c⟩ t H e ⟨v9c,v10c,v12c,z10c,Zc⟩ c hh
      simp only[qX]at hh
      try simp only[aW,seval,-Int.reduceToNat,hr1,i14,hr15,q17a,q17b,q17c,q17d,i18,hr19,q22a,q22b,q22c,q22d,q22e,Zc]
      refine sp aq hh (fun _ hh =>?_) (fun _ hh =>?_)
      ·obtain⟨x60,hx60,hh⟩:=ah hh
       have ax60:=bK (eI .i64) hx60
       simp only[bC]at ax60
       obtain⟨x61,hx61,hh⟩:=ah hh
       have q62:=A0 hx61
       obtain⟨x63,hx63,hh⟩:=ah hh
       have ax63:=bK (eI .i64) hx63
       simp only[bC]at ax63
       try simp only[aW,seval,-Int.reduceToNat,hr1,i14,hr15,q17a,q17b,q17c,q17d,i18,hr19,q22a,q22b,q22c,q22d,q22e,Zc,ax60,q62,ax63]
       refine bn (by kernel_rfl) ?_
       obtain⟨x64,hx64,hh⟩:=ah hh
       have ax64:=bK (eI .i64) hx64
       simp only[bC]at ax64
       obtain⟨x65,hx65,hh⟩:=ah hh
       have q66:=rh hx65
       have ax64:=bK (eI .i64) hx64
       simp only[bC]at ax64
       obtain⟨x67,hx67,hh⟩:=ah hh
       have q68:=u3 hx67
       try simp only[aW,seval,-Int.reduceToNat,hr1,i14,hr15,q17a,q17b,q17c,q17d,i18,hr19,q22a,q22b,q22c,q22d,q22e,Zc,ax60,q62,ax63,ax64,q66,ax64,q68]
       refine bn (by kernel_rfl) ?_
       try simp only[aW,seval,-Int.reduceToNat,hr1,i14,hr15,q17a,q17b,q17c,q17d,i18,hr19,q22a,q22b,q22c,q22d,q22e,Zc,ax60,q62,ax63,ax64,q66,ax64,q68]
       obtain⟨o78,ho78,hh⟩:=ah hh
       refine aB (fun s t H e=>match s with|(s15g,s16g)=>∃v9g:Nat,∃v10g:Nat,∃v12g:Nat,∃z10g:Bool,t 8=.int .i64 s8ax∧t 9=.buf 9 v9g 1 0 (l9c).length∧t 10=.buf 10 v10g 1 0 (r19).length∧t 11=.int .i64 ((r19).length:Int)∧t 12=.buf 12 v12g 1 0 (l12c).length∧t 13=.int .i64 s13c∧t 15=.int .i64 s15g∧t 16=.int .i64 s16g∧H 9=some ⟨v9g,3,ae (eI .i64) l9c,false,true,false⟩∧H 10=some ⟨v10g,3,ae (eI .i64) r19,z10g,true,false⟩∧H 12=some ⟨v12g,3,ae (eI .i64) l12c,false,true,false⟩) (fun o x t H e=>match o with|s15gx=>x=.exit 4∧∃v9gx:Nat,∃v10gx:Nat,∃v12gx:Nat,∃z10gx:Bool,t 8=.int .i64 s8ax∧t 9=.buf 9 v9gx 1 0 (l9c).length∧t 10=.buf 10 v10gx 1 0 (r19).length∧t 11=.int .i64 ((r19).length:Int)∧t 12=.buf 12 v12gx 1 0 (l12c).length∧t 13=.int .i64 s13c∧t 15=.int .i64 s15gx∧H 9=some ⟨v9gx,3,ae (eI .i64) l9c,false,true,false⟩∧H 10=some ⟨v10gx,3,ae (eI .i64) r19,z10gx,true,false⟩∧H 12=some ⟨v12gx,3,ae (eI .i64) l12c,false,true,false⟩) ho78 ?_ ?_ ?_
       ·refine⟨v9c,v10c,v12c,z10c,?_,?_,?_,?_,?_,?_,?_,?_,?_,?_,?_⟩
        all_goals first|rfl|(simp only[aW,seval,-Int.reduceToNat,hr1,i14,hr15,q17a,q17b,q17c,q17d,i18,hr19,q22a,q22b,q22c,q22d,q22e,Zc,ax60,q62,ax63,ax64,q66,ax64,q68]<;>rfl)
       ·rintro⟨s15g,s16g⟩ t H e ⟨v9g,v10g,v12g,z10g,Zg⟩ c hh
        simp only[qY]at hh
        try simp only[aW,seval,-Int.reduceToNat,hr1,i14,hr15,q17a,q17b,q17c,q17d,i18,hr19,q22a,q22b,q22c,q22d,q22e,ax60,q62,ax63,ax64,q66,ax64,q68,Zg]
        obtain⟨o79,ho79,hh⟩:=ah hh
        refine XB 0 (fun s t H e=>match s with|s137j9=>∃v9j9:Nat,∃v10j9:Nat,∃v12j9:Nat,∃z10j9:Bool,t 8=.int .i64 s8ax∧t 9=.buf 9 v9j9 1 0 (l9c).length∧t 10=.buf 10 v10j9 1 0 (r19).length∧t 11=.int .i64 ((r19).length:Int)∧t 12=.buf 12 v12j9 1 0 (l12c).length∧t 13=.int .i64 s13c∧t 15=.int .i64 s15g∧t 16=.int .i64 s16g∧t 137=.bool s137j9∧H 9=some ⟨v9j9,3,ae (eI .i64) l9c,false,true,false⟩∧H 10=some ⟨v10j9,3,ae (eI .i64) r19,z10j9,true,false⟩∧H 12=some ⟨v12j9,3,ae (eI .i64) l12c,false,true,false⟩) (fun s=>s=o79) ?_ ?_
        ·rintro s137j9 t H e ⟨v9j9,v10j9,v12j9,z10j9,Zj9⟩ rfl
         try dsimp only at hh
         try simp only[aW,seval,-Int.reduceToNat,hr1,i14,hr15,q17a,q17b,q17c,q17d,i18,hr19,q22a,q22b,q22c,q22d,q22e,ax60,q62,ax63,ax64,q66,ax64,q68,Zj9]
         refine sp aq hh (fun _ hh =>?_) (fun _ hh =>?_)
         ·have ax64:=bK (eI .i64) hx64
          simp only[bC]at ax64
          cases hh
          try simp only[aW,seval,-Int.reduceToNat,hr1,i14,hr15,q17a,q17b,q17c,q17d,i18,hr19,q22a,q22b,q22c,q22d,q22e,ax60,q62,ax63,ax64,q66,ax64,q68,Zj9,ax64]
          refine jz ?_
          refine⟨v9j9,v10j9,v12j9,z10j9,?_,?_,?_,?_,?_,?_,?_,?_,?_,?_,?_⟩
          all_goals first|rfl|(simp only[aW,seval,-Int.reduceToNat,hr1,i14,hr15,q17a,q17b,q17c,q17d,i18,hr19,q22a,q22b,q22c,q22d,q22e,ax60,q62,ax63,ax64,q66,ax64,q68,Zj9,ax64]<;>rfl)
         ·cases hh
          try simp only[aW,seval,-Int.reduceToNat,hr1,i14,hr15,q17a,q17b,q17c,q17d,i18,hr19,q22a,q22b,q22c,q22d,q22e,ax60,q62,ax63,ax64,q66,ax64,q68,Zj9]
          refine kK ?_
          refine⟨rfl,⟨v9j9,v10j9,v12j9,z10j9,?_,?_,?_,?_,?_,?_,?_,?_,?_,?_⟩⟩
          all_goals first|rfl|(simp only[aW,seval,-Int.reduceToNat,hr1,i14,hr15,q17a,q17b,q17c,q17d,i18,hr19,q22a,q22b,q22c,q22d,q22e,ax60,q62,ax63,ax64,q66,ax64,q68,Zj9]<;>rfl)
        ·clear hh
         have hh:=ho79
         try simp only[aW,seval,-Int.reduceToNat,hr1,i14,hr15,q17a,q17b,q17c,q17d,i18,hr19,q22a,q22b,q22c,q22d,q22e,ax60,q62,ax63,ax64,q66,ax64,q68,Zg]
         refine sp XA hh (fun _ hh =>?_) (fun _ hh =>?_)
         ·try simp only[aW,seval,-Int.reduceToNat,hr1,i14,hr15,q17a,q17b,q17c,q17d,i18,hr19,q22a,q22b,q22c,q22d,q22e,ax60,q62,ax63,ax64,q66,ax64,q68,Zg]
          refine bn (by kernel_rfl) ?_
          cases hh
          try simp only[aW,seval,-Int.reduceToNat,hr1,i14,hr15,q17a,q17b,q17c,q17d,i18,hr19,q22a,q22b,q22c,q22d,q22e,ax60,q62,ax63,ax64,q66,ax64,q68,Zg]
          rw[au]
          refine⟨_,rfl,?_⟩
          refine⟨v9g,v10g,v12g,z10g,?_,?_,?_,?_,?_,?_,?_,?_,?_,?_,?_,?_⟩
          all_goals first|rfl|(simp only[aW,seval,-Int.reduceToNat,hr1,i14,hr15,q17a,q17b,q17c,q17d,i18,hr19,q22a,q22b,q22c,q22d,q22e,ax60,q62,ax63,ax64,q66,ax64,q68,Zg]<;>rfl)
         ·try simp only[aW,seval,-Int.reduceToNat,hr1,i14,hr15,q17a,q17b,q17c,q17d,i18,hr19,q22a,q22b,q22c,q22d,q22e,ax60,q62,ax63,ax64,q66,ax64,q68,Zg]
          refine sp pR hh (fun _ hh =>?_) (fun _ hh =>?_)
          ·obtain⟨x83,hx83,hh⟩:=ah hh
           have ax83:=bK (eI .i64) hx83
           simp only[bC]at ax83
           obtain⟨x84,hx84,hh⟩:=ah hh
           have q85:=A0 hx84
           obtain⟨x86,hx86,hh⟩:=ah hh
           have ax86:=bK (eI .i64) hx86
           simp only[bC]at ax86
           try simp only[aW,seval,-Int.reduceToNat,hr1,i14,hr15,q17a,q17b,q17c,q17d,i18,hr19,q22a,q22b,q22c,q22d,q22e,ax60,q62,ax63,ax64,q66,ax64,q68,Zg,ax83,q85,ax86]
           refine bn (by kernel_rfl) ?_
           cases hh
           try simp only[aW,seval,-Int.reduceToNat,hr1,i14,hr15,q17a,q17b,q17c,q17d,i18,hr19,q22a,q22b,q22c,q22d,q22e,ax60,q62,ax63,ax64,q66,ax64,q68,Zg,ax83,q85,ax86]
           rw[au]
           refine⟨_,rfl,?_⟩
           refine⟨v9g,v10g,v12g,z10g,?_,?_,?_,?_,?_,?_,?_,?_,?_,?_,?_,?_⟩
           all_goals first|rfl|(simp only[aW,seval,-Int.reduceToNat,hr1,i14,hr15,q17a,q17b,q17c,q17d,i18,hr19,q22a,q22b,q22c,q22d,q22e,ax60,q62,ax63,ax64,q66,ax64,q68,Zg,ax83,q85,ax86]<;>rfl)
          ·try simp only[aW,seval,-Int.reduceToNat,hr1,i14,hr15,q17a,q17b,q17c,q17d,i18,hr19,q22a,q22b,q22c,q22d,q22e,ax60,q62,ax63,ax64,q66,ax64,q68,Zg]
           refine bn (by kernel_rfl) ?_
           cases hh
           try simp only[aW,seval,-Int.reduceToNat,hr1,i14,hr15,q17a,q17b,q17c,q17d,i18,hr19,q22a,q22b,q22c,q22d,q22e,ax60,q62,ax63,ax64,q66,ax64,q68,Zg]
           rw[au]
           refine⟨_,rfl,?_⟩
           refine⟨v9g,v10g,v12g,z10g,?_,?_,?_,?_,?_,?_,?_,?_,?_,?_,?_,?_⟩
           all_goals first|rfl|(simp only[aW,seval,-Int.reduceToNat,hr1,i14,hr15,q17a,q17b,q17c,q17d,i18,hr19,q22a,q22b,q22c,q22d,q22e,ax60,q62,ax63,ax64,q66,ax64,q68,Zg]<;>rfl)
       ·rintro x t H e hx
        obtain⟨s15gx,rfl⟩:∃z,z=o78:=⟨_,rfl⟩
        dsimp only at hx hh
        obtain⟨rfl,⟨v9gx,v10gx,v12gx,z10gx,Zgx⟩⟩:=hx
        obtain⟨x87,hx87,hh⟩:=ah hh
        obtain⟨q88a,q88b,q88c,q88d,q88e⟩:=aaz (eI .i64) hx87
        simp only[bC]at q88e
        have i89:=Dq (ae (eI .i64) (l9c.take (s13c).toNat)) (ae (eI .i64) (l9c.drop (IntKind.i64.wrap ((IntKind.i64.wrap (s13c+((r19).length:Int)))+1)).toNat)) x87 r19 s15gx
        simp only[YM,YN (eI .i64) hx87,YO (eI .i64) hx87,ZO hx87,bC,Int.toNat_zero,ae3,Nat.sub_zero]at i89
        obtain⟨r90,hr90,hh⟩:=ah hh
        have q91l:=yT hr90
        have q91m:=XG hx87 q91l
        obtain⟨x92,hx92,hh⟩:=ah hh
        have ax92:=bK (eI .i64) hx92
        simp only[bC]at ax92
        have p93:=dZ (eI .i64) (x':=r90.2) (fo:=0) (cs:=[.int .i64 r90.2]) hx92 rfl (aeX rfl)
        simp only[bC,Nat.add_zero]at p93
        have up93:=p93
        simp only[putCells,List.length_cons,List.length_nil,ad4,Nat.reduceAdd]at up93
        cases hh
        try simp only[aW,seval,-Int.reduceToNat,hr1,i14,hr15,q17a,q17b,q17c,q17d,i18,hr19,q22a,q22b,q22c,q22d,q22e,ax60,q62,ax63,ax64,q66,ax64,q68,Zgx,q88a,q88b,q88c,q88e,i89,hr90,q91m,ax92,p93,up93]
        refine jz ?_
        refine⟨v9gx,v10gx,v12gx,true,?_,?_,?_,?_,?_,?_,?_,?_,?_⟩
        all_goals first|rfl|(simp only[aW,seval,-Int.reduceToNat,hr1,i14,hr15,q17a,q17b,q17c,q17d,i18,hr19,q22a,q22b,q22c,q22d,q22e,ax60,q62,ax63,ax64,q66,ax64,q68,Zgx,q88a,q88b,q88c,q88e,i89,hr90,q91m,ax92,p93,up93]<;>rfl)
      ·cases hh
       try simp only[aW,seval,-Int.reduceToNat,hr1,i14,hr15,q17a,q17b,q17c,q17d,i18,hr19,q22a,q22b,q22c,q22d,q22e,Zc]
       refine kK ?_
       refine⟨rfl,⟨v9c,v12c,?_,?_,?_,?_,?_⟩⟩
       all_goals first|rfl|(simp only[aW,seval,-Int.reduceToNat,hr1,i14,hr15,q17a,q17b,q17c,q17d,i18,hr19,q22a,q22b,q22c,q22d,q22e,Zc]<;>rfl)
     ·rintro x t H e hx
      rcases o58 with⟨l9cx,l12cx⟩
      dsimp only at hx hh
      obtain⟨rfl,⟨v9cx,v12cx,Zcx⟩⟩:=hx
      obtain⟨r94,hr94,hh⟩:=ah hh
      obtain⟨r95,hr95,hh⟩:=ah hh
      obtain⟨r96,hr96,hh⟩:=ah hh
      cases hh
      try simp only[aW,seval,-Int.reduceToNat,hr1,i14,hr15,q17a,q17b,q17c,q17d,i18,hr19,q22a,q22b,q22c,q22d,q22e,Zcx,hr94,hr95,hr96]
    ·clear hh
     have hh:=ho20
     try simp only[aW,seval,-Int.reduceToNat,hr1,Zax,i14,hr15,q17a,q17b,q17c,q17d,i18,hr19]
     refine sp aq hh (fun _ hh =>?_) (fun _ hh =>?_)
     ·obtain⟨x98,hx98,hh⟩:=ah hh
      obtain⟨q99a,q99b,q99c,q99d⟩:=iS (eI .i64) hx98
      simp only[bC]at q99b
      cases hh
      try simp only[aW,seval,-Int.reduceToNat,hr1,Zax,i14,hr15,q17a,q17b,q17c,q17d,i18,hr19,q99a,q99b,q99c,q99d]
      rw[au]
      refine⟨_,rfl,?_⟩
      refine⟨e+1+1,e,?_,?_,?_,?_,?_⟩
      all_goals first|rfl|(simp only[aW,seval,-Int.reduceToNat,hr1,Zax,i14,hr15,q17a,q17b,q17c,q17d,i18,hr19,q99a,q99b,q99c,q99d]<;>rfl)
     ·cases hh
      try simp only[aW,seval,-Int.reduceToNat,hr1,Zax,i14,hr15,q17a,q17b,q17c,q17d,i18,hr19]
      rw[au]
      refine⟨_,rfl,?_⟩
      refine⟨e,e,?_,?_,?_,?_,?_⟩
      all_goals first|rfl|(simp only[aW,seval,-Int.reduceToNat,hr1,Zax,i14,hr15,q17a,q17b,q17c,q17d,i18,hr19]<;>rfl)
theorem Da:bX Try.prog 83 uq:=bX.of (mode := .clean) tok O9 mixed Try.func83 (by kernel_rfl) ⟨by kernel_rfl,by kernel_rfl⟩ (fun _=>aeX (by kernel_rfl)) (fun x r h=>TU x.1 x.2 r h)
noncomputable def gh:=fR (iO (aI .i64) (fO (nc (eI .i64)))) (fun x:Int×(List Int)=>cm x.1 x.2) (fun r:al =>.clean (.agg [.int .i64 r.ag,.sl false false r.aa.length (ae (eI .i64) r.aa)]))
theorem dB (p0:Int) (p1:(List Int)):gh none [.int .i64 p0,.sl false false p1.length (ae (eI .i64) p1)]=(cm p0 p1).map fun r:al=>(.clean (.agg [.int .i64 r.ag,.sl false false r.aa.length (ae (eI .i64) r.aa)]),none):=aU _ _ _ (p0,p1)
noncomputable def nF:Env:=(Am.ext a7 102 false kh)
theorem Eg:bB Try.prog nF:=(bB.none.add mX false)
theorem sv:type_of% (ai @w<|ai @eZ<|@nF.eq_1):=⟨@w,@eZ,@nF.eq_1⟩
theorem IH (p0:Int) (p1:(List Int)) (r:al) (hh:cm p0 p1=some r):ba .clean tab nF FU Try.f76 none [.int .i64 p0,.sl false false p1.length (ae (eI .i64) p1)]=some (.clean (.agg [.int .i64 r.ag,.sl false false r.aa.length (ae (eI .i64) r.aa)]),none):=by
 refine aC rfl Try.ntmps76 Try.results76 ?_
 unfold cm at hh
 obtain⟨r1,hr1,hh⟩:=ah hh
 try simp only[sv,seval,hr1]
 refine sp aq hh (fun _ hh =>?_) (fun _ hh =>?_)
 ·cases hh
  try simp only[sv,seval,hr1]
 ·cases hh
  try simp only[sv,seval,hr1]
theorem iI:bX Try.prog 76 gh:=bX.of (mode := .clean) tok Eg mixed Try.func76 (by kernel_rfl) ⟨by kernel_rfl,by kernel_rfl⟩ (fun _=>aeX (by kernel_rfl)) (fun x r h=>IH x.1 x.2 r h)
noncomputable def uk:=fR (iO (cN eo) (fO (cN eo))) (fun x:al×al=>nA x.1 x.2) (fun r:al×Int =>.clean (.tup [.agg [.int .i64 r.1.ag,.sl false false r.1.aa.length (ae (eI .i64) r.1.aa)],.int .i64 r.2]))
theorem u6 (p0_0:Int) (p0_1:(List Int)) (p1_0:Int) (p1_1:(List Int)):uk none [.agg [.int .i64 p0_0,.sl false false p0_1.length (ae (eI .i64) p0_1)],.agg [.int .i64 p1_0,.sl false false p1_1.length (ae (eI .i64) p1_1)]]=(nA (al.mk p0_0 p0_1) (al.mk p1_0 p1_1)).map fun r:al×Int=>(.clean (.tup [.agg [.int .i64 r.1.ag,.sl false false r.1.aa.length (ae (eI .i64) r.1.aa)],.int .i64 r.2]),none):=aU _ _ _ ((al.mk p0_0 p0_1),(al.mk p1_0 p1_1))
noncomputable def uK:Env:=(Am.keep 6 (Am.ext (Am.ext (Am.ext (Am.ext (Am.ext a7 50 false eL) 75 false jS) 76 false gh) 82 false gP) 83 false uq))
theorem O4:bB Try.prog uK:=(bB.keep (((((bB.none.add fj false).add oM false).add iI false).add ke false).add Da false) 6)
theorem dL:type_of% (ai @w<|ai @ch<|ai @eH<|ai @dB<|ai @eO<|ai @u9<|@uK.eq_1):=⟨@w,@ch,@eH,@dB,@eO,@u9,@uK.eq_1⟩
theorem TP (p0:al) (p1:al) (r:al×Int) (hh:nA p0 p1=some r):ba .clean tab uK FU Try.f51 none [.agg [.int .i64 p0.ag,.sl false false p0.aa.length (ae (eI .i64) p0.aa)],.agg [.int .i64 p1.ag,.sl false false p1.aa.length (ae (eI .i64) p1.aa)]]=some (.clean (.tup [.agg [.int .i64 r.1.ag,.sl false false r.1.aa.length (ae (eI .i64) r.1.aa)],.int .i64 r.2]),none):=by
 refine aC rfl Try.ntmps51 Try.results51 ?_
 unfold nA at hh
 obtain⟨r1,hr1,hh⟩:=ah hh
 try simp only[dL,seval,hr1]
 obtain⟨o2,ho2,hh⟩:=ah hh
 refine bF 0 (fun s t H e=>match s with|s17j1=>∃v2j1:Nat,∃v3j1:Nat,∃v4j1:Nat,t 2=.ptr 2 v2j1 0∧t 3=.ptr 3 v3j1 0∧t 4=.ptr 4 v4j1 0∧t 17=.bool s17j1∧H 2=some ⟨v2j1,39,[.int .i64 p0.ag,.sl false false p0.aa.length (ae (eI .i64) p0.aa)],false,false,false⟩∧H 3=some ⟨v3j1,39,[.int .i64 p1.ag,.sl false false p1.aa.length (ae (eI .i64) p1.aa)],false,false,false⟩∧H 4=some ⟨v4j1,39,[.int .i64 0,.sl true true 0 []],false,false,false⟩) (fun s=>s=o2) ?_ ?_
 ·rintro s17j1 t H e ⟨v2j1,v3j1,v4j1,Zj1⟩ rfl
  try dsimp only at hh
  try simp only[dL,seval,hr1,Zj1]
  refine sp aq hh (fun _ hh =>?_) (fun _ hh =>?_)
  ·have i4:=eH false 0 ([])
   simp only[aJ,bC,List.length_cons,List.length_nil,ad4,Nat.reduceAdd,aff]at i4
   obtain⟨r5,hr5,hh⟩:=ah hh
   cases hh
   try simp only[dL,seval,hr1,Zj1,i4,hr5]
  ·obtain⟨r6,hr6,hh⟩:=ah hh
   try simp only[dL,seval,hr1,Zj1,hr6]
   refine bn (by kernel_rfl) ?_
   try simp only[dL,seval,hr1,Zj1,hr6]
   obtain⟨o9,ho9,hh⟩:=ah hh
   refine aB (fun s t H e=>match s with|(s6b,s7b)=>∃v4b:Nat,t 4=.ptr 4 v4b 0∧t 6=.sl false false s6b.length (ae (eI .i64) s6b)∧t 7=.sl false false s7b.length (ae (eI .i64) s7b)∧H 4=some ⟨v4b,39,[.int .i64 0,.sl true true 0 []],false,false,false⟩) (fun o x t H e=>match o with|s6bx=>x=.exit 0∧∃v4bx:Nat,t 4=.ptr 4 v4bx 0∧t 6=.sl false false s6bx.length (ae (eI .i64) s6bx)∧H 4=some ⟨v4bx,39,[.int .i64 0,.sl true true 0 []],false,false,false⟩) ho9 ?_ ?_ ?_
   ·refine⟨v4j1,?_,?_,?_,?_⟩
    all_goals first|rfl|(simp only[dL,seval,hr1,Zj1,hr6]<;>rfl)
   ·rintro⟨s6b,s7b⟩ t H e ⟨v4b,Zb⟩ c hh
    simp only[og]at hh
    try simp only[dL,seval,hr1,hr6,Zb]
    refine sp aq hh (fun _ hh =>?_) (fun _ hh =>?_)
    ·obtain⟨r11,hr11,hh⟩:=ah hh
     cases hh
     try simp only[dL,seval,hr1,hr6,Zb,hr11]
     refine jz ?_
     refine⟨v4b,?_,?_,?_,?_⟩
     all_goals first|rfl|(simp only[dL,seval,hr1,hr6,Zb,hr11]<;>rfl)
    ·cases hh
     try simp only[dL,seval,hr1,hr6,Zb]
     refine kK ?_
     refine⟨rfl,⟨v4b,?_,?_,?_⟩⟩
     all_goals first|rfl|(simp only[dL,seval,hr1,hr6,Zb]<;>rfl)
   ·rintro x t H e hx
    obtain⟨s6bx,rfl⟩:∃z,z=o9:=⟨_,rfl⟩
    dsimp only at hx hh
    obtain⟨rfl,⟨v4bx,Zbx⟩⟩:=hx
    obtain⟨r12,hr12,hh⟩:=ah hh
    obtain⟨r13,hr13,hh⟩:=ah hh
    obtain⟨r14,hr14,hh⟩:=ah hh
    cases hh
    try simp only[dL,seval,hr1,hr6,Zbx,hr12,hr13,hr14]
 ·clear hh
  have hh:=ho2
  try simp only[dL,seval,hr1]
  refine sp bc hh (fun _ hh =>?_) (fun _ hh =>?_)
  ·cases hh
   try simp only[dL,seval,hr1]
   rw[au]
   refine⟨_,rfl,?_⟩
   refine⟨0,0,0,?_,?_,?_,?_,?_,?_,?_⟩
   all_goals first|rfl|(simp only[dL,seval,hr1]<;>rfl)
  ·obtain⟨r16,hr16,hh⟩:=ah hh
   cases hh
   try simp only[dL,seval,hr1,hr16]
   rw[au]
   refine⟨_,rfl,?_⟩
   refine⟨0,0,0,?_,?_,?_,?_,?_,?_,?_⟩
   all_goals first|rfl|(simp only[dL,seval,hr1,hr16]<;>rfl)
theorem C7:bX Try.prog 51 uk:=bX.of (mode := .clean) tok O4 mixed Try.func51 (by kernel_rfl) ⟨by kernel_rfl,by kernel_rfl⟩ (fun _=>aeX (by kernel_rfl)) (fun x r h=>TP x.1 x.2 r h)
noncomputable def yv:=fR (fO (cN eo)) (fun x:al=>qT x) (fun r:Int×Bool =>.clean (.tup [.int .i64 r.1,.bool r.2]))
theorem G3 (p0_0:Int) (p0_1:(List Int)):yv none [.agg [.int .i64 p0_0,.sl false false p0_1.length (ae (eI .i64) p0_1)]]=(qT (al.mk p0_0 p0_1)).map fun r:Int×Bool=>(.clean (.tup [.int .i64 r.1,.bool r.2]),none):=aU _ _ _ ((al.mk p0_0 p0_1))
noncomputable def uL:Env:=(Am.ext a7 50 false eL)
theorem O5:bB Try.prog uL:=(bB.none.add fj false)
theorem bh:type_of% (ai @w<|ai @ch<|@uL.eq_1):=⟨@w,@ch,@uL.eq_1⟩
theorem TQ (p0:al) (r:Int×Bool) (hh:qT p0=some r):ba .clean tab uL FU Try.f84 none [.agg [.int .i64 p0.ag,.sl false false p0.aa.length (ae (eI .i64) p0.aa)]]=some (.clean (.tup [.int .i64 r.1,.bool r.2]),none):=by
 refine aC rfl Try.ntmps84 Try.results84 ?_
 unfold qT at hh
 obtain⟨r1,hr1,hh⟩:=ah hh
 try simp only[bh,seval,-Int.reduceToNat,hr1]
 obtain⟨o2,ho2,hh⟩:=ah hh
 refine bF 0 (fun s t H e=>match s with|s15j1=>∃v1j1:Nat,t 1=.ptr 1 v1j1 0∧t 15=.bool s15j1∧H 1=some ⟨v1j1,39,[.int .i64 p0.ag,.sl false false p0.aa.length (ae (eI .i64) p0.aa)],false,false,false⟩) (fun s=>s=o2) ?_ ?_
 ·rintro s15j1 t H e ⟨v1j1,Zj1⟩ rfl
  try dsimp only at hh
  try simp only[bh,seval,-Int.reduceToNat,hr1,Zj1]
  refine sp aq hh (fun _ hh =>?_) (fun _ hh =>?_)
  ·cases hh
   try simp only[bh,seval,-Int.reduceToNat,hr1,Zj1]
  ·try simp only[bh,seval,-Int.reduceToNat,hr1,Zj1]
   obtain⟨o11,ho11,hh⟩:=ah hh
   refine aB (fun s t H e=>match s with|(s4b,s19b)=>∃v1b:Nat,t 1=.ptr 1 v1b 0∧t 4=.int .u64 s4b∧t 17=.sl false false p0.aa.length (ae (eI .i64) p0.aa)∧t 18=.int .i64 (p0.aa.length:Int)∧t 19=.int .i64 s19b∧H 1=some ⟨v1b,39,[.int .i64 p0.ag,.sl false false p0.aa.length (ae (eI .i64) p0.aa)],false,false,false⟩) (fun o x t H e=>match o with|(.inl s4bx)=>x=.exit 0∧∃v1bx:Nat,t 1=.ptr 1 v1bx 0∧t 4=.int .u64 s4bx∧H 1=some ⟨v1bx,39,[.int .i64 p0.ag,.sl false false p0.aa.length (ae (eI .i64) p0.aa)],false,false,false⟩|(.inr r)=>x=.ret∧jd .clean tab none [.tmp 2,.tmp 3] ⟨t,EH H,e⟩=some (.clean (.tup [.int .i64 r.1,.bool r.2]),none)) ho11 ?_ ?_ ?_
   ·refine⟨v1j1,?_,?_,?_,?_,?_,?_⟩
    all_goals first|rfl|(simp only[bh,seval,-Int.reduceToNat,hr1,Zj1]<;>rfl)
   ·rintro⟨s4b,s19b⟩ t H e ⟨v1b,Zb⟩ c hh
    simp only[qU]at hh
    try simp only[bh,seval,-Int.reduceToNat,hr1,Zb]
    refine sp aq hh (fun _ hh =>?_) (fun _ hh =>?_)
    ·obtain⟨x13,hx13,hh⟩:=ah hh
     have ax13:=bK (eI .i64) hx13
     simp only[bC]at ax13
     try simp only[bh,seval,-Int.reduceToNat,hr1,Zb,ax13]
     obtain⟨o14,ho14,hh⟩:=ah hh
     refine bF 0 (fun s t H e=>match s with|s29j4=>∃v1j4:Nat,t 1=.ptr 1 v1j4 0∧t 4=.int .u64 s4b∧t 5=.int .i64 s19b∧t 6=.int .i64 x13∧t 17=.sl false false p0.aa.length (ae (eI .i64) p0.aa)∧t 18=.int .i64 (p0.aa.length:Int)∧t 19=.int .i64 s19b∧t 29=.bool s29j4∧H 1=some ⟨v1j4,39,[.int .i64 p0.ag,.sl false false p0.aa.length (ae (eI .i64) p0.aa)],false,false,false⟩) (fun s=>s=o14) ?_ ?_
     ·rintro s29j4 t H e ⟨v1j4,Zj4⟩ rfl
      try dsimp only at hh
      try simp only[bh,seval,-Int.reduceToNat,hr1,ax13,Zj4]
      refine sp aq hh (fun _ hh =>?_) (fun _ hh =>?_)
      ·cases hh
       try simp only[bh,seval,-Int.reduceToNat,hr1,ax13,Zj4]
       refine IG ⟨rfl,?_⟩
       try simp only[bh,seval,-Int.reduceToNat,hr1,ax13,Zj4]
      ·obtain⟨x16,hx16,hh⟩:=ah hh
       have q17:=A0 hx16
       cases hh
       try simp only[bh,seval,-Int.reduceToNat,hr1,ax13,Zj4,q17]
       refine jz ?_
       refine⟨v1j4,?_,?_,?_,?_,?_,?_⟩
       all_goals first|rfl|(simp only[bh,seval,-Int.reduceToNat,hr1,ax13,Zj4,q17]<;>rfl)
     ·clear hh
      have hh:=ho14
      try simp only[bh,seval,-Int.reduceToNat,hr1,Zb,ax13]
      refine sp ec hh (fun _ hh =>?_) (fun _ hh =>?_)
      ·cases hh
       try simp only[bh,seval,-Int.reduceToNat,hr1,Zb,ax13]
       rw[au]
       refine⟨_,rfl,?_⟩
       refine⟨v1b,?_,?_,?_,?_,?_,?_,?_,?_,?_⟩
       all_goals first|rfl|(simp only[bh,seval,-Int.reduceToNat,hr1,Zb,ax13]<;>rfl)
      ·cases hh
       try simp only[bh,seval,-Int.reduceToNat,hr1,Zb,ax13]
       rw[au]
       refine⟨_,rfl,?_⟩
       refine⟨v1b,?_,?_,?_,?_,?_,?_,?_,?_,?_⟩
       all_goals first|rfl|(simp only[bh,seval,-Int.reduceToNat,hr1,Zb,ax13]<;>rfl)
    ·cases hh
     try simp only[bh,seval,-Int.reduceToNat,hr1,Zb]
     refine kK ?_
     refine⟨rfl,⟨v1b,?_,?_,?_⟩⟩
     all_goals first|rfl|(simp only[bh,seval,-Int.reduceToNat,hr1,Zb]<;>rfl)
   ·rintro x t H e hx
    rcases o11 with s4bx|rb
    ·dsimp only at hx hh
     obtain⟨rfl,⟨v1bx,Zbx⟩⟩:=hx
     try simp only[bh,seval,-Int.reduceToNat,hr1,Zbx]
     obtain⟨o19,ho19,hh⟩:=ah hh
     refine bF 0 (fun s t H e=>match s with|s38j5=>∃v1j5:Nat,t 1=.ptr 1 v1j5 0∧t 4=.int .u64 s4bx∧t 38=.bool s38j5∧H 1=some ⟨v1j5,39,[.int .i64 p0.ag,.sl false false p0.aa.length (ae (eI .i64) p0.aa)],false,false,false⟩) (fun s=>s=o19) ?_ ?_
     ·rintro s38j5 t H e ⟨v1j5,Zj5⟩ rfl
      try dsimp only at hh
      try simp only[bh,seval,-Int.reduceToNat,hr1,Zj5]
      refine sp aq hh (fun _ hh =>?_) (fun _ hh =>?_)
      ·cases hh
       try simp only[bh,seval,-Int.reduceToNat,hr1,Zj5]
      ·try simp only[bh,seval,-Int.reduceToNat,hr1,Zj5]
       refine sp ec hh (fun _ hh =>?_) (fun _ hh =>?_)
       ·try simp only[bh,seval,-Int.reduceToNat,hr1,Zj5]
        refine sp aq hh (fun _ hh =>?_) (fun _ hh =>?_)
        ·cases hh
         try simp only[bh,seval,-Int.reduceToNat,hr1,Zj5]
        ·cases hh
         try simp only[bh,seval,-Int.reduceToNat,hr1,Zj5]
       ·cases hh
        try simp only[bh,seval,-Int.reduceToNat,hr1,Zj5]
     ·clear hh
      have hh:=ho19
      try simp only[bh,seval,-Int.reduceToNat,hr1,Zbx]
      refine sp ec hh (fun _ hh =>?_) (fun _ hh =>?_)
      ·cases hh
       try simp only[bh,seval,-Int.reduceToNat,hr1,Zbx]
       rw[au]
       refine⟨_,rfl,?_⟩
       refine⟨v1bx,?_,?_,?_,?_⟩
       all_goals first|rfl|(simp only[bh,seval,-Int.reduceToNat,hr1,Zbx]<;>rfl)
      ·cases hh
       try simp only[bh,seval,-Int.reduceToNat,hr1,Zbx]
       rw[au]
       refine⟨_,rfl,?_⟩
       refine⟨v1bx,?_,?_,?_,?_⟩
       all_goals first|rfl|(simp only[bh,seval,-Int.reduceToNat,hr1,Zbx]<;>rfl)
    ·dsimp only at hx hh
     obtain⟨rfl,hE⟩:=hx
     cases hh
     try simp only[bO,bE,bV,ey,ew,dm,dn]
     exact hE
 ·clear hh
  have hh:=ho2
  try simp only[bh,seval,-Int.reduceToNat,hr1]
  refine sp bc hh (fun _ hh =>?_) (fun _ hh =>?_)
  ·cases hh
   try simp only[bh,seval,-Int.reduceToNat,hr1]
   rw[au]
   refine⟨_,rfl,?_⟩
   refine⟨0,?_,?_,?_⟩
   all_goals first|rfl|(simp only[bh,seval,-Int.reduceToNat,hr1]<;>rfl)
  ·cases hh
   try simp only[bh,seval,-Int.reduceToNat,hr1]
   rw[au]
   refine⟨_,rfl,?_⟩
   refine⟨0,?_,?_,?_⟩
   all_goals first|rfl|(simp only[bh,seval,-Int.reduceToNat,hr1]<;>rfl)
theorem PT:bX Try.prog 84 yv:=bX.of (mode := .clean) tok O5 mixed Try.func84 (by kernel_rfl) ⟨by kernel_rfl,by kernel_rfl⟩ (fun _=>aeX (by kernel_rfl)) (fun x r h=>TQ x r h)
noncomputable def wh:=fR (fO (cN eo)) (fun x:al=>oG x) (fun r:Bool =>.clean (.bool r))
theorem Du (p0_0:Int) (p0_1:(List Int)):wh none [.agg [.int .i64 p0_0,.sl false false p0_1.length (ae (eI .i64) p0_1)]]=(oG (al.mk p0_0 p0_1)).map fun r:Bool=>(.clean (.bool r),none):=aU _ _ _ ((al.mk p0_0 p0_1))
noncomputable def rB:Env:=(Am.ext a7 84 false yv)
theorem Ll:bB Try.prog rB:=(bB.none.add PT false)
theorem wY:type_of% (ai @w<|ai @G3<|@rB.eq_1):=⟨@w,@G3,@rB.eq_1⟩
theorem Pz (p0:al) (r:Bool) (hh:oG p0=some r):ba .clean tab rB FU Try.f52 none [.agg [.int .i64 p0.ag,.sl false false p0.aa.length (ae (eI .i64) p0.aa)]]=some (.clean (.bool r),none):=by
 refine aC rfl Try.ntmps52 Try.results52 ?_
 unfold oG at hh
 obtain⟨r1,hr1,hh⟩:=ah hh
 try simp only[wY,seval,hr1]
 refine sp ec hh (fun _ hh =>?_) (fun _ hh =>?_)
 ·cases hh
  try simp only[wY,seval,hr1]
 ·cases hh
  try simp only[wY,seval,hr1]
theorem Nd:bX Try.prog 52 wh:=bX.of (mode := .clean) tok Ll mixed Try.func52 (by kernel_rfl) ⟨by kernel_rfl,by kernel_rfl⟩ (fun _=>aeX (by kernel_rfl)) (fun x r h=>Pz x r h)
noncomputable def dU:=fR (fO (cN ay)) (fun x:ak=>b7 x) (fun r:Bool =>.clean (.bool r))
theorem bU (p0_0:Int) (p0_1:(List Int)) (p0_2:Int) (p0_3:(List Int)):dU none [.agg [.int .i64 p0_0,.sl false false p0_1.length (ae (eI .i64) p0_1),.int .i64 p0_2,.sl false false p0_3.length (ae (eI .i64) p0_3)]]=(b7 (ak.mk (al.mk p0_0 p0_1) (al.mk p0_2 p0_3))).map fun r:Bool=>(.clean (.bool r),none):=aU _ _ _ ((ak.mk (al.mk p0_0 p0_1) (al.mk p0_2 p0_3)))
noncomputable def nG:Env:=(Am.ext (Am.ext (Am.ext a7 50 false eL) 51 false uk) 52 false wh)
theorem Eh:bB Try.prog nG:=(((bB.none.add fj false).add C7 false).add Nd false)
theorem cT:type_of% (ai @w<|ai @ch<|ai @u6<|ai @Du<|@nG.eq_1):=⟨@w,@ch,@u6,@Du,@nG.eq_1⟩
theorem IJ (p0:ak) (r:Bool) (hh:b7 p0=some r):ba .clean tab nG FU Try.f22 none [.agg [.int .i64 p0.aL.ag,.sl false false p0.aL.aa.length (ae (eI .i64) p0.aL.aa),.int .i64 p0.aM.ag,.sl false false p0.aM.aa.length (ae (eI .i64) p0.aM.aa)]]=some (.clean (.bool r),none):=by
 refine aC rfl Try.ntmps22 Try.results22 ?_
 unfold b7 at hh
 obtain⟨r1,hr1,hh⟩:=ah hh
 try simp only[cT,seval,hr1]
 obtain⟨o2,ho2,hh⟩:=ah hh
 refine bF 0 (fun s t H e=>match s with|s20j1=>∃v1j1:Nat,t 1=.ptr 1 v1j1 0∧t 20=.bool s20j1∧H 1=some ⟨v1j1,41,[.int .i64 p0.aL.ag,.sl false false p0.aL.aa.length (ae (eI .i64) p0.aL.aa),.int .i64 p0.aM.ag,.sl false false p0.aM.aa.length (ae (eI .i64) p0.aM.aa)],false,false,false⟩) (fun s=>s=o2) ?_ ?_
 ·rintro s20j1 t H e ⟨v1j1,Zj1⟩ rfl
  try dsimp only at hh
  try simp only[cT,seval,hr1,Zj1]
  refine sp aq hh (fun _ hh =>?_) (fun _ hh =>?_)
  ·cases hh
   try simp only[cT,seval,hr1,Zj1]
  ·obtain⟨r4,hr4,hh⟩:=ah hh
   try simp only[cT,seval,hr1,Zj1,hr4]
   refine sp ec hh (fun _ hh =>?_) (fun _ hh =>?_)
   ·obtain⟨r6,hr6,hh⟩:=ah hh
    cases hh
    try simp only[cT,seval,hr1,Zj1,hr4,hr6]
   ·cases hh
    try simp only[cT,seval,hr1,Zj1,hr4]
 ·clear hh
  have hh:=ho2
  try simp only[cT,seval,hr1]
  refine sp bc hh (fun _ hh =>?_) (fun _ hh =>?_)
  ·cases hh
   try simp only[cT,seval,hr1]
   rw[au]
   refine⟨_,rfl,?_⟩
   refine⟨0,?_,?_,?_⟩
   all_goals first|rfl|(simp only[cT,seval,hr1]<;>rfl)
  ·obtain⟨r8,hr8,hh⟩:=ah hh
   try simp only[cT,seval,hr1,hr8]
   refine sp bc hh (fun _ hh =>?_) (fun _ hh =>?_)
   ·cases hh
    try simp only[cT,seval,hr1,hr8]
    rw[au]
    refine⟨_,rfl,?_⟩
    refine⟨0,?_,?_,?_⟩
    all_goals first|rfl|(simp only[cT,seval,hr1,hr8]<;>rfl)
   ·cases hh
    try simp only[cT,seval,hr1,hr8]
    rw[au]
    refine⟨_,rfl,?_⟩
    refine⟨0,?_,?_,?_⟩
    all_goals first|rfl|(simp only[cT,seval,hr1,hr8]<;>rfl)
theorem eG:bX Try.prog 22 dU:=bX.of (mode := .clean) tok Eh mixed Try.func22 (by kernel_rfl) ⟨by kernel_rfl,by kernel_rfl⟩ (fun _=>aeX (by kernel_rfl)) (fun x r h=>IJ x r h)
noncomputable def mH:=fR (fO (cN ay)) (fun x:ak=>iG x) (fun r:Int =>.clean (.int .i64 r))
theorem kO (p0_0:Int) (p0_1:(List Int)) (p0_2:Int) (p0_3:(List Int)):mH none [.agg [.int .i64 p0_0,.sl false false p0_1.length (ae (eI .i64) p0_1),.int .i64 p0_2,.sl false false p0_3.length (ae (eI .i64) p0_3)]]=(iG (ak.mk (al.mk p0_0 p0_1) (al.mk p0_2 p0_3))).map fun r:Int=>(.clean (.int .i64 r),none):=aU _ _ _ ((ak.mk (al.mk p0_0 p0_1) (al.mk p0_2 p0_3)))
noncomputable def pn:Env:=(Am.ext a7 22 false dU)
theorem It:bB Try.prog pn:=(bB.none.add eG false)
theorem uh:type_of% (ai @w<|ai @bU<|@pn.eq_1):=⟨@w,@bU,@pn.eq_1⟩
theorem Mv (p0:ak) (r:Int) (hh:iG p0=some r):ba .clean tab pn FU Try.f20 none [.agg [.int .i64 p0.aL.ag,.sl false false p0.aL.aa.length (ae (eI .i64) p0.aL.aa),.int .i64 p0.aM.ag,.sl false false p0.aM.aa.length (ae (eI .i64) p0.aM.aa)]]=some (.clean (.int .i64 r),none):=by
 refine aC rfl Try.ntmps20 Try.results20 ?_
 unfold iG at hh
 obtain⟨r1,hr1,hh⟩:=ah hh
 try simp only[uh,seval,hr1]
 refine sp aq hh (fun _ hh =>?_) (fun _ hh =>?_)
 ·cases hh
  try simp only[uh,seval,hr1]
 ·cases hh
  try simp only[uh,seval,hr1]
theorem rT:bX Try.prog 20 mH:=bX.of (mode := .clean) tok It mixed Try.func20 (by kernel_rfl) ⟨by kernel_rfl,by kernel_rfl⟩ (fun _=>aeX (by kernel_rfl)) (fun x r h=>Mv x r h)
noncomputable def w6:=fR (fO (nc (eI .i64))) (fun x:(List Int)=>tn x) (fun r:Int =>.clean (.int .i64 r))
theorem qu (p0:(List Int)):w6 none [.sl false false p0.length (ae (eI .i64) p0)]=(tn p0).map fun r:Int=>(.clean (.int .i64 r),none):=aU _ _ _ (p0)
theorem Wg (p0:(List Int)) (r:Int) (hh:tn p0=some r):ba .clean tab a7 FU Try.f65 none [.sl false false p0.length (ae (eI .i64) p0)]=some (.clean (.int .i64 r),none):=by
 refine aC rfl Try.ntmps65 Try.results65 ?_
 unfold tn at hh
 try simp only[w,seval]
 obtain⟨o4,ho4,hh⟩:=ah hh
 refine aB (fun s t H e=>match s with|s8a=>t 3=.int .i64 0∧t 6=.sl false false p0.length (ae (eI .i64) p0)∧t 7=.int .i64 (p0.length:Int)∧t 8=.int .i64 s8a) (fun o x t H e=>match o with|(.inl _)=>x=.exit 0∧t 3=.int .i64 0|(.inr r)=>x=.ret∧jd .clean tab none [.tmp 2] ⟨t,EH H,e⟩=some (.clean (.int .i64 r),none)) ho4 ?_ ?_ ?_
 ·refine⟨?_,?_,?_,?_⟩
  all_goals first|rfl|(simp only[w,seval]<;>rfl)
 ·rintro s8a t H e Za c hh
  simp only[uB]at hh
  try simp only[w,seval,Za]
  refine sp aq hh (fun _ hh =>?_) (fun _ hh =>?_)
  ·obtain⟨x6,hx6,hh⟩:=ah hh
   have ax6:=bK (eI .i64) hx6
   simp only[bC]at ax6
   try simp only[w,seval,Za,ax6]
   refine sp aq hh (fun _ hh =>?_) (fun _ hh =>?_)
   ·cases hh
    try simp only[w,seval,Za,ax6]
    refine IG ⟨rfl,?_⟩
    try simp only[w,seval,Za,ax6]
   ·cases hh
    try simp only[w,seval,Za,ax6]
    refine jz ?_
    refine⟨?_,?_,?_,?_⟩
    all_goals first|rfl|(simp only[w,seval,Za,ax6]<;>rfl)
  ·cases hh
   try simp only[w,seval,Za]
   refine kK ?_
   refine⟨rfl,?_⟩
   all_goals first|rfl|(simp only[w,seval,Za]<;>rfl)
 ·rintro x t H e hx
  rcases o4 with _|ra
  ·dsimp only at hx hh
   obtain⟨rfl,Zax⟩:=hx
   cases hh
   try simp only[w,seval,Zax]
  ·dsimp only at hx hh
   obtain⟨rfl,hE⟩:=hx
   cases hh
   try simp only[bO,bE,bV,ey,ew,dm,dn]
   exact hE
theorem GR:bX Try.prog 65 w6:=bX.of (mode := .clean) tok bB.none mixed Try.func65 (by kernel_rfl) ⟨by kernel_rfl,by kernel_rfl⟩ (fun _=>aeX (by kernel_rfl)) (fun x r h=>Wg x r h)
noncomputable def qI:=fR (iO (cN a8) (fO (cN a8))) (fun x:dr×dr=>ku x.1 x.2) (fun r:Int =>.clean (.int .i64 r))
theorem xT (p0_0:Int) (p0_1:Int) (p0_2:Int) (p0_3:(List Int)) (p0_4:Int) (p0_5:(List Int)) (p1_0:Int) (p1_1:Int) (p1_2:Int) (p1_3:(List Int)) (p1_4:Int) (p1_5:(List Int)):qI none [.agg [.int .i64 p0_0,.int .i64 p0_1,.int .i64 p0_2,.sl false false p0_3.length (ae (eI .i64) p0_3),.int .i64 p0_4,.sl false false p0_5.length (ae (eI .i64) p0_5)],.agg [.int .i64 p1_0,.int .i64 p1_1,.int .i64 p1_2,.sl false false p1_3.length (ae (eI .i64) p1_3),.int .i64 p1_4,.sl false false p1_5.length (ae (eI .i64) p1_5)]]=(ku (dr.mk p0_0 p0_1 (ak.mk (al.mk p0_2 p0_3) (al.mk p0_4 p0_5))) (dr.mk p1_0 p1_1 (ak.mk (al.mk p1_2 p1_3) (al.mk p1_4 p1_5)))).map fun r:Int=>(.clean (.int .i64 r),none):=aU _ _ _ ((dr.mk p0_0 p0_1 (ak.mk (al.mk p0_2 p0_3) (al.mk p0_4 p0_5))),(dr.mk p1_0 p1_1 (ak.mk (al.mk p1_2 p1_3) (al.mk p1_4 p1_5))))
noncomputable def nI:Env:=(Am.ext (Am.ext a7 65 false w6) 66 false iD)
theorem Ej:bB Try.prog nI:=((bB.none.add GR false).add lJ false)
theorem yo:type_of% (ai @w<|ai @qu<|ai @fp<|@nI.eq_1):=⟨@w,@qu,@fp,@nI.eq_1⟩
theorem IL (p0:dr) (p1:dr) (r:Int) (hh:ku p0 p1=some r):ba .clean tab nI FU Try.f35 none [.agg [.int .i64 p0.cY,.int .i64 p0.ko,.int .i64 p0.bg.aL.ag,.sl false false p0.bg.aL.aa.length (ae (eI .i64) p0.bg.aL.aa),.int .i64 p0.bg.aM.ag,.sl false false p0.bg.aM.aa.length (ae (eI .i64) p0.bg.aM.aa)],.agg [.int .i64 p1.cY,.int .i64 p1.ko,.int .i64 p1.bg.aL.ag,.sl false false p1.bg.aL.aa.length (ae (eI .i64) p1.bg.aL.aa),.int .i64 p1.bg.aM.ag,.sl false false p1.bg.aM.aa.length (ae (eI .i64) p1.bg.aM.aa)]]=some (.clean (.int .i64 r),none):=by
 refine aC rfl Try.ntmps35 Try.results35 ?_
 unfold ku at hh
 obtain⟨r1,hr1,hh⟩:=ah hh
 obtain⟨r2,hr2,hh⟩:=ah hh
 have i3:=qu ([r1,r2])
 simp only[aJ,bC,List.length_cons,List.length_nil,ad4,Nat.reduceAdd,aff]at i3
 obtain⟨r4,hr4,hh⟩:=ah hh
 try simp only[yo,seval,hr1,hr2,i3,hr4]
 refine bn (by kernel_rfl) ?_
 cases hh
 try simp only[yo,seval,hr1,hr2,i3,hr4]
theorem Ez:bX Try.prog 35 qI:=bX.of (mode := .clean) tok Ej mixed Try.func35 (by kernel_rfl) ⟨by kernel_rfl,by kernel_rfl⟩ (fun _=>aeX (by kernel_rfl)) (fun x r h=>IL x.1 x.2 r h)
noncomputable def A4:=fR (fO (aI .i64)) (fun x:Int=>s9 x) (fun r:al =>.clean (.agg [.int .i64 r.ag,.sl false false r.aa.length (ae (eI .i64) r.aa)]))
theorem Ns (p0:Int):A4 none [.int .i64 p0]=(s9 p0).map fun r:al=>(.clean (.agg [.int .i64 r.ag,.sl false false r.aa.length (ae (eI .i64) r.aa)]),none):=aU _ _ _ (p0)
noncomputable def xA:Env:=(Am.ext a7 76 false gh)
theorem TC:bB Try.prog xA:=(bB.none.add iI false)
theorem gB:type_of% (ai @w<|ai @dB<|@xA.eq_1):=⟨@w,@dB,@xA.eq_1⟩
theorem Wf (p0:Int) (r:al) (hh:s9 p0=some r):ba .clean tab xA FU Try.f73 none [.int .i64 p0]=some (.clean (.agg [.int .i64 r.ag,.sl false false r.aa.length (ae (eI .i64) r.aa)]),none):=by
 refine aC rfl Try.ntmps73 Try.results73 ?_
 unfold s9 at hh
 try simp only[gB,seval,-Int.reduceToNat]
 obtain⟨o1,ho1,hh⟩:=ah hh
 refine j5 0 (fun s t H e=>match s with|(s3j1,s4j1)=>∃v2j1:Nat,t 2=.ptr 2 v2j1 0∧t 3=.int .i64 s3j1∧t 4=.int .u64 s4j1∧H 2=some ⟨v2j1,39,[.int .i64 0,.sl true true 0 []],false,false,false⟩) (fun s=>s=o1) ?_ ?_
 ·rintro⟨s3j1,s4j1⟩ t H e ⟨v2j1,Zj1⟩ rfl
  try dsimp only at hh
  try simp only[gB,seval,-Int.reduceToNat,Zj1]
  obtain⟨o7,ho7,hh⟩:=ah hh
  refine aB (fun s t H e=>match s with|(s4b,l5b)=>∃v2b:Nat,∃v5b:Nat,t 2=.ptr 2 v2b 0∧t 3=.int .i64 s3j1∧t 4=.int .u64 s4b∧t 5=.buf 5 v5b 1 0 (l5b).length∧H 2=some ⟨v2b,39,[.int .i64 0,.sl true true 0 []],false,false,false⟩∧H 5=some ⟨v5b,3,ae (eI .i64) l5b,false,true,false⟩) (fun o x t H e=>match o with|l5bx=>x=.exit 0∧∃v2bx:Nat,∃v5bx:Nat,t 2=.ptr 2 v2bx 0∧t 3=.int .i64 s3j1∧t 5=.buf 5 v5bx 1 0 (l5bx).length∧H 2=some ⟨v2bx,39,[.int .i64 0,.sl true true 0 []],false,false,false⟩∧H 5=some ⟨v5bx,3,ae (eI .i64) l5bx,false,true,false⟩) ho7 ?_ ?_ ?_
  ·refine⟨v2j1,e,?_,?_,?_,?_,?_,?_⟩
   all_goals first|rfl|(simp only[gB,seval,-Int.reduceToNat,Zj1]<;>rfl)
  ·rintro⟨s4b,l5b⟩ t H e ⟨v2b,v5b,Zb⟩ c hh
   simp only[uy]at hh
   try simp only[gB,seval,-Int.reduceToNat,Zb]
   refine sp aq hh (fun _ hh =>?_) (fun _ hh =>?_)
   ·obtain⟨x9,hx9,hh⟩:=ah hh
    obtain⟨q10a,q10b,q10c,q10d⟩:=iS (eI .i64) hx9
    simp only[bC]at q10b
    obtain⟨x11,hx11,hh⟩:=ah hh
    have q12:=sk hx11
    cases hh
    try simp only[gB,seval,-Int.reduceToNat,Zb,q10a,q10b,q10c,q10d,q12]
    refine jz ?_
    refine⟨v2b,e+1,?_,?_,?_,?_,?_,?_⟩
    all_goals first|rfl|(simp only[gB,seval,-Int.reduceToNat,Zb,q10a,q10b,q10c,q10d,q12]<;>rfl)
   ·cases hh
    try simp only[gB,seval,-Int.reduceToNat,Zb]
    refine kK ?_
    refine⟨rfl,⟨v2b,v5b,?_,?_,?_,?_,?_⟩⟩
    all_goals first|rfl|(simp only[gB,seval,-Int.reduceToNat,Zb]<;>rfl)
  ·rintro x t H e hx
   obtain⟨l5bx,rfl⟩:∃z,z=o7:=⟨_,rfl⟩
   dsimp only at hx hh
   obtain⟨rfl,⟨v2bx,v5bx,Zbx⟩⟩:=hx
   obtain⟨r13,hr13,hh⟩:=ah hh
   cases hh
   try simp only[gB,seval,-Int.reduceToNat,Zbx,hr13]
 ·clear hh
  have hh:=ho1
  try simp only[gB,seval,-Int.reduceToNat]
  refine sp aq hh (fun _ hh =>?_) (fun _ hh =>?_)
  ·cases hh
   try simp only[gB,seval,-Int.reduceToNat]
   rw[au]
   refine⟨_,rfl,?_⟩
   refine⟨0,?_,?_,?_,?_⟩
   all_goals first|rfl|(simp only[gB,seval,-Int.reduceToNat]<;>rfl)
  ·cases hh
   try simp only[gB,seval,-Int.reduceToNat]
   rw[au]
   refine⟨_,rfl,?_⟩
   refine⟨0,?_,?_,?_,?_⟩
   all_goals first|rfl|(simp only[gB,seval,-Int.reduceToNat]<;>rfl)
theorem Ub:bX Try.prog 73 A4:=bX.of (mode := .clean) tok TC mixed Try.func73 (by kernel_rfl) ⟨by kernel_rfl,by kernel_rfl⟩ (fun _=>aeX (by kernel_rfl)) (fun x r h=>Wf x r h)
noncomputable def ki:=fR (fO (aI .i64)) (fun x:Int=>gS x) (fun r:ak =>.clean (.agg [.int .i64 r.aL.ag,.sl false false r.aL.aa.length (ae (eI .i64) r.aL.aa),.int .i64 r.aM.ag,.sl false false r.aM.aa.length (ae (eI .i64) r.aM.aa)]))
theorem gF (p0:Int):ki none [.int .i64 p0]=(gS p0).map fun r:ak=>(.clean (.agg [.int .i64 r.aL.ag,.sl false false r.aL.aa.length (ae (eI .i64) r.aL.aa),.int .i64 r.aM.ag,.sl false false r.aM.aa.length (ae (eI .i64) r.aM.aa)]),none):=aU _ _ _ (p0)
noncomputable def ru:Env:=(Am.ext a7 73 false A4)
theorem Lh:bB Try.prog ru:=(bB.none.add Ub false)
theorem QH:type_of% (ai @w<|ai @Ns<|@ru.eq_1):=⟨@w,@Ns,@ru.eq_1⟩
theorem Pv (p0:Int) (r:ak) (hh:gS p0=some r):ba .clean tab ru FU Try.f44 none [.int .i64 p0]=some (.clean (.agg [.int .i64 r.aL.ag,.sl false false r.aL.aa.length (ae (eI .i64) r.aL.aa),.int .i64 r.aM.ag,.sl false false r.aM.aa.length (ae (eI .i64) r.aM.aa)]),none):=by
 refine aC rfl Try.ntmps44 Try.results44 ?_
 unfold gS at hh
 obtain⟨r1,hr1,hh⟩:=ah hh
 obtain⟨r2,hr2,hh⟩:=ah hh
 cases hh
 try simp only[QH,seval,hr1,hr2]
theorem mY:bX Try.prog 44 ki:=bX.of (mode := .clean) tok Lh mixed Try.func44 (by kernel_rfl) ⟨by kernel_rfl,by kernel_rfl⟩ (fun _=>aeX (by kernel_rfl)) (fun x r h=>Pv x r h)
noncomputable def um:=fR (fO (cN eo)) (fun x:al=>mr x) (fun r:al =>.clean (.agg [.int .i64 r.ag,.sl false false r.aa.length (ae (eI .i64) r.aa)]))
theorem u7 (p0_0:Int) (p0_1:(List Int)):um none [.agg [.int .i64 p0_0,.sl false false p0_1.length (ae (eI .i64) p0_1)]]=(mr (al.mk p0_0 p0_1)).map fun r:al=>(.clean (.agg [.int .i64 r.ag,.sl false false r.aa.length (ae (eI .i64) r.aa)]),none):=aU _ _ _ ((al.mk p0_0 p0_1))
noncomputable def uN:Env:=(Am.ext (Am.ext (Am.ext a7 50 false eL) 76 false gh) 82 false gP)
theorem O7:bB Try.prog uN:=(((bB.none.add fj false).add iI false).add ke false)
theorem vA:type_of% (ai @w<|ai @ch<|ai @dB<|ai @eO<|@uN.eq_1):=⟨@w,@ch,@dB,@eO,@uN.eq_1⟩
theorem TS (p0:al) (r:al) (hh:mr p0=some r):ba .clean tab uN FU Try.f64 none [.agg [.int .i64 p0.ag,.sl false false p0.aa.length (ae (eI .i64) p0.aa)]]=some (.clean (.agg [.int .i64 r.ag,.sl false false r.aa.length (ae (eI .i64) r.aa)]),none):=by
 refine aC rfl Try.ntmps64 Try.results64 ?_
 unfold mr at hh
 obtain⟨r1,hr1,hh⟩:=ah hh
 try simp only[vA,seval,hr1]
 refine sp aq hh (fun _ hh =>?_) (fun _ hh =>?_)
 ·cases hh
  try simp only[vA,seval,hr1]
 ·obtain⟨r3,hr3,hh⟩:=ah hh
  obtain⟨r4,hr4,hh⟩:=ah hh
  try simp only[vA,seval,hr1,hr3,hr4]
  refine bn (by kernel_rfl) ?_
  cases hh
  try simp only[vA,seval,hr1,hr3,hr4]
theorem C8:bX Try.prog 64 um:=bX.of (mode := .clean) tok O7 mixed Try.func64 (by kernel_rfl) ⟨by kernel_rfl,by kernel_rfl⟩ (fun _=>aeX (by kernel_rfl)) (fun x r h=>TS x r h)
noncomputable def yw:=fR (iO (cN eo) (fO (cN eo))) (fun x:al×al=>qV x.1 x.2) (fun r:al×Int =>.clean (.tup [.agg [.int .i64 r.1.ag,.sl false false r.1.aa.length (ae (eI .i64) r.1.aa)],.int .i64 r.2]))
theorem G4 (p0_0:Int) (p0_1:(List Int)) (p1_0:Int) (p1_1:(List Int)):yw none [.agg [.int .i64 p0_0,.sl false false p0_1.length (ae (eI .i64) p0_1)],.agg [.int .i64 p1_0,.sl false false p1_1.length (ae (eI .i64) p1_1)]]=(qV (al.mk p0_0 p0_1) (al.mk p1_0 p1_1)).map fun r:al×Int=>(.clean (.tup [.agg [.int .i64 r.1.ag,.sl false false r.1.aa.length (ae (eI .i64) r.1.aa)],.int .i64 r.2]),none):=aU _ _ _ ((al.mk p0_0 p0_1),(al.mk p1_0 p1_1))
noncomputable def uM:Env:=(Am.ext (Am.ext (Am.ext (Am.ext a7 50 false eL) 75 false jS) 76 false gh) 103 false ur)
theorem O6:bB Try.prog uM:=((((bB.none.add fj false).add oM false).add iI false).add Db false)
theorem iK:type_of% (ai @w<|ai @ch<|ai @eH<|ai @dB<|ai @nY<|@uM.eq_1):=⟨@w,@ch,@eH,@dB,@nY,@uM.eq_1⟩
theorem TR (p0:al) (p1:al) (r:al×Int) (hh:qV p0 p1=some r):ba .clean tab uM FU Try.f80 none [.agg [.int .i64 p0.ag,.sl false false p0.aa.length (ae (eI .i64) p0.aa)],.agg [.int .i64 p1.ag,.sl false false p1.aa.length (ae (eI .i64) p1.aa)]]=some (.clean (.tup [.agg [.int .i64 r.1.ag,.sl false false r.1.aa.length (ae (eI .i64) r.1.aa)],.int .i64 r.2]),none):=by
 refine aC rfl Try.ntmps80 Try.results80 ?_
 unfold qV at hh
 obtain⟨r1,hr1,hh⟩:=ah hh
 try simp only[iK,seval,hr1]
 obtain⟨o2,ho2,hh⟩:=ah hh
 refine bF 0 (fun s t H e=>match s with|s13j1=>∃v2j1:Nat,∃v3j1:Nat,∃v4j1:Nat,t 2=.ptr 2 v2j1 0∧t 3=.ptr 3 v3j1 0∧t 4=.ptr 4 v4j1 0∧t 13=.bool s13j1∧H 2=some ⟨v2j1,39,[.int .i64 p0.ag,.sl false false p0.aa.length (ae (eI .i64) p0.aa)],false,false,false⟩∧H 3=some ⟨v3j1,39,[.int .i64 p1.ag,.sl false false p1.aa.length (ae (eI .i64) p1.aa)],false,false,false⟩∧H 4=some ⟨v4j1,39,[.int .i64 0,.sl true true 0 []],false,false,false⟩) (fun s=>s=o2) ?_ ?_
 ·rintro s13j1 t H e ⟨v2j1,v3j1,v4j1,Zj1⟩ rfl
  try dsimp only at hh
  try simp only[iK,seval,hr1,Zj1]
  refine sp aq hh (fun _ hh =>?_) (fun _ hh =>?_)
  ·have i4:=eH false 0 ([])
   simp only[aJ,bC,List.length_cons,List.length_nil,ad4,Nat.reduceAdd,aff]at i4
   obtain⟨r5,hr5,hh⟩:=ah hh
   cases hh
   try simp only[iK,seval,hr1,Zj1,i4,hr5]
  ·obtain⟨r6,hr6,hh⟩:=ah hh
   obtain⟨r7,hr7,hh⟩:=ah hh
   obtain⟨r8,hr8,hh⟩:=ah hh
   try simp only[iK,seval,hr1,Zj1,hr6,hr7,hr8]
   refine bn (by kernel_rfl) ?_
   cases hh
   try simp only[iK,seval,hr1,Zj1,hr6,hr7,hr8]
 ·clear hh
  have hh:=ho2
  try simp only[iK,seval,hr1]
  refine sp bc hh (fun _ hh =>?_) (fun _ hh =>?_)
  ·cases hh
   try simp only[iK,seval,hr1]
   rw[au]
   refine⟨_,rfl,?_⟩
   refine⟨0,0,0,?_,?_,?_,?_,?_,?_,?_⟩
   all_goals first|rfl|(simp only[iK,seval,hr1]<;>rfl)
  ·obtain⟨r10,hr10,hh⟩:=ah hh
   cases hh
   try simp only[iK,seval,hr1,hr10]
   rw[au]
   refine⟨_,rfl,?_⟩
   refine⟨0,0,0,?_,?_,?_,?_,?_,?_,?_⟩
   all_goals first|rfl|(simp only[iK,seval,hr1,hr10]<;>rfl)
theorem PU:bX Try.prog 80 yw:=bX.of (mode := .clean) tok O6 mixed Try.func80 (by kernel_rfl) ⟨by kernel_rfl,by kernel_rfl⟩ (fun _=>aeX (by kernel_rfl)) (fun x r h=>TR x.1 x.2 r h)
noncomputable def jt:=fR (iO (cN eo) (fO (cN eo))) (fun x:al×al=>b8 x.1 x.2) (fun r:al =>.clean (.agg [.int .i64 r.ag,.sl false false r.aa.length (ae (eI .i64) r.aa)]))
theorem gu (p0_0:Int) (p0_1:(List Int)) (p1_0:Int) (p1_1:(List Int)):jt none [.agg [.int .i64 p0_0,.sl false false p0_1.length (ae (eI .i64) p0_1)],.agg [.int .i64 p1_0,.sl false false p1_1.length (ae (eI .i64) p1_1)]]=(b8 (al.mk p0_0 p0_1) (al.mk p1_0 p1_1)).map fun r:al=>(.clean (.agg [.int .i64 r.ag,.sl false false r.aa.length (ae (eI .i64) r.aa)]),none):=aU _ _ _ ((al.mk p0_0 p0_1),(al.mk p1_0 p1_1))
noncomputable def nH:Env:=(Am.ext a7 80 false yw)
theorem Ei:bB Try.prog nH:=(bB.none.add PU false)
theorem Jw:type_of% (ai @w<|ai @G4<|@nH.eq_1):=⟨@w,@G4,@nH.eq_1⟩
theorem IK (p0:al) (p1:al) (r:al) (hh:b8 p0 p1=some r):ba .clean tab nH FU Try.f48 none [.agg [.int .i64 p0.ag,.sl false false p0.aa.length (ae (eI .i64) p0.aa)],.agg [.int .i64 p1.ag,.sl false false p1.aa.length (ae (eI .i64) p1.aa)]]=some (.clean (.agg [.int .i64 r.ag,.sl false false r.aa.length (ae (eI .i64) r.aa)]),none):=by
 refine aC rfl Try.ntmps48 Try.results48 ?_
 unfold b8 at hh
 obtain⟨r1,hr1,hh⟩:=ah hh
 cases hh
 try simp only[Jw,seval,hr1]
theorem mD:bX Try.prog 48 jt:=bX.of (mode := .clean) tok Ei mixed Try.func48 (by kernel_rfl) ⟨by kernel_rfl,by kernel_rfl⟩ (fun _=>aeX (by kernel_rfl)) (fun x r h=>IK x.1 x.2 r h)
noncomputable def uo:=fR (iO (nc (eI .i64)) (fO (nc (eI .i64)))) (fun x:(List Int)×(List Int)=>pb x.1 x.2) (fun r:(List Int) =>.clean (.sl false false r.length (ae (eI .i64) r)))
theorem qt (p0:(List Int)) (p1:(List Int)):uo none [.sl false false p0.length (ae (eI .i64) p0),.sl false false p1.length (ae (eI .i64) p1)]=(pb p0 p1).map fun r:(List Int)=>(.clean (.sl false false r.length (ae (eI .i64) r)),none):=aU _ _ _ (p0,p1)
noncomputable def uO:Env:=(Am.ext a7 102 false kh)
theorem O8:bB Try.prog uO:=(bB.none.add mX false)
theorem cW:type_of% (ai @w<|ai @eZ<|@uO.eq_1):=⟨@w,@eZ,@uO.eq_1⟩
theorem TT (p0:(List Int)) (p1:(List Int)) (r:(List Int)) (hh:pb p0 p1=some r):ba .clean tab uO FU Try.f77 none [.sl false false p0.length (ae (eI .i64) p0),.sl false false p1.length (ae (eI .i64) p1)]=some (.clean (.sl false false r.length (ae (eI .i64) r)),none):=by
 refine aC rfl Try.ntmps77 Try.results77 ?_
 unfold pb at hh
 try simp only[cW,seval,-Int.reduceToNat]
 obtain⟨o1,ho1,hh⟩:=ah hh
 refine j5 0 (fun s t H e=>match s with|(s0j1,s1j1)=>t 0=.sl false false s0j1.length (ae (eI .i64) s0j1)∧t 1=.sl false false s1j1.length (ae (eI .i64) s1j1)) (fun s=>s=o1) ?_ ?_
 ·rintro⟨s0j1,s1j1⟩ t H e Zj1 rfl
  try dsimp only at hh
  obtain⟨x2,hx2,hh⟩:=ah hh
  obtain⟨q3a,q3b,q3c,q3d,q3e⟩:=mk_one (eI .i64) hx2
  simp only[bC]at q3d
  try simp only[cW,seval,-Int.reduceToNat,Zj1,q3a,q3b,q3c,q3d,q3e]
  obtain⟨o13,ho13,hh⟩:=ah hh
  refine aB (fun s t H e=>match s with|(s6b,s22b,l5b)=>∃v5b:Nat,t 0=.sl false false s0j1.length (ae (eI .i64) s0j1)∧t 1=.sl false false s1j1.length (ae (eI .i64) s1j1)∧t 5=.buf 5 v5b 1 0 (l5b).length∧t 6=.int .i64 s6b∧t 20=.sl false false s0j1.length (ae (eI .i64) s0j1)∧t 21=.int .i64 (s0j1.length:Int)∧t 22=.int .i64 s22b∧H 5=some ⟨v5b,3,ae (eI .i64) l5b,false,true,false⟩) (fun o x t H e=>match o with|(s6bx,l5bx)=>x=.exit 0∧∃v5bx:Nat,t 0=.sl false false s0j1.length (ae (eI .i64) s0j1)∧t 5=.buf 5 v5bx 1 0 (l5bx).length∧t 6=.int .i64 s6bx∧H 5=some ⟨v5bx,3,ae (eI .i64) l5bx,false,true,false⟩) ho13 ?_ ?_ ?_
  ·refine⟨e,?_,?_,?_,?_,?_,?_,?_,?_⟩
   all_goals first|rfl|(simp only[cW,seval,-Int.reduceToNat,Zj1,q3a,q3b,q3c,q3d,q3e]<;>rfl)
  ·rintro⟨s6b,s22b,l5b⟩ t H e ⟨v5b,Zb⟩ c hh
   simp only[oh]at hh
   try simp only[cW,seval,-Int.reduceToNat,q3a,q3b,q3c,q3d,q3e,Zb]
   refine sp aq hh (fun _ hh =>?_) (fun _ hh =>?_)
   ·obtain⟨x15,hx15,hh⟩:=ah hh
    have ax15:=bK (eI .i64) hx15
    simp only[bC]at ax15
    try simp only[cW,seval,-Int.reduceToNat,q3a,q3b,q3c,q3d,q3e,Zb,ax15]
    obtain⟨o16,ho16,hh⟩:=ah hh
    refine j5 0 (fun s t H e=>match s with|s6j4=>∃v5j4:Nat,t 0=.sl false false s0j1.length (ae (eI .i64) s0j1)∧t 1=.sl false false s1j1.length (ae (eI .i64) s1j1)∧t 5=.buf 5 v5j4 1 0 (l5b).length∧t 6=.int .i64 s6j4∧t 7=.int .i64 s22b∧t 20=.sl false false s0j1.length (ae (eI .i64) s0j1)∧t 21=.int .i64 (s0j1.length:Int)∧t 22=.int .i64 s22b∧H 5=some ⟨v5j4,3,ae (eI .i64) l5b,false,true,false⟩) (fun s=>s=o16) ?_ ?_
    ·rintro s6j4 t H e ⟨v5j4,Zj4⟩ rfl
     try dsimp only at hh
     obtain⟨x17,hx17,hh⟩:=ah hh
     have ax17:=bK (eI .i64) hx17
     simp only[bC]at ax17
     have p18:=dZ (eI .i64) (x':=jV .and .i64 s6j4 1048575) (fo:=0) (cs:=[.int .i64 (jV .and .i64 s6j4 1048575)]) hx17 rfl (aeX rfl)
     simp only[bC,Nat.add_zero]at p18
     have up18:=p18
     simp only[putCells,List.length_cons,List.length_nil,ad4,Nat.reduceAdd]at up18
     obtain⟨x19,hx19,hh⟩:=ah hh
     have q20:=sk hx19
     cases hh
     try simp only[cW,seval,-Int.reduceToNat,q3a,q3b,q3c,q3d,q3e,ax15,Zj4,ax17,p18,up18,q20]
     refine jz ?_
     refine⟨v5j4,?_,?_,?_,?_,?_,?_,?_,?_⟩
     all_goals first|rfl|(simp only[cW,seval,-Int.reduceToNat,q3a,q3b,q3c,q3d,q3e,ax15,Zj4,ax17,p18,up18,q20]<;>rfl)
    ·clear hh
     have hh:=ho16
     try simp only[cW,seval,-Int.reduceToNat,q3a,q3b,q3c,q3d,q3e,Zb,ax15]
     refine sp aq hh (fun _ hh =>?_) (fun _ hh =>?_)
     ·obtain⟨x22,hx22,hh⟩:=ah hh
      have ax22:=bK (eI .i64) hx22
      simp only[bC]at ax22
      cases hh
      try simp only[cW,seval,-Int.reduceToNat,q3a,q3b,q3c,q3d,q3e,Zb,ax15,ax22]
      rw[au]
      refine⟨_,rfl,?_⟩
      refine⟨v5b,?_,?_,?_,?_,?_,?_,?_,?_,?_⟩
      all_goals first|rfl|(simp only[cW,seval,-Int.reduceToNat,q3a,q3b,q3c,q3d,q3e,Zb,ax15,ax22]<;>rfl)
     ·cases hh
      try simp only[cW,seval,-Int.reduceToNat,q3a,q3b,q3c,q3d,q3e,Zb,ax15]
      rw[au]
      refine⟨_,rfl,?_⟩
      refine⟨v5b,?_,?_,?_,?_,?_,?_,?_,?_,?_⟩
      all_goals first|rfl|(simp only[cW,seval,-Int.reduceToNat,q3a,q3b,q3c,q3d,q3e,Zb,ax15]<;>rfl)
   ·cases hh
    try simp only[cW,seval,-Int.reduceToNat,q3a,q3b,q3c,q3d,q3e,Zb]
    refine kK ?_
    refine⟨rfl,⟨v5b,?_,?_,?_,?_⟩⟩
    all_goals first|rfl|(simp only[cW,seval,-Int.reduceToNat,q3a,q3b,q3c,q3d,q3e,Zb]<;>rfl)
  ·rintro x t H e hx
   rcases o13 with⟨s6bx,l5bx⟩
   dsimp only at hx hh
   obtain⟨rfl,⟨v5bx,Zbx⟩⟩:=hx
   obtain⟨x23,hx23,hh⟩:=ah hh
   have ax23:=bK (eI .i64) hx23
   simp only[bC]at ax23
   have p24:=dZ (eI .i64) (x':=s6bx) (fo:=0) (cs:=[.int .i64 s6bx]) hx23 rfl (aeX rfl)
   simp only[bC,Nat.add_zero]at p24
   have up24:=p24
   simp only[putCells,List.length_cons,List.length_nil,ad4,Nat.reduceAdd]at up24
   have i25:=eZ (l5bx.set ((s0j1.length:Int)).toNat s6bx)
   simp only[aJ,bC,List.length_cons,List.length_nil,ad4,Nat.reduceAdd,aff]at i25
   obtain⟨r26,hr26,hh⟩:=ah hh
   cases hh
   try simp only[cW,seval,-Int.reduceToNat,q3a,q3b,q3c,q3d,q3e,Zbx,ax23,p24,up24,i25,hr26]
 ·clear hh
  have hh:=ho1
  try simp only[cW,seval,-Int.reduceToNat]
  refine sp aq hh (fun _ hh =>?_) (fun _ hh =>?_)
  ·cases hh
   try simp only[cW,seval,-Int.reduceToNat]
   rw[au]
   refine⟨_,rfl,?_⟩
   refine⟨?_,?_⟩
   all_goals first|rfl|(simp only[cW,seval,-Int.reduceToNat]<;>rfl)
  ·cases hh
   try simp only[cW,seval,-Int.reduceToNat]
   rw[au]
   refine⟨_,rfl,?_⟩
   refine⟨?_,?_⟩
   all_goals first|rfl|(simp only[cW,seval,-Int.reduceToNat]<;>rfl)
theorem C9:bX Try.prog 77 uo:=bX.of (mode := .clean) tok O8 mixed Try.func77 (by kernel_rfl) ⟨by kernel_rfl,by kernel_rfl⟩ (fun _=>aeX (by kernel_rfl)) (fun x r h=>TT x.1 x.2 r h)
noncomputable def uu:=fR (iO (nc (eI .i64)) (fO (nc (eI .i64)))) (fun x:(List Int)×(List Int)=>nE x.1 x.2) (fun r:(List Int) =>.clean (.sl false false r.length (ae (eI .i64) r)))
theorem va (p0:(List Int)) (p1:(List Int)):uu none [.sl false false p0.length (ae (eI .i64) p0),.sl false false p1.length (ae (eI .i64) p1)]=(nE p0 p1).map fun r:(List Int)=>(.clean (.sl false false r.length (ae (eI .i64) r)),none):=aU _ _ _ (p0,p1)
noncomputable def uR:Env:=(Am.ext (Am.ext a7 82 false gP) 102 false kh)
theorem Pc:bB Try.prog uR:=((bB.none.add ke false).add mX false)
theorem eU:type_of% (ai @w<|ai @eO<|ai @eZ<|@uR.eq_1):=⟨@w,@eO,@eZ,@uR.eq_1⟩
theorem TW (p0:(List Int)) (p1:(List Int)) (r:(List Int)) (hh:nE p0 p1=some r):ba .clean tab uR FU Try.f79 none [.sl false false p0.length (ae (eI .i64) p0),.sl false false p1.length (ae (eI .i64) p1)]=some (.clean (.sl false false r.length (ae (eI .i64) r)),none):=by
 refine aC rfl Try.ntmps79 Try.results79 ?_
 unfold nE at hh
 obtain⟨r1,hr1,hh⟩:=ah hh
 try simp only[eU,seval,-Int.reduceToNat,hr1]
 obtain⟨o10,ho10,hh⟩:=ah hh
 refine aB (fun s t H e=>match s with|(s6a,s13a,l5a)=>∃v5a:Nat,t 1=.sl false false p1.length (ae (eI .i64) p1)∧t 5=.buf 5 v5a 1 0 (l5a).length∧t 6=.int .i64 s6a∧t 12=.int .i64 ((r1).length:Int)∧t 13=.int .i64 s13a∧H 5=some ⟨v5a,3,ae (eI .i64) l5a,false,true,false⟩) (fun o x t H e=>match o with|l5ax=>x=.exit 0∧∃v5ax:Nat,t 5=.buf 5 v5ax 1 0 (l5ax).length∧H 5=some ⟨v5ax,3,ae (eI .i64) l5ax,false,true,false⟩) ho10 ?_ ?_ ?_
 ·refine⟨1,?_,?_,?_,?_,?_,?_⟩
  all_goals first|rfl|(simp only[eU,seval,-Int.reduceToNat,hr1]<;>rfl)
 ·rintro⟨s6a,s13a,l5a⟩ t H e ⟨v5a,Za⟩ c hh
  simp only[q9]at hh
  try simp only[eU,seval,-Int.reduceToNat,hr1,Za]
  refine sp aq hh (fun _ hh =>?_) (fun _ hh =>?_)
  ·obtain⟨x12,hx12,hh⟩:=ah hh
   have ax12:=bK (eI .i64) hx12
   simp only[bC]at ax12
   try simp only[eU,seval,-Int.reduceToNat,hr1,Za,ax12]
   obtain⟨o13,ho13,hh⟩:=ah hh
   refine j5 0 (fun s t H e=>match s with|s8j3=>∃v5j3:Nat,t 1=.sl false false p1.length (ae (eI .i64) p1)∧t 5=.buf 5 v5j3 1 0 (l5a).length∧t 7=.int .i64 s13a∧t 8=.int .i64 s8j3∧t 12=.int .i64 ((r1).length:Int)∧t 13=.int .i64 s13a∧H 5=some ⟨v5j3,3,ae (eI .i64) l5a,false,true,false⟩) (fun s=>s=o13) ?_ ?_
   ·rintro s8j3 t H e ⟨v5j3,Zj3⟩ rfl
    try dsimp only at hh
    obtain⟨x14,hx14,hh⟩:=ah hh
    have q15:=sk hx14
    have ax12:=bK (eI .i64) hx12
    simp only[bC]at ax12
    have p16:=dZ (eI .i64) (x':=jV .and .i64 s8j3 1048575) (fo:=0) (cs:=[.int .i64 (jV .and .i64 s8j3 1048575)]) hx12 rfl (aeX rfl)
    simp only[bC,Nat.add_zero]at p16
    have up16:=p16
    simp only[putCells,List.length_cons,List.length_nil,ad4,Nat.reduceAdd]at up16
    cases hh
    try simp only[eU,seval,-Int.reduceToNat,hr1,ax12,Zj3,q15,ax12,p16,up16]
    refine jz ?_
    refine⟨v5j3,?_,?_,?_,?_,?_,?_⟩
    all_goals first|rfl|(simp only[eU,seval,-Int.reduceToNat,hr1,ax12,Zj3,q15,ax12,p16,up16]<;>rfl)
   ·clear hh
    have hh:=ho13
    try simp only[eU,seval,-Int.reduceToNat,hr1,Za,ax12]
    refine sp aq hh (fun _ hh =>?_) (fun _ hh =>?_)
    ·obtain⟨x18,hx18,hh⟩:=ah hh
     have ax18:=bK (eI .i64) hx18
     simp only[bC]at ax18
     cases hh
     try simp only[eU,seval,-Int.reduceToNat,hr1,Za,ax12,ax18]
     rw[au]
     refine⟨_,rfl,?_⟩
     refine⟨v5a,?_,?_,?_,?_,?_,?_,?_⟩
     all_goals first|rfl|(simp only[eU,seval,-Int.reduceToNat,hr1,Za,ax12,ax18]<;>rfl)
    ·cases hh
     try simp only[eU,seval,-Int.reduceToNat,hr1,Za,ax12]
     rw[au]
     refine⟨_,rfl,?_⟩
     refine⟨v5a,?_,?_,?_,?_,?_,?_,?_⟩
     all_goals first|rfl|(simp only[eU,seval,-Int.reduceToNat,hr1,Za,ax12]<;>rfl)
  ·cases hh
   try simp only[eU,seval,-Int.reduceToNat,hr1,Za]
   refine kK ?_
   refine⟨rfl,⟨v5a,?_,?_⟩⟩
   all_goals first|rfl|(simp only[eU,seval,-Int.reduceToNat,hr1,Za]<;>rfl)
 ·rintro x t H e hx
  obtain⟨l5ax,rfl⟩:∃z,z=o10:=⟨_,rfl⟩
  dsimp only at hx hh
  obtain⟨rfl,⟨v5ax,Zax⟩⟩:=hx
  obtain⟨r19,hr19,hh⟩:=ah hh
  cases hh
  try simp only[eU,seval,-Int.reduceToNat,hr1,Zax,hr19]
theorem Dc:bX Try.prog 79 uu:=bX.of (mode := .clean) tok Pc mixed Try.func79 (by kernel_rfl) ⟨by kernel_rfl,by kernel_rfl⟩ (fun _=>aeX (by kernel_rfl)) (fun x r h=>TW x.1 x.2 r h)
noncomputable def yt:=fR (iO (cN eo) (fO (cN eo))) (fun x:al×al=>qS x.1 x.2) (fun r:al×Int =>.clean (.tup [.agg [.int .i64 r.1.ag,.sl false false r.1.aa.length (ae (eI .i64) r.1.aa)],.int .i64 r.2]))
theorem G1 (p0_0:Int) (p0_1:(List Int)) (p1_0:Int) (p1_1:(List Int)):yt none [.agg [.int .i64 p0_0,.sl false false p0_1.length (ae (eI .i64) p0_1)],.agg [.int .i64 p1_0,.sl false false p1_1.length (ae (eI .i64) p1_1)]]=(qS (al.mk p0_0 p0_1) (al.mk p1_0 p1_1)).map fun r:al×Int=>(.clean (.tup [.agg [.int .i64 r.1.ag,.sl false false r.1.aa.length (ae (eI .i64) r.1.aa)],.int .i64 r.2]),none):=aU _ _ _ ((al.mk p0_0 p0_1),(al.mk p1_0 p1_1))
noncomputable def uI:Env:=(Am.ext (Am.ext (Am.ext (Am.ext (Am.ext (Am.ext (Am.ext a7 50 false eL) 65 false w6) 75 false jS) 76 false gh) 77 false uo) 78 false jT) 79 false uu)
theorem O2:bB Try.prog uI:=(((((((bB.none.add fj false).add GR false).add oM false).add iI false).add C9 false).add oN false).add Dc false)
theorem eg:type_of% (ai @w<|ai @ch<|ai @qu<|ai @eH<|ai @dB<|ai @qt<|ai @iJ<|ai @va<|@uI.eq_1):=⟨@w,@ch,@qu,@eH,@dB,@qt,@iJ,@va,@uI.eq_1⟩
theorem TN (p0:al) (p1:al) (r:al×Int) (hh:qS p0 p1=some r):ba .clean tab uI FU Try.f47 none [.agg [.int .i64 p0.ag,.sl false false p0.aa.length (ae (eI .i64) p0.aa)],.agg [.int .i64 p1.ag,.sl false false p1.aa.length (ae (eI .i64) p1.aa)]]=some (.clean (.tup [.agg [.int .i64 r.1.ag,.sl false false r.1.aa.length (ae (eI .i64) r.1.aa)],.int .i64 r.2]),none):=by
 refine aC rfl Try.ntmps47 Try.results47 ?_
 unfold qS at hh
 obtain⟨r1,hr1,hh⟩:=ah hh
 try simp only[eg,seval,hr1]
 obtain⟨o2,ho2,hh⟩:=ah hh
 refine bF 0 (fun s t H e=>match s with|s13j1=>∃v2j1:Nat,∃v3j1:Nat,∃v4j1:Nat,t 2=.ptr 2 v2j1 0∧t 3=.ptr 3 v3j1 0∧t 4=.ptr 4 v4j1 0∧t 13=.bool s13j1∧H 2=some ⟨v2j1,39,[.int .i64 p0.ag,.sl false false p0.aa.length (ae (eI .i64) p0.aa)],false,false,false⟩∧H 3=some ⟨v3j1,39,[.int .i64 p1.ag,.sl false false p1.aa.length (ae (eI .i64) p1.aa)],false,false,false⟩∧H 4=some ⟨v4j1,39,[.int .i64 0,.sl true true 0 []],false,false,false⟩) (fun s=>s=o2) ?_ ?_
 ·rintro s13j1 t H e ⟨v2j1,v3j1,v4j1,Zj1⟩ rfl
  try dsimp only at hh
  try simp only[eg,seval,hr1,Zj1]
  refine sp aq hh (fun _ hh =>?_) (fun _ hh =>?_)
  ·have i4:=eH false 0 ([])
   simp only[aJ,bC,List.length_cons,List.length_nil,ad4,Nat.reduceAdd,aff]at i4
   obtain⟨r5,hr5,hh⟩:=ah hh
   cases hh
   try simp only[eg,seval,hr1,Zj1,i4,hr5]
  ·try simp only[eg,seval,hr1,Zj1]
   refine sp aq hh (fun _ hh =>?_) (fun _ hh =>?_)
   ·have i7:=qu ([p0.ag,p1.ag])
    simp only[aJ,bC,List.length_cons,List.length_nil,ad4,Nat.reduceAdd,aff]at i7
    obtain⟨r8,hr8,hh⟩:=ah hh
    obtain⟨r9,hr9,hh⟩:=ah hh
    obtain⟨r10,hr10,hh⟩:=ah hh
    obtain⟨r11,hr11,hh⟩:=ah hh
    try simp only[eg,seval,hr1,Zj1,i7,hr8,hr9,hr10,hr11]
    refine bn (by kernel_rfl) ?_
    cases hh
    try simp only[eg,seval,hr1,Zj1,i7,hr8,hr9,hr10,hr11]
   ·obtain⟨r12,hr12,hh⟩:=ah hh
    try simp only[eg,seval,hr1,Zj1,hr12]
    refine sp aq hh (fun _ hh =>?_) (fun _ hh =>?_)
    ·obtain⟨r14,hr14,hh⟩:=ah hh
     obtain⟨r15,hr15,hh⟩:=ah hh
     obtain⟨r16,hr16,hh⟩:=ah hh
     try simp only[eg,seval,hr1,Zj1,hr12,hr14,hr15,hr16]
     refine bn (by kernel_rfl) ?_
     cases hh
     try simp only[eg,seval,hr1,Zj1,hr12,hr14,hr15,hr16]
    ·obtain⟨r17,hr17,hh⟩:=ah hh
     obtain⟨r18,hr18,hh⟩:=ah hh
     obtain⟨r19,hr19,hh⟩:=ah hh
     try simp only[eg,seval,hr1,Zj1,hr12,hr17,hr18,hr19]
     refine bn (by kernel_rfl) ?_
     cases hh
     try simp only[eg,seval,hr1,Zj1,hr12,hr17,hr18,hr19]
 ·clear hh
  have hh:=ho2
  try simp only[eg,seval,hr1]
  refine sp bc hh (fun _ hh =>?_) (fun _ hh =>?_)
  ·cases hh
   try simp only[eg,seval,hr1]
   rw[au]
   refine⟨_,rfl,?_⟩
   refine⟨0,0,0,?_,?_,?_,?_,?_,?_,?_⟩
   all_goals first|rfl|(simp only[eg,seval,hr1]<;>rfl)
  ·obtain⟨r21,hr21,hh⟩:=ah hh
   cases hh
   try simp only[eg,seval,hr1,hr21]
   rw[au]
   refine⟨_,rfl,?_⟩
   refine⟨0,0,0,?_,?_,?_,?_,?_,?_,?_⟩
   all_goals first|rfl|(simp only[eg,seval,hr1,hr21]<;>rfl)
theorem PR:bX Try.prog 47 yt:=bX.of (mode := .clean) tok O2 mixed Try.func47 (by kernel_rfl) ⟨by kernel_rfl,by kernel_rfl⟩ (fun _=>aeX (by kernel_rfl)) (fun x r h=>TN x.1 x.2 r h)
noncomputable def yu:=fR (iO (cN eo) (fO (cN eo))) (fun x:al×al=>mq x.1 x.2) (fun r:al×al×Int =>.clean (.tup [.agg [.int .i64 r.1.ag,.sl false false r.1.aa.length (ae (eI .i64) r.1.aa)],.agg [.int .i64 r.2.1.ag,.sl false false r.2.1.aa.length (ae (eI .i64) r.2.1.aa)],.int .i64 r.2.2]))
theorem G2 (p0_0:Int) (p0_1:(List Int)) (p1_0:Int) (p1_1:(List Int)):yu none [.agg [.int .i64 p0_0,.sl false false p0_1.length (ae (eI .i64) p0_1)],.agg [.int .i64 p1_0,.sl false false p1_1.length (ae (eI .i64) p1_1)]]=(mq (al.mk p0_0 p0_1) (al.mk p1_0 p1_1)).map fun r:al×al×Int=>(.clean (.tup [.agg [.int .i64 r.1.ag,.sl false false r.1.aa.length (ae (eI .i64) r.1.aa)],.agg [.int .i64 r.2.1.ag,.sl false false r.2.1.aa.length (ae (eI .i64) r.2.1.aa)],.int .i64 r.2.2]),none):=aU _ _ _ ((al.mk p0_0 p0_1),(al.mk p1_0 p1_1))
noncomputable def uJ:Env:=(Am.ext (Am.ext (Am.ext (Am.ext (Am.ext a7 50 false eL) 76 false gh) 77 false uo) 79 false uu) 83 false uq)
theorem O3:bB Try.prog uJ:=(((((bB.none.add fj false).add iI false).add C9 false).add Dc false).add Da false)
theorem cK:type_of% (ai @w<|ai @ch<|ai @dB<|ai @qt<|ai @va<|ai @u9<|@uJ.eq_1):=⟨@w,@ch,@dB,@qt,@va,@u9,@uJ.eq_1⟩
theorem TO (p0:al) (p1:al) (r:al×al×Int) (hh:mq p0 p1=some r):ba .clean tab uJ FU Try.f81 none [.agg [.int .i64 p0.ag,.sl false false p0.aa.length (ae (eI .i64) p0.aa)],.agg [.int .i64 p1.ag,.sl false false p1.aa.length (ae (eI .i64) p1.aa)]]=some (.clean (.tup [.agg [.int .i64 r.1.ag,.sl false false r.1.aa.length (ae (eI .i64) r.1.aa)],.agg [.int .i64 r.2.1.ag,.sl false false r.2.1.aa.length (ae (eI .i64) r.2.1.aa)],.int .i64 r.2.2]),none):=by
 refine aC rfl Try.ntmps81 Try.results81 ?_
 unfold mq at hh
 obtain⟨r1,hr1,hh⟩:=ah hh
 try simp only[cK,seval,hr1]
 obtain⟨o2,ho2,hh⟩:=ah hh
 refine bF 0 (fun s t H e=>match s with|s9j1=>∃v2j1:Nat,∃v3j1:Nat,∃v4j1:Nat,∃v5j1:Nat,t 2=.ptr 2 v2j1 0∧t 3=.ptr 3 v3j1 0∧t 4=.ptr 4 v4j1 0∧t 5=.ptr 5 v5j1 0∧t 9=.bool s9j1∧H 2=some ⟨v2j1,39,[.int .i64 p0.ag,.sl false false p0.aa.length (ae (eI .i64) p0.aa)],false,false,false⟩∧H 3=some ⟨v3j1,39,[.int .i64 p1.ag,.sl false false p1.aa.length (ae (eI .i64) p1.aa)],false,false,false⟩∧H 4=some ⟨v4j1,39,[.int .i64 0,.sl true true 0 []],false,false,false⟩∧H 5=some ⟨v5j1,39,[.int .i64 0,.sl true true 0 []],false,false,false⟩) (fun s=>s=o2) ?_ ?_
 ·rintro s9j1 t H e ⟨v2j1,v3j1,v4j1,v5j1,Zj1⟩ rfl
  try dsimp only at hh
  try simp only[cK,seval,hr1,Zj1]
  refine sp aq hh (fun _ hh =>?_) (fun _ hh =>?_)
  ·cases hh
   try simp only[cK,seval,hr1,Zj1]
  ·try simp only[cK,seval,hr1,Zj1]
   refine sp aq hh (fun _ hh =>?_) (fun _ hh =>?_)
   ·cases hh
    try simp only[cK,seval,hr1,Zj1]
   ·obtain⟨r5,hr5,hh⟩:=ah hh
    try simp only[cK,seval,hr1,Zj1,hr5]
    obtain⟨o6,ho6,hh⟩:=ah hh
    refine bF 0 (fun s t H e=>match s with|s44j2=>∃v2j2:Nat,∃v3j2:Nat,∃v4j2:Nat,∃v5j2:Nat,t 2=.ptr 2 v2j2 0∧t 3=.ptr 3 v3j2 0∧t 4=.ptr 4 v4j2 0∧t 5=.ptr 5 v5j2 0∧t 7=.sl false false r5.1.length (ae (eI .i64) r5.1)∧t 8=.sl false false r5.2.length (ae (eI .i64) r5.2)∧t 44=.bool s44j2∧H 2=some ⟨v2j2,39,[.int .i64 p0.ag,.sl false false p0.aa.length (ae (eI .i64) p0.aa)],false,false,false⟩∧H 3=some ⟨v3j2,39,[.int .i64 p1.ag,.sl false false p1.aa.length (ae (eI .i64) p1.aa)],false,false,false⟩∧H 4=some ⟨v4j2,39,[.int .i64 0,.sl true true 0 []],false,false,false⟩∧H 5=some ⟨v5j2,39,[.int .i64 0,.sl true true 0 []],false,false,false⟩) (fun s=>s=o6) ?_ ?_
    ·rintro s44j2 t H e ⟨v2j2,v3j2,v4j2,v5j2,Zj2⟩ rfl
     try dsimp only at hh
     try simp only[cK,seval,hr1,hr5,Zj2]
     refine sp aq hh (fun _ hh =>?_) (fun _ hh =>?_)
     ·have i8:=qt r5.1 ([1])
      simp only[aJ,bC,List.length_cons,List.length_nil,ad4,Nat.reduceAdd,aff]at i8
      obtain⟨r9,hr9,hh⟩:=ah hh
      obtain⟨r10,hr10,hh⟩:=ah hh
      obtain⟨r11,hr11,hh⟩:=ah hh
      obtain⟨r12,hr12,hh⟩:=ah hh
      try simp only[cK,seval,hr1,hr5,Zj2,i8,hr9,hr10,hr11,hr12]
      refine bn (by kernel_rfl) ?_
      cases hh
      try simp only[cK,seval,hr1,hr5,Zj2,i8,hr9,hr10,hr11,hr12]
     ·obtain⟨r13,hr13,hh⟩:=ah hh
      obtain⟨r14,hr14,hh⟩:=ah hh
      try simp only[cK,seval,hr1,hr5,Zj2,hr13,hr14]
      refine bn (by kernel_rfl) ?_
      cases hh
      try simp only[cK,seval,hr1,hr5,Zj2,hr13,hr14]
    ·clear hh
     have hh:=ho6
     try simp only[cK,seval,hr1,Zj1,hr5]
     refine sp ec hh (fun _ hh =>?_) (fun _ hh =>?_)
     ·cases hh
      try simp only[cK,seval,hr1,Zj1,hr5]
      rw[au]
      refine⟨_,rfl,?_⟩
      refine⟨v2j1,v3j1,v4j1,v5j1,?_,?_,?_,?_,?_,?_,?_,?_,?_,?_,?_⟩
      all_goals first|rfl|(simp only[cK,seval,hr1,Zj1,hr5]<;>rfl)
     ·cases hh
      try simp only[cK,seval,hr1,Zj1,hr5]
      rw[au]
      refine⟨_,rfl,?_⟩
      refine⟨v2j1,v3j1,v4j1,v5j1,?_,?_,?_,?_,?_,?_,?_,?_,?_,?_,?_⟩
      all_goals first|rfl|(simp only[cK,seval,hr1,Zj1,hr5]<;>rfl)
 ·clear hh
  have hh:=ho2
  try simp only[cK,seval,hr1]
  refine sp bc hh (fun _ hh =>?_) (fun _ hh =>?_)
  ·cases hh
   try simp only[cK,seval,hr1]
   rw[au]
   refine⟨_,rfl,?_⟩
   refine⟨0,0,0,0,?_,?_,?_,?_,?_,?_,?_,?_,?_⟩
   all_goals first|rfl|(simp only[cK,seval,hr1]<;>rfl)
  ·obtain⟨r17,hr17,hh⟩:=ah hh
   cases hh
   try simp only[cK,seval,hr1,hr17]
   rw[au]
   refine⟨_,rfl,?_⟩
   refine⟨0,0,0,0,?_,?_,?_,?_,?_,?_,?_,?_,?_⟩
   all_goals first|rfl|(simp only[cK,seval,hr1,hr17]<;>rfl)
theorem PS:bX Try.prog 81 yu:=bX.of (mode := .clean) tok O3 mixed Try.func81 (by kernel_rfl) ⟨by kernel_rfl,by kernel_rfl⟩ (fun _=>aeX (by kernel_rfl)) (fun x r h=>TO x.1 x.2 r h)
noncomputable def oa:=fR (iO (cN eo) (fO (cN eo))) (fun x:al×al=>ly x.1 x.2) (fun r:ak×Int =>.clean (.tup [.agg [.int .i64 r.1.aL.ag,.sl false false r.1.aL.aa.length (ae (eI .i64) r.1.aL.aa),.int .i64 r.1.aM.ag,.sl false false r.1.aM.aa.length (ae (eI .i64) r.1.aM.aa)],.int .i64 r.2]))
theorem mi (p0_0:Int) (p0_1:(List Int)) (p1_0:Int) (p1_1:(List Int)):oa none [.agg [.int .i64 p0_0,.sl false false p0_1.length (ae (eI .i64) p0_1)],.agg [.int .i64 p1_0,.sl false false p1_1.length (ae (eI .i64) p1_1)]]=(ly (al.mk p0_0 p0_1) (al.mk p1_0 p1_1)).map fun r:ak×Int=>(.clean (.tup [.agg [.int .i64 r.1.aL.ag,.sl false false r.1.aL.aa.length (ae (eI .i64) r.1.aL.aa),.int .i64 r.1.aM.ag,.sl false false r.1.aM.aa.length (ae (eI .i64) r.1.aM.aa)],.int .i64 r.2]),none):=aU _ _ _ ((al.mk p0_0 p0_1),(al.mk p1_0 p1_1))
noncomputable def rz:Env:=(Am.ext (Am.ext (Am.ext (Am.ext a7 50 false eL) 51 false uk) 64 false um) 81 false yu)
theorem Lj:bB Try.prog rz:=((((bB.none.add fj false).add C7 false).add C8 false).add PS false)
theorem cP:type_of% (ai @w<|ai @ch<|ai @u6<|ai @u7<|ai @G2<|@rz.eq_1):=⟨@w,@ch,@u6,@u7,@G2,@rz.eq_1⟩
theorem Px (p0:al) (p1:al) (r:ak×Int) (hh:ly p0 p1=some r):ba .clean tab rz FU Try.f49 none [.agg [.int .i64 p0.ag,.sl false false p0.aa.length (ae (eI .i64) p0.aa)],.agg [.int .i64 p1.ag,.sl false false p1.aa.length (ae (eI .i64) p1.aa)]]=some (.clean (.tup [.agg [.int .i64 r.1.aL.ag,.sl false false r.1.aL.aa.length (ae (eI .i64) r.1.aL.aa),.int .i64 r.1.aM.ag,.sl false false r.1.aM.aa.length (ae (eI .i64) r.1.aM.aa)],.int .i64 r.2]),none):=by
 refine aC rfl Try.ntmps49 Try.results49 ?_
 unfold ly at hh
 obtain⟨r1,hr1,hh⟩:=ah hh
 try simp only[cP,seval,hr1]
 obtain⟨o2,ho2,hh⟩:=ah hh
 refine bF 0 (fun s t H e=>match s with|s14j1=>∃v2j1:Nat,∃v3j1:Nat,∃v4j1:Nat,t 2=.ptr 2 v2j1 0∧t 3=.ptr 3 v3j1 0∧t 4=.ptr 4 v4j1 0∧t 14=.bool s14j1∧H 2=some ⟨v2j1,39,[.int .i64 p0.ag,.sl false false p0.aa.length (ae (eI .i64) p0.aa)],false,false,false⟩∧H 3=some ⟨v3j1,39,[.int .i64 p1.ag,.sl false false p1.aa.length (ae (eI .i64) p1.aa)],false,false,false⟩∧H 4=some ⟨v4j1,41,[.int .i64 0,.sl true true 0 [],.int .i64 0,.sl true true 0 []],false,false,false⟩) (fun s=>s=o2) ?_ ?_
 ·rintro s14j1 t H e ⟨v2j1,v3j1,v4j1,Zj1⟩ rfl
  try dsimp only at hh
  try simp only[cP,seval,hr1,Zj1]
  refine sp aq hh (fun _ hh =>?_) (fun _ hh =>?_)
  ·cases hh
   try simp only[cP,seval,hr1,Zj1]
  ·try simp only[cP,seval,hr1,Zj1]
   refine sp aq hh (fun _ hh =>?_) (fun _ hh =>?_)
   ·cases hh
    try simp only[cP,seval,hr1,Zj1]
   ·try simp only[cP,seval,hr1,Zj1]
    obtain⟨o5,ho5,hh⟩:=ah hh
    refine j5 0 (fun s t H e=>match s with|(r2_0j2,r2_1j2,r3_0j2,r3_1j2)=>∃v2j2:Nat,∃v3j2:Nat,∃v4j2:Nat,t 2=.ptr 2 v2j2 0∧t 3=.ptr 3 v3j2 0∧t 4=.ptr 4 v4j2 0∧H 2=some ⟨v2j2,39,[.int .i64 r2_0j2,.sl false false r2_1j2.length (ae (eI .i64) r2_1j2)],false,false,false⟩∧H 3=some ⟨v3j2,39,[.int .i64 r3_0j2,.sl false false r3_1j2.length (ae (eI .i64) r3_1j2)],false,false,false⟩∧H 4=some ⟨v4j2,41,[.int .i64 0,.sl true true 0 [],.int .i64 0,.sl true true 0 []],false,false,false⟩) (fun s=>s=o5) ?_ ?_
    ·rintro⟨r2_0j2,r2_1j2,r3_0j2,r3_1j2⟩ t H e ⟨v2j2,v3j2,v4j2,Zj2⟩ rfl
     try dsimp only at hh
     obtain⟨r6,hr6,hh⟩:=ah hh
     obtain⟨r7,hr7,hh⟩:=ah hh
     obtain⟨r8,hr8,hh⟩:=ah hh
     cases hh
     try simp only[cP,seval,hr1,Zj2,hr6,hr7,hr8]
    ·clear hh
     have hh:=ho5
     try simp only[cP,seval,hr1,Zj1]
     refine sp aq hh (fun _ hh =>?_) (fun _ hh =>?_)
     ·obtain⟨r10,hr10,hh⟩:=ah hh
      obtain⟨r11,hr11,hh⟩:=ah hh
      try simp only[cP,seval,hr1,Zj1,hr10,hr11]
      refine bn (by kernel_rfl) ?_
      cases hh
      try simp only[cP,seval,hr1,Zj1,hr10,hr11]
      rw[au]
      refine⟨_,rfl,?_⟩
      refine⟨v2j1,v3j1,v4j1,?_,?_,?_,?_,?_,?_⟩
      all_goals first|rfl|(simp only[cP,seval,hr1,Zj1,hr10,hr11]<;>rfl)
     ·cases hh
      try simp only[cP,seval,hr1,Zj1]
      rw[au]
      refine⟨_,rfl,?_⟩
      refine⟨v2j1,v3j1,v4j1,?_,?_,?_,?_,?_,?_⟩
      all_goals first|rfl|(simp only[cP,seval,hr1,Zj1]<;>rfl)
 ·clear hh
  have hh:=ho2
  try simp only[cP,seval,hr1]
  refine sp bc hh (fun _ hh =>?_) (fun _ hh =>?_)
  ·cases hh
   try simp only[cP,seval,hr1]
   rw[au]
   refine⟨_,rfl,?_⟩
   refine⟨0,0,0,?_,?_,?_,?_,?_,?_,?_⟩
   all_goals first|rfl|(simp only[cP,seval,hr1]<;>rfl)
  ·obtain⟨r13,hr13,hh⟩:=ah hh
   cases hh
   try simp only[cP,seval,hr1,hr13]
   rw[au]
   refine⟨_,rfl,?_⟩
   refine⟨0,0,0,?_,?_,?_,?_,?_,?_,?_⟩
   all_goals first|rfl|(simp only[cP,seval,hr1,hr13]<;>rfl)
theorem tP:bX Try.prog 49 oa:=bX.of (mode := .clean) tok Lj mixed Try.func49 (by kernel_rfl) ⟨by kernel_rfl,by kernel_rfl⟩ (fun _=>aeX (by kernel_rfl)) (fun x r h=>Px x.1 x.2 r h)
noncomputable def qF:=fR (iO (cN ay) (fO (cN ay))) (fun x:ak×ak=>mO x.1 x.2) (fun r:ak×Int =>.clean (.tup [.agg [.int .i64 r.1.aL.ag,.sl false false r.1.aL.aa.length (ae (eI .i64) r.1.aL.aa),.int .i64 r.1.aM.ag,.sl false false r.1.aM.aa.length (ae (eI .i64) r.1.aM.aa)],.int .i64 r.2]))
theorem rV (p0_0:Int) (p0_1:(List Int)) (p0_2:Int) (p0_3:(List Int)) (p1_0:Int) (p1_1:(List Int)) (p1_2:Int) (p1_3:(List Int)):qF none [.agg [.int .i64 p0_0,.sl false false p0_1.length (ae (eI .i64) p0_1),.int .i64 p0_2,.sl false false p0_3.length (ae (eI .i64) p0_3)],.agg [.int .i64 p1_0,.sl false false p1_1.length (ae (eI .i64) p1_1),.int .i64 p1_2,.sl false false p1_3.length (ae (eI .i64) p1_3)]]=(mO (ak.mk (al.mk p0_0 p0_1) (al.mk p0_2 p0_3)) (ak.mk (al.mk p1_0 p1_1) (al.mk p1_2 p1_3))).map fun r:ak×Int=>(.clean (.tup [.agg [.int .i64 r.1.aL.ag,.sl false false r.1.aL.aa.length (ae (eI .i64) r.1.aL.aa),.int .i64 r.1.aM.ag,.sl false false r.1.aM.aa.length (ae (eI .i64) r.1.aM.aa)],.int .i64 r.2]),none):=aU _ _ _ ((ak.mk (al.mk p0_0 p0_1) (al.mk p0_2 p0_3)),(ak.mk (al.mk p1_0 p1_1) (al.mk p1_2 p1_3)))
noncomputable def rp:Env:=(Am.ext (Am.ext (Am.ext (Am.ext a7 22 false dU) 47 false yt) 48 false jt) 49 false oa)
theorem Lf:bB Try.prog rp:=((((bB.none.add eG false).add PR false).add mD false).add tP false)
theorem fL:type_of% (ai @w<|ai @bU<|ai @G1<|ai @gu<|ai @mi<|@rp.eq_1):=⟨@w,@bU,@G1,@gu,@mi,@rp.eq_1⟩
theorem Pt (p0:ak) (p1:ak) (r:ak×Int) (hh:mO p0 p1=some r):ba .clean tab rp FU Try.f18 none [.agg [.int .i64 p0.aL.ag,.sl false false p0.aL.aa.length (ae (eI .i64) p0.aL.aa),.int .i64 p0.aM.ag,.sl false false p0.aM.aa.length (ae (eI .i64) p0.aM.aa)],.agg [.int .i64 p1.aL.ag,.sl false false p1.aL.aa.length (ae (eI .i64) p1.aL.aa),.int .i64 p1.aM.ag,.sl false false p1.aM.aa.length (ae (eI .i64) p1.aM.aa)]]=some (.clean (.tup [.agg [.int .i64 r.1.aL.ag,.sl false false r.1.aL.aa.length (ae (eI .i64) r.1.aL.aa),.int .i64 r.1.aM.ag,.sl false false r.1.aM.aa.length (ae (eI .i64) r.1.aM.aa)],.int .i64 r.2]),none):=by
 refine aC rfl Try.ntmps18 Try.results18 ?_
 unfold mO at hh
 obtain⟨r1,hr1,hh⟩:=ah hh
 try simp only[fL,seval,hr1]
 obtain⟨o2,ho2,hh⟩:=ah hh
 refine bF 0 (fun s t H e=>match s with|s15j1=>∃v2j1:Nat,∃v3j1:Nat,∃v4j1:Nat,t 2=.ptr 2 v2j1 0∧t 3=.ptr 3 v3j1 0∧t 4=.ptr 4 v4j1 0∧t 15=.bool s15j1∧H 2=some ⟨v2j1,41,[.int .i64 p0.aL.ag,.sl false false p0.aL.aa.length (ae (eI .i64) p0.aL.aa),.int .i64 p0.aM.ag,.sl false false p0.aM.aa.length (ae (eI .i64) p0.aM.aa)],false,false,false⟩∧H 3=some ⟨v3j1,41,[.int .i64 p1.aL.ag,.sl false false p1.aL.aa.length (ae (eI .i64) p1.aL.aa),.int .i64 p1.aM.ag,.sl false false p1.aM.aa.length (ae (eI .i64) p1.aM.aa)],false,false,false⟩∧H 4=some ⟨v4j1,41,[.int .i64 0,.sl true true 0 [],.int .i64 0,.sl true true 0 []],false,false,false⟩) (fun s=>s=o2) ?_ ?_
 ·rintro s15j1 t H e ⟨v2j1,v3j1,v4j1,Zj1⟩ rfl
  try dsimp only at hh
  try simp only[fL,seval,hr1,Zj1]
  refine sp aq hh (fun _ hh =>?_) (fun _ hh =>?_)
  ·cases hh
   try simp only[fL,seval,hr1,Zj1]
  ·obtain⟨r4,hr4,hh⟩:=ah hh
   obtain⟨r5,hr5,hh⟩:=ah hh
   obtain⟨r6,hr6,hh⟩:=ah hh
   try simp only[fL,seval,hr1,Zj1,hr4,hr5,hr6]
   refine bn (by kernel_rfl) ?_
   obtain⟨r7,hr7,hh⟩:=ah hh
   obtain⟨r8,hr8,hh⟩:=ah hh
   try simp only[fL,seval,hr1,Zj1,hr4,hr5,hr6,hr7,hr8]
   refine bn (by kernel_rfl) ?_
   cases hh
   try simp only[fL,seval,hr1,Zj1,hr4,hr5,hr6,hr7,hr8]
 ·clear hh
  have hh:=ho2
  try simp only[fL,seval,hr1]
  refine sp bc hh (fun _ hh =>?_) (fun _ hh =>?_)
  ·cases hh
   try simp only[fL,seval,hr1]
   rw[au]
   refine⟨_,rfl,?_⟩
   refine⟨0,0,0,?_,?_,?_,?_,?_,?_,?_⟩
   all_goals first|rfl|(simp only[fL,seval,hr1]<;>rfl)
  ·obtain⟨r10,hr10,hh⟩:=ah hh
   cases hh
   try simp only[fL,seval,hr1,hr10]
   rw[au]
   refine⟨_,rfl,?_⟩
   refine⟨0,0,0,?_,?_,?_,?_,?_,?_,?_⟩
   all_goals first|rfl|(simp only[fL,seval,hr1,hr10]<;>rfl)
theorem z6:bX Try.prog 18 qF:=bX.of (mode := .clean) tok Lf mixed Try.func18 (by kernel_rfl) ⟨by kernel_rfl,by kernel_rfl⟩ (fun _=>aeX (by kernel_rfl)) (fun x r h=>Pt x.1 x.2 r h)
noncomputable def qG:=fR (iO (cN ay) (fO (cN ay))) (fun x:ak×ak=>mP x.1 x.2) (fun r:ak×Int =>.clean (.tup [.agg [.int .i64 r.1.aL.ag,.sl false false r.1.aL.aa.length (ae (eI .i64) r.1.aL.aa),.int .i64 r.1.aM.ag,.sl false false r.1.aM.aa.length (ae (eI .i64) r.1.aM.aa)],.int .i64 r.2]))
theorem rW (p0_0:Int) (p0_1:(List Int)) (p0_2:Int) (p0_3:(List Int)) (p1_0:Int) (p1_1:(List Int)) (p1_2:Int) (p1_3:(List Int)):qG none [.agg [.int .i64 p0_0,.sl false false p0_1.length (ae (eI .i64) p0_1),.int .i64 p0_2,.sl false false p0_3.length (ae (eI .i64) p0_3)],.agg [.int .i64 p1_0,.sl false false p1_1.length (ae (eI .i64) p1_1),.int .i64 p1_2,.sl false false p1_3.length (ae (eI .i64) p1_3)]]=(mP (ak.mk (al.mk p0_0 p0_1) (al.mk p0_2 p0_3)) (ak.mk (al.mk p1_0 p1_1) (al.mk p1_2 p1_3))).map fun r:ak×Int=>(.clean (.tup [.agg [.int .i64 r.1.aL.ag,.sl false false r.1.aL.aa.length (ae (eI .i64) r.1.aL.aa),.int .i64 r.1.aM.ag,.sl false false r.1.aM.aa.length (ae (eI .i64) r.1.aM.aa)],.int .i64 r.2]),none):=aU _ _ _ ((ak.mk (al.mk p0_0 p0_1) (al.mk p0_2 p0_3)),(ak.mk (al.mk p1_0 p1_1) (al.mk p1_2 p1_3)))
noncomputable def rA:Env:=(Am.ext (Am.ext (Am.ext a7 18 false qF) 22 false dU) 64 false um)
theorem Lk:bB Try.prog rA:=(((bB.none.add z6 false).add eG false).add C8 false)
theorem gH:type_of% (ai @w<|ai @rV<|ai @bU<|ai @u7<|@rA.eq_1):=⟨@w,@rV,@bU,@u7,@rA.eq_1⟩
theorem Py (p0:ak) (p1:ak) (r:ak×Int) (hh:mP p0 p1=some r):ba .clean tab rA FU Try.f30 none [.agg [.int .i64 p0.aL.ag,.sl false false p0.aL.aa.length (ae (eI .i64) p0.aL.aa),.int .i64 p0.aM.ag,.sl false false p0.aM.aa.length (ae (eI .i64) p0.aM.aa)],.agg [.int .i64 p1.aL.ag,.sl false false p1.aL.aa.length (ae (eI .i64) p1.aL.aa),.int .i64 p1.aM.ag,.sl false false p1.aM.aa.length (ae (eI .i64) p1.aM.aa)]]=some (.clean (.tup [.agg [.int .i64 r.1.aL.ag,.sl false false r.1.aL.aa.length (ae (eI .i64) r.1.aL.aa),.int .i64 r.1.aM.ag,.sl false false r.1.aM.aa.length (ae (eI .i64) r.1.aM.aa)],.int .i64 r.2]),none):=by
 refine aC rfl Try.ntmps30 Try.results30 ?_
 unfold mP at hh
 obtain⟨r1,hr1,hh⟩:=ah hh
 try simp only[gH,seval,hr1]
 obtain⟨o2,ho2,hh⟩:=ah hh
 refine bF 0 (fun s t H e=>match s with|s13j1=>∃v2j1:Nat,∃v3j1:Nat,∃v4j1:Nat,t 2=.ptr 2 v2j1 0∧t 3=.ptr 3 v3j1 0∧t 4=.ptr 4 v4j1 0∧t 13=.bool s13j1∧H 2=some ⟨v2j1,41,[.int .i64 p0.aL.ag,.sl false false p0.aL.aa.length (ae (eI .i64) p0.aL.aa),.int .i64 p0.aM.ag,.sl false false p0.aM.aa.length (ae (eI .i64) p0.aM.aa)],false,false,false⟩∧H 3=some ⟨v3j1,41,[.int .i64 p1.aL.ag,.sl false false p1.aL.aa.length (ae (eI .i64) p1.aL.aa),.int .i64 p1.aM.ag,.sl false false p1.aM.aa.length (ae (eI .i64) p1.aM.aa)],false,false,false⟩∧H 4=some ⟨v4j1,41,[.int .i64 0,.sl true true 0 [],.int .i64 0,.sl true true 0 []],false,false,false⟩) (fun s=>s=o2) ?_ ?_
 ·rintro s13j1 t H e ⟨v2j1,v3j1,v4j1,Zj1⟩ rfl
  try dsimp only at hh
  try simp only[gH,seval,hr1,Zj1]
  refine sp aq hh (fun _ hh =>?_) (fun _ hh =>?_)
  ·cases hh
   try simp only[gH,seval,hr1,Zj1]
  ·obtain⟨r4,hr4,hh⟩:=ah hh
   obtain⟨r5,hr5,hh⟩:=ah hh
   try simp only[gH,seval,hr1,Zj1,hr4,hr5]
   refine bn (by kernel_rfl) ?_
   cases hh
   try simp only[gH,seval,hr1,Zj1,hr4,hr5]
 ·clear hh
  have hh:=ho2
  try simp only[gH,seval,hr1]
  refine sp bc hh (fun _ hh =>?_) (fun _ hh =>?_)
  ·cases hh
   try simp only[gH,seval,hr1]
   rw[au]
   refine⟨_,rfl,?_⟩
   refine⟨0,0,0,?_,?_,?_,?_,?_,?_,?_⟩
   all_goals first|rfl|(simp only[gH,seval,hr1]<;>rfl)
  ·obtain⟨r7,hr7,hh⟩:=ah hh
   cases hh
   try simp only[gH,seval,hr1,hr7]
   rw[au]
   refine⟨_,rfl,?_⟩
   refine⟨0,0,0,?_,?_,?_,?_,?_,?_,?_⟩
   all_goals first|rfl|(simp only[gH,seval,hr1,hr7]<;>rfl)
theorem z7:bX Try.prog 30 qG:=bX.of (mode := .clean) tok Lk mixed Try.func30 (by kernel_rfl) ⟨by kernel_rfl,by kernel_rfl⟩ (fun _=>aeX (by kernel_rfl)) (fun x r h=>Py x.1 x.2 r h)
noncomputable def oZ:=fR (fO (cN ns)) (fun x:bW=>kM x) (fun r:(List ak) =>.clean (.sl false false r.length (ae ay r)))
theorem pH (p0_0:Int) (p0_1:(List dr)):oZ none [.agg [.int .i64 p0_0,.sl false false p0_1.length (ae a8 p0_1)]]=(kM (bW.mk p0_0 p0_1)).map fun r:(List ak)=>(.clean (.sl false false r.length (ae ay r)),none):=aU _ _ _ ((bW.mk p0_0 p0_1))
noncomputable def pt:Env:=(Am.ext (Am.ext a7 30 false qG) 44 false ki)
theorem Ix:bB Try.prog pt:=((bB.none.add z7 false).add mY false)
theorem cM:type_of% (ai @w<|ai @rW<|ai @gF<|@pt.eq_1):=⟨@w,@rW,@gF,@pt.eq_1⟩
theorem Mz (p0:bW) (r:(List ak)) (hh:kM p0=some r):ba .clean tab pt FU Try.f37 none [.agg [.int .i64 p0.aG,.sl false false p0.av.length (ae a8 p0.av)]]=some (.clean (.sl false false r.length (ae ay r)),none):=by
 refine aC rfl Try.ntmps37 Try.results37 ?_
 unfold kM at hh
 obtain⟨x1,hx1,hh⟩:=ah hh
 obtain⟨q2a,q2b,q2c,q2d,q2e⟩:=mk_one ay hx1
 simp only[bC]at q2d
 try simp only[cM,seval,q2a,q2b,q2c,q2d,q2e]
 obtain⟨o7,ho7,hh⟩:=ah hh
 refine aB (fun s t H e=>match s with|(s12a,l3a)=>∃v1a:Nat,∃v3a:Nat,t 1=.ptr 1 v1a 0∧t 3=.buf 3 v3a 4 0 (l3a).length∧t 11=.int .i64 ((x1).length:Int)∧t 12=.int .i64 s12a∧H 1=some ⟨v1a,24,[.int .i64 p0.aG,.sl false false p0.av.length (ae a8 p0.av)],false,false,false⟩∧H 3=some ⟨v3a,41,ae ay l3a,false,true,false⟩) (fun o x t H e=>match o with|l3ax=>x=.exit 0∧∃v1ax:Nat,∃v3ax:Nat,t 1=.ptr 1 v1ax 0∧t 3=.buf 3 v3ax 4 0 (l3ax).length∧H 1=some ⟨v1ax,24,[.int .i64 p0.aG,.sl false false p0.av.length (ae a8 p0.av)],false,false,false⟩∧H 3=some ⟨v3ax,41,ae ay l3ax,false,true,false⟩) ho7 ?_ ?_ ?_
 ·refine⟨0,1,?_,?_,?_,?_,?_,?_⟩
  all_goals first|rfl|(simp only[cM,seval,q2a,q2b,q2c,q2d,q2e]<;>rfl)
 ·rintro⟨s12a,l3a⟩ t H e ⟨v1a,v3a,Za⟩ c hh
  simp only[lE]at hh
  try simp only[cM,seval,q2a,q2b,q2c,q2d,q2e,Za]
  refine sp aq hh (fun _ hh =>?_) (fun _ hh =>?_)
  ·obtain⟨r9,hr9,hh⟩:=ah hh
   obtain⟨x10,hx10,hh⟩:=ah hh
   have ax10:=bK ay hx10
   simp only[bC]at ax10
   have p11:=dZ ay (x':=r9) (fo:=0) (cs:=[.int .i64 r9.aL.ag,.sl false false r9.aL.aa.length (ae (eI .i64) r9.aL.aa),.int .i64 r9.aM.ag,.sl false false r9.aM.aa.length (ae (eI .i64) r9.aM.aa)]) hx10 rfl (aeX rfl)
   simp only[bC,Nat.add_zero]at p11
   have up11:=p11
   simp only[putCells,List.length_cons,List.length_nil,ad4,Nat.reduceAdd]at up11
   cases hh
   try simp only[cM,seval,q2a,q2b,q2c,q2d,q2e,Za,hr9,ax10,p11,up11]
   refine jz ?_
   refine⟨v1a,v3a,?_,?_,?_,?_,?_,?_⟩
   all_goals first|rfl|(simp only[cM,seval,q2a,q2b,q2c,q2d,q2e,Za,hr9,ax10,p11,up11]<;>rfl)
  ·cases hh
   try simp only[cM,seval,q2a,q2b,q2c,q2d,q2e,Za]
   refine kK ?_
   refine⟨rfl,⟨v1a,v3a,?_,?_,?_,?_⟩⟩
   all_goals first|rfl|(simp only[cM,seval,q2a,q2b,q2c,q2d,q2e,Za]<;>rfl)
 ·rintro x t H e hx
  obtain⟨l3ax,rfl⟩:∃z,z=o7:=⟨_,rfl⟩
  dsimp only at hx hh
  obtain⟨rfl,⟨v1ax,v3ax,Zax⟩⟩:=hx
  try simp only[cM,seval,q2a,q2b,q2c,q2d,q2e,Zax]
  obtain⟨o17,ho17,hh⟩:=ah hh
  refine aB (fun s t H e=>match s with|(s23b,l3b)=>∃v3b:Nat,t 3=.buf 3 v3b 4 0 (l3b).length∧t 21=.sl false false p0.av.length (ae a8 p0.av)∧t 22=.int .i64 (p0.av.length:Int)∧t 23=.int .i64 s23b∧H 3=some ⟨v3b,41,ae ay l3b,false,true,false⟩) (fun o x t H e=>match o with|l3bx=>x=.exit 2∧∃v3bx:Nat,t 3=.buf 3 v3bx 4 0 (l3bx).length∧H 3=some ⟨v3bx,41,ae ay l3bx,false,true,false⟩) ho17 ?_ ?_ ?_
  ·refine⟨v3ax,?_,?_,?_,?_,?_⟩
   all_goals first|rfl|(simp only[cM,seval,q2a,q2b,q2c,q2d,q2e,Zax]<;>rfl)
  ·rintro⟨s23b,l3b⟩ t H e ⟨v3b,Zb⟩ c hh
   simp only[lF]at hh
   try simp only[cM,seval,q2a,q2b,q2c,q2d,q2e,Zb]
   refine sp aq hh (fun _ hh =>?_) (fun _ hh =>?_)
   ·obtain⟨x19,hx19,hh⟩:=ah hh
    have ax19:=bK a8 hx19
    simp only[bC]at ax19
    obtain⟨x20,hx20,hh⟩:=ah hh
    have ax20:=bK ay hx20
    simp only[bC]at ax20
    obtain⟨r21,hr21,hh⟩:=ah hh
    have ax20:=bK ay hx20
    simp only[bC]at ax20
    have p22:=dZ ay (x':=r21.1) (fo:=0) (cs:=[.int .i64 r21.1.aL.ag,.sl false false r21.1.aL.aa.length (ae (eI .i64) r21.1.aL.aa),.int .i64 r21.1.aM.ag,.sl false false r21.1.aM.aa.length (ae (eI .i64) r21.1.aM.aa)]) hx20 rfl (aeX rfl)
    simp only[bC,Nat.add_zero]at p22
    have up22:=p22
    simp only[putCells,List.length_cons,List.length_nil,ad4,Nat.reduceAdd]at up22
    try simp only[cM,seval,q2a,q2b,q2c,q2d,q2e,Zb,ax19,ax20,hr21,ax20,p22,up22]
    refine bn (by kernel_rfl) ?_
    cases hh
    try simp only[cM,seval,q2a,q2b,q2c,q2d,q2e,Zb,ax19,ax20,hr21,ax20,p22,up22]
    refine jz ?_
    refine⟨v3b,?_,?_,?_,?_,?_⟩
    all_goals first|rfl|(simp only[cM,seval,q2a,q2b,q2c,q2d,q2e,Zb,ax19,ax20,hr21,ax20,p22,up22]<;>rfl)
   ·cases hh
    try simp only[cM,seval,q2a,q2b,q2c,q2d,q2e,Zb]
    refine kK ?_
    refine⟨rfl,⟨v3b,?_,?_⟩⟩
    all_goals first|rfl|(simp only[cM,seval,q2a,q2b,q2c,q2d,q2e,Zb]<;>rfl)
  ·rintro x t H e hx
   obtain⟨l3bx,rfl⟩:∃z,z=o17:=⟨_,rfl⟩
   dsimp only at hx hh
   obtain⟨rfl,⟨v3bx,Zbx⟩⟩:=hx
   cases hh
   try simp only[cM,seval,q2a,q2b,q2c,q2d,q2e,Zbx]
theorem xQ:bX Try.prog 37 oZ:=bX.of (mode := .clean) tok Ix mixed Try.func37 (by kernel_rfl) ⟨by kernel_rfl,by kernel_rfl⟩ (fun _=>aeX (by kernel_rfl)) (fun x r h=>Mz x r h)
noncomputable def pV:=fR (fO (cN ay)) (fun x:ak=>kL x) (fun r:Bool =>.clean (.bool r))
theorem vW (p0_0:Int) (p0_1:(List Int)) (p0_2:Int) (p0_3:(List Int)):pV none [.agg [.int .i64 p0_0,.sl false false p0_1.length (ae (eI .i64) p0_1),.int .i64 p0_2,.sl false false p0_3.length (ae (eI .i64) p0_3)]]=(kL (ak.mk (al.mk p0_0 p0_1) (al.mk p0_2 p0_3))).map fun r:Bool=>(.clean (.bool r),none):=aU _ _ _ ((ak.mk (al.mk p0_0 p0_1) (al.mk p0_2 p0_3)))
noncomputable def my:Env:=(Am.ext a7 20 false mH)
theorem Cv:bB Try.prog my:=(bB.none.add rT false)
theorem EL:type_of% (ai @w<|ai @kO<|@my.eq_1):=⟨@w,@kO,@my.eq_1⟩
theorem Er (p0:ak) (r:Bool) (hh:kL p0=some r):ba .clean tab my FU Try.f38 none [.agg [.int .i64 p0.aL.ag,.sl false false p0.aL.aa.length (ae (eI .i64) p0.aL.aa),.int .i64 p0.aM.ag,.sl false false p0.aM.aa.length (ae (eI .i64) p0.aM.aa)]]=some (.clean (.bool r),none):=by
 refine aC rfl Try.ntmps38 Try.results38 ?_
 unfold kL at hh
 obtain⟨r1,hr1,hh⟩:=ah hh
 cases hh
 try simp only[EL,seval,hr1]
theorem Dd:bX Try.prog 38 pV:=bX.of (mode := .clean) tok Cv mixed Try.func38 (by kernel_rfl) ⟨by kernel_rfl,by kernel_rfl⟩ (fun _=>aeX (by kernel_rfl)) (fun x r h=>Er x r h)
noncomputable def eC:=fR (iO (nc ay) (fO (aFn 38))) (fun x:(List ak)×Unit=>b9 x.1) (fun r:Int =>.clean (.int .i64 r))
theorem gW (p0:(List ak)):eC none [.sl false false p0.length (ae ay p0),.fn 38]=(b9 p0).map fun r:Int=>(.clean (.int .i64 r),none):=aU _ _ _ (p0,())
noncomputable def dh:Env:=(Am.ext a7 38 false pV)
theorem lU:bB Try.prog dh:=(bB.none.add Dd false)
theorem a6:type_of% (ai @w<|ai @vW<|@dh.eq_1):=⟨@w,@vW,@dh.eq_1⟩
theorem mf (p0:(List ak)) (r:Int) (hh:b9 p0=some r):ba .clean tab dh FU Try.f67 none [.sl false false p0.length (ae ay p0),.fn 38]=some (.clean (.int .i64 r),none):=by
 refine aC rfl Try.ntmps67 Try.results67 ?_
 unfold b9 at hh
 try simp only[a6,seval]
 obtain⟨o5,ho5,hh⟩:=ah hh
 refine aB (fun s t H e=>match s with|s8a=>t 0=.sl false false p0.length (ae ay p0)∧t 1=.fn 38∧t 7=.int .i64 (p0.length:Int)∧t 8=.int .i64 s8a) (fun o x t H e=>match o with|(.inl _)=>x=.exit 0|(.inr r)=>x=.ret∧jd .clean tab none [.tmp 4] ⟨t,EH H,e⟩=some (.clean (.int .i64 r),none)) ho5 ?_ ?_ ?_
 ·refine⟨?_,?_,?_,?_⟩
  all_goals first|rfl|(simp only[a6,seval]<;>rfl)
 ·rintro s8a t H e Za c hh
  simp only[cX]at hh
  try simp only[a6,seval,Za]
  refine sp aq hh (fun _ hh =>?_) (fun _ hh =>?_)
  ·obtain⟨x7,hx7,hh⟩:=ah hh
   have ax7:=bK ay hx7
   simp only[bC]at ax7
   obtain⟨r8,hr8,hh⟩:=ah hh
   try simp only[a6,seval,Za,ax7,hr8]
   refine sp aq hh (fun _ hh =>?_) (fun _ hh =>?_)
   ·cases hh
    try simp only[a6,seval,Za,ax7,hr8]
    refine IG ⟨rfl,?_⟩
    try simp only[a6,seval,Za,ax7,hr8]
   ·cases hh
    try simp only[a6,seval,Za,ax7,hr8]
    refine jz ?_
    refine⟨?_,?_,?_,?_⟩
    all_goals first|rfl|(simp only[a6,seval,Za,ax7,hr8]<;>rfl)
  ·cases hh
   try simp only[a6,seval,Za]
   refine kK ?_
   exact rfl
 ·rintro x t H e hx
  rcases o5 with _|ra
  ·dsimp only at hx hh
   subst hx
   cases hh
   try simp only[a6,seval]
  ·dsimp only at hx hh
   obtain⟨rfl,hE⟩:=hx
   cases hh
   try simp only[bO,bE,bV,ey,ew,dm,dn]
   exact hE
theorem lV:bX Try.prog 67 eC:=bX.of (mode := .clean) tok lU mixed Try.func67 (by kernel_rfl) ⟨by kernel_rfl,by kernel_rfl⟩ (fun _=>aeX (by kernel_rfl)) (fun x r h=>mf x.1 r h)
noncomputable def dP:=fR (iO (nc ay) (fO (aFn 38))) (fun x:(List ak)×Unit=>bt x.1) (fun r:Bool =>.clean (.bool r))
theorem fS (p0:(List ak)):dP none [.sl false false p0.length (ae ay p0),.fn 38]=(bt p0).map fun r:Bool=>(.clean (.bool r),none):=aU _ _ _ (p0,())
noncomputable def cH:Env:=(Am.ext a7 67 false eC)
theorem kq:bB Try.prog cH:=(bB.none.add lV false)
theorem lf:type_of% (ai @w<|ai @gW<|@cH.eq_1):=⟨@w,@gW,@cH.eq_1⟩
theorem ld (p0:(List ak)) (r:Bool) (hh:bt p0=some r):ba .clean tab cH FU Try.f36 none [.sl false false p0.length (ae ay p0),.fn 38]=some (.clean (.bool r),none):=by
 refine aC rfl Try.ntmps36 Try.results36 ?_
 unfold bt at hh
 obtain⟨r1,hr1,hh⟩:=ah hh
 cases hh
 try simp only[lf,seval,hr1]
theorem kv:bX Try.prog 36 dP:=bX.of (mode := .clean) tok kq mixed Try.func36 (by kernel_rfl) ⟨by kernel_rfl,by kernel_rfl⟩ (fun _=>aeX (by kernel_rfl)) (fun x r h=>ld x.1 r h)
noncomputable def mI:=fR (fO (cN ns)) (fun x:bW=>jH x) (fun r:Bool =>.clean (.bool r))
theorem kP (p0_0:Int) (p0_1:(List dr)):mI none [.agg [.int .i64 p0_0,.sl false false p0_1.length (ae a8 p0_1)]]=(jH (bW.mk p0_0 p0_1)).map fun r:Bool=>(.clean (.bool r),none):=aU _ _ _ ((bW.mk p0_0 p0_1))
noncomputable def pr:Env:=(Am.ext (Am.ext (Am.ext (Am.ext (Am.ext (Am.ext a7 20 false mH) 22 false dU) 34 false qJ) 35 false qI) 36 false dP) 37 false oZ)
theorem Iw:bB Try.prog pr:=((((((bB.none.add rT false).add eG false).add EA false).add Ez false).add kv false).add xQ false)
theorem aK:type_of% (ai @w<|ai @kO<|ai @bU<|ai @xU<|ai @xT<|ai @fS<|ai @pH<|@pr.eq_1):=⟨@w,@kO,@bU,@xU,@xT,@fS,@pH,@pr.eq_1⟩
theorem My (p0:bW) (r:Bool) (hh:jH p0=some r):ba .clean tab pr FU Try.f11 none [.agg [.int .i64 p0.aG,.sl false false p0.av.length (ae a8 p0.av)]]=some (.clean (.bool r),none):=by
 refine aC rfl Try.ntmps11 Try.results11 ?_
 unfold jH at hh
 obtain⟨r1,hr1,hh⟩:=ah hh
 try simp only[aK,seval,hr1]
 obtain⟨o2,ho2,hh⟩:=ah hh
 refine bF 0 (fun s t H e=>match s with|s14j1=>∃v1j1:Nat,t 1=.ptr 1 v1j1 0∧t 14=.bool s14j1∧H 1=some ⟨v1j1,24,[.int .i64 p0.aG,.sl false false p0.av.length (ae a8 p0.av)],false,false,false⟩) (fun s=>s=o2) ?_ ?_
 ·rintro s14j1 t H e ⟨v1j1,Zj1⟩ rfl
  try dsimp only at hh
  try simp only[aK,seval,hr1,Zj1]
  refine sp aq hh (fun _ hh =>?_) (fun _ hh =>?_)
  ·cases hh
   try simp only[aK,seval,hr1,Zj1]
  ·try simp only[aK,seval,hr1,Zj1]
   obtain⟨o19,ho19,hh⟩:=ah hh
   refine aB (fun s t H e=>match s with|s18b=>∃v1b:Nat,t 1=.ptr 1 v1b 0∧t 16=.sl false false p0.av.length (ae a8 p0.av)∧t 17=.int .i64 (p0.av.length:Int)∧t 18=.int .i64 s18b∧H 1=some ⟨v1b,24,[.int .i64 p0.aG,.sl false false p0.av.length (ae a8 p0.av)],false,false,false⟩) (fun o x t H e=>match o with|(.inl _)=>x=.exit 0∧∃v1bx:Nat,t 1=.ptr 1 v1bx 0∧H 1=some ⟨v1bx,24,[.int .i64 p0.aG,.sl false false p0.av.length (ae a8 p0.av)],false,false,false⟩|(.inr r)=>x=.ret∧jd .clean tab none [.tmp 2] ⟨t,EH H,e⟩=some (.clean (.bool r),none)) ho19 ?_ ?_ ?_
   ·refine⟨v1j1,?_,?_,?_,?_,?_⟩
    all_goals first|rfl|(simp only[aK,seval,hr1,Zj1]<;>rfl)
   ·rintro s18b t H e ⟨v1b,Zb⟩ c hh
    simp only[lD]at hh
    try simp only[aK,seval,hr1,Zb]
    refine sp aq hh (fun _ hh =>?_) (fun _ hh =>?_)
    ·obtain⟨x21,hx21,hh⟩:=ah hh
     have ax21:=bK a8 hx21
     simp only[bC]at ax21
     obtain⟨r22,hr22,hh⟩:=ah hh
     try simp only[aK,seval,hr1,Zb,ax21,hr22]
     obtain⟨o23,ho23,hh⟩:=ah hh
     refine bF 0 (fun s t H e=>match s with|s50j4=>∃v1j4:Nat,∃v4j4:Nat,t 1=.ptr 1 v1j4 0∧t 3=.int .i64 s18b∧t 4=.ptr 4 v4j4 0∧t 16=.sl false false p0.av.length (ae a8 p0.av)∧t 17=.int .i64 (p0.av.length:Int)∧t 18=.int .i64 s18b∧t 50=.bool s50j4∧H 1=some ⟨v1j4,24,[.int .i64 p0.aG,.sl false false p0.av.length (ae a8 p0.av)],false,false,false⟩∧H 4=some ⟨v4j4,46,[.int .i64 x21.cY,.int .i64 x21.ko,.int .i64 x21.bg.aL.ag,.sl false false x21.bg.aL.aa.length (ae (eI .i64) x21.bg.aL.aa),.int .i64 x21.bg.aM.ag,.sl false false x21.bg.aM.aa.length (ae (eI .i64) x21.bg.aM.aa)],false,false,false⟩) (fun s=>s=o23) ?_ ?_
     ·rintro s50j4 t H e ⟨v1j4,v4j4,Zj4⟩ rfl
      try dsimp only at hh
      try simp only[aK,seval,hr1,ax21,hr22,Zj4]
      refine sp aq hh (fun _ hh =>?_) (fun _ hh =>?_)
      ·cases hh
       try simp only[aK,seval,hr1,ax21,hr22,Zj4]
       refine IG ⟨rfl,?_⟩
       try simp only[aK,seval,hr1,ax21,hr22,Zj4]
      ·try simp only[aK,seval,hr1,ax21,hr22,Zj4]
       refine sp pR hh (fun _ hh =>?_) (fun _ hh =>?_)
       ·obtain⟨x26,hx26,hh⟩:=ah hh
        have ax26:=bK a8 hx26
        simp only[bC]at ax26
        obtain⟨r27,hr27,hh⟩:=ah hh
        try simp only[aK,seval,hr1,ax21,hr22,Zj4,ax26,hr27]
        refine bn (by kernel_rfl) ?_
        try simp only[aK,seval,hr1,ax21,hr22,Zj4,ax26,hr27]
        refine sp aq hh (fun _ hh =>?_) (fun _ hh =>?_)
        ·cases hh
         try simp only[aK,seval,hr1,ax21,hr22,Zj4,ax26,hr27]
         refine IG ⟨rfl,?_⟩
         try simp only[aK,seval,hr1,ax21,hr22,Zj4,ax26,hr27]
        ·cases hh
         try simp only[aK,seval,hr1,ax21,hr22,Zj4,ax26,hr27]
         refine jz ?_
         refine⟨v1j4,?_,?_,?_,?_,?_⟩
         all_goals first|rfl|(simp only[aK,seval,hr1,ax21,hr22,Zj4,ax26,hr27]<;>rfl)
       ·try simp only[aK,seval,hr1,ax21,hr22,Zj4]
        refine bn (by kernel_rfl) ?_
        cases hh
        try simp only[aK,seval,hr1,ax21,hr22,Zj4]
        refine jz ?_
        refine⟨v1j4,?_,?_,?_,?_,?_⟩
        all_goals first|rfl|(simp only[aK,seval,hr1,ax21,hr22,Zj4]<;>rfl)
     ·clear hh
      have hh:=ho23
      try simp only[aK,seval,hr1,Zb,ax21,hr22]
      refine sp bc hh (fun _ hh =>?_) (fun _ hh =>?_)
      ·cases hh
       try simp only[aK,seval,hr1,Zb,ax21,hr22]
       rw[au]
       refine⟨_,rfl,?_⟩
       refine⟨v1b,e+1,?_,?_,?_,?_,?_,?_,?_,?_,?_⟩
       all_goals first|rfl|(simp only[aK,seval,hr1,Zb,ax21,hr22]<;>rfl)
      ·obtain⟨r30,hr30,hh⟩:=ah hh
       try simp only[aK,seval,hr1,Zb,ax21,hr22,hr30]
       refine sp bc hh (fun _ hh =>?_) (fun _ hh =>?_)
       ·cases hh
        try simp only[aK,seval,hr1,Zb,ax21,hr22,hr30]
        rw[au]
        refine⟨_,rfl,?_⟩
        refine⟨v1b,e+1,?_,?_,?_,?_,?_,?_,?_,?_,?_⟩
        all_goals first|rfl|(simp only[aK,seval,hr1,Zb,ax21,hr22,hr30]<;>rfl)
       ·obtain⟨r32,hr32,hh⟩:=ah hh
        try simp only[aK,seval,hr1,Zb,ax21,hr22,hr30,hr32]
        refine sp bc hh (fun _ hh =>?_) (fun _ hh =>?_)
        ·cases hh
         try simp only[aK,seval,hr1,Zb,ax21,hr22,hr30,hr32]
         rw[au]
         refine⟨_,rfl,?_⟩
         refine⟨v1b,e+1,?_,?_,?_,?_,?_,?_,?_,?_,?_⟩
         all_goals first|rfl|(simp only[aK,seval,hr1,Zb,ax21,hr22,hr30,hr32]<;>rfl)
        ·obtain⟨r34,hr34,hh⟩:=ah hh
         cases hh
         try simp only[aK,seval,hr1,Zb,ax21,hr22,hr30,hr32,hr34]
         rw[au]
         refine⟨_,rfl,?_⟩
         refine⟨v1b,e+1,?_,?_,?_,?_,?_,?_,?_,?_,?_⟩
         all_goals first|rfl|(simp only[aK,seval,hr1,Zb,ax21,hr22,hr30,hr32,hr34]<;>rfl)
    ·cases hh
     try simp only[aK,seval,hr1,Zb]
     refine kK ?_
     refine⟨rfl,⟨v1b,?_,?_⟩⟩
     all_goals first|rfl|(simp only[aK,seval,hr1,Zb]<;>rfl)
   ·rintro x t H e hx
    rcases o19 with _|rb
    ·dsimp only at hx hh
     obtain⟨rfl,⟨v1bx,Zbx⟩⟩:=hx
     obtain⟨r35,hr35,hh⟩:=ah hh
     obtain⟨r36,hr36,hh⟩:=ah hh
     cases hh
     try simp only[aK,seval,hr1,Zbx,hr35,hr36]
    ·dsimp only at hx hh
     obtain⟨rfl,hE⟩:=hx
     cases hh
     try simp only[bO,bE,bV,ey,ew,dm,dn]
     exact hE
 ·clear hh
  have hh:=ho2
  try simp only[aK,seval,hr1]
  refine sp bc hh (fun _ hh =>?_) (fun _ hh =>?_)
  ·cases hh
   try simp only[aK,seval,hr1]
   rw[au]
   refine⟨_,rfl,?_⟩
   refine⟨0,?_,?_,?_⟩
   all_goals first|rfl|(simp only[aK,seval,hr1]<;>rfl)
  ·cases hh
   try simp only[aK,seval,hr1]
   rw[au]
   refine⟨_,rfl,?_⟩
   refine⟨0,?_,?_,?_⟩
   all_goals first|rfl|(simp only[aK,seval,hr1]<;>rfl)
theorem rU:bX Try.prog 11 mI:=bX.of (mode := .clean) tok Iw mixed Try.func11 (by kernel_rfl) ⟨by kernel_rfl,by kernel_rfl⟩ (fun _=>aeX (by kernel_rfl)) (fun x r h=>My x r h)
noncomputable def lh:=fR (fO (cN ay)) (fun x:ak=>gg x) (fun r:Bool =>.clean (.bool r))
theorem pK (p0_0:Int) (p0_1:(List Int)) (p0_2:Int) (p0_3:(List Int)):lh none [.agg [.int .i64 p0_0,.sl false false p0_1.length (ae (eI .i64) p0_1),.int .i64 p0_2,.sl false false p0_3.length (ae (eI .i64) p0_3)]]=(gg (ak.mk (al.mk p0_0 p0_1) (al.mk p0_2 p0_3))).map fun r:Bool=>(.clean (.bool r),none):=aU _ _ _ ((ak.mk (al.mk p0_0 p0_1) (al.mk p0_2 p0_3)))
noncomputable def iU:Env:=(Am.ext a7 22 false dU)
theorem wG:bB Try.prog iU:=(bB.none.add eG false)
theorem yp:type_of% (ai @w<|ai @bU<|@iU.eq_1):=⟨@w,@bU,@iU.eq_1⟩
theorem xJ (p0:ak) (r:Bool) (hh:gg p0=some r):ba .clean tab iU FU Try.f68 none [.agg [.int .i64 p0.aL.ag,.sl false false p0.aL.aa.length (ae (eI .i64) p0.aL.aa),.int .i64 p0.aM.ag,.sl false false p0.aM.aa.length (ae (eI .i64) p0.aM.aa)]]=some (.clean (.bool r),none):=by
 refine aC rfl Try.ntmps68 Try.results68 ?_
 unfold gg at hh
 obtain⟨r1,hr1,hh⟩:=ah hh
 cases hh
 try simp only[yp,seval,hr1]
theorem wM:bX Try.prog 68 lh:=bX.of (mode := .clean) tok wG mixed Try.func68 (by kernel_rfl) ⟨by kernel_rfl,by kernel_rfl⟩ (fun _=>aeX (by kernel_rfl)) (fun x r h=>xJ x r h)
noncomputable def dD:=fR (iO (nc ay) (fO (aFn 68))) (fun x:(List ak)×Unit=>bN x.1) (fun r:Int =>.clean (.int .i64 r))
theorem fH (p0:(List ak)):dD none [.sl false false p0.length (ae ay p0),.fn 68]=(bN p0).map fun r:Int=>(.clean (.int .i64 r),none):=aU _ _ _ (p0,())
noncomputable def cA:Env:=(Am.ext a7 68 false lh)
theorem jW:bB Try.prog cA:=(bB.none.add wM false)
theorem aO:type_of% (ai @w<|ai @pK<|@cA.eq_1):=⟨@w,@pK,@cA.eq_1⟩
theorem kr (p0:(List ak)) (r:Int) (hh:bN p0=some r):ba .clean tab cA FU Try.f67 none [.sl false false p0.length (ae ay p0),.fn 68]=some (.clean (.int .i64 r),none):=by
 refine aC rfl Try.ntmps67 Try.results67 ?_
 unfold bN at hh
 try simp only[aO,seval]
 obtain⟨o5,ho5,hh⟩:=ah hh
 refine aB (fun s t H e=>match s with|s8a=>t 0=.sl false false p0.length (ae ay p0)∧t 1=.fn 68∧t 7=.int .i64 (p0.length:Int)∧t 8=.int .i64 s8a) (fun o x t H e=>match o with|(.inl _)=>x=.exit 0|(.inr r)=>x=.ret∧jd .clean tab none [.tmp 4] ⟨t,EH H,e⟩=some (.clean (.int .i64 r),none)) ho5 ?_ ?_ ?_
 ·refine⟨?_,?_,?_,?_⟩
  all_goals first|rfl|(simp only[aO,seval]<;>rfl)
 ·rintro s8a t H e Za c hh
  simp only[ct]at hh
  try simp only[aO,seval,Za]
  refine sp aq hh (fun _ hh =>?_) (fun _ hh =>?_)
  ·obtain⟨x7,hx7,hh⟩:=ah hh
   have ax7:=bK ay hx7
   simp only[bC]at ax7
   obtain⟨r8,hr8,hh⟩:=ah hh
   try simp only[aO,seval,Za,ax7,hr8]
   refine sp aq hh (fun _ hh =>?_) (fun _ hh =>?_)
   ·cases hh
    try simp only[aO,seval,Za,ax7,hr8]
    refine IG ⟨rfl,?_⟩
    try simp only[aO,seval,Za,ax7,hr8]
   ·cases hh
    try simp only[aO,seval,Za,ax7,hr8]
    refine jz ?_
    refine⟨?_,?_,?_,?_⟩
    all_goals first|rfl|(simp only[aO,seval,Za,ax7,hr8]<;>rfl)
  ·cases hh
   try simp only[aO,seval,Za]
   refine kK ?_
   exact rfl
 ·rintro x t H e hx
  rcases o5 with _|ra
  ·dsimp only at hx hh
   subst hx
   cases hh
   try simp only[aO,seval]
  ·dsimp only at hx hh
   obtain⟨rfl,hE⟩:=hx
   cases hh
   try simp only[bO,bE,bV,ey,ew,dm,dn]
   exact hE
theorem j1:bX Try.prog 67 dD:=bX.of (mode := .clean) tok jW mixed Try.func67 (by kernel_rfl) ⟨by kernel_rfl,by kernel_rfl⟩ (fun _=>aeX (by kernel_rfl)) (fun x r h=>kr x.1 r h)
noncomputable def de:=fR (iO (nc ay) (fO (aFn 68))) (fun x:(List ak)×Unit=>bx x.1) (fun r:Bool =>.clean (.bool r))
theorem eT (p0:(List ak)):de none [.sl false false p0.length (ae ay p0),.fn 68]=(bx p0).map fun r:Bool=>(.clean (.bool r),none):=aU _ _ _ (p0,())
noncomputable def cg:Env:=(Am.ext a7 67 false dD)
theorem jg:bB Try.prog cg:=(bB.none.add j1 false)
theorem jM:type_of% (ai @w<|ai @fH<|@cg.eq_1):=⟨@w,@fH,@cg.eq_1⟩
theorem jA (p0:(List ak)) (r:Bool) (hh:bx p0=some r):ba .clean tab cg FU Try.f36 none [.sl false false p0.length (ae ay p0),.fn 68]=some (.clean (.bool r),none):=by
 refine aC rfl Try.ntmps36 Try.results36 ?_
 unfold bx at hh
 obtain⟨r1,hr1,hh⟩:=ah hh
 cases hh
 try simp only[jM,seval,hr1]
theorem jk:bX Try.prog 36 de:=bX.of (mode := .clean) tok jg mixed Try.func36 (by kernel_rfl) ⟨by kernel_rfl,by kernel_rfl⟩ (fun _=>aeX (by kernel_rfl)) (fun x r h=>jA x.1 r h)
noncomputable def j6:=fR (iO (nc ay) (fO (aI .i64))) (fun x:(List ak)×Int=>eJ x.1 x.2) (fun r:Bool =>.clean (.bool r))
theorem kf (p0:(List ak)) (p1:Int):j6 none [.sl false false p0.length (ae ay p0),.int .i64 p1]=(eJ p0 p1).map fun r:Bool=>(.clean (.bool r),none):=aU _ _ _ (p0,p1)
noncomputable def kb:Env:=(Am.ext a7 36 false de)
theorem yR:bB Try.prog kb:=(bB.none.add jk false)
theorem nn:type_of% (ai @w<|ai @eT<|@kb.eq_1):=⟨@w,@eT,@kb.eq_1⟩
theorem AJ (p0:(List ak)) (p1:Int) (r:Bool) (hh:eJ p0 p1=some r):ba .clean tab kb FU Try.f39 none [.sl false false p0.length (ae ay p0),.int .i64 p1]=some (.clean (.bool r),none):=by
 refine aC rfl Try.ntmps39 Try.results39 ?_
 unfold eJ at hh
 try simp only[nn,seval]
 refine sp ec hh (fun _ hh =>?_) (fun _ hh =>?_)
 ·obtain⟨r2,hr2,hh⟩:=ah hh
  cases hh
  try simp only[nn,seval,hr2]
 ·cases hh
  try simp only[nn,seval]
theorem qp:bX Try.prog 39 j6:=bX.of (mode := .clean) tok yR mixed Try.func39 (by kernel_rfl) ⟨by kernel_rfl,by kernel_rfl⟩ (fun _=>aeX (by kernel_rfl)) (fun x r h=>AJ x.1 x.2 r h)
noncomputable def s5:=fR (fO (cN ns)) (fun x:bW=>jC x) (fun r:(List Int) =>.clean (.sl false false r.length (ae (eI .i64) r)))
theorem Ai (p0_0:Int) (p0_1:(List dr)):s5 none [.agg [.int .i64 p0_0,.sl false false p0_1.length (ae a8 p0_1)]]=(jC (bW.mk p0_0 p0_1)).map fun r:(List Int)=>(.clean (.sl false false r.length (ae (eI .i64) r)),none):=aU _ _ _ ((bW.mk p0_0 p0_1))
noncomputable def pq:Env:=(Am.xO 18 (3,1,0) (Am.ext (Am.ext (Am.ext a7 11 false mI) 20 false mH) 37 false oZ))
theorem Iv:bB Try.prog pq:=(bB.xO (((bB.none.add rU false).add rT false).add xQ false) 18 (3,1,0))
theorem aP:type_of% (ai @w<|ai @kP<|ai @kO<|ai @pH<|@pq.eq_1):=⟨@w,@kP,@kO,@pH,@pq.eq_1⟩
theorem Mx (p0:bW) (r:(List Int)) (hh:jC p0=some r):ba .clean tab pq FU Try.f45 none [.agg [.int .i64 p0.aG,.sl false false p0.av.length (ae a8 p0.av)]]=some (.clean (.sl false false r.length (ae (eI .i64) r)),none):=by
 refine aC rfl Try.ntmps45 Try.results45 ?_
 unfold jC at hh
 obtain⟨r1,hr1,hh⟩:=ah hh
 try simp only[aP,seval,-Int.reduceToNat,hr1]
 refine sp aq hh (fun _ hh =>?_) (fun _ hh =>?_)
 ·cases hh
  try simp only[aP,seval,-Int.reduceToNat,hr1]
 ·obtain⟨x3,hx3,hh⟩:=ah hh
  have q4n:=Sf (E:=(B7 (eI .i64))) (ty':=3) (s:=1) (f:=0) (k := .i64) Jn (by rfl) rfl rfl rfl rfl rfl hx3
  obtain⟨q4a,q4b,q4c,q4d,q4e⟩:=mk_one (B7 (eI .i64)) hx3
  try simp only[aP,seval,-Int.reduceToNat,hr1,q4n,q4a]
  obtain⟨o11,ho11,hh⟩:=ah hh
  refine aB (fun s t H e=>match s with|(s22a,l18a)=>∃v1a:Nat,∃v18a:Nat,∃vn18a:Nat,t 1=.ptr 1 v1a 0∧t 3=.buf 18 v18a 1 0 (l18a).length∧t 20=.sl false false p0.av.length (ae a8 p0.av)∧t 21=.int .i64 (p0.av.length:Int)∧t 22=.int .i64 s22a∧H 1=some ⟨v1a,24,[.int .i64 p0.aG,.sl false false p0.av.length (ae a8 p0.av)],false,false,false⟩∧H 18=some ⟨v18a,33,[.nr 3 1 vn18a (ae (B7 (eI .i64)) l18a)],false,true,true⟩∧vn18a<=4*e) (fun o x t H e=>match o with|l18ax=>x=.exit 0∧∃v1ax:Nat,∃v18ax:Nat,∃vn18ax:Nat,t 1=.ptr 1 v1ax 0∧t 3=.buf 18 v18ax 1 0 (l18ax).length∧H 1=some ⟨v1ax,24,[.int .i64 p0.aG,.sl false false p0.av.length (ae a8 p0.av)],false,false,false⟩∧H 18=some ⟨v18ax,33,[.nr 3 1 vn18ax (ae (B7 (eI .i64)) l18ax)],false,true,true⟩∧vn18ax<=4*e) ho11 ?_ ?_ ?_
  ·refine⟨0,2,4*(2)+2,?_,?_,?_,?_,?_,?_,?_,?_⟩
   all_goals (first|rfl|omega|(simp only[aP,seval,-Int.reduceToNat,hr1,q4n,q4a]<;>rfl))
  ·rintro⟨s22a,l18a⟩ t H e ⟨v1a,v18a,vn18a,Za⟩ c hh
   simp only[jD]at hh
   try simp only[aP,seval,-Int.reduceToNat,hr1,q4n,q4a,Za]
   refine sp aq hh (fun _ hh =>?_) (fun _ hh =>?_)
   ·obtain⟨x13,hx13,hh⟩:=ah hh
    have ax13:=bK a8 hx13
    simp only[bC]at ax13
    obtain⟨x14,hx14,hh⟩:=ah hh
    have ax14:=bK (B7 (eI .i64)) hx14
    simp only[bC]at ax14
    obtain⟨x15,hx15,hh⟩:=ah hh
    obtain⟨q16a,q16b,q16c,q16d⟩:=iS (eI .i64) hx15
    simp only[bC]at q16b
    have ax14:=bK (B7 (eI .i64)) hx14
    simp only[bC]at ax14
    have p17:=Nq (B7 (eI .i64)) (x':=x15) 0 .und (.nx x15.length (ae (eI .i64) x15)) hx14 rfl (aeX rfl)
    have lp17:=Sq (B7 (eI .i64)) 0 .und hx14 (aeX rfl)
    simp only[bC,Nat.add_zero]at p17 lp17
    have up17:=p17
    simp only[putCells,List.length_cons,List.length_nil,ad4,Nat.reduceAdd]at up17
    have ulp17:=lp17
    simp only[putCells,List.length_cons,List.length_nil,ad4,Nat.reduceAdd]at ulp17
    have bp17:oW vn18a (e+1+1)=some (4*(e+1+1)+1):=jv (by omega)
    try simp only[aP,seval,-Int.reduceToNat,hr1,q4n,q4a,Za,ax13,ax14,q16a,q16b,q16c,q16d,ax14,p17,up17,lp17,ulp17,bp17]
    refine bn (by kernel_rfl) ?_
    cases hh
    try simp only[aP,seval,-Int.reduceToNat,hr1,q4n,q4a,Za,ax13,ax14,q16a,q16b,q16c,q16d,ax14,p17,up17,lp17,ulp17,bp17]
    refine jz ?_
    refine⟨v1a,v18a,4*(e+1+1)+1,?_,?_,?_,?_,?_,?_,?_,?_⟩
    all_goals (first|rfl|omega|(simp only[aP,seval,-Int.reduceToNat,hr1,q4n,q4a,Za,ax13,ax14,q16a,q16b,q16c,q16d,ax14,p17,up17,lp17,ulp17,bp17]<;>rfl))
   ·cases hh
    try simp only[aP,seval,-Int.reduceToNat,hr1,q4n,q4a,Za]
    refine kK ?_
    refine⟨rfl,⟨v1a,v18a,vn18a,?_,?_,?_,?_,?_⟩⟩
    all_goals (first|rfl|omega|(simp only[aP,seval,-Int.reduceToNat,hr1,q4n,q4a,Za]<;>rfl))
  ·rintro x t H e hx
   obtain⟨l18ax,rfl⟩:∃z,z=o11:=⟨_,rfl⟩
   dsimp only at hx hh
   obtain⟨rfl,⟨v1ax,v18ax,vn18ax,Zax⟩⟩:=hx
   obtain⟨x18,hx18,hh⟩:=ah hh
   obtain⟨q19a,q19b,q19c,q19d,q19e⟩:=mk_one (eI .i64) hx18
   simp only[bC]at q19d
   obtain⟨r20,hr20,hh⟩:=ah hh
   try simp only[aP,seval,-Int.reduceToNat,hr1,q4n,q4a,Zax,q19a,q19b,q19c,q19d,q19e,hr20]
   obtain⟨o31,ho31,hh⟩:=ah hh
   refine aB (fun s t H e=>match s with|(s46b,l6b,l7b)=>∃v6b:Nat,∃v7b:Nat,∃v18b:Nat,∃vn18b:Nat,∃O7b:Nat,∃C7b:List D,t 3=.buf 18 v18b 1 0 (l18ax).length∧t 6=.buf 6 v6b 1 0 (l6b).length∧t 7=.buf 7 v7b 1 O7b (l7b).length∧t 44=.sl false false r20.length (ae ay r20)∧t 45=.int .i64 (r20.length:Int)∧t 46=.int .i64 s46b∧H 6=some ⟨v6b,3,ae (eI .i64) l6b,false,true,false⟩∧H 7=some ⟨v7b,3,C7b,false,true,false⟩∧H 18=some ⟨v18b,33,[.nr 3 1 vn18b (ae (B7 (eI .i64)) l18ax)],false,true,true⟩∧vn18b<=4*e∧sN (eI .i64) C7b O7b l7b) (fun o x t H e=>match o with|(l6bx,l7bx)=>x=.exit 2∧∃v6bx:Nat,∃v7bx:Nat,∃v18bx:Nat,∃vn18bx:Nat,∃O7bx:Nat,∃C7bx:List D,t 3=.buf 18 v18bx 1 0 (l18ax).length∧t 6=.buf 6 v6bx 1 0 (l6bx).length∧t 7=.buf 7 v7bx 1 O7bx (l7bx).length∧H 6=some ⟨v6bx,3,ae (eI .i64) l6bx,false,true,false⟩∧H 7=some ⟨v7bx,3,C7bx,false,true,false⟩∧H 18=some ⟨v18bx,33,[.nr 3 1 vn18bx (ae (B7 (eI .i64)) l18ax)],false,true,true⟩∧vn18bx<=4*e∧sN (eI .i64) C7bx O7bx l7bx) ho31 ?_ ?_ ?_
   ·refine⟨e,e+1,v18ax,vn18ax,0,(ae (eI .i64) ([])),?_,?_,?_,?_,?_,?_,?_,?_,?_,?_,(sN.self (eI .i64) ([]))⟩
    all_goals (first|rfl|omega|(simp only[aP,seval,-Int.reduceToNat,hr1,q4n,q4a,Zax,q19a,q19b,q19c,q19d,q19e,hr20]<;>rfl))
   ·rintro⟨s46b,l6b,l7b⟩ t H e ⟨v6b,v7b,v18b,vn18b,O7b,C7b,t3b,t6b,t7b,t44b,t45b,t46b,H6b,H7b,H18b,Hn18b,F7b⟩ c hh
    simp only[jE]at hh
    have f1F7b:=F7b.fit
    have f2F7b:=F7b.eq
    simp only[bC]at f1F7b f2F7b
    try simp only[aP,seval,-Int.reduceToNat,hr1,q4n,q4a,q19a,q19b,q19c,q19d,q19e,hr20,t3b,t6b,t7b,t44b,t45b,t46b,H6b,H7b,H18b,Hn18b,f1F7b,f2F7b]
    refine sp aq hh (fun _ hh =>?_) (fun _ hh =>?_)
    ·obtain⟨x33,hx33,hh⟩:=ah hh
     have ax33:=bK ay hx33
     simp only[bC]at ax33
     obtain⟨x34,hx34,hh⟩:=ah hh
     have ax34:=bK (eI .i64) hx34
     simp only[bC]at ax34
     have p35:=dZ (eI .i64) (x':=(-1)) (fo:=0) (cs:=[.int .i64 (-1)]) hx34 rfl (aeX rfl)
     simp only[bC,Nat.add_zero]at p35
     have up35:=p35
     simp only[putCells,List.length_cons,List.length_nil,ad4,Nat.reduceAdd]at up35
     obtain⟨r36,hr36,hh⟩:=ah hh
     try simp only[aP,seval,-Int.reduceToNat,hr1,q4n,q4a,q19a,q19b,q19c,q19d,q19e,hr20,t3b,t6b,t7b,t44b,t45b,t46b,H6b,H7b,H18b,Hn18b,f1F7b,f2F7b,ax33,ax34,p35,up35,hr36]
     refine sp aq hh (fun _ hh =>?_) (fun _ hh =>?_)
     ·obtain⟨x38,hx38,hh⟩:=ah hh
      have ax38:=bK (eI .i64) hx38
      simp only[bC,aff]at ax38
      have p39:=dZ (eI .i64) (x':=0) (fo:=0) (cs:=[.int .i64 0]) hx38 rfl (aeX rfl)
      simp only[bC,Nat.add_zero]at p39
      have up39:=p39
      simp only[putCells,List.length_cons,List.length_nil,ad4,Nat.reduceAdd]at up39
      obtain⟨x40,hx40,hh⟩:=ah hh
      obtain⟨q41a,q41b,q41c,q41d⟩:=iS (eI .i64) hx40
      simp only[bC]at q41b
      cases hh
      try simp only[aP,seval,-Int.reduceToNat,hr1,q4n,q4a,q19a,q19b,q19c,q19d,q19e,hr20,t3b,t6b,t7b,t44b,t45b,t46b,H6b,H7b,H18b,Hn18b,f1F7b,f2F7b,ax33,ax34,p35,up35,hr36,ax38,p39,up39,q41a,q41b,q41c,q41d]
      refine jz ?_
      refine⟨v6b,e+1+1+1+1+1,v18b,vn18b,0,(ae (eI .i64) x40),?_,?_,?_,?_,?_,?_,?_,?_,?_,?_,(sN.self (eI .i64) x40)⟩
      all_goals (first|rfl|omega|(simp only[aP,seval,-Int.reduceToNat,hr1,q4n,q4a,q19a,q19b,q19c,q19d,q19e,hr20,t3b,t6b,t7b,t44b,t45b,t46b,H6b,H7b,H18b,Hn18b,f1F7b,f2F7b,ax33,ax34,p35,up35,hr36,ax38,p39,up39,q41a,q41b,q41c,q41d]<;>rfl))
     ·cases hh
      try simp only[aP,seval,-Int.reduceToNat,hr1,q4n,q4a,q19a,q19b,q19c,q19d,q19e,hr20,t3b,t6b,t7b,t44b,t45b,t46b,H6b,H7b,H18b,Hn18b,f1F7b,f2F7b,ax33,ax34,p35,up35,hr36]
      refine jz ?_
      refine⟨v6b,v7b,v18b,vn18b,O7b,C7b,?_,?_,?_,?_,?_,?_,?_,?_,?_,?_,F7b⟩
      all_goals (first|rfl|omega|(simp only[aP,seval,-Int.reduceToNat,hr1,q4n,q4a,q19a,q19b,q19c,q19d,q19e,hr20,t3b,t6b,t7b,t44b,t45b,t46b,H6b,H7b,H18b,Hn18b,f1F7b,f2F7b,ax33,ax34,p35,up35,hr36]<;>rfl))
    ·cases hh
     try simp only[aP,seval,-Int.reduceToNat,hr1,q4n,q4a,q19a,q19b,q19c,q19d,q19e,hr20,t3b,t6b,t7b,t44b,t45b,t46b,H6b,H7b,H18b,Hn18b,f1F7b,f2F7b]
     refine kK ?_
     refine⟨rfl,⟨v6b,v7b,v18b,vn18b,O7b,C7b,?_,?_,?_,?_,?_,?_,?_,F7b⟩⟩
     all_goals (first|rfl|omega|(simp only[aP,seval,-Int.reduceToNat,hr1,q4n,q4a,q19a,q19b,q19c,q19d,q19e,hr20,t3b,t6b,t7b,t44b,t45b,t46b,H6b,H7b,H18b,Hn18b,f1F7b,f2F7b]<;>rfl))
   ·rintro x t H e hx
    rcases o31 with⟨l6bx,l7bx⟩
    dsimp only at hx hh
    obtain⟨rfl,⟨v6bx,v7bx,v18bx,vn18bx,O7bx,C7bx,t3bx,t6bx,t7bx,H6bx,H7bx,H18bx,Hn18bx,F7bx⟩⟩:=hx
    have f1F7bx:=F7bx.fit
    have f2F7bx:=F7bx.eq
    simp only[bC]at f1F7bx f2F7bx
    try simp only[aP,seval,-Int.reduceToNat,hr1,q4n,q4a,q19a,q19b,q19c,q19d,q19e,hr20,t3bx,t6bx,t7bx,H6bx,H7bx,H18bx,Hn18bx,f1F7bx,f2F7bx]
    obtain⟨o64,ho64,hh⟩:=ah hh
    refine aB (fun s t H e=>match s with|(l6c,l7c)=>∃v6c:Nat,∃v7c:Nat,∃v18c:Nat,∃vn18c:Nat,∃O7c:Nat,∃C7c:List D,t 3=.buf 18 v18c 1 0 (l18ax).length∧t 6=.buf 6 v6c 1 0 (l6c).length∧t 7=.buf 7 v7c 1 O7c (l7c).length∧H 6=some ⟨v6c,3,ae (eI .i64) l6c,false,true,false⟩∧H 7=some ⟨v7c,3,C7c,false,true,false⟩∧H 18=some ⟨v18c,33,[.nr 3 1 vn18c (ae (B7 (eI .i64)) l18ax)],false,true,true⟩∧vn18c<=4*e∧sN (eI .i64) C7c O7c l7c) (fun o x t H e=>match o with|l6cx=>x=.exit 4∧∃v6cx:Nat,t 6=.buf 6 v6cx 1 0 (l6cx).length∧H 6=some ⟨v6cx,3,ae (eI .i64) l6cx,false,true,false⟩) ho64 ?_ ?_ ?_
    ·refine⟨v6bx,v7bx,v18bx,vn18bx,O7bx,C7bx,?_,?_,?_,?_,?_,?_,?_,F7bx⟩
     all_goals (first|rfl|omega|(simp only[aP,seval,-Int.reduceToNat,hr1,q4n,q4a,q19a,q19b,q19c,q19d,q19e,hr20,t3bx,t6bx,t7bx,H6bx,H7bx,H18bx,Hn18bx,f1F7bx,f2F7bx]<;>rfl))
    ·rintro⟨l6c,l7c⟩ t H e ⟨v6c,v7c,v18c,vn18c,O7c,C7c,t3c,t6c,t7c,H6c,H7c,H18c,Hn18c,F7c⟩ c hh
     simp only[jF]at hh
     have f1F7c:=F7c.fit
     have f2F7c:=F7c.eq
     simp only[bC]at f1F7c f2F7c
     try simp only[aP,seval,-Int.reduceToNat,hr1,q4n,q4a,q19a,q19b,q19c,q19d,q19e,hr20,f1F7bx,f2F7bx,t3c,t6c,t7c,H6c,H7c,H18c,Hn18c,f1F7c,f2F7c]
     refine sp aq hh (fun _ hh =>?_) (fun _ hh =>?_)
     ·obtain⟨x66,hx66,hh⟩:=ah hh
      have bx66:=oI hx66
      obtain⟨fx66,restx66,ax66⟩:=F7c.idx hx66
      simp only[bC]at ax66 fx66
      obtain⟨x67,hx67,hh⟩:=ah hh
      obtain⟨q68a,q68b,q68c,q68d,q68e⟩:=WQ (eI .i64) hx67
      simp only[bC]at q68e
      have q68F:=sN.tail F7c hx67
      obtain⟨x69,hx69,hh⟩:=ah hh
      have ax69:=bK (B7 (eI .i64)) hx69
      simp only[bC]at ax69
      try simp only[aP,seval,-Int.reduceToNat,hr1,q4n,q4a,q19a,q19b,q19c,q19d,q19e,hr20,f1F7bx,f2F7bx,t3c,t6c,t7c,H6c,H7c,H18c,Hn18c,f1F7c,f2F7c,bx66,ax66,fx66,q68a,q68b,q68c,q68e,ax69]
      obtain⟨o78,ho78,hh⟩:=ah hh
      refine aB (fun s t H e=>match s with|(s78e,l6e,l7e)=>∃v6e:Nat,∃v7e:Nat,∃v18e:Nat,∃vn18e:Nat,∃O7e:Nat,∃C7e:List D,t 3=.buf 18 v18e 1 0 (l18ax).length∧t 6=.buf 6 v6e 1 0 (l6e).length∧t 7=.buf 7 v7e 1 O7e (l7e).length∧t 10=.int .i64 x66∧t 76=.buf (NK 18 ((x66:Int).toNat*1)) vn18e 1 0 (x69).length∧t 77=.int .i64 ((x69).length:Int)∧t 78=.int .i64 s78e∧H 6=some ⟨v6e,3,ae (eI .i64) l6e,false,true,false⟩∧H 7=some ⟨v7e,3,C7e,false,true,false⟩∧H 18=some ⟨v18e,33,[.nr 3 1 vn18e (ae (B7 (eI .i64)) l18ax)],false,true,true⟩∧vn18e<=4*e∧sN (eI .i64) C7e O7e l7e) (fun o x t H e=>match o with|(l6ex,l7ex)=>x=.exit 6∧∃v6ex:Nat,∃v7ex:Nat,∃v18ex:Nat,∃vn18ex:Nat,∃O7ex:Nat,∃C7ex:List D,t 3=.buf 18 v18ex 1 0 (l18ax).length∧t 6=.buf 6 v6ex 1 0 (l6ex).length∧t 7=.buf 7 v7ex 1 O7ex (l7ex).length∧H 6=some ⟨v6ex,3,ae (eI .i64) l6ex,false,true,false⟩∧H 7=some ⟨v7ex,3,C7ex,false,true,false⟩∧H 18=some ⟨v18ex,33,[.nr 3 1 vn18ex (ae (B7 (eI .i64)) l18ax)],false,true,true⟩∧vn18ex<=4*e∧sN (eI .i64) C7ex O7ex l7ex) ho78 ?_ ?_ ?_
      ·refine⟨v6c,e+1+1,v18c,vn18c,(O7c+(1:Int).toNat*1),(C7c),?_,?_,?_,?_,?_,?_,?_,?_,?_,?_,?_,q68F⟩
       all_goals (first|rfl|omega|(simp only[aP,seval,-Int.reduceToNat,hr1,q4n,q4a,q19a,q19b,q19c,q19d,q19e,hr20,f1F7bx,f2F7bx,t3c,t6c,t7c,H6c,H7c,H18c,Hn18c,f1F7c,f2F7c,bx66,ax66,fx66,q68a,q68b,q68c,q68e,ax69,q68d]<;>rfl))
      ·rintro⟨s78e,l6e,l7e⟩ t H e ⟨v6e,v7e,v18e,vn18e,O7e,C7e,t3e,t6e,t7e,t10e,t76e,t77e,t78e,H6e,H7e,H18e,Hn18e,F7e⟩ c hh
       simp only[jG]at hh
       have f1F7e:=F7e.fit
       have f2F7e:=F7e.eq
       simp only[bC]at f1F7e f2F7e
       try simp only[aP,seval,-Int.reduceToNat,hr1,q4n,q4a,q19a,q19b,q19c,q19d,q19e,hr20,f1F7bx,f2F7bx,f1F7c,f2F7c,bx66,ax66,fx66,q68a,q68b,q68c,q68e,ax69,q68d,t3e,t6e,t7e,t10e,t76e,t77e,t78e,H6e,H7e,H18e,Hn18e,f1F7e,f2F7e]
       refine sp aq hh (fun _ hh =>?_) (fun _ hh =>?_)
       ·obtain⟨x80,hx80,hh⟩:=ah hh
        have ax80:=bK (eI .i64) hx80
        simp only[bC]at ax80
        obtain⟨x81,hx81,hh⟩:=ah hh
        have ax81:=bK (eI .i64) hx81
        simp only[bC]at ax81
        try simp only[aP,seval,-Int.reduceToNat,hr1,q4n,q4a,q19a,q19b,q19c,q19d,q19e,hr20,f1F7bx,f2F7bx,f1F7c,f2F7c,bx66,ax66,fx66,q68a,q68b,q68c,q68e,ax69,q68d,t3e,t6e,t7e,t10e,t76e,t77e,t78e,H6e,H7e,H18e,Hn18e,f1F7e,f2F7e,ax80,ax81]
        refine sp aq hh (fun _ hh =>?_) (fun _ hh =>?_)
        ·obtain⟨x83,hx83,hh⟩:=ah hh
         have ax83:=bK (eI .i64) hx83
         simp only[bC]at ax83
         have ax81:=bK (eI .i64) hx81
         simp only[bC]at ax81
         have p84:=dZ (eI .i64) (x':=IntKind.i64.wrap (x83+1)) (fo:=0) (cs:=[.int .i64 (IntKind.i64.wrap (x83+1))]) hx81 rfl (aeX rfl)
         simp only[bC,Nat.add_zero]at p84
         have up84:=p84
         simp only[putCells,List.length_cons,List.length_nil,ad4,Nat.reduceAdd]at up84
         obtain⟨x85,hx85,hh⟩:=ah hh
         obtain⟨q86a,q86b,q86c,q86d⟩:=iS (eI .i64) hx85
         simp only[bC]at q86b
         cases hh
         try simp only[aP,seval,-Int.reduceToNat,hr1,q4n,q4a,q19a,q19b,q19c,q19d,q19e,hr20,f1F7bx,f2F7bx,f1F7c,f2F7c,bx66,ax66,fx66,q68a,q68b,q68c,q68e,ax69,q68d,t3e,t6e,t7e,t10e,t76e,t77e,t78e,H6e,H7e,H18e,Hn18e,f1F7e,f2F7e,ax80,ax81,ax83,ax81,p84,up84,q86a,q86b,q86c,q86d]
         refine jz ?_
         refine⟨v6e,e+1+1+1+1,v18e,vn18e,0,(ae (eI .i64) x85),?_,?_,?_,?_,?_,?_,?_,?_,?_,?_,?_,(sN.self (eI .i64) x85)⟩
         all_goals (first|rfl|omega|(simp only[aP,seval,-Int.reduceToNat,hr1,q4n,q4a,q19a,q19b,q19c,q19d,q19e,hr20,f1F7bx,f2F7bx,f1F7c,f2F7c,bx66,ax66,fx66,q68a,q68b,q68c,q68e,ax69,q68d,t3e,t6e,t7e,t10e,t76e,t77e,t78e,H6e,H7e,H18e,Hn18e,f1F7e,f2F7e,ax80,ax81,ax83,ax81,p84,up84,q86a,q86b,q86c,q86d]<;>rfl))
        ·cases hh
         try simp only[aP,seval,-Int.reduceToNat,hr1,q4n,q4a,q19a,q19b,q19c,q19d,q19e,hr20,f1F7bx,f2F7bx,f1F7c,f2F7c,bx66,ax66,fx66,q68a,q68b,q68c,q68e,ax69,q68d,t3e,t6e,t7e,t10e,t76e,t77e,t78e,H6e,H7e,H18e,Hn18e,f1F7e,f2F7e,ax80,ax81]
         refine jz ?_
         refine⟨v6e,v7e,v18e,vn18e,O7e,C7e,?_,?_,?_,?_,?_,?_,?_,?_,?_,?_,?_,F7e⟩
         all_goals (first|rfl|omega|(simp only[aP,seval,-Int.reduceToNat,hr1,q4n,q4a,q19a,q19b,q19c,q19d,q19e,hr20,f1F7bx,f2F7bx,f1F7c,f2F7c,bx66,ax66,fx66,q68a,q68b,q68c,q68e,ax69,q68d,t3e,t6e,t7e,t10e,t76e,t77e,t78e,H6e,H7e,H18e,Hn18e,f1F7e,f2F7e,ax80,ax81]<;>rfl))
       ·cases hh
        try simp only[aP,seval,-Int.reduceToNat,hr1,q4n,q4a,q19a,q19b,q19c,q19d,q19e,hr20,f1F7bx,f2F7bx,f1F7c,f2F7c,bx66,ax66,fx66,q68a,q68b,q68c,q68e,ax69,q68d,t3e,t6e,t7e,t10e,t76e,t77e,t78e,H6e,H7e,H18e,Hn18e,f1F7e,f2F7e]
        refine kK ?_
        refine⟨rfl,⟨v6e,v7e,v18e,vn18e,O7e,C7e,?_,?_,?_,?_,?_,?_,?_,F7e⟩⟩
        all_goals (first|rfl|omega|(simp only[aP,seval,-Int.reduceToNat,hr1,q4n,q4a,q19a,q19b,q19c,q19d,q19e,hr20,f1F7bx,f2F7bx,f1F7c,f2F7c,bx66,ax66,fx66,q68a,q68b,q68c,q68e,ax69,q68d,t3e,t6e,t7e,t10e,t76e,t77e,t78e,H6e,H7e,H18e,Hn18e,f1F7e,f2F7e]<;>rfl))
      ·rintro x t H e hx
       rcases o78 with⟨l6ex,l7ex⟩
       dsimp only at hx hh
       obtain⟨rfl,⟨v6ex,v7ex,v18ex,vn18ex,O7ex,C7ex,t3ex,t6ex,t7ex,H6ex,H7ex,H18ex,Hn18ex,F7ex⟩⟩:=hx
       have f1F7ex:=F7ex.fit
       have f2F7ex:=F7ex.eq
       simp only[bC]at f1F7ex f2F7ex
       cases hh
       try simp only[aP,seval,-Int.reduceToNat,hr1,q4n,q4a,q19a,q19b,q19c,q19d,q19e,hr20,f1F7bx,f2F7bx,f1F7c,f2F7c,bx66,ax66,fx66,q68a,q68b,q68c,q68e,ax69,q68d,q68d,t3ex,t6ex,t7ex,H6ex,H7ex,H18ex,Hn18ex,f1F7ex,f2F7ex]
       refine jz ?_
       refine⟨v6ex,v7ex,v18ex,vn18ex,O7ex,C7ex,?_,?_,?_,?_,?_,?_,?_,F7ex⟩
       all_goals (first|rfl|omega|(simp only[aP,seval,-Int.reduceToNat,hr1,q4n,q4a,q19a,q19b,q19c,q19d,q19e,hr20,f1F7bx,f2F7bx,f1F7c,f2F7c,bx66,ax66,fx66,q68a,q68b,q68c,q68e,ax69,q68d,q68d,t3ex,t6ex,t7ex,H6ex,H7ex,H18ex,Hn18ex,f1F7ex,f2F7ex]<;>rfl))
     ·cases hh
      try simp only[aP,seval,-Int.reduceToNat,hr1,q4n,q4a,q19a,q19b,q19c,q19d,q19e,hr20,f1F7bx,f2F7bx,t3c,t6c,t7c,H6c,H7c,H18c,Hn18c,f1F7c,f2F7c]
      refine kK ?_
      refine⟨rfl,⟨v6c,?_,?_⟩⟩
      all_goals first|rfl|(simp only[aP,seval,-Int.reduceToNat,hr1,q4n,q4a,q19a,q19b,q19c,q19d,q19e,hr20,f1F7bx,f2F7bx,t3c,t6c,t7c,H6c,H7c,H18c,Hn18c,f1F7c,f2F7c]<;>rfl)
    ·rintro x t H e hx
     obtain⟨l6cx,rfl⟩:∃z,z=o64:=⟨_,rfl⟩
     dsimp only at hx hh
     obtain⟨rfl,⟨v6cx,Zcx⟩⟩:=hx
     cases hh
     try simp only[aP,seval,-Int.reduceToNat,hr1,q4n,q4a,q19a,q19b,q19c,q19d,q19e,hr20,f1F7bx,f2F7bx,Zcx]
theorem I4:bX Try.prog 45 s5:=bX.of (mode := .clean) tok Iv mixed Try.func45 (by kernel_rfl) ⟨by kernel_rfl,by kernel_rfl⟩ (fun _=>aeX (by kernel_rfl)) (fun x r h=>Mx x r h)
noncomputable def pW:=fR (fO (cN ns)) (fun x:bW=>ia x) (fun r:(List Int) =>.clean (.sl false false r.length (ae (eI .i64) r)))
theorem vX (p0_0:Int) (p0_1:(List dr)):pW none [.agg [.int .i64 p0_0,.sl false false p0_1.length (ae a8 p0_1)]]=(ia (bW.mk p0_0 p0_1)).map fun r:(List Int)=>(.clean (.sl false false r.length (ae (eI .i64) r)),none):=aU _ _ _ ((bW.mk p0_0 p0_1))
noncomputable def mz:Env:=(Am.ext a7 45 false s5)
theorem Cw:bB Try.prog mz:=(bB.none.add I4 false)
theorem dA:type_of% (ai @w<|ai @Ai<|@mz.eq_1):=⟨@w,@Ai,@mz.eq_1⟩
theorem Es (p0:bW) (r:(List Int)) (hh:ia p0=some r):ba .clean tab mz FU Try.f14 none [.agg [.int .i64 p0.aG,.sl false false p0.av.length (ae a8 p0.av)]]=some (.clean (.sl false false r.length (ae (eI .i64) r)),none):=by
 refine aC rfl Try.ntmps14 Try.results14 ?_
 unfold ia at hh
 obtain⟨r1,hr1,hh⟩:=ah hh
 try simp only[dA,seval,hr1]
 obtain⟨o7,ho7,hh⟩:=ah hh
 refine aB (fun s t H e=>match s with|(s9a,l3a)=>∃v3a:Nat,t 3=.buf 3 v3a 1 0 (l3a).length∧t 7=.sl false false r1.length (ae (eI .i64) r1)∧t 8=.int .i64 (r1.length:Int)∧t 9=.int .i64 s9a∧H 3=some ⟨v3a,3,ae (eI .i64) l3a,false,true,false⟩) (fun o x t H e=>match o with|l3ax=>x=.exit 0∧∃v3ax:Nat,t 3=.buf 3 v3ax 1 0 (l3ax).length∧H 3=some ⟨v3ax,3,ae (eI .i64) l3ax,false,true,false⟩) ho7 ?_ ?_ ?_
 ·refine⟨1,?_,?_,?_,?_,?_⟩
  all_goals first|rfl|(simp only[dA,seval,hr1]<;>rfl)
 ·rintro⟨s9a,l3a⟩ t H e ⟨v3a,Za⟩ c hh
  simp only[gU]at hh
  try simp only[dA,seval,hr1,Za]
  refine sp aq hh (fun _ hh =>?_) (fun _ hh =>?_)
  ·obtain⟨x9,hx9,hh⟩:=ah hh
   have ax9:=bK (eI .i64) hx9
   simp only[bC]at ax9
   try simp only[dA,seval,hr1,Za,ax9]
   refine sp aq hh (fun _ hh =>?_) (fun _ hh =>?_)
   ·obtain⟨x11,hx11,hh⟩:=ah hh
    obtain⟨q12a,q12b,q12c,q12d⟩:=iS (eI .i64) hx11
    simp only[bC]at q12b
    cases hh
    try simp only[dA,seval,hr1,Za,ax9,q12a,q12b,q12c,q12d]
    refine jz ?_
    refine⟨e+1+1+1,?_,?_,?_,?_,?_⟩
    all_goals first|rfl|(simp only[dA,seval,hr1,Za,ax9,q12a,q12b,q12c,q12d]<;>rfl)
   ·cases hh
    try simp only[dA,seval,hr1,Za,ax9]
    refine jz ?_
    refine⟨v3a,?_,?_,?_,?_,?_⟩
    all_goals first|rfl|(simp only[dA,seval,hr1,Za,ax9]<;>rfl)
  ·cases hh
   try simp only[dA,seval,hr1,Za]
   refine kK ?_
   refine⟨rfl,⟨v3a,?_,?_⟩⟩
   all_goals first|rfl|(simp only[dA,seval,hr1,Za]<;>rfl)
 ·rintro x t H e hx
  obtain⟨l3ax,rfl⟩:∃z,z=o7:=⟨_,rfl⟩
  dsimp only at hx hh
  obtain⟨rfl,⟨v3ax,Zax⟩⟩:=hx
  cases hh
  try simp only[dA,seval,hr1,Zax]
theorem De:bX Try.prog 14 pW:=bX.of (mode := .clean) tok Cw mixed Try.func14 (by kernel_rfl) ⟨by kernel_rfl,by kernel_rfl⟩ (fun _=>aeX (by kernel_rfl)) (fun x r h=>Es x r h)
noncomputable def lj:=fR (iO (cN ns) (fO (nc ay))) (fun x:bW×(List ak)=>cF x.1 x.2) (fun r:(List aw) =>.clean (.sl false false r.length (ae cz r)))
theorem pL (p0_0:Int) (p0_1:(List dr)) (p1:(List ak)):lj none [.agg [.int .i64 p0_0,.sl false false p0_1.length (ae a8 p0_1)],.sl false false p1.length (ae ay p1)]=(cF (bW.mk p0_0 p0_1) p1).map fun r:(List aw)=>(.clean (.sl false false r.length (ae cz r)),none):=aU _ _ _ ((bW.mk p0_0 p0_1),p1)
noncomputable def iV:Env:=(Am.xO 11 (74,5,4) a7)
theorem oH:bB Try.prog iV:=(bB.xO bB.none 11 (74,5,4))
theorem bm:type_of% (ai @w<|@iV.eq_1):=⟨@w,@iV.eq_1⟩
theorem pD (p0:bW) (p1:(List ak)) (r:(List aw)) (hh:cF p0 p1=some r):sr tab iV FU Try.f40 [.agg [.int .i64 p0.aG,.sl false false p0.av.length (ae a8 p0.av)],.sl false false p1.length (ae ay p1)]=some (69,74,5,5,r.length,ae aE r):=by
 refine Up rfl Try.ntmps40 Try.results40 ?_
 unfold cF at hh
 obtain⟨x1,hx1,hh⟩:=ah hh
 have q2n:=Sf (E:=aE) (ty':=74) (s:=5) (f:=4) (k := .i64) Qi (by rfl) rfl rfl rfl rfl rfl hx1
 obtain⟨q2a,q2b,q2c,q2d,q2e⟩:=mk_one aE hx1
 try simp only[bm,seval,q2n,q2a]
 obtain⟨o8,ho8,hh⟩:=ah hh
 refine aB (fun s t H e=>match s with|(s14a,l11a)=>∃v2a:Nat,∃v11a:Nat,∃vn11a:Nat,t 1=.sl false false p1.length (ae ay p1)∧t 2=.ptr 2 v2a 0∧t 5=.buf 11 v11a 5 0 (l11a).length∧t 13=.int .i64 ((x1).length:Int)∧t 14=.int .i64 s14a∧H 2=some ⟨v2a,24,[.int .i64 p0.aG,.sl false false p0.av.length (ae a8 p0.av)],false,false,false⟩∧H 11=some ⟨v11a,69,[.nr 74 5 vn11a (ae aE l11a)],false,true,true⟩∧vn11a<=4*e) (fun o x t H e=>match o with|l11ax=>x=.exit 0∧∃v2ax:Nat,∃v11ax:Nat,∃vn11ax:Nat,t 2=.ptr 2 v2ax 0∧t 5=.buf 11 v11ax 5 0 (l11ax).length∧H 2=some ⟨v2ax,24,[.int .i64 p0.aG,.sl false false p0.av.length (ae a8 p0.av)],false,false,false⟩∧H 11=some ⟨v11ax,69,[.nr 74 5 vn11ax (ae aE l11ax)],false,true,true⟩∧vn11ax<=4*e) ho8 ?_ ?_ ?_
 ·refine⟨0,1,4*(1)+2,?_,?_,?_,?_,?_,?_,?_,?_⟩
  all_goals (first|rfl|omega|(simp only[bm,seval,q2n,q2a]<;>rfl))
 ·rintro⟨s14a,l11a⟩ t H e ⟨v2a,v11a,vn11a,Za⟩ c hh
  simp only[fI]at hh
  try simp only[bm,seval,q2n,q2a,Za]
  refine sp aq hh (fun _ hh =>?_) (fun _ hh =>?_)
  ·obtain⟨x10,hx10,hh⟩:=ah hh
   have ax10:=bK ay hx10
   simp only[bC]at ax10
   obtain⟨x11,hx11,hh⟩:=ah hh
   have ax11:=bK aE hx11
   simp only[bC]at ax11
   have fq13:=iA aE 0 4 (aeX rfl) hx11
   simp only[bC,Nat.add_zero]at fq13
   have p12:=dZ aE (x':=(aw.mk x10 x11.bl)) (fo:=0) (cs:=[.int .i64 x10.aL.ag,.sl false false x10.aL.aa.length (ae (eI .i64) x10.aL.aa),.int .i64 x10.aM.ag,.sl false false x10.aM.aa.length (ae (eI .i64) x10.aM.aa)]) hx11 rfl (aeX rfl)
   simp only[bC,Nat.add_zero]at p12
   have up12:=p12
   simp only[putCells,List.length_cons,List.length_nil,ad4,Nat.reduceAdd]at up12
   cases hh
   try simp only[bm,seval,q2n,q2a,Za,ax10,ax11,fq13,p12,up12]
   refine jz ?_
   refine⟨v2a,v11a,vn11a,?_,?_,?_,?_,?_,?_,?_,?_⟩
   all_goals (first|rfl|omega|(simp only[bm,seval,q2n,q2a,Za,ax10,ax11,fq13,p12,up12]<;>rfl))
  ·cases hh
   try simp only[bm,seval,q2n,q2a,Za]
   refine kK ?_
   refine⟨rfl,⟨v2a,v11a,vn11a,?_,?_,?_,?_,?_⟩⟩
   all_goals (first|rfl|omega|(simp only[bm,seval,q2n,q2a,Za]<;>rfl))
 ·rintro x t H e hx
  obtain⟨l11ax,rfl⟩:∃z,z=o8:=⟨_,rfl⟩
  dsimp only at hx hh
  obtain⟨rfl,⟨v2ax,v11ax,vn11ax,Zax⟩⟩:=hx
  try simp only[bm,seval,q2n,q2a,Zax]
  obtain⟨o22,ho22,hh⟩:=ah hh
  refine aB (fun s t H e=>match s with|(s29b,l11b)=>∃v11b:Nat,∃vn11b:Nat,t 5=.buf 11 v11b 5 0 (l11b).length∧t 27=.sl false false p0.av.length (ae a8 p0.av)∧t 28=.int .i64 (p0.av.length:Int)∧t 29=.int .i64 s29b∧H 11=some ⟨v11b,69,[.nr 74 5 vn11b (ae aE l11b)],false,true,true⟩∧vn11b<=4*e) (fun o x t H e=>match o with|l11bx=>x=.exit 2∧∃v11bx:Nat,∃vn11bx:Nat,t 5=.buf 11 v11bx 5 0 (l11bx).length∧H 11=some ⟨v11bx,69,[.nr 74 5 vn11bx (ae aE l11bx)],false,true,true⟩∧vn11bx<=4*e) ho22 ?_ ?_ ?_
  ·refine⟨v11ax,vn11ax,?_,?_,?_,?_,?_,?_⟩
   all_goals (first|rfl|omega|(simp only[bm,seval,q2n,q2a,Zax]<;>rfl))
  ·rintro⟨s29b,l11b⟩ t H e ⟨v11b,vn11b,Zb⟩ c hh
   simp only[fJ]at hh
   try simp only[bm,seval,q2n,q2a,Zb]
   refine sp aq hh (fun _ hh =>?_) (fun _ hh =>?_)
   ·obtain⟨x24,hx24,hh⟩:=ah hh
    have ax24:=bK a8 hx24
    simp only[bC]at ax24
    obtain⟨x25,hx25,hh⟩:=ah hh
    have ax25:=bK aE hx25
    simp only[bC]at ax25
    have aq26:=jh aE 4 hx25
    have fq26:=iA aE 4 1 (aeX rfl) hx25
    simp only[bC]at aq26 fq26
    obtain⟨x27,hx27,hh⟩:=ah hh
    obtain⟨q28a,q28b,q28c,q28d⟩:=iS bo hx27
    simp only[bC]at q28b
    have ax25:=bK aE hx25
    simp only[bC]at ax25
    have aq29:=jh aE 4 hx25
    have fq29:=iA aE 4 1 (aeX rfl) hx25
    simp only[bC]at aq29 fq29
    have p30:=Nq aE (x':=(aw.mk x25.aQ x27)) 4 .und (.nx x27.length (ae bo x27)) hx25 rfl (aeX rfl)
    have lp30:=Sq aE 4 .und hx25 (aeX rfl)
    simp only[bC,Nat.add_zero]at p30 lp30
    have up30:=p30
    simp only[putCells,List.length_cons,List.length_nil,ad4,Nat.reduceAdd]at up30
    have ulp30:=lp30
    simp only[putCells,List.length_cons,List.length_nil,ad4,Nat.reduceAdd]at ulp30
    have bp30:oW vn11b (e+1+1)=some (4*(e+1+1)+1):=jv (by omega)
    try simp only[bm,seval,q2n,q2a,Zb,ax24,ax25,aq26,fq26,q28a,q28b,q28c,q28d,ax25,aq29,fq29,p30,up30,lp30,ulp30,bp30]
    refine bn (by kernel_rfl) ?_
    cases hh
    try simp only[bm,seval,q2n,q2a,Zb,ax24,ax25,aq26,fq26,q28a,q28b,q28c,q28d,ax25,aq29,fq29,p30,up30,lp30,ulp30,bp30]
    refine jz ?_
    refine⟨v11b,4*(e+1+1)+1,?_,?_,?_,?_,?_,?_⟩
    all_goals (first|rfl|omega|(simp only[bm,seval,q2n,q2a,Zb,ax24,ax25,aq26,fq26,q28a,q28b,q28c,q28d,ax25,aq29,fq29,p30,up30,lp30,ulp30,bp30]<;>rfl))
   ·cases hh
    try simp only[bm,seval,q2n,q2a,Zb]
    refine kK ?_
    refine⟨rfl,⟨v11b,vn11b,?_,?_,?_⟩⟩
    all_goals (first|rfl|omega|(simp only[bm,seval,q2n,q2a,Zb]<;>rfl))
  ·rintro x t H e hx
   obtain⟨l11bx,rfl⟩:∃z,z=o22:=⟨_,rfl⟩
   dsimp only at hx hh
   obtain⟨rfl,⟨v11bx,vn11bx,Zbx⟩⟩:=hx
   cases hh
   try simp only[bm,seval,q2n,q2a,Zbx]
theorem wN:bX Try.prog 40 lj:=bX.ofW (E:=cz) (EN:=aE) (ty:=69) (t:=74) (s:=5) tok oH mixed Try.func40 (by kernel_rfl) ⟨by kernel_rfl,by kernel_rfl⟩ (fun _=>aeX (by kernel_rfl)) rfl (fun _=>rfl) (fun x=>by simp[cS,vE,fb,bL,AU,rj,uE,xt,tx,l9,rl,pe,pf,rm,pg,ka]) (fun x r h=>pD x.1 x.2 r h)
noncomputable def kg:=di (iO (cN ns) (fO (nc ay))) (fun x:bW×(List ak)=>cF x.1 x.2) (fun r:(List aw)=>(69,74,5,5,r.length,ae aE r))
theorem oP (p0_0:Int) (p0_1:(List dr)) (p1:(List ak)):kg [.agg [.int .i64 p0_0,.sl false false p0_1.length (ae a8 p0_1)],.sl false false p1.length (ae ay p1)]=(cF (bW.mk p0_0 p0_1) p1).map fun r:(List aw)=>(69,74,5,5,r.length,ae aE r):=aaj _ _ _ ((bW.mk p0_0 p0_1),p1)
theorem nw:FOk Try.prog 40 kg:=FOk.of tok oH mixed Try.func40 (by kernel_rfl) ⟨by kernel_rfl,by kernel_rfl⟩ (fun _=>aeX (by kernel_rfl)) (fun x r h=>pD x.1 x.2 r h)
noncomputable def gQ:=fR (iO (cN bo) (fO (aI .i64))) (fun x:dC×Int=>cj x.1 x.2) (fun r:Int =>.clean (.int .i64 r))
theorem kQ (p0_0:Int) (p0_1:Int) (p0_2:(List Int)) (p0_3:Int) (p0_4:(List Int)) (p1:Int):gQ none [.agg [.int .i64 p0_0,.int .i64 p0_1,.sl false false p0_2.length (ae (eI .i64) p0_2),.int .i64 p0_3,.sl false false p0_4.length (ae (eI .i64) p0_4)],.int .i64 p1]=(cj (dC.mk p0_0 (ak.mk (al.mk p0_1 p0_2) (al.mk p0_3 p0_4))) p1).map fun r:Int=>(.clean (.int .i64 r),none):=aU _ _ _ ((dC.mk p0_0 (ak.mk (al.mk p0_1 p0_2) (al.mk p0_3 p0_4))),p1)
noncomputable def eR:Env:=(Am.ext a7 66 false iD)
theorem p5:bB Try.prog eR:=(bB.none.add lJ false)
theorem qA:type_of% (ai @w<|ai @fp<|@eR.eq_1):=⟨@w,@fp,@eR.eq_1⟩
theorem qm (p0:dC) (p1:Int) (r:Int) (hh:cj p0 p1=some r):ba .clean tab eR FU Try.f98 none [.agg [.int .i64 p0.kp,.int .i64 p0.dE.aL.ag,.sl false false p0.dE.aL.aa.length (ae (eI .i64) p0.dE.aL.aa),.int .i64 p0.dE.aM.ag,.sl false false p0.dE.aM.aa.length (ae (eI .i64) p0.dE.aM.aa)],.int .i64 p1]=some (.clean (.int .i64 r),none):=by
 refine aC rfl Try.ntmps98 Try.results98 ?_
 unfold cj at hh
 obtain⟨r1,hr1,hh⟩:=ah hh
 cases hh
 try simp only[qA,seval,hr1]
theorem p7:bX Try.prog 98 gQ:=bX.of (mode := .clean) tok p5 mixed Try.func98 (by kernel_rfl) ⟨by kernel_rfl,by kernel_rfl⟩ (fun _=>aeX (by kernel_rfl)) (fun x r h=>qm x.1 x.2 r h)
noncomputable def ca:=fR (iO (nc bo) (iO (aI .i64) (fO (aFn 98)))) (fun x:(List dC)×Int×Unit=>aR x.1 x.2.1) (fun r:Int×Bool =>.clean (.tup [.int .i64 r.1,.bool r.2]))
theorem dk (p0:(List dC)) (p1:Int):ca none [.sl false false p0.length (ae bo p0),.int .i64 p1,.fn 98]=(aR p0 p1).map fun r:Int×Bool=>(.clean (.tup [.int .i64 r.1,.bool r.2]),none):=aU _ _ _ (p0,p1,())
noncomputable def bG:Env:=(Am.ext a7 98 false gQ)
theorem fV:bB Try.prog bG:=(bB.none.add p7 false)
theorem az:type_of% (ai @w<|ai @kQ<|@bG.eq_1):=⟨@w,@kQ,@bG.eq_1⟩
theorem gq (p0:(List dC)) (p1:Int) (r:Int×Bool) (hh:aR p0 p1=some r):ba .clean tab bG FU Try.f97 none [.sl false false p0.length (ae bo p0),.int .i64 p1,.fn 98]=some (.clean (.tup [.int .i64 r.1,.bool r.2]),none):=by
 refine aC rfl Try.ntmps97 Try.results97 ?_
 unfold aR at hh
 try simp only[az,seval,-Int.reduceToNat]
 obtain⟨o7,ho7,hh⟩:=ah hh
 refine aB (fun s t H e=>match s with|(s9a,s10a)=>t 0=.sl false false p0.length (ae bo p0)∧t 1=.int .i64 p1∧t 2=.fn 98∧t 8=.int .i64 (p0.length:Int)∧t 9=.int .i64 s9a∧t 10=.int .i64 s10a) (fun o x t H e=>match o with|s9ax=>x=.exit 0∧t 0=.sl false false p0.length (ae bo p0)∧t 1=.int .i64 p1∧t 2=.fn 98∧t 8=.int .i64 (p0.length:Int)∧t 9=.int .i64 s9ax) ho7 ?_ ?_ ?_
 ·refine⟨?_,?_,?_,?_,?_,?_⟩
  all_goals first|rfl|(simp only[az,seval,-Int.reduceToNat]<;>rfl)
 ·rintro⟨s9a,s10a⟩ t H e Za c hh
  simp only[bA]at hh
  try simp only[az,seval,-Int.reduceToNat,Za]
  refine sp aq hh (fun _ hh =>?_) (fun _ hh =>?_)
  ·obtain⟨x9,hx9,hh⟩:=ah hh
   have q10:=sk hx9
   obtain⟨x11,hx11,hh⟩:=ah hh
   have ax11:=bK bo hx11
   simp only[bC]at ax11
   obtain⟨r12,hr12,hh⟩:=ah hh
   try simp only[az,seval,-Int.reduceToNat,Za,q10,ax11,hr12]
   refine sp aq hh (fun _ hh =>?_) (fun _ hh =>?_)
   ·cases hh
    try simp only[az,seval,-Int.reduceToNat,Za,q10,ax11,hr12]
    refine jz ?_
    refine⟨?_,?_,?_,?_,?_,?_⟩
    all_goals first|rfl|(simp only[az,seval,-Int.reduceToNat,Za,q10,ax11,hr12]<;>rfl)
   ·cases hh
    try simp only[az,seval,-Int.reduceToNat,Za,q10,ax11,hr12]
    refine jz ?_
    refine⟨?_,?_,?_,?_,?_,?_⟩
    all_goals first|rfl|(simp only[az,seval,-Int.reduceToNat,Za,q10,ax11,hr12]<;>rfl)
  ·cases hh
   try simp only[az,seval,-Int.reduceToNat,Za]
   refine kK ?_
   refine⟨rfl,⟨?_,?_,?_,?_,?_⟩⟩
   all_goals first|rfl|(simp only[az,seval,-Int.reduceToNat,Za]<;>rfl)
 ·rintro x t H e hx
  obtain⟨s9ax,rfl⟩:∃z,z=o7:=⟨_,rfl⟩
  dsimp only at hx hh
  obtain⟨rfl,Zax⟩:=hx
  try simp only[az,seval,-Int.reduceToNat,Zax]
  refine sp ec hh (fun _ hh =>?_) (fun _ hh =>?_)
  ·obtain⟨x15,hx15,hh⟩:=ah hh
   have ax15:=bK bo hx15
   simp only[bC]at ax15
   obtain⟨r16,hr16,hh⟩:=ah hh
   cases hh
   try simp only[az,seval,-Int.reduceToNat,Zax,ax15,hr16]
  ·cases hh
   try simp only[az,seval,-Int.reduceToNat,Zax]
theorem fW:bX Try.prog 97 ca:=bX.of (mode := .clean) tok fV mixed Try.func97 (by kernel_rfl) ⟨by kernel_rfl,by kernel_rfl⟩ (fun _=>aeX (by kernel_rfl)) (fun x r h=>gq x.1 x.2.1 r h)
noncomputable def dS:=Ew 69 74 5 aE (fO (aI .i64)) (fun (q:aw) (x:Int)=>ck q x) (fun r:Int×Bool =>.tup [.int .i64 r.1,.bool r.2])
theorem il (pre post:List D) (p0:aw) (p1:Int):dS 69 74 5 pre.length (pre++(aE.cells p0++post)) [.int .i64 p1]=(ck p0 p1).map fun r=>(.tup [.int .i64 r.2.1,.bool r.2.2],pre++(aE.cells r.1++post)):=IV _ _ _ _ _ _ _ pre post p0 (p1)
noncomputable def fM:Env:=(Am.ext a7 97 false ca)
theorem rM:bB Try.prog fM:=(bB.none.add fW false)
theorem sW:type_of% (ai @w<|ai @ZN<|ai @dk<|@fM.eq_1):=⟨@w,@ZN,@dk,@fM.eq_1⟩
theorem sR (pre post:List D) (p0:aw) (p1:Int) (r:aw×(Int×Bool)) (hh:ck p0 p1=some r):ss tab fM FU Try.f69 69 74 5 pre.length (pre++(aE.cells p0++post)) [.int .i64 p1]=some (.tup [.int .i64 r.2.1,.bool r.2.2],pre++(aE.cells r.1++post)):=by
 refine vu rfl Try.ntmps69 Try.results69 ?_
 rw[cS]
 unfold ck at hh
 obtain⟨r1,hr1,hh⟩:=ah hh
 cases hh
 try simp only[sW,seval,hr1]
theorem cV:XO Try.prog 69 dS:=XO.of tok rM mixed Try.func69 (by kernel_rfl) ⟨by kernel_rfl,by kernel_rfl⟩ (fun _=>aeX (by kernel_rfl)) (fun pre post q x q' r h=>sR pre post q x (q',r) h)
noncomputable def iR:=Zz 74 bo (iO (aI .i64) (fO (aI .i64))) (fun (l:(List dC)) (x:Int×Int)=>fv l x.1 x.2)
theorem pJ (pre post:List D) (p0:(List dC)) (p1 p2:Int):iR (some (.buf 0 0 5 pre.length p0.length,⟨0,74,pre++(ae bo p0++post),false,true,false⟩)) [.int .i64 p1,.int .i64 p2]=(fv p0 p1 p2).map fun r=>(.fresh 74 5 r.length (ae bo r),none):=Wj _ _ _ _ pre post p0 (p1,p2)
theorem oO:bX Try.prog 70 iR:=X2 bo rfl
noncomputable def we:=fR (iO (cN ay) (fO (cN ay))) (fun x:ak×ak=>lx x.1 x.2) (fun r:ak×Int =>.clean (.tup [.agg [.int .i64 r.1.aL.ag,.sl false false r.1.aL.aa.length (ae (eI .i64) r.1.aL.aa),.int .i64 r.1.aM.ag,.sl false false r.1.aM.aa.length (ae (eI .i64) r.1.aM.aa)],.int .i64 r.2]))
theorem Dr (p0_0:Int) (p0_1:(List Int)) (p0_2:Int) (p0_3:(List Int)) (p1_0:Int) (p1_1:(List Int)) (p1_2:Int) (p1_3:(List Int)):we none [.agg [.int .i64 p0_0,.sl false false p0_1.length (ae (eI .i64) p0_1),.int .i64 p0_2,.sl false false p0_3.length (ae (eI .i64) p0_3)],.agg [.int .i64 p1_0,.sl false false p1_1.length (ae (eI .i64) p1_1),.int .i64 p1_2,.sl false false p1_3.length (ae (eI .i64) p1_3)]]=(lx (ak.mk (al.mk p0_0 p0_1) (al.mk p0_2 p0_3)) (ak.mk (al.mk p1_0 p1_1) (al.mk p1_2 p1_3))).map fun r:ak×Int=>(.clean (.tup [.agg [.int .i64 r.1.aL.ag,.sl false false r.1.aL.aa.length (ae (eI .i64) r.1.aL.aa),.int .i64 r.1.aM.ag,.sl false false r.1.aM.aa.length (ae (eI .i64) r.1.aM.aa)],.int .i64 r.2]),none):=aU _ _ _ ((ak.mk (al.mk p0_0 p0_1) (al.mk p0_2 p0_3)),(ak.mk (al.mk p1_0 p1_1) (al.mk p1_2 p1_3)))
noncomputable def rq:Env:=(Am.ext (Am.ext (Am.ext a7 22 false dU) 48 false jt) 49 false oa)
theorem Lg:bB Try.prog rq:=(((bB.none.add eG false).add mD false).add tP false)
theorem fa:type_of% (ai @w<|ai @bU<|ai @gu<|ai @mi<|@rq.eq_1):=⟨@w,@bU,@gu,@mi,@rq.eq_1⟩
theorem Pu (p0:ak) (p1:ak) (r:ak×Int) (hh:lx p0 p1=some r):ba .clean tab rq FU Try.f71 none [.agg [.int .i64 p0.aL.ag,.sl false false p0.aL.aa.length (ae (eI .i64) p0.aL.aa),.int .i64 p0.aM.ag,.sl false false p0.aM.aa.length (ae (eI .i64) p0.aM.aa)],.agg [.int .i64 p1.aL.ag,.sl false false p1.aL.aa.length (ae (eI .i64) p1.aL.aa),.int .i64 p1.aM.ag,.sl false false p1.aM.aa.length (ae (eI .i64) p1.aM.aa)]]=some (.clean (.tup [.agg [.int .i64 r.1.aL.ag,.sl false false r.1.aL.aa.length (ae (eI .i64) r.1.aL.aa),.int .i64 r.1.aM.ag,.sl false false r.1.aM.aa.length (ae (eI .i64) r.1.aM.aa)],.int .i64 r.2]),none):=by
 refine aC rfl Try.ntmps71 Try.results71 ?_
 unfold lx at hh
 obtain⟨r1,hr1,hh⟩:=ah hh
 try simp only[fa,seval,hr1]
 obtain⟨o2,ho2,hh⟩:=ah hh
 refine bF 0 (fun s t H e=>match s with|s6j1=>∃v2j1:Nat,∃v3j1:Nat,∃v4j1:Nat,t 2=.ptr 2 v2j1 0∧t 3=.ptr 3 v3j1 0∧t 4=.ptr 4 v4j1 0∧t 6=.bool s6j1∧H 2=some ⟨v2j1,41,[.int .i64 p0.aL.ag,.sl false false p0.aL.aa.length (ae (eI .i64) p0.aL.aa),.int .i64 p0.aM.ag,.sl false false p0.aM.aa.length (ae (eI .i64) p0.aM.aa)],false,false,false⟩∧H 3=some ⟨v3j1,41,[.int .i64 p1.aL.ag,.sl false false p1.aL.aa.length (ae (eI .i64) p1.aL.aa),.int .i64 p1.aM.ag,.sl false false p1.aM.aa.length (ae (eI .i64) p1.aM.aa)],false,false,false⟩∧H 4=some ⟨v4j1,41,[.int .i64 0,.sl true true 0 [],.int .i64 0,.sl true true 0 []],false,false,false⟩) (fun s=>s=o2) ?_ ?_
 ·rintro s6j1 t H e ⟨v2j1,v3j1,v4j1,Zj1⟩ rfl
  try dsimp only at hh
  try simp only[fa,seval,hr1,Zj1]
  refine sp aq hh (fun _ hh =>?_) (fun _ hh =>?_)
  ·cases hh
   try simp only[fa,seval,hr1,Zj1]
  ·try simp only[fa,seval,hr1,Zj1]
   refine sp aq hh (fun _ hh =>?_) (fun _ hh =>?_)
   ·cases hh
    try simp only[fa,seval,hr1,Zj1]
   ·obtain⟨r5,hr5,hh⟩:=ah hh
    obtain⟨r6,hr6,hh⟩:=ah hh
    obtain⟨r7,hr7,hh⟩:=ah hh
    try simp only[fa,seval,hr1,Zj1,hr5,hr6,hr7]
    refine bn (by kernel_rfl) ?_
    cases hh
    try simp only[fa,seval,hr1,Zj1,hr5,hr6,hr7]
 ·clear hh
  have hh:=ho2
  try simp only[fa,seval,hr1]
  refine sp bc hh (fun _ hh =>?_) (fun _ hh =>?_)
  ·cases hh
   try simp only[fa,seval,hr1]
   rw[au]
   refine⟨_,rfl,?_⟩
   refine⟨0,0,0,?_,?_,?_,?_,?_,?_,?_⟩
   all_goals first|rfl|(simp only[fa,seval,hr1]<;>rfl)
  ·obtain⟨r9,hr9,hh⟩:=ah hh
   cases hh
   try simp only[fa,seval,hr1,hr9]
   rw[au]
   refine⟨_,rfl,?_⟩
   refine⟨0,0,0,?_,?_,?_,?_,?_,?_,?_⟩
   all_goals first|rfl|(simp only[fa,seval,hr1,hr9]<;>rfl)
theorem Nb:bX Try.prog 71 we:=bX.of (mode := .clean) tok Lg mixed Try.func71 (by kernel_rfl) ⟨by kernel_rfl,by kernel_rfl⟩ (fun _=>aeX (by kernel_rfl)) (fun x r h=>Pu x.1 x.2 r h)
noncomputable def gO:=Ew 69 74 5 aE (fO (aI .i64)) (fun (q:aw) (x:Int)=>cZ q x) (fun r:Unit =>.tup [])
noncomputable def fh:Env:=(Am.ext (Am.ext (Am.nM 69 (0,dS) (Am.ext (Am.ext a7 30 false qG) 44 false ki)) 70 true iR) 71 false we)
theorem ql:bB Try.prog fh:=(((bB.nM ((bB.none.add z7 false).add mY false) cV.callable cV.calls).add oO true).add Nb false)
theorem bd:type_of% (ai @w<|ai @ZN<|ai @ZM<|ai @rW<|ai @gF<|ai @Dr<|@fh.eq_1):=⟨@w,@ZN,@ZM,@rW,@gF,@Dr,@fh.eq_1⟩
theorem rQ (pre post:List D) (p0:aw) (p1:Int) (r:aw×(Unit)) (hh:cZ p0 p1=some r):ss tab fh FU Try.f41 69 74 5 pre.length (pre++(aE.cells p0++post)) [.int .i64 p1]=some (.tup [],pre++(aE.cells r.1++post)):=by
 refine vu rfl Try.ntmps41 Try.results41 ?_
 rw[cS]
 unfold cZ at hh
 have i1:=il pre post p0 p1
 simp only[bC]at i1
 obtain⟨r2,hr2,hh⟩:=ah hh
 have bp3:oW 0 (1)=some (4*(1)+1):=jv (by omega)
 try simp only[bd,seval,i1,hr2,bp3]
 refine sp aq hh (fun _ hh =>?_) (fun _ hh =>?_)
 ·cases hh
  try simp only[bd,seval,i1,hr2,bp3]
 ·obtain⟨r5,hr5,hh⟩:=ah hh
  obtain⟨x6,hx6,hh⟩:=ah hh
  have ax6:=bK bo hx6
  simp only[bC]at ax6
  have aq7:=jh bo 1 hx6
  have fq7:=iA bo 1 4 (aeX rfl) hx6
  simp only[bC]at aq7 fq7
  obtain⟨r8,hr8,hh⟩:=ah hh
  try simp only[bd,seval,i1,hr2,bp3,hr5,ax6,aq7,fq7,hr8]
  refine bn (by kernel_rfl) ?_
  have i9:=pJ [] [] r2.1.bl r2.2.1 (IntKind.i64.wrap (r2.2.1+1))
  simp only[List.nil_append,ae5,List.length_nil,bC]at i9
  obtain⟨r10,hr10,hh⟩:=ah hh
  have bp11:oW (4*(1)+1) (4)=some (4*(4)+1):=jv (by omega)
  obtain⟨r12,hr12,hh⟩:=ah hh
  try simp only[bd,seval,i1,hr2,bp3,hr5,ax6,aq7,fq7,hr8,i9,hr10,bp11,hr12]
  refine bn (by kernel_rfl) ?_
  try simp only[bd,seval,i1,hr2,bp3,hr5,ax6,aq7,fq7,hr8,i9,hr10,bp11,hr12]
  obtain⟨o19,ho19,hh⟩:=ah hh
  refine aB (fun s t H e=>match s with|(s58a,r0_4a)=>∃v6a:Nat,∃vn0a:Nat,t 0=.ptr 0 0 pre.length∧t 6=.ptr 6 v6a 0∧t 57=.int .i64 ((r10).length:Int)∧t 58=.int .i64 s58a∧H 0=some ⟨0,69,[.nr 74 5 vn0a (pre++([.int .i64 r12.1.aL.ag,.sl false false r12.1.aL.aa.length (ae (eI .i64) r12.1.aL.aa),.int .i64 r12.1.aM.ag,.sl false false r12.1.aM.aa.length (ae (eI .i64) r12.1.aM.aa),.nx (r0_4a).length (ae bo r0_4a)]++post))],false,true,true⟩∧H 6=some ⟨v6a,41,[.int .i64 r8.1.aL.ag,.sl false false r8.1.aL.aa.length (ae (eI .i64) r8.1.aL.aa),.int .i64 r8.1.aM.ag,.sl false false r8.1.aM.aa.length (ae (eI .i64) r8.1.aM.aa)],false,false,false⟩∧vn0a<=4*e) (fun o x t H e=>match o with|r0_4ax=>x=.exit 0∧∃vn0ax:Nat,t 0=.ptr 0 0 pre.length∧H 0=some ⟨0,69,[.nr 74 5 vn0ax (pre++([.int .i64 r12.1.aL.ag,.sl false false r12.1.aL.aa.length (ae (eI .i64) r12.1.aL.aa),.int .i64 r12.1.aM.ag,.sl false false r12.1.aM.aa.length (ae (eI .i64) r12.1.aM.aa),.nx (r0_4ax).length (ae bo r0_4ax)]++post))],false,true,true⟩∧vn0ax<=4*e) ho19 ?_ ?_ ?_
  ·refine⟨3,4*(4)+1,?_,?_,?_,?_,?_,?_,?_⟩
   all_goals (first|rfl|omega|(simp only[bd,seval,i1,hr2,bp3,hr5,ax6,aq7,fq7,hr8,i9,hr10,bp11,hr12]<;>rfl))
  ·rintro⟨s58a,r0_4a⟩ t H e ⟨v6a,vn0a,Za⟩ c hh
   simp only[dK]at hh
   try simp only[bd,seval,i1,hr2,bp3,hr5,ax6,aq7,fq7,hr8,i9,hr10,bp11,hr12,Za]
   refine sp aq hh (fun _ hh =>?_) (fun _ hh =>?_)
   ·obtain⟨x21,hx21,hh⟩:=ah hh
    have ax21:=bK bo hx21
    simp only[bC]at ax21
    have aq22:=jh bo 1 hx21
    have fq22:=iA bo 1 4 (aeX rfl) hx21
    simp only[bC]at aq22 fq22
    obtain⟨r23,hr23,hh⟩:=ah hh
    have ax21:=bK bo hx21
    simp only[bC]at ax21
    have aq24:=jh bo 1 hx21
    have fq24:=iA bo 1 4 (aeX rfl) hx21
    simp only[bC]at aq24 fq24
    have p25:=dZ bo (x':=(dC.mk x21.kp r23.1)) (fo:=1) (cs:=[.int .i64 r23.1.aL.ag,.sl false false r23.1.aL.aa.length (ae (eI .i64) r23.1.aL.aa),.int .i64 r23.1.aM.ag,.sl false false r23.1.aM.aa.length (ae (eI .i64) r23.1.aM.aa)]) hx21 rfl (aeX rfl)
    simp only[bC,Nat.add_zero]at p25
    have up25:=p25
    simp only[putCells,List.length_cons,List.length_nil,ad4,Nat.reduceAdd]at up25
    try simp only[bd,seval,i1,hr2,bp3,hr5,ax6,aq7,fq7,hr8,i9,hr10,bp11,hr12,Za,ax21,aq22,fq22,hr23,ax21,aq24,fq24,p25,up25]
    refine bn (by kernel_rfl) ?_
    cases hh
    try simp only[bd,seval,i1,hr2,bp3,hr5,ax6,aq7,fq7,hr8,i9,hr10,bp11,hr12,Za,ax21,aq22,fq22,hr23,ax21,aq24,fq24,p25,up25]
    refine jz ?_
    refine⟨v6a,vn0a,?_,?_,?_,?_,?_,?_,?_⟩
    all_goals (first|rfl|omega|(simp only[bd,seval,i1,hr2,bp3,hr5,ax6,aq7,fq7,hr8,i9,hr10,bp11,hr12,Za,ax21,aq22,fq22,hr23,ax21,aq24,fq24,p25,up25]<;>rfl))
   ·cases hh
    try simp only[bd,seval,i1,hr2,bp3,hr5,ax6,aq7,fq7,hr8,i9,hr10,bp11,hr12,Za]
    refine kK ?_
    refine⟨rfl,⟨vn0a,?_,?_,?_⟩⟩
    all_goals (first|rfl|omega|(simp only[bd,seval,i1,hr2,bp3,hr5,ax6,aq7,fq7,hr8,i9,hr10,bp11,hr12,Za]<;>rfl))
  ·rintro x t H e hx
   obtain⟨r0_4ax,rfl⟩:∃z,z=o19:=⟨_,rfl⟩
   dsimp only at hx hh
   obtain⟨rfl,⟨vn0ax,Zax⟩⟩:=hx
   cases hh
   try simp only[bd,seval,i1,hr2,bp3,hr5,ax6,aq7,fq7,hr8,i9,hr10,bp11,hr12,Zax]
theorem j0:XO Try.prog 41 gO:=XO.of tok ql mixed Try.func41 (by kernel_rfl) ⟨by kernel_rfl,by kernel_rfl⟩ (fun _=>aeX (by kernel_rfl)) (fun pre post q x q' r h=>rQ pre post q x (q',r) h)
noncomputable def wg:=fR (iO (cN ay) (fO (cN ay))) (fun x:ak×ak=>oF x.1 x.2) (fun r:ak×Int =>.clean (.tup [.agg [.int .i64 r.1.aL.ag,.sl false false r.1.aL.aa.length (ae (eI .i64) r.1.aL.aa),.int .i64 r.1.aM.ag,.sl false false r.1.aM.aa.length (ae (eI .i64) r.1.aM.aa)],.int .i64 r.2]))
theorem Dt (p0_0:Int) (p0_1:(List Int)) (p0_2:Int) (p0_3:(List Int)) (p1_0:Int) (p1_1:(List Int)) (p1_2:Int) (p1_3:(List Int)):wg none [.agg [.int .i64 p0_0,.sl false false p0_1.length (ae (eI .i64) p0_1),.int .i64 p0_2,.sl false false p0_3.length (ae (eI .i64) p0_3)],.agg [.int .i64 p1_0,.sl false false p1_1.length (ae (eI .i64) p1_1),.int .i64 p1_2,.sl false false p1_3.length (ae (eI .i64) p1_3)]]=(oF (ak.mk (al.mk p0_0 p0_1) (al.mk p0_2 p0_3)) (ak.mk (al.mk p1_0 p1_1) (al.mk p1_2 p1_3))).map fun r:ak×Int=>(.clean (.tup [.agg [.int .i64 r.1.aL.ag,.sl false false r.1.aL.aa.length (ae (eI .i64) r.1.aL.aa),.int .i64 r.1.aM.ag,.sl false false r.1.aM.aa.length (ae (eI .i64) r.1.aM.aa)],.int .i64 r.2]),none):=aU _ _ _ ((ak.mk (al.mk p0_0 p0_1) (al.mk p0_2 p0_3)),(ak.mk (al.mk p1_0 p1_1) (al.mk p1_2 p1_3)))
noncomputable def rv:Env:=(Am.ext (Am.ext (Am.ext a7 22 false dU) 48 false jt) 49 false oa)
theorem Li:bB Try.prog rv:=(((bB.none.add eG false).add mD false).add tP false)
theorem gG:type_of% (ai @w<|ai @bU<|ai @gu<|ai @mi<|@rv.eq_1):=⟨@w,@bU,@gu,@mi,@rv.eq_1⟩
theorem Pw (p0:ak) (p1:ak) (r:ak×Int) (hh:oF p0 p1=some r):ba .clean tab rv FU Try.f19 none [.agg [.int .i64 p0.aL.ag,.sl false false p0.aL.aa.length (ae (eI .i64) p0.aL.aa),.int .i64 p0.aM.ag,.sl false false p0.aM.aa.length (ae (eI .i64) p0.aM.aa)],.agg [.int .i64 p1.aL.ag,.sl false false p1.aL.aa.length (ae (eI .i64) p1.aL.aa),.int .i64 p1.aM.ag,.sl false false p1.aM.aa.length (ae (eI .i64) p1.aM.aa)]]=some (.clean (.tup [.agg [.int .i64 r.1.aL.ag,.sl false false r.1.aL.aa.length (ae (eI .i64) r.1.aL.aa),.int .i64 r.1.aM.ag,.sl false false r.1.aM.aa.length (ae (eI .i64) r.1.aM.aa)],.int .i64 r.2]),none):=by
 refine aC rfl Try.ntmps19 Try.results19 ?_
 unfold oF at hh
 obtain⟨r1,hr1,hh⟩:=ah hh
 try simp only[gG,seval,hr1]
 obtain⟨o2,ho2,hh⟩:=ah hh
 refine bF 0 (fun s t H e=>match s with|s13j1=>∃v2j1:Nat,∃v3j1:Nat,∃v4j1:Nat,t 2=.ptr 2 v2j1 0∧t 3=.ptr 3 v3j1 0∧t 4=.ptr 4 v4j1 0∧t 13=.bool s13j1∧H 2=some ⟨v2j1,41,[.int .i64 p0.aL.ag,.sl false false p0.aL.aa.length (ae (eI .i64) p0.aL.aa),.int .i64 p0.aM.ag,.sl false false p0.aM.aa.length (ae (eI .i64) p0.aM.aa)],false,false,false⟩∧H 3=some ⟨v3j1,41,[.int .i64 p1.aL.ag,.sl false false p1.aL.aa.length (ae (eI .i64) p1.aL.aa),.int .i64 p1.aM.ag,.sl false false p1.aM.aa.length (ae (eI .i64) p1.aM.aa)],false,false,false⟩∧H 4=some ⟨v4j1,41,[.int .i64 0,.sl true true 0 [],.int .i64 0,.sl true true 0 []],false,false,false⟩) (fun s=>s=o2) ?_ ?_
 ·rintro s13j1 t H e ⟨v2j1,v3j1,v4j1,Zj1⟩ rfl
  try dsimp only at hh
  try simp only[gG,seval,hr1,Zj1]
  refine sp aq hh (fun _ hh =>?_) (fun _ hh =>?_)
  ·cases hh
   try simp only[gG,seval,hr1,Zj1]
  ·obtain⟨r4,hr4,hh⟩:=ah hh
   obtain⟨r5,hr5,hh⟩:=ah hh
   obtain⟨r6,hr6,hh⟩:=ah hh
   try simp only[gG,seval,hr1,Zj1,hr4,hr5,hr6]
   refine bn (by kernel_rfl) ?_
   cases hh
   try simp only[gG,seval,hr1,Zj1,hr4,hr5,hr6]
 ·clear hh
  have hh:=ho2
  try simp only[gG,seval,hr1]
  refine sp bc hh (fun _ hh =>?_) (fun _ hh =>?_)
  ·cases hh
   try simp only[gG,seval,hr1]
   rw[au]
   refine⟨_,rfl,?_⟩
   refine⟨0,0,0,?_,?_,?_,?_,?_,?_,?_⟩
   all_goals first|rfl|(simp only[gG,seval,hr1]<;>rfl)
  ·obtain⟨r8,hr8,hh⟩:=ah hh
   cases hh
   try simp only[gG,seval,hr1,hr8]
   rw[au]
   refine⟨_,rfl,?_⟩
   refine⟨0,0,0,?_,?_,?_,?_,?_,?_,?_⟩
   all_goals first|rfl|(simp only[gG,seval,hr1,hr8]<;>rfl)
theorem Nc:bX Try.prog 19 wg:=bX.of (mode := .clean) tok Li mixed Try.func19 (by kernel_rfl) ⟨by kernel_rfl,by kernel_rfl⟩ (fun _=>aeX (by kernel_rfl)) (fun x r h=>Pw x.1 x.2 r h)
noncomputable def ju:=fR (iO (cN ay) (iO (cN ay) (fO (cN ay)))) (fun x:ak×ak×ak=>e9 x.1 x.2.1 x.2.2) (fun r:ak =>.clean (.agg [.int .i64 r.aL.ag,.sl false false r.aL.aa.length (ae (eI .i64) r.aL.aa),.int .i64 r.aM.ag,.sl false false r.aM.aa.length (ae (eI .i64) r.aM.aa)]))
theorem gw (p0_0:Int) (p0_1:(List Int)) (p0_2:Int) (p0_3:(List Int)) (p1_0:Int) (p1_1:(List Int)) (p1_2:Int) (p1_3:(List Int)) (p2_0:Int) (p2_1:(List Int)) (p2_2:Int) (p2_3:(List Int)):ju none [.agg [.int .i64 p0_0,.sl false false p0_1.length (ae (eI .i64) p0_1),.int .i64 p0_2,.sl false false p0_3.length (ae (eI .i64) p0_3)],.agg [.int .i64 p1_0,.sl false false p1_1.length (ae (eI .i64) p1_1),.int .i64 p1_2,.sl false false p1_3.length (ae (eI .i64) p1_3)],.agg [.int .i64 p2_0,.sl false false p2_1.length (ae (eI .i64) p2_1),.int .i64 p2_2,.sl false false p2_3.length (ae (eI .i64) p2_3)]]=(e9 (ak.mk (al.mk p0_0 p0_1) (al.mk p0_2 p0_3)) (ak.mk (al.mk p1_0 p1_1) (al.mk p1_2 p1_3)) (ak.mk (al.mk p2_0 p2_1) (al.mk p2_2 p2_3))).map fun r:ak=>(.clean (.agg [.int .i64 r.aL.ag,.sl false false r.aL.aa.length (ae (eI .i64) r.aL.aa),.int .i64 r.aM.ag,.sl false false r.aM.aa.length (ae (eI .i64) r.aM.aa)]),none):=aU _ _ _ ((ak.mk (al.mk p0_0 p0_1) (al.mk p0_2 p0_3)),(ak.mk (al.mk p1_0 p1_1) (al.mk p1_2 p1_3)),(ak.mk (al.mk p2_0 p2_1) (al.mk p2_2 p2_3)))
noncomputable def nK:Env:=(Am.ext (Am.ext a7 18 false qF) 19 false wg)
theorem El:bB Try.prog nK:=((bB.none.add z6 false).add Nc false)
theorem Jx:type_of% (ai @w<|ai @rV<|ai @Dt<|@nK.eq_1):=⟨@w,@rV,@Dt,@nK.eq_1⟩
theorem IP (p0:ak) (p1:ak) (p2:ak) (r:ak) (hh:e9 p0 p1 p2=some r):ba .clean tab nK FU Try.f43 none [.agg [.int .i64 p0.aL.ag,.sl false false p0.aL.aa.length (ae (eI .i64) p0.aL.aa),.int .i64 p0.aM.ag,.sl false false p0.aM.aa.length (ae (eI .i64) p0.aM.aa)],.agg [.int .i64 p1.aL.ag,.sl false false p1.aL.aa.length (ae (eI .i64) p1.aL.aa),.int .i64 p1.aM.ag,.sl false false p1.aM.aa.length (ae (eI .i64) p1.aM.aa)],.agg [.int .i64 p2.aL.ag,.sl false false p2.aL.aa.length (ae (eI .i64) p2.aL.aa),.int .i64 p2.aM.ag,.sl false false p2.aM.aa.length (ae (eI .i64) p2.aM.aa)]]=some (.clean (.agg [.int .i64 r.aL.ag,.sl false false r.aL.aa.length (ae (eI .i64) r.aL.aa),.int .i64 r.aM.ag,.sl false false r.aM.aa.length (ae (eI .i64) r.aM.aa)]),none):=by
 refine aC rfl Try.ntmps43 Try.results43 ?_
 unfold e9 at hh
 obtain⟨r1,hr1,hh⟩:=ah hh
 obtain⟨r2,hr2,hh⟩:=ah hh
 cases hh
 try simp only[Jx,seval,hr1,hr2]
theorem mE:bX Try.prog 43 ju:=bX.of (mode := .clean) tok El mixed Try.func43 (by kernel_rfl) ⟨by kernel_rfl,by kernel_rfl⟩ (fun _=>aeX (by kernel_rfl)) (fun x r h=>IP x.1 x.2.1 x.2.2 r h)
theorem aac:UA Try.prog 99 (74,5,72):=Yh
noncomputable def iL:=Ew 69 74 5 aE (iO (aI .i64) (fO (cN ay))) (fun (q:aw) (x:Int×ak)=>dF q x.1 x.2) (fun r:Unit =>.tup [])
theorem sV (pre post:List D) (p0:aw) (p1:Int) (p2_0:Int) (p2_1:(List Int)) (p2_2:Int) (p2_3:(List Int)):iL 69 74 5 pre.length (pre++(aE.cells p0++post)) [.int .i64 p1,.agg [.int .i64 p2_0,.sl false false p2_1.length (ae (eI .i64) p2_1),.int .i64 p2_2,.sl false false p2_3.length (ae (eI .i64) p2_3)]]=(dF p0 p1 (ak.mk (al.mk p2_0 p2_1) (al.mk p2_2 p2_3))).map fun r=>(.tup [],pre++(aE.cells r.1++post)):=IV _ _ _ _ _ _ _ pre post p0 (p1,(ak.mk (al.mk p2_0 p2_1) (al.mk p2_2 p2_3)))
noncomputable def gn:Env:=(Am.yS 99 (74,5,72) (Am.nM 69 (0,dS) (Am.ext (Am.ext a7 43 false ju) 44 false ki)))
theorem sP:bB Try.prog gn:=(bB.yS (bB.nM ((bB.none.add mE false).add mY false) cV.callable cV.calls) aac)
theorem eP:type_of% (ai @w<|ai @ZN<|ai @ZM<|ai @gw<|ai @gF<|@gn.eq_1):=⟨@w,@ZN,@ZM,@gw,@gF,@gn.eq_1⟩
theorem tL (pre post:List D) (p0:aw) (p1:Int) (p2:ak) (r:aw×(Unit)) (hh:dF p0 p1 p2=some r):ss tab gn FU Try.f72 69 74 5 pre.length (pre++(aE.cells p0++post)) [.int .i64 p1,.agg [.int .i64 p2.aL.ag,.sl false false p2.aL.aa.length (ae (eI .i64) p2.aL.aa),.int .i64 p2.aM.ag,.sl false false p2.aM.aa.length (ae (eI .i64) p2.aM.aa)]]=some (.tup [],pre++(aE.cells r.1++post)):=by
 refine vu rfl Try.ntmps72 Try.results72 ?_
 rw[cS]
 unfold dF at hh
 have i1:=il pre post p0 p1
 simp only[bC]at i1
 obtain⟨r2,hr2,hh⟩:=ah hh
 have bp3:oW 0 (2)=some (4*(2)+1):=jv (by omega)
 try simp only[eP,ne_eq,not_false_eq_true,seval,i1,hr2,bp3]
 refine sp aq hh (fun _ hh =>?_) (fun _ hh =>?_)
 ·obtain⟨x5,hx5,hh⟩:=ah hh
  have ax5:=bK bo hx5
  simp only[bC]at ax5
  have aq6:=jh bo 1 hx5
  have fq6:=iA bo 1 4 (aeX rfl) hx5
  simp only[bC]at aq6 fq6
  obtain⟨r7,hr7,hh⟩:=ah hh
  obtain⟨r8,hr8,hh⟩:=ah hh
  have ax5:=bK bo hx5
  simp only[bC]at ax5
  have aq9:=jh bo 1 hx5
  have fq9:=iA bo 1 4 (aeX rfl) hx5
  simp only[bC]at aq9 fq9
  have p10:=dZ bo (x':=(dC.mk x5.kp r8)) (fo:=1) (cs:=[.int .i64 r8.aL.ag,.sl false false r8.aL.aa.length (ae (eI .i64) r8.aL.aa),.int .i64 r8.aM.ag,.sl false false r8.aM.aa.length (ae (eI .i64) r8.aM.aa)]) hx5 rfl (aeX rfl)
  simp only[bC,Nat.add_zero]at p10
  have up10:=p10
  simp only[putCells,List.length_cons,List.length_nil,ad4,Nat.reduceAdd]at up10
  try simp only[eP,ne_eq,not_false_eq_true,seval,i1,hr2,bp3,ax5,aq6,fq6,hr7,hr8,ax5,aq9,fq9,p10,up10]
  refine bn (by kernel_rfl) ?_
  cases hh
  try simp only[eP,ne_eq,not_false_eq_true,seval,i1,hr2,bp3,ax5,aq6,fq6,hr7,hr8,ax5,aq9,fq9,p10,up10]
 ·obtain⟨x11,hx11,hh⟩:=ah hh
  obtain⟨q12a,q12b,q12c,q12d,q12e⟩:=Yg bo hx11
  simp only[bC]at q12e
  have bp13:oW (4*(2)+1) (4)=some (4*(4)+1):=jv (by omega)
  try simp only[eP,ne_eq,not_false_eq_true,seval,i1,hr2,bp3,q12a,q12b,q12c,q12d,q12e,bp13]
  refine bn (by kernel_rfl) ?_
  cases hh
  try simp only[eP,ne_eq,not_false_eq_true,seval,i1,hr2,bp3,q12a,q12b,q12c,q12d,q12e,bp13]
theorem lG:XO Try.prog 72 iL:=XO.of tok sP mixed Try.func72 (by kernel_rfl) ⟨by kernel_rfl,by kernel_rfl⟩ (fun _=>aeX (by kernel_rfl)) (fun pre post q x q' r h=>tL pre post q x.1 x.2 (q',r) h)
noncomputable def iM:=Ew 69 74 5 aE (iO (aI .i64) (fO (cN cz))) (fun (q:aw) (x:Int×aw)=>dG q x.1 x.2) (fun r:Unit =>.tup [])
noncomputable def gp:Env:=(Am.nM 72 (0,iL) (Am.ext (Am.nM 69 (0,dS) (Am.ext (Am.ext a7 43 false ju) 44 false ki)) 70 true iR))
theorem sQ:bB Try.prog gp:=(bB.nM ((bB.nM ((bB.none.add mE false).add mY false) cV.callable cV.calls).add oO true) lG.callable lG.calls)
theorem bs:type_of% (ai @w<|ai @ZN<|ai @ZM<|ai @gw<|ai @gF<|@gp.eq_1):=⟨@w,@ZN,@ZM,@gw,@gF,@gp.eq_1⟩
theorem tM (pre post:List D) (p0:aw) (p1:Int) (p2:aw) (r:aw×(Unit)) (hh:dG p0 p1 p2=some r):ss tab gp FU Try.f42 69 74 5 pre.length (pre++(aE.cells p0++post)) [.int .i64 p1,.agg [.int .i64 p2.aQ.aL.ag,.sl false false p2.aQ.aL.aa.length (ae (eI .i64) p2.aQ.aL.aa),.int .i64 p2.aQ.aM.ag,.sl false false p2.aQ.aM.aa.length (ae (eI .i64) p2.aQ.aM.aa),.sl false false p2.bl.length (ae bo p2.bl)]]=some (.tup [],pre++(aE.cells r.1++post)):=by
 refine vu rfl Try.ntmps42 Try.results42 ?_
 rw[cS]
 unfold dG at hh
 have i1:=il pre post p0 p1
 simp only[bC]at i1
 obtain⟨r2,hr2,hh⟩:=ah hh
 have bp3:oW 0 (2)=some (4*(2)+1):=jv (by omega)
 try simp only[bs,seval,i1,hr2,bp3]
 refine sp aq hh (fun _ hh =>?_) (fun _ hh =>?_)
 ·cases hh
  try simp only[bs,seval,i1,hr2,bp3]
 ·obtain⟨x5,hx5,hh⟩:=ah hh
  have ax5:=bK bo hx5
  simp only[bC]at ax5
  have aq6:=jh bo 1 hx5
  have fq6:=iA bo 1 4 (aeX rfl) hx5
  simp only[bC]at aq6 fq6
  have i7:=pJ [] [] r2.1.bl r2.2.1 (IntKind.i64.wrap (r2.2.1+1))
  simp only[List.nil_append,ae5,List.length_nil,bC]at i7
  obtain⟨r8,hr8,hh⟩:=ah hh
  have bp9:oW (4*(2)+1) (5)=some (4*(5)+1):=jv (by omega)
  obtain⟨r10,hr10,hh⟩:=ah hh
  try simp only[bs,seval,i1,hr2,bp3,ax5,aq6,fq6,i7,hr8,bp9,hr10]
  refine bn (by kernel_rfl) ?_
  try simp only[bs,seval,i1,hr2,bp3,ax5,aq6,fq6,i7,hr8,bp9,hr10]
  obtain⟨o18,ho18,hh⟩:=ah hh
  refine aB (fun s t H e=>match s with|(s52a,r0_0a,r0_1a,r0_2a,r0_3a,r0_4a)=>∃v8a:Nat,∃vn0a:Nat,t 0=.ptr 0 0 pre.length∧t 8=.ptr 8 v8a 0∧t 50=.sl false false p2.bl.length (ae bo p2.bl)∧t 51=.int .i64 (p2.bl.length:Int)∧t 52=.int .i64 s52a∧H 0=some ⟨0,69,[.nr 74 5 vn0a (pre++([.int .i64 r0_0a,.sl false false r0_1a.length (ae (eI .i64) r0_1a),.int .i64 r0_2a,.sl false false r0_3a.length (ae (eI .i64) r0_3a),.nx (r0_4a).length (ae bo r0_4a)]++post))],false,true,true⟩∧H 8=some ⟨v8a,41,[.int .i64 x5.dE.aL.ag,.sl false false x5.dE.aL.aa.length (ae (eI .i64) x5.dE.aL.aa),.int .i64 x5.dE.aM.ag,.sl false false x5.dE.aM.aa.length (ae (eI .i64) x5.dE.aM.aa)],false,false,false⟩∧vn0a<=4*e) (fun o x t H e=>match o with|(r0_0ax,r0_1ax,r0_2ax,r0_3ax,r0_4ax)=>x=.exit 0∧∃vn0ax:Nat,t 0=.ptr 0 0 pre.length∧H 0=some ⟨0,69,[.nr 74 5 vn0ax (pre++([.int .i64 r0_0ax,.sl false false r0_1ax.length (ae (eI .i64) r0_1ax),.int .i64 r0_2ax,.sl false false r0_3ax.length (ae (eI .i64) r0_3ax),.nx (r0_4ax).length (ae bo r0_4ax)]++post))],false,true,true⟩∧vn0ax<=4*e) ho18 ?_ ?_ ?_
  ·refine⟨4,4*(5)+1,?_,?_,?_,?_,?_,?_,?_,?_⟩
   all_goals (first|rfl|omega|(simp only[bs,seval,i1,hr2,bp3,ax5,aq6,fq6,i7,hr8,bp9,hr10]<;>rfl))
  ·rintro⟨s52a,r0_0a,r0_1a,r0_2a,r0_3a,r0_4a⟩ t H e ⟨v8a,vn0a,Za⟩ c hh
   simp only[eA]at hh
   try simp only[bs,seval,i1,hr2,bp3,ax5,aq6,fq6,i7,hr8,bp9,hr10,Za]
   refine sp aq hh (fun _ hh =>?_) (fun _ hh =>?_)
   ·obtain⟨x20,hx20,hh⟩:=ah hh
    have ax20:=bK bo hx20
    simp only[bC]at ax20
    obtain⟨r21,hr21,hh⟩:=ah hh
    obtain⟨r22,hr22,hh⟩:=ah hh
    have i23:=sV pre post (aw.mk (ak.mk (al.mk r0_0a r0_1a) (al.mk r0_2a r0_3a)) r0_4a) x20.kp r22.aL.ag r22.aL.aa r22.aM.ag r22.aM.aa
    simp only[bC]at i23
    obtain⟨r24,hr24,hh⟩:=ah hh
    have bp25:oW vn0a (e+1+1)=some (4*(e+1+1)+1):=jv (by omega)
    try simp only[bs,seval,i1,hr2,bp3,ax5,aq6,fq6,i7,hr8,bp9,hr10,Za,ax20,hr21,hr22,i23,hr24,bp25]
    refine bn (by kernel_rfl) ?_
    cases hh
    try simp only[bs,seval,i1,hr2,bp3,ax5,aq6,fq6,i7,hr8,bp9,hr10,Za,ax20,hr21,hr22,i23,hr24,bp25]
    refine jz ?_
    refine⟨v8a,4*(e+1+1)+1,?_,?_,?_,?_,?_,?_,?_,?_⟩
    all_goals (first|rfl|omega|(simp only[bs,seval,i1,hr2,bp3,ax5,aq6,fq6,i7,hr8,bp9,hr10,Za,ax20,hr21,hr22,i23,hr24,bp25]<;>rfl))
   ·cases hh
    try simp only[bs,seval,i1,hr2,bp3,ax5,aq6,fq6,i7,hr8,bp9,hr10,Za]
    refine kK ?_
    refine⟨rfl,⟨vn0a,?_,?_,?_⟩⟩
    all_goals (first|rfl|omega|(simp only[bs,seval,i1,hr2,bp3,ax5,aq6,fq6,i7,hr8,bp9,hr10,Za]<;>rfl))
  ·rintro x t H e hx
   rcases o18 with⟨r0_0ax,r0_1ax,r0_2ax,r0_3ax,r0_4ax⟩
   dsimp only at hx hh
   obtain⟨rfl,⟨vn0ax,Zax⟩⟩:=hx
   cases hh
   try simp only[bs,seval,i1,hr2,bp3,ax5,aq6,fq6,i7,hr8,bp9,hr10,Zax]
theorem lH:XO Try.prog 42 iM:=XO.of tok sQ mixed Try.func42 (by kernel_rfl) ⟨by kernel_rfl,by kernel_rfl⟩ (fun _=>aeX (by kernel_rfl)) (fun pre post q x q' r h=>tM pre post q x.1 x.2 (q',r) h)
noncomputable def oc:=fR (iO (cN ns) (fO (nc ay))) (fun x:bW×(List ak)=>ez x.1 x.2) (fun r:(List ak)×Int =>.clean (.tup [.sl false false r.1.length (ae ay r.1),.int .i64 r.2]))
theorem im (p0_0:Int) (p0_1:(List dr)) (p1:(List ak)):oc none [.agg [.int .i64 p0_0,.sl false false p0_1.length (ae a8 p0_1)],.sl false false p1.length (ae ay p1)]=(ez (bW.mk p0_0 p0_1) p1).map fun r:(List ak)×Int=>(.clean (.tup [.sl false false r.1.length (ae ay r.1),.int .i64 r.2]),none):=aU _ _ _ ((bW.mk p0_0 p0_1),p1)
theorem qq {C:List (Bool×aw)} {i:Int} {p0:aw} (h:P.idx C i=some (false,p0)) (p1:Int):gO 69 74 5 (i.toNat*aY.size) (ae aY C) [.int .i64 p1]=(cZ p0 p1).map fun r=>(.tup [],ae aY (C.set i.toNat (false,r.1))):=Sd lq h (p1)
theorem sU {C:List (Bool×aw)} {i:Int} {p0:aw} (h:P.idx C i=some (false,p0)) (p1:Int) (p2_0:Int) (p2_1:(List Int)) (p2_2:Int) (p2_3:(List Int)) (p2_4:(List dC)):iM 69 74 5 (i.toNat*aY.size) (ae aY C) [.int .i64 p1,.agg [.int .i64 p2_0,.sl false false p2_1.length (ae (eI .i64) p2_1),.int .i64 p2_2,.sl false false p2_3.length (ae (eI .i64) p2_3),.sl false false p2_4.length (ae bo p2_4)]]=(dG p0 p1 (aw.mk (ak.mk (al.mk p2_0 p2_1) (al.mk p2_2 p2_3)) p2_4)).map fun r=>(.tup [],ae aY (C.set i.toNat (false,r.1))):=Sd lq h (p1,(aw.mk (ak.mk (al.mk p2_0 p2_1) (al.mk p2_2 p2_3)) p2_4))
noncomputable def rL:Env:=(Am.ext (Am.ext (Am.nM 42 (0,iM) (Am.nM 41 (5,gO) (Am.xN 40 kg (Am.ext (Am.ext (Am.ext a7 11 false mI) 14 false pW) 39 false j6)))) 43 false ju) 44 false ki)
theorem Lw:bB Try.prog rL:=(((bB.nM (bB.nM (bB.xN (((bB.none.add rU false).add De false).add qp false) nw.callable nw.calls) j0.callable j0.calls) lH.callable lH.calls).add mE false).add mY false)
theorem aS:type_of% (ai @w<|ai @ZM<|ai @kP<|ai @vX<|ai @kf<|ai @oP<|ai @gw<|ai @gF<|@rL.eq_1):=⟨@w,@ZM,@kP,@vX,@kf,@oP,@gw,@gF,@rL.eq_1⟩
theorem PM (p0:bW) (p1:(List ak)) (r:(List ak)×Int) (hh:ez p0 p1=some r):ba .clean tab rL FU Try.f13 none [.agg [.int .i64 p0.aG,.sl false false p0.av.length (ae a8 p0.av)],.sl false false p1.length (ae ay p1)]=some (.clean (.tup [.sl false false r.1.length (ae ay r.1),.int .i64 r.2]),none):=by
 refine aC rfl Try.ntmps13 Try.results13 ?_
 unfold ez at hh
 obtain⟨r1,hr1,hh⟩:=ah hh
 try simp only[aS,seval,hr1]
 obtain⟨o2,ho2,hh⟩:=ah hh
 refine bF 0 (fun s t H e=>match s with|s14j1=>∃v2j1:Nat,t 1=.sl false false p1.length (ae ay p1)∧t 2=.ptr 2 v2j1 0∧t 14=.bool s14j1∧H 2=some ⟨v2j1,24,[.int .i64 p0.aG,.sl false false p0.av.length (ae a8 p0.av)],false,false,false⟩) (fun s=>s=o2) ?_ ?_
 ·rintro s14j1 t H e ⟨v2j1,Zj1⟩ rfl
  try dsimp only at hh
  try simp only[aS,seval,hr1,Zj1]
  refine sp aq hh (fun _ hh =>?_) (fun _ hh =>?_)
  ·cases hh
   try simp only[aS,seval,hr1,Zj1]
  ·obtain⟨r4,hr4,hh⟩:=ah hh
   try simp only[aS,seval,hr1,Zj1,hr4]
   refine sp aq hh (fun _ hh =>?_) (fun _ hh =>?_)
   ·cases hh
    try simp only[aS,seval,hr1,Zj1,hr4]
   ·obtain⟨r6,hr6,hh⟩:=ah hh
    have er6:=F7 lq r6
    try simp only[aS,seval,hr1,Zj1,hr4,hr6,er6]
    obtain⟨o32,ho32,hh⟩:=ah hh
    refine aB (fun s t H e=>match s with|(s35b,l32b)=>∃v2b:Nat,∃v32b:Nat,∃vn32b:Nat,t 2=.ptr 2 v2b 0∧t 6=.buf 32 v32b 5 0 (l32b).length∧t 34=.int .i64 ((r6).length:Int)∧t 35=.int .i64 s35b∧H 2=some ⟨v2b,24,[.int .i64 p0.aG,.sl false false p0.av.length (ae a8 p0.av)],false,false,false⟩∧H 32=some ⟨v32b,69,[.nr 74 5 vn32b (ae aY l32b)],false,true,true⟩∧vn32b<=4*e) (fun o x t H e=>match o with|l32bx=>x=.exit 1∧∃v2bx:Nat,∃v32bx:Nat,∃vn32bx:Nat,t 2=.ptr 2 v2bx 0∧t 6=.buf 32 v32bx 5 0 (l32bx).length∧H 2=some ⟨v2bx,24,[.int .i64 p0.aG,.sl false false p0.av.length (ae a8 p0.av)],false,false,false⟩∧H 32=some ⟨v32bx,69,[.nr 74 5 vn32bx (ae aY l32bx)],false,true,true⟩∧vn32bx<=4*e) ho32 ?_ ?_ ?_
    ·refine⟨v2j1,e+1,4*(e+1)+2,?_,?_,?_,?_,?_,?_,?_⟩
     all_goals (first|rfl|omega|(simp only[aS,seval,hr1,Zj1,hr4,hr6,er6]<;>rfl))
    ·rintro⟨s35b,l32b⟩ t H e ⟨v2b,v32b,vn32b,Zb⟩ c hh
     simp only[jo]at hh
     try simp only[aS,seval,hr1,hr4,hr6,er6,Zb]
     refine sp aq hh (fun _ hh =>?_) (fun _ hh =>?_)
     ·obtain⟨x34,hx34,hh⟩:=ah hh
      have ax34:=And.intro (oI hx34) (jy aY hx34)
      simp only[bC]at ax34
      obtain⟨x35,hx35,hh⟩:=ah hh
      have gx35:P.idx l32b s35b=some (false,x35):=hx34.trans (congrArg some (Nn hx35))
      have i36:=qq gx35 s35b
      simp only[bC]at i36
      obtain⟨r37,hr37,hh⟩:=ah hh
      have bp38:oW vn32b (e+1+1)=some (4*(e+1+1)+1):=jv (by omega)
      have fp38:=aa1 lq B9 Cb Ca gx35 r37.1
      rw[l8]at fp38
      try simp only[aS,seval,hr1,hr4,hr6,er6,Zb,ax34,i36,hr37,bp38,fp38]
      obtain⟨o48,ho48,hh⟩:=ah hh
      refine aB (fun s t H e=>match s with|(s8d,l32d)=>∃v2d:Nat,∃v32d:Nat,∃vn32d:Nat,t 2=.ptr 2 v2d 0∧t 6=.buf 32 v32d 5 0 (l32d).length∧t 7=.int .i64 s35b∧t 8=.int .i64 s8d∧t 34=.int .i64 ((r6).length:Int)∧t 35=.int .i64 s35b∧H 2=some ⟨v2d,24,[.int .i64 p0.aG,.sl false false p0.av.length (ae a8 p0.av)],false,false,false⟩∧H 32=some ⟨v32d,69,[.nr 74 5 vn32d (ae aY l32d)],false,true,true⟩∧vn32d<=4*e) (fun o x t H e=>match o with|l32dx=>x=.exit 3∧∃v2dx:Nat,∃v32dx:Nat,∃vn32dx:Nat,t 2=.ptr 2 v2dx 0∧t 6=.buf 32 v32dx 5 0 (l32dx).length∧t 34=.int .i64 ((r6).length:Int)∧t 35=.int .i64 s35b∧H 2=some ⟨v2dx,24,[.int .i64 p0.aG,.sl false false p0.av.length (ae a8 p0.av)],false,false,false⟩∧H 32=some ⟨v32dx,69,[.nr 74 5 vn32dx (ae aY l32dx)],false,true,true⟩∧vn32dx<=4*e) ho48 ?_ ?_ ?_
      ·refine⟨v2b,v32b,4*(e+1+1)+1,?_,?_,?_,?_,?_,?_,?_,?_,?_⟩
       all_goals (first|rfl|omega|(simp only[aS,seval,hr1,hr4,hr6,er6,Zb,ax34,i36,hr37,bp38,fp38]<;>rfl))
      ·rintro⟨s8d,l32d⟩ t H e ⟨v2d,v32d,vn32d,Zd⟩ c hh
       simp only[kW]at hh
       try simp only[aS,seval,hr1,hr4,hr6,er6,ax34,i36,hr37,bp38,fp38,Zd]
       refine sp aq hh (fun _ hh =>?_) (fun _ hh =>?_)
       ·obtain⟨x50,hx50,hh⟩:=ah hh
        have ax50:=And.intro (oI hx50) (jy aY hx50)
        simp only[bC]at ax50
        obtain⟨x51,hx51,hh⟩:=ah hh
        have ax51:=And.intro (oI hx51) (jy aY hx51)
        simp only[bC]at ax51
        obtain⟨x52,hx52,hh⟩:=ah hh
        have gx52:P.idx l32d s35b=some (true,x52):=hx51.trans (congrArg some (NR hx52))
        have aq53:=jh aY 0 gx52
        have fq53:=iA aY 0 5 (aeX rfl) gx52
        simp only[bC,Nat.add_zero]at aq53 fq53
        obtain⟨x54,hx54,hh⟩:=ah hh
        have gx54:P.idx l32d s8d=some (false,x54):=hx50.trans (congrArg some (Nn hx54))
        have i55:=sU gx54 s35b x52.aQ.aL.ag x52.aQ.aL.aa x52.aQ.aM.ag x52.aQ.aM.aa x52.bl
        simp only[bC]at i55
        obtain⟨r56,hr56,hh⟩:=ah hh
        have bp57:oW vn32d (e+1)=some (4*(e+1)+1):=jv (by omega)
        try simp only[aS,seval,hr1,hr4,hr6,er6,ax34,i36,hr37,bp38,fp38,Zd,ax50,ax51,aq53,fq53,i55,hr56,bp57]
        refine bn (by kernel_rfl) ?_
        cases hh
        try simp only[aS,seval,hr1,hr4,hr6,er6,ax34,i36,hr37,bp38,fp38,Zd,ax50,ax51,aq53,fq53,i55,hr56,bp57]
        refine jz ?_
        refine⟨v2d,v32d,4*(e+1)+1,?_,?_,?_,?_,?_,?_,?_,?_,?_⟩
        all_goals (first|rfl|omega|(simp only[aS,seval,hr1,hr4,hr6,er6,ax34,i36,hr37,bp38,fp38,Zd,ax50,ax51,aq53,fq53,i55,hr56,bp57]<;>rfl))
       ·cases hh
        try simp only[aS,seval,hr1,hr4,hr6,er6,ax34,i36,hr37,bp38,fp38,Zd]
        refine kK ?_
        refine⟨rfl,⟨v2d,v32d,vn32d,?_,?_,?_,?_,?_,?_,?_⟩⟩
        all_goals (first|rfl|omega|(simp only[aS,seval,hr1,hr4,hr6,er6,ax34,i36,hr37,bp38,fp38,Zd]<;>rfl))
      ·rintro x t H e hx
       obtain⟨l32dx,rfl⟩:∃z,z=o48:=⟨_,rfl⟩
       dsimp only at hx hh
       obtain⟨rfl,⟨v2dx,v32dx,vn32dx,Zdx⟩⟩:=hx
       cases hh
       try simp only[aS,seval,hr1,hr4,hr6,er6,ax34,i36,hr37,bp38,fp38,Zdx]
       refine jz ?_
       refine⟨v2dx,v32dx,vn32dx,?_,?_,?_,?_,?_,?_,?_⟩
       all_goals (first|rfl|omega|(simp only[aS,seval,hr1,hr4,hr6,er6,ax34,i36,hr37,bp38,fp38,Zdx]<;>rfl))
     ·cases hh
      try simp only[aS,seval,hr1,hr4,hr6,er6,Zb]
      refine kK ?_
      refine⟨rfl,⟨v2b,v32b,vn32b,?_,?_,?_,?_,?_⟩⟩
      all_goals (first|rfl|omega|(simp only[aS,seval,hr1,hr4,hr6,er6,Zb]<;>rfl))
    ·rintro x t H e hx
     obtain⟨l32bx,rfl⟩:∃z,z=o32:=⟨_,rfl⟩
     dsimp only at hx hh
     obtain⟨rfl,⟨v2bx,v32bx,vn32bx,Zbx⟩⟩:=hx
     obtain⟨x58,hx58,hh⟩:=ah hh
     obtain⟨q59a,q59b,q59c,q59d,q59e⟩:=mk_one ay hx58
     simp only[bC]at q59d
     try simp only[aS,seval,hr1,hr4,hr6,er6,Zbx,q59a,q59b,q59c,q59d,q59e]
     obtain⟨o78,ho78,hh⟩:=ah hh
     refine aB (fun s t H e=>match s with|(s10e,l9e)=>∃v9e:Nat,∃v32e:Nat,∃vn32e:Nat,t 6=.buf 32 v32e 5 0 (l32bx).length∧t 9=.buf 9 v9e 4 0 (l9e).length∧t 10=.int .i64 s10e∧H 9=some ⟨v9e,41,ae ay l9e,false,true,false⟩∧H 32=some ⟨v32e,69,[.nr 74 5 vn32e (ae aY l32bx)],false,true,true⟩∧vn32e<=4*e) (fun o x t H e=>match o with|l9ex=>x=.exit 5∧∃v9ex:Nat,t 9=.buf 9 v9ex 4 0 (l9ex).length∧H 9=some ⟨v9ex,41,ae ay l9ex,false,true,false⟩) ho78 ?_ ?_ ?_
     ·refine⟨e,v32bx,vn32bx,?_,?_,?_,?_,?_,?_⟩
      all_goals (first|rfl|omega|(simp only[aS,seval,hr1,hr4,hr6,er6,Zbx,q59a,q59b,q59c,q59d,q59e]<;>rfl))
     ·rintro⟨s10e,l9e⟩ t H e ⟨v9e,v32e,vn32e,Ze⟩ c hh
      simp only[jq]at hh
      try simp only[aS,seval,hr1,hr4,hr6,er6,q59a,q59b,q59c,q59d,q59e,Ze]
      refine sp aq hh (fun _ hh =>?_) (fun _ hh =>?_)
      ·obtain⟨x80,hx80,hh⟩:=ah hh
       have ax80:=And.intro (oI hx80) (jy aY hx80)
       simp only[bC]at ax80
       obtain⟨x81,hx81,hh⟩:=ah hh
       have gx81:P.idx l32bx s10e=some (true,x81):=hx80.trans (congrArg some (NR hx81))
       have aq82:=jh aY 0 gx81
       have fq82:=iA aY 0 4 (aeX rfl) gx81
       simp only[bC,Nat.add_zero]at aq82 fq82
       obtain⟨r83,hr83,hh⟩:=ah hh
       obtain⟨r84,hr84,hh⟩:=ah hh
       try simp only[aS,seval,hr1,hr4,hr6,er6,q59a,q59b,q59c,q59d,q59e,Ze,ax80,aq82,fq82,hr83,hr84]
       refine bn (by kernel_rfl) ?_
       have ax80:=And.intro (oI hx80) (jy aY hx80)
       simp only[bC]at ax80
       have aq85:=jh aY 4 gx81
       have fq85:=iA aY 4 1 (aeX rfl) gx81
       simp only[bC,Nat.add_zero]at aq85 fq85
       try simp only[aS,seval,hr1,hr4,hr6,er6,q59a,q59b,q59c,q59d,q59e,Ze,ax80,aq82,fq82,hr83,hr84,ax80,aq85,fq85]
       obtain⟨o90,ho90,hh⟩:=ah hh
       refine aB (fun s t H e=>match s with|(s85g,r11_0g,r11_1g,r11_2g,r11_3g)=>∃v9g:Nat,∃v11g:Nat,∃v32g:Nat,∃vn32g:Nat,t 6=.buf 32 v32g 5 0 (l32bx).length∧t 9=.buf 9 v9g 4 0 (l9e).length∧t 10=.int .i64 s10e∧t 11=.ptr 11 v11g 0∧t 83=.sl false false x81.bl.length (ae bo x81.bl)∧t 84=.int .i64 (x81.bl.length:Int)∧t 85=.int .i64 s85g∧H 9=some ⟨v9g,41,ae ay l9e,false,true,false⟩∧H 11=some ⟨v11g,41,[.int .i64 r11_0g,.sl false false r11_1g.length (ae (eI .i64) r11_1g),.int .i64 r11_2g,.sl false false r11_3g.length (ae (eI .i64) r11_3g)],false,false,false⟩∧H 32=some ⟨v32g,69,[.nr 74 5 vn32g (ae aY l32bx)],false,true,true⟩∧vn32g<=4*e) (fun o x t H e=>match o with|(r11_0gx,r11_1gx,r11_2gx,r11_3gx)=>x=.exit 7∧∃v9gx:Nat,∃v11gx:Nat,∃v32gx:Nat,∃vn32gx:Nat,t 6=.buf 32 v32gx 5 0 (l32bx).length∧t 9=.buf 9 v9gx 4 0 (l9e).length∧t 10=.int .i64 s10e∧t 11=.ptr 11 v11gx 0∧H 9=some ⟨v9gx,41,ae ay l9e,false,true,false⟩∧H 11=some ⟨v11gx,41,[.int .i64 r11_0gx,.sl false false r11_1gx.length (ae (eI .i64) r11_1gx),.int .i64 r11_2gx,.sl false false r11_3gx.length (ae (eI .i64) r11_3gx)],false,false,false⟩∧H 32=some ⟨v32gx,69,[.nr 74 5 vn32gx (ae aY l32bx)],false,true,true⟩∧vn32gx<=4*e) ho90 ?_ ?_ ?_
       ·refine⟨v9e,e+1,v32e,vn32e,?_,?_,?_,?_,?_,?_,?_,?_,?_,?_,?_⟩
        all_goals (first|rfl|omega|(simp only[aS,seval,hr1,hr4,hr6,er6,q59a,q59b,q59c,q59d,q59e,Ze,ax80,aq82,fq82,hr83,hr84,ax80,aq85,fq85]<;>rfl))
       ·rintro⟨s85g,r11_0g,r11_1g,r11_2g,r11_3g⟩ t H e ⟨v9g,v11g,v32g,vn32g,Zg⟩ c hh
        simp only[m7]at hh
        try simp only[aS,seval,hr1,hr4,hr6,er6,q59a,q59b,q59c,q59d,q59e,ax80,aq82,fq82,hr83,hr84,ax80,aq85,fq85,Zg]
        refine sp aq hh (fun _ hh =>?_) (fun _ hh =>?_)
        ·obtain⟨x92,hx92,hh⟩:=ah hh
         have ax92:=bK bo hx92
         simp only[bC]at ax92
         obtain⟨x93,hx93,hh⟩:=ah hh
         have ax93:=bK ay hx93
         simp only[bC]at ax93
         obtain⟨r94,hr94,hh⟩:=ah hh
         try simp only[aS,seval,hr1,hr4,hr6,er6,q59a,q59b,q59c,q59d,q59e,ax80,aq82,fq82,hr83,hr84,ax80,aq85,fq85,Zg,ax92,ax93,hr94]
         refine bn (by kernel_rfl) ?_
         cases hh
         try simp only[aS,seval,hr1,hr4,hr6,er6,q59a,q59b,q59c,q59d,q59e,ax80,aq82,fq82,hr83,hr84,ax80,aq85,fq85,Zg,ax92,ax93,hr94]
         refine jz ?_
         refine⟨v9g,v11g,v32g,vn32g,?_,?_,?_,?_,?_,?_,?_,?_,?_,?_,?_⟩
         all_goals (first|rfl|omega|(simp only[aS,seval,hr1,hr4,hr6,er6,q59a,q59b,q59c,q59d,q59e,ax80,aq82,fq82,hr83,hr84,ax80,aq85,fq85,Zg,ax92,ax93,hr94]<;>rfl))
        ·cases hh
         try simp only[aS,seval,hr1,hr4,hr6,er6,q59a,q59b,q59c,q59d,q59e,ax80,aq82,fq82,hr83,hr84,ax80,aq85,fq85,Zg]
         refine kK ?_
         refine⟨rfl,⟨v9g,v11g,v32g,vn32g,?_,?_,?_,?_,?_,?_,?_,?_⟩⟩
         all_goals (first|rfl|omega|(simp only[aS,seval,hr1,hr4,hr6,er6,q59a,q59b,q59c,q59d,q59e,ax80,aq82,fq82,hr83,hr84,ax80,aq85,fq85,Zg]<;>rfl))
       ·rintro x t H e hx
        rcases o90 with⟨r11_0gx,r11_1gx,r11_2gx,r11_3gx⟩
        dsimp only at hx hh
        obtain⟨rfl,⟨v9gx,v11gx,v32gx,vn32gx,Zgx⟩⟩:=hx
        obtain⟨x95,hx95,hh⟩:=ah hh
        have ax95:=bK ay hx95
        simp only[bC]at ax95
        have p96:=dZ ay (x':=(ak.mk (al.mk r11_0gx r11_1gx) (al.mk r11_2gx r11_3gx))) (fo:=0) (cs:=[.int .i64 r11_0gx,.sl false false r11_1gx.length (ae (eI .i64) r11_1gx),.int .i64 r11_2gx,.sl false false r11_3gx.length (ae (eI .i64) r11_3gx)]) hx95 rfl (aeX rfl)
        simp only[bC,Nat.add_zero]at p96
        have up96:=p96
        simp only[putCells,List.length_cons,List.length_nil,ad4,Nat.reduceAdd]at up96
        cases hh
        try simp only[aS,seval,hr1,hr4,hr6,er6,q59a,q59b,q59c,q59d,q59e,ax80,aq82,fq82,hr83,hr84,ax80,aq85,fq85,Zgx,ax95,p96,up96]
        refine jz ?_
        refine⟨v9gx,v32gx,vn32gx,?_,?_,?_,?_,?_,?_⟩
        all_goals (first|rfl|omega|(simp only[aS,seval,hr1,hr4,hr6,er6,q59a,q59b,q59c,q59d,q59e,ax80,aq82,fq82,hr83,hr84,ax80,aq85,fq85,Zgx,ax95,p96,up96]<;>rfl))
      ·cases hh
       try simp only[aS,seval,hr1,hr4,hr6,er6,q59a,q59b,q59c,q59d,q59e,Ze]
       refine kK ?_
       refine⟨rfl,⟨v9e,?_,?_⟩⟩
       all_goals first|rfl|(simp only[aS,seval,hr1,hr4,hr6,er6,q59a,q59b,q59c,q59d,q59e,Ze]<;>rfl)
     ·rintro x t H e hx
      obtain⟨l9ex,rfl⟩:∃z,z=o78:=⟨_,rfl⟩
      dsimp only at hx hh
      obtain⟨rfl,⟨v9ex,Zex⟩⟩:=hx
      cases hh
      try simp only[aS,seval,hr1,hr4,hr6,er6,q59a,q59b,q59c,q59d,q59e,Zex]
 ·clear hh
  have hh:=ho2
  try simp only[aS,seval,hr1]
  refine sp bc hh (fun _ hh =>?_) (fun _ hh =>?_)
  ·cases hh
   try simp only[aS,seval,hr1]
   rw[au]
   refine⟨_,rfl,?_⟩
   refine⟨0,?_,?_,?_,?_⟩
   all_goals first|rfl|(simp only[aS,seval,hr1]<;>rfl)
  ·obtain⟨r98,hr98,hh⟩:=ah hh
   cases hh
   try simp only[aS,seval,hr1,hr98]
   rw[au]
   refine⟨_,rfl,?_⟩
   refine⟨0,?_,?_,?_,?_⟩
   all_goals first|rfl|(simp only[aS,seval,hr1,hr98]<;>rfl)
theorem tR:bX Try.prog 13 oc:=bX.of (mode := .clean) tok Lw mixed Try.func13 (by kernel_rfl) ⟨by kernel_rfl,by kernel_rfl⟩ (fun _=>aeX (by kernel_rfl)) (fun x r h=>PM x.1 x.2 r h)
noncomputable def pY:=fR (iO (cN eo) (fO (cN eo))) (fun x:al×al=>ic x.1 x.2) (fun r:Bool =>.clean (.bool r))
theorem vZ (p0_0:Int) (p0_1:(List Int)) (p1_0:Int) (p1_1:(List Int)):pY none [.agg [.int .i64 p0_0,.sl false false p0_1.length (ae (eI .i64) p0_1)],.agg [.int .i64 p1_0,.sl false false p1_1.length (ae (eI .i64) p1_1)]]=(ic (al.mk p0_0 p0_1) (al.mk p1_0 p1_1)).map fun r:Bool=>(.clean (.bool r),none):=aU _ _ _ ((al.mk p0_0 p0_1),(al.mk p1_0 p1_1))
theorem Eu (p0:al) (p1:al) (r:Bool) (hh:ic p0 p1=some r):ba .clean tab a7 FU Try.f53 none [.agg [.int .i64 p0.ag,.sl false false p0.aa.length (ae (eI .i64) p0.aa)],.agg [.int .i64 p1.ag,.sl false false p1.aa.length (ae (eI .i64) p1.aa)]]=some (.clean (.bool r),none):=by
 refine aC rfl Try.ntmps53 Try.results53 ?_
 unfold ic at hh
 try simp only[w,seval]
 obtain⟨o1,ho1,hh⟩:=ah hh
 refine bF 0 (fun s t H e=>match s with|s19j1=>∃v2j1:Nat,∃v3j1:Nat,t 2=.ptr 2 v2j1 0∧t 3=.ptr 3 v3j1 0∧t 19=.bool s19j1∧H 2=some ⟨v2j1,39,[.int .i64 p0.ag,.sl false false p0.aa.length (ae (eI .i64) p0.aa)],false,false,false⟩∧H 3=some ⟨v3j1,39,[.int .i64 p1.ag,.sl false false p1.aa.length (ae (eI .i64) p1.aa)],false,false,false⟩) (fun s=>s=o1) ?_ ?_
 ·rintro s19j1 t H e ⟨v2j1,v3j1,Zj1⟩ rfl
  try dsimp only at hh
  try simp only[w,seval,Zj1]
  refine sp aq hh (fun _ hh =>?_) (fun _ hh =>?_)
  ·cases hh
   try simp only[w,seval,Zj1]
  ·try simp only[w,seval,Zj1]
   obtain⟨o7,ho7,hh⟩:=ah hh
   refine aB (fun s t H e=>match s with|s5b=>∃v2b:Nat,∃v3b:Nat,t 2=.ptr 2 v2b 0∧t 3=.ptr 3 v3b 0∧t 5=.int .i64 s5b∧H 2=some ⟨v2b,39,[.int .i64 p0.ag,.sl false false p0.aa.length (ae (eI .i64) p0.aa)],false,false,false⟩∧H 3=some ⟨v3b,39,[.int .i64 p1.ag,.sl false false p1.aa.length (ae (eI .i64) p1.aa)],false,false,false⟩) (fun o x t H e=>match o with|(.inl _)=>x=.exit 0|(.inr r)=>x=.ret∧jd .clean tab none [.tmp 4] ⟨t,EH H,e⟩=some (.clean (.bool r),none)) ho7 ?_ ?_ ?_
   ·refine⟨v2j1,v3j1,?_,?_,?_,?_,?_⟩
    all_goals first|rfl|(simp only[w,seval,Zj1]<;>rfl)
   ·rintro s5b t H e ⟨v2b,v3b,Zb⟩ c hh
    simp only[lN]at hh
    try simp only[w,seval,Zb]
    refine sp aq hh (fun _ hh =>?_) (fun _ hh =>?_)
    ·obtain⟨x9,hx9,hh⟩:=ah hh
     have ax9:=bK (eI .i64) hx9
     simp only[bC]at ax9
     obtain⟨x10,hx10,hh⟩:=ah hh
     have ax10:=bK (eI .i64) hx10
     simp only[bC]at ax10
     try simp only[w,seval,Zb,ax9,ax10]
     refine bn (by kernel_rfl) ?_
     try simp only[w,seval,Zb,ax9,ax10]
     refine sp aq hh (fun _ hh =>?_) (fun _ hh =>?_)
     ·cases hh
      try simp only[w,seval,Zb,ax9,ax10]
      refine IG ⟨rfl,?_⟩
      try simp only[w,seval,Zb,ax9,ax10]
     ·cases hh
      try simp only[w,seval,Zb,ax9,ax10]
      refine jz ?_
      refine⟨v2b,v3b,?_,?_,?_,?_,?_⟩
      all_goals first|rfl|(simp only[w,seval,Zb,ax9,ax10]<;>rfl)
    ·cases hh
     try simp only[w,seval,Zb]
     refine kK ?_
     exact rfl
   ·rintro x t H e hx
    rcases o7 with _|rb
    ·dsimp only at hx hh
     subst hx
     cases hh
     try simp only[w,seval]
    ·dsimp only at hx hh
     obtain⟨rfl,hE⟩:=hx
     cases hh
     try simp only[bO,bE,bV,ey,ew,dm,dn]
     exact hE
 ·clear hh
  have hh:=ho1
  try simp only[w,seval]
  refine sp bc hh (fun _ hh =>?_) (fun _ hh =>?_)
  ·cases hh
   try simp only[w,seval]
   rw[au]
   refine⟨_,rfl,?_⟩
   refine⟨0,0,?_,?_,?_,?_,?_⟩
   all_goals first|rfl|(simp only[w,seval]<;>rfl)
  ·cases hh
   try simp only[w,seval]
   rw[au]
   refine⟨_,rfl,?_⟩
   refine⟨0,0,?_,?_,?_,?_,?_⟩
   all_goals first|rfl|(simp only[w,seval]<;>rfl)
theorem Di:bX Try.prog 53 pY:=bX.of (mode := .clean) tok bB.none mixed Try.func53 (by kernel_rfl) ⟨by kernel_rfl,by kernel_rfl⟩ (fun _=>aeX (by kernel_rfl)) (fun x r h=>Eu x.1 x.2 r h)
noncomputable def qM:=fR (iO (cN ay) (fO (cN ay))) (fun x:ak×ak=>lM x.1 x.2) (fun r:Bool =>.clean (.bool r))
theorem rZ (p0_0:Int) (p0_1:(List Int)) (p0_2:Int) (p0_3:(List Int)) (p1_0:Int) (p1_1:(List Int)) (p1_2:Int) (p1_3:(List Int)):qM none [.agg [.int .i64 p0_0,.sl false false p0_1.length (ae (eI .i64) p0_1),.int .i64 p0_2,.sl false false p0_3.length (ae (eI .i64) p0_3)],.agg [.int .i64 p1_0,.sl false false p1_1.length (ae (eI .i64) p1_1),.int .i64 p1_2,.sl false false p1_3.length (ae (eI .i64) p1_3)]]=(lM (ak.mk (al.mk p0_0 p0_1) (al.mk p0_2 p0_3)) (ak.mk (al.mk p1_0 p1_1) (al.mk p1_2 p1_3))).map fun r:Bool=>(.clean (.bool r),none):=aU _ _ _ ((ak.mk (al.mk p0_0 p0_1) (al.mk p0_2 p0_3)),(ak.mk (al.mk p1_0 p1_1) (al.mk p1_2 p1_3)))
noncomputable def rJ:Env:=(Am.ext a7 53 false pY)
theorem Lu:bB Try.prog rJ:=(bB.none.add Di false)
theorem w1:type_of% (ai @w<|ai @vZ<|@rJ.eq_1):=⟨@w,@vZ,@rJ.eq_1⟩
theorem PJ (p0:ak) (p1:ak) (r:Bool) (hh:lM p0 p1=some r):ba .clean tab rJ FU Try.f23 none [.agg [.int .i64 p0.aL.ag,.sl false false p0.aL.aa.length (ae (eI .i64) p0.aL.aa),.int .i64 p0.aM.ag,.sl false false p0.aM.aa.length (ae (eI .i64) p0.aM.aa)],.agg [.int .i64 p1.aL.ag,.sl false false p1.aL.aa.length (ae (eI .i64) p1.aL.aa),.int .i64 p1.aM.ag,.sl false false p1.aM.aa.length (ae (eI .i64) p1.aM.aa)]]=some (.clean (.bool r),none):=by
 refine aC rfl Try.ntmps23 Try.results23 ?_
 unfold lM at hh
 obtain⟨r1,hr1,hh⟩:=ah hh
 try simp only[w1,seval,hr1]
 refine sp ec hh (fun _ hh =>?_) (fun _ hh =>?_)
 ·obtain⟨r3,hr3,hh⟩:=ah hh
  cases hh
  try simp only[w1,seval,hr1,hr3]
 ·cases hh
  try simp only[w1,seval,hr1]
theorem Ac:bX Try.prog 23 qM:=bX.of (mode := .clean) tok Lu mixed Try.func23 (by kernel_rfl) ⟨by kernel_rfl,by kernel_rfl⟩ (fun _=>aeX (by kernel_rfl)) (fun x r h=>PJ x.1 x.2 r h)
noncomputable def wv:=fR (iO (nc ay) (fO (nc ay))) (fun x:(List ak)×(List ak)=>tX x.1 x.2) (fun r:Bool =>.clean (.bool r))
theorem Dx (p0:(List ak)) (p1:(List ak)):wv none [.sl false false p0.length (ae ay p0),.sl false false p1.length (ae ay p1)]=(tX p0 p1).map fun r:Bool=>(.clean (.bool r),none):=aU _ _ _ (p0,p1)
noncomputable def rK:Env:=(Am.ext a7 23 false qM)
theorem Lv:bB Try.prog rK:=(bB.none.add Ac false)
theorem eE:type_of% (ai @w<|ai @rZ<|@rK.eq_1):=⟨@w,@rZ,@rK.eq_1⟩
theorem PL (p0:(List ak)) (p1:(List ak)) (r:Bool) (hh:tX p0 p1=some r):ba .clean tab rK FU Try.f16 none [.sl false false p0.length (ae ay p0),.sl false false p1.length (ae ay p1)]=some (.clean (.bool r),none):=by
 refine aC rfl Try.ntmps16 Try.results16 ?_
 unfold tX at hh
 try simp only[eE,seval]
 refine sp aq hh (fun _ hh =>?_) (fun _ hh =>?_)
 ·cases hh
  try simp only[eE,seval]
 ·try simp only[eE,seval]
  obtain⟨o7,ho7,hh⟩:=ah hh
  refine aB (fun s t H e=>match s with|s5a=>t 0=.sl false false p0.length (ae ay p0)∧t 1=.sl false false p1.length (ae ay p1)∧t 5=.int .i64 s5a) (fun o x t H e=>match o with|(.inl _)=>x=.exit 0|(.inr r)=>x=.ret∧jd .clean tab none [.tmp 4] ⟨t,EH H,e⟩=some (.clean (.bool r),none)) ho7 ?_ ?_ ?_
  ·refine⟨?_,?_,?_⟩
   all_goals first|rfl|(simp only[eE,seval]<;>rfl)
  ·rintro s5a t H e Za c hh
   simp only[An]at hh
   try simp only[eE,seval,Za]
   refine sp aq hh (fun _ hh =>?_) (fun _ hh =>?_)
   ·obtain⟨x9,hx9,hh⟩:=ah hh
    have ax9:=bK ay hx9
    simp only[bC]at ax9
    obtain⟨x10,hx10,hh⟩:=ah hh
    have ax10:=bK ay hx10
    simp only[bC]at ax10
    obtain⟨r11,hr11,hh⟩:=ah hh
    try simp only[eE,seval,Za,ax9,ax10,hr11]
    refine bn (by kernel_rfl) ?_
    try simp only[eE,seval,Za,ax9,ax10,hr11]
    refine sp aq hh (fun _ hh =>?_) (fun _ hh =>?_)
    ·cases hh
     try simp only[eE,seval,Za,ax9,ax10,hr11]
     refine IG ⟨rfl,?_⟩
     try simp only[eE,seval,Za,ax9,ax10,hr11]
    ·cases hh
     try simp only[eE,seval,Za,ax9,ax10,hr11]
     refine jz ?_
     refine⟨?_,?_,?_⟩
     all_goals first|rfl|(simp only[eE,seval,Za,ax9,ax10,hr11]<;>rfl)
   ·cases hh
    try simp only[eE,seval,Za]
    refine kK ?_
    exact rfl
  ·rintro x t H e hx
   rcases o7 with _|ra
   ·dsimp only at hx hh
    subst hx
    cases hh
    try simp only[eE,seval]
   ·dsimp only at hx hh
    obtain⟨rfl,hE⟩:=hx
    cases hh
    try simp only[bO,bE,bV,ey,ew,dm,dn]
    exact hE
theorem Nj:bX Try.prog 16 wv:=bX.of (mode := .clean) tok Lv mixed Try.func16 (by kernel_rfl) ⟨by kernel_rfl,by kernel_rfl⟩ (fun _=>aeX (by kernel_rfl)) (fun x r h=>PL x.1 x.2 r h)
noncomputable def pU:=fR (iO (cN eo) (fO (cN eo))) (fun x:al×al=>mJ x.1 x.2) (fun r:Int =>.clean (.int .i64 r))
theorem vV (p0_0:Int) (p0_1:(List Int)) (p1_0:Int) (p1_1:(List Int)):pU none [.agg [.int .i64 p0_0,.sl false false p0_1.length (ae (eI .i64) p0_1)],.agg [.int .i64 p1_0,.sl false false p1_1.length (ae (eI .i64) p1_1)]]=(mJ (al.mk p0_0 p0_1) (al.mk p1_0 p1_1)).map fun r:Int=>(.clean (.int .i64 r),none):=aU _ _ _ ((al.mk p0_0 p0_1),(al.mk p1_0 p1_1))
noncomputable def mu:Env:=(Am.ext (Am.ext (Am.ext a7 50 false eL) 66 false iD) 78 false jT)
theorem Cs:bB Try.prog mu:=(((bB.none.add fj false).add lJ false).add oN false)
theorem db:type_of% (ai @w<|ai @ch<|ai @fp<|ai @iJ<|@mu.eq_1):=⟨@w,@ch,@fp,@iJ,@mu.eq_1⟩
theorem Em (p0:al) (p1:al) (r:Int) (hh:mJ p0 p1=some r):ba .clean tab mu FU Try.f54 none [.agg [.int .i64 p0.ag,.sl false false p0.aa.length (ae (eI .i64) p0.aa)],.agg [.int .i64 p1.ag,.sl false false p1.aa.length (ae (eI .i64) p1.aa)]]=some (.clean (.int .i64 r),none):=by
 refine aC rfl Try.ntmps54 Try.results54 ?_
 unfold mJ at hh
 obtain⟨r1,hr1,hh⟩:=ah hh
 try simp only[db,seval,hr1]
 obtain⟨o2,ho2,hh⟩:=ah hh
 refine bF 0 (fun s t H e=>match s with|s12j1=>∃v2j1:Nat,∃v3j1:Nat,t 2=.ptr 2 v2j1 0∧t 3=.ptr 3 v3j1 0∧t 12=.bool s12j1∧H 2=some ⟨v2j1,39,[.int .i64 p0.ag,.sl false false p0.aa.length (ae (eI .i64) p0.aa)],false,false,false⟩∧H 3=some ⟨v3j1,39,[.int .i64 p1.ag,.sl false false p1.aa.length (ae (eI .i64) p1.aa)],false,false,false⟩) (fun s=>s=o2) ?_ ?_
 ·rintro s12j1 t H e ⟨v2j1,v3j1,Zj1⟩ rfl
  try dsimp only at hh
  try simp only[db,seval,hr1,Zj1]
  refine sp aq hh (fun _ hh =>?_) (fun _ hh =>?_)
  ·cases hh
   try simp only[db,seval,hr1,Zj1]
  ·try simp only[db,seval,hr1,Zj1]
   refine sp aq hh (fun _ hh =>?_) (fun _ hh =>?_)
   ·obtain⟨r5,hr5,hh⟩:=ah hh
    cases hh
    try simp only[db,seval,hr1,Zj1,hr5]
   ·obtain⟨r6,hr6,hh⟩:=ah hh
    try simp only[db,seval,hr1,Zj1,hr6]
    refine bn (by kernel_rfl) ?_
    cases hh
    try simp only[db,seval,hr1,Zj1,hr6]
 ·clear hh
  have hh:=ho2
  try simp only[db,seval,hr1]
  refine sp bc hh (fun _ hh =>?_) (fun _ hh =>?_)
  ·cases hh
   try simp only[db,seval,hr1]
   rw[au]
   refine⟨_,rfl,?_⟩
   refine⟨0,0,?_,?_,?_,?_,?_⟩
   all_goals first|rfl|(simp only[db,seval,hr1]<;>rfl)
  ·obtain⟨r8,hr8,hh⟩:=ah hh
   cases hh
   try simp only[db,seval,hr1,hr8]
   rw[au]
   refine⟨_,rfl,?_⟩
   refine⟨0,0,?_,?_,?_,?_,?_⟩
   all_goals first|rfl|(simp only[db,seval,hr1,hr8]<;>rfl)
theorem C6:bX Try.prog 54 pU:=bX.of (mode := .clean) tok Cs mixed Try.func54 (by kernel_rfl) ⟨by kernel_rfl,by kernel_rfl⟩ (fun _=>aeX (by kernel_rfl)) (fun x r h=>Em x.1 x.2 r h)
noncomputable def n9:=fR (iO (cN ay) (fO (cN ay))) (fun x:ak×ak=>lv x.1 x.2) (fun r:Int =>.clean (.int .i64 r))
theorem tT (p0_0:Int) (p0_1:(List Int)) (p0_2:Int) (p0_3:(List Int)) (p1_0:Int) (p1_1:(List Int)) (p1_2:Int) (p1_3:(List Int)):n9 none [.agg [.int .i64 p0_0,.sl false false p0_1.length (ae (eI .i64) p0_1),.int .i64 p0_2,.sl false false p0_3.length (ae (eI .i64) p0_3)],.agg [.int .i64 p1_0,.sl false false p1_1.length (ae (eI .i64) p1_1),.int .i64 p1_2,.sl false false p1_3.length (ae (eI .i64) p1_3)]]=(lv (ak.mk (al.mk p0_0 p0_1) (al.mk p0_2 p0_3)) (ak.mk (al.mk p1_0 p1_1) (al.mk p1_2 p1_3))).map fun r:Int=>(.clean (.int .i64 r),none):=aU _ _ _ ((ak.mk (al.mk p0_0 p0_1) (al.mk p0_2 p0_3)),(ak.mk (al.mk p1_0 p1_1) (al.mk p1_2 p1_3)))
noncomputable def lz:Env:=(Am.ext (Am.ext (Am.ext a7 22 false dU) 48 false jt) 54 false pU)
theorem AH:bB Try.prog lz:=(((bB.none.add eG false).add mD false).add C6 false)
theorem dz:type_of% (ai @w<|ai @bU<|ai @gu<|ai @vV<|@lz.eq_1):=⟨@w,@bU,@gu,@vV,@lz.eq_1⟩
theorem CQ (p0:ak) (p1:ak) (r:Int) (hh:lv p0 p1=some r):ba .clean tab lz FU Try.f24 none [.agg [.int .i64 p0.aL.ag,.sl false false p0.aL.aa.length (ae (eI .i64) p0.aL.aa),.int .i64 p0.aM.ag,.sl false false p0.aM.aa.length (ae (eI .i64) p0.aM.aa)],.agg [.int .i64 p1.aL.ag,.sl false false p1.aL.aa.length (ae (eI .i64) p1.aL.aa),.int .i64 p1.aM.ag,.sl false false p1.aM.aa.length (ae (eI .i64) p1.aM.aa)]]=some (.clean (.int .i64 r),none):=by
 refine aC rfl Try.ntmps24 Try.results24 ?_
 unfold lv at hh
 obtain⟨r1,hr1,hh⟩:=ah hh
 try simp only[dz,seval,hr1]
 obtain⟨o2,ho2,hh⟩:=ah hh
 refine bF 0 (fun s t H e=>match s with|s12j1=>∃v2j1:Nat,∃v3j1:Nat,t 2=.ptr 2 v2j1 0∧t 3=.ptr 3 v3j1 0∧t 12=.bool s12j1∧H 2=some ⟨v2j1,41,[.int .i64 p0.aL.ag,.sl false false p0.aL.aa.length (ae (eI .i64) p0.aL.aa),.int .i64 p0.aM.ag,.sl false false p0.aM.aa.length (ae (eI .i64) p0.aM.aa)],false,false,false⟩∧H 3=some ⟨v3j1,41,[.int .i64 p1.aL.ag,.sl false false p1.aL.aa.length (ae (eI .i64) p1.aL.aa),.int .i64 p1.aM.ag,.sl false false p1.aM.aa.length (ae (eI .i64) p1.aM.aa)],false,false,false⟩) (fun s=>s=o2) ?_ ?_
 ·rintro s12j1 t H e ⟨v2j1,v3j1,Zj1⟩ rfl
  try dsimp only at hh
  try simp only[dz,seval,hr1,Zj1]
  refine sp aq hh (fun _ hh =>?_) (fun _ hh =>?_)
  ·cases hh
   try simp only[dz,seval,hr1,Zj1]
  ·obtain⟨r4,hr4,hh⟩:=ah hh
   obtain⟨r5,hr5,hh⟩:=ah hh
   obtain⟨r6,hr6,hh⟩:=ah hh
   try simp only[dz,seval,hr1,Zj1,hr4,hr5,hr6]
   refine bn (by kernel_rfl) ?_
   cases hh
   try simp only[dz,seval,hr1,Zj1,hr4,hr5,hr6]
 ·clear hh
  have hh:=ho2
  try simp only[dz,seval,hr1]
  refine sp bc hh (fun _ hh =>?_) (fun _ hh =>?_)
  ·cases hh
   try simp only[dz,seval,hr1]
   rw[au]
   refine⟨_,rfl,?_⟩
   refine⟨0,0,?_,?_,?_,?_,?_⟩
   all_goals first|rfl|(simp only[dz,seval,hr1]<;>rfl)
  ·obtain⟨r8,hr8,hh⟩:=ah hh
   cases hh
   try simp only[dz,seval,hr1,hr8]
   rw[au]
   refine⟨_,rfl,?_⟩
   refine⟨0,0,?_,?_,?_,?_,?_⟩
   all_goals first|rfl|(simp only[dz,seval,hr1,hr8]<;>rfl)
theorem AL:bX Try.prog 24 n9:=bX.of (mode := .clean) tok AH mixed Try.func24 (by kernel_rfl) ⟨by kernel_rfl,by kernel_rfl⟩ (fun _=>aeX (by kernel_rfl)) (fun x r h=>CQ x.1 x.2 r h)
noncomputable def mo:=fR (iO (cN ns) (iO (nc ay) (fO (nc ay)))) (fun x:bW×(List ak)×(List ak)=>kV x.1 x.2.1 x.2.2) (fun r:Bool =>.clean (.bool r))
theorem j2 (p0_0:Int) (p0_1:(List dr)) (p1:(List ak)) (p2:(List ak)):mo none [.agg [.int .i64 p0_0,.sl false false p0_1.length (ae a8 p0_1)],.sl false false p1.length (ae ay p1),.sl false false p2.length (ae ay p2)]=(kV (bW.mk p0_0 p0_1) p1 p2).map fun r:Bool=>(.clean (.bool r),none):=aU _ _ _ ((bW.mk p0_0 p0_1),p1,p2)
noncomputable def mB:Env:=(Am.ext (Am.ext (Am.ext (Am.ext (Am.ext a7 11 false mI) 24 false n9) 39 false j6) 40 false lj) 43 false ju)
theorem Cy:bB Try.prog mB:=(((((bB.none.add rU false).add AL false).add qp false).add wN false).add mE false)
theorem aT:type_of% (ai @w<|ai @kP<|ai @tT<|ai @kf<|ai @pL<|ai @gw<|@mB.eq_1):=⟨@w,@kP,@tT,@kf,@pL,@gw,@mB.eq_1⟩
end Go.Proofs.Ytchndpjlijbplaa.Am
