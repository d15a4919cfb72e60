/- Part of a proof, made small by a program (wip/mini.py). -/
import Derived.Test.YtchndpjlijbplaaJd
namespace Go.Proofs.Ytchndpjlijbplaa.Am
open Go.RowKit Go.Proofs.Ytchndpjlijbplaa.P
set_option maxRecDepth 100000
set_option maxHeartbeats 4000000
set_option linter.unusedSimpArgs false
set_option linter.unusedVariables false
theorem Uq (p0:al) (p1:al) (r:ak×Int) (hh:sC p0 p1=some r):bc .clean tab vv FU Try.f74 none [.agg [.int .i64 p0.ag,.sl false false p0.aa.length (ae (eI .i64) p0.aa)],.agg [.int .i64 p1.ag,.sl false false p1.aa.length (ae (eI .i64) p1.aa)]]=some (.clean (.tup [.agg [.int .i64 r.1.aH.ag,.sl false false r.1.aH.aa.length (ae (eI .i64) r.1.aH.aa),.int .i64 r.1.aK.ag,.sl false false r.1.aK.aa.length (ae (eI .i64) r.1.aK.aa)],.int .i64 r.2]),none):=by
 refine aC rfl Try.ntmps74 Try.results74 ?_
 unfold sC at hh
 obtain⟨r1,hr1,hh⟩:=ah hh
 try simp only[dW,seval,hr1]
 obtain⟨o2,ho2,hh⟩:=ah hh
 refine bt 0 (fun s t H e=>match s with|s21j1=>∃v2j1:Nat,∃v3j1:Nat,∃v4j1:Nat,t 2=.ptr 2 v2j1 0∧t 3=.ptr 3 v3j1 0∧t 4=.ptr 4 v4j1 0∧t 21=.bool s21j1∧H 2=some ⟨v2j1,39,[.int .i64 p0.ag,.sl false false p0.aa.length (ae (eI .i64) p0.aa)],false,false,false⟩∧H 3=some ⟨v3j1,39,[.int .i64 p1.ag,.sl false false p1.aa.length (ae (eI .i64) p1.aa)],false,false,false⟩∧H 4=some ⟨v4j1,41,[.int .i64 0,.sl true true 0 [],.int .i64 0,.sl true true 0 []],false,false,false⟩) (fun s=>s=o2) ?_ ?_
 ·rintro s21j1 t H e ⟨v2j1,v3j1,v4j1,Zj1⟩ rfl
  try dsimp only at hh
  try simp only[dW,seval,hr1,Zj1]
  refine sp aq hh (fun _ hh =>?_) (fun _ hh =>?_)
  ·cases hh
   try simp only[dW,seval,hr1,Zj1]
  ·try simp only[dW,seval,hr1,Zj1]
   refine sp aq hh (fun _ hh =>?_) (fun _ hh =>?_)
   ·cases hh
    try simp only[dW,seval,hr1,Zj1]
   ·try simp only[dW,seval,hr1,Zj1]
    obtain⟨o5,ho5,hh⟩:=ah hh
    refine kr 0 (fun s t H e=>match s with|(r2_0j2,r2_1j2,r3_0j2,r3_1j2)=>∃v2j2:Nat,∃v3j2:Nat,∃v4j2:Nat,t 2=.ptr 2 v2j2 0∧t 3=.ptr 3 v3j2 0∧t 4=.ptr 4 v4j2 0∧H 2=some ⟨v2j2,39,[.int .i64 r2_0j2,.sl false false r2_1j2.length (ae (eI .i64) r2_1j2)],false,false,false⟩∧H 3=some ⟨v3j2,39,[.int .i64 r3_0j2,.sl false false r3_1j2.length (ae (eI .i64) r3_1j2)],false,false,false⟩∧H 4=some ⟨v4j2,41,[.int .i64 0,.sl true true 0 [],.int .i64 0,.sl true true 0 []],false,false,false⟩) (fun s=>s=o5) ?_ ?_
    ·rintro⟨r2_0j2,r2_1j2,r3_0j2,r3_1j2⟩ t H e ⟨v2j2,v3j2,v4j2,Zj2⟩ rfl
     try dsimp only at hh
     obtain⟨r6,hr6,hh⟩:=ah hh
     obtain⟨r7,hr7,hh⟩:=ah hh
     obtain⟨r8,hr8,hh⟩:=ah hh
     cases hh
     try simp only[dW,seval,hr1,Zj2,hr6,hr7,hr8]
    ·clear hh
     have hh:=ho5
     try simp only[dW,seval,hr1,Zj1]
     refine sp aq hh (fun _ hh =>?_) (fun _ hh =>?_)
     ·obtain⟨r10,hr10,hh⟩:=ah hh
      obtain⟨r11,hr11,hh⟩:=ah hh
      cases hh
      try simp only[dW,seval,hr1,Zj1,hr10,hr11]
      rw[au]
      refine⟨_,rfl,?_⟩
      refine⟨v2j1,v3j1,v4j1,?_,?_,?_,?_,?_,?_⟩
      all_goals first|rfl|(simp only[dW,seval,hr1,Zj1,hr10,hr11]<;>rfl)
     ·cases hh
      try simp only[dW,seval,hr1,Zj1]
      rw[au]
      refine⟨_,rfl,?_⟩
      refine⟨v2j1,v3j1,v4j1,?_,?_,?_,?_,?_,?_⟩
      all_goals first|rfl|(simp only[dW,seval,hr1,Zj1]<;>rfl)
 ·clear hh
  have hh:=ho2
  try simp only[dW,seval,hr1]
  refine sp bd hh (fun _ hh =>?_) (fun _ hh =>?_)
  ·cases hh
   try simp only[dW,seval,hr1]
   rw[au]
   refine⟨_,rfl,?_⟩
   refine⟨0,0,0,?_,?_,?_,?_,?_,?_,?_⟩
   all_goals first|rfl|(simp only[dW,seval,hr1]<;>rfl)
  ·obtain⟨r13,hr13,hh⟩:=ah hh
   cases hh
   try simp only[dW,seval,hr1,hr13]
   rw[au]
   refine⟨_,rfl,?_⟩
   refine⟨0,0,0,?_,?_,?_,?_,?_,?_,?_⟩
   all_goals first|rfl|(simp only[dW,seval,hr1,hr13]<;>rfl)
theorem Qm:b6 Try.prog 74 yS:=b6.of (mode := .clean) tok PH mixed Try.func74 (by kernel_rfl) ⟨by kernel_rfl,by kernel_rfl⟩ (fun _=>afg (by kernel_rfl)) (fun x r h=>Uq x.1 x.2 r h)
noncomputable def xx:=fX (jh (aI .i64) (fU (aI .i64))) (fun x:Int×Int=>uw x.1 x.2) (fun r:ak×Int =>.clean (.tup [.agg [.int .i64 r.1.aH.ag,.sl false false r.1.aH.aa.length (ae (eI .i64) r.1.aH.aa),.int .i64 r.1.aK.ag,.sl false false r.1.aK.aa.length (ae (eI .i64) r.1.aK.aa)],.int .i64 r.2]))
theorem yv (p0:Int) (p1:Int):xx none [.int .i64 p0,.int .i64 p1]=(uw p0 p1).map fun r:ak×Int=>(.clean (.tup [.agg [.int .i64 r.1.aH.ag,.sl false false r.1.aH.aa.length (ae (eI .i64) r.1.aH.aa),.int .i64 r.1.aK.ag,.sl false false r.1.aK.aa.length (ae (eI .i64) r.1.aK.aa)],.int .i64 r.2]),none):=aU _ _ _ (p0,p1)
noncomputable def xY:Env:=(Am.ext (Am.ext a6 58 false xw) 74 false yS)
theorem T1:bA Try.prog xY:=((bA.none.add Hr false).add Qm false)
theorem X5:type_of% (ai @w<|ai @yu<|ai @HH<|@xY.eq_1):=⟨@w,@yu,@HH,@xY.eq_1⟩
theorem WE (p0:Int) (p1:Int) (r:ak×Int) (hh:uw p0 p1=some r):bc .clean tab xY FU Try.f46 none [.int .i64 p0,.int .i64 p1]=some (.clean (.tup [.agg [.int .i64 r.1.aH.ag,.sl false false r.1.aH.aa.length (ae (eI .i64) r.1.aH.aa),.int .i64 r.1.aK.ag,.sl false false r.1.aK.aa.length (ae (eI .i64) r.1.aK.aa)],.int .i64 r.2]),none):=by
 refine aC rfl Try.ntmps46 Try.results46 ?_
 unfold uw at hh
 obtain⟨r1,hr1,hh⟩:=ah hh
 obtain⟨r2,hr2,hh⟩:=ah hh
 obtain⟨r3,hr3,hh⟩:=ah hh
 cases hh
 try simp only[X5,seval,hr1,hr2,hr3]
theorem Hs:b6 Try.prog 46 xx:=b6.of (mode := .clean) tok T1 mixed Try.func46 (by kernel_rfl) ⟨by kernel_rfl,by kernel_rfl⟩ (fun _=>afg (by kernel_rfl)) (fun x r h=>WE x.1 x.2 r h)
noncomputable def wP:=fX (jh (aI .i64) (jh (aI .i64) (jh (aI .i64) (fU (aI .i64))))) (fun x:Int×Int×Int×Int=>kj x.1 x.2.1 x.2.2.1 x.2.2.2) (fun r:dy =>.clean (.agg [.int .i64 r.cR,.int .i64 r.kM,.int .i64 r.ba.aH.ag,.sl false false r.ba.aH.aa.length (ae (eI .i64) r.ba.aH.aa),.int .i64 r.ba.aK.ag,.sl false false r.ba.aK.aa.length (ae (eI .i64) r.ba.aK.aa)]))
theorem DV (p0:Int) (p1:Int) (p2:Int) (p3:Int):wP none [.int .i64 p0,.int .i64 p1,.int .i64 p2,.int .i64 p3]=(kj p0 p1 p2 p3).map fun r:dy=>(.clean (.agg [.int .i64 r.cR,.int .i64 r.kM,.int .i64 r.ba.aH.ag,.sl false false r.ba.aH.aa.length (ae (eI .i64) r.ba.aH.aa),.int .i64 r.ba.aK.ag,.sl false false r.ba.aK.aa.length (ae (eI .i64) r.ba.aK.aa)]),none):=aU _ _ _ (p0,p1,p2,p3)
noncomputable def rZ:Env:=(Am.ext a6 46 false xx)
theorem L0:bA Try.prog rZ:=(bA.none.add Hs false)
theorem Q1:type_of% (ai @w<|ai @yv<|@rZ.eq_1):=⟨@w,@yv,@rZ.eq_1⟩
theorem P3 (p0:Int) (p1:Int) (p2:Int) (p3:Int) (r:dy) (hh:kj p0 p1 p2 p3=some r):bc .clean tab rZ FU Try.f31 none [.int .i64 p0,.int .i64 p1,.int .i64 p2,.int .i64 p3]=some (.clean (.agg [.int .i64 r.cR,.int .i64 r.kM,.int .i64 r.ba.aH.ag,.sl false false r.ba.aH.aa.length (ae (eI .i64) r.ba.aH.aa),.int .i64 r.ba.aK.ag,.sl false false r.ba.aK.aa.length (ae (eI .i64) r.ba.aK.aa)]),none):=by
 refine aC rfl Try.ntmps31 Try.results31 ?_
 unfold kj at hh
 obtain⟨r1,hr1,hh⟩:=ah hh
 cases hh
 try simp only[Q1,seval,hr1]
theorem NJ:b6 Try.prog 31 wP:=b6.of (mode := .clean) tok L0 mixed Try.func31 (by kernel_rfl) ⟨by kernel_rfl,by kernel_rfl⟩ (fun _=>afg (by kernel_rfl)) (fun x r h=>P3 x.1 x.2.1 x.2.2.1 x.2.2.2 r h)
noncomputable def uP:=fX (fU (aI .i64)) (fun x:Int=>ov x) (fun r:ak =>.clean (.agg [.int .i64 r.aH.ag,.sl false false r.aH.aa.length (ae (eI .i64) r.aH.aa),.int .i64 r.aK.ag,.sl false false r.aK.aa.length (ae (eI .i64) r.aK.aa)]))
theorem vJ (p0:Int):uP none [.int .i64 p0]=(ov p0).map fun r:ak=>(.clean (.agg [.int .i64 r.aH.ag,.sl false false r.aH.aa.length (ae (eI .i64) r.aH.aa),.int .i64 r.aK.ag,.sl false false r.aK.aa.length (ae (eI .i64) r.aK.aa)]),none):=aU _ _ _ (p0)
noncomputable def vu:Env:=(Am.ext a6 46 false xx)
theorem PG:bA Try.prog vu:=(bA.none.add Hs false)
theorem UO:type_of% (ai @w<|ai @yv<|@vu.eq_1):=⟨@w,@yv,@vu.eq_1⟩
theorem Up (p0:Int) (r:ak) (hh:ov p0=some r):bc .clean tab vu FU Try.f17 none [.int .i64 p0]=some (.clean (.agg [.int .i64 r.aH.ag,.sl false false r.aH.aa.length (ae (eI .i64) r.aH.aa),.int .i64 r.aK.ag,.sl false false r.aK.aa.length (ae (eI .i64) r.aK.aa)]),none):=by
 refine aC rfl Try.ntmps17 Try.results17 ?_
 unfold ov at hh
 obtain⟨r1,hr1,hh⟩:=ah hh
 cases hh
 try simp only[UO,seval,hr1]
theorem DJ:b6 Try.prog 17 uP:=b6.of (mode := .clean) tok PG mixed Try.func17 (by kernel_rfl) ⟨by kernel_rfl,by kernel_rfl⟩ (fun _=>afg (by kernel_rfl)) (fun x r h=>Up x r h)
noncomputable def rf:=fX (fU (mL (eI .i64))) (fun x:(List Int)=>ki x) (fun r:(List ak) =>.clean (.sl false false r.length (ae az r)))
theorem jA (p0:(List Int)):rf none [.sl false false p0.length (ae (eI .i64) p0)]=(ki p0).map fun r:(List ak)=>(.clean (.sl false false r.length (ae az r)),none):=aU _ _ _ (p0)
noncomputable def rX:Env:=(Am.ext a6 17 false uP)
theorem LY:bA Try.prog rX:=(bA.none.add DJ false)
theorem jJ:type_of% (ai @w<|ai @vJ<|@rX.eq_1):=⟨@w,@vJ,@rX.eq_1⟩
theorem PZ (p0:(List Int)) (r:(List ak)) (hh:ki p0=some r):bc .clean tab rX FU Try.f32 none [.sl false false p0.length (ae (eI .i64) p0)]=some (.clean (.sl false false r.length (ae az r)),none):=by
 refine aC rfl Try.ntmps32 Try.results32 ?_
 unfold ki at hh
 try simp only[jJ,seval]
 obtain⟨o6,ho6,hh⟩:=ah hh
 refine aB (fun s t H e=>match s with|(s4a,l3a)=>∃v3a:Nat,t 0=.sl false false p0.length (ae (eI .i64) p0)∧t 3=.buf 3 v3a 4 0 (l3a).length∧t 4=.int .i64 s4a∧H 3=some ⟨v3a,41,ae az l3a,false,true,false⟩) (fun o x t H e=>match o with|l3ax=>x=.exit 0∧∃v3ax:Nat,t 3=.buf 3 v3ax 4 0 (l3ax).length∧H 3=some ⟨v3ax,41,ae az l3ax,false,true,false⟩) ho6 ?_ ?_ ?_
 ·refine⟨1,?_,?_,?_,?_⟩
  all_goals first|rfl|(simp only[jJ,seval]<;>rfl)
 ·rintro⟨s4a,l3a⟩ t H e ⟨v3a,Za⟩ c hh
  simp only[Aj]at hh
  try simp only[jJ,seval,Za]
  refine sp aq hh (fun _ hh =>?_) (fun _ hh =>?_)
  ·obtain⟨x8,hx8,hh⟩:=ah hh
   have ax8:=bQ (eI .i64) hx8
   simp only[bI]at ax8
   obtain⟨r9,hr9,hh⟩:=ah hh
   obtain⟨x10,hx10,hh⟩:=ah hh
   obtain⟨q11a,q11b,q11c,q11d⟩:=jg az hx10
   simp only[bI]at q11b
   cases hh
   try simp only[jJ,seval,Za,ax8,hr9,q11a,q11b,q11c,q11d]
   refine j6 ?_
   refine⟨e+1,?_,?_,?_,?_⟩
   all_goals first|rfl|(simp only[jJ,seval,Za,ax8,hr9,q11a,q11b,q11c,q11d]<;>rfl)
  ·cases hh
   try simp only[jJ,seval,Za]
   refine lj ?_
   refine⟨rfl,⟨v3a,?_,?_⟩⟩
   all_goals first|rfl|(simp only[jJ,seval,Za]<;>rfl)
 ·rintro x t H e hx
  obtain⟨l3ax,rfl⟩:∃z,z=o6:=⟨_,rfl⟩
  dsimp only at hx hh
  obtain⟨rfl,⟨v3ax,Zax⟩⟩:=hx
  cases hh
  try simp only[jJ,seval,Zax]
theorem Aq:b6 Try.prog 32 rf:=b6.of (mode := .clean) tok LY mixed Try.func32 (by kernel_rfl) ⟨by kernel_rfl,by kernel_rfl⟩ (fun _=>afg (by kernel_rfl)) (fun x r h=>PZ x r h)
noncomputable def ri:=fX (jh (aI .i64) (jh (aI .i64) (fU (aI .i64)))) (fun x:Int×Int×Int=>gM x.1 x.2.1 x.2.2) (fun r:Bool =>.clean (.bool r))
theorem yt (p0:Int) (p1:Int) (p2:Int):ri none [.int .i64 p0,.int .i64 p1,.int .i64 p2]=(gM p0 p1 p2).map fun r:Bool=>(.clean (.bool r),none):=aU _ _ _ (p0,p1,p2)
theorem Ji (p0:Int) (p1:Int) (p2:Int) (r:Bool) (hh:gM p0 p1 p2=some r):bc .clean tab a6 FU Try.f34 none [.int .i64 p0,.int .i64 p1,.int .i64 p2]=some (.clean (.bool r),none):=by
 refine aC rfl Try.ntmps34 Try.results34 ?_
 unfold gM at hh
 try simp only[w,seval]
 refine sp dp hh (fun _ hh =>?_) (fun _ hh =>?_)
 ·cases hh
  try simp only[w,seval]
 ·cases hh
  try simp only[w,seval]
theorem Fb:b6 Try.prog 34 ri:=b6.of (mode := .clean) tok bA.none mixed Try.func34 (by kernel_rfl) ⟨by kernel_rfl,by kernel_rfl⟩ (fun _=>afg (by kernel_rfl)) (fun x r h=>Ji x.1 x.2.1 x.2.2 r h)
noncomputable def eS:=fX (fU (cX eB)) (fun x:al=>cv x) (fun r:Bool =>.clean (.bool r))
theorem cq (p0_0:Int) (p0_1:(List Int)):eS none [.agg [.int .i64 p0_0,.sl false false p0_1.length (ae (eI .i64) p0_1)]]=(cv (al.mk p0_0 p0_1)).map fun r:Bool=>(.clean (.bool r),none):=aU _ _ _ ((al.mk p0_0 p0_1))
theorem MU (p0:al) (r:Bool) (hh:cv p0=some r):bc .clean tab a6 FU Try.f50 none [.agg [.int .i64 p0.ag,.sl false false p0.aa.length (ae (eI .i64) p0.aa)]]=some (.clean (.bool r),none):=by
 refine aC rfl Try.ntmps50 Try.results50 ?_
 unfold cv at hh
 try simp only[w,seval]
 obtain⟨o5,ho5,hh⟩:=ah hh
 refine aB (fun s t H e=>match s with|s12a=>∃v1a:Nat,t 1=.ptr 1 v1a 0∧t 3=.int .i64 (p0.aa.length:Int)∧t 10=.sl false false p0.aa.length (ae (eI .i64) p0.aa)∧t 11=.int .i64 (p0.aa.length:Int)∧t 12=.int .i64 s12a∧H 1=some ⟨v1a,39,[.int .i64 p0.ag,.sl false false p0.aa.length (ae (eI .i64) p0.aa)],false,false,false⟩) (fun o x t H e=>match o with|(.inl _)=>x=.exit 0∧∃v1ax:Nat,t 1=.ptr 1 v1ax 0∧t 3=.int .i64 (p0.aa.length:Int)∧H 1=some ⟨v1ax,39,[.int .i64 p0.ag,.sl false false p0.aa.length (ae (eI .i64) p0.aa)],false,false,false⟩|(.inr r)=>x=.ret∧jo .clean tab none [.tmp 2] ⟨t,EH H,e⟩=some (.clean (.bool r),none)) ho5 ?_ ?_ ?_
 ·refine⟨0,?_,?_,?_,?_,?_,?_⟩
  all_goals first|rfl|(simp only[w,seval]<;>rfl)
 ·rintro s12a t H e ⟨v1a,Za⟩ c hh
  simp only[nT]at hh
  try simp only[w,seval,Za]
  refine sp aq hh (fun _ hh =>?_) (fun _ hh =>?_)
  ·obtain⟨x7,hx7,hh⟩:=ah hh
   have ax7:=bQ (eI .i64) hx7
   simp only[bI]at ax7
   try simp only[w,seval,Za,ax7]
   refine sp bd hh (fun _ hh =>?_) (fun _ hh =>?_)
   ·cases hh
    try simp only[w,seval,Za,ax7]
    refine G2 ⟨rfl,?_⟩
    try simp only[w,seval,Za,ax7]
   ·try simp only[w,seval,Za,ax7]
    refine sp aq hh (fun _ hh =>?_) (fun _ hh =>?_)
    ·cases hh
     try simp only[w,seval,Za,ax7]
     refine G2 ⟨rfl,?_⟩
     try simp only[w,seval,Za,ax7]
    ·cases hh
     try simp only[w,seval,Za,ax7]
     refine j6 ?_
     refine⟨v1a,?_,?_,?_,?_,?_,?_⟩
     all_goals first|rfl|(simp only[w,seval,Za,ax7]<;>rfl)
  ·cases hh
   try simp only[w,seval,Za]
   refine lj ?_
   refine⟨rfl,⟨v1a,?_,?_,?_⟩⟩
   all_goals first|rfl|(simp only[w,seval,Za]<;>rfl)
 ·rintro x t H e hx
  rcases o5 with _|ra
  ·dsimp only at hx hh
   obtain⟨rfl,⟨v1ax,Zax⟩⟩:=hx
   try simp only[w,seval,Zax]
   refine sp aq hh (fun _ hh =>?_) (fun _ hh =>?_)
   ·cases hh
    try simp only[w,seval,Zax]
   ·try simp only[w,seval,Zax]
    refine sp bd hh (fun _ hh =>?_) (fun _ hh =>?_)
    ·obtain⟨x12,hx12,hh⟩:=ah hh
     have ax12:=bQ (eI .i64) hx12
     simp only[bI]at ax12
     cases hh
     try simp only[w,seval,Zax,ax12]
    ·try simp only[w,seval,Zax]
     refine sp dp hh (fun _ hh =>?_) (fun _ hh =>?_)
     ·obtain⟨x14,hx14,hh⟩:=ah hh
      have ax14:=bQ (eI .i64) hx14
      simp only[bI]at ax14
      cases hh
      try simp only[w,seval,Zax,ax14]
     ·cases hh
      try simp only[w,seval,Zax]
  ·dsimp only at hx hh
   obtain⟨rfl,hE⟩:=hx
   cases hh
   try simp only[bJ,bq,bW,ep,eo,dk,dm]
   exact hE
theorem fw:b6 Try.prog 50 eS:=b6.of (mode := .clean) tok bA.none mixed Try.func50 (by kernel_rfl) ⟨by kernel_rfl,by kernel_rfl⟩ (fun _=>afg (by kernel_rfl)) (fun x r h=>MU x r h)
noncomputable def kb:=fX (jh aa6 (fU (cX eB))) (fun x:Bool×al=>dR x.1 x.2) (fun r:al×Int =>.clean (.tup [.agg [.int .i64 r.1.ag,.sl false false r.1.aa.length (ae (eI .i64) r.1.aa)],.int .i64 r.2]))
theorem eP (p0:Bool) (p1_0:Int) (p1_1:(List Int)):kb none [.bool p0,.agg [.int .i64 p1_0,.sl false false p1_1.length (ae (eI .i64) p1_1)]]=(dR p0 (al.mk p1_0 p1_1)).map fun r:al×Int=>(.clean (.tup [.agg [.int .i64 r.1.ag,.sl false false r.1.aa.length (ae (eI .i64) r.1.aa)],.int .i64 r.2]),none):=aU _ _ _ (p0,(al.mk p1_0 p1_1))
theorem EY (p0:Bool) (p1:al) (r:al×Int) (hh:dR p0 p1=some r):bc .clean tab a6 FU Try.f75 none [.bool p0,.agg [.int .i64 p1.ag,.sl false false p1.aa.length (ae (eI .i64) p1.aa)]]=some (.clean (.tup [.agg [.int .i64 r.1.ag,.sl false false r.1.aa.length (ae (eI .i64) r.1.aa)],.int .i64 r.2]),none):=by
 refine aC rfl Try.ntmps75 Try.results75 ?_
 unfold dR at hh
 try simp only[w,seval]
 refine sp aq hh (fun _ hh =>?_) (fun _ hh =>?_)
 ·cases hh
  try simp only[w,seval]
 ·cases hh
  try simp only[w,seval]
theorem pj:b6 Try.prog 75 kb:=b6.of (mode := .clean) tok bA.none mixed Try.func75 (by kernel_rfl) ⟨by kernel_rfl,by kernel_rfl⟩ (fun _=>afg (by kernel_rfl)) (fun x r h=>EY x.1 x.2 r h)
theorem zg (r:(List Int)) (hh:cH []=some r):bc (.fresh 3 1) tab a6 FU Try.f82 none [.sl true true 0 []]=some (.fresh 3 1 r.length (ae (eI .i64) r),none):=by
 unfold cH at hh
 obtain⟨qa,qb,qc⟩:=Bb hh
 subst qa
 refine aC rfl Try.ntmps82 Try.results82 ?_
 simp only[w,seval,Nat.lt_irrefl]
theorem zh (r:(List Int)) (hh:cH []=some r):bc (.fresh 3 1) tab a6 FU Try.f82 none [.sl true false 0 []]=some (.fresh 3 1 r.length (ae (eI .i64) r),none):=by
 unfold cH at hh
 obtain⟨qa,qb,qc⟩:=Bb hh
 subst qa
 refine aC rfl Try.ntmps82 Try.results82 ?_
 simp only[w,seval,Nat.lt_irrefl]
theorem zi (p0 r:(List Int)) (hp:0<p0.length) (hh:cH p0=some r):bc (.fresh 3 1) tab a6 FU Try.f82 none [.sl false false p0.length (ae (eI .i64) p0)]=some (.fresh 3 1 r.length (ae (eI .i64) r),none):=by
 unfold cH at hh
 have hz:¬p0.length=0:=by omega
 obtain⟨qa,qb,qc⟩:=Bb hh
 subst qa
 refine aC rfl Try.ntmps82 Try.results82 ?_
 simp only[w,seval,hp,hz,qb,qc]
noncomputable def gX:=fX (fU (mL (eI .i64))) (fun x:(List Int)=>cH x) (fun r:(List Int) =>.fresh 3 1 r.length (ae (eI .i64) r))
theorem eV (p0:(List Int)):gX none [.sl false false p0.length (ae (eI .i64) p0)]=(cH p0).map fun r:(List Int)=>(.fresh 3 1 r.length (ae (eI .i64) r),none):=aU _ _ _ p0
theorem kE:b6 Try.prog 82 gX:=b6.abq (mode:=(.fresh 3 1)) tok bA.none mixed Try.func82 (by kernel_rfl) ⟨by kernel_rfl,by kernel_rfl⟩ (afg (by kernel_rfl)) zg zh zi
noncomputable def tx:=fX (fU (aI .i64)) (fun x:Int=>mq x) (fun r:Bool =>.clean (.bool r))
theorem Ay (p0:Int):tx none [.int .i64 p0]=(mq p0).map fun r:Bool=>(.clean (.bool r),none):=aU _ _ _ (p0)
theorem MW (p0:Int) (r:Bool) (hh:mq p0=some r):bc .clean tab a6 FU Try.f96 none [.int .i64 p0]=some (.clean (.bool r),none):=by
 refine aC rfl Try.ntmps96 Try.results96 ?_
 unfold mq at hh
 cases hh
 try simp only[w,seval]
theorem Jv:b6 Try.prog 96 tx:=b6.of (mode := .clean) tok bA.none mixed Try.func96 (by kernel_rfl) ⟨by kernel_rfl,by kernel_rfl⟩ (fun _=>afg (by kernel_rfl)) (fun x r h=>MW x r h)
noncomputable def iS:=fX (jh (aI .i64) (fU (aI .i64))) (fun x:Int×Int=>eA x.1 x.2) (fun r:Int =>.clean (.int .i64 r))
theorem fF (p0:Int) (p1:Int):iS none [.int .i64 p0,.int .i64 p1]=(eA p0 p1).map fun r:Int=>(.clean (.int .i64 r),none):=aU _ _ _ (p0,p1)
noncomputable def mQ:Env:=(Am.ext a6 96 false tx)
theorem CQ:bA Try.prog mQ:=(bA.none.add Jv false)
theorem dG:type_of% (ai @w<|ai @Ay<|@mQ.eq_1):=⟨@w,@Ay,@mQ.eq_1⟩
theorem E1 (p0:Int) (p1:Int) (r:Int) (hh:eA p0 p1=some r):bc .clean tab mQ FU Try.f66 none [.int .i64 p0,.int .i64 p1]=some (.clean (.int .i64 r),none):=by
 refine aC rfl Try.ntmps66 Try.results66 ?_
 unfold eA at hh
 obtain⟨r1,hr1,hh⟩:=ah hh
 obtain⟨r2,hr2,hh⟩:=ah hh
 try simp only[dG,seval,hr1,hr2]
 refine sp aq hh (fun _ hh =>?_) (fun _ hh =>?_)
 ·try simp only[dG,seval,hr1,hr2]
  refine sp aq hh (fun _ hh =>?_) (fun _ hh =>?_)
  ·cases hh
   try simp only[dG,seval,hr1,hr2]
  ·cases hh
   try simp only[dG,seval,hr1,hr2]
 ·try simp only[dG,seval,hr1,hr2]
  refine sp aq hh (fun _ hh =>?_) (fun _ hh =>?_)
  ·cases hh
   try simp only[dG,seval,hr1,hr2]
  ·try simp only[dG,seval,hr1,hr2]
   refine sp aq hh (fun _ hh =>?_) (fun _ hh =>?_)
   ·cases hh
    try simp only[dG,seval,hr1,hr2]
   ·try simp only[dG,seval,hr1,hr2]
    refine sp aq hh (fun _ hh =>?_) (fun _ hh =>?_)
    ·cases hh
     try simp only[dG,seval,hr1,hr2]
    ·cases hh
     try simp only[dG,seval,hr1,hr2]
theorem lY:b6 Try.prog 66 iS:=b6.of (mode := .clean) tok CQ mixed Try.func66 (by kernel_rfl) ⟨by kernel_rfl,by kernel_rfl⟩ (fun _=>afg (by kernel_rfl)) (fun x r h=>E1 x.1 x.2 r h)
noncomputable def kc:=fX (jh (mL (eI .i64)) (fU (mL (eI .i64)))) (fun x:(List Int)×(List Int)=>eT x.1 x.2) (fun r:Int =>.clean (.int .i64 r))
theorem iX (p0:(List Int)) (p1:(List Int)):kc none [.sl false false p0.length (ae (eI .i64) p0),.sl false false p1.length (ae (eI .i64) p1)]=(eT p0 p1).map fun r:Int=>(.clean (.int .i64 r),none):=aU _ _ _ (p0,p1)
noncomputable def mP:Env:=(Am.ext a6 66 false iS)
theorem CP:bA Try.prog mP:=(bA.none.add lY false)
theorem cB:type_of% (ai @w<|ai @fF<|@mP.eq_1):=⟨@w,@fF,@mP.eq_1⟩
theorem EZ (p0:(List Int)) (p1:(List Int)) (r:Int) (hh:eT p0 p1=some r):bc .clean tab mP FU Try.f78 none [.sl false false p0.length (ae (eI .i64) p0),.sl false false p1.length (ae (eI .i64) p1)]=some (.clean (.int .i64 r),none):=by
 refine aC rfl Try.ntmps78 Try.results78 ?_
 unfold eT at hh
 try simp only[cB,seval]
 refine sp aq hh (fun _ hh =>?_) (fun _ hh =>?_)
 ·obtain⟨r2,hr2,hh⟩:=ah hh
  cases hh
  try simp only[cB,seval,hr2]
 ·try simp only[cB,seval]
  obtain⟨o8,ho8,hh⟩:=ah hh
  refine aB (fun s t H e=>match s with|s5a=>t 0=.sl false false p0.length (ae (eI .i64) p0)∧t 1=.sl false false p1.length (ae (eI .i64) p1)∧t 5=.int .i64 s5a) (fun o x t H e=>match o with|(.inl _)=>x=.exit 0|(.inr r)=>x=.ret∧jo .clean tab none [.tmp 4] ⟨t,EH H,e⟩=some (.clean (.int .i64 r),none)) ho8 ?_ ?_ ?_
  ·refine⟨?_,?_,?_⟩
   all_goals first|rfl|(simp only[cB,seval]<;>rfl)
  ·rintro s5a t H e Za c hh
   simp only[lF]at hh
   try simp only[cB,seval,Za]
   refine sp aq hh (fun _ hh =>?_) (fun _ hh =>?_)
   ·obtain⟨x10,hx10,hh⟩:=ah hh
    have ax10:=bQ (eI .i64) hx10
    simp only[bI]at ax10
    obtain⟨x11,hx11,hh⟩:=ah hh
    have ax11:=bQ (eI .i64) hx11
    simp only[bI]at ax11
    try simp only[cB,seval,Za,ax10,ax11]
    refine bn (by kernel_rfl) ?_
    try simp only[cB,seval,Za,ax10,ax11]
    refine sp aq hh (fun _ hh =>?_) (fun _ hh =>?_)
    ·have ax10:=bQ (eI .i64) hx10
     simp only[bI]at ax10
     have ax11:=bQ (eI .i64) hx11
     simp only[bI]at ax11
     obtain⟨r13,hr13,hh⟩:=ah hh
     try simp only[cB,seval,Za,ax10,ax11,ax10,ax11,hr13]
     refine bn (by kernel_rfl) ?_
     cases hh
     try simp only[cB,seval,Za,ax10,ax11,ax10,ax11,hr13]
     refine G2 ⟨rfl,?_⟩
     try simp only[cB,seval,Za,ax10,ax11,ax10,ax11,hr13]
    ·cases hh
     try simp only[cB,seval,Za,ax10,ax11]
     refine j6 ?_
     refine⟨?_,?_,?_⟩
     all_goals first|rfl|(simp only[cB,seval,Za,ax10,ax11]<;>rfl)
   ·cases hh
    try simp only[cB,seval,Za]
    refine lj ?_
    exact rfl
  ·rintro x t H e hx
   rcases o8 with _|ra
   ·dsimp only at hx hh
    subst hx
    cases hh
    try simp only[cB,seval]
   ·dsimp only at hx hh
    obtain⟨rfl,hE⟩:=hx
    cases hh
    try simp only[bJ,bq,bW,ep,eo,dk,dm]
    exact hE
theorem pk:b6 Try.prog 78 kc:=b6.of (mode := .clean) tok CP mixed Try.func78 (by kernel_rfl) ⟨by kernel_rfl,by kernel_rfl⟩ (fun _=>afg (by kernel_rfl)) (fun x r h=>EZ x.1 x.2 r h)
noncomputable def kH:=fX (fU (mL (eI .i64))) (fun x:(List Int)=>dz x) (fun r:(List Int) =>.clean (.sl false false r.length (ae (eI .i64) r)))
theorem fh (p0:(List Int)):kH none [.sl false false p0.length (ae (eI .i64) p0)]=(dz p0).map fun r:(List Int)=>(.clean (.sl false false r.length (ae (eI .i64) r)),none):=aU _ _ _ (p0)
theorem PR (p0:(List Int)) (r:(List Int)) (hh:dz p0=some r):bc .clean tab a6 FU Try.f102 none [.sl false false p0.length (ae (eI .i64) p0)]=some (.clean (.sl false false r.length (ae (eI .i64) r)),none):=by
 refine aC rfl Try.ntmps102 Try.results102 ?_
 unfold dz at hh
 try simp only[w,seval]
 obtain⟨o4,ho4,hh⟩:=ah hh
 refine aB (fun s t H e=>match s with|s3a=>t 0=.sl false false p0.length (ae (eI .i64) p0)∧t 3=.int .i64 s3a) (fun o x t H e=>match o with|s3ax=>x=.exit 0∧t 0=.sl false false p0.length (ae (eI .i64) p0)∧t 3=.int .i64 s3ax) ho4 ?_ ?_ ?_
 ·refine⟨?_,?_⟩
  all_goals first|rfl|(simp only[w,seval]<;>rfl)
 ·rintro s3a t H e Za c hh
  simp only[ld]at hh
  try simp only[w,seval,Za]
  refine sp dp hh (fun _ hh =>?_) (fun _ hh =>?_)
  ·obtain⟨x6,hx6,hh⟩:=ah hh
   have ax6:=bQ (eI .i64) hx6
   simp only[bI]at ax6
   try simp only[w,seval,Za,ax6]
   refine sp aq hh (fun _ hh =>?_) (fun _ hh =>?_)
   ·cases hh
    try simp only[w,seval,Za,ax6]
    refine j6 ?_
    refine⟨?_,?_⟩
    all_goals first|rfl|(simp only[w,seval,Za,ax6]<;>rfl)
   ·cases hh
    try simp only[w,seval,Za,ax6]
    refine lj ?_
    refine⟨rfl,⟨?_,?_⟩⟩
    all_goals first|rfl|(simp only[w,seval,Za,ax6]<;>rfl)
  ·cases hh
   try simp only[w,seval,Za]
   refine lj ?_
   refine⟨rfl,⟨?_,?_⟩⟩
   all_goals first|rfl|(simp only[w,seval,Za]<;>rfl)
 ·rintro x t H e hx
  obtain⟨s3ax,rfl⟩:∃z,z=o4:=⟨_,rfl⟩
  dsimp only at hx hh
  obtain⟨rfl,Zax⟩:=hx
  obtain⟨x8,hx8,hh⟩:=ah hh
  obtain⟨q9a,q9b,q9c,q9d,q9e⟩:=JM (eI .i64) hx8
  simp only[bI]at q9e
  cases hh
  try simp only[w,seval,Zax,q9a,q9b,q9c,q9d,q9e]
theorem nt:b6 Try.prog 102 kH:=b6.of (mode := .clean) tok bA.none mixed Try.func102 (by kernel_rfl) ⟨by kernel_rfl,by kernel_rfl⟩ (fun _=>afg (by kernel_rfl)) (fun x r h=>PR x r h)
noncomputable def q8:=ZO 3 (eI .i64) (as0) (fun (l:(List Int)) (x:Unit)=>dz l)
theorem JE (pre post:List D) (p0:(List Int)):q8 (some (.buf 0 0 1 pre.length p0.length,⟨0,3,pre++(ae (eI .i64) p0++post),false,true,false⟩)) []=(dz p0).map fun r=>(.fresh 3 1 r.length (ae (eI .i64) r),none):=WG _ _ _ _ pre post p0 ()
theorem Je (pre post:List D) (p0:(List Int)) (r:(List Int)) (hh:dz p0=some r):bc (.fresh 3 1) tab a6 FU Try.f102 (some (.buf 0 0 1 pre.length p0.length,⟨0,3,pre++(ae (eI .i64) p0++post),false,true,false⟩)) []=some (.fresh 3 1 r.length (ae (eI .i64) r),none):=by
 refine Ew rfl Try.ntmps102 Try.results102 ?_
 unfold dz at hh
 try simp only[w,seval]
 obtain⟨o4,ho4,hh⟩:=ah hh
 refine aB (fun s t H e=>match s with|s3a=>∃v0a:Nat,t 0=.buf 0 v0a 1 pre.length (p0).length∧t 3=.int .i64 s3a∧H 0=some ⟨v0a,3,pre++(ae (eI .i64) p0++post),false,true,false⟩) (fun o x t H e=>match o with|s3ax=>x=.exit 0∧∃v0ax:Nat,t 0=.buf 0 v0ax 1 pre.length (p0).length∧t 3=.int .i64 s3ax∧H 0=some ⟨v0ax,3,pre++(ae (eI .i64) p0++post),false,true,false⟩) ho4 ?_ ?_ ?_
 ·refine⟨0,?_,?_,?_⟩
  all_goals first|rfl|(simp only[w,seval]<;>rfl)
 ·rintro s3a t H e ⟨v0a,Za⟩ c hh
  simp only[ld]at hh
  try simp only[w,seval,Za]
  refine sp dp hh (fun _ hh =>?_) (fun _ hh =>?_)
  ·obtain⟨x6,hx6,hh⟩:=ah hh
   have ax6:=Mj (pre:=pre) (post:=post) (eI .i64) hx6
   simp only[bI]at ax6
   try simp only[w,seval,Za,ax6]
   refine sp aq hh (fun _ hh =>?_) (fun _ hh =>?_)
   ·cases hh
    try simp only[w,seval,Za,ax6]
    refine j6 ?_
    refine⟨v0a,?_,?_,?_⟩
    all_goals first|rfl|(simp only[w,seval,Za,ax6]<;>rfl)
   ·cases hh
    try simp only[w,seval,Za,ax6]
    refine lj ?_
    refine⟨rfl,⟨v0a,?_,?_,?_⟩⟩
    all_goals first|rfl|(simp only[w,seval,Za,ax6]<;>rfl)
  ·cases hh
   try simp only[w,seval,Za]
   refine lj ?_
   refine⟨rfl,⟨v0a,?_,?_,?_⟩⟩
   all_goals first|rfl|(simp only[w,seval,Za]<;>rfl)
 ·rintro x t H e hx
  obtain⟨s3ax,rfl⟩:∃z,z=o4:=⟨_,rfl⟩
  dsimp only at hx hh
  obtain⟨rfl,⟨v0ax,Zax⟩⟩:=hx
  obtain⟨x8,hx8,hh⟩:=ah hh
  obtain⟨q9a,q9b,q9c,q9d,q9e⟩:=JM (eI .i64) hx8
  simp only[bI]at q9e
  obtain⟨q9f,q9g⟩:=YV (pre:=pre) (post:=post) (eI .i64) hx8
  simp only[bI]at q9f q9g
  cases hh
  try simp only[w,seval,Zax,q9a,q9b,q9c,q9f,q9g,q9d]
theorem E9:b6 Try.prog 102 q8:=b6.abo tok bA.none mixed Try.func102 (by kernel_rfl) ⟨by kernel_rfl,by kernel_rfl⟩ (fun _=>afg (by kernel_rfl)) (fun pre post l x r h=>Je pre post l r h)
noncomputable def tw:=fX (jh (mL (eI .i64)) (fU (aI .i64))) (fun x:(List Int)×Int=>k9 x.1 x.2) (fun r:(List Int)×Int =>.clean (.tup [.sl false false r.1.length (ae (eI .i64) r.1),.int .i64 r.2]))
theorem Ax (p0:(List Int)) (p1:Int):tw none [.sl false false p0.length (ae (eI .i64) p0),.int .i64 p1]=(k9 p0 p1).map fun r:(List Int)×Int=>(.clean (.tup [.sl false false r.1.length (ae (eI .i64) r.1),.int .i64 r.2]),none):=aU _ _ _ (p0,p1)
noncomputable def pM:Env:=(Am.ext a6 102 false kH)
theorem IZ:bA Try.prog pM:=(bA.none.add nt false)
theorem iB:type_of% (ai @w<|ai @fh<|@pM.eq_1):=⟨@w,@fh,@pM.eq_1⟩
theorem MV (p0:(List Int)) (p1:Int) (r:(List Int)×Int) (hh:k9 p0 p1=some r):bc .clean tab pM FU Try.f104 none [.sl false false p0.length (ae (eI .i64) p0),.int .i64 p1]=some (.clean (.tup [.sl false false r.1.length (ae (eI .i64) r.1),.int .i64 r.2]),none):=by
 refine aC rfl Try.ntmps104 Try.results104 ?_
 unfold k9 at hh
 obtain⟨x1,hx1,hh⟩:=ah hh
 obtain⟨q2a,q2b,q2c,q2d,q2e⟩:=mk_one (eI .i64) hx1
 simp only[bI]at q2d
 try simp only[iB,seval,-Int.reduceToNat,q2a,q2b,q2c,q2d,q2e]
 obtain⟨o13,ho13,hh⟩:=ah hh
 refine aB (fun s t H e=>match s with|(s7a,s8a,l6a)=>∃v6a:Nat,t 0=.sl false false p0.length (ae (eI .i64) p0)∧t 1=.int .i64 p1∧t 6=.buf 6 v6a 1 0 (l6a).length∧t 7=.int .i64 s7a∧t 8=.int .i64 s8a∧H 6=some ⟨v6a,3,ae (eI .i64) l6a,false,true,false⟩) (fun o x t H e=>match o with|(s7ax,l6ax)=>x=.exit 0∧∃v6ax:Nat,t 6=.buf 6 v6ax 1 0 (l6ax).length∧t 7=.int .i64 s7ax∧H 6=some ⟨v6ax,3,ae (eI .i64) l6ax,false,true,false⟩) ho13 ?_ ?_ ?_
 ·refine⟨1,?_,?_,?_,?_,?_,?_⟩
  all_goals first|rfl|(simp only[iB,seval,-Int.reduceToNat,q2a,q2b,q2c,q2d,q2e]<;>rfl)
 ·rintro⟨s7a,s8a,l6a⟩ t H e ⟨v6a,Za⟩ c hh
  simp only[nV]at hh
  try simp only[iB,seval,-Int.reduceToNat,q2a,q2b,q2c,q2d,q2e,Za]
  refine sp aq hh (fun _ hh =>?_) (fun _ hh =>?_)
  ·obtain⟨x15,hx15,hh⟩:=ah hh
   have q16:=Bm hx15
   obtain⟨x17,hx17,hh⟩:=ah hh
   have ax17:=bQ (eI .i64) hx17
   simp only[bI]at ax17
   obtain⟨x18,hx18,hh⟩:=ah hh
   have q19:=rK hx18
   obtain⟨x20,hx20,hh⟩:=ah hh
   have ax20:=bQ (eI .i64) hx20
   simp only[bI]at ax20
   have p21:=eO (eI .i64) (x':=x18) (fo:=0) (cs:=[.int .i64 x18]) hx20 rfl (afg rfl)
   simp only[bI,Nat.add_zero]at p21
   have up21:=p21
   simp only[putCells,List.length_cons,List.length_nil,aen,Nat.reduceAdd]at up21
   obtain⟨x22,hx22,hh⟩:=ah hh
   have q23:=yi hx22
   cases hh
   try simp only[iB,seval,-Int.reduceToNat,q2a,q2b,q2c,q2d,q2e,Za,q16,ax17,q19,ax20,p21,up21,q23]
   refine j6 ?_
   refine⟨v6a,?_,?_,?_,?_,?_,?_⟩
   all_goals first|rfl|(simp only[iB,seval,-Int.reduceToNat,q2a,q2b,q2c,q2d,q2e,Za,q16,ax17,q19,ax20,p21,up21,q23]<;>rfl)
  ·cases hh
   try simp only[iB,seval,-Int.reduceToNat,q2a,q2b,q2c,q2d,q2e,Za]
   refine lj ?_
   refine⟨rfl,⟨v6a,?_,?_,?_⟩⟩
   all_goals first|rfl|(simp only[iB,seval,-Int.reduceToNat,q2a,q2b,q2c,q2d,q2e,Za]<;>rfl)
 ·rintro x t H e hx
  rcases o13 with⟨s7ax,l6ax⟩
  dsimp only at hx hh
  obtain⟨rfl,⟨v6ax,Zax⟩⟩:=hx
  obtain⟨r24,hr24,hh⟩:=ah hh
  cases hh
  try simp only[iB,seval,-Int.reduceToNat,q2a,q2b,q2c,q2d,q2e,Zax,hr24]
theorem Ju:b6 Try.prog 104 tw:=b6.of (mode := .clean) tok IZ mixed Try.func104 (by kernel_rfl) ⟨by kernel_rfl,by kernel_rfl⟩ (fun _=>afg (by kernel_rfl)) (fun x r h=>MV x.1 x.2 r h)
noncomputable def uL:=fX (jh (mL (eI .i64)) (fU (mL (eI .i64)))) (fun x:(List Int)×(List Int)=>nU x.1 x.2) (fun r:(List Int) =>.fresh 3 1 r.length (ae (eI .i64) r))
theorem oA (p0:(List Int)) (p1:(List Int)):uL none [.sl false false p0.length (ae (eI .i64) p0),.sl false false p1.length (ae (eI .i64) p1)]=(nU p0 p1).map fun r:(List Int)=>(.fresh 3 1 r.length (ae (eI .i64) r),none):=aU _ _ _ (p0,p1)
noncomputable def vk:Env:=(Am.ext a6 102 true q8)
theorem PA:bA Try.prog vk:=(bA.none.add E9 true)
theorem eJ:type_of% (ai @w<|@vk.eq_1):=⟨@w,@vk.eq_1⟩
theorem Ui (p0:(List Int)) (p1:(List Int)) (r:(List Int)) (hh:nU p0 p1=some r):bc (.fresh 3 1) tab vk FU Try.f103 none [.sl false false p0.length (ae (eI .i64) p0),.sl false false p1.length (ae (eI .i64) p1)]=some (.fresh 3 1 r.length (ae (eI .i64) r),none):=by
 refine aC rfl Try.ntmps103 Try.results103 ?_
 unfold nU at hh
 obtain⟨x1,hx1,hh⟩:=ah hh
 obtain⟨q2a,q2b,q2c,q2d,q2e⟩:=mk_one (eI .i64) hx1
 simp only[bI]at q2d
 try simp only[eJ,seval,-Int.reduceToNat,q2a,q2b,q2c,q2d,q2e]
 obtain⟨o20,ho20,hh⟩:=ah hh
 refine aB (fun s t H e=>match s with|(s20a,l5a)=>∃v5a:Nat,t 1=.sl false false p1.length (ae (eI .i64) p1)∧t 5=.buf 5 v5a 1 0 (l5a).length∧t 18=.sl false false p0.length (ae (eI .i64) p0)∧t 19=.int .i64 (p0.length:Int)∧t 20=.int .i64 s20a∧H 5=some ⟨v5a,3,ae (eI .i64) l5a,false,true,false⟩) (fun o x t H e=>match o with|l5ax=>x=.exit 0∧∃v5ax:Nat,t 5=.buf 5 v5ax 1 0 (l5ax).length∧H 5=some ⟨v5ax,3,ae (eI .i64) l5ax,false,true,false⟩) ho20 ?_ ?_ ?_
 ·refine⟨1,?_,?_,?_,?_,?_,?_⟩
  all_goals first|rfl|(simp only[eJ,seval,-Int.reduceToNat,q2a,q2b,q2c,q2d,q2e]<;>rfl)
 ·rintro⟨s20a,l5a⟩ t H e ⟨v5a,Za⟩ c hh
  simp only[rF]at hh
  try simp only[eJ,seval,-Int.reduceToNat,q2a,q2b,q2c,q2d,q2e,Za]
  refine sp aq hh (fun _ hh =>?_) (fun _ hh =>?_)
  ·obtain⟨x22,hx22,hh⟩:=ah hh
   have ax22:=bQ (eI .i64) hx22
   simp only[bI]at ax22
   try simp only[eJ,seval,-Int.reduceToNat,q2a,q2b,q2c,q2d,q2e,Za,ax22]
   obtain⟨o29,ho29,hh⟩:=ah hh
   refine aB (fun s t H e=>match s with|(s8c,s27c,l5c)=>∃v5c:Nat,t 1=.sl false false p1.length (ae (eI .i64) p1)∧t 5=.buf 5 v5c 1 0 (l5c).length∧t 6=.int .i64 s20a∧t 7=.int .i64 x22∧t 8=.int .i64 s8c∧t 18=.sl false false p0.length (ae (eI .i64) p0)∧t 19=.int .i64 (p0.length:Int)∧t 20=.int .i64 s20a∧t 25=.sl false false p1.length (ae (eI .i64) p1)∧t 26=.int .i64 (p1.length:Int)∧t 27=.int .i64 s27c∧H 5=some ⟨v5c,3,ae (eI .i64) l5c,false,true,false⟩) (fun o x t H e=>match o with|(s8cx,l5cx)=>x=.exit 2∧∃v5cx:Nat,t 1=.sl false false p1.length (ae (eI .i64) p1)∧t 5=.buf 5 v5cx 1 0 (l5cx).length∧t 6=.int .i64 s20a∧t 8=.int .i64 s8cx∧t 18=.sl false false p0.length (ae (eI .i64) p0)∧t 19=.int .i64 (p0.length:Int)∧t 20=.int .i64 s20a∧H 5=some ⟨v5cx,3,ae (eI .i64) l5cx,false,true,false⟩) ho29 ?_ ?_ ?_
   ·refine⟨v5a,?_,?_,?_,?_,?_,?_,?_,?_,?_,?_,?_,?_⟩
    all_goals first|rfl|(simp only[eJ,seval,-Int.reduceToNat,q2a,q2b,q2c,q2d,q2e,Za,ax22]<;>rfl)
   ·rintro⟨s8c,s27c,l5c⟩ t H e ⟨v5c,Zc⟩ c hh
    simp only[rG]at hh
    try simp only[eJ,seval,-Int.reduceToNat,q2a,q2b,q2c,q2d,q2e,ax22,Zc]
    refine sp aq hh (fun _ hh =>?_) (fun _ hh =>?_)
    ·obtain⟨x31,hx31,hh⟩:=ah hh
     have ax31:=bQ (eI .i64) hx31
     simp only[bI]at ax31
     obtain⟨x32,hx32,hh⟩:=ah hh
     have ax32:=bQ (eI .i64) hx32
     simp only[bI]at ax32
     obtain⟨x33,hx33,hh⟩:=ah hh
     have q34:=sL hx33
     have ax32:=bQ (eI .i64) hx32
     simp only[bI]at ax32
     have p35:=eO (eI .i64) (x':=kf .and .i64 (IntKind.i64.wrap ((IntKind.i64.wrap (x32+(IntKind.i64.wrap (x22*x31))))+s8c)) 1048575) (fo:=0) (cs:=[.int .i64 (kf .and .i64 (IntKind.i64.wrap ((IntKind.i64.wrap (x32+(IntKind.i64.wrap (x22*x31))))+s8c)) 1048575)]) hx32 rfl (afg rfl)
     simp only[bI,Nat.add_zero]at p35
     have up35:=p35
     simp only[putCells,List.length_cons,List.length_nil,aen,Nat.reduceAdd]at up35
     cases hh
     try simp only[eJ,seval,-Int.reduceToNat,q2a,q2b,q2c,q2d,q2e,ax22,Zc,ax31,ax32,q34,ax32,p35,up35]
     refine j6 ?_
     refine⟨v5c,?_,?_,?_,?_,?_,?_,?_,?_,?_,?_,?_,?_⟩
     all_goals first|rfl|(simp only[eJ,seval,-Int.reduceToNat,q2a,q2b,q2c,q2d,q2e,ax22,Zc,ax31,ax32,q34,ax32,p35,up35]<;>rfl)
    ·cases hh
     try simp only[eJ,seval,-Int.reduceToNat,q2a,q2b,q2c,q2d,q2e,ax22,Zc]
     refine lj ?_
     refine⟨rfl,⟨v5c,?_,?_,?_,?_,?_,?_,?_,?_⟩⟩
     all_goals first|rfl|(simp only[eJ,seval,-Int.reduceToNat,q2a,q2b,q2c,q2d,q2e,ax22,Zc]<;>rfl)
   ·rintro x t H e hx
    rcases o29 with⟨s8cx,l5cx⟩
    dsimp only at hx hh
    obtain⟨rfl,⟨v5cx,Zcx⟩⟩:=hx
    obtain⟨x36,hx36,hh⟩:=ah hh
    have ax36:=bQ (eI .i64) hx36
    simp only[bI]at ax36
    have ax36:=bQ (eI .i64) hx36
    simp only[bI]at ax36
    have p37:=eO (eI .i64) (x':=IntKind.i64.wrap (x36+s8cx)) (fo:=0) (cs:=[.int .i64 (IntKind.i64.wrap (x36+s8cx))]) hx36 rfl (afg rfl)
    simp only[bI,Nat.add_zero]at p37
    have up37:=p37
    simp only[putCells,List.length_cons,List.length_nil,aen,Nat.reduceAdd]at up37
    cases hh
    try simp only[eJ,seval,-Int.reduceToNat,q2a,q2b,q2c,q2d,q2e,ax22,Zcx,ax36,ax36,p37,up37]
    refine j6 ?_
    refine⟨v5cx,?_,?_,?_,?_,?_,?_⟩
    all_goals first|rfl|(simp only[eJ,seval,-Int.reduceToNat,q2a,q2b,q2c,q2d,q2e,ax22,Zcx,ax36,ax36,p37,up37]<;>rfl)
  ·cases hh
   try simp only[eJ,seval,-Int.reduceToNat,q2a,q2b,q2c,q2d,q2e,Za]
   refine lj ?_
   refine⟨rfl,⟨v5a,?_,?_⟩⟩
   all_goals first|rfl|(simp only[eJ,seval,-Int.reduceToNat,q2a,q2b,q2c,q2d,q2e,Za]<;>rfl)
 ·rintro x t H e hx
  obtain⟨l5ax,rfl⟩:∃z,z=o20:=⟨_,rfl⟩
  dsimp only at hx hh
  obtain⟨rfl,⟨v5ax,Zax⟩⟩:=hx
  have i38:=JE [] [] l5ax
  try simp only[List.nil_append,afo,List.length_nil,aL,afz,bI]at i38
  obtain⟨r39,hr39,hh⟩:=ah hh
  cases hh
  try simp only[eJ,seval,-Int.reduceToNat,q2a,q2b,q2c,q2d,q2e,Zax,i38,hr39]
theorem DD:b6 Try.prog 103 uL:=b6.of (mode:=(.fresh 3 1)) tok PA mixed Try.func103 (by kernel_rfl) ⟨by kernel_rfl,by kernel_rfl⟩ (fun _=>afg (by kernel_rfl)) (fun x r h=>Ui x.1 x.2 r h)
noncomputable def oE:=mkW 3 (eI .i64) (jh (mL (eI .i64)) (fU (aI .i64))) (fun (l:(List Int)) (x:(List Int)×Int)=>fl l x.1 x.2) (fun r:Int =>.clean (.int .i64 r))
theorem DS (pre post:List D) (p0:(List Int)) (p1:(List Int)) (p2:Int):oE (some (.buf 0 0 1 pre.length p0.length,⟨0,3,pre++(ae (eI .i64) p0++post),false,true,false⟩)) [.sl false false p1.length (ae (eI .i64) p1),.int .i64 p2]=(fl p0 p1 p2).map fun r=>(.clean (.int .i64 r.2),some ⟨0,3,pre++(ae (eI .i64) r.1++post),false,true,false⟩):=aaA _ _ _ _ _ pre post p0 (p1,p2)
theorem Dc (pre post:List D) (p0:(List Int)) (p1:(List Int)) (p2:Int) (r:(List Int)×(Int)) (hh:fl p0 p1 p2=some r):bc .clean tab a6 FU Try.f105 (some (.buf 0 0 1 pre.length p0.length,⟨0,3,pre++(ae (eI .i64) p0++post),false,true,false⟩)) [.sl false false p1.length (ae (eI .i64) p1),.int .i64 p2]=some (.clean (.int .i64 r.2),some ⟨0,3,pre++(ae (eI .i64) r.1++post),false,true,false⟩):=by
 refine Ew rfl Try.ntmps105 Try.results105 ?_
 unfold fl at hh
 obtain⟨rw,hrw,hh⟩:=ah hh
 split at hh
 rotate_left
 ·cases hh
 cases hh
 rename_i hlen
 replace hh:=hrw
 unfold oO at hh
 try simp only[w,seval,-Int.reduceToNat]
 obtain⟨o9,ho9,hh⟩:=ah hh
 refine aB (fun s t H e=>match s with|(s7a,s14a,l0a)=>t 0=.buf 0 0 1 pre.length (l0a).length∧t 1=.sl false false p1.length (ae (eI .i64) p1)∧t 2=.int .i64 p2∧t 7=.int .i64 s7a∧t 13=.int .i64 ((p0).length:Int)∧t 14=.int .i64 s14a∧H 0=some ⟨0,3,pre++(ae (eI .i64) l0a++post),false,true,false⟩) (fun o x t H e=>match o with|(s7ax,l0ax)=>x=.exit 0∧t 0=.buf 0 0 1 pre.length (l0ax).length∧t 1=.sl false false p1.length (ae (eI .i64) p1)∧t 2=.int .i64 p2∧t 7=.int .i64 s7ax∧H 0=some ⟨0,3,pre++(ae (eI .i64) l0ax++post),false,true,false⟩) ho9 ?_ ?_ ?_
 ·refine⟨?_,?_,?_,?_,?_,?_,?_⟩
  all_goals first|rfl|(simp only[w,seval,-Int.reduceToNat]<;>rfl)
 ·rintro⟨s7a,s14a,l0a⟩ t H e Za c hh
  simp only[kv]at hh
  try simp only[w,seval,-Int.reduceToNat,Za]
  refine sp aq hh (fun _ hh =>?_) (fun _ hh =>?_)
  ·obtain⟨x11,hx11,hh⟩:=ah hh
   have ax11:=Mj (pre:=pre) (post:=post) (eI .i64) hx11
   simp only[bI]at ax11
   try simp only[w,seval,-Int.reduceToNat,Za,ax11]
   obtain⟨o12,ho12,hh⟩:=ah hh
   refine kr 0 (fun s t H e=>match s with|s9j3=>t 0=.buf 0 0 1 pre.length (l0a).length∧t 1=.sl false false p1.length (ae (eI .i64) p1)∧t 2=.int .i64 p2∧t 8=.int .i64 s14a∧t 9=.int .i64 s9j3∧t 13=.int .i64 ((p0).length:Int)∧t 14=.int .i64 s14a∧H 0=some ⟨0,3,pre++(ae (eI .i64) l0a++post),false,true,false⟩) (fun s=>s=o12) ?_ ?_
   ·rintro s9j3 t H e Zj3 rfl
    try dsimp only at hh
    have ax11:=Mj (pre:=pre) (post:=post) (eI .i64) hx11
    simp only[bI]at ax11
    have p13:=NV (pre:=pre) (post:=post) (eI .i64) (y':=kf .and .i64 s9j3 1048575) hx11
    simp only[bI]at p13
    have up13:=p13
    simp only[putCells,List.length_cons,List.length_nil,aen,Nat.reduceAdd]at up13
    obtain⟨x14,hx14,hh⟩:=ah hh
    have q15:=sL hx14
    cases hh
    try simp only[w,seval,-Int.reduceToNat,ax11,Zj3,ax11,p13,up13,q15]
    refine j6 ?_
    refine⟨?_,?_,?_,?_,?_,?_,?_⟩
    all_goals first|rfl|(simp only[w,seval,-Int.reduceToNat,ax11,Zj3,ax11,p13,up13,q15]<;>rfl)
   ·clear hh
    have hh:=ho12
    try simp only[w,seval,-Int.reduceToNat,Za,ax11]
    refine sp aq hh (fun _ hh =>?_) (fun _ hh =>?_)
    ·obtain⟨x17,hx17,hh⟩:=ah hh
     have ax17:=bQ (eI .i64) hx17
     simp only[bI]at ax17
     cases hh
     try simp only[w,seval,-Int.reduceToNat,Za,ax11,ax17]
     rw[au]
     refine⟨_,rfl,?_⟩
     refine⟨?_,?_,?_,?_,?_,?_,?_,?_⟩
     all_goals first|rfl|(simp only[w,seval,-Int.reduceToNat,Za,ax11,ax17]<;>rfl)
    ·cases hh
     try simp only[w,seval,-Int.reduceToNat,Za,ax11]
     rw[au]
     refine⟨_,rfl,?_⟩
     refine⟨?_,?_,?_,?_,?_,?_,?_,?_⟩
     all_goals first|rfl|(simp only[w,seval,-Int.reduceToNat,Za,ax11]<;>rfl)
  ·cases hh
   try simp only[w,seval,-Int.reduceToNat,Za]
   refine lj ?_
   refine⟨rfl,⟨?_,?_,?_,?_,?_⟩⟩
   all_goals first|rfl|(simp only[w,seval,-Int.reduceToNat,Za]<;>rfl)
 ·rintro x t H e hx
  rcases o9 with⟨s7ax,l0ax⟩
  dsimp only at hx hh
  obtain⟨rfl,Zax⟩:=hx
  try simp only[w,seval,-Int.reduceToNat,Zax]
  refine sp aq hh (fun _ hh =>?_) (fun _ hh =>?_)
  ·cases hh
   try simp only[w,seval,-Int.reduceToNat,Zax]
  ·try simp only[w,seval,-Int.reduceToNat,Zax]
   obtain⟨o27,ho27,hh⟩:=ah hh
   refine aB (fun s t H e=>match s with|(s10d,s49d,l0d)=>t 0=.buf 0 0 1 pre.length (l0d).length∧t 1=.sl false false p1.length (ae (eI .i64) p1)∧t 2=.int .i64 p2∧t 10=.int .i64 s10d∧t 48=.int .i64 ((l0ax).length:Int)∧t 49=.int .i64 s49d∧H 0=some ⟨0,3,pre++(ae (eI .i64) l0d++post),false,true,false⟩) (fun o x t H e=>match o with|l0dx=>x=.exit 2∧t 0=.buf 0 0 1 pre.length (l0dx).length∧t 2=.int .i64 p2∧H 0=some ⟨0,3,pre++(ae (eI .i64) l0dx++post),false,true,false⟩) ho27 ?_ ?_ ?_
   ·refine⟨?_,?_,?_,?_,?_,?_,?_⟩
    all_goals first|rfl|(simp only[w,seval,-Int.reduceToNat,Zax]<;>rfl)
   ·rintro⟨s10d,s49d,l0d⟩ t H e Zd c hh
    simp only[kx]at hh
    try simp only[w,seval,-Int.reduceToNat,Zd]
    refine sp aq hh (fun _ hh =>?_) (fun _ hh =>?_)
    ·obtain⟨x29,hx29,hh⟩:=ah hh
     have ax29:=Mj (pre:=pre) (post:=post) (eI .i64) hx29
     simp only[bI]at ax29
     try simp only[w,seval,-Int.reduceToNat,Zd,ax29]
     obtain⟨o30,ho30,hh⟩:=ah hh
     refine kr 0 (fun s t H e=>match s with|s10j6=>t 0=.buf 0 0 1 pre.length (l0d).length∧t 1=.sl false false p1.length (ae (eI .i64) p1)∧t 2=.int .i64 p2∧t 10=.int .i64 s10j6∧t 11=.int .i64 s49d∧t 48=.int .i64 ((l0ax).length:Int)∧t 49=.int .i64 s49d∧H 0=some ⟨0,3,pre++(ae (eI .i64) l0d++post),false,true,false⟩) (fun s=>s=o30) ?_ ?_
     ·rintro s10j6 t H e Zj6 rfl
      try dsimp only at hh
      have ax29:=Mj (pre:=pre) (post:=post) (eI .i64) hx29
      simp only[bI]at ax29
      have p31:=NV (pre:=pre) (post:=post) (eI .i64) (y':=kf .and .i64 s10j6 1048575) hx29
      simp only[bI]at p31
      have up31:=p31
      simp only[putCells,List.length_cons,List.length_nil,aen,Nat.reduceAdd]at up31
      obtain⟨x32,hx32,hh⟩:=ah hh
      have q33:=sL hx32
      cases hh
      try simp only[w,seval,-Int.reduceToNat,ax29,Zj6,ax29,p31,up31,q33]
      refine j6 ?_
      refine⟨?_,?_,?_,?_,?_,?_,?_⟩
      all_goals first|rfl|(simp only[w,seval,-Int.reduceToNat,ax29,Zj6,ax29,p31,up31,q33]<;>rfl)
     ·clear hh
      have hh:=ho30
      try simp only[w,seval,-Int.reduceToNat,Zd,ax29]
      refine sp aq hh (fun _ hh =>?_) (fun _ hh =>?_)
      ·obtain⟨x35,hx35,hh⟩:=ah hh
       have ax35:=bQ (eI .i64) hx35
       simp only[bI]at ax35
       cases hh
       try simp only[w,seval,-Int.reduceToNat,Zd,ax29,ax35]
       rw[au]
       refine⟨_,rfl,?_⟩
       refine⟨?_,?_,?_,?_,?_,?_,?_,?_⟩
       all_goals first|rfl|(simp only[w,seval,-Int.reduceToNat,Zd,ax29,ax35]<;>rfl)
      ·cases hh
       try simp only[w,seval,-Int.reduceToNat,Zd,ax29]
       rw[au]
       refine⟨_,rfl,?_⟩
       refine⟨?_,?_,?_,?_,?_,?_,?_,?_⟩
       all_goals first|rfl|(simp only[w,seval,-Int.reduceToNat,Zd,ax29]<;>rfl)
    ·cases hh
     try simp only[w,seval,-Int.reduceToNat,Zd]
     refine lj ?_
     refine⟨rfl,⟨?_,?_,?_⟩⟩
     all_goals first|rfl|(simp only[w,seval,-Int.reduceToNat,Zd]<;>rfl)
   ·rintro x t H e hx
    obtain⟨l0dx,rfl⟩:∃z,z=o27:=⟨_,rfl⟩
    dsimp only at hx hh
    obtain⟨rfl,Zdx⟩:=hx
    cases hh
    try simp only[w,seval,-Int.reduceToNat,Zdx]
theorem A3:b6 Try.prog 105 oE:=b6.abp (mode := .clean) tok bA.none mixed Try.func105 (by kernel_rfl) ⟨by kernel_rfl,by kernel_rfl⟩ (fun _=>afg (by kernel_rfl)) (fun pre post l x l' r h=>Dc pre post l x.1 x.2 (l',r) h)
noncomputable def uK:=fX (jh (mL (eI .i64)) (fU (mL (eI .i64)))) (fun x:(List Int)×(List Int)=>pH x.1 x.2) (fun r:(List Int)×(List Int) =>.clean (.tup [.sl false false r.1.length (ae (eI .i64) r.1),.sl false false r.2.length (ae (eI .i64) r.2)]))
theorem vF (p0:(List Int)) (p1:(List Int)):uK none [.sl false false p0.length (ae (eI .i64) p0),.sl false false p1.length (ae (eI .i64) p1)]=(pH p0 p1).map fun r:(List Int)×(List Int)=>(.clean (.tup [.sl false false r.1.length (ae (eI .i64) r.1),.sl false false r.2.length (ae (eI .i64) r.2)]),none):=aU _ _ _ (p0,p1)
noncomputable def vg:Env:=(Am.ext (Am.ext (Am.ext (Am.ext (Am.ext (Am.ext a6 78 false kc) 82 false gX) 102 false kH) 103 false uL) 104 false tw) 105 true oE)
theorem Pz:bA Try.prog vg:=((((((bA.none.add pk false).add kE false).add nt false).add DD false).add Ju false).add A3 true)
theorem aW:type_of% (ai @w<|ai @iX<|ai @eV<|ai @fh<|ai @oA<|ai @Ax<|@vg.eq_1):=⟨@w,@iX,@eV,@fh,@oA,@Ax,@vg.eq_1⟩
theorem Uh (p0:(List Int)) (p1:(List Int)) (r:(List Int)×(List Int)) (hh:pH p0 p1=some r):bc .clean tab vg FU Try.f83 none [.sl false false p0.length (ae (eI .i64) p0),.sl false false p1.length (ae (eI .i64) p1)]=some (.clean (.tup [.sl false false r.1.length (ae (eI .i64) r.1),.sl false false r.2.length (ae (eI .i64) r.2)]),none):=by
 refine aC rfl Try.ntmps83 Try.results83 ?_
 unfold pH at hh
 obtain⟨r1,hr1,hh⟩:=ah hh
 try simp only[aW,seval,-Int.reduceToNat,hr1]
 refine sp aq hh (fun _ hh =>?_) (fun _ hh =>?_)
 ·obtain⟨r3,hr3,hh⟩:=ah hh
  cases hh
  try simp only[aW,seval,-Int.reduceToNat,hr1,hr3]
 ·try simp only[aW,seval,-Int.reduceToNat,hr1]
  refine sp aq hh (fun _ hh =>?_) (fun _ hh =>?_)
  ·obtain⟨x5,hx5,hh⟩:=ah hh
   have ax5:=bQ (eI .i64) hx5
   simp only[bI]at ax5
   obtain⟨r6,hr6,hh⟩:=ah hh
   have i7:=fh ([r6.2])
   simp only[aL,bI,List.length_cons,List.length_nil,aen,Nat.reduceAdd,afz]at i7
   obtain⟨r8,hr8,hh⟩:=ah hh
   cases hh
   try simp only[aW,seval,-Int.reduceToNat,hr1,ax5,hr6,i7,hr8]
  ·try simp only[aW,seval,-Int.reduceToNat,hr1]
   obtain⟨o11,ho11,hh⟩:=ah hh
   refine aB (fun s t H e=>match s with|s8a=>t 0=.sl false false p0.length (ae (eI .i64) p0)∧t 1=.sl false false p1.length (ae (eI .i64) p1)∧t 8=.int .i64 s8a) (fun o x t H e=>match o with|s8ax=>x=.exit 0∧t 0=.sl false false p0.length (ae (eI .i64) p0)∧t 1=.sl false false p1.length (ae (eI .i64) p1)∧t 8=.int .i64 s8ax) ho11 ?_ ?_ ?_
   ·refine⟨?_,?_,?_⟩
    all_goals first|rfl|(simp only[aW,seval,-Int.reduceToNat,hr1]<;>rfl)
   ·rintro s8a t H e Za c hh
    simp only[rC]at hh
    obtain⟨x12,hx12,hh⟩:=ah hh
    have ax12:=bQ (eI .i64) hx12
    simp only[bI]at ax12
    try simp only[aW,seval,-Int.reduceToNat,hr1,Za,ax12]
    refine sp aq hh (fun _ hh =>?_) (fun _ hh =>?_)
    ·cases hh
     try simp only[aW,seval,-Int.reduceToNat,hr1,Za,ax12]
     refine j6 ?_
     refine⟨?_,?_,?_⟩
     all_goals first|rfl|(simp only[aW,seval,-Int.reduceToNat,hr1,Za,ax12]<;>rfl)
    ·cases hh
     try simp only[aW,seval,-Int.reduceToNat,hr1,Za,ax12]
     refine lj ?_
     refine⟨rfl,⟨?_,?_,?_⟩⟩
     all_goals first|rfl|(simp only[aW,seval,-Int.reduceToNat,hr1,Za,ax12]<;>rfl)
   ·rintro x t H e hx
    obtain⟨s8ax,rfl⟩:∃z,z=o11:=⟨_,rfl⟩
    dsimp only at hx hh
    obtain⟨rfl,Zax⟩:=hx
    have i14:=oA p0 ([s8ax])
    simp only[aL,bI,List.length_cons,List.length_nil,aen,Nat.reduceAdd,afz]at i14
    obtain⟨r15,hr15,hh⟩:=ah hh
    obtain⟨x16,hx16,hh⟩:=ah hh
    obtain⟨q17a,q17b,q17c,q17d⟩:=jg (eI .i64) hx16
    simp only[bI]at q17b
    have i18:=oA p1 ([s8ax])
    simp only[aL,bI,List.length_cons,List.length_nil,aen,Nat.reduceAdd,afz]at i18
    obtain⟨r19,hr19,hh⟩:=ah hh
    try simp only[aW,seval,-Int.reduceToNat,hr1,Zax,i14,hr15,q17a,q17b,q17c,q17d,i18,hr19]
    obtain⟨o20,ho20,hh⟩:=ah hh
    refine kr 0 (fun s t H e=>match s with|l9j2=>∃v9j2:Nat,∃v10j2:Nat,t 8=.int .i64 s8ax∧t 9=.buf 9 v9j2 1 0 (l9j2).length∧t 10=.buf 10 v10j2 1 0 (r19).length∧H 9=some ⟨v9j2,3,ae (eI .i64) l9j2,false,true,false⟩∧H 10=some ⟨v10j2,3,ae (eI .i64) r19,false,true,false⟩) (fun s=>s=o20) ?_ ?_
    ·rintro l9j2 t H e ⟨v9j2,v10j2,Zj2⟩ rfl
     try dsimp only at hh
     obtain⟨x21,hx21,hh⟩:=ah hh
     obtain⟨q22a,q22b,q22c,q22d,q22e⟩:=mk_one (eI .i64) hx21
     simp only[bI]at q22d
     try simp only[aW,seval,-Int.reduceToNat,hr1,i14,hr15,q17a,q17b,q17c,q17d,i18,hr19,Zj2,q22a,q22b,q22c,q22d,q22e]
     obtain⟨o58,ho58,hh⟩:=ah hh
     refine aB (fun s t H e=>match s with|(s13c,l9c,l12c)=>∃v9c:Nat,∃v10c:Nat,∃v12c:Nat,∃z10c:Bool,t 8=.int .i64 s8ax∧t 9=.buf 9 v9c 1 0 (l9c).length∧t 10=.buf 10 v10c 1 0 (r19).length∧t 11=.int .i64 ((r19).length:Int)∧t 12=.buf 12 v12c 1 0 (l12c).length∧t 13=.int .i64 s13c∧H 9=some ⟨v9c,3,ae (eI .i64) l9c,false,true,false⟩∧H 10=some ⟨v10c,3,ae (eI .i64) r19,z10c,true,false⟩∧H 12=some ⟨v12c,3,ae (eI .i64) l12c,false,true,false⟩) (fun o x t H e=>match o with|(l9cx,l12cx)=>x=.exit 2∧∃v9cx:Nat,∃v12cx:Nat,t 8=.int .i64 s8ax∧t 9=.buf 9 v9cx 1 0 (l9cx).length∧t 12=.buf 12 v12cx 1 0 (l12cx).length∧H 9=some ⟨v9cx,3,ae (eI .i64) l9cx,false,true,false⟩∧H 12=some ⟨v12cx,3,ae (eI .i64) l12cx,false,true,false⟩) ho58 ?_ ?_ ?_
     ·refine⟨v9j2,v10j2,e+1,false,?_,?_,?_,?_,?_,?_,?_,?_,?_⟩
      all_goals first|rfl|(simp only[aW,seval,-Int.reduceToNat,hr1,i14,hr15,q17a,q17b,q17c,q17d,i18,hr19,Zj2,q22a,q22b,q22c,q22d,q22e]<;>rfl)
     ·rintro⟨s13c,l9c,l12c⟩ t H e ⟨v9c,v10c,v12c,z10c,Zc⟩ c hh
      simp only[rD]at hh
      try simp only[aW,seval,-Int.reduceToNat,hr1,i14,hr15,q17a,q17b,q17c,q17d,i18,hr19,q22a,q22b,q22c,q22d,q22e,Zc]
      refine sp aq hh (fun _ hh =>?_) (fun _ hh =>?_)
      ·obtain⟨x60,hx60,hh⟩:=ah hh
       have ax60:=bQ (eI .i64) hx60
       simp only[bI]at ax60
       obtain⟨x61,hx61,hh⟩:=ah hh
       have q62:=Bm hx61
       obtain⟨x63,hx63,hh⟩:=ah hh
       have ax63:=bQ (eI .i64) hx63
       simp only[bI]at ax63
       try simp only[aW,seval,-Int.reduceToNat,hr1,i14,hr15,q17a,q17b,q17c,q17d,i18,hr19,q22a,q22b,q22c,q22d,q22e,Zc,ax60,q62,ax63]
       refine bn (by kernel_rfl) ?_
       obtain⟨x64,hx64,hh⟩:=ah hh
       have ax64:=bQ (eI .i64) hx64
       simp only[bI]at ax64
       obtain⟨x65,hx65,hh⟩:=ah hh
       have q66:=rK hx65
       have ax64:=bQ (eI .i64) hx64
       simp only[bI]at ax64
       obtain⟨x67,hx67,hh⟩:=ah hh
       have q68:=yi hx67
       try simp only[aW,seval,-Int.reduceToNat,hr1,i14,hr15,q17a,q17b,q17c,q17d,i18,hr19,q22a,q22b,q22c,q22d,q22e,Zc,ax60,q62,ax63,ax64,q66,ax64,q68]
       refine bn (by kernel_rfl) ?_
       try simp only[aW,seval,-Int.reduceToNat,hr1,i14,hr15,q17a,q17b,q17c,q17d,i18,hr19,q22a,q22b,q22c,q22d,q22e,Zc,ax60,q62,ax63,ax64,q66,ax64,q68]
       obtain⟨o78,ho78,hh⟩:=ah hh
       refine aB (fun s t H e=>match s with|(s15g,s16g)=>∃v9g:Nat,∃v10g:Nat,∃v12g:Nat,∃z10g:Bool,t 8=.int .i64 s8ax∧t 9=.buf 9 v9g 1 0 (l9c).length∧t 10=.buf 10 v10g 1 0 (r19).length∧t 11=.int .i64 ((r19).length:Int)∧t 12=.buf 12 v12g 1 0 (l12c).length∧t 13=.int .i64 s13c∧t 15=.int .i64 s15g∧t 16=.int .i64 s16g∧H 9=some ⟨v9g,3,ae (eI .i64) l9c,false,true,false⟩∧H 10=some ⟨v10g,3,ae (eI .i64) r19,z10g,true,false⟩∧H 12=some ⟨v12g,3,ae (eI .i64) l12c,false,true,false⟩) (fun o x t H e=>match o with|s15gx=>x=.exit 4∧∃v9gx:Nat,∃v10gx:Nat,∃v12gx:Nat,∃z10gx:Bool,t 8=.int .i64 s8ax∧t 9=.buf 9 v9gx 1 0 (l9c).length∧t 10=.buf 10 v10gx 1 0 (r19).length∧t 11=.int .i64 ((r19).length:Int)∧t 12=.buf 12 v12gx 1 0 (l12c).length∧t 13=.int .i64 s13c∧t 15=.int .i64 s15gx∧H 9=some ⟨v9gx,3,ae (eI .i64) l9c,false,true,false⟩∧H 10=some ⟨v10gx,3,ae (eI .i64) r19,z10gx,true,false⟩∧H 12=some ⟨v12gx,3,ae (eI .i64) l12c,false,true,false⟩) ho78 ?_ ?_ ?_
       ·refine⟨v9c,v10c,v12c,z10c,?_,?_,?_,?_,?_,?_,?_,?_,?_,?_,?_⟩
        all_goals first|rfl|(simp only[aW,seval,-Int.reduceToNat,hr1,i14,hr15,q17a,q17b,q17c,q17d,i18,hr19,q22a,q22b,q22c,q22d,q22e,Zc,ax60,q62,ax63,ax64,q66,ax64,q68]<;>rfl)
       ·rintro⟨s15g,s16g⟩ t H e ⟨v9g,v10g,v12g,z10g,Zg⟩ c hh
        simp only[rE]at hh
        try simp only[aW,seval,-Int.reduceToNat,hr1,i14,hr15,q17a,q17b,q17c,q17d,i18,hr19,q22a,q22b,q22c,q22d,q22e,ax60,q62,ax63,ax64,q66,ax64,q68,Zg]
        obtain⟨o79,ho79,hh⟩:=ah hh
        refine XT 0 (fun s t H e=>match s with|s137j9=>∃v9j9:Nat,∃v10j9:Nat,∃v12j9:Nat,∃z10j9:Bool,t 8=.int .i64 s8ax∧t 9=.buf 9 v9j9 1 0 (l9c).length∧t 10=.buf 10 v10j9 1 0 (r19).length∧t 11=.int .i64 ((r19).length:Int)∧t 12=.buf 12 v12j9 1 0 (l12c).length∧t 13=.int .i64 s13c∧t 15=.int .i64 s15g∧t 16=.int .i64 s16g∧t 137=.bool s137j9∧H 9=some ⟨v9j9,3,ae (eI .i64) l9c,false,true,false⟩∧H 10=some ⟨v10j9,3,ae (eI .i64) r19,z10j9,true,false⟩∧H 12=some ⟨v12j9,3,ae (eI .i64) l12c,false,true,false⟩) (fun s=>s=o79) ?_ ?_
        ·rintro s137j9 t H e ⟨v9j9,v10j9,v12j9,z10j9,Zj9⟩ rfl
         try dsimp only at hh
         try simp only[aW,seval,-Int.reduceToNat,hr1,i14,hr15,q17a,q17b,q17c,q17d,i18,hr19,q22a,q22b,q22c,q22d,q22e,ax60,q62,ax63,ax64,q66,ax64,q68,Zj9]
         refine sp aq hh (fun _ hh =>?_) (fun _ hh =>?_)
         ·have ax64:=bQ (eI .i64) hx64
          simp only[bI]at ax64
          cases hh
          try simp only[aW,seval,-Int.reduceToNat,hr1,i14,hr15,q17a,q17b,q17c,q17d,i18,hr19,q22a,q22b,q22c,q22d,q22e,ax60,q62,ax63,ax64,q66,ax64,q68,Zj9,ax64]
          refine j6 ?_
          refine⟨v9j9,v10j9,v12j9,z10j9,?_,?_,?_,?_,?_,?_,?_,?_,?_,?_,?_⟩
          all_goals first|rfl|(simp only[aW,seval,-Int.reduceToNat,hr1,i14,hr15,q17a,q17b,q17c,q17d,i18,hr19,q22a,q22b,q22c,q22d,q22e,ax60,q62,ax63,ax64,q66,ax64,q68,Zj9,ax64]<;>rfl)
         ·cases hh
          try simp only[aW,seval,-Int.reduceToNat,hr1,i14,hr15,q17a,q17b,q17c,q17d,i18,hr19,q22a,q22b,q22c,q22d,q22e,ax60,q62,ax63,ax64,q66,ax64,q68,Zj9]
          refine lj ?_
          refine⟨rfl,⟨v9j9,v10j9,v12j9,z10j9,?_,?_,?_,?_,?_,?_,?_,?_,?_,?_⟩⟩
          all_goals first|rfl|(simp only[aW,seval,-Int.reduceToNat,hr1,i14,hr15,q17a,q17b,q17c,q17d,i18,hr19,q22a,q22b,q22c,q22d,q22e,ax60,q62,ax63,ax64,q66,ax64,q68,Zj9]<;>rfl)
        ·clear hh
         have hh:=ho79
         try simp only[aW,seval,-Int.reduceToNat,hr1,i14,hr15,q17a,q17b,q17c,q17d,i18,hr19,q22a,q22b,q22c,q22d,q22e,ax60,q62,ax63,ax64,q66,ax64,q68,Zg]
         refine sp XS hh (fun _ hh =>?_) (fun _ hh =>?_)
         ·try simp only[aW,seval,-Int.reduceToNat,hr1,i14,hr15,q17a,q17b,q17c,q17d,i18,hr19,q22a,q22b,q22c,q22d,q22e,ax60,q62,ax63,ax64,q66,ax64,q68,Zg]
          refine bn (by kernel_rfl) ?_
          cases hh
          try simp only[aW,seval,-Int.reduceToNat,hr1,i14,hr15,q17a,q17b,q17c,q17d,i18,hr19,q22a,q22b,q22c,q22d,q22e,ax60,q62,ax63,ax64,q66,ax64,q68,Zg]
          rw[au]
          refine⟨_,rfl,?_⟩
          refine⟨v9g,v10g,v12g,z10g,?_,?_,?_,?_,?_,?_,?_,?_,?_,?_,?_,?_⟩
          all_goals first|rfl|(simp only[aW,seval,-Int.reduceToNat,hr1,i14,hr15,q17a,q17b,q17c,q17d,i18,hr19,q22a,q22b,q22c,q22d,q22e,ax60,q62,ax63,ax64,q66,ax64,q68,Zg]<;>rfl)
         ·try simp only[aW,seval,-Int.reduceToNat,hr1,i14,hr15,q17a,q17b,q17c,q17d,i18,hr19,q22a,q22b,q22c,q22d,q22e,ax60,q62,ax63,ax64,q66,ax64,q68,Zg]
          refine sp sO hh (fun _ hh =>?_) (fun _ hh =>?_)
          ·obtain⟨x83,hx83,hh⟩:=ah hh
           have ax83:=bQ (eI .i64) hx83
           simp only[bI]at ax83
           obtain⟨x84,hx84,hh⟩:=ah hh
           have q85:=Bm hx84
           obtain⟨x86,hx86,hh⟩:=ah hh
           have ax86:=bQ (eI .i64) hx86
           simp only[bI]at ax86
           try simp only[aW,seval,-Int.reduceToNat,hr1,i14,hr15,q17a,q17b,q17c,q17d,i18,hr19,q22a,q22b,q22c,q22d,q22e,ax60,q62,ax63,ax64,q66,ax64,q68,Zg,ax83,q85,ax86]
           refine bn (by kernel_rfl) ?_
           cases hh
           try simp only[aW,seval,-Int.reduceToNat,hr1,i14,hr15,q17a,q17b,q17c,q17d,i18,hr19,q22a,q22b,q22c,q22d,q22e,ax60,q62,ax63,ax64,q66,ax64,q68,Zg,ax83,q85,ax86]
           rw[au]
           refine⟨_,rfl,?_⟩
           refine⟨v9g,v10g,v12g,z10g,?_,?_,?_,?_,?_,?_,?_,?_,?_,?_,?_,?_⟩
           all_goals first|rfl|(simp only[aW,seval,-Int.reduceToNat,hr1,i14,hr15,q17a,q17b,q17c,q17d,i18,hr19,q22a,q22b,q22c,q22d,q22e,ax60,q62,ax63,ax64,q66,ax64,q68,Zg,ax83,q85,ax86]<;>rfl)
          ·try simp only[aW,seval,-Int.reduceToNat,hr1,i14,hr15,q17a,q17b,q17c,q17d,i18,hr19,q22a,q22b,q22c,q22d,q22e,ax60,q62,ax63,ax64,q66,ax64,q68,Zg]
           refine bn (by kernel_rfl) ?_
           cases hh
           try simp only[aW,seval,-Int.reduceToNat,hr1,i14,hr15,q17a,q17b,q17c,q17d,i18,hr19,q22a,q22b,q22c,q22d,q22e,ax60,q62,ax63,ax64,q66,ax64,q68,Zg]
           rw[au]
           refine⟨_,rfl,?_⟩
           refine⟨v9g,v10g,v12g,z10g,?_,?_,?_,?_,?_,?_,?_,?_,?_,?_,?_,?_⟩
           all_goals first|rfl|(simp only[aW,seval,-Int.reduceToNat,hr1,i14,hr15,q17a,q17b,q17c,q17d,i18,hr19,q22a,q22b,q22c,q22d,q22e,ax60,q62,ax63,ax64,q66,ax64,q68,Zg]<;>rfl)
       ·rintro x t H e hx
        obtain⟨s15gx,rfl⟩:∃z,z=o78:=⟨_,rfl⟩
        dsimp only at hx hh
        obtain⟨rfl,⟨v9gx,v10gx,v12gx,z10gx,Zgx⟩⟩:=hx
        obtain⟨x87,hx87,hh⟩:=ah hh
        obtain⟨q88a,q88b,q88c,q88d,q88e⟩:=aaO (eI .i64) hx87
        simp only[bI]at q88e
        have i89:=DS (ae (eI .i64) (l9c.take (s13c).toNat)) (ae (eI .i64) (l9c.drop (IntKind.i64.wrap ((IntKind.i64.wrap (s13c+((r19).length:Int)))+1)).toNat)) x87 r19 s15gx
        simp only[Y2,Y3 (eI .i64) hx87,Y4 (eI .i64) hx87,Z6 hx87,bI,Int.toNat_zero,afm,Nat.sub_zero]at i89
        obtain⟨r90,hr90,hh⟩:=ah hh
        have q91l:=ze hr90
        have q91m:=XY hx87 q91l
        obtain⟨x92,hx92,hh⟩:=ah hh
        have ax92:=bQ (eI .i64) hx92
        simp only[bI]at ax92
        have p93:=eO (eI .i64) (x':=r90.2) (fo:=0) (cs:=[.int .i64 r90.2]) hx92 rfl (afg rfl)
        simp only[bI,Nat.add_zero]at p93
        have up93:=p93
        simp only[putCells,List.length_cons,List.length_nil,aen,Nat.reduceAdd]at up93
        cases hh
        try simp only[aW,seval,-Int.reduceToNat,hr1,i14,hr15,q17a,q17b,q17c,q17d,i18,hr19,q22a,q22b,q22c,q22d,q22e,ax60,q62,ax63,ax64,q66,ax64,q68,Zgx,q88a,q88b,q88c,q88e,i89,hr90,q91m,ax92,p93,up93]
        refine j6 ?_
        refine⟨v9gx,v10gx,v12gx,true,?_,?_,?_,?_,?_,?_,?_,?_,?_⟩
        all_goals first|rfl|(simp only[aW,seval,-Int.reduceToNat,hr1,i14,hr15,q17a,q17b,q17c,q17d,i18,hr19,q22a,q22b,q22c,q22d,q22e,ax60,q62,ax63,ax64,q66,ax64,q68,Zgx,q88a,q88b,q88c,q88e,i89,hr90,q91m,ax92,p93,up93]<;>rfl)
      ·cases hh
       try simp only[aW,seval,-Int.reduceToNat,hr1,i14,hr15,q17a,q17b,q17c,q17d,i18,hr19,q22a,q22b,q22c,q22d,q22e,Zc]
       refine lj ?_
       refine⟨rfl,⟨v9c,v12c,?_,?_,?_,?_,?_⟩⟩
       all_goals first|rfl|(simp only[aW,seval,-Int.reduceToNat,hr1,i14,hr15,q17a,q17b,q17c,q17d,i18,hr19,q22a,q22b,q22c,q22d,q22e,Zc]<;>rfl)
     ·rintro x t H e hx
      rcases o58 with⟨l9cx,l12cx⟩
      dsimp only at hx hh
      obtain⟨rfl,⟨v9cx,v12cx,Zcx⟩⟩:=hx
      obtain⟨r94,hr94,hh⟩:=ah hh
      obtain⟨r95,hr95,hh⟩:=ah hh
      obtain⟨r96,hr96,hh⟩:=ah hh
      cases hh
      try simp only[aW,seval,-Int.reduceToNat,hr1,i14,hr15,q17a,q17b,q17c,q17d,i18,hr19,q22a,q22b,q22c,q22d,q22e,Zcx,hr94,hr95,hr96]
    ·clear hh
     have hh:=ho20
     try simp only[aW,seval,-Int.reduceToNat,hr1,Zax,i14,hr15,q17a,q17b,q17c,q17d,i18,hr19]
     refine sp aq hh (fun _ hh =>?_) (fun _ hh =>?_)
     ·obtain⟨x98,hx98,hh⟩:=ah hh
      obtain⟨q99a,q99b,q99c,q99d⟩:=jg (eI .i64) hx98
      simp only[bI]at q99b
      cases hh
      try simp only[aW,seval,-Int.reduceToNat,hr1,Zax,i14,hr15,q17a,q17b,q17c,q17d,i18,hr19,q99a,q99b,q99c,q99d]
      rw[au]
      refine⟨_,rfl,?_⟩
      refine⟨e+1+1,e,?_,?_,?_,?_,?_⟩
      all_goals first|rfl|(simp only[aW,seval,-Int.reduceToNat,hr1,Zax,i14,hr15,q17a,q17b,q17c,q17d,i18,hr19,q99a,q99b,q99c,q99d]<;>rfl)
     ·cases hh
      try simp only[aW,seval,-Int.reduceToNat,hr1,Zax,i14,hr15,q17a,q17b,q17c,q17d,i18,hr19]
      rw[au]
      refine⟨_,rfl,?_⟩
      refine⟨e,e,?_,?_,?_,?_,?_⟩
      all_goals first|rfl|(simp only[aW,seval,-Int.reduceToNat,hr1,Zax,i14,hr15,q17a,q17b,q17c,q17d,i18,hr19]<;>rfl)
theorem DC:b6 Try.prog 83 uK:=b6.of (mode := .clean) tok Pz mixed Try.func83 (by kernel_rfl) ⟨by kernel_rfl,by kernel_rfl⟩ (fun _=>afg (by kernel_rfl)) (fun x r h=>Uh x.1 x.2 r h)
noncomputable def gq:=fX (jh (aI .i64) (fU (mL (eI .i64)))) (fun x:Int×(List Int)=>cw x.1 x.2) (fun r:al =>.clean (.agg [.int .i64 r.ag,.sl false false r.aa.length (ae (eI .i64) r.aa)]))
theorem dK (p0:Int) (p1:(List Int)):gq none [.int .i64 p0,.sl false false p1.length (ae (eI .i64) p1)]=(cw p0 p1).map fun r:al=>(.clean (.agg [.int .i64 r.ag,.sl false false r.aa.length (ae (eI .i64) r.aa)]),none):=aU _ _ _ (p0,p1)
noncomputable def nX:Env:=(Am.ext a6 102 false kH)
theorem ER:bA Try.prog nX:=(bA.none.add nt false)
theorem sS:type_of% (ai @w<|ai @fh<|@nX.eq_1):=⟨@w,@fh,@nX.eq_1⟩
theorem Jd (p0:Int) (p1:(List Int)) (r:al) (hh:cw p0 p1=some r):bc .clean tab nX FU Try.f76 none [.int .i64 p0,.sl false false p1.length (ae (eI .i64) p1)]=some (.clean (.agg [.int .i64 r.ag,.sl false false r.aa.length (ae (eI .i64) r.aa)]),none):=by
 refine aC rfl Try.ntmps76 Try.results76 ?_
 unfold cw at hh
 obtain⟨r1,hr1,hh⟩:=ah hh
 try simp only[sS,seval,hr1]
 refine sp aq hh (fun _ hh =>?_) (fun _ hh =>?_)
 ·cases hh
  try simp only[sS,seval,hr1]
 ·cases hh
  try simp only[sS,seval,hr1]
theorem iW:b6 Try.prog 76 gq:=b6.of (mode := .clean) tok ER mixed Try.func76 (by kernel_rfl) ⟨by kernel_rfl,by kernel_rfl⟩ (fun _=>afg (by kernel_rfl)) (fun x r h=>Jd x.1 x.2 r h)
noncomputable def uH:=fX (jh (cX eB) (fU (cX eB))) (fun x:al×al=>nS x.1 x.2) (fun r:al×Int =>.clean (.tup [.agg [.int .i64 r.1.ag,.sl false false r.1.aa.length (ae (eI .i64) r.1.aa)],.int .i64 r.2]))
theorem vD (p0_0:Int) (p0_1:(List Int)) (p1_0:Int) (p1_1:(List Int)):uH none [.agg [.int .i64 p0_0,.sl false false p0_1.length (ae (eI .i64) p0_1)],.agg [.int .i64 p1_0,.sl false false p1_1.length (ae (eI .i64) p1_1)]]=(nS (al.mk p0_0 p0_1) (al.mk p1_0 p1_1)).map fun r:al×Int=>(.clean (.tup [.agg [.int .i64 r.1.ag,.sl false false r.1.aa.length (ae (eI .i64) r.1.aa)],.int .i64 r.2]),none):=aU _ _ _ ((al.mk p0_0 p0_1),(al.mk p1_0 p1_1))
noncomputable def u9:Env:=(Am.keep 6 (Am.ext (Am.ext (Am.ext (Am.ext (Am.ext a6 50 false eS) 75 false kb) 76 false gq) 82 false gX) 83 false uK))
theorem Pu:bA Try.prog u9:=(bA.keep (((((bA.none.add fw false).add pj false).add iW false).add kE false).add DC false) 6)
theorem dV:type_of% (ai @w<|ai @cq<|ai @eP<|ai @dK<|ai @eV<|ai @vF<|@u9.eq_1):=⟨@w,@cq,@eP,@dK,@eV,@vF,@u9.eq_1⟩
theorem Uc (p0:al) (p1:al) (r:al×Int) (hh:nS p0 p1=some r):bc .clean tab u9 FU Try.f51 none [.agg [.int .i64 p0.ag,.sl false false p0.aa.length (ae (eI .i64) p0.aa)],.agg [.int .i64 p1.ag,.sl false false p1.aa.length (ae (eI .i64) p1.aa)]]=some (.clean (.tup [.agg [.int .i64 r.1.ag,.sl false false r.1.aa.length (ae (eI .i64) r.1.aa)],.int .i64 r.2]),none):=by
 refine aC rfl Try.ntmps51 Try.results51 ?_
 unfold nS at hh
 obtain⟨r1,hr1,hh⟩:=ah hh
 try simp only[dV,seval,hr1]
 obtain⟨o2,ho2,hh⟩:=ah hh
 refine bt 0 (fun s t H e=>match s with|s17j1=>∃v2j1:Nat,∃v3j1:Nat,∃v4j1:Nat,t 2=.ptr 2 v2j1 0∧t 3=.ptr 3 v3j1 0∧t 4=.ptr 4 v4j1 0∧t 17=.bool s17j1∧H 2=some ⟨v2j1,39,[.int .i64 p0.ag,.sl false false p0.aa.length (ae (eI .i64) p0.aa)],false,false,false⟩∧H 3=some ⟨v3j1,39,[.int .i64 p1.ag,.sl false false p1.aa.length (ae (eI .i64) p1.aa)],false,false,false⟩∧H 4=some ⟨v4j1,39,[.int .i64 0,.sl true true 0 []],false,false,false⟩) (fun s=>s=o2) ?_ ?_
 ·rintro s17j1 t H e ⟨v2j1,v3j1,v4j1,Zj1⟩ rfl
  try dsimp only at hh
  try simp only[dV,seval,hr1,Zj1]
  refine sp aq hh (fun _ hh =>?_) (fun _ hh =>?_)
  ·have i4:=eP false 0 ([])
   simp only[aL,bI,List.length_cons,List.length_nil,aen,Nat.reduceAdd,afz]at i4
   obtain⟨r5,hr5,hh⟩:=ah hh
   cases hh
   try simp only[dV,seval,hr1,Zj1,i4,hr5]
  ·obtain⟨r6,hr6,hh⟩:=ah hh
   try simp only[dV,seval,hr1,Zj1,hr6]
   refine bn (by kernel_rfl) ?_
   try simp only[dV,seval,hr1,Zj1,hr6]
   obtain⟨o9,ho9,hh⟩:=ah hh
   refine aB (fun s t H e=>match s with|(s6b,s7b)=>∃v4b:Nat,t 4=.ptr 4 v4b 0∧t 6=.sl false false s6b.length (ae (eI .i64) s6b)∧t 7=.sl false false s7b.length (ae (eI .i64) s7b)∧H 4=some ⟨v4b,39,[.int .i64 0,.sl true true 0 []],false,false,false⟩) (fun o x t H e=>match o with|s6bx=>x=.exit 0∧∃v4bx:Nat,t 4=.ptr 4 v4bx 0∧t 6=.sl false false s6bx.length (ae (eI .i64) s6bx)∧H 4=some ⟨v4bx,39,[.int .i64 0,.sl true true 0 []],false,false,false⟩) ho9 ?_ ?_ ?_
   ·refine⟨v4j1,?_,?_,?_,?_⟩
    all_goals first|rfl|(simp only[dV,seval,hr1,Zj1,hr6]<;>rfl)
   ·rintro⟨s6b,s7b⟩ t H e ⟨v4b,Zb⟩ c hh
    simp only[oM]at hh
    try simp only[dV,seval,hr1,hr6,Zb]
    refine sp aq hh (fun _ hh =>?_) (fun _ hh =>?_)
    ·obtain⟨r11,hr11,hh⟩:=ah hh
     cases hh
     try simp only[dV,seval,hr1,hr6,Zb,hr11]
     refine j6 ?_
     refine⟨v4b,?_,?_,?_,?_⟩
     all_goals first|rfl|(simp only[dV,seval,hr1,hr6,Zb,hr11]<;>rfl)
    ·cases hh
     try simp only[dV,seval,hr1,hr6,Zb]
     refine lj ?_
     refine⟨rfl,⟨v4b,?_,?_,?_⟩⟩
     all_goals first|rfl|(simp only[dV,seval,hr1,hr6,Zb]<;>rfl)
   ·rintro x t H e hx
    obtain⟨s6bx,rfl⟩:∃z,z=o9:=⟨_,rfl⟩
    dsimp only at hx hh
    obtain⟨rfl,⟨v4bx,Zbx⟩⟩:=hx
    obtain⟨r12,hr12,hh⟩:=ah hh
    obtain⟨r13,hr13,hh⟩:=ah hh
    obtain⟨r14,hr14,hh⟩:=ah hh
    cases hh
    try simp only[dV,seval,hr1,hr6,Zbx,hr12,hr13,hr14]
 ·clear hh
  have hh:=ho2
  try simp only[dV,seval,hr1]
  refine sp bd hh (fun _ hh =>?_) (fun _ hh =>?_)
  ·cases hh
   try simp only[dV,seval,hr1]
   rw[au]
   refine⟨_,rfl,?_⟩
   refine⟨0,0,0,?_,?_,?_,?_,?_,?_,?_⟩
   all_goals first|rfl|(simp only[dV,seval,hr1]<;>rfl)
  ·obtain⟨r16,hr16,hh⟩:=ah hh
   cases hh
   try simp only[dV,seval,hr1,hr16]
   rw[au]
   refine⟨_,rfl,?_⟩
   refine⟨0,0,0,?_,?_,?_,?_,?_,?_,?_⟩
   all_goals first|rfl|(simp only[dV,seval,hr1,hr16]<;>rfl)
theorem Dz:b6 Try.prog 51 uH:=b6.of (mode := .clean) tok Pu mixed Try.func51 (by kernel_rfl) ⟨by kernel_rfl,by kernel_rfl⟩ (fun _=>afg (by kernel_rfl)) (fun x r h=>Uc x.1 x.2 r h)
noncomputable def yN:=fX (fU (cX eB)) (fun x:al=>rz x) (fun r:Int×Bool =>.clean (.tup [.int .i64 r.1,.bool r.2]))
theorem HC (p0_0:Int) (p0_1:(List Int)):yN none [.agg [.int .i64 p0_0,.sl false false p0_1.length (ae (eI .i64) p0_1)]]=(rz (al.mk p0_0 p0_1)).map fun r:Int×Bool=>(.clean (.tup [.int .i64 r.1,.bool r.2]),none):=aU _ _ _ ((al.mk p0_0 p0_1))
noncomputable def va:Env:=(Am.ext a6 50 false eS)
theorem Pv:bA Try.prog va:=(bA.none.add fw false)
theorem bh:type_of% (ai @w<|ai @cq<|@va.eq_1):=⟨@w,@cq,@va.eq_1⟩
theorem Ud (p0:al) (r:Int×Bool) (hh:rz p0=some r):bc .clean tab va FU Try.f84 none [.agg [.int .i64 p0.ag,.sl false false p0.aa.length (ae (eI .i64) p0.aa)]]=some (.clean (.tup [.int .i64 r.1,.bool r.2]),none):=by
 refine aC rfl Try.ntmps84 Try.results84 ?_
 unfold rz at hh
 obtain⟨r1,hr1,hh⟩:=ah hh
 try simp only[bh,seval,-Int.reduceToNat,hr1]
 obtain⟨o2,ho2,hh⟩:=ah hh
 refine bt 0 (fun s t H e=>match s with|s15j1=>∃v1j1:Nat,t 1=.ptr 1 v1j1 0∧t 15=.bool s15j1∧H 1=some ⟨v1j1,39,[.int .i64 p0.ag,.sl false false p0.aa.length (ae (eI .i64) p0.aa)],false,false,false⟩) (fun s=>s=o2) ?_ ?_
 ·rintro s15j1 t H e ⟨v1j1,Zj1⟩ rfl
  try dsimp only at hh
  try simp only[bh,seval,-Int.reduceToNat,hr1,Zj1]
  refine sp aq hh (fun _ hh =>?_) (fun _ hh =>?_)
  ·cases hh
   try simp only[bh,seval,-Int.reduceToNat,hr1,Zj1]
  ·try simp only[bh,seval,-Int.reduceToNat,hr1,Zj1]
   obtain⟨o11,ho11,hh⟩:=ah hh
   refine aB (fun s t H e=>match s with|(s4b,s19b)=>∃v1b:Nat,t 1=.ptr 1 v1b 0∧t 4=.int .u64 s4b∧t 17=.sl false false p0.aa.length (ae (eI .i64) p0.aa)∧t 18=.int .i64 (p0.aa.length:Int)∧t 19=.int .i64 s19b∧H 1=some ⟨v1b,39,[.int .i64 p0.ag,.sl false false p0.aa.length (ae (eI .i64) p0.aa)],false,false,false⟩) (fun o x t H e=>match o with|(.inl s4bx)=>x=.exit 0∧∃v1bx:Nat,t 1=.ptr 1 v1bx 0∧t 4=.int .u64 s4bx∧H 1=some ⟨v1bx,39,[.int .i64 p0.ag,.sl false false p0.aa.length (ae (eI .i64) p0.aa)],false,false,false⟩|(.inr r)=>x=.ret∧jo .clean tab none [.tmp 2,.tmp 3] ⟨t,EH H,e⟩=some (.clean (.tup [.int .i64 r.1,.bool r.2]),none)) ho11 ?_ ?_ ?_
   ·refine⟨v1j1,?_,?_,?_,?_,?_,?_⟩
    all_goals first|rfl|(simp only[bh,seval,-Int.reduceToNat,hr1,Zj1]<;>rfl)
   ·rintro⟨s4b,s19b⟩ t H e ⟨v1b,Zb⟩ c hh
    simp only[rA]at hh
    try simp only[bh,seval,-Int.reduceToNat,hr1,Zb]
    refine sp aq hh (fun _ hh =>?_) (fun _ hh =>?_)
    ·obtain⟨x13,hx13,hh⟩:=ah hh
     have ax13:=bQ (eI .i64) hx13
     simp only[bI]at ax13
     try simp only[bh,seval,-Int.reduceToNat,hr1,Zb,ax13]
     obtain⟨o14,ho14,hh⟩:=ah hh
     refine bt 0 (fun s t H e=>match s with|s29j4=>∃v1j4:Nat,t 1=.ptr 1 v1j4 0∧t 4=.int .u64 s4b∧t 5=.int .i64 s19b∧t 6=.int .i64 x13∧t 17=.sl false false p0.aa.length (ae (eI .i64) p0.aa)∧t 18=.int .i64 (p0.aa.length:Int)∧t 19=.int .i64 s19b∧t 29=.bool s29j4∧H 1=some ⟨v1j4,39,[.int .i64 p0.ag,.sl false false p0.aa.length (ae (eI .i64) p0.aa)],false,false,false⟩) (fun s=>s=o14) ?_ ?_
     ·rintro s29j4 t H e ⟨v1j4,Zj4⟩ rfl
      try dsimp only at hh
      try simp only[bh,seval,-Int.reduceToNat,hr1,ax13,Zj4]
      refine sp aq hh (fun _ hh =>?_) (fun _ hh =>?_)
      ·cases hh
       try simp only[bh,seval,-Int.reduceToNat,hr1,ax13,Zj4]
       refine G2 ⟨rfl,?_⟩
       try simp only[bh,seval,-Int.reduceToNat,hr1,ax13,Zj4]
      ·obtain⟨x16,hx16,hh⟩:=ah hh
       have q17:=Bm hx16
       cases hh
       try simp only[bh,seval,-Int.reduceToNat,hr1,ax13,Zj4,q17]
       refine j6 ?_
       refine⟨v1j4,?_,?_,?_,?_,?_,?_⟩
       all_goals first|rfl|(simp only[bh,seval,-Int.reduceToNat,hr1,ax13,Zj4,q17]<;>rfl)
     ·clear hh
      have hh:=ho14
      try simp only[bh,seval,-Int.reduceToNat,hr1,Zb,ax13]
      refine sp dp hh (fun _ hh =>?_) (fun _ hh =>?_)
      ·cases hh
       try simp only[bh,seval,-Int.reduceToNat,hr1,Zb,ax13]
       rw[au]
       refine⟨_,rfl,?_⟩
       refine⟨v1b,?_,?_,?_,?_,?_,?_,?_,?_,?_⟩
       all_goals first|rfl|(simp only[bh,seval,-Int.reduceToNat,hr1,Zb,ax13]<;>rfl)
      ·cases hh
       try simp only[bh,seval,-Int.reduceToNat,hr1,Zb,ax13]
       rw[au]
       refine⟨_,rfl,?_⟩
       refine⟨v1b,?_,?_,?_,?_,?_,?_,?_,?_,?_⟩
       all_goals first|rfl|(simp only[bh,seval,-Int.reduceToNat,hr1,Zb,ax13]<;>rfl)
    ·cases hh
     try simp only[bh,seval,-Int.reduceToNat,hr1,Zb]
     refine lj ?_
     refine⟨rfl,⟨v1b,?_,?_,?_⟩⟩
     all_goals first|rfl|(simp only[bh,seval,-Int.reduceToNat,hr1,Zb]<;>rfl)
   ·rintro x t H e hx
    rcases o11 with s4bx|rb
    ·dsimp only at hx hh
     obtain⟨rfl,⟨v1bx,Zbx⟩⟩:=hx
     try simp only[bh,seval,-Int.reduceToNat,hr1,Zbx]
     obtain⟨o19,ho19,hh⟩:=ah hh
     refine bt 0 (fun s t H e=>match s with|s38j5=>∃v1j5:Nat,t 1=.ptr 1 v1j5 0∧t 4=.int .u64 s4bx∧t 38=.bool s38j5∧H 1=some ⟨v1j5,39,[.int .i64 p0.ag,.sl false false p0.aa.length (ae (eI .i64) p0.aa)],false,false,false⟩) (fun s=>s=o19) ?_ ?_
     ·rintro s38j5 t H e ⟨v1j5,Zj5⟩ rfl
      try dsimp only at hh
      try simp only[bh,seval,-Int.reduceToNat,hr1,Zj5]
      refine sp aq hh (fun _ hh =>?_) (fun _ hh =>?_)
      ·cases hh
       try simp only[bh,seval,-Int.reduceToNat,hr1,Zj5]
      ·try simp only[bh,seval,-Int.reduceToNat,hr1,Zj5]
       refine sp dp hh (fun _ hh =>?_) (fun _ hh =>?_)
       ·try simp only[bh,seval,-Int.reduceToNat,hr1,Zj5]
        refine sp aq hh (fun _ hh =>?_) (fun _ hh =>?_)
        ·cases hh
         try simp only[bh,seval,-Int.reduceToNat,hr1,Zj5]
        ·cases hh
         try simp only[bh,seval,-Int.reduceToNat,hr1,Zj5]
       ·cases hh
        try simp only[bh,seval,-Int.reduceToNat,hr1,Zj5]
     ·clear hh
      have hh:=ho19
      try simp only[bh,seval,-Int.reduceToNat,hr1,Zbx]
      refine sp dp hh (fun _ hh =>?_) (fun _ hh =>?_)
      ·cases hh
       try simp only[bh,seval,-Int.reduceToNat,hr1,Zbx]
       rw[au]
       refine⟨_,rfl,?_⟩
       refine⟨v1bx,?_,?_,?_,?_⟩
       all_goals first|rfl|(simp only[bh,seval,-Int.reduceToNat,hr1,Zbx]<;>rfl)
      ·cases hh
       try simp only[bh,seval,-Int.reduceToNat,hr1,Zbx]
       rw[au]
       refine⟨_,rfl,?_⟩
       refine⟨v1bx,?_,?_,?_,?_⟩
       all_goals first|rfl|(simp only[bh,seval,-Int.reduceToNat,hr1,Zbx]<;>rfl)
    ·dsimp only at hx hh
     obtain⟨rfl,hE⟩:=hx
     cases hh
     try simp only[bJ,bq,bW,ep,eo,dk,dm]
     exact hE
 ·clear hh
  have hh:=ho2
  try simp only[bh,seval,-Int.reduceToNat,hr1]
  refine sp bd hh (fun _ hh =>?_) (fun _ hh =>?_)
  ·cases hh
   try simp only[bh,seval,-Int.reduceToNat,hr1]
   rw[au]
   refine⟨_,rfl,?_⟩
   refine⟨0,?_,?_,?_⟩
   all_goals first|rfl|(simp only[bh,seval,-Int.reduceToNat,hr1]<;>rfl)
  ·cases hh
   try simp only[bh,seval,-Int.reduceToNat,hr1]
   rw[au]
   refine⟨_,rfl,?_⟩
   refine⟨0,?_,?_,?_⟩
   all_goals first|rfl|(simp only[bh,seval,-Int.reduceToNat,hr1]<;>rfl)
theorem Qh:b6 Try.prog 84 yN:=b6.of (mode := .clean) tok Pv mixed Try.func84 (by kernel_rfl) ⟨by kernel_rfl,by kernel_rfl⟩ (fun _=>afg (by kernel_rfl)) (fun x r h=>Ud x r h)
noncomputable def wN:=fX (fU (cX eB)) (fun x:al=>oZ x) (fun r:Bool =>.clean (.bool r))
theorem DU (p0_0:Int) (p0_1:(List Int)):wN none [.agg [.int .i64 p0_0,.sl false false p0_1.length (ae (eI .i64) p0_1)]]=(oZ (al.mk p0_0 p0_1)).map fun r:Bool=>(.clean (.bool r),none):=aU _ _ _ ((al.mk p0_0 p0_1))
noncomputable def rW:Env:=(Am.ext a6 84 false yN)
theorem LX:bA Try.prog rW:=(bA.none.add Qh false)
theorem xp:type_of% (ai @w<|ai @HC<|@rW.eq_1):=⟨@w,@HC,@rW.eq_1⟩
theorem PY (p0:al) (r:Bool) (hh:oZ p0=some r):bc .clean tab rW FU Try.f52 none [.agg [.int .i64 p0.ag,.sl false false p0.aa.length (ae (eI .i64) p0.aa)]]=some (.clean (.bool r),none):=by
 refine aC rfl Try.ntmps52 Try.results52 ?_
 unfold oZ at hh
 obtain⟨r1,hr1,hh⟩:=ah hh
 try simp only[xp,seval,hr1]
 refine sp dp hh (fun _ hh =>?_) (fun _ hh =>?_)
 ·cases hh
  try simp only[xp,seval,hr1]
 ·cases hh
  try simp only[xp,seval,hr1]
theorem NH:b6 Try.prog 52 wN:=b6.of (mode := .clean) tok LX mixed Try.func52 (by kernel_rfl) ⟨by kernel_rfl,by kernel_rfl⟩ (fun _=>afg (by kernel_rfl)) (fun x r h=>PY x r h)
noncomputable def eM:=fX (fU (cX az)) (fun x:ak=>cj x) (fun r:Bool =>.clean (.bool r))
theorem ct (p0_0:Int) (p0_1:(List Int)) (p0_2:Int) (p0_3:(List Int)):eM none [.agg [.int .i64 p0_0,.sl false false p0_1.length (ae (eI .i64) p0_1),.int .i64 p0_2,.sl false false p0_3.length (ae (eI .i64) p0_3)]]=(cj (ak.mk (al.mk p0_0 p0_1) (al.mk p0_2 p0_3))).map fun r:Bool=>(.clean (.bool r),none):=aU _ _ _ ((ak.mk (al.mk p0_0 p0_1) (al.mk p0_2 p0_3)))
noncomputable def nY:Env:=(Am.ext (Am.ext (Am.ext a6 50 false eS) 51 false uH) 52 false wN)
theorem ES:bA Try.prog nY:=(((bA.none.add fw false).add Dz false).add NH false)
theorem cW:type_of% (ai @w<|ai @cq<|ai @vD<|ai @DU<|@nY.eq_1):=⟨@w,@cq,@vD,@DU,@nY.eq_1⟩
theorem Jf (p0:ak) (r:Bool) (hh:cj p0=some r):bc .clean tab nY FU Try.f22 none [.agg [.int .i64 p0.aH.ag,.sl false false p0.aH.aa.length (ae (eI .i64) p0.aH.aa),.int .i64 p0.aK.ag,.sl false false p0.aK.aa.length (ae (eI .i64) p0.aK.aa)]]=some (.clean (.bool r),none):=by
 refine aC rfl Try.ntmps22 Try.results22 ?_
 unfold cj at hh
 obtain⟨r1,hr1,hh⟩:=ah hh
 try simp only[cW,seval,hr1]
 obtain⟨o2,ho2,hh⟩:=ah hh
 refine bt 0 (fun s t H e=>match s with|s20j1=>∃v1j1:Nat,t 1=.ptr 1 v1j1 0∧t 20=.bool s20j1∧H 1=some ⟨v1j1,41,[.int .i64 p0.aH.ag,.sl false false p0.aH.aa.length (ae (eI .i64) p0.aH.aa),.int .i64 p0.aK.ag,.sl false false p0.aK.aa.length (ae (eI .i64) p0.aK.aa)],false,false,false⟩) (fun s=>s=o2) ?_ ?_
 ·rintro s20j1 t H e ⟨v1j1,Zj1⟩ rfl
  try dsimp only at hh
  try simp only[cW,seval,hr1,Zj1]
  refine sp aq hh (fun _ hh =>?_) (fun _ hh =>?_)
  ·cases hh
   try simp only[cW,seval,hr1,Zj1]
  ·obtain⟨r4,hr4,hh⟩:=ah hh
   try simp only[cW,seval,hr1,Zj1,hr4]
   refine sp dp hh (fun _ hh =>?_) (fun _ hh =>?_)
   ·obtain⟨r6,hr6,hh⟩:=ah hh
    cases hh
    try simp only[cW,seval,hr1,Zj1,hr4,hr6]
   ·cases hh
    try simp only[cW,seval,hr1,Zj1,hr4]
 ·clear hh
  have hh:=ho2
  try simp only[cW,seval,hr1]
  refine sp bd hh (fun _ hh =>?_) (fun _ hh =>?_)
  ·cases hh
   try simp only[cW,seval,hr1]
   rw[au]
   refine⟨_,rfl,?_⟩
   refine⟨0,?_,?_,?_⟩
   all_goals first|rfl|(simp only[cW,seval,hr1]<;>rfl)
  ·obtain⟨r8,hr8,hh⟩:=ah hh
   try simp only[cW,seval,hr1,hr8]
   refine sp bd hh (fun _ hh =>?_) (fun _ hh =>?_)
   ·cases hh
    try simp only[cW,seval,hr1,hr8]
    rw[au]
    refine⟨_,rfl,?_⟩
    refine⟨0,?_,?_,?_⟩
    all_goals first|rfl|(simp only[cW,seval,hr1,hr8]<;>rfl)
   ·cases hh
    try simp only[cW,seval,hr1,hr8]
    rw[au]
    refine⟨_,rfl,?_⟩
    refine⟨0,?_,?_,?_⟩
    all_goals first|rfl|(simp only[cW,seval,hr1,hr8]<;>rfl)
theorem fD:b6 Try.prog 22 eM:=b6.of (mode := .clean) tok ES mixed Try.func22 (by kernel_rfl) ⟨by kernel_rfl,by kernel_rfl⟩ (fun _=>afg (by kernel_rfl)) (fun x r h=>Jf x r h)
noncomputable def kW:=fX (fU (cX az)) (fun x:ak=>hY x) (fun r:Int =>.clean (.int .i64 r))
theorem iw (p0_0:Int) (p0_1:(List Int)) (p0_2:Int) (p0_3:(List Int)):kW none [.agg [.int .i64 p0_0,.sl false false p0_1.length (ae (eI .i64) p0_1),.int .i64 p0_2,.sl false false p0_3.length (ae (eI .i64) p0_3)]]=(hY (ak.mk (al.mk p0_0 p0_1) (al.mk p0_2 p0_3))).map fun r:Int=>(.clean (.int .i64 r),none):=aU _ _ _ ((ak.mk (al.mk p0_0 p0_1) (al.mk p0_2 p0_3)))
noncomputable def pN:Env:=(Am.ext a6 22 false eM)
theorem I0:bA Try.prog pN:=(bA.none.add fD false)
theorem uE:type_of% (ai @w<|ai @ct<|@pN.eq_1):=⟨@w,@ct,@pN.eq_1⟩
theorem MX (p0:ak) (r:Int) (hh:hY p0=some r):bc .clean tab pN FU Try.f20 none [.agg [.int .i64 p0.aH.ag,.sl false false p0.aH.aa.length (ae (eI .i64) p0.aH.aa),.int .i64 p0.aK.ag,.sl false false p0.aK.aa.length (ae (eI .i64) p0.aK.aa)]]=some (.clean (.int .i64 r),none):=by
 refine aC rfl Try.ntmps20 Try.results20 ?_
 unfold hY at hh
 obtain⟨r1,hr1,hh⟩:=ah hh
 try simp only[uE,seval,hr1]
 refine sp aq hh (fun _ hh =>?_) (fun _ hh =>?_)
 ·cases hh
  try simp only[uE,seval,hr1]
 ·cases hh
  try simp only[uE,seval,hr1]
theorem oa:b6 Try.prog 20 kW:=b6.of (mode := .clean) tok I0 mixed Try.func20 (by kernel_rfl) ⟨by kernel_rfl,by kernel_rfl⟩ (fun _=>afg (by kernel_rfl)) (fun x r h=>MX x r h)
noncomputable def xv:=fX (fU (mL (eI .i64))) (fun x:(List Int)=>tN x) (fun r:Int =>.clean (.int .i64 r))
theorem qQ (p0:(List Int)):xv none [.sl false false p0.length (ae (eI .i64) p0)]=(tN p0).map fun r:Int=>(.clean (.int .i64 r),none):=aU _ _ _ (p0)
theorem WC (p0:(List Int)) (r:Int) (hh:tN p0=some r):bc .clean tab a6 FU Try.f65 none [.sl false false p0.length (ae (eI .i64) p0)]=some (.clean (.int .i64 r),none):=by
 refine aC rfl Try.ntmps65 Try.results65 ?_
 unfold tN at hh
 try simp only[w,seval]
 obtain⟨o4,ho4,hh⟩:=ah hh
 refine aB (fun s t H e=>match s with|s8a=>t 3=.int .i64 0∧t 6=.sl false false p0.length (ae (eI .i64) p0)∧t 7=.int .i64 (p0.length:Int)∧t 8=.int .i64 s8a) (fun o x t H e=>match o with|(.inl _)=>x=.exit 0∧t 3=.int .i64 0|(.inr r)=>x=.ret∧jo .clean tab none [.tmp 2] ⟨t,EH H,e⟩=some (.clean (.int .i64 r),none)) ho4 ?_ ?_ ?_
 ·refine⟨?_,?_,?_,?_⟩
  all_goals first|rfl|(simp only[w,seval]<;>rfl)
 ·rintro s8a t H e Za c hh
  simp only[uW]at hh
  try simp only[w,seval,Za]
  refine sp aq hh (fun _ hh =>?_) (fun _ hh =>?_)
  ·obtain⟨x6,hx6,hh⟩:=ah hh
   have ax6:=bQ (eI .i64) hx6
   simp only[bI]at ax6
   try simp only[w,seval,Za,ax6]
   refine sp aq hh (fun _ hh =>?_) (fun _ hh =>?_)
   ·cases hh
    try simp only[w,seval,Za,ax6]
    refine G2 ⟨rfl,?_⟩
    try simp only[w,seval,Za,ax6]
   ·cases hh
    try simp only[w,seval,Za,ax6]
    refine j6 ?_
    refine⟨?_,?_,?_,?_⟩
    all_goals first|rfl|(simp only[w,seval,Za,ax6]<;>rfl)
  ·cases hh
   try simp only[w,seval,Za]
   refine lj ?_
   refine⟨rfl,?_⟩
   all_goals first|rfl|(simp only[w,seval,Za]<;>rfl)
 ·rintro x t H e hx
  rcases o4 with _|ra
  ·dsimp only at hx hh
   obtain⟨rfl,Zax⟩:=hx
   cases hh
   try simp only[w,seval,Zax]
  ·dsimp only at hx hh
   obtain⟨rfl,hE⟩:=hx
   cases hh
   try simp only[bJ,bq,bW,ep,eo,dk,dm]
   exact hE
theorem Hq:b6 Try.prog 65 xv:=b6.of (mode := .clean) tok bA.none mixed Try.func65 (by kernel_rfl) ⟨by kernel_rfl,by kernel_rfl⟩ (fun _=>afg (by kernel_rfl)) (fun x r h=>WC x r h)
noncomputable def rh:=fX (jh (cX a8) (fU (cX a8))) (fun x:dy×dy=>kQ x.1 x.2) (fun r:Int =>.clean (.int .i64 r))
theorem yr (p0_0:Int) (p0_1:Int) (p0_2:Int) (p0_3:(List Int)) (p0_4:Int) (p0_5:(List Int)) (p1_0:Int) (p1_1:Int) (p1_2:Int) (p1_3:(List Int)) (p1_4:Int) (p1_5:(List Int)):rh none [.agg [.int .i64 p0_0,.int .i64 p0_1,.int .i64 p0_2,.sl false false p0_3.length (ae (eI .i64) p0_3),.int .i64 p0_4,.sl false false p0_5.length (ae (eI .i64) p0_5)],.agg [.int .i64 p1_0,.int .i64 p1_1,.int .i64 p1_2,.sl false false p1_3.length (ae (eI .i64) p1_3),.int .i64 p1_4,.sl false false p1_5.length (ae (eI .i64) p1_5)]]=(kQ (dy.mk p0_0 p0_1 (ak.mk (al.mk p0_2 p0_3) (al.mk p0_4 p0_5))) (dy.mk p1_0 p1_1 (ak.mk (al.mk p1_2 p1_3) (al.mk p1_4 p1_5)))).map fun r:Int=>(.clean (.int .i64 r),none):=aU _ _ _ ((dy.mk p0_0 p0_1 (ak.mk (al.mk p0_2 p0_3) (al.mk p0_4 p0_5))),(dy.mk p1_0 p1_1 (ak.mk (al.mk p1_2 p1_3) (al.mk p1_4 p1_5))))
noncomputable def n5:Env:=(Am.ext (Am.ext a6 65 false xv) 66 false iS)
theorem EU:bA Try.prog n5:=((bA.none.add Hq false).add lY false)
theorem yI:type_of% (ai @w<|ai @qQ<|ai @fF<|@n5.eq_1):=⟨@w,@qQ,@fF,@n5.eq_1⟩
theorem Jh (p0:dy) (p1:dy) (r:Int) (hh:kQ p0 p1=some r):bc .clean tab n5 FU Try.f35 none [.agg [.int .i64 p0.cR,.int .i64 p0.kM,.int .i64 p0.ba.aH.ag,.sl false false p0.ba.aH.aa.length (ae (eI .i64) p0.ba.aH.aa),.int .i64 p0.ba.aK.ag,.sl false false p0.ba.aK.aa.length (ae (eI .i64) p0.ba.aK.aa)],.agg [.int .i64 p1.cR,.int .i64 p1.kM,.int .i64 p1.ba.aH.ag,.sl false false p1.ba.aH.aa.length (ae (eI .i64) p1.ba.aH.aa),.int .i64 p1.ba.aK.ag,.sl false false p1.ba.aK.aa.length (ae (eI .i64) p1.ba.aK.aa)]]=some (.clean (.int .i64 r),none):=by
 refine aC rfl Try.ntmps35 Try.results35 ?_
 unfold kQ at hh
 obtain⟨r1,hr1,hh⟩:=ah hh
 obtain⟨r2,hr2,hh⟩:=ah hh
 have i3:=qQ ([r1,r2])
 simp only[aL,bI,List.length_cons,List.length_nil,aen,Nat.reduceAdd,afz]at i3
 obtain⟨r4,hr4,hh⟩:=ah hh
 try simp only[yI,seval,hr1,hr2,i3,hr4]
 refine bn (by kernel_rfl) ?_
 cases hh
 try simp only[yI,seval,hr1,hr2,i3,hr4]
theorem Fa:b6 Try.prog 35 rh:=b6.of (mode := .clean) tok EU mixed Try.func35 (by kernel_rfl) ⟨by kernel_rfl,by kernel_rfl⟩ (fun _=>afg (by kernel_rfl)) (fun x r h=>Jh x.1 x.2 r h)
noncomputable def Bq:=fX (fU (aI .i64)) (fun x:Int=>tG x) (fun r:al =>.clean (.agg [.int .i64 r.ag,.sl false false r.aa.length (ae (eI .i64) r.aa)]))
theorem NW (p0:Int):Bq none [.int .i64 p0]=(tG p0).map fun r:al=>(.clean (.agg [.int .i64 r.ag,.sl false false r.aa.length (ae (eI .i64) r.aa)]),none):=aU _ _ _ (p0)
noncomputable def xW:Env:=(Am.ext a6 76 false gq)
theorem TZ:bA Try.prog xW:=(bA.none.add iW false)
theorem gI:type_of% (ai @w<|ai @dK<|@xW.eq_1):=⟨@w,@dK,@xW.eq_1⟩
theorem WB (p0:Int) (r:al) (hh:tG p0=some r):bc .clean tab xW FU Try.f73 none [.int .i64 p0]=some (.clean (.agg [.int .i64 r.ag,.sl false false r.aa.length (ae (eI .i64) r.aa)]),none):=by
 refine aC rfl Try.ntmps73 Try.results73 ?_
 unfold tG at hh
 try simp only[gI,seval,-Int.reduceToNat]
 obtain⟨o1,ho1,hh⟩:=ah hh
 refine kr 0 (fun s t H e=>match s with|(s3j1,s4j1)=>∃v2j1:Nat,t 2=.ptr 2 v2j1 0∧t 3=.int .i64 s3j1∧t 4=.int .u64 s4j1∧H 2=some ⟨v2j1,39,[.int .i64 0,.sl true true 0 []],false,false,false⟩) (fun s=>s=o1) ?_ ?_
 ·rintro⟨s3j1,s4j1⟩ t H e ⟨v2j1,Zj1⟩ rfl
  try dsimp only at hh
  try simp only[gI,seval,-Int.reduceToNat,Zj1]
  obtain⟨o7,ho7,hh⟩:=ah hh
  refine aB (fun s t H e=>match s with|(s4b,l5b)=>∃v2b:Nat,∃v5b:Nat,t 2=.ptr 2 v2b 0∧t 3=.int .i64 s3j1∧t 4=.int .u64 s4b∧t 5=.buf 5 v5b 1 0 (l5b).length∧H 2=some ⟨v2b,39,[.int .i64 0,.sl true true 0 []],false,false,false⟩∧H 5=some ⟨v5b,3,ae (eI .i64) l5b,false,true,false⟩) (fun o x t H e=>match o with|l5bx=>x=.exit 0∧∃v2bx:Nat,∃v5bx:Nat,t 2=.ptr 2 v2bx 0∧t 3=.int .i64 s3j1∧t 5=.buf 5 v5bx 1 0 (l5bx).length∧H 2=some ⟨v2bx,39,[.int .i64 0,.sl true true 0 []],false,false,false⟩∧H 5=some ⟨v5bx,3,ae (eI .i64) l5bx,false,true,false⟩) ho7 ?_ ?_ ?_
  ·refine⟨v2j1,e,?_,?_,?_,?_,?_,?_⟩
   all_goals first|rfl|(simp only[gI,seval,-Int.reduceToNat,Zj1]<;>rfl)
  ·rintro⟨s4b,l5b⟩ t H e ⟨v2b,v5b,Zb⟩ c hh
   simp only[uT]at hh
   try simp only[gI,seval,-Int.reduceToNat,Zb]
   refine sp aq hh (fun _ hh =>?_) (fun _ hh =>?_)
   ·obtain⟨x9,hx9,hh⟩:=ah hh
    obtain⟨q10a,q10b,q10c,q10d⟩:=jg (eI .i64) hx9
    simp only[bI]at q10b
    obtain⟨x11,hx11,hh⟩:=ah hh
    have q12:=sL hx11
    cases hh
    try simp only[gI,seval,-Int.reduceToNat,Zb,q10a,q10b,q10c,q10d,q12]
    refine j6 ?_
    refine⟨v2b,e+1,?_,?_,?_,?_,?_,?_⟩
    all_goals first|rfl|(simp only[gI,seval,-Int.reduceToNat,Zb,q10a,q10b,q10c,q10d,q12]<;>rfl)
   ·cases hh
    try simp only[gI,seval,-Int.reduceToNat,Zb]
    refine lj ?_
    refine⟨rfl,⟨v2b,v5b,?_,?_,?_,?_,?_⟩⟩
    all_goals first|rfl|(simp only[gI,seval,-Int.reduceToNat,Zb]<;>rfl)
  ·rintro x t H e hx
   obtain⟨l5bx,rfl⟩:∃z,z=o7:=⟨_,rfl⟩
   dsimp only at hx hh
   obtain⟨rfl,⟨v2bx,v5bx,Zbx⟩⟩:=hx
   obtain⟨r13,hr13,hh⟩:=ah hh
   cases hh
   try simp only[gI,seval,-Int.reduceToNat,Zbx,hr13]
 ·clear hh
  have hh:=ho1
  try simp only[gI,seval,-Int.reduceToNat]
  refine sp aq hh (fun _ hh =>?_) (fun _ hh =>?_)
  ·cases hh
   try simp only[gI,seval,-Int.reduceToNat]
   rw[au]
   refine⟨_,rfl,?_⟩
   refine⟨0,?_,?_,?_,?_⟩
   all_goals first|rfl|(simp only[gI,seval,-Int.reduceToNat]<;>rfl)
  ·cases hh
   try simp only[gI,seval,-Int.reduceToNat]
   rw[au]
   refine⟨_,rfl,?_⟩
   refine⟨0,?_,?_,?_,?_⟩
   all_goals first|rfl|(simp only[gI,seval,-Int.reduceToNat]<;>rfl)
theorem Uy:b6 Try.prog 73 Bq:=b6.of (mode := .clean) tok TZ mixed Try.func73 (by kernel_rfl) ⟨by kernel_rfl,by kernel_rfl⟩ (fun _=>afg (by kernel_rfl)) (fun x r h=>WB x r h)
noncomputable def kI:=fX (fU (aI .i64)) (fun x:Int=>g9 x) (fun r:ak =>.clean (.agg [.int .i64 r.aH.ag,.sl false false r.aH.aa.length (ae (eI .i64) r.aH.aa),.int .i64 r.aK.ag,.sl false false r.aK.aa.length (ae (eI .i64) r.aK.aa)]))
theorem gN (p0:Int):kI none [.int .i64 p0]=(g9 p0).map fun r:ak=>(.clean (.agg [.int .i64 r.aH.ag,.sl false false r.aH.aa.length (ae (eI .i64) r.aH.aa),.int .i64 r.aK.ag,.sl false false r.aK.aa.length (ae (eI .i64) r.aK.aa)]),none):=aU _ _ _ (p0)
noncomputable def rS:Env:=(Am.ext a6 73 false Bq)
theorem LS:bA Try.prog rS:=(bA.none.add Uy false)
theorem Q0:type_of% (ai @w<|ai @NW<|@rS.eq_1):=⟨@w,@NW,@rS.eq_1⟩
theorem PU (p0:Int) (r:ak) (hh:g9 p0=some r):bc .clean tab rS FU Try.f44 none [.int .i64 p0]=some (.clean (.agg [.int .i64 r.aH.ag,.sl false false r.aH.aa.length (ae (eI .i64) r.aH.aa),.int .i64 r.aK.ag,.sl false false r.aK.aa.length (ae (eI .i64) r.aK.aa)]),none):=by
 refine aC rfl Try.ntmps44 Try.results44 ?_
 unfold g9 at hh
 obtain⟨r1,hr1,hh⟩:=ah hh
 obtain⟨r2,hr2,hh⟩:=ah hh
 cases hh
 try simp only[Q0,seval,hr1,hr2]
theorem nw:b6 Try.prog 44 kI:=b6.of (mode := .clean) tok LS mixed Try.func44 (by kernel_rfl) ⟨by kernel_rfl,by kernel_rfl⟩ (fun _=>afg (by kernel_rfl)) (fun x r h=>PU x r h)
noncomputable def uI:=fX (fU (cX eB)) (fun x:al=>mN x) (fun r:al =>.clean (.agg [.int .i64 r.ag,.sl false false r.aa.length (ae (eI .i64) r.aa)]))
theorem vE (p0_0:Int) (p0_1:(List Int)):uI none [.agg [.int .i64 p0_0,.sl false false p0_1.length (ae (eI .i64) p0_1)]]=(mN (al.mk p0_0 p0_1)).map fun r:al=>(.clean (.agg [.int .i64 r.ag,.sl false false r.aa.length (ae (eI .i64) r.aa)]),none):=aU _ _ _ ((al.mk p0_0 p0_1))
noncomputable def ve:Env:=(Am.ext (Am.ext (Am.ext a6 50 false eS) 76 false gq) 82 false gX)
theorem Px:bA Try.prog ve:=(((bA.none.add fw false).add iW false).add kE false)
theorem vX:type_of% (ai @w<|ai @cq<|ai @dK<|ai @eV<|@ve.eq_1):=⟨@w,@cq,@dK,@eV,@ve.eq_1⟩
theorem Uf (p0:al) (r:al) (hh:mN p0=some r):bc .clean tab ve FU Try.f64 none [.agg [.int .i64 p0.ag,.sl false false p0.aa.length (ae (eI .i64) p0.aa)]]=some (.clean (.agg [.int .i64 r.ag,.sl false false r.aa.length (ae (eI .i64) r.aa)]),none):=by
 refine aC rfl Try.ntmps64 Try.results64 ?_
 unfold mN at hh
 obtain⟨r1,hr1,hh⟩:=ah hh
 try simp only[vX,seval,hr1]
 refine sp aq hh (fun _ hh =>?_) (fun _ hh =>?_)
 ·cases hh
  try simp only[vX,seval,hr1]
 ·obtain⟨r3,hr3,hh⟩:=ah hh
  obtain⟨r4,hr4,hh⟩:=ah hh
  try simp only[vX,seval,hr1,hr3,hr4]
  refine bn (by kernel_rfl) ?_
  cases hh
  try simp only[vX,seval,hr1,hr3,hr4]
theorem DA:b6 Try.prog 64 uI:=b6.of (mode := .clean) tok Px mixed Try.func64 (by kernel_rfl) ⟨by kernel_rfl,by kernel_rfl⟩ (fun _=>afg (by kernel_rfl)) (fun x r h=>Uf x r h)
noncomputable def yO:=fX (jh (cX eB) (fU (cX eB))) (fun x:al×al=>rB x.1 x.2) (fun r:al×Int =>.clean (.tup [.agg [.int .i64 r.1.ag,.sl false false r.1.aa.length (ae (eI .i64) r.1.aa)],.int .i64 r.2]))
theorem HD (p0_0:Int) (p0_1:(List Int)) (p1_0:Int) (p1_1:(List Int)):yO none [.agg [.int .i64 p0_0,.sl false false p0_1.length (ae (eI .i64) p0_1)],.agg [.int .i64 p1_0,.sl false false p1_1.length (ae (eI .i64) p1_1)]]=(rB (al.mk p0_0 p0_1) (al.mk p1_0 p1_1)).map fun r:al×Int=>(.clean (.tup [.agg [.int .i64 r.1.ag,.sl false false r.1.aa.length (ae (eI .i64) r.1.aa)],.int .i64 r.2]),none):=aU _ _ _ ((al.mk p0_0 p0_1),(al.mk p1_0 p1_1))
noncomputable def vd:Env:=(Am.ext (Am.ext (Am.ext (Am.ext a6 50 false eS) 75 false kb) 76 false gq) 103 false uL)
theorem Pw:bA Try.prog vd:=((((bA.none.add fw false).add pj false).add iW false).add DD false)
theorem iY:type_of% (ai @w<|ai @cq<|ai @eP<|ai @dK<|ai @oA<|@vd.eq_1):=⟨@w,@cq,@eP,@dK,@oA,@vd.eq_1⟩
theorem Ue (p0:al) (p1:al) (r:al×Int) (hh:rB p0 p1=some r):bc .clean tab vd FU Try.f80 none [.agg [.int .i64 p0.ag,.sl false false p0.aa.length (ae (eI .i64) p0.aa)],.agg [.int .i64 p1.ag,.sl false false p1.aa.length (ae (eI .i64) p1.aa)]]=some (.clean (.tup [.agg [.int .i64 r.1.ag,.sl false false r.1.aa.length (ae (eI .i64) r.1.aa)],.int .i64 r.2]),none):=by
 refine aC rfl Try.ntmps80 Try.results80 ?_
 unfold rB at hh
 obtain⟨r1,hr1,hh⟩:=ah hh
 try simp only[iY,seval,hr1]
 obtain⟨o2,ho2,hh⟩:=ah hh
 refine bt 0 (fun s t H e=>match s with|s13j1=>∃v2j1:Nat,∃v3j1:Nat,∃v4j1:Nat,t 2=.ptr 2 v2j1 0∧t 3=.ptr 3 v3j1 0∧t 4=.ptr 4 v4j1 0∧t 13=.bool s13j1∧H 2=some ⟨v2j1,39,[.int .i64 p0.ag,.sl false false p0.aa.length (ae (eI .i64) p0.aa)],false,false,false⟩∧H 3=some ⟨v3j1,39,[.int .i64 p1.ag,.sl false false p1.aa.length (ae (eI .i64) p1.aa)],false,false,false⟩∧H 4=some ⟨v4j1,39,[.int .i64 0,.sl true true 0 []],false,false,false⟩) (fun s=>s=o2) ?_ ?_
 ·rintro s13j1 t H e ⟨v2j1,v3j1,v4j1,Zj1⟩ rfl
  try dsimp only at hh
  try simp only[iY,seval,hr1,Zj1]
  refine sp aq hh (fun _ hh =>?_) (fun _ hh =>?_)
  ·have i4:=eP false 0 ([])
   simp only[aL,bI,List.length_cons,List.length_nil,aen,Nat.reduceAdd,afz]at i4
   obtain⟨r5,hr5,hh⟩:=ah hh
   cases hh
   try simp only[iY,seval,hr1,Zj1,i4,hr5]
  ·obtain⟨r6,hr6,hh⟩:=ah hh
   obtain⟨r7,hr7,hh⟩:=ah hh
   obtain⟨r8,hr8,hh⟩:=ah hh
   try simp only[iY,seval,hr1,Zj1,hr6,hr7,hr8]
   refine bn (by kernel_rfl) ?_
   cases hh
   try simp only[iY,seval,hr1,Zj1,hr6,hr7,hr8]
 ·clear hh
  have hh:=ho2
  try simp only[iY,seval,hr1]
  refine sp bd hh (fun _ hh =>?_) (fun _ hh =>?_)
  ·cases hh
   try simp only[iY,seval,hr1]
   rw[au]
   refine⟨_,rfl,?_⟩
   refine⟨0,0,0,?_,?_,?_,?_,?_,?_,?_⟩
   all_goals first|rfl|(simp only[iY,seval,hr1]<;>rfl)
  ·obtain⟨r10,hr10,hh⟩:=ah hh
   cases hh
   try simp only[iY,seval,hr1,hr10]
   rw[au]
   refine⟨_,rfl,?_⟩
   refine⟨0,0,0,?_,?_,?_,?_,?_,?_,?_⟩
   all_goals first|rfl|(simp only[iY,seval,hr1,hr10]<;>rfl)
theorem Qi:b6 Try.prog 80 yO:=b6.of (mode := .clean) tok Pw mixed Try.func80 (by kernel_rfl) ⟨by kernel_rfl,by kernel_rfl⟩ (fun _=>afg (by kernel_rfl)) (fun x r h=>Ue x.1 x.2 r h)
noncomputable def jL:=fX (jh (cX eB) (fU (cX eB))) (fun x:al×al=>bU x.1 x.2) (fun r:al =>.clean (.agg [.int .i64 r.ag,.sl false false r.aa.length (ae (eI .i64) r.aa)]))
theorem gE (p0_0:Int) (p0_1:(List Int)) (p1_0:Int) (p1_1:(List Int)):jL none [.agg [.int .i64 p0_0,.sl false false p0_1.length (ae (eI .i64) p0_1)],.agg [.int .i64 p1_0,.sl false false p1_1.length (ae (eI .i64) p1_1)]]=(bU (al.mk p0_0 p0_1) (al.mk p1_0 p1_1)).map fun r:al=>(.clean (.agg [.int .i64 r.ag,.sl false false r.aa.length (ae (eI .i64) r.aa)]),none):=aU _ _ _ ((al.mk p0_0 p0_1),(al.mk p1_0 p1_1))
noncomputable def nZ:Env:=(Am.ext a6 80 false yO)
theorem ET:bA Try.prog nZ:=(bA.none.add Qi false)
theorem JZ:type_of% (ai @w<|ai @HD<|@nZ.eq_1):=⟨@w,@HD,@nZ.eq_1⟩
theorem Jg (p0:al) (p1:al) (r:al) (hh:bU p0 p1=some r):bc .clean tab nZ FU Try.f48 none [.agg [.int .i64 p0.ag,.sl false false p0.aa.length (ae (eI .i64) p0.aa)],.agg [.int .i64 p1.ag,.sl false false p1.aa.length (ae (eI .i64) p1.aa)]]=some (.clean (.agg [.int .i64 r.ag,.sl false false r.aa.length (ae (eI .i64) r.aa)]),none):=by
 refine aC rfl Try.ntmps48 Try.results48 ?_
 unfold bU at hh
 obtain⟨r1,hr1,hh⟩:=ah hh
 cases hh
 try simp only[JZ,seval,hr1]
theorem mW:b6 Try.prog 48 jL:=b6.of (mode := .clean) tok ET mixed Try.func48 (by kernel_rfl) ⟨by kernel_rfl,by kernel_rfl⟩ (fun _=>afg (by kernel_rfl)) (fun x r h=>Jg x.1 x.2 r h)
noncomputable def uJ:=fX (jh (mL (eI .i64)) (fU (mL (eI .i64)))) (fun x:(List Int)×(List Int)=>pG x.1 x.2) (fun r:(List Int) =>.clean (.sl false false r.length (ae (eI .i64) r)))
theorem qP (p0:(List Int)) (p1:(List Int)):uJ none [.sl false false p0.length (ae (eI .i64) p0),.sl false false p1.length (ae (eI .i64) p1)]=(pG p0 p1).map fun r:(List Int)=>(.clean (.sl false false r.length (ae (eI .i64) r)),none):=aU _ _ _ (p0,p1)
noncomputable def vf:Env:=(Am.ext a6 102 false kH)
theorem Py:bA Try.prog vf:=(bA.none.add nt false)
theorem da:type_of% (ai @w<|ai @fh<|@vf.eq_1):=⟨@w,@fh,@vf.eq_1⟩
theorem Ug (p0:(List Int)) (p1:(List Int)) (r:(List Int)) (hh:pG p0 p1=some r):bc .clean tab vf FU Try.f77 none [.sl false false p0.length (ae (eI .i64) p0),.sl false false p1.length (ae (eI .i64) p1)]=some (.clean (.sl false false r.length (ae (eI .i64) r)),none):=by
 refine aC rfl Try.ntmps77 Try.results77 ?_
 unfold pG at hh
 try simp only[da,seval,-Int.reduceToNat]
 obtain⟨o1,ho1,hh⟩:=ah hh
 refine kr 0 (fun s t H e=>match s with|(s0j1,s1j1)=>t 0=.sl false false s0j1.length (ae (eI .i64) s0j1)∧t 1=.sl false false s1j1.length (ae (eI .i64) s1j1)) (fun s=>s=o1) ?_ ?_
 ·rintro⟨s0j1,s1j1⟩ t H e Zj1 rfl
  try dsimp only at hh
  obtain⟨x2,hx2,hh⟩:=ah hh
  obtain⟨q3a,q3b,q3c,q3d,q3e⟩:=mk_one (eI .i64) hx2
  simp only[bI]at q3d
  try simp only[da,seval,-Int.reduceToNat,Zj1,q3a,q3b,q3c,q3d,q3e]
  obtain⟨o13,ho13,hh⟩:=ah hh
  refine aB (fun s t H e=>match s with|(s6b,s22b,l5b)=>∃v5b:Nat,t 0=.sl false false s0j1.length (ae (eI .i64) s0j1)∧t 1=.sl false false s1j1.length (ae (eI .i64) s1j1)∧t 5=.buf 5 v5b 1 0 (l5b).length∧t 6=.int .i64 s6b∧t 20=.sl false false s0j1.length (ae (eI .i64) s0j1)∧t 21=.int .i64 (s0j1.length:Int)∧t 22=.int .i64 s22b∧H 5=some ⟨v5b,3,ae (eI .i64) l5b,false,true,false⟩) (fun o x t H e=>match o with|(s6bx,l5bx)=>x=.exit 0∧∃v5bx:Nat,t 0=.sl false false s0j1.length (ae (eI .i64) s0j1)∧t 5=.buf 5 v5bx 1 0 (l5bx).length∧t 6=.int .i64 s6bx∧H 5=some ⟨v5bx,3,ae (eI .i64) l5bx,false,true,false⟩) ho13 ?_ ?_ ?_
  ·refine⟨e,?_,?_,?_,?_,?_,?_,?_,?_⟩
   all_goals first|rfl|(simp only[da,seval,-Int.reduceToNat,Zj1,q3a,q3b,q3c,q3d,q3e]<;>rfl)
  ·rintro⟨s6b,s22b,l5b⟩ t H e ⟨v5b,Zb⟩ c hh
   simp only[oN]at hh
   try simp only[da,seval,-Int.reduceToNat,q3a,q3b,q3c,q3d,q3e,Zb]
   refine sp aq hh (fun _ hh =>?_) (fun _ hh =>?_)
   ·obtain⟨x15,hx15,hh⟩:=ah hh
    have ax15:=bQ (eI .i64) hx15
    simp only[bI]at ax15
    try simp only[da,seval,-Int.reduceToNat,q3a,q3b,q3c,q3d,q3e,Zb,ax15]
    obtain⟨o16,ho16,hh⟩:=ah hh
    refine kr 0 (fun s t H e=>match s with|s6j4=>∃v5j4:Nat,t 0=.sl false false s0j1.length (ae (eI .i64) s0j1)∧t 1=.sl false false s1j1.length (ae (eI .i64) s1j1)∧t 5=.buf 5 v5j4 1 0 (l5b).length∧t 6=.int .i64 s6j4∧t 7=.int .i64 s22b∧t 20=.sl false false s0j1.length (ae (eI .i64) s0j1)∧t 21=.int .i64 (s0j1.length:Int)∧t 22=.int .i64 s22b∧H 5=some ⟨v5j4,3,ae (eI .i64) l5b,false,true,false⟩) (fun s=>s=o16) ?_ ?_
    ·rintro s6j4 t H e ⟨v5j4,Zj4⟩ rfl
     try dsimp only at hh
     obtain⟨x17,hx17,hh⟩:=ah hh
     have ax17:=bQ (eI .i64) hx17
     simp only[bI]at ax17
     have p18:=eO (eI .i64) (x':=kf .and .i64 s6j4 1048575) (fo:=0) (cs:=[.int .i64 (kf .and .i64 s6j4 1048575)]) hx17 rfl (afg rfl)
     simp only[bI,Nat.add_zero]at p18
     have up18:=p18
     simp only[putCells,List.length_cons,List.length_nil,aen,Nat.reduceAdd]at up18
     obtain⟨x19,hx19,hh⟩:=ah hh
     have q20:=sL hx19
     cases hh
     try simp only[da,seval,-Int.reduceToNat,q3a,q3b,q3c,q3d,q3e,ax15,Zj4,ax17,p18,up18,q20]
     refine j6 ?_
     refine⟨v5j4,?_,?_,?_,?_,?_,?_,?_,?_⟩
     all_goals first|rfl|(simp only[da,seval,-Int.reduceToNat,q3a,q3b,q3c,q3d,q3e,ax15,Zj4,ax17,p18,up18,q20]<;>rfl)
    ·clear hh
     have hh:=ho16
     try simp only[da,seval,-Int.reduceToNat,q3a,q3b,q3c,q3d,q3e,Zb,ax15]
     refine sp aq hh (fun _ hh =>?_) (fun _ hh =>?_)
     ·obtain⟨x22,hx22,hh⟩:=ah hh
      have ax22:=bQ (eI .i64) hx22
      simp only[bI]at ax22
      cases hh
      try simp only[da,seval,-Int.reduceToNat,q3a,q3b,q3c,q3d,q3e,Zb,ax15,ax22]
      rw[au]
      refine⟨_,rfl,?_⟩
      refine⟨v5b,?_,?_,?_,?_,?_,?_,?_,?_,?_⟩
      all_goals first|rfl|(simp only[da,seval,-Int.reduceToNat,q3a,q3b,q3c,q3d,q3e,Zb,ax15,ax22]<;>rfl)
     ·cases hh
      try simp only[da,seval,-Int.reduceToNat,q3a,q3b,q3c,q3d,q3e,Zb,ax15]
      rw[au]
      refine⟨_,rfl,?_⟩
      refine⟨v5b,?_,?_,?_,?_,?_,?_,?_,?_,?_⟩
      all_goals first|rfl|(simp only[da,seval,-Int.reduceToNat,q3a,q3b,q3c,q3d,q3e,Zb,ax15]<;>rfl)
   ·cases hh
    try simp only[da,seval,-Int.reduceToNat,q3a,q3b,q3c,q3d,q3e,Zb]
    refine lj ?_
    refine⟨rfl,⟨v5b,?_,?_,?_,?_⟩⟩
    all_goals first|rfl|(simp only[da,seval,-Int.reduceToNat,q3a,q3b,q3c,q3d,q3e,Zb]<;>rfl)
  ·rintro x t H e hx
   rcases o13 with⟨s6bx,l5bx⟩
   dsimp only at hx hh
   obtain⟨rfl,⟨v5bx,Zbx⟩⟩:=hx
   obtain⟨x23,hx23,hh⟩:=ah hh
   have ax23:=bQ (eI .i64) hx23
   simp only[bI]at ax23
   have p24:=eO (eI .i64) (x':=s6bx) (fo:=0) (cs:=[.int .i64 s6bx]) hx23 rfl (afg rfl)
   simp only[bI,Nat.add_zero]at p24
   have up24:=p24
   simp only[putCells,List.length_cons,List.length_nil,aen,Nat.reduceAdd]at up24
   have i25:=fh (l5bx.set ((s0j1.length:Int)).toNat s6bx)
   simp only[aL,bI,List.length_cons,List.length_nil,aen,Nat.reduceAdd,afz]at i25
   obtain⟨r26,hr26,hh⟩:=ah hh
   cases hh
   try simp only[da,seval,-Int.reduceToNat,q3a,q3b,q3c,q3d,q3e,Zbx,ax23,p24,up24,i25,hr26]
 ·clear hh
  have hh:=ho1
  try simp only[da,seval,-Int.reduceToNat]
  refine sp aq hh (fun _ hh =>?_) (fun _ hh =>?_)
  ·cases hh
   try simp only[da,seval,-Int.reduceToNat]
   rw[au]
   refine⟨_,rfl,?_⟩
   refine⟨?_,?_⟩
   all_goals first|rfl|(simp only[da,seval,-Int.reduceToNat]<;>rfl)
  ·cases hh
   try simp only[da,seval,-Int.reduceToNat]
   rw[au]
   refine⟨_,rfl,?_⟩
   refine⟨?_,?_⟩
   all_goals first|rfl|(simp only[da,seval,-Int.reduceToNat]<;>rfl)
theorem DB:b6 Try.prog 77 uJ:=b6.of (mode := .clean) tok Py mixed Try.func77 (by kernel_rfl) ⟨by kernel_rfl,by kernel_rfl⟩ (fun _=>afg (by kernel_rfl)) (fun x r h=>Ug x.1 x.2 r h)
noncomputable def uM:=fX (jh (mL (eI .i64)) (fU (mL (eI .i64)))) (fun x:(List Int)×(List Int)=>nW x.1 x.2) (fun r:(List Int) =>.clean (.sl false false r.length (ae (eI .i64) r)))
theorem vG (p0:(List Int)) (p1:(List Int)):uM none [.sl false false p0.length (ae (eI .i64) p0),.sl false false p1.length (ae (eI .i64) p1)]=(nW p0 p1).map fun r:(List Int)=>(.clean (.sl false false r.length (ae (eI .i64) r)),none):=aU _ _ _ (p0,p1)
noncomputable def vl:Env:=(Am.ext (Am.ext a6 82 false gX) 102 false kH)
theorem PB:bA Try.prog vl:=((bA.none.add kE false).add nt false)
theorem fa:type_of% (ai @w<|ai @eV<|ai @fh<|@vl.eq_1):=⟨@w,@eV,@fh,@vl.eq_1⟩
theorem Uj (p0:(List Int)) (p1:(List Int)) (r:(List Int)) (hh:nW p0 p1=some r):bc .clean tab vl FU Try.f79 none [.sl false false p0.length (ae (eI .i64) p0),.sl false false p1.length (ae (eI .i64) p1)]=some (.clean (.sl false false r.length (ae (eI .i64) r)),none):=by
 refine aC rfl Try.ntmps79 Try.results79 ?_
 unfold nW at hh
 obtain⟨r1,hr1,hh⟩:=ah hh
 try simp only[fa,seval,-Int.reduceToNat,hr1]
 obtain⟨o10,ho10,hh⟩:=ah hh
 refine aB (fun s t H e=>match s with|(s6a,s13a,l5a)=>∃v5a:Nat,t 1=.sl false false p1.length (ae (eI .i64) p1)∧t 5=.buf 5 v5a 1 0 (l5a).length∧t 6=.int .i64 s6a∧t 12=.int .i64 ((r1).length:Int)∧t 13=.int .i64 s13a∧H 5=some ⟨v5a,3,ae (eI .i64) l5a,false,true,false⟩) (fun o x t H e=>match o with|l5ax=>x=.exit 0∧∃v5ax:Nat,t 5=.buf 5 v5ax 1 0 (l5ax).length∧H 5=some ⟨v5ax,3,ae (eI .i64) l5ax,false,true,false⟩) ho10 ?_ ?_ ?_
 ·refine⟨1,?_,?_,?_,?_,?_,?_⟩
  all_goals first|rfl|(simp only[fa,seval,-Int.reduceToNat,hr1]<;>rfl)
 ·rintro⟨s6a,s13a,l5a⟩ t H e ⟨v5a,Za⟩ c hh
  simp only[rH]at hh
  try simp only[fa,seval,-Int.reduceToNat,hr1,Za]
  refine sp aq hh (fun _ hh =>?_) (fun _ hh =>?_)
  ·obtain⟨x12,hx12,hh⟩:=ah hh
   have ax12:=bQ (eI .i64) hx12
   simp only[bI]at ax12
   try simp only[fa,seval,-Int.reduceToNat,hr1,Za,ax12]
   obtain⟨o13,ho13,hh⟩:=ah hh
   refine kr 0 (fun s t H e=>match s with|s8j3=>∃v5j3:Nat,t 1=.sl false false p1.length (ae (eI .i64) p1)∧t 5=.buf 5 v5j3 1 0 (l5a).length∧t 7=.int .i64 s13a∧t 8=.int .i64 s8j3∧t 12=.int .i64 ((r1).length:Int)∧t 13=.int .i64 s13a∧H 5=some ⟨v5j3,3,ae (eI .i64) l5a,false,true,false⟩) (fun s=>s=o13) ?_ ?_
   ·rintro s8j3 t H e ⟨v5j3,Zj3⟩ rfl
    try dsimp only at hh
    obtain⟨x14,hx14,hh⟩:=ah hh
    have q15:=sL hx14
    have ax12:=bQ (eI .i64) hx12
    simp only[bI]at ax12
    have p16:=eO (eI .i64) (x':=kf .and .i64 s8j3 1048575) (fo:=0) (cs:=[.int .i64 (kf .and .i64 s8j3 1048575)]) hx12 rfl (afg rfl)
    simp only[bI,Nat.add_zero]at p16
    have up16:=p16
    simp only[putCells,List.length_cons,List.length_nil,aen,Nat.reduceAdd]at up16
    cases hh
    try simp only[fa,seval,-Int.reduceToNat,hr1,ax12,Zj3,q15,ax12,p16,up16]
    refine j6 ?_
    refine⟨v5j3,?_,?_,?_,?_,?_,?_⟩
    all_goals first|rfl|(simp only[fa,seval,-Int.reduceToNat,hr1,ax12,Zj3,q15,ax12,p16,up16]<;>rfl)
   ·clear hh
    have hh:=ho13
    try simp only[fa,seval,-Int.reduceToNat,hr1,Za,ax12]
    refine sp aq hh (fun _ hh =>?_) (fun _ hh =>?_)
    ·obtain⟨x18,hx18,hh⟩:=ah hh
     have ax18:=bQ (eI .i64) hx18
     simp only[bI]at ax18
     cases hh
     try simp only[fa,seval,-Int.reduceToNat,hr1,Za,ax12,ax18]
     rw[au]
     refine⟨_,rfl,?_⟩
     refine⟨v5a,?_,?_,?_,?_,?_,?_,?_⟩
     all_goals first|rfl|(simp only[fa,seval,-Int.reduceToNat,hr1,Za,ax12,ax18]<;>rfl)
    ·cases hh
     try simp only[fa,seval,-Int.reduceToNat,hr1,Za,ax12]
     rw[au]
     refine⟨_,rfl,?_⟩
     refine⟨v5a,?_,?_,?_,?_,?_,?_,?_⟩
     all_goals first|rfl|(simp only[fa,seval,-Int.reduceToNat,hr1,Za,ax12]<;>rfl)
  ·cases hh
   try simp only[fa,seval,-Int.reduceToNat,hr1,Za]
   refine lj ?_
   refine⟨rfl,⟨v5a,?_,?_⟩⟩
   all_goals first|rfl|(simp only[fa,seval,-Int.reduceToNat,hr1,Za]<;>rfl)
 ·rintro x t H e hx
  obtain⟨l5ax,rfl⟩:∃z,z=o10:=⟨_,rfl⟩
  dsimp only at hx hh
  obtain⟨rfl,⟨v5ax,Zax⟩⟩:=hx
  obtain⟨r19,hr19,hh⟩:=ah hh
  cases hh
  try simp only[fa,seval,-Int.reduceToNat,hr1,Zax,hr19]
theorem DE:b6 Try.prog 79 uM:=b6.of (mode := .clean) tok PB mixed Try.func79 (by kernel_rfl) ⟨by kernel_rfl,by kernel_rfl⟩ (fun _=>afg (by kernel_rfl)) (fun x r h=>Uj x.1 x.2 r h)
noncomputable def yL:=fX (jh (cX eB) (fU (cX eB))) (fun x:al×al=>rv x.1 x.2) (fun r:al×Int =>.clean (.tup [.agg [.int .i64 r.1.ag,.sl false false r.1.aa.length (ae (eI .i64) r.1.aa)],.int .i64 r.2]))
theorem HA (p0_0:Int) (p0_1:(List Int)) (p1_0:Int) (p1_1:(List Int)):yL none [.agg [.int .i64 p0_0,.sl false false p0_1.length (ae (eI .i64) p0_1)],.agg [.int .i64 p1_0,.sl false false p1_1.length (ae (eI .i64) p1_1)]]=(rv (al.mk p0_0 p0_1) (al.mk p1_0 p1_1)).map fun r:al×Int=>(.clean (.tup [.agg [.int .i64 r.1.ag,.sl false false r.1.aa.length (ae (eI .i64) r.1.aa)],.int .i64 r.2]),none):=aU _ _ _ ((al.mk p0_0 p0_1),(al.mk p1_0 p1_1))
noncomputable def u6:Env:=(Am.ext (Am.ext (Am.ext (Am.ext (Am.ext (Am.ext (Am.ext a6 50 false eS) 65 false xv) 75 false kb) 76 false gq) 77 false uJ) 78 false kc) 79 false uM)
theorem Ps:bA Try.prog u6:=(((((((bA.none.add fw false).add Hq false).add pj false).add iW false).add DB false).add pk false).add DE false)
theorem ey:type_of% (ai @w<|ai @cq<|ai @qQ<|ai @eP<|ai @dK<|ai @qP<|ai @iX<|ai @vG<|@u6.eq_1):=⟨@w,@cq,@qQ,@eP,@dK,@qP,@iX,@vG,@u6.eq_1⟩
theorem Ua (p0:al) (p1:al) (r:al×Int) (hh:rv p0 p1=some r):bc .clean tab u6 FU Try.f47 none [.agg [.int .i64 p0.ag,.sl false false p0.aa.length (ae (eI .i64) p0.aa)],.agg [.int .i64 p1.ag,.sl false false p1.aa.length (ae (eI .i64) p1.aa)]]=some (.clean (.tup [.agg [.int .i64 r.1.ag,.sl false false r.1.aa.length (ae (eI .i64) r.1.aa)],.int .i64 r.2]),none):=by
 refine aC rfl Try.ntmps47 Try.results47 ?_
 unfold rv at hh
 obtain⟨r1,hr1,hh⟩:=ah hh
 try simp only[ey,seval,hr1]
 obtain⟨o2,ho2,hh⟩:=ah hh
 refine bt 0 (fun s t H e=>match s with|s13j1=>∃v2j1:Nat,∃v3j1:Nat,∃v4j1:Nat,t 2=.ptr 2 v2j1 0∧t 3=.ptr 3 v3j1 0∧t 4=.ptr 4 v4j1 0∧t 13=.bool s13j1∧H 2=some ⟨v2j1,39,[.int .i64 p0.ag,.sl false false p0.aa.length (ae (eI .i64) p0.aa)],false,false,false⟩∧H 3=some ⟨v3j1,39,[.int .i64 p1.ag,.sl false false p1.aa.length (ae (eI .i64) p1.aa)],false,false,false⟩∧H 4=some ⟨v4j1,39,[.int .i64 0,.sl true true 0 []],false,false,false⟩) (fun s=>s=o2) ?_ ?_
 ·rintro s13j1 t H e ⟨v2j1,v3j1,v4j1,Zj1⟩ rfl
  try dsimp only at hh
  try simp only[ey,seval,hr1,Zj1]
  refine sp aq hh (fun _ hh =>?_) (fun _ hh =>?_)
  ·have i4:=eP false 0 ([])
   simp only[aL,bI,List.length_cons,List.length_nil,aen,Nat.reduceAdd,afz]at i4
   obtain⟨r5,hr5,hh⟩:=ah hh
   cases hh
   try simp only[ey,seval,hr1,Zj1,i4,hr5]
  ·try simp only[ey,seval,hr1,Zj1]
   refine sp aq hh (fun _ hh =>?_) (fun _ hh =>?_)
   ·have i7:=qQ ([p0.ag,p1.ag])
    simp only[aL,bI,List.length_cons,List.length_nil,aen,Nat.reduceAdd,afz]at i7
    obtain⟨r8,hr8,hh⟩:=ah hh
    obtain⟨r9,hr9,hh⟩:=ah hh
    obtain⟨r10,hr10,hh⟩:=ah hh
    obtain⟨r11,hr11,hh⟩:=ah hh
    try simp only[ey,seval,hr1,Zj1,i7,hr8,hr9,hr10,hr11]
    refine bn (by kernel_rfl) ?_
    cases hh
    try simp only[ey,seval,hr1,Zj1,i7,hr8,hr9,hr10,hr11]
   ·obtain⟨r12,hr12,hh⟩:=ah hh
    try simp only[ey,seval,hr1,Zj1,hr12]
    refine sp aq hh (fun _ hh =>?_) (fun _ hh =>?_)
    ·obtain⟨r14,hr14,hh⟩:=ah hh
     obtain⟨r15,hr15,hh⟩:=ah hh
     obtain⟨r16,hr16,hh⟩:=ah hh
     try simp only[ey,seval,hr1,Zj1,hr12,hr14,hr15,hr16]
     refine bn (by kernel_rfl) ?_
     cases hh
     try simp only[ey,seval,hr1,Zj1,hr12,hr14,hr15,hr16]
    ·obtain⟨r17,hr17,hh⟩:=ah hh
     obtain⟨r18,hr18,hh⟩:=ah hh
     obtain⟨r19,hr19,hh⟩:=ah hh
     try simp only[ey,seval,hr1,Zj1,hr12,hr17,hr18,hr19]
     refine bn (by kernel_rfl) ?_
     cases hh
     try simp only[ey,seval,hr1,Zj1,hr12,hr17,hr18,hr19]
 ·clear hh
  have hh:=ho2
  try simp only[ey,seval,hr1]
  refine sp bd hh (fun _ hh =>?_) (fun _ hh =>?_)
  ·cases hh
   try simp only[ey,seval,hr1]
   rw[au]
   refine⟨_,rfl,?_⟩
   refine⟨0,0,0,?_,?_,?_,?_,?_,?_,?_⟩
   all_goals first|rfl|(simp only[ey,seval,hr1]<;>rfl)
  ·obtain⟨r21,hr21,hh⟩:=ah hh
   cases hh
   try simp only[ey,seval,hr1,hr21]
   rw[au]
   refine⟨_,rfl,?_⟩
   refine⟨0,0,0,?_,?_,?_,?_,?_,?_,?_⟩
   all_goals first|rfl|(simp only[ey,seval,hr1,hr21]<;>rfl)
theorem Qf:b6 Try.prog 47 yL:=b6.of (mode := .clean) tok Ps mixed Try.func47 (by kernel_rfl) ⟨by kernel_rfl,by kernel_rfl⟩ (fun _=>afg (by kernel_rfl)) (fun x r h=>Ua x.1 x.2 r h)
noncomputable def yM:=fX (jh (cX eB) (fU (cX eB))) (fun x:al×al=>mM x.1 x.2) (fun r:al×al×Int =>.clean (.tup [.agg [.int .i64 r.1.ag,.sl false false r.1.aa.length (ae (eI .i64) r.1.aa)],.agg [.int .i64 r.2.1.ag,.sl false false r.2.1.aa.length (ae (eI .i64) r.2.1.aa)],.int .i64 r.2.2]))
theorem HB (p0_0:Int) (p0_1:(List Int)) (p1_0:Int) (p1_1:(List Int)):yM none [.agg [.int .i64 p0_0,.sl false false p0_1.length (ae (eI .i64) p0_1)],.agg [.int .i64 p1_0,.sl false false p1_1.length (ae (eI .i64) p1_1)]]=(mM (al.mk p0_0 p0_1) (al.mk p1_0 p1_1)).map fun r:al×al×Int=>(.clean (.tup [.agg [.int .i64 r.1.ag,.sl false false r.1.aa.length (ae (eI .i64) r.1.aa)],.agg [.int .i64 r.2.1.ag,.sl false false r.2.1.aa.length (ae (eI .i64) r.2.1.aa)],.int .i64 r.2.2]),none):=aU _ _ _ ((al.mk p0_0 p0_1),(al.mk p1_0 p1_1))
noncomputable def u7:Env:=(Am.ext (Am.ext (Am.ext (Am.ext (Am.ext a6 50 false eS) 76 false gq) 77 false uJ) 79 false uM) 83 false uK)
theorem Pt:bA Try.prog u7:=(((((bA.none.add fw false).add iW false).add DB false).add DE false).add DC false)
theorem cN:type_of% (ai @w<|ai @cq<|ai @dK<|ai @qP<|ai @vG<|ai @vF<|@u7.eq_1):=⟨@w,@cq,@dK,@qP,@vG,@vF,@u7.eq_1⟩
theorem Ub (p0:al) (p1:al) (r:al×al×Int) (hh:mM p0 p1=some r):bc .clean tab u7 FU Try.f81 none [.agg [.int .i64 p0.ag,.sl false false p0.aa.length (ae (eI .i64) p0.aa)],.agg [.int .i64 p1.ag,.sl false false p1.aa.length (ae (eI .i64) p1.aa)]]=some (.clean (.tup [.agg [.int .i64 r.1.ag,.sl false false r.1.aa.length (ae (eI .i64) r.1.aa)],.agg [.int .i64 r.2.1.ag,.sl false false r.2.1.aa.length (ae (eI .i64) r.2.1.aa)],.int .i64 r.2.2]),none):=by
 refine aC rfl Try.ntmps81 Try.results81 ?_
 unfold mM at hh
 obtain⟨r1,hr1,hh⟩:=ah hh
 try simp only[cN,seval,hr1]
 obtain⟨o2,ho2,hh⟩:=ah hh
 refine bt 0 (fun s t H e=>match s with|s9j1=>∃v2j1:Nat,∃v3j1:Nat,∃v4j1:Nat,∃v5j1:Nat,t 2=.ptr 2 v2j1 0∧t 3=.ptr 3 v3j1 0∧t 4=.ptr 4 v4j1 0∧t 5=.ptr 5 v5j1 0∧t 9=.bool s9j1∧H 2=some ⟨v2j1,39,[.int .i64 p0.ag,.sl false false p0.aa.length (ae (eI .i64) p0.aa)],false,false,false⟩∧H 3=some ⟨v3j1,39,[.int .i64 p1.ag,.sl false false p1.aa.length (ae (eI .i64) p1.aa)],false,false,false⟩∧H 4=some ⟨v4j1,39,[.int .i64 0,.sl true true 0 []],false,false,false⟩∧H 5=some ⟨v5j1,39,[.int .i64 0,.sl true true 0 []],false,false,false⟩) (fun s=>s=o2) ?_ ?_
 ·rintro s9j1 t H e ⟨v2j1,v3j1,v4j1,v5j1,Zj1⟩ rfl
  try dsimp only at hh
  try simp only[cN,seval,hr1,Zj1]
  refine sp aq hh (fun _ hh =>?_) (fun _ hh =>?_)
  ·cases hh
   try simp only[cN,seval,hr1,Zj1]
  ·try simp only[cN,seval,hr1,Zj1]
   refine sp aq hh (fun _ hh =>?_) (fun _ hh =>?_)
   ·cases hh
    try simp only[cN,seval,hr1,Zj1]
   ·obtain⟨r5,hr5,hh⟩:=ah hh
    try simp only[cN,seval,hr1,Zj1,hr5]
    obtain⟨o6,ho6,hh⟩:=ah hh
    refine bt 0 (fun s t H e=>match s with|s44j2=>∃v2j2:Nat,∃v3j2:Nat,∃v4j2:Nat,∃v5j2:Nat,t 2=.ptr 2 v2j2 0∧t 3=.ptr 3 v3j2 0∧t 4=.ptr 4 v4j2 0∧t 5=.ptr 5 v5j2 0∧t 7=.sl false false r5.1.length (ae (eI .i64) r5.1)∧t 8=.sl false false r5.2.length (ae (eI .i64) r5.2)∧t 44=.bool s44j2∧H 2=some ⟨v2j2,39,[.int .i64 p0.ag,.sl false false p0.aa.length (ae (eI .i64) p0.aa)],false,false,false⟩∧H 3=some ⟨v3j2,39,[.int .i64 p1.ag,.sl false false p1.aa.length (ae (eI .i64) p1.aa)],false,false,false⟩∧H 4=some ⟨v4j2,39,[.int .i64 0,.sl true true 0 []],false,false,false⟩∧H 5=some ⟨v5j2,39,[.int .i64 0,.sl true true 0 []],false,false,false⟩) (fun s=>s=o6) ?_ ?_
    ·rintro s44j2 t H e ⟨v2j2,v3j2,v4j2,v5j2,Zj2⟩ rfl
     try dsimp only at hh
     try simp only[cN,seval,hr1,hr5,Zj2]
     refine sp aq hh (fun _ hh =>?_) (fun _ hh =>?_)
     ·have i8:=qP r5.1 ([1])
      simp only[aL,bI,List.length_cons,List.length_nil,aen,Nat.reduceAdd,afz]at i8
      obtain⟨r9,hr9,hh⟩:=ah hh
      obtain⟨r10,hr10,hh⟩:=ah hh
      obtain⟨r11,hr11,hh⟩:=ah hh
      obtain⟨r12,hr12,hh⟩:=ah hh
      try simp only[cN,seval,hr1,hr5,Zj2,i8,hr9,hr10,hr11,hr12]
      refine bn (by kernel_rfl) ?_
      cases hh
      try simp only[cN,seval,hr1,hr5,Zj2,i8,hr9,hr10,hr11,hr12]
     ·obtain⟨r13,hr13,hh⟩:=ah hh
      obtain⟨r14,hr14,hh⟩:=ah hh
      try simp only[cN,seval,hr1,hr5,Zj2,hr13,hr14]
      refine bn (by kernel_rfl) ?_
      cases hh
      try simp only[cN,seval,hr1,hr5,Zj2,hr13,hr14]
    ·clear hh
     have hh:=ho6
     try simp only[cN,seval,hr1,Zj1,hr5]
     refine sp dp hh (fun _ hh =>?_) (fun _ hh =>?_)
     ·cases hh
      try simp only[cN,seval,hr1,Zj1,hr5]
      rw[au]
      refine⟨_,rfl,?_⟩
      refine⟨v2j1,v3j1,v4j1,v5j1,?_,?_,?_,?_,?_,?_,?_,?_,?_,?_,?_⟩
      all_goals first|rfl|(simp only[cN,seval,hr1,Zj1,hr5]<;>rfl)
     ·cases hh
      try simp only[cN,seval,hr1,Zj1,hr5]
      rw[au]
      refine⟨_,rfl,?_⟩
      refine⟨v2j1,v3j1,v4j1,v5j1,?_,?_,?_,?_,?_,?_,?_,?_,?_,?_,?_⟩
      all_goals first|rfl|(simp only[cN,seval,hr1,Zj1,hr5]<;>rfl)
 ·clear hh
  have hh:=ho2
  try simp only[cN,seval,hr1]
  refine sp bd hh (fun _ hh =>?_) (fun _ hh =>?_)
  ·cases hh
   try simp only[cN,seval,hr1]
   rw[au]
   refine⟨_,rfl,?_⟩
   refine⟨0,0,0,0,?_,?_,?_,?_,?_,?_,?_,?_,?_⟩
   all_goals first|rfl|(simp only[cN,seval,hr1]<;>rfl)
  ·obtain⟨r17,hr17,hh⟩:=ah hh
   cases hh
   try simp only[cN,seval,hr1,hr17]
   rw[au]
   refine⟨_,rfl,?_⟩
   refine⟨0,0,0,0,?_,?_,?_,?_,?_,?_,?_,?_,?_⟩
   all_goals first|rfl|(simp only[cN,seval,hr1,hr17]<;>rfl)
theorem Qg:b6 Try.prog 81 yM:=b6.of (mode := .clean) tok Pt mixed Try.func81 (by kernel_rfl) ⟨by kernel_rfl,by kernel_rfl⟩ (fun _=>afg (by kernel_rfl)) (fun x r h=>Ub x.1 x.2 r h)
noncomputable def oH:=fX (jh (cX eB) (fU (cX eB))) (fun x:al×al=>lM x.1 x.2) (fun r:ak×Int =>.clean (.tup [.agg [.int .i64 r.1.aH.ag,.sl false false r.1.aH.aa.length (ae (eI .i64) r.1.aH.aa),.int .i64 r.1.aK.ag,.sl false false r.1.aK.aa.length (ae (eI .i64) r.1.aK.aa)],.int .i64 r.2]))
theorem mE (p0_0:Int) (p0_1:(List Int)) (p1_0:Int) (p1_1:(List Int)):oH none [.agg [.int .i64 p0_0,.sl false false p0_1.length (ae (eI .i64) p0_1)],.agg [.int .i64 p1_0,.sl false false p1_1.length (ae (eI .i64) p1_1)]]=(lM (al.mk p0_0 p0_1) (al.mk p1_0 p1_1)).map fun r:ak×Int=>(.clean (.tup [.agg [.int .i64 r.1.aH.ag,.sl false false r.1.aH.aa.length (ae (eI .i64) r.1.aH.aa),.int .i64 r.1.aK.ag,.sl false false r.1.aK.aa.length (ae (eI .i64) r.1.aK.aa)],.int .i64 r.2]),none):=aU _ _ _ ((al.mk p0_0 p0_1),(al.mk p1_0 p1_1))
noncomputable def rU:Env:=(Am.ext (Am.ext (Am.ext (Am.ext a6 50 false eS) 51 false uH) 64 false uI) 81 false yM)
theorem LV:bA Try.prog rU:=((((bA.none.add fw false).add Dz false).add DA false).add Qg false)
theorem cS:type_of% (ai @w<|ai @cq<|ai @vD<|ai @vE<|ai @HB<|@rU.eq_1):=⟨@w,@cq,@vD,@vE,@HB,@rU.eq_1⟩
theorem PW (p0:al) (p1:al) (r:ak×Int) (hh:lM p0 p1=some r):bc .clean tab rU FU Try.f49 none [.agg [.int .i64 p0.ag,.sl false false p0.aa.length (ae (eI .i64) p0.aa)],.agg [.int .i64 p1.ag,.sl false false p1.aa.length (ae (eI .i64) p1.aa)]]=some (.clean (.tup [.agg [.int .i64 r.1.aH.ag,.sl false false r.1.aH.aa.length (ae (eI .i64) r.1.aH.aa),.int .i64 r.1.aK.ag,.sl false false r.1.aK.aa.length (ae (eI .i64) r.1.aK.aa)],.int .i64 r.2]),none):=by
 refine aC rfl Try.ntmps49 Try.results49 ?_
 unfold lM at hh
 obtain⟨r1,hr1,hh⟩:=ah hh
 try simp only[cS,seval,hr1]
 obtain⟨o2,ho2,hh⟩:=ah hh
 refine bt 0 (fun s t H e=>match s with|s14j1=>∃v2j1:Nat,∃v3j1:Nat,∃v4j1:Nat,t 2=.ptr 2 v2j1 0∧t 3=.ptr 3 v3j1 0∧t 4=.ptr 4 v4j1 0∧t 14=.bool s14j1∧H 2=some ⟨v2j1,39,[.int .i64 p0.ag,.sl false false p0.aa.length (ae (eI .i64) p0.aa)],false,false,false⟩∧H 3=some ⟨v3j1,39,[.int .i64 p1.ag,.sl false false p1.aa.length (ae (eI .i64) p1.aa)],false,false,false⟩∧H 4=some ⟨v4j1,41,[.int .i64 0,.sl true true 0 [],.int .i64 0,.sl true true 0 []],false,false,false⟩) (fun s=>s=o2) ?_ ?_
 ·rintro s14j1 t H e ⟨v2j1,v3j1,v4j1,Zj1⟩ rfl
  try dsimp only at hh
  try simp only[cS,seval,hr1,Zj1]
  refine sp aq hh (fun _ hh =>?_) (fun _ hh =>?_)
  ·cases hh
   try simp only[cS,seval,hr1,Zj1]
  ·try simp only[cS,seval,hr1,Zj1]
   refine sp aq hh (fun _ hh =>?_) (fun _ hh =>?_)
   ·cases hh
    try simp only[cS,seval,hr1,Zj1]
   ·try simp only[cS,seval,hr1,Zj1]
    obtain⟨o5,ho5,hh⟩:=ah hh
    refine kr 0 (fun s t H e=>match s with|(r2_0j2,r2_1j2,r3_0j2,r3_1j2)=>∃v2j2:Nat,∃v3j2:Nat,∃v4j2:Nat,t 2=.ptr 2 v2j2 0∧t 3=.ptr 3 v3j2 0∧t 4=.ptr 4 v4j2 0∧H 2=some ⟨v2j2,39,[.int .i64 r2_0j2,.sl false false r2_1j2.length (ae (eI .i64) r2_1j2)],false,false,false⟩∧H 3=some ⟨v3j2,39,[.int .i64 r3_0j2,.sl false false r3_1j2.length (ae (eI .i64) r3_1j2)],false,false,false⟩∧H 4=some ⟨v4j2,41,[.int .i64 0,.sl true true 0 [],.int .i64 0,.sl true true 0 []],false,false,false⟩) (fun s=>s=o5) ?_ ?_
    ·rintro⟨r2_0j2,r2_1j2,r3_0j2,r3_1j2⟩ t H e ⟨v2j2,v3j2,v4j2,Zj2⟩ rfl
     try dsimp only at hh
     obtain⟨r6,hr6,hh⟩:=ah hh
     obtain⟨r7,hr7,hh⟩:=ah hh
     obtain⟨r8,hr8,hh⟩:=ah hh
     cases hh
     try simp only[cS,seval,hr1,Zj2,hr6,hr7,hr8]
    ·clear hh
     have hh:=ho5
     try simp only[cS,seval,hr1,Zj1]
     refine sp aq hh (fun _ hh =>?_) (fun _ hh =>?_)
     ·obtain⟨r10,hr10,hh⟩:=ah hh
      obtain⟨r11,hr11,hh⟩:=ah hh
      try simp only[cS,seval,hr1,Zj1,hr10,hr11]
      refine bn (by kernel_rfl) ?_
      cases hh
      try simp only[cS,seval,hr1,Zj1,hr10,hr11]
      rw[au]
      refine⟨_,rfl,?_⟩
      refine⟨v2j1,v3j1,v4j1,?_,?_,?_,?_,?_,?_⟩
      all_goals first|rfl|(simp only[cS,seval,hr1,Zj1,hr10,hr11]<;>rfl)
     ·cases hh
      try simp only[cS,seval,hr1,Zj1]
      rw[au]
      refine⟨_,rfl,?_⟩
      refine⟨v2j1,v3j1,v4j1,?_,?_,?_,?_,?_,?_⟩
      all_goals first|rfl|(simp only[cS,seval,hr1,Zj1]<;>rfl)
 ·clear hh
  have hh:=ho2
  try simp only[cS,seval,hr1]
  refine sp bd hh (fun _ hh =>?_) (fun _ hh =>?_)
  ·cases hh
   try simp only[cS,seval,hr1]
   rw[au]
   refine⟨_,rfl,?_⟩
   refine⟨0,0,0,?_,?_,?_,?_,?_,?_,?_⟩
   all_goals first|rfl|(simp only[cS,seval,hr1]<;>rfl)
  ·obtain⟨r13,hr13,hh⟩:=ah hh
   cases hh
   try simp only[cS,seval,hr1,hr13]
   rw[au]
   refine⟨_,rfl,?_⟩
   refine⟨0,0,0,?_,?_,?_,?_,?_,?_,?_⟩
   all_goals first|rfl|(simp only[cS,seval,hr1,hr13]<;>rfl)
theorem uj:b6 Try.prog 49 oH:=b6.of (mode := .clean) tok LV mixed Try.func49 (by kernel_rfl) ⟨by kernel_rfl,by kernel_rfl⟩ (fun _=>afg (by kernel_rfl)) (fun x r h=>PW x.1 x.2 r h)
noncomputable def oF:=fX (jh (cX az) (fU (cX az))) (fun x:ak×ak=>kg x.1 x.2) (fun r:ak×Int =>.clean (.tup [.agg [.int .i64 r.1.aH.ag,.sl false false r.1.aH.aa.length (ae (eI .i64) r.1.aH.aa),.int .i64 r.1.aK.ag,.sl false false r.1.aK.aa.length (ae (eI .i64) r.1.aK.aa)],.int .i64 r.2]))
theorem mD (p0_0:Int) (p0_1:(List Int)) (p0_2:Int) (p0_3:(List Int)) (p1_0:Int) (p1_1:(List Int)) (p1_2:Int) (p1_3:(List Int)):oF none [.agg [.int .i64 p0_0,.sl false false p0_1.length (ae (eI .i64) p0_1),.int .i64 p0_2,.sl false false p0_3.length (ae (eI .i64) p0_3)],.agg [.int .i64 p1_0,.sl false false p1_1.length (ae (eI .i64) p1_1),.int .i64 p1_2,.sl false false p1_3.length (ae (eI .i64) p1_3)]]=(kg (ak.mk (al.mk p0_0 p0_1) (al.mk p0_2 p0_3)) (ak.mk (al.mk p1_0 p1_1) (al.mk p1_2 p1_3))).map fun r:ak×Int=>(.clean (.tup [.agg [.int .i64 r.1.aH.ag,.sl false false r.1.aH.aa.length (ae (eI .i64) r.1.aH.aa),.int .i64 r.1.aK.ag,.sl false false r.1.aK.aa.length (ae (eI .i64) r.1.aK.aa)],.int .i64 r.2]),none):=aU _ _ _ ((ak.mk (al.mk p0_0 p0_1) (al.mk p0_2 p0_3)),(ak.mk (al.mk p1_0 p1_1) (al.mk p1_2 p1_3)))
noncomputable def rQ:Env:=(Am.ext (Am.ext (Am.ext (Am.ext a6 22 false eM) 47 false yL) 48 false jL) 49 false oH)
theorem LQ:bA Try.prog rQ:=((((bA.none.add fD false).add Qf false).add mW false).add uj false)
theorem fT:type_of% (ai @w<|ai @ct<|ai @HA<|ai @gE<|ai @mE<|@rQ.eq_1):=⟨@w,@ct,@HA,@gE,@mE,@rQ.eq_1⟩
theorem PS (p0:ak) (p1:ak) (r:ak×Int) (hh:kg p0 p1=some r):bc .clean tab rQ FU Try.f18 none [.agg [.int .i64 p0.aH.ag,.sl false false p0.aH.aa.length (ae (eI .i64) p0.aH.aa),.int .i64 p0.aK.ag,.sl false false p0.aK.aa.length (ae (eI .i64) p0.aK.aa)],.agg [.int .i64 p1.aH.ag,.sl false false p1.aH.aa.length (ae (eI .i64) p1.aH.aa),.int .i64 p1.aK.ag,.sl false false p1.aK.aa.length (ae (eI .i64) p1.aK.aa)]]=some (.clean (.tup [.agg [.int .i64 r.1.aH.ag,.sl false false r.1.aH.aa.length (ae (eI .i64) r.1.aH.aa),.int .i64 r.1.aK.ag,.sl false false r.1.aK.aa.length (ae (eI .i64) r.1.aK.aa)],.int .i64 r.2]),none):=by
 refine aC rfl Try.ntmps18 Try.results18 ?_
 unfold kg at hh
 obtain⟨r1,hr1,hh⟩:=ah hh
 try simp only[fT,seval,hr1]
 obtain⟨o2,ho2,hh⟩:=ah hh
 refine bt 0 (fun s t H e=>match s with|s15j1=>∃v2j1:Nat,∃v3j1:Nat,∃v4j1:Nat,t 2=.ptr 2 v2j1 0∧t 3=.ptr 3 v3j1 0∧t 4=.ptr 4 v4j1 0∧t 15=.bool s15j1∧H 2=some ⟨v2j1,41,[.int .i64 p0.aH.ag,.sl false false p0.aH.aa.length (ae (eI .i64) p0.aH.aa),.int .i64 p0.aK.ag,.sl false false p0.aK.aa.length (ae (eI .i64) p0.aK.aa)],false,false,false⟩∧H 3=some ⟨v3j1,41,[.int .i64 p1.aH.ag,.sl false false p1.aH.aa.length (ae (eI .i64) p1.aH.aa),.int .i64 p1.aK.ag,.sl false false p1.aK.aa.length (ae (eI .i64) p1.aK.aa)],false,false,false⟩∧H 4=some ⟨v4j1,41,[.int .i64 0,.sl true true 0 [],.int .i64 0,.sl true true 0 []],false,false,false⟩) (fun s=>s=o2) ?_ ?_
 ·rintro s15j1 t H e ⟨v2j1,v3j1,v4j1,Zj1⟩ rfl
  try dsimp only at hh
  try simp only[fT,seval,hr1,Zj1]
  refine sp aq hh (fun _ hh =>?_) (fun _ hh =>?_)
  ·cases hh
   try simp only[fT,seval,hr1,Zj1]
  ·obtain⟨r4,hr4,hh⟩:=ah hh
   obtain⟨r5,hr5,hh⟩:=ah hh
   obtain⟨r6,hr6,hh⟩:=ah hh
   try simp only[fT,seval,hr1,Zj1,hr4,hr5,hr6]
   refine bn (by kernel_rfl) ?_
   obtain⟨r7,hr7,hh⟩:=ah hh
   obtain⟨r8,hr8,hh⟩:=ah hh
   try simp only[fT,seval,hr1,Zj1,hr4,hr5,hr6,hr7,hr8]
   refine bn (by kernel_rfl) ?_
   cases hh
   try simp only[fT,seval,hr1,Zj1,hr4,hr5,hr6,hr7,hr8]
 ·clear hh
  have hh:=ho2
  try simp only[fT,seval,hr1]
  refine sp bd hh (fun _ hh =>?_) (fun _ hh =>?_)
  ·cases hh
   try simp only[fT,seval,hr1]
   rw[au]
   refine⟨_,rfl,?_⟩
   refine⟨0,0,0,?_,?_,?_,?_,?_,?_,?_⟩
   all_goals first|rfl|(simp only[fT,seval,hr1]<;>rfl)
  ·obtain⟨r10,hr10,hh⟩:=ah hh
   cases hh
   try simp only[fT,seval,hr1,hr10]
   rw[au]
   refine⟨_,rfl,?_⟩
   refine⟨0,0,0,?_,?_,?_,?_,?_,?_,?_⟩
   all_goals first|rfl|(simp only[fT,seval,hr1,hr10]<;>rfl)
theorem ui:b6 Try.prog 18 oF:=b6.of (mode := .clean) tok LQ mixed Try.func18 (by kernel_rfl) ⟨by kernel_rfl,by kernel_rfl⟩ (fun _=>afg (by kernel_rfl)) (fun x r h=>PS x.1 x.2 r h)
noncomputable def re:=fX (jh (cX az) (fU (cX az))) (fun x:ak×ak=>nf x.1 x.2) (fun r:ak×Int =>.clean (.tup [.agg [.int .i64 r.1.aH.ag,.sl false false r.1.aH.aa.length (ae (eI .i64) r.1.aH.aa),.int .i64 r.1.aK.ag,.sl false false r.1.aK.aa.length (ae (eI .i64) r.1.aK.aa)],.int .i64 r.2]))
theorem su (p0_0:Int) (p0_1:(List Int)) (p0_2:Int) (p0_3:(List Int)) (p1_0:Int) (p1_1:(List Int)) (p1_2:Int) (p1_3:(List Int)):re none [.agg [.int .i64 p0_0,.sl false false p0_1.length (ae (eI .i64) p0_1),.int .i64 p0_2,.sl false false p0_3.length (ae (eI .i64) p0_3)],.agg [.int .i64 p1_0,.sl false false p1_1.length (ae (eI .i64) p1_1),.int .i64 p1_2,.sl false false p1_3.length (ae (eI .i64) p1_3)]]=(nf (ak.mk (al.mk p0_0 p0_1) (al.mk p0_2 p0_3)) (ak.mk (al.mk p1_0 p1_1) (al.mk p1_2 p1_3))).map fun r:ak×Int=>(.clean (.tup [.agg [.int .i64 r.1.aH.ag,.sl false false r.1.aH.aa.length (ae (eI .i64) r.1.aH.aa),.int .i64 r.1.aK.ag,.sl false false r.1.aK.aa.length (ae (eI .i64) r.1.aK.aa)],.int .i64 r.2]),none):=aU _ _ _ ((ak.mk (al.mk p0_0 p0_1) (al.mk p0_2 p0_3)),(ak.mk (al.mk p1_0 p1_1) (al.mk p1_2 p1_3)))
noncomputable def rV:Env:=(Am.ext (Am.ext (Am.ext a6 18 false oF) 22 false eM) 64 false uI)
theorem LW:bA Try.prog rV:=(((bA.none.add ui false).add fD false).add DA false)
theorem gQ:type_of% (ai @w<|ai @mD<|ai @ct<|ai @vE<|@rV.eq_1):=⟨@w,@mD,@ct,@vE,@rV.eq_1⟩
theorem PX (p0:ak) (p1:ak) (r:ak×Int) (hh:nf p0 p1=some r):bc .clean tab rV FU Try.f30 none [.agg [.int .i64 p0.aH.ag,.sl false false p0.aH.aa.length (ae (eI .i64) p0.aH.aa),.int .i64 p0.aK.ag,.sl false false p0.aK.aa.length (ae (eI .i64) p0.aK.aa)],.agg [.int .i64 p1.aH.ag,.sl false false p1.aH.aa.length (ae (eI .i64) p1.aH.aa),.int .i64 p1.aK.ag,.sl false false p1.aK.aa.length (ae (eI .i64) p1.aK.aa)]]=some (.clean (.tup [.agg [.int .i64 r.1.aH.ag,.sl false false r.1.aH.aa.length (ae (eI .i64) r.1.aH.aa),.int .i64 r.1.aK.ag,.sl false false r.1.aK.aa.length (ae (eI .i64) r.1.aK.aa)],.int .i64 r.2]),none):=by
 refine aC rfl Try.ntmps30 Try.results30 ?_
 unfold nf at hh
 obtain⟨r1,hr1,hh⟩:=ah hh
 try simp only[gQ,seval,hr1]
 obtain⟨o2,ho2,hh⟩:=ah hh
 refine bt 0 (fun s t H e=>match s with|s13j1=>∃v2j1:Nat,∃v3j1:Nat,∃v4j1:Nat,t 2=.ptr 2 v2j1 0∧t 3=.ptr 3 v3j1 0∧t 4=.ptr 4 v4j1 0∧t 13=.bool s13j1∧H 2=some ⟨v2j1,41,[.int .i64 p0.aH.ag,.sl false false p0.aH.aa.length (ae (eI .i64) p0.aH.aa),.int .i64 p0.aK.ag,.sl false false p0.aK.aa.length (ae (eI .i64) p0.aK.aa)],false,false,false⟩∧H 3=some ⟨v3j1,41,[.int .i64 p1.aH.ag,.sl false false p1.aH.aa.length (ae (eI .i64) p1.aH.aa),.int .i64 p1.aK.ag,.sl false false p1.aK.aa.length (ae (eI .i64) p1.aK.aa)],false,false,false⟩∧H 4=some ⟨v4j1,41,[.int .i64 0,.sl true true 0 [],.int .i64 0,.sl true true 0 []],false,false,false⟩) (fun s=>s=o2) ?_ ?_
 ·rintro s13j1 t H e ⟨v2j1,v3j1,v4j1,Zj1⟩ rfl
  try dsimp only at hh
  try simp only[gQ,seval,hr1,Zj1]
  refine sp aq hh (fun _ hh =>?_) (fun _ hh =>?_)
  ·cases hh
   try simp only[gQ,seval,hr1,Zj1]
  ·obtain⟨r4,hr4,hh⟩:=ah hh
   obtain⟨r5,hr5,hh⟩:=ah hh
   try simp only[gQ,seval,hr1,Zj1,hr4,hr5]
   refine bn (by kernel_rfl) ?_
   cases hh
   try simp only[gQ,seval,hr1,Zj1,hr4,hr5]
 ·clear hh
  have hh:=ho2
  try simp only[gQ,seval,hr1]
  refine sp bd hh (fun _ hh =>?_) (fun _ hh =>?_)
  ·cases hh
   try simp only[gQ,seval,hr1]
   rw[au]
   refine⟨_,rfl,?_⟩
   refine⟨0,0,0,?_,?_,?_,?_,?_,?_,?_⟩
   all_goals first|rfl|(simp only[gQ,seval,hr1]<;>rfl)
  ·obtain⟨r7,hr7,hh⟩:=ah hh
   cases hh
   try simp only[gQ,seval,hr1,hr7]
   rw[au]
   refine⟨_,rfl,?_⟩
   refine⟨0,0,0,?_,?_,?_,?_,?_,?_,?_⟩
   all_goals first|rfl|(simp only[gQ,seval,hr1,hr7]<;>rfl)
theorem Ap:b6 Try.prog 30 re:=b6.of (mode := .clean) tok LW mixed Try.func30 (by kernel_rfl) ⟨by kernel_rfl,by kernel_rfl⟩ (fun _=>afg (by kernel_rfl)) (fun x r h=>PX x.1 x.2 r h)
noncomputable def pE:=fX (fU (cX nO)) (fun x:bY=>ll x) (fun r:(List ak) =>.clean (.sl false false r.length (ae az r)))
theorem p6 (p0_0:Int) (p0_1:(List dy)):pE none [.agg [.int .i64 p0_0,.sl false false p0_1.length (ae a8 p0_1)]]=(ll (bY.mk p0_0 p0_1)).map fun r:(List ak)=>(.clean (.sl false false r.length (ae az r)),none):=aU _ _ _ ((bY.mk p0_0 p0_1))
noncomputable def pR:Env:=(Am.ext (Am.ext a6 30 false re) 44 false kI)
theorem I4:bA Try.prog pR:=((bA.none.add Ap false).add nw false)
theorem cP:type_of% (ai @w<|ai @su<|ai @gN<|@pR.eq_1):=⟨@w,@su,@gN,@pR.eq_1⟩
theorem M3 (p0:bY) (r:(List ak)) (hh:ll p0=some r):bc .clean tab pR FU Try.f37 none [.agg [.int .i64 p0.aD,.sl false false p0.av.length (ae a8 p0.av)]]=some (.clean (.sl false false r.length (ae az r)),none):=by
 refine aC rfl Try.ntmps37 Try.results37 ?_
 unfold ll at hh
 obtain⟨x1,hx1,hh⟩:=ah hh
 obtain⟨q2a,q2b,q2c,q2d,q2e⟩:=mk_one az hx1
 simp only[bI]at q2d
 try simp only[cP,seval,q2a,q2b,q2c,q2d,q2e]
 obtain⟨o7,ho7,hh⟩:=ah hh
 refine aB (fun s t H e=>match s with|(s12a,l3a)=>∃v1a:Nat,∃v3a:Nat,t 1=.ptr 1 v1a 0∧t 3=.buf 3 v3a 4 0 (l3a).length∧t 11=.int .i64 ((x1).length:Int)∧t 12=.int .i64 s12a∧H 1=some ⟨v1a,24,[.int .i64 p0.aD,.sl false false p0.av.length (ae a8 p0.av)],false,false,false⟩∧H 3=some ⟨v3a,41,ae az l3a,false,true,false⟩) (fun o x t H e=>match o with|l3ax=>x=.exit 0∧∃v1ax:Nat,∃v3ax:Nat,t 1=.ptr 1 v1ax 0∧t 3=.buf 3 v3ax 4 0 (l3ax).length∧H 1=some ⟨v1ax,24,[.int .i64 p0.aD,.sl false false p0.av.length (ae a8 p0.av)],false,false,false⟩∧H 3=some ⟨v3ax,41,ae az l3ax,false,true,false⟩) ho7 ?_ ?_ ?_
 ·refine⟨0,1,?_,?_,?_,?_,?_,?_⟩
  all_goals first|rfl|(simp only[cP,seval,q2a,q2b,q2c,q2d,q2e]<;>rfl)
 ·rintro⟨s12a,l3a⟩ t H e ⟨v1a,v3a,Za⟩ c hh
  simp only[lT]at hh
  try simp only[cP,seval,q2a,q2b,q2c,q2d,q2e,Za]
  refine sp aq hh (fun _ hh =>?_) (fun _ hh =>?_)
  ·obtain⟨r9,hr9,hh⟩:=ah hh
   obtain⟨x10,hx10,hh⟩:=ah hh
   have ax10:=bQ az hx10
   simp only[bI]at ax10
   have p11:=eO az (x':=r9) (fo:=0) (cs:=[.int .i64 r9.aH.ag,.sl false false r9.aH.aa.length (ae (eI .i64) r9.aH.aa),.int .i64 r9.aK.ag,.sl false false r9.aK.aa.length (ae (eI .i64) r9.aK.aa)]) hx10 rfl (afg rfl)
   simp only[bI,Nat.add_zero]at p11
   have up11:=p11
   simp only[putCells,List.length_cons,List.length_nil,aen,Nat.reduceAdd]at up11
   cases hh
   try simp only[cP,seval,q2a,q2b,q2c,q2d,q2e,Za,hr9,ax10,p11,up11]
   refine j6 ?_
   refine⟨v1a,v3a,?_,?_,?_,?_,?_,?_⟩
   all_goals first|rfl|(simp only[cP,seval,q2a,q2b,q2c,q2d,q2e,Za,hr9,ax10,p11,up11]<;>rfl)
  ·cases hh
   try simp only[cP,seval,q2a,q2b,q2c,q2d,q2e,Za]
   refine lj ?_
   refine⟨rfl,⟨v1a,v3a,?_,?_,?_,?_⟩⟩
   all_goals first|rfl|(simp only[cP,seval,q2a,q2b,q2c,q2d,q2e,Za]<;>rfl)
 ·rintro x t H e hx
  obtain⟨l3ax,rfl⟩:∃z,z=o7:=⟨_,rfl⟩
  dsimp only at hx hh
  obtain⟨rfl,⟨v1ax,v3ax,Zax⟩⟩:=hx
  try simp only[cP,seval,q2a,q2b,q2c,q2d,q2e,Zax]
  obtain⟨o17,ho17,hh⟩:=ah hh
  refine aB (fun s t H e=>match s with|(s23b,l3b)=>∃v3b:Nat,t 3=.buf 3 v3b 4 0 (l3b).length∧t 21=.sl false false p0.av.length (ae a8 p0.av)∧t 22=.int .i64 (p0.av.length:Int)∧t 23=.int .i64 s23b∧H 3=some ⟨v3b,41,ae az l3b,false,true,false⟩) (fun o x t H e=>match o with|l3bx=>x=.exit 2∧∃v3bx:Nat,t 3=.buf 3 v3bx 4 0 (l3bx).length∧H 3=some ⟨v3bx,41,ae az l3bx,false,true,false⟩) ho17 ?_ ?_ ?_
  ·refine⟨v3ax,?_,?_,?_,?_,?_⟩
   all_goals first|rfl|(simp only[cP,seval,q2a,q2b,q2c,q2d,q2e,Zax]<;>rfl)
  ·rintro⟨s23b,l3b⟩ t H e ⟨v3b,Zb⟩ c hh
   simp only[lU]at hh
   try simp only[cP,seval,q2a,q2b,q2c,q2d,q2e,Zb]
   refine sp aq hh (fun _ hh =>?_) (fun _ hh =>?_)
   ·obtain⟨x19,hx19,hh⟩:=ah hh
    have ax19:=bQ a8 hx19
    simp only[bI]at ax19
    obtain⟨x20,hx20,hh⟩:=ah hh
    have ax20:=bQ az hx20
    simp only[bI]at ax20
    obtain⟨r21,hr21,hh⟩:=ah hh
    have ax20:=bQ az hx20
    simp only[bI]at ax20
    have p22:=eO az (x':=r21.1) (fo:=0) (cs:=[.int .i64 r21.1.aH.ag,.sl false false r21.1.aH.aa.length (ae (eI .i64) r21.1.aH.aa),.int .i64 r21.1.aK.ag,.sl false false r21.1.aK.aa.length (ae (eI .i64) r21.1.aK.aa)]) hx20 rfl (afg rfl)
    simp only[bI,Nat.add_zero]at p22
    have up22:=p22
    simp only[putCells,List.length_cons,List.length_nil,aen,Nat.reduceAdd]at up22
    try simp only[cP,seval,q2a,q2b,q2c,q2d,q2e,Zb,ax19,ax20,hr21,ax20,p22,up22]
    refine bn (by kernel_rfl) ?_
    cases hh
    try simp only[cP,seval,q2a,q2b,q2c,q2d,q2e,Zb,ax19,ax20,hr21,ax20,p22,up22]
    refine j6 ?_
    refine⟨v3b,?_,?_,?_,?_,?_⟩
    all_goals first|rfl|(simp only[cP,seval,q2a,q2b,q2c,q2d,q2e,Zb,ax19,ax20,hr21,ax20,p22,up22]<;>rfl)
   ·cases hh
    try simp only[cP,seval,q2a,q2b,q2c,q2d,q2e,Zb]
    refine lj ?_
    refine⟨rfl,⟨v3b,?_,?_⟩⟩
    all_goals first|rfl|(simp only[cP,seval,q2a,q2b,q2c,q2d,q2e,Zb]<;>rfl)
  ·rintro x t H e hx
   obtain⟨l3bx,rfl⟩:∃z,z=o17:=⟨_,rfl⟩
   dsimp only at hx hh
   obtain⟨rfl,⟨v3bx,Zbx⟩⟩:=hx
   cases hh
   try simp only[cP,seval,q2a,q2b,q2c,q2d,q2e,Zbx]
theorem yn:b6 Try.prog 37 pE:=b6.of (mode := .clean) tok I4 mixed Try.func37 (by kernel_rfl) ⟨by kernel_rfl,by kernel_rfl⟩ (fun _=>afg (by kernel_rfl)) (fun x r h=>M3 x r h)
noncomputable def qq:=fX (fU (cX az)) (fun x:ak=>lk x) (fun r:Bool =>.clean (.bool r))
theorem wC (p0_0:Int) (p0_1:(List Int)) (p0_2:Int) (p0_3:(List Int)):qq none [.agg [.int .i64 p0_0,.sl false false p0_1.length (ae (eI .i64) p0_1),.int .i64 p0_2,.sl false false p0_3.length (ae (eI .i64) p0_3)]]=(lk (ak.mk (al.mk p0_0 p0_1) (al.mk p0_2 p0_3))).map fun r:Bool=>(.clean (.bool r),none):=aU _ _ _ ((ak.mk (al.mk p0_0 p0_1) (al.mk p0_2 p0_3)))
noncomputable def mR:Env:=(Am.ext a6 20 false kW)
theorem CR:bA Try.prog mR:=(bA.none.add oa false)
theorem Fl:type_of% (ai @w<|ai @iw<|@mR.eq_1):=⟨@w,@iw,@mR.eq_1⟩
theorem E2 (p0:ak) (r:Bool) (hh:lk p0=some r):bc .clean tab mR FU Try.f38 none [.agg [.int .i64 p0.aH.ag,.sl false false p0.aH.aa.length (ae (eI .i64) p0.aH.aa),.int .i64 p0.aK.ag,.sl false false p0.aK.aa.length (ae (eI .i64) p0.aK.aa)]]=some (.clean (.bool r),none):=by
 refine aC rfl Try.ntmps38 Try.results38 ?_
 unfold lk at hh
 obtain⟨r1,hr1,hh⟩:=ah hh
 cases hh
 try simp only[Fl,seval,hr1]
theorem DF:b6 Try.prog 38 qq:=b6.of (mode := .clean) tok CR mixed Try.func38 (by kernel_rfl) ⟨by kernel_rfl,by kernel_rfl⟩ (fun _=>afg (by kernel_rfl)) (fun x r h=>E2 x r h)
noncomputable def eH:=fX (jh (mL az) (fU (aFn 38))) (fun x:(List ak)×Unit=>cf x.1) (fun r:Int =>.clean (.int .i64 r))
theorem ic (p0:(List ak)):eH none [.sl false false p0.length (ae az p0),.fn 38]=(cf p0).map fun r:Int=>(.clean (.int .i64 r),none):=aU _ _ _ (p0,())
noncomputable def dn:Env:=(Am.ext a6 38 false qq)
theorem mc:bA Try.prog dn:=(bA.none.add DF false)
theorem a7:type_of% (ai @w<|ai @wC<|@dn.eq_1):=⟨@w,@wC,@dn.eq_1⟩
theorem mz (p0:(List ak)) (r:Int) (hh:cf p0=some r):bc .clean tab dn FU Try.f67 none [.sl false false p0.length (ae az p0),.fn 38]=some (.clean (.int .i64 r),none):=by
 refine aC rfl Try.ntmps67 Try.results67 ?_
 unfold cf at hh
 try simp only[a7,seval]
 obtain⟨o5,ho5,hh⟩:=ah hh
 refine aB (fun s t H e=>match s with|s8a=>t 0=.sl false false p0.length (ae az p0)∧t 1=.fn 38∧t 7=.int .i64 (p0.length:Int)∧t 8=.int .i64 s8a) (fun o x t H e=>match o with|(.inl _)=>x=.exit 0|(.inr r)=>x=.ret∧jo .clean tab none [.tmp 4] ⟨t,EH H,e⟩=some (.clean (.int .i64 r),none)) ho5 ?_ ?_ ?_
 ·refine⟨?_,?_,?_,?_⟩
  all_goals first|rfl|(simp only[a7,seval]<;>rfl)
 ·rintro s8a t H e Za c hh
  simp only[db]at hh
  try simp only[a7,seval,Za]
  refine sp aq hh (fun _ hh =>?_) (fun _ hh =>?_)
  ·obtain⟨x7,hx7,hh⟩:=ah hh
   have ax7:=bQ az hx7
   simp only[bI]at ax7
   obtain⟨r8,hr8,hh⟩:=ah hh
   try simp only[a7,seval,Za,ax7,hr8]
   refine sp aq hh (fun _ hh =>?_) (fun _ hh =>?_)
   ·cases hh
    try simp only[a7,seval,Za,ax7,hr8]
    refine G2 ⟨rfl,?_⟩
    try simp only[a7,seval,Za,ax7,hr8]
   ·cases hh
    try simp only[a7,seval,Za,ax7,hr8]
    refine j6 ?_
    refine⟨?_,?_,?_,?_⟩
    all_goals first|rfl|(simp only[a7,seval,Za,ax7,hr8]<;>rfl)
  ·cases hh
   try simp only[a7,seval,Za]
   refine lj ?_
   exact rfl
 ·rintro x t H e hx
  rcases o5 with _|ra
  ·dsimp only at hx hh
   subst hx
   cases hh
   try simp only[a7,seval]
  ·dsimp only at hx hh
   obtain⟨rfl,hE⟩:=hx
   cases hh
   try simp only[bJ,bq,bW,ep,eo,dk,dm]
   exact hE
theorem me:b6 Try.prog 67 eH:=b6.of (mode := .clean) tok mc mixed Try.func67 (by kernel_rfl) ⟨by kernel_rfl,by kernel_rfl⟩ (fun _=>afg (by kernel_rfl)) (fun x r h=>mz x.1 r h)
noncomputable def dZ:=fX (jh (mL az) (fU (aFn 38))) (fun x:(List ak)×Unit=>bz x.1) (fun r:Bool =>.clean (.bool r))
theorem gf (p0:(List ak)):dZ none [.sl false false p0.length (ae az p0),.fn 38]=(bz p0).map fun r:Bool=>(.clean (.bool r),none):=aU _ _ _ (p0,())
noncomputable def cL:Env:=(Am.ext a6 67 false eH)
theorem kN:bA Try.prog cL:=(bA.none.add me false)
theorem lB:type_of% (ai @w<|ai @ic<|@cL.eq_1):=⟨@w,@ic,@cL.eq_1⟩
theorem lA (p0:(List ak)) (r:Bool) (hh:bz p0=some r):bc .clean tab cL FU Try.f36 none [.sl false false p0.length (ae az p0),.fn 38]=some (.clean (.bool r),none):=by
 refine aC rfl Try.ntmps36 Try.results36 ?_
 unfold bz at hh
 obtain⟨r1,hr1,hh⟩:=ah hh
 cases hh
 try simp only[lB,seval,hr1]
theorem kR:b6 Try.prog 36 dZ:=b6.of (mode := .clean) tok kN mixed Try.func36 (by kernel_rfl) ⟨by kernel_rfl,by kernel_rfl⟩ (fun _=>afg (by kernel_rfl)) (fun x r h=>lA x.1 r h)
noncomputable def kX:=fX (fU (cX nO)) (fun x:bY=>iV x) (fun r:Bool =>.clean (.bool r))
theorem iy (p0_0:Int) (p0_1:(List dy)):kX none [.agg [.int .i64 p0_0,.sl false false p0_1.length (ae a8 p0_1)]]=(iV (bY.mk p0_0 p0_1)).map fun r:Bool=>(.clean (.bool r),none):=aU _ _ _ ((bY.mk p0_0 p0_1))
noncomputable def pQ:Env:=(Am.ext (Am.ext (Am.ext (Am.ext (Am.ext (Am.ext a6 20 false kW) 22 false eM) 34 false ri) 35 false rh) 36 false dZ) 37 false pE)
theorem I3:bA Try.prog pQ:=((((((bA.none.add oa false).add fD false).add Fb false).add Fa false).add kR false).add yn false)
theorem aM:type_of% (ai @w<|ai @iw<|ai @ct<|ai @yt<|ai @yr<|ai @gf<|ai @p6<|@pQ.eq_1):=⟨@w,@iw,@ct,@yt,@yr,@gf,@p6,@pQ.eq_1⟩
theorem M0 (p0:bY) (r:Bool) (hh:iV p0=some r):bc .clean tab pQ FU Try.f11 none [.agg [.int .i64 p0.aD,.sl false false p0.av.length (ae a8 p0.av)]]=some (.clean (.bool r),none):=by
 refine aC rfl Try.ntmps11 Try.results11 ?_
 unfold iV at hh
 obtain⟨r1,hr1,hh⟩:=ah hh
 try simp only[aM,seval,hr1]
 obtain⟨o2,ho2,hh⟩:=ah hh
 refine bt 0 (fun s t H e=>match s with|s14j1=>∃v1j1:Nat,t 1=.ptr 1 v1j1 0∧t 14=.bool s14j1∧H 1=some ⟨v1j1,24,[.int .i64 p0.aD,.sl false false p0.av.length (ae a8 p0.av)],false,false,false⟩) (fun s=>s=o2) ?_ ?_
 ·rintro s14j1 t H e ⟨v1j1,Zj1⟩ rfl
  try dsimp only at hh
  try simp only[aM,seval,hr1,Zj1]
  refine sp aq hh (fun _ hh =>?_) (fun _ hh =>?_)
  ·cases hh
   try simp only[aM,seval,hr1,Zj1]
  ·try simp only[aM,seval,hr1,Zj1]
   obtain⟨o19,ho19,hh⟩:=ah hh
   refine aB (fun s t H e=>match s with|s18b=>∃v1b:Nat,t 1=.ptr 1 v1b 0∧t 16=.sl false false p0.av.length (ae a8 p0.av)∧t 17=.int .i64 (p0.av.length:Int)∧t 18=.int .i64 s18b∧H 1=some ⟨v1b,24,[.int .i64 p0.aD,.sl false false p0.av.length (ae a8 p0.av)],false,false,false⟩) (fun o x t H e=>match o with|(.inl _)=>x=.exit 0∧∃v1bx:Nat,t 1=.ptr 1 v1bx 0∧H 1=some ⟨v1bx,24,[.int .i64 p0.aD,.sl false false p0.av.length (ae a8 p0.av)],false,false,false⟩|(.inr r)=>x=.ret∧jo .clean tab none [.tmp 2] ⟨t,EH H,e⟩=some (.clean (.bool r),none)) ho19 ?_ ?_ ?_
   ·refine⟨v1j1,?_,?_,?_,?_,?_⟩
    all_goals first|rfl|(simp only[aM,seval,hr1,Zj1]<;>rfl)
   ·rintro s18b t H e ⟨v1b,Zb⟩ c hh
    simp only[lS]at hh
    try simp only[aM,seval,hr1,Zb]
    refine sp aq hh (fun _ hh =>?_) (fun _ hh =>?_)
    ·obtain⟨x21,hx21,hh⟩:=ah hh
     have ax21:=bQ a8 hx21
     simp only[bI]at ax21
     obtain⟨r22,hr22,hh⟩:=ah hh
     try simp only[aM,seval,hr1,Zb,ax21,hr22]
     obtain⟨o23,ho23,hh⟩:=ah hh
     refine bt 0 (fun s t H e=>match s with|s50j4=>∃v1j4:Nat,∃v4j4:Nat,t 1=.ptr 1 v1j4 0∧t 3=.int .i64 s18b∧t 4=.ptr 4 v4j4 0∧t 16=.sl false false p0.av.length (ae a8 p0.av)∧t 17=.int .i64 (p0.av.length:Int)∧t 18=.int .i64 s18b∧t 50=.bool s50j4∧H 1=some ⟨v1j4,24,[.int .i64 p0.aD,.sl false false p0.av.length (ae a8 p0.av)],false,false,false⟩∧H 4=some ⟨v4j4,46,[.int .i64 x21.cR,.int .i64 x21.kM,.int .i64 x21.ba.aH.ag,.sl false false x21.ba.aH.aa.length (ae (eI .i64) x21.ba.aH.aa),.int .i64 x21.ba.aK.ag,.sl false false x21.ba.aK.aa.length (ae (eI .i64) x21.ba.aK.aa)],false,false,false⟩) (fun s=>s=o23) ?_ ?_
     ·rintro s50j4 t H e ⟨v1j4,v4j4,Zj4⟩ rfl
      try dsimp only at hh
      try simp only[aM,seval,hr1,ax21,hr22,Zj4]
      refine sp aq hh (fun _ hh =>?_) (fun _ hh =>?_)
      ·cases hh
       try simp only[aM,seval,hr1,ax21,hr22,Zj4]
       refine G2 ⟨rfl,?_⟩
       try simp only[aM,seval,hr1,ax21,hr22,Zj4]
      ·try simp only[aM,seval,hr1,ax21,hr22,Zj4]
       refine sp sO hh (fun _ hh =>?_) (fun _ hh =>?_)
       ·obtain⟨x26,hx26,hh⟩:=ah hh
        have ax26:=bQ a8 hx26
        simp only[bI]at ax26
        obtain⟨r27,hr27,hh⟩:=ah hh
        try simp only[aM,seval,hr1,ax21,hr22,Zj4,ax26,hr27]
        refine bn (by kernel_rfl) ?_
        try simp only[aM,seval,hr1,ax21,hr22,Zj4,ax26,hr27]
        refine sp aq hh (fun _ hh =>?_) (fun _ hh =>?_)
        ·cases hh
         try simp only[aM,seval,hr1,ax21,hr22,Zj4,ax26,hr27]
         refine G2 ⟨rfl,?_⟩
         try simp only[aM,seval,hr1,ax21,hr22,Zj4,ax26,hr27]
        ·cases hh
         try simp only[aM,seval,hr1,ax21,hr22,Zj4,ax26,hr27]
         refine j6 ?_
         refine⟨v1j4,?_,?_,?_,?_,?_⟩
         all_goals first|rfl|(simp only[aM,seval,hr1,ax21,hr22,Zj4,ax26,hr27]<;>rfl)
       ·try simp only[aM,seval,hr1,ax21,hr22,Zj4]
        refine bn (by kernel_rfl) ?_
        cases hh
        try simp only[aM,seval,hr1,ax21,hr22,Zj4]
        refine j6 ?_
        refine⟨v1j4,?_,?_,?_,?_,?_⟩
        all_goals first|rfl|(simp only[aM,seval,hr1,ax21,hr22,Zj4]<;>rfl)
     ·clear hh
      have hh:=ho23
      try simp only[aM,seval,hr1,Zb,ax21,hr22]
      refine sp bd hh (fun _ hh =>?_) (fun _ hh =>?_)
      ·cases hh
       try simp only[aM,seval,hr1,Zb,ax21,hr22]
       rw[au]
       refine⟨_,rfl,?_⟩
       refine⟨v1b,e+1,?_,?_,?_,?_,?_,?_,?_,?_,?_⟩
       all_goals first|rfl|(simp only[aM,seval,hr1,Zb,ax21,hr22]<;>rfl)
      ·obtain⟨r30,hr30,hh⟩:=ah hh
       try simp only[aM,seval,hr1,Zb,ax21,hr22,hr30]
       refine sp bd hh (fun _ hh =>?_) (fun _ hh =>?_)
       ·cases hh
        try simp only[aM,seval,hr1,Zb,ax21,hr22,hr30]
        rw[au]
        refine⟨_,rfl,?_⟩
        refine⟨v1b,e+1,?_,?_,?_,?_,?_,?_,?_,?_,?_⟩
        all_goals first|rfl|(simp only[aM,seval,hr1,Zb,ax21,hr22,hr30]<;>rfl)
       ·obtain⟨r32,hr32,hh⟩:=ah hh
        try simp only[aM,seval,hr1,Zb,ax21,hr22,hr30,hr32]
        refine sp bd hh (fun _ hh =>?_) (fun _ hh =>?_)
        ·cases hh
         try simp only[aM,seval,hr1,Zb,ax21,hr22,hr30,hr32]
         rw[au]
         refine⟨_,rfl,?_⟩
         refine⟨v1b,e+1,?_,?_,?_,?_,?_,?_,?_,?_,?_⟩
         all_goals first|rfl|(simp only[aM,seval,hr1,Zb,ax21,hr22,hr30,hr32]<;>rfl)
        ·obtain⟨r34,hr34,hh⟩:=ah hh
         cases hh
         try simp only[aM,seval,hr1,Zb,ax21,hr22,hr30,hr32,hr34]
         rw[au]
         refine⟨_,rfl,?_⟩
         refine⟨v1b,e+1,?_,?_,?_,?_,?_,?_,?_,?_,?_⟩
         all_goals first|rfl|(simp only[aM,seval,hr1,Zb,ax21,hr22,hr30,hr32,hr34]<;>rfl)
    ·cases hh
     try simp only[aM,seval,hr1,Zb]
     refine lj ?_
     refine⟨rfl,⟨v1b,?_,?_⟩⟩
     all_goals first|rfl|(simp only[aM,seval,hr1,Zb]<;>rfl)
   ·rintro x t H e hx
    rcases o19 with _|rb
    ·dsimp only at hx hh
     obtain⟨rfl,⟨v1bx,Zbx⟩⟩:=hx
     obtain⟨r35,hr35,hh⟩:=ah hh
     obtain⟨r36,hr36,hh⟩:=ah hh
     cases hh
     try simp only[aM,seval,hr1,Zbx,hr35,hr36]
    ·dsimp only at hx hh
     obtain⟨rfl,hE⟩:=hx
     cases hh
     try simp only[bJ,bq,bW,ep,eo,dk,dm]
     exact hE
 ·clear hh
  have hh:=ho2
  try simp only[aM,seval,hr1]
  refine sp bd hh (fun _ hh =>?_) (fun _ hh =>?_)
  ·cases hh
   try simp only[aM,seval,hr1]
   rw[au]
   refine⟨_,rfl,?_⟩
   refine⟨0,?_,?_,?_⟩
   all_goals first|rfl|(simp only[aM,seval,hr1]<;>rfl)
  ·cases hh
   try simp only[aM,seval,hr1]
   rw[au]
   refine⟨_,rfl,?_⟩
   refine⟨0,?_,?_,?_⟩
   all_goals first|rfl|(simp only[aM,seval,hr1]<;>rfl)
theorem oc:b6 Try.prog 11 kX:=b6.of (mode := .clean) tok I3 mixed Try.func11 (by kernel_rfl) ⟨by kernel_rfl,by kernel_rfl⟩ (fun _=>afg (by kernel_rfl)) (fun x r h=>M0 x r h)
noncomputable def lC:=fX (fU (cX az)) (fun x:ak=>gp x) (fun r:Bool =>.clean (.bool r))
theorem p9 (p0_0:Int) (p0_1:(List Int)) (p0_2:Int) (p0_3:(List Int)):lC none [.agg [.int .i64 p0_0,.sl false false p0_1.length (ae (eI .i64) p0_1),.int .i64 p0_2,.sl false false p0_3.length (ae (eI .i64) p0_3)]]=(gp (ak.mk (al.mk p0_0 p0_1) (al.mk p0_2 p0_3))).map fun r:Bool=>(.clean (.bool r),none):=aU _ _ _ ((ak.mk (al.mk p0_0 p0_1) (al.mk p0_2 p0_3)))
noncomputable def jj:Env:=(Am.ext a6 22 false eM)
theorem w9:bA Try.prog jj:=(bA.none.add fD false)
theorem yJ:type_of% (ai @w<|ai @ct<|@jj.eq_1):=⟨@w,@ct,@jj.eq_1⟩
theorem yg (p0:ak) (r:Bool) (hh:gp p0=some r):bc .clean tab jj FU Try.f68 none [.agg [.int .i64 p0.aH.ag,.sl false false p0.aH.aa.length (ae (eI .i64) p0.aH.aa),.int .i64 p0.aK.ag,.sl false false p0.aK.aa.length (ae (eI .i64) p0.aK.aa)]]=some (.clean (.bool r),none):=by
 refine aC rfl Try.ntmps68 Try.results68 ?_
 unfold gp at hh
 obtain⟨r1,hr1,hh⟩:=ah hh
 cases hh
 try simp only[yJ,seval,hr1]
theorem xe:b6 Try.prog 68 lC:=b6.of (mode := .clean) tok w9 mixed Try.func68 (by kernel_rfl) ⟨by kernel_rfl,by kernel_rfl⟩ (fun _=>afg (by kernel_rfl)) (fun x r h=>yg x r h)
noncomputable def dM:=fX (jh (mL az) (fU (aFn 68))) (fun x:(List ak)×Unit=>bS x.1) (fun r:Int =>.clean (.int .i64 r))
theorem fN (p0:(List ak)):dM none [.sl false false p0.length (ae az p0),.fn 68]=(bS p0).map fun r:Int=>(.clean (.int .i64 r),none):=aU _ _ _ (p0,())
noncomputable def cG:Env:=(Am.ext a6 68 false lC)
theorem kh:bA Try.prog cG:=(bA.none.add xe false)
theorem aP:type_of% (ai @w<|ai @p9<|@cG.eq_1):=⟨@w,@p9,@cG.eq_1⟩
theorem kO (p0:(List ak)) (r:Int) (hh:bS p0=some r):bc .clean tab cG FU Try.f67 none [.sl false false p0.length (ae az p0),.fn 68]=some (.clean (.int .i64 r),none):=by
 refine aC rfl Try.ntmps67 Try.results67 ?_
 unfold bS at hh
 try simp only[aP,seval]
 obtain⟨o5,ho5,hh⟩:=ah hh
 refine aB (fun s t H e=>match s with|s8a=>t 0=.sl false false p0.length (ae az p0)∧t 1=.fn 68∧t 7=.int .i64 (p0.length:Int)∧t 8=.int .i64 s8a) (fun o x t H e=>match o with|(.inl _)=>x=.exit 0|(.inr r)=>x=.ret∧jo .clean tab none [.tmp 4] ⟨t,EH H,e⟩=some (.clean (.int .i64 r),none)) ho5 ?_ ?_ ?_
 ·refine⟨?_,?_,?_,?_⟩
  all_goals first|rfl|(simp only[aP,seval]<;>rfl)
 ·rintro s8a t H e Za c hh
  simp only[cA]at hh
  try simp only[aP,seval,Za]
  refine sp aq hh (fun _ hh =>?_) (fun _ hh =>?_)
  ·obtain⟨x7,hx7,hh⟩:=ah hh
   have ax7:=bQ az hx7
   simp only[bI]at ax7
   obtain⟨r8,hr8,hh⟩:=ah hh
   try simp only[aP,seval,Za,ax7,hr8]
   refine sp aq hh (fun _ hh =>?_) (fun _ hh =>?_)
   ·cases hh
    try simp only[aP,seval,Za,ax7,hr8]
    refine G2 ⟨rfl,?_⟩
    try simp only[aP,seval,Za,ax7,hr8]
   ·cases hh
    try simp only[aP,seval,Za,ax7,hr8]
    refine j6 ?_
    refine⟨?_,?_,?_,?_⟩
    all_goals first|rfl|(simp only[aP,seval,Za,ax7,hr8]<;>rfl)
  ·cases hh
   try simp only[aP,seval,Za]
   refine lj ?_
   exact rfl
 ·rintro x t H e hx
  rcases o5 with _|ra
  ·dsimp only at hx hh
   subst hx
   cases hh
   try simp only[aP,seval]
  ·dsimp only at hx hh
   obtain⟨rfl,hE⟩:=hx
   cases hh
   try simp only[bJ,bq,bW,ep,eo,dk,dm]
   exact hE
theorem kn:b6 Try.prog 67 dM:=b6.of (mode := .clean) tok kh mixed Try.func67 (by kernel_rfl) ⟨by kernel_rfl,by kernel_rfl⟩ (fun _=>afg (by kernel_rfl)) (fun x r h=>kO x.1 r h)
noncomputable def dh:=fX (jh (mL az) (fU (aFn 68))) (fun x:(List ak)×Unit=>bC x.1) (fun r:Bool =>.clean (.bool r))
theorem e9 (p0:(List ak)):dh none [.sl false false p0.length (ae az p0),.fn 68]=(bC p0).map fun r:Bool=>(.clean (.bool r),none):=aU _ _ _ (p0,())
noncomputable def cn:Env:=(Am.ext a6 67 false dM)
theorem ju:bA Try.prog cn:=(bA.none.add kn false)
theorem j3:type_of% (ai @w<|ai @fN<|@cn.eq_1):=⟨@w,@fN,@cn.eq_1⟩
theorem jS (p0:(List ak)) (r:Bool) (hh:bC p0=some r):bc .clean tab cn FU Try.f36 none [.sl false false p0.length (ae az p0),.fn 68]=some (.clean (.bool r),none):=by
 refine aC rfl Try.ntmps36 Try.results36 ?_
 unfold bC at hh
 obtain⟨r1,hr1,hh⟩:=ah hh
 cases hh
 try simp only[j3,seval,hr1]
theorem jz:b6 Try.prog 36 dh:=b6.of (mode := .clean) tok ju mixed Try.func36 (by kernel_rfl) ⟨by kernel_rfl,by kernel_rfl⟩ (fun _=>afg (by kernel_rfl)) (fun x r h=>jS x.1 r h)
noncomputable def ku:=fX (jh (mL az) (fU (aI .i64))) (fun x:(List ak)×Int=>eQ x.1 x.2) (fun r:Bool =>.clean (.bool r))
theorem kF (p0:(List ak)) (p1:Int):ku none [.sl false false p0.length (ae az p0),.int .i64 p1]=(eQ p0 p1).map fun r:Bool=>(.clean (.bool r),none):=aU _ _ _ (p0,p1)
noncomputable def kC:Env:=(Am.ext a6 36 false dh)
theorem zc:bA Try.prog kC:=(bA.none.add jz false)
theorem nM:type_of% (ai @w<|ai @e9<|@kC.eq_1):=⟨@w,@e9,@kC.eq_1⟩
theorem A2 (p0:(List ak)) (p1:Int) (r:Bool) (hh:eQ p0 p1=some r):bc .clean tab kC FU Try.f39 none [.sl false false p0.length (ae az p0),.int .i64 p1]=some (.clean (.bool r),none):=by
 refine aC rfl Try.ntmps39 Try.results39 ?_
 unfold eQ at hh
 try simp only[nM,seval]
 refine sp dp hh (fun _ hh =>?_) (fun _ hh =>?_)
 ·obtain⟨r2,hr2,hh⟩:=ah hh
  cases hh
  try simp only[nM,seval,hr2]
 ·cases hh
  try simp only[nM,seval]
theorem qN:b6 Try.prog 39 ku:=b6.of (mode := .clean) tok zc mixed Try.func39 (by kernel_rfl) ⟨by kernel_rfl,by kernel_rfl⟩ (fun _=>afg (by kernel_rfl)) (fun x r h=>A2 x.1 x.2 r h)
noncomputable def tC:=fX (fU (cX nO)) (fun x:bY=>jT x) (fun r:(List Int) =>.clean (.sl false false r.length (ae (eI .i64) r)))
theorem AA (p0_0:Int) (p0_1:(List dy)):tC none [.agg [.int .i64 p0_0,.sl false false p0_1.length (ae a8 p0_1)]]=(jT (bY.mk p0_0 p0_1)).map fun r:(List Int)=>(.clean (.sl false false r.length (ae (eI .i64) r)),none):=aU _ _ _ ((bY.mk p0_0 p0_1))
noncomputable def pP:Env:=(Am.ym 18 (3,1,0) (Am.ext (Am.ext (Am.ext a6 11 false kX) 20 false kW) 37 false pE))
theorem I2:bA Try.prog pP:=(bA.ym (((bA.none.add oc false).add oa false).add yn false) 18 (3,1,0))
theorem aQ:type_of% (ai @w<|ai @iy<|ai @iw<|ai @p6<|@pP.eq_1):=⟨@w,@iy,@iw,@p6,@pP.eq_1⟩
theorem MZ (p0:bY) (r:(List Int)) (hh:jT p0=some r):bc .clean tab pP FU Try.f45 none [.agg [.int .i64 p0.aD,.sl false false p0.av.length (ae a8 p0.av)]]=some (.clean (.sl false false r.length (ae (eI .i64) r)),none):=by
 refine aC rfl Try.ntmps45 Try.results45 ?_
 unfold jT at hh
 obtain⟨r1,hr1,hh⟩:=ah hh
 try simp only[aQ,seval,-Int.reduceToNat,hr1]
 refine sp aq hh (fun _ hh =>?_) (fun _ hh =>?_)
 ·cases hh
  try simp only[aQ,seval,-Int.reduceToNat,hr1]
 ·obtain⟨x3,hx3,hh⟩:=ah hh
  have q4n:=SB (E:=(Cs (eI .i64))) (ty':=3) (s:=1) (f:=0) (k := .i64) JP (by rfl) rfl rfl rfl rfl rfl hx3
  obtain⟨q4a,q4b,q4c,q4d,q4e⟩:=mk_one (Cs (eI .i64)) hx3
  try simp only[aQ,seval,-Int.reduceToNat,hr1,q4n,q4a]
  obtain⟨o11,ho11,hh⟩:=ah hh
  refine aB (fun s t H e=>match s with|(s22a,l18a)=>∃v1a:Nat,∃v18a:Nat,∃vn18a:Nat,t 1=.ptr 1 v1a 0∧t 3=.buf 18 v18a 1 0 (l18a).length∧t 20=.sl false false p0.av.length (ae a8 p0.av)∧t 21=.int .i64 (p0.av.length:Int)∧t 22=.int .i64 s22a∧H 1=some ⟨v1a,24,[.int .i64 p0.aD,.sl false false p0.av.length (ae a8 p0.av)],false,false,false⟩∧H 18=some ⟨v18a,33,[.nr 3 1 vn18a (ae (Cs (eI .i64)) l18a)],false,true,true⟩∧vn18a<=4*e) (fun o x t H e=>match o with|l18ax=>x=.exit 0∧∃v1ax:Nat,∃v18ax:Nat,∃vn18ax:Nat,t 1=.ptr 1 v1ax 0∧t 3=.buf 18 v18ax 1 0 (l18ax).length∧H 1=some ⟨v1ax,24,[.int .i64 p0.aD,.sl false false p0.av.length (ae a8 p0.av)],false,false,false⟩∧H 18=some ⟨v18ax,33,[.nr 3 1 vn18ax (ae (Cs (eI .i64)) l18ax)],false,true,true⟩∧vn18ax<=4*e) ho11 ?_ ?_ ?_
  ·refine⟨0,2,4*(2)+2,?_,?_,?_,?_,?_,?_,?_,?_⟩
   all_goals (first|rfl|omega|(simp only[aQ,seval,-Int.reduceToNat,hr1,q4n,q4a]<;>rfl))
  ·rintro⟨s22a,l18a⟩ t H e ⟨v1a,v18a,vn18a,Za⟩ c hh
   simp only[jU]at hh
   try simp only[aQ,seval,-Int.reduceToNat,hr1,q4n,q4a,Za]
   refine sp aq hh (fun _ hh =>?_) (fun _ hh =>?_)
   ·obtain⟨x13,hx13,hh⟩:=ah hh
    have ax13:=bQ a8 hx13
    simp only[bI]at ax13
    obtain⟨x14,hx14,hh⟩:=ah hh
    have ax14:=bQ (Cs (eI .i64)) hx14
    simp only[bI]at ax14
    obtain⟨x15,hx15,hh⟩:=ah hh
    obtain⟨q16a,q16b,q16c,q16d⟩:=jg (eI .i64) hx15
    simp only[bI]at q16b
    have ax14:=bQ (Cs (eI .i64)) hx14
    simp only[bI]at ax14
    have p17:=NU (Cs (eI .i64)) (x':=x15) 0 .und (.nx x15.length (ae (eI .i64) x15)) hx14 rfl (afg rfl)
    have lp17:=SM (Cs (eI .i64)) 0 .und hx14 (afg rfl)
    simp only[bI,Nat.add_zero]at p17 lp17
    have up17:=p17
    simp only[putCells,List.length_cons,List.length_nil,aen,Nat.reduceAdd]at up17
    have ulp17:=lp17
    simp only[putCells,List.length_cons,List.length_nil,aen,Nat.reduceAdd]at ulp17
    have bp17:pB vn18a (e+1+1)=some (4*(e+1+1)+1):=jN (by omega)
    try simp only[aQ,seval,-Int.reduceToNat,hr1,q4n,q4a,Za,ax13,ax14,q16a,q16b,q16c,q16d,ax14,p17,up17,lp17,ulp17,bp17]
    refine bn (by kernel_rfl) ?_
    cases hh
    try simp only[aQ,seval,-Int.reduceToNat,hr1,q4n,q4a,Za,ax13,ax14,q16a,q16b,q16c,q16d,ax14,p17,up17,lp17,ulp17,bp17]
    refine j6 ?_
    refine⟨v1a,v18a,4*(e+1+1)+1,?_,?_,?_,?_,?_,?_,?_,?_⟩
    all_goals (first|rfl|omega|(simp only[aQ,seval,-Int.reduceToNat,hr1,q4n,q4a,Za,ax13,ax14,q16a,q16b,q16c,q16d,ax14,p17,up17,lp17,ulp17,bp17]<;>rfl))
   ·cases hh
    try simp only[aQ,seval,-Int.reduceToNat,hr1,q4n,q4a,Za]
    refine lj ?_
    refine⟨rfl,⟨v1a,v18a,vn18a,?_,?_,?_,?_,?_⟩⟩
    all_goals (first|rfl|omega|(simp only[aQ,seval,-Int.reduceToNat,hr1,q4n,q4a,Za]<;>rfl))
  ·rintro x t H e hx
   obtain⟨l18ax,rfl⟩:∃z,z=o11:=⟨_,rfl⟩
   dsimp only at hx hh
   obtain⟨rfl,⟨v1ax,v18ax,vn18ax,Zax⟩⟩:=hx
   obtain⟨x18,hx18,hh⟩:=ah hh
   obtain⟨q19a,q19b,q19c,q19d,q19e⟩:=mk_one (eI .i64) hx18
   simp only[bI]at q19d
   obtain⟨r20,hr20,hh⟩:=ah hh
   try simp only[aQ,seval,-Int.reduceToNat,hr1,q4n,q4a,Zax,q19a,q19b,q19c,q19d,q19e,hr20]
   obtain⟨o31,ho31,hh⟩:=ah hh
   refine aB (fun s t H e=>match s with|(s46b,l6b,l7b)=>∃v6b:Nat,∃v7b:Nat,∃v18b:Nat,∃vn18b:Nat,∃O7b:Nat,∃C7b:List D,t 3=.buf 18 v18b 1 0 (l18ax).length∧t 6=.buf 6 v6b 1 0 (l6b).length∧t 7=.buf 7 v7b 1 O7b (l7b).length∧t 44=.sl false false r20.length (ae az r20)∧t 45=.int .i64 (r20.length:Int)∧t 46=.int .i64 s46b∧H 6=some ⟨v6b,3,ae (eI .i64) l6b,false,true,false⟩∧H 7=some ⟨v7b,3,C7b,false,true,false⟩∧H 18=some ⟨v18b,33,[.nr 3 1 vn18b (ae (Cs (eI .i64)) l18ax)],false,true,true⟩∧vn18b<=4*e∧te (eI .i64) C7b O7b l7b) (fun o x t H e=>match o with|(l6bx,l7bx)=>x=.exit 2∧∃v6bx:Nat,∃v7bx:Nat,∃v18bx:Nat,∃vn18bx:Nat,∃O7bx:Nat,∃C7bx:List D,t 3=.buf 18 v18bx 1 0 (l18ax).length∧t 6=.buf 6 v6bx 1 0 (l6bx).length∧t 7=.buf 7 v7bx 1 O7bx (l7bx).length∧H 6=some ⟨v6bx,3,ae (eI .i64) l6bx,false,true,false⟩∧H 7=some ⟨v7bx,3,C7bx,false,true,false⟩∧H 18=some ⟨v18bx,33,[.nr 3 1 vn18bx (ae (Cs (eI .i64)) l18ax)],false,true,true⟩∧vn18bx<=4*e∧te (eI .i64) C7bx O7bx l7bx) ho31 ?_ ?_ ?_
   ·refine⟨e,e+1,v18ax,vn18ax,0,(ae (eI .i64) ([])),?_,?_,?_,?_,?_,?_,?_,?_,?_,?_,(te.self (eI .i64) ([]))⟩
    all_goals (first|rfl|omega|(simp only[aQ,seval,-Int.reduceToNat,hr1,q4n,q4a,Zax,q19a,q19b,q19c,q19d,q19e,hr20]<;>rfl))
   ·rintro⟨s46b,l6b,l7b⟩ t H e ⟨v6b,v7b,v18b,vn18b,O7b,C7b,t3b,t6b,t7b,t44b,t45b,t46b,H6b,H7b,H18b,Hn18b,F7b⟩ c hh
    simp only[jV]at hh
    have f1F7b:=F7b.fit
    have f2F7b:=F7b.eq
    simp only[bI]at f1F7b f2F7b
    try simp only[aQ,seval,-Int.reduceToNat,hr1,q4n,q4a,q19a,q19b,q19c,q19d,q19e,hr20,t3b,t6b,t7b,t44b,t45b,t46b,H6b,H7b,H18b,Hn18b,f1F7b,f2F7b]
    refine sp aq hh (fun _ hh =>?_) (fun _ hh =>?_)
    ·obtain⟨x33,hx33,hh⟩:=ah hh
     have ax33:=bQ az hx33
     simp only[bI]at ax33
     obtain⟨x34,hx34,hh⟩:=ah hh
     have ax34:=bQ (eI .i64) hx34
     simp only[bI]at ax34
     have p35:=eO (eI .i64) (x':=(-1)) (fo:=0) (cs:=[.int .i64 (-1)]) hx34 rfl (afg rfl)
     simp only[bI,Nat.add_zero]at p35
     have up35:=p35
     simp only[putCells,List.length_cons,List.length_nil,aen,Nat.reduceAdd]at up35
     obtain⟨r36,hr36,hh⟩:=ah hh
     try simp only[aQ,seval,-Int.reduceToNat,hr1,q4n,q4a,q19a,q19b,q19c,q19d,q19e,hr20,t3b,t6b,t7b,t44b,t45b,t46b,H6b,H7b,H18b,Hn18b,f1F7b,f2F7b,ax33,ax34,p35,up35,hr36]
     refine sp aq hh (fun _ hh =>?_) (fun _ hh =>?_)
     ·obtain⟨x38,hx38,hh⟩:=ah hh
      have ax38:=bQ (eI .i64) hx38
      simp only[bI,afz]at ax38
      have p39:=eO (eI .i64) (x':=0) (fo:=0) (cs:=[.int .i64 0]) hx38 rfl (afg rfl)
      simp only[bI,Nat.add_zero]at p39
      have up39:=p39
      simp only[putCells,List.length_cons,List.length_nil,aen,Nat.reduceAdd]at up39
      obtain⟨x40,hx40,hh⟩:=ah hh
      obtain⟨q41a,q41b,q41c,q41d⟩:=jg (eI .i64) hx40
      simp only[bI]at q41b
      cases hh
      try simp only[aQ,seval,-Int.reduceToNat,hr1,q4n,q4a,q19a,q19b,q19c,q19d,q19e,hr20,t3b,t6b,t7b,t44b,t45b,t46b,H6b,H7b,H18b,Hn18b,f1F7b,f2F7b,ax33,ax34,p35,up35,hr36,ax38,p39,up39,q41a,q41b,q41c,q41d]
      refine j6 ?_
      refine⟨v6b,e+1+1+1+1+1,v18b,vn18b,0,(ae (eI .i64) x40),?_,?_,?_,?_,?_,?_,?_,?_,?_,?_,(te.self (eI .i64) x40)⟩
      all_goals (first|rfl|omega|(simp only[aQ,seval,-Int.reduceToNat,hr1,q4n,q4a,q19a,q19b,q19c,q19d,q19e,hr20,t3b,t6b,t7b,t44b,t45b,t46b,H6b,H7b,H18b,Hn18b,f1F7b,f2F7b,ax33,ax34,p35,up35,hr36,ax38,p39,up39,q41a,q41b,q41c,q41d]<;>rfl))
     ·cases hh
      try simp only[aQ,seval,-Int.reduceToNat,hr1,q4n,q4a,q19a,q19b,q19c,q19d,q19e,hr20,t3b,t6b,t7b,t44b,t45b,t46b,H6b,H7b,H18b,Hn18b,f1F7b,f2F7b,ax33,ax34,p35,up35,hr36]
      refine j6 ?_
      refine⟨v6b,v7b,v18b,vn18b,O7b,C7b,?_,?_,?_,?_,?_,?_,?_,?_,?_,?_,F7b⟩
      all_goals (first|rfl|omega|(simp only[aQ,seval,-Int.reduceToNat,hr1,q4n,q4a,q19a,q19b,q19c,q19d,q19e,hr20,t3b,t6b,t7b,t44b,t45b,t46b,H6b,H7b,H18b,Hn18b,f1F7b,f2F7b,ax33,ax34,p35,up35,hr36]<;>rfl))
    ·cases hh
     try simp only[aQ,seval,-Int.reduceToNat,hr1,q4n,q4a,q19a,q19b,q19c,q19d,q19e,hr20,t3b,t6b,t7b,t44b,t45b,t46b,H6b,H7b,H18b,Hn18b,f1F7b,f2F7b]
     refine lj ?_
     refine⟨rfl,⟨v6b,v7b,v18b,vn18b,O7b,C7b,?_,?_,?_,?_,?_,?_,?_,F7b⟩⟩
     all_goals (first|rfl|omega|(simp only[aQ,seval,-Int.reduceToNat,hr1,q4n,q4a,q19a,q19b,q19c,q19d,q19e,hr20,t3b,t6b,t7b,t44b,t45b,t46b,H6b,H7b,H18b,Hn18b,f1F7b,f2F7b]<;>rfl))
   ·rintro x t H e hx
    rcases o31 with⟨l6bx,l7bx⟩
    dsimp only at hx hh
    obtain⟨rfl,⟨v6bx,v7bx,v18bx,vn18bx,O7bx,C7bx,t3bx,t6bx,t7bx,H6bx,H7bx,H18bx,Hn18bx,F7bx⟩⟩:=hx
    have f1F7bx:=F7bx.fit
    have f2F7bx:=F7bx.eq
    simp only[bI]at f1F7bx f2F7bx
    try simp only[aQ,seval,-Int.reduceToNat,hr1,q4n,q4a,q19a,q19b,q19c,q19d,q19e,hr20,t3bx,t6bx,t7bx,H6bx,H7bx,H18bx,Hn18bx,f1F7bx,f2F7bx]
    obtain⟨o64,ho64,hh⟩:=ah hh
    refine aB (fun s t H e=>match s with|(l6c,l7c)=>∃v6c:Nat,∃v7c:Nat,∃v18c:Nat,∃vn18c:Nat,∃O7c:Nat,∃C7c:List D,t 3=.buf 18 v18c 1 0 (l18ax).length∧t 6=.buf 6 v6c 1 0 (l6c).length∧t 7=.buf 7 v7c 1 O7c (l7c).length∧H 6=some ⟨v6c,3,ae (eI .i64) l6c,false,true,false⟩∧H 7=some ⟨v7c,3,C7c,false,true,false⟩∧H 18=some ⟨v18c,33,[.nr 3 1 vn18c (ae (Cs (eI .i64)) l18ax)],false,true,true⟩∧vn18c<=4*e∧te (eI .i64) C7c O7c l7c) (fun o x t H e=>match o with|l6cx=>x=.exit 4∧∃v6cx:Nat,t 6=.buf 6 v6cx 1 0 (l6cx).length∧H 6=some ⟨v6cx,3,ae (eI .i64) l6cx,false,true,false⟩) ho64 ?_ ?_ ?_
    ·refine⟨v6bx,v7bx,v18bx,vn18bx,O7bx,C7bx,?_,?_,?_,?_,?_,?_,?_,F7bx⟩
     all_goals (first|rfl|omega|(simp only[aQ,seval,-Int.reduceToNat,hr1,q4n,q4a,q19a,q19b,q19c,q19d,q19e,hr20,t3bx,t6bx,t7bx,H6bx,H7bx,H18bx,Hn18bx,f1F7bx,f2F7bx]<;>rfl))
    ·rintro⟨l6c,l7c⟩ t H e ⟨v6c,v7c,v18c,vn18c,O7c,C7c,t3c,t6c,t7c,H6c,H7c,H18c,Hn18c,F7c⟩ c hh
     simp only[jW]at hh
     have f1F7c:=F7c.fit
     have f2F7c:=F7c.eq
     simp only[bI]at f1F7c f2F7c
     try simp only[aQ,seval,-Int.reduceToNat,hr1,q4n,q4a,q19a,q19b,q19c,q19d,q19e,hr20,f1F7bx,f2F7bx,t3c,t6c,t7c,H6c,H7c,H18c,Hn18c,f1F7c,f2F7c]
     refine sp aq hh (fun _ hh =>?_) (fun _ hh =>?_)
     ·obtain⟨x66,hx66,hh⟩:=ah hh
      have bx66:=pb hx66
      obtain⟨fx66,restx66,ax66⟩:=F7c.idx hx66
      simp only[bI]at ax66 fx66
      obtain⟨x67,hx67,hh⟩:=ah hh
      obtain⟨q68a,q68b,q68c,q68d,q68e⟩:=Xb (eI .i64) hx67
      simp only[bI]at q68e
      have q68F:=te.tail F7c hx67
      obtain⟨x69,hx69,hh⟩:=ah hh
      have ax69:=bQ (Cs (eI .i64)) hx69
      simp only[bI]at ax69
      try simp only[aQ,seval,-Int.reduceToNat,hr1,q4n,q4a,q19a,q19b,q19c,q19d,q19e,hr20,f1F7bx,f2F7bx,t3c,t6c,t7c,H6c,H7c,H18c,Hn18c,f1F7c,f2F7c,bx66,ax66,fx66,q68a,q68b,q68c,q68e,ax69]
      obtain⟨o78,ho78,hh⟩:=ah hh
      refine aB (fun s t H e=>match s with|(s78e,l6e,l7e)=>∃v6e:Nat,∃v7e:Nat,∃v18e:Nat,∃vn18e:Nat,∃O7e:Nat,∃C7e:List D,t 3=.buf 18 v18e 1 0 (l18ax).length∧t 6=.buf 6 v6e 1 0 (l6e).length∧t 7=.buf 7 v7e 1 O7e (l7e).length∧t 10=.int .i64 x66∧t 76=.buf (NK 18 ((x66:Int).toNat*1)) vn18e 1 0 (x69).length∧t 77=.int .i64 ((x69).length:Int)∧t 78=.int .i64 s78e∧H 6=some ⟨v6e,3,ae (eI .i64) l6e,false,true,false⟩∧H 7=some ⟨v7e,3,C7e,false,true,false⟩∧H 18=some ⟨v18e,33,[.nr 3 1 vn18e (ae (Cs (eI .i64)) l18ax)],false,true,true⟩∧vn18e<=4*e∧te (eI .i64) C7e O7e l7e) (fun o x t H e=>match o with|(l6ex,l7ex)=>x=.exit 6∧∃v6ex:Nat,∃v7ex:Nat,∃v18ex:Nat,∃vn18ex:Nat,∃O7ex:Nat,∃C7ex:List D,t 3=.buf 18 v18ex 1 0 (l18ax).length∧t 6=.buf 6 v6ex 1 0 (l6ex).length∧t 7=.buf 7 v7ex 1 O7ex (l7ex).length∧H 6=some ⟨v6ex,3,ae (eI .i64) l6ex,false,true,false⟩∧H 7=some ⟨v7ex,3,C7ex,false,true,false⟩∧H 18=some ⟨v18ex,33,[.nr 3 1 vn18ex (ae (Cs (eI .i64)) l18ax)],false,true,true⟩∧vn18ex<=4*e∧te (eI .i64) C7ex O7ex l7ex) ho78 ?_ ?_ ?_
      ·refine⟨v6c,e+1+1,v18c,vn18c,(O7c+(1:Int).toNat*1),(C7c),?_,?_,?_,?_,?_,?_,?_,?_,?_,?_,?_,q68F⟩
       all_goals (first|rfl|omega|(simp only[aQ,seval,-Int.reduceToNat,hr1,q4n,q4a,q19a,q19b,q19c,q19d,q19e,hr20,f1F7bx,f2F7bx,t3c,t6c,t7c,H6c,H7c,H18c,Hn18c,f1F7c,f2F7c,bx66,ax66,fx66,q68a,q68b,q68c,q68e,ax69,q68d]<;>rfl))
      ·rintro⟨s78e,l6e,l7e⟩ t H e ⟨v6e,v7e,v18e,vn18e,O7e,C7e,t3e,t6e,t7e,t10e,t76e,t77e,t78e,H6e,H7e,H18e,Hn18e,F7e⟩ c hh
       simp only[jX]at hh
       have f1F7e:=F7e.fit
       have f2F7e:=F7e.eq
       simp only[bI]at f1F7e f2F7e
       try simp only[aQ,seval,-Int.reduceToNat,hr1,q4n,q4a,q19a,q19b,q19c,q19d,q19e,hr20,f1F7bx,f2F7bx,f1F7c,f2F7c,bx66,ax66,fx66,q68a,q68b,q68c,q68e,ax69,q68d,t3e,t6e,t7e,t10e,t76e,t77e,t78e,H6e,H7e,H18e,Hn18e,f1F7e,f2F7e]
       refine sp aq hh (fun _ hh =>?_) (fun _ hh =>?_)
       ·obtain⟨x80,hx80,hh⟩:=ah hh
        have ax80:=bQ (eI .i64) hx80
        simp only[bI]at ax80
        obtain⟨x81,hx81,hh⟩:=ah hh
        have ax81:=bQ (eI .i64) hx81
        simp only[bI]at ax81
        try simp only[aQ,seval,-Int.reduceToNat,hr1,q4n,q4a,q19a,q19b,q19c,q19d,q19e,hr20,f1F7bx,f2F7bx,f1F7c,f2F7c,bx66,ax66,fx66,q68a,q68b,q68c,q68e,ax69,q68d,t3e,t6e,t7e,t10e,t76e,t77e,t78e,H6e,H7e,H18e,Hn18e,f1F7e,f2F7e,ax80,ax81]
        refine sp aq hh (fun _ hh =>?_) (fun _ hh =>?_)
        ·obtain⟨x83,hx83,hh⟩:=ah hh
         have ax83:=bQ (eI .i64) hx83
         simp only[bI]at ax83
         have ax81:=bQ (eI .i64) hx81
         simp only[bI]at ax81
         have p84:=eO (eI .i64) (x':=IntKind.i64.wrap (x83+1)) (fo:=0) (cs:=[.int .i64 (IntKind.i64.wrap (x83+1))]) hx81 rfl (afg rfl)
         simp only[bI,Nat.add_zero]at p84
         have up84:=p84
         simp only[putCells,List.length_cons,List.length_nil,aen,Nat.reduceAdd]at up84
         obtain⟨x85,hx85,hh⟩:=ah hh
         obtain⟨q86a,q86b,q86c,q86d⟩:=jg (eI .i64) hx85
         simp only[bI]at q86b
         cases hh
         try simp only[aQ,seval,-Int.reduceToNat,hr1,q4n,q4a,q19a,q19b,q19c,q19d,q19e,hr20,f1F7bx,f2F7bx,f1F7c,f2F7c,bx66,ax66,fx66,q68a,q68b,q68c,q68e,ax69,q68d,t3e,t6e,t7e,t10e,t76e,t77e,t78e,H6e,H7e,H18e,Hn18e,f1F7e,f2F7e,ax80,ax81,ax83,ax81,p84,up84,q86a,q86b,q86c,q86d]
         refine j6 ?_
         refine⟨v6e,e+1+1+1+1,v18e,vn18e,0,(ae (eI .i64) x85),?_,?_,?_,?_,?_,?_,?_,?_,?_,?_,?_,(te.self (eI .i64) x85)⟩
         all_goals (first|rfl|omega|(simp only[aQ,seval,-Int.reduceToNat,hr1,q4n,q4a,q19a,q19b,q19c,q19d,q19e,hr20,f1F7bx,f2F7bx,f1F7c,f2F7c,bx66,ax66,fx66,q68a,q68b,q68c,q68e,ax69,q68d,t3e,t6e,t7e,t10e,t76e,t77e,t78e,H6e,H7e,H18e,Hn18e,f1F7e,f2F7e,ax80,ax81,ax83,ax81,p84,up84,q86a,q86b,q86c,q86d]<;>rfl))
        ·cases hh
         try simp only[aQ,seval,-Int.reduceToNat,hr1,q4n,q4a,q19a,q19b,q19c,q19d,q19e,hr20,f1F7bx,f2F7bx,f1F7c,f2F7c,bx66,ax66,fx66,q68a,q68b,q68c,q68e,ax69,q68d,t3e,t6e,t7e,t10e,t76e,t77e,t78e,H6e,H7e,H18e,Hn18e,f1F7e,f2F7e,ax80,ax81]
         refine j6 ?_
         refine⟨v6e,v7e,v18e,vn18e,O7e,C7e,?_,?_,?_,?_,?_,?_,?_,?_,?_,?_,?_,F7e⟩
         all_goals (first|rfl|omega|(simp only[aQ,seval,-Int.reduceToNat,hr1,q4n,q4a,q19a,q19b,q19c,q19d,q19e,hr20,f1F7bx,f2F7bx,f1F7c,f2F7c,bx66,ax66,fx66,q68a,q68b,q68c,q68e,ax69,q68d,t3e,t6e,t7e,t10e,t76e,t77e,t78e,H6e,H7e,H18e,Hn18e,f1F7e,f2F7e,ax80,ax81]<;>rfl))
       ·cases hh
        try simp only[aQ,seval,-Int.reduceToNat,hr1,q4n,q4a,q19a,q19b,q19c,q19d,q19e,hr20,f1F7bx,f2F7bx,f1F7c,f2F7c,bx66,ax66,fx66,q68a,q68b,q68c,q68e,ax69,q68d,t3e,t6e,t7e,t10e,t76e,t77e,t78e,H6e,H7e,H18e,Hn18e,f1F7e,f2F7e]
        refine lj ?_
        refine⟨rfl,⟨v6e,v7e,v18e,vn18e,O7e,C7e,?_,?_,?_,?_,?_,?_,?_,F7e⟩⟩
        all_goals (first|rfl|omega|(simp only[aQ,seval,-Int.reduceToNat,hr1,q4n,q4a,q19a,q19b,q19c,q19d,q19e,hr20,f1F7bx,f2F7bx,f1F7c,f2F7c,bx66,ax66,fx66,q68a,q68b,q68c,q68e,ax69,q68d,t3e,t6e,t7e,t10e,t76e,t77e,t78e,H6e,H7e,H18e,Hn18e,f1F7e,f2F7e]<;>rfl))
      ·rintro x t H e hx
       rcases o78 with⟨l6ex,l7ex⟩
       dsimp only at hx hh
       obtain⟨rfl,⟨v6ex,v7ex,v18ex,vn18ex,O7ex,C7ex,t3ex,t6ex,t7ex,H6ex,H7ex,H18ex,Hn18ex,F7ex⟩⟩:=hx
       have f1F7ex:=F7ex.fit
       have f2F7ex:=F7ex.eq
       simp only[bI]at f1F7ex f2F7ex
       cases hh
       try simp only[aQ,seval,-Int.reduceToNat,hr1,q4n,q4a,q19a,q19b,q19c,q19d,q19e,hr20,f1F7bx,f2F7bx,f1F7c,f2F7c,bx66,ax66,fx66,q68a,q68b,q68c,q68e,ax69,q68d,q68d,t3ex,t6ex,t7ex,H6ex,H7ex,H18ex,Hn18ex,f1F7ex,f2F7ex]
       refine j6 ?_
       refine⟨v6ex,v7ex,v18ex,vn18ex,O7ex,C7ex,?_,?_,?_,?_,?_,?_,?_,F7ex⟩
       all_goals (first|rfl|omega|(simp only[aQ,seval,-Int.reduceToNat,hr1,q4n,q4a,q19a,q19b,q19c,q19d,q19e,hr20,f1F7bx,f2F7bx,f1F7c,f2F7c,bx66,ax66,fx66,q68a,q68b,q68c,q68e,ax69,q68d,q68d,t3ex,t6ex,t7ex,H6ex,H7ex,H18ex,Hn18ex,f1F7ex,f2F7ex]<;>rfl))
     ·cases hh
      try simp only[aQ,seval,-Int.reduceToNat,hr1,q4n,q4a,q19a,q19b,q19c,q19d,q19e,hr20,f1F7bx,f2F7bx,t3c,t6c,t7c,H6c,H7c,H18c,Hn18c,f1F7c,f2F7c]
      refine lj ?_
      refine⟨rfl,⟨v6c,?_,?_⟩⟩
      all_goals first|rfl|(simp only[aQ,seval,-Int.reduceToNat,hr1,q4n,q4a,q19a,q19b,q19c,q19d,q19e,hr20,f1F7bx,f2F7bx,t3c,t6c,t7c,H6c,H7c,H18c,Hn18c,f1F7c,f2F7c]<;>rfl)
    ·rintro x t H e hx
     obtain⟨l6cx,rfl⟩:∃z,z=o64:=⟨_,rfl⟩
     dsimp only at hx hh
     obtain⟨rfl,⟨v6cx,Zcx⟩⟩:=hx
     cases hh
     try simp only[aQ,seval,-Int.reduceToNat,hr1,q4n,q4a,q19a,q19b,q19c,q19d,q19e,hr20,f1F7bx,f2F7bx,Zcx]
theorem Jx:b6 Try.prog 45 tC:=b6.of (mode := .clean) tok I2 mixed Try.func45 (by kernel_rfl) ⟨by kernel_rfl,by kernel_rfl⟩ (fun _=>afg (by kernel_rfl)) (fun x r h=>MZ x r h)
noncomputable def mK:=fX (fU (cX nO)) (fun x:bY=>gC x) (fun r:(List Int) =>.clean (.sl false false r.length (ae (eI .i64) r)))
theorem mY (p0_0:Int) (p0_1:(List dy)):mK none [.agg [.int .i64 p0_0,.sl false false p0_1.length (ae a8 p0_1)]]=(gC (bY.mk p0_0 p0_1)).map fun r:(List Int)=>(.clean (.sl false false r.length (ae (eI .i64) r)),none):=aU _ _ _ ((bY.mk p0_0 p0_1))
noncomputable def mS:Env:=(Am.ext a6 45 false tC)
theorem CS:bA Try.prog mS:=(bA.none.add Jx false)
theorem dI:type_of% (ai @w<|ai @AA<|@mS.eq_1):=⟨@w,@AA,@mS.eq_1⟩
theorem E3 (p0:bY) (r:(List Int)) (hh:gC p0=some r):bc .clean tab mS FU Try.f14 none [.agg [.int .i64 p0.aD,.sl false false p0.av.length (ae a8 p0.av)]]=some (.clean (.sl false false r.length (ae (eI .i64) r)),none):=by
 refine aC rfl Try.ntmps14 Try.results14 ?_
 unfold gC at hh
 obtain⟨r1,hr1,hh⟩:=ah hh
 try simp only[dI,seval,hr1]
 obtain⟨o7,ho7,hh⟩:=ah hh
 refine aB (fun s t H e=>match s with|(s9a,l3a)=>∃v3a:Nat,t 3=.buf 3 v3a 1 0 (l3a).length∧t 7=.sl false false r1.length (ae (eI .i64) r1)∧t 8=.int .i64 (r1.length:Int)∧t 9=.int .i64 s9a∧H 3=some ⟨v3a,3,ae (eI .i64) l3a,false,true,false⟩) (fun o x t H e=>match o with|l3ax=>x=.exit 0∧∃v3ax:Nat,t 3=.buf 3 v3ax 1 0 (l3ax).length∧H 3=some ⟨v3ax,3,ae (eI .i64) l3ax,false,true,false⟩) ho7 ?_ ?_ ?_
 ·refine⟨1,?_,?_,?_,?_,?_⟩
  all_goals first|rfl|(simp only[dI,seval,hr1]<;>rfl)
 ·rintro⟨s9a,l3a⟩ t H e ⟨v3a,Za⟩ c hh
  simp only[ia]at hh
  try simp only[dI,seval,hr1,Za]
  refine sp aq hh (fun _ hh =>?_) (fun _ hh =>?_)
  ·obtain⟨x9,hx9,hh⟩:=ah hh
   have ax9:=bQ (eI .i64) hx9
   simp only[bI]at ax9
   try simp only[dI,seval,hr1,Za,ax9]
   refine sp aq hh (fun _ hh =>?_) (fun _ hh =>?_)
   ·obtain⟨x11,hx11,hh⟩:=ah hh
    obtain⟨q12a,q12b,q12c,q12d⟩:=jg (eI .i64) hx11
    simp only[bI]at q12b
    cases hh
    try simp only[dI,seval,hr1,Za,ax9,q12a,q12b,q12c,q12d]
    refine j6 ?_
    refine⟨e+1+1+1,?_,?_,?_,?_,?_⟩
    all_goals first|rfl|(simp only[dI,seval,hr1,Za,ax9,q12a,q12b,q12c,q12d]<;>rfl)
   ·cases hh
    try simp only[dI,seval,hr1,Za,ax9]
    refine j6 ?_
    refine⟨v3a,?_,?_,?_,?_,?_⟩
    all_goals first|rfl|(simp only[dI,seval,hr1,Za,ax9]<;>rfl)
  ·cases hh
   try simp only[dI,seval,hr1,Za]
   refine lj ?_
   refine⟨rfl,⟨v3a,?_,?_⟩⟩
   all_goals first|rfl|(simp only[dI,seval,hr1,Za]<;>rfl)
 ·rintro x t H e hx
  obtain⟨l3ax,rfl⟩:∃z,z=o7:=⟨_,rfl⟩
  dsimp only at hx hh
  obtain⟨rfl,⟨v3ax,Zax⟩⟩:=hx
  cases hh
  try simp only[dI,seval,hr1,Zax]
theorem uk:b6 Try.prog 14 mK:=b6.of (mode := .clean) tok CS mixed Try.func14 (by kernel_rfl) ⟨by kernel_rfl,by kernel_rfl⟩ (fun _=>afg (by kernel_rfl)) (fun x r h=>E3 x r h)
noncomputable def lD:=fX (jh (cX nO) (fU (mL az))) (fun x:bY×(List ak)=>cK x.1 x.2) (fun r:(List aw) =>.clean (.sl false false r.length (ae cF r)))
theorem qd (p0_0:Int) (p0_1:(List dy)) (p1:(List ak)):lD none [.agg [.int .i64 p0_0,.sl false false p0_1.length (ae a8 p0_1)],.sl false false p1.length (ae az p1)]=(cK (bY.mk p0_0 p0_1) p1).map fun r:(List aw)=>(.clean (.sl false false r.length (ae cF r)),none):=aU _ _ _ ((bY.mk p0_0 p0_1),p1)
noncomputable def jk:Env:=(Am.ym 11 (74,5,4) a6)
theorem o0:bA Try.prog jk:=(bA.ym bA.none 11 (74,5,4))
theorem bm:type_of% (ai @w<|@jk.eq_1):=⟨@w,@jk.eq_1⟩
theorem pX (p0:bY) (p1:(List ak)) (r:(List aw)) (hh:cK p0 p1=some r):sP tab jk FU Try.f40 [.agg [.int .i64 p0.aD,.sl false false p0.av.length (ae a8 p0.av)],.sl false false p1.length (ae az p1)]=some (69,74,5,5,r.length,ae aF r):=by
 refine UL rfl Try.ntmps40 Try.results40 ?_
 unfold cK at hh
 obtain⟨x1,hx1,hh⟩:=ah hh
 have q2n:=SB (E:=aF) (ty':=74) (s:=5) (f:=4) (k := .i64) QD (by rfl) rfl rfl rfl rfl rfl hx1
 obtain⟨q2a,q2b,q2c,q2d,q2e⟩:=mk_one aF hx1
 try simp only[bm,seval,q2n,q2a]
 obtain⟨o8,ho8,hh⟩:=ah hh
 refine aB (fun s t H e=>match s with|(s14a,l11a)=>∃v2a:Nat,∃v11a:Nat,∃vn11a:Nat,t 1=.sl false false p1.length (ae az p1)∧t 2=.ptr 2 v2a 0∧t 5=.buf 11 v11a 5 0 (l11a).length∧t 13=.int .i64 ((x1).length:Int)∧t 14=.int .i64 s14a∧H 2=some ⟨v2a,24,[.int .i64 p0.aD,.sl false false p0.av.length (ae a8 p0.av)],false,false,false⟩∧H 11=some ⟨v11a,69,[.nr 74 5 vn11a (ae aF l11a)],false,true,true⟩∧vn11a<=4*e) (fun o x t H e=>match o with|l11ax=>x=.exit 0∧∃v2ax:Nat,∃v11ax:Nat,∃vn11ax:Nat,t 2=.ptr 2 v2ax 0∧t 5=.buf 11 v11ax 5 0 (l11ax).length∧H 2=some ⟨v2ax,24,[.int .i64 p0.aD,.sl false false p0.av.length (ae a8 p0.av)],false,false,false⟩∧H 11=some ⟨v11ax,69,[.nr 74 5 vn11ax (ae aF l11ax)],false,true,true⟩∧vn11ax<=4*e) ho8 ?_ ?_ ?_
 ·refine⟨0,1,4*(1)+2,?_,?_,?_,?_,?_,?_,?_,?_⟩
  all_goals (first|rfl|omega|(simp only[bm,seval,q2n,q2a]<;>rfl))
 ·rintro⟨s14a,l11a⟩ t H e ⟨v2a,v11a,vn11a,Za⟩ c hh
  simp only[fQ]at hh
  try simp only[bm,seval,q2n,q2a,Za]
  refine sp aq hh (fun _ hh =>?_) (fun _ hh =>?_)
  ·obtain⟨x10,hx10,hh⟩:=ah hh
   have ax10:=bQ az hx10
   simp only[bI]at ax10
   obtain⟨x11,hx11,hh⟩:=ah hh
   have ax11:=bQ aF hx11
   simp only[bI]at ax11
   have fq13:=iN aF 0 4 (afg rfl) hx11
   simp only[bI,Nat.add_zero]at fq13
   have p12:=eO aF (x':=(aw.mk x10 x11.bk)) (fo:=0) (cs:=[.int .i64 x10.aH.ag,.sl false false x10.aH.aa.length (ae (eI .i64) x10.aH.aa),.int .i64 x10.aK.ag,.sl false false x10.aK.aa.length (ae (eI .i64) x10.aK.aa)]) hx11 rfl (afg rfl)
   simp only[bI,Nat.add_zero]at p12
   have up12:=p12
   simp only[putCells,List.length_cons,List.length_nil,aen,Nat.reduceAdd]at up12
   cases hh
   try simp only[bm,seval,q2n,q2a,Za,ax10,ax11,fq13,p12,up12]
   refine j6 ?_
   refine⟨v2a,v11a,vn11a,?_,?_,?_,?_,?_,?_,?_,?_⟩
   all_goals (first|rfl|omega|(simp only[bm,seval,q2n,q2a,Za,ax10,ax11,fq13,p12,up12]<;>rfl))
  ·cases hh
   try simp only[bm,seval,q2n,q2a,Za]
   refine lj ?_
   refine⟨rfl,⟨v2a,v11a,vn11a,?_,?_,?_,?_,?_⟩⟩
   all_goals (first|rfl|omega|(simp only[bm,seval,q2n,q2a,Za]<;>rfl))
 ·rintro x t H e hx
  obtain⟨l11ax,rfl⟩:∃z,z=o8:=⟨_,rfl⟩
  dsimp only at hx hh
  obtain⟨rfl,⟨v2ax,v11ax,vn11ax,Zax⟩⟩:=hx
  try simp only[bm,seval,q2n,q2a,Zax]
  obtain⟨o22,ho22,hh⟩:=ah hh
  refine aB (fun s t H e=>match s with|(s29b,l11b)=>∃v11b:Nat,∃vn11b:Nat,t 5=.buf 11 v11b 5 0 (l11b).length∧t 27=.sl false false p0.av.length (ae a8 p0.av)∧t 28=.int .i64 (p0.av.length:Int)∧t 29=.int .i64 s29b∧H 11=some ⟨v11b,69,[.nr 74 5 vn11b (ae aF l11b)],false,true,true⟩∧vn11b<=4*e) (fun o x t H e=>match o with|l11bx=>x=.exit 2∧∃v11bx:Nat,∃vn11bx:Nat,t 5=.buf 11 v11bx 5 0 (l11bx).length∧H 11=some ⟨v11bx,69,[.nr 74 5 vn11bx (ae aF l11bx)],false,true,true⟩∧vn11bx<=4*e) ho22 ?_ ?_ ?_
  ·refine⟨v11ax,vn11ax,?_,?_,?_,?_,?_,?_⟩
   all_goals (first|rfl|omega|(simp only[bm,seval,q2n,q2a,Zax]<;>rfl))
  ·rintro⟨s29b,l11b⟩ t H e ⟨v11b,vn11b,Zb⟩ c hh
   simp only[fR]at hh
   try simp only[bm,seval,q2n,q2a,Zb]
   refine sp aq hh (fun _ hh =>?_) (fun _ hh =>?_)
   ·obtain⟨x24,hx24,hh⟩:=ah hh
    have ax24:=bQ a8 hx24
    simp only[bI]at ax24
    obtain⟨x25,hx25,hh⟩:=ah hh
    have ax25:=bQ aF hx25
    simp only[bI]at ax25
    have aq26:=jv aF 4 hx25
    have fq26:=iN aF 4 1 (afg rfl) hx25
    simp only[bI]at aq26 fq26
    obtain⟨x27,hx27,hh⟩:=ah hh
    obtain⟨q28a,q28b,q28c,q28d⟩:=jg bo hx27
    simp only[bI]at q28b
    have ax25:=bQ aF hx25
    simp only[bI]at ax25
    have aq29:=jv aF 4 hx25
    have fq29:=iN aF 4 1 (afg rfl) hx25
    simp only[bI]at aq29 fq29
    have p30:=NU aF (x':=(aw.mk x25.aO x27)) 4 .und (.nx x27.length (ae bo x27)) hx25 rfl (afg rfl)
    have lp30:=SM aF 4 .und hx25 (afg rfl)
    simp only[bI,Nat.add_zero]at p30 lp30
    have up30:=p30
    simp only[putCells,List.length_cons,List.length_nil,aen,Nat.reduceAdd]at up30
    have ulp30:=lp30
    simp only[putCells,List.length_cons,List.length_nil,aen,Nat.reduceAdd]at ulp30
    have bp30:pB vn11b (e+1+1)=some (4*(e+1+1)+1):=jN (by omega)
    try simp only[bm,seval,q2n,q2a,Zb,ax24,ax25,aq26,fq26,q28a,q28b,q28c,q28d,ax25,aq29,fq29,p30,up30,lp30,ulp30,bp30]
    refine bn (by kernel_rfl) ?_
    cases hh
    try simp only[bm,seval,q2n,q2a,Zb,ax24,ax25,aq26,fq26,q28a,q28b,q28c,q28d,ax25,aq29,fq29,p30,up30,lp30,ulp30,bp30]
    refine j6 ?_
    refine⟨v11b,4*(e+1+1)+1,?_,?_,?_,?_,?_,?_⟩
    all_goals (first|rfl|omega|(simp only[bm,seval,q2n,q2a,Zb,ax24,ax25,aq26,fq26,q28a,q28b,q28c,q28d,ax25,aq29,fq29,p30,up30,lp30,ulp30,bp30]<;>rfl))
   ·cases hh
    try simp only[bm,seval,q2n,q2a,Zb]
    refine lj ?_
    refine⟨rfl,⟨v11b,vn11b,?_,?_,?_⟩⟩
    all_goals (first|rfl|omega|(simp only[bm,seval,q2n,q2a,Zb]<;>rfl))
  ·rintro x t H e hx
   obtain⟨l11bx,rfl⟩:∃z,z=o22:=⟨_,rfl⟩
   dsimp only at hx hh
   obtain⟨rfl,⟨v11bx,vn11bx,Zbx⟩⟩:=hx
   cases hh
   try simp only[bm,seval,q2n,q2a,Zbx]
theorem xf:b6 Try.prog 40 lD:=b6.ofW (E:=cF) (EN:=aF) (ty:=69) (t:=74) (s:=5) tok o0 mixed Try.func40 (by kernel_rfl) ⟨by kernel_rfl,by kernel_rfl⟩ (fun _=>afg (by kernel_rfl)) rfl (fun _=>rfl) (fun x=>by simp[cV,v7,fk,bN,Be,rM,uZ,xN,tU,mu,rN,pI,pJ,rO,pK,kz]) (fun x r h=>pX x.1 x.2 r h)
noncomputable def kG:=bR (jh (cX nO) (fU (mL az))) (fun x:bY×(List ak)=>cK x.1 x.2) (fun r:(List aw)=>(69,74,5,5,r.length,ae aF r))
theorem pq (p0_0:Int) (p0_1:(List dy)) (p1:(List ak)):kG [.agg [.int .i64 p0_0,.sl false false p0_1.length (ae a8 p0_1)],.sl false false p1.length (ae az p1)]=(cK (bY.mk p0_0 p0_1) p1).map fun r:(List aw)=>(69,74,5,5,r.length,ae aF r):=aaz _ _ _ ((bY.mk p0_0 p0_1),p1)
theorem nQ:FOk Try.prog 40 kG:=FOk.of tok o0 mixed Try.func40 (by kernel_rfl) ⟨by kernel_rfl,by kernel_rfl⟩ (fun _=>afg (by kernel_rfl)) (fun x r h=>pX x.1 x.2 r h)
noncomputable def gY:=fX (jh (cX bo) (fU (aI .i64))) (fun x:dL×Int=>cr x.1 x.2) (fun r:Int =>.clean (.int .i64 r))
theorem lp (p0_0:Int) (p0_1:Int) (p0_2:(List Int)) (p0_3:Int) (p0_4:(List Int)) (p1:Int):gY none [.agg [.int .i64 p0_0,.int .i64 p0_1,.sl false false p0_2.length (ae (eI .i64) p0_2),.int .i64 p0_3,.sl false false p0_4.length (ae (eI .i64) p0_4)],.int .i64 p1]=(cr (dL.mk p0_0 (ak.mk (al.mk p0_1 p0_2) (al.mk p0_3 p0_4))) p1).map fun r:Int=>(.clean (.int .i64 r),none):=aU _ _ _ ((dL.mk p0_0 (ak.mk (al.mk p0_1 p0_2) (al.mk p0_3 p0_4))),p1)
noncomputable def eZ:Env:=(Am.ext a6 66 false iS)
theorem qy:bA Try.prog eZ:=(bA.none.add lY false)
theorem qX:type_of% (ai @w<|ai @fF<|@eZ.eq_1):=⟨@w,@fF,@eZ.eq_1⟩
theorem qK (p0:dL) (p1:Int) (r:Int) (hh:cr p0 p1=some r):bc .clean tab eZ FU Try.f98 none [.agg [.int .i64 p0.ka,.int .i64 p0.dD.aH.ag,.sl false false p0.dD.aH.aa.length (ae (eI .i64) p0.dD.aH.aa),.int .i64 p0.dD.aK.ag,.sl false false p0.dD.aK.aa.length (ae (eI .i64) p0.dD.aK.aa)],.int .i64 p1]=some (.clean (.int .i64 r),none):=by
 refine aC rfl Try.ntmps98 Try.results98 ?_
 unfold cr at hh
 obtain⟨r1,hr1,hh⟩:=ah hh
 cases hh
 try simp only[qX,seval,hr1]
theorem qA:b6 Try.prog 98 gY:=b6.of (mode := .clean) tok qy mixed Try.func98 (by kernel_rfl) ⟨by kernel_rfl,by kernel_rfl⟩ (fun _=>afg (by kernel_rfl)) (fun x r h=>qK x.1 x.2 r h)
noncomputable def cg:=fX (jh (mL bo) (jh (aI .i64) (fU (aFn 98)))) (fun x:(List dL)×Int×Unit=>aR x.1 x.2.1) (fun r:Int×Bool =>.clean (.tup [.int .i64 r.1,.bool r.2]))
theorem dr (p0:(List dL)) (p1:Int):cg none [.sl false false p0.length (ae bo p0),.int .i64 p1,.fn 98]=(aR p0 p1).map fun r:Int×Bool=>(.clean (.tup [.int .i64 r.1,.bool r.2]),none):=aU _ _ _ (p0,p1,())
noncomputable def bG:Env:=(Am.ext a6 98 false gY)
theorem gi:bA Try.prog bG:=(bA.none.add qA false)
theorem ay:type_of% (ai @w<|ai @lp<|@bG.eq_1):=⟨@w,@lp,@bG.eq_1⟩
theorem gB (p0:(List dL)) (p1:Int) (r:Int×Bool) (hh:aR p0 p1=some r):bc .clean tab bG FU Try.f97 none [.sl false false p0.length (ae bo p0),.int .i64 p1,.fn 98]=some (.clean (.tup [.int .i64 r.1,.bool r.2]),none):=by
 refine aC rfl Try.ntmps97 Try.results97 ?_
 unfold aR at hh
 try simp only[ay,seval,-Int.reduceToNat]
 obtain⟨o7,ho7,hh⟩:=ah hh
 refine aB (fun s t H e=>match s with|(s9a,s10a)=>t 0=.sl false false p0.length (ae bo p0)∧t 1=.int .i64 p1∧t 2=.fn 98∧t 8=.int .i64 (p0.length:Int)∧t 9=.int .i64 s9a∧t 10=.int .i64 s10a) (fun o x t H e=>match o with|s9ax=>x=.exit 0∧t 0=.sl false false p0.length (ae bo p0)∧t 1=.int .i64 p1∧t 2=.fn 98∧t 8=.int .i64 (p0.length:Int)∧t 9=.int .i64 s9ax) ho7 ?_ ?_ ?_
 ·refine⟨?_,?_,?_,?_,?_,?_⟩
  all_goals first|rfl|(simp only[ay,seval,-Int.reduceToNat]<;>rfl)
 ·rintro⟨s9a,s10a⟩ t H e Za c hh
  simp only[bE]at hh
  try simp only[ay,seval,-Int.reduceToNat,Za]
  refine sp aq hh (fun _ hh =>?_) (fun _ hh =>?_)
  ·obtain⟨x9,hx9,hh⟩:=ah hh
   have q10:=sL hx9
   obtain⟨x11,hx11,hh⟩:=ah hh
   have ax11:=bQ bo hx11
   simp only[bI]at ax11
   obtain⟨r12,hr12,hh⟩:=ah hh
   try simp only[ay,seval,-Int.reduceToNat,Za,q10,ax11,hr12]
   refine sp aq hh (fun _ hh =>?_) (fun _ hh =>?_)
   ·cases hh
    try simp only[ay,seval,-Int.reduceToNat,Za,q10,ax11,hr12]
    refine j6 ?_
    refine⟨?_,?_,?_,?_,?_,?_⟩
    all_goals first|rfl|(simp only[ay,seval,-Int.reduceToNat,Za,q10,ax11,hr12]<;>rfl)
   ·cases hh
    try simp only[ay,seval,-Int.reduceToNat,Za,q10,ax11,hr12]
    refine j6 ?_
    refine⟨?_,?_,?_,?_,?_,?_⟩
    all_goals first|rfl|(simp only[ay,seval,-Int.reduceToNat,Za,q10,ax11,hr12]<;>rfl)
  ·cases hh
   try simp only[ay,seval,-Int.reduceToNat,Za]
   refine lj ?_
   refine⟨rfl,⟨?_,?_,?_,?_,?_⟩⟩
   all_goals first|rfl|(simp only[ay,seval,-Int.reduceToNat,Za]<;>rfl)
 ·rintro x t H e hx
  obtain⟨s9ax,rfl⟩:∃z,z=o7:=⟨_,rfl⟩
  dsimp only at hx hh
  obtain⟨rfl,Zax⟩:=hx
  try simp only[ay,seval,-Int.reduceToNat,Zax]
  refine sp dp hh (fun _ hh =>?_) (fun _ hh =>?_)
  ·obtain⟨x15,hx15,hh⟩:=ah hh
   have ax15:=bQ bo hx15
   simp only[bI]at ax15
   obtain⟨r16,hr16,hh⟩:=ah hh
   cases hh
   try simp only[ay,seval,-Int.reduceToNat,Zax,ax15,hr16]
  ·cases hh
   try simp only[ay,seval,-Int.reduceToNat,Zax]
theorem gj:b6 Try.prog 97 cg:=b6.of (mode := .clean) tok gi mixed Try.func97 (by kernel_rfl) ⟨by kernel_rfl,by kernel_rfl⟩ (fun _=>afg (by kernel_rfl)) (fun x r h=>gB x.1 x.2.1 r h)
noncomputable def ee:=E8 69 74 5 aF (fU (aI .i64)) (fun (q:aw) (x:Int)=>cu q x) (fun r:Int×Bool =>.tup [.int .i64 r.1,.bool r.2])
theorem iH (pre post:List D) (p0:aw) (p1:Int):ee 69 74 5 pre.length (pre++(aF.cells p0++post)) [.int .i64 p1]=(cu p0 p1).map fun r=>(.tup [.int .i64 r.2.1,.bool r.2.2],pre++(aF.cells r.1++post)):=Jo _ _ _ _ _ _ _ pre post p0 (p1)
noncomputable def fV:Env:=(Am.ext a6 97 false cg)
theorem si:bA Try.prog fV:=(bA.none.add gj false)
theorem tr:type_of% (ai @w<|ai @Z5<|ai @dr<|@fV.eq_1):=⟨@w,@Z5,@dr,@fV.eq_1⟩
theorem tl (pre post:List D) (p0:aw) (p1:Int) (r:aw×(Int×Bool)) (hh:cu p0 p1=some r):sQ tab fV FU Try.f69 69 74 5 pre.length (pre++(aF.cells p0++post)) [.int .i64 p1]=some (.tup [.int .i64 r.2.1,.bool r.2.2],pre++(aF.cells r.1++post)):=by
 refine vT rfl Try.ntmps69 Try.results69 ?_
 rw[cV]
 unfold cu at hh
 obtain⟨r1,hr1,hh⟩:=ah hh
 cases hh
 try simp only[tr,seval,hr1]
theorem cZ:X6 Try.prog 69 ee:=X6.of tok si mixed Try.func69 (by kernel_rfl) ⟨by kernel_rfl,by kernel_rfl⟩ (fun _=>afg (by kernel_rfl)) (fun pre post q x q' r h=>tl pre post q x (q',r) h)
noncomputable def jf:=ZO 74 bo (jh (aI .i64) (fU (aI .i64))) (fun (l:(List dL)) (x:Int×Int)=>fH l x.1 x.2)
theorem p8 (pre post:List D) (p0:(List dL)) (p1 p2:Int):jf (some (.buf 0 0 5 pre.length p0.length,⟨0,74,pre++(ae bo p0++post),false,true,false⟩)) [.int .i64 p1,.int .i64 p2]=(fH p0 p1 p2).map fun r=>(.fresh 74 5 r.length (ae bo r),none):=WG _ _ _ _ pre post p0 (p1,p2)
theorem pn:b6 Try.prog 70 jf:=Yl bo rfl
noncomputable def wM:=fX (jh (cX az) (fU (cX az))) (fun x:ak×ak=>lL x.1 x.2) (fun r:ak×Int =>.clean (.tup [.agg [.int .i64 r.1.aH.ag,.sl false false r.1.aH.aa.length (ae (eI .i64) r.1.aH.aa),.int .i64 r.1.aK.ag,.sl false false r.1.aK.aa.length (ae (eI .i64) r.1.aK.aa)],.int .i64 r.2]))
theorem DT (p0_0:Int) (p0_1:(List Int)) (p0_2:Int) (p0_3:(List Int)) (p1_0:Int) (p1_1:(List Int)) (p1_2:Int) (p1_3:(List Int)):wM none [.agg [.int .i64 p0_0,.sl false false p0_1.length (ae (eI .i64) p0_1),.int .i64 p0_2,.sl false false p0_3.length (ae (eI .i64) p0_3)],.agg [.int .i64 p1_0,.sl false false p1_1.length (ae (eI .i64) p1_1),.int .i64 p1_2,.sl false false p1_3.length (ae (eI .i64) p1_3)]]=(lL (ak.mk (al.mk p0_0 p0_1) (al.mk p0_2 p0_3)) (ak.mk (al.mk p1_0 p1_1) (al.mk p1_2 p1_3))).map fun r:ak×Int=>(.clean (.tup [.agg [.int .i64 r.1.aH.ag,.sl false false r.1.aH.aa.length (ae (eI .i64) r.1.aH.aa),.int .i64 r.1.aK.ag,.sl false false r.1.aK.aa.length (ae (eI .i64) r.1.aK.aa)],.int .i64 r.2]),none):=aU _ _ _ ((ak.mk (al.mk p0_0 p0_1) (al.mk p0_2 p0_3)),(ak.mk (al.mk p1_0 p1_1) (al.mk p1_2 p1_3)))
noncomputable def rR:Env:=(Am.ext (Am.ext (Am.ext a6 22 false eM) 48 false jL) 49 false oH)
theorem LR:bA Try.prog rR:=(((bA.none.add fD false).add mW false).add uj false)
theorem fj:type_of% (ai @w<|ai @ct<|ai @gE<|ai @mE<|@rR.eq_1):=⟨@w,@ct,@gE,@mE,@rR.eq_1⟩
theorem PT (p0:ak) (p1:ak) (r:ak×Int) (hh:lL p0 p1=some r):bc .clean tab rR FU Try.f71 none [.agg [.int .i64 p0.aH.ag,.sl false false p0.aH.aa.length (ae (eI .i64) p0.aH.aa),.int .i64 p0.aK.ag,.sl false false p0.aK.aa.length (ae (eI .i64) p0.aK.aa)],.agg [.int .i64 p1.aH.ag,.sl false false p1.aH.aa.length (ae (eI .i64) p1.aH.aa),.int .i64 p1.aK.ag,.sl false false p1.aK.aa.length (ae (eI .i64) p1.aK.aa)]]=some (.clean (.tup [.agg [.int .i64 r.1.aH.ag,.sl false false r.1.aH.aa.length (ae (eI .i64) r.1.aH.aa),.int .i64 r.1.aK.ag,.sl false false r.1.aK.aa.length (ae (eI .i64) r.1.aK.aa)],.int .i64 r.2]),none):=by
 refine aC rfl Try.ntmps71 Try.results71 ?_
 unfold lL at hh
 obtain⟨r1,hr1,hh⟩:=ah hh
 try simp only[fj,seval,hr1]
 obtain⟨o2,ho2,hh⟩:=ah hh
 refine bt 0 (fun s t H e=>match s with|s6j1=>∃v2j1:Nat,∃v3j1:Nat,∃v4j1:Nat,t 2=.ptr 2 v2j1 0∧t 3=.ptr 3 v3j1 0∧t 4=.ptr 4 v4j1 0∧t 6=.bool s6j1∧H 2=some ⟨v2j1,41,[.int .i64 p0.aH.ag,.sl false false p0.aH.aa.length (ae (eI .i64) p0.aH.aa),.int .i64 p0.aK.ag,.sl false false p0.aK.aa.length (ae (eI .i64) p0.aK.aa)],false,false,false⟩∧H 3=some ⟨v3j1,41,[.int .i64 p1.aH.ag,.sl false false p1.aH.aa.length (ae (eI .i64) p1.aH.aa),.int .i64 p1.aK.ag,.sl false false p1.aK.aa.length (ae (eI .i64) p1.aK.aa)],false,false,false⟩∧H 4=some ⟨v4j1,41,[.int .i64 0,.sl true true 0 [],.int .i64 0,.sl true true 0 []],false,false,false⟩) (fun s=>s=o2) ?_ ?_
 ·rintro s6j1 t H e ⟨v2j1,v3j1,v4j1,Zj1⟩ rfl
  try dsimp only at hh
  try simp only[fj,seval,hr1,Zj1]
  refine sp aq hh (fun _ hh =>?_) (fun _ hh =>?_)
  ·cases hh
   try simp only[fj,seval,hr1,Zj1]
  ·try simp only[fj,seval,hr1,Zj1]
   refine sp aq hh (fun _ hh =>?_) (fun _ hh =>?_)
   ·cases hh
    try simp only[fj,seval,hr1,Zj1]
   ·obtain⟨r5,hr5,hh⟩:=ah hh
    obtain⟨r6,hr6,hh⟩:=ah hh
    obtain⟨r7,hr7,hh⟩:=ah hh
    try simp only[fj,seval,hr1,Zj1,hr5,hr6,hr7]
    refine bn (by kernel_rfl) ?_
    cases hh
    try simp only[fj,seval,hr1,Zj1,hr5,hr6,hr7]
 ·clear hh
  have hh:=ho2
  try simp only[fj,seval,hr1]
  refine sp bd hh (fun _ hh =>?_) (fun _ hh =>?_)
  ·cases hh
   try simp only[fj,seval,hr1]
   rw[au]
   refine⟨_,rfl,?_⟩
   refine⟨0,0,0,?_,?_,?_,?_,?_,?_,?_⟩
   all_goals first|rfl|(simp only[fj,seval,hr1]<;>rfl)
  ·obtain⟨r9,hr9,hh⟩:=ah hh
   cases hh
   try simp only[fj,seval,hr1,hr9]
   rw[au]
   refine⟨_,rfl,?_⟩
   refine⟨0,0,0,?_,?_,?_,?_,?_,?_,?_⟩
   all_goals first|rfl|(simp only[fj,seval,hr1,hr9]<;>rfl)
theorem NG:b6 Try.prog 71 wM:=b6.of (mode := .clean) tok LR mixed Try.func71 (by kernel_rfl) ⟨by kernel_rfl,by kernel_rfl⟩ (fun _=>afg (by kernel_rfl)) (fun x r h=>PT x.1 x.2 r h)
noncomputable def gW:=E8 69 74 5 aF (fU (aI .i64)) (fun (q:aw) (x:Int)=>de q x) (fun r:Unit =>.tup [])
noncomputable def fu:Env:=(Am.ext (Am.ext (Am.n9 69 (0,ee) (Am.ext (Am.ext a6 30 false re) 44 false kI)) 70 true jf) 71 false wM)
theorem qJ:bA Try.prog fu:=(((bA.n9 ((bA.none.add Ap false).add nw false) cZ.callable cZ.calls).add pn true).add NG false)
theorem bg:type_of% (ai @w<|ai @Z5<|ai @Z4<|ai @su<|ai @gN<|ai @DT<|@fu.eq_1):=⟨@w,@Z5,@Z4,@su,@gN,@DT,@fu.eq_1⟩
theorem sn (pre post:List D) (p0:aw) (p1:Int) (r:aw×(Unit)) (hh:de p0 p1=some r):sQ tab fu FU Try.f41 69 74 5 pre.length (pre++(aF.cells p0++post)) [.int .i64 p1]=some (.tup [],pre++(aF.cells r.1++post)):=by
 refine vT rfl Try.ntmps41 Try.results41 ?_
 rw[cV]
 unfold de at hh
 have i1:=iH pre post p0 p1
 simp only[bI]at i1
 obtain⟨r2,hr2,hh⟩:=ah hh
 have bp3:pB 0 (1)=some (4*(1)+1):=jN (by omega)
 try simp only[bg,seval,i1,hr2,bp3]
 refine sp aq hh (fun _ hh =>?_) (fun _ hh =>?_)
 ·cases hh
  try simp only[bg,seval,i1,hr2,bp3]
 ·obtain⟨r5,hr5,hh⟩:=ah hh
  obtain⟨x6,hx6,hh⟩:=ah hh
  have ax6:=bQ bo hx6
  simp only[bI]at ax6
  have aq7:=jv bo 1 hx6
  have fq7:=iN bo 1 4 (afg rfl) hx6
  simp only[bI]at aq7 fq7
  obtain⟨r8,hr8,hh⟩:=ah hh
  try simp only[bg,seval,i1,hr2,bp3,hr5,ax6,aq7,fq7,hr8]
  refine bn (by kernel_rfl) ?_
  have i9:=p8 [] [] r2.1.bk r2.2.1 (IntKind.i64.wrap (r2.2.1+1))
  simp only[List.nil_append,afo,List.length_nil,bI]at i9
  obtain⟨r10,hr10,hh⟩:=ah hh
  have bp11:pB (4*(1)+1) (4)=some (4*(4)+1):=jN (by omega)
  obtain⟨r12,hr12,hh⟩:=ah hh
  try simp only[bg,seval,i1,hr2,bp3,hr5,ax6,aq7,fq7,hr8,i9,hr10,bp11,hr12]
  refine bn (by kernel_rfl) ?_
  try simp only[bg,seval,i1,hr2,bp3,hr5,ax6,aq7,fq7,hr8,i9,hr10,bp11,hr12]
  obtain⟨o19,ho19,hh⟩:=ah hh
  refine aB (fun s t H e=>match s with|(s58a,r0_4a)=>∃v6a:Nat,∃vn0a:Nat,t 0=.ptr 0 0 pre.length∧t 6=.ptr 6 v6a 0∧t 57=.int .i64 ((r10).length:Int)∧t 58=.int .i64 s58a∧H 0=some ⟨0,69,[.nr 74 5 vn0a (pre++([.int .i64 r12.1.aH.ag,.sl false false r12.1.aH.aa.length (ae (eI .i64) r12.1.aH.aa),.int .i64 r12.1.aK.ag,.sl false false r12.1.aK.aa.length (ae (eI .i64) r12.1.aK.aa),.nx (r0_4a).length (ae bo r0_4a)]++post))],false,true,true⟩∧H 6=some ⟨v6a,41,[.int .i64 r8.1.aH.ag,.sl false false r8.1.aH.aa.length (ae (eI .i64) r8.1.aH.aa),.int .i64 r8.1.aK.ag,.sl false false r8.1.aK.aa.length (ae (eI .i64) r8.1.aK.aa)],false,false,false⟩∧vn0a<=4*e) (fun o x t H e=>match o with|r0_4ax=>x=.exit 0∧∃vn0ax:Nat,t 0=.ptr 0 0 pre.length∧H 0=some ⟨0,69,[.nr 74 5 vn0ax (pre++([.int .i64 r12.1.aH.ag,.sl false false r12.1.aH.aa.length (ae (eI .i64) r12.1.aH.aa),.int .i64 r12.1.aK.ag,.sl false false r12.1.aK.aa.length (ae (eI .i64) r12.1.aK.aa),.nx (r0_4ax).length (ae bo r0_4ax)]++post))],false,true,true⟩∧vn0ax<=4*e) ho19 ?_ ?_ ?_
  ·refine⟨3,4*(4)+1,?_,?_,?_,?_,?_,?_,?_⟩
   all_goals (first|rfl|omega|(simp only[bg,seval,i1,hr2,bp3,hr5,ax6,aq7,fq7,hr8,i9,hr10,bp11,hr12]<;>rfl))
  ·rintro⟨s58a,r0_4a⟩ t H e ⟨v6a,vn0a,Za⟩ c hh
   simp only[dU]at hh
   try simp only[bg,seval,i1,hr2,bp3,hr5,ax6,aq7,fq7,hr8,i9,hr10,bp11,hr12,Za]
   refine sp aq hh (fun _ hh =>?_) (fun _ hh =>?_)
   ·obtain⟨x21,hx21,hh⟩:=ah hh
    have ax21:=bQ bo hx21
    simp only[bI]at ax21
    have aq22:=jv bo 1 hx21
    have fq22:=iN bo 1 4 (afg rfl) hx21
    simp only[bI]at aq22 fq22
    obtain⟨r23,hr23,hh⟩:=ah hh
    have ax21:=bQ bo hx21
    simp only[bI]at ax21
    have aq24:=jv bo 1 hx21
    have fq24:=iN bo 1 4 (afg rfl) hx21
    simp only[bI]at aq24 fq24
    have p25:=eO bo (x':=(dL.mk x21.ka r23.1)) (fo:=1) (cs:=[.int .i64 r23.1.aH.ag,.sl false false r23.1.aH.aa.length (ae (eI .i64) r23.1.aH.aa),.int .i64 r23.1.aK.ag,.sl false false r23.1.aK.aa.length (ae (eI .i64) r23.1.aK.aa)]) hx21 rfl (afg rfl)
    simp only[bI,Nat.add_zero]at p25
    have up25:=p25
    simp only[putCells,List.length_cons,List.length_nil,aen,Nat.reduceAdd]at up25
    try simp only[bg,seval,i1,hr2,bp3,hr5,ax6,aq7,fq7,hr8,i9,hr10,bp11,hr12,Za,ax21,aq22,fq22,hr23,ax21,aq24,fq24,p25,up25]
    refine bn (by kernel_rfl) ?_
    cases hh
    try simp only[bg,seval,i1,hr2,bp3,hr5,ax6,aq7,fq7,hr8,i9,hr10,bp11,hr12,Za,ax21,aq22,fq22,hr23,ax21,aq24,fq24,p25,up25]
    refine j6 ?_
    refine⟨v6a,vn0a,?_,?_,?_,?_,?_,?_,?_⟩
    all_goals (first|rfl|omega|(simp only[bg,seval,i1,hr2,bp3,hr5,ax6,aq7,fq7,hr8,i9,hr10,bp11,hr12,Za,ax21,aq22,fq22,hr23,ax21,aq24,fq24,p25,up25]<;>rfl))
   ·cases hh
    try simp only[bg,seval,i1,hr2,bp3,hr5,ax6,aq7,fq7,hr8,i9,hr10,bp11,hr12,Za]
    refine lj ?_
    refine⟨rfl,⟨vn0a,?_,?_,?_⟩⟩
    all_goals (first|rfl|omega|(simp only[bg,seval,i1,hr2,bp3,hr5,ax6,aq7,fq7,hr8,i9,hr10,bp11,hr12,Za]<;>rfl))
  ·rintro x t H e hx
   obtain⟨r0_4ax,rfl⟩:∃z,z=o19:=⟨_,rfl⟩
   dsimp only at hx hh
   obtain⟨rfl,⟨vn0ax,Zax⟩⟩:=hx
   cases hh
   try simp only[bg,seval,i1,hr2,bp3,hr5,ax6,aq7,fq7,hr8,i9,hr10,bp11,hr12,Zax]
theorem km:X6 Try.prog 41 gW:=X6.of tok qJ mixed Try.func41 (by kernel_rfl) ⟨by kernel_rfl,by kernel_rfl⟩ (fun _=>afg (by kernel_rfl)) (fun pre post q x q' r h=>sn pre post q x (q',r) h)
noncomputable def q9:=fX (jh (cX az) (fU (cX az))) (fun x:ak×ak=>nd x.1 x.2) (fun r:ak×Int =>.clean (.tup [.agg [.int .i64 r.1.aH.ag,.sl false false r.1.aH.aa.length (ae (eI .i64) r.1.aH.aa),.int .i64 r.1.aK.ag,.sl false false r.1.aK.aa.length (ae (eI .i64) r.1.aK.aa)],.int .i64 r.2]))
theorem ss (p0_0:Int) (p0_1:(List Int)) (p0_2:Int) (p0_3:(List Int)) (p1_0:Int) (p1_1:(List Int)) (p1_2:Int) (p1_3:(List Int)):q9 none [.agg [.int .i64 p0_0,.sl false false p0_1.length (ae (eI .i64) p0_1),.int .i64 p0_2,.sl false false p0_3.length (ae (eI .i64) p0_3)],.agg [.int .i64 p1_0,.sl false false p1_1.length (ae (eI .i64) p1_1),.int .i64 p1_2,.sl false false p1_3.length (ae (eI .i64) p1_3)]]=(nd (ak.mk (al.mk p0_0 p0_1) (al.mk p0_2 p0_3)) (ak.mk (al.mk p1_0 p1_1) (al.mk p1_2 p1_3))).map fun r:ak×Int=>(.clean (.tup [.agg [.int .i64 r.1.aH.ag,.sl false false r.1.aH.aa.length (ae (eI .i64) r.1.aH.aa),.int .i64 r.1.aK.ag,.sl false false r.1.aK.aa.length (ae (eI .i64) r.1.aK.aa)],.int .i64 r.2]),none):=aU _ _ _ ((ak.mk (al.mk p0_0 p0_1) (al.mk p0_2 p0_3)),(ak.mk (al.mk p1_0 p1_1) (al.mk p1_2 p1_3)))
noncomputable def rT:Env:=(Am.ext (Am.ext (Am.ext a6 22 false eM) 48 false jL) 49 false oH)
theorem LU:bA Try.prog rT:=(((bA.none.add fD false).add mW false).add uj false)
theorem gP:type_of% (ai @w<|ai @ct<|ai @gE<|ai @mE<|@rT.eq_1):=⟨@w,@ct,@gE,@mE,@rT.eq_1⟩
theorem PV (p0:ak) (p1:ak) (r:ak×Int) (hh:nd p0 p1=some r):bc .clean tab rT FU Try.f19 none [.agg [.int .i64 p0.aH.ag,.sl false false p0.aH.aa.length (ae (eI .i64) p0.aH.aa),.int .i64 p0.aK.ag,.sl false false p0.aK.aa.length (ae (eI .i64) p0.aK.aa)],.agg [.int .i64 p1.aH.ag,.sl false false p1.aH.aa.length (ae (eI .i64) p1.aH.aa),.int .i64 p1.aK.ag,.sl false false p1.aK.aa.length (ae (eI .i64) p1.aK.aa)]]=some (.clean (.tup [.agg [.int .i64 r.1.aH.ag,.sl false false r.1.aH.aa.length (ae (eI .i64) r.1.aH.aa),.int .i64 r.1.aK.ag,.sl false false r.1.aK.aa.length (ae (eI .i64) r.1.aK.aa)],.int .i64 r.2]),none):=by
 refine aC rfl Try.ntmps19 Try.results19 ?_
 unfold nd at hh
 obtain⟨r1,hr1,hh⟩:=ah hh
 try simp only[gP,seval,hr1]
 obtain⟨o2,ho2,hh⟩:=ah hh
 refine bt 0 (fun s t H e=>match s with|s13j1=>∃v2j1:Nat,∃v3j1:Nat,∃v4j1:Nat,t 2=.ptr 2 v2j1 0∧t 3=.ptr 3 v3j1 0∧t 4=.ptr 4 v4j1 0∧t 13=.bool s13j1∧H 2=some ⟨v2j1,41,[.int .i64 p0.aH.ag,.sl false false p0.aH.aa.length (ae (eI .i64) p0.aH.aa),.int .i64 p0.aK.ag,.sl false false p0.aK.aa.length (ae (eI .i64) p0.aK.aa)],false,false,false⟩∧H 3=some ⟨v3j1,41,[.int .i64 p1.aH.ag,.sl false false p1.aH.aa.length (ae (eI .i64) p1.aH.aa),.int .i64 p1.aK.ag,.sl false false p1.aK.aa.length (ae (eI .i64) p1.aK.aa)],false,false,false⟩∧H 4=some ⟨v4j1,41,[.int .i64 0,.sl true true 0 [],.int .i64 0,.sl true true 0 []],false,false,false⟩) (fun s=>s=o2) ?_ ?_
 ·rintro s13j1 t H e ⟨v2j1,v3j1,v4j1,Zj1⟩ rfl
  try dsimp only at hh
  try simp only[gP,seval,hr1,Zj1]
  refine sp aq hh (fun _ hh =>?_) (fun _ hh =>?_)
  ·cases hh
   try simp only[gP,seval,hr1,Zj1]
  ·obtain⟨r4,hr4,hh⟩:=ah hh
   obtain⟨r5,hr5,hh⟩:=ah hh
   obtain⟨r6,hr6,hh⟩:=ah hh
   try simp only[gP,seval,hr1,Zj1,hr4,hr5,hr6]
   refine bn (by kernel_rfl) ?_
   cases hh
   try simp only[gP,seval,hr1,Zj1,hr4,hr5,hr6]
 ·clear hh
  have hh:=ho2
  try simp only[gP,seval,hr1]
  refine sp bd hh (fun _ hh =>?_) (fun _ hh =>?_)
  ·cases hh
   try simp only[gP,seval,hr1]
   rw[au]
   refine⟨_,rfl,?_⟩
   refine⟨0,0,0,?_,?_,?_,?_,?_,?_,?_⟩
   all_goals first|rfl|(simp only[gP,seval,hr1]<;>rfl)
  ·obtain⟨r8,hr8,hh⟩:=ah hh
   cases hh
   try simp only[gP,seval,hr1,hr8]
   rw[au]
   refine⟨_,rfl,?_⟩
   refine⟨0,0,0,?_,?_,?_,?_,?_,?_,?_⟩
   all_goals first|rfl|(simp only[gP,seval,hr1,hr8]<;>rfl)
theorem Ao:b6 Try.prog 19 q9:=b6.of (mode := .clean) tok LU mixed Try.func19 (by kernel_rfl) ⟨by kernel_rfl,by kernel_rfl⟩ (fun _=>afg (by kernel_rfl)) (fun x r h=>PV x.1 x.2 r h)
noncomputable def jM:=fX (jh (cX az) (jh (cX az) (fU (cX az)))) (fun x:ak×ak×ak=>fi x.1 x.2.1 x.2.2) (fun r:ak =>.clean (.agg [.int .i64 r.aH.ag,.sl false false r.aH.aa.length (ae (eI .i64) r.aH.aa),.int .i64 r.aK.ag,.sl false false r.aK.aa.length (ae (eI .i64) r.aK.aa)]))
theorem gF (p0_0:Int) (p0_1:(List Int)) (p0_2:Int) (p0_3:(List Int)) (p1_0:Int) (p1_1:(List Int)) (p1_2:Int) (p1_3:(List Int)) (p2_0:Int) (p2_1:(List Int)) (p2_2:Int) (p2_3:(List Int)):jM none [.agg [.int .i64 p0_0,.sl false false p0_1.length (ae (eI .i64) p0_1),.int .i64 p0_2,.sl false false p0_3.length (ae (eI .i64) p0_3)],.agg [.int .i64 p1_0,.sl false false p1_1.length (ae (eI .i64) p1_1),.int .i64 p1_2,.sl false false p1_3.length (ae (eI .i64) p1_3)],.agg [.int .i64 p2_0,.sl false false p2_1.length (ae (eI .i64) p2_1),.int .i64 p2_2,.sl false false p2_3.length (ae (eI .i64) p2_3)]]=(fi (ak.mk (al.mk p0_0 p0_1) (al.mk p0_2 p0_3)) (ak.mk (al.mk p1_0 p1_1) (al.mk p1_2 p1_3)) (ak.mk (al.mk p2_0 p2_1) (al.mk p2_2 p2_3))).map fun r:ak=>(.clean (.agg [.int .i64 r.aH.ag,.sl false false r.aH.aa.length (ae (eI .i64) r.aH.aa),.int .i64 r.aK.ag,.sl false false r.aK.aa.length (ae (eI .i64) r.aK.aa)]),none):=aU _ _ _ ((ak.mk (al.mk p0_0 p0_1) (al.mk p0_2 p0_3)),(ak.mk (al.mk p1_0 p1_1) (al.mk p1_2 p1_3)),(ak.mk (al.mk p2_0 p2_1) (al.mk p2_2 p2_3)))
noncomputable def n7:Env:=(Am.ext (Am.ext a6 18 false oF) 19 false q9)
theorem EW:bA Try.prog n7:=((bA.none.add ui false).add Ao false)
theorem J0:type_of% (ai @w<|ai @mD<|ai @ss<|@n7.eq_1):=⟨@w,@mD,@ss,@n7.eq_1⟩
theorem Jk (p0:ak) (p1:ak) (p2:ak) (r:ak) (hh:fi p0 p1 p2=some r):bc .clean tab n7 FU Try.f43 none [.agg [.int .i64 p0.aH.ag,.sl false false p0.aH.aa.length (ae (eI .i64) p0.aH.aa),.int .i64 p0.aK.ag,.sl false false p0.aK.aa.length (ae (eI .i64) p0.aK.aa)],.agg [.int .i64 p1.aH.ag,.sl false false p1.aH.aa.length (ae (eI .i64) p1.aH.aa),.int .i64 p1.aK.ag,.sl false false p1.aK.aa.length (ae (eI .i64) p1.aK.aa)],.agg [.int .i64 p2.aH.ag,.sl false false p2.aH.aa.length (ae (eI .i64) p2.aH.aa),.int .i64 p2.aK.ag,.sl false false p2.aK.aa.length (ae (eI .i64) p2.aK.aa)]]=some (.clean (.agg [.int .i64 r.aH.ag,.sl false false r.aH.aa.length (ae (eI .i64) r.aH.aa),.int .i64 r.aK.ag,.sl false false r.aK.aa.length (ae (eI .i64) r.aK.aa)]),none):=by
 refine aC rfl Try.ntmps43 Try.results43 ?_
 unfold fi at hh
 obtain⟨r1,hr1,hh⟩:=ah hh
 obtain⟨r2,hr2,hh⟩:=ah hh
 cases hh
 try simp only[J0,seval,hr1,hr2]
theorem mX:b6 Try.prog 43 jM:=b6.of (mode := .clean) tok EW mixed Try.func43 (by kernel_rfl) ⟨by kernel_rfl,by kernel_rfl⟩ (fun _=>afg (by kernel_rfl)) (fun x r h=>Jk x.1 x.2.1 x.2.2 r h)
theorem aas:UX Try.prog 99 (74,5,72):=YA
noncomputable def iZ:=E8 69 74 5 aF (jh (aI .i64) (fU (cX az))) (fun (q:aw) (x:Int×ak)=>dN q x.1 x.2) (fun r:Unit =>.tup [])
theorem tq (pre post:List D) (p0:aw) (p1:Int) (p2_0:Int) (p2_1:(List Int)) (p2_2:Int) (p2_3:(List Int)):iZ 69 74 5 pre.length (pre++(aF.cells p0++post)) [.int .i64 p1,.agg [.int .i64 p2_0,.sl false false p2_1.length (ae (eI .i64) p2_1),.int .i64 p2_2,.sl false false p2_3.length (ae (eI .i64) p2_3)]]=(dN p0 p1 (ak.mk (al.mk p2_0 p2_1) (al.mk p2_2 p2_3))).map fun r=>(.tup [],pre++(aF.cells r.1++post)):=Jo _ _ _ _ _ _ _ pre post p0 (p1,(ak.mk (al.mk p2_0 p2_1) (al.mk p2_2 p2_3)))
noncomputable def gz:Env:=(Am.zd 99 (74,5,72) (Am.n9 69 (0,ee) (Am.ext (Am.ext a6 43 false jM) 44 false kI)))
theorem th:bA Try.prog gz:=(bA.zd (bA.n9 ((bA.none.add mX false).add nw false) cZ.callable cZ.calls) aas)
theorem eW:type_of% (ai @w<|ai @Z5<|ai @Z4<|ai @gF<|ai @gN<|@gz.eq_1):=⟨@w,@Z5,@Z4,@gF,@gN,@gz.eq_1⟩
theorem uf (pre post:List D) (p0:aw) (p1:Int) (p2:ak) (r:aw×(Unit)) (hh:dN p0 p1 p2=some r):sQ tab gz FU Try.f72 69 74 5 pre.length (pre++(aF.cells p0++post)) [.int .i64 p1,.agg [.int .i64 p2.aH.ag,.sl false false p2.aH.aa.length (ae (eI .i64) p2.aH.aa),.int .i64 p2.aK.ag,.sl false false p2.aK.aa.length (ae (eI .i64) p2.aK.aa)]]=some (.tup [],pre++(aF.cells r.1++post)):=by
 refine vT rfl Try.ntmps72 Try.results72 ?_
 rw[cV]
 unfold dN at hh
 have i1:=iH pre post p0 p1
 simp only[bI]at i1
 obtain⟨r2,hr2,hh⟩:=ah hh
 have bp3:pB 0 (2)=some (4*(2)+1):=jN (by omega)
 try simp only[eW,ne_eq,not_false_eq_true,seval,i1,hr2,bp3]
 refine sp aq hh (fun _ hh =>?_) (fun _ hh =>?_)
 ·obtain⟨x5,hx5,hh⟩:=ah hh
  have ax5:=bQ bo hx5
  simp only[bI]at ax5
  have aq6:=jv bo 1 hx5
  have fq6:=iN bo 1 4 (afg rfl) hx5
  simp only[bI]at aq6 fq6
  obtain⟨r7,hr7,hh⟩:=ah hh
  obtain⟨r8,hr8,hh⟩:=ah hh
  have ax5:=bQ bo hx5
  simp only[bI]at ax5
  have aq9:=jv bo 1 hx5
  have fq9:=iN bo 1 4 (afg rfl) hx5
  simp only[bI]at aq9 fq9
  have p10:=eO bo (x':=(dL.mk x5.ka r8)) (fo:=1) (cs:=[.int .i64 r8.aH.ag,.sl false false r8.aH.aa.length (ae (eI .i64) r8.aH.aa),.int .i64 r8.aK.ag,.sl false false r8.aK.aa.length (ae (eI .i64) r8.aK.aa)]) hx5 rfl (afg rfl)
  simp only[bI,Nat.add_zero]at p10
  have up10:=p10
  simp only[putCells,List.length_cons,List.length_nil,aen,Nat.reduceAdd]at up10
  try simp only[eW,ne_eq,not_false_eq_true,seval,i1,hr2,bp3,ax5,aq6,fq6,hr7,hr8,ax5,aq9,fq9,p10,up10]
  refine bn (by kernel_rfl) ?_
  cases hh
  try simp only[eW,ne_eq,not_false_eq_true,seval,i1,hr2,bp3,ax5,aq6,fq6,hr7,hr8,ax5,aq9,fq9,p10,up10]
 ·obtain⟨x11,hx11,hh⟩:=ah hh
  obtain⟨q12a,q12b,q12c,q12d,q12e⟩:=Yz bo hx11
  simp only[bI]at q12e
  have bp13:pB (4*(2)+1) (4)=some (4*(4)+1):=jN (by omega)
  try simp only[eW,ne_eq,not_false_eq_true,seval,i1,hr2,bp3,q12a,q12b,q12c,q12d,q12e,bp13]
  refine bn (by kernel_rfl) ?_
  cases hh
  try simp only[eW,ne_eq,not_false_eq_true,seval,i1,hr2,bp3,q12a,q12b,q12c,q12d,q12e,bp13]
theorem lV:X6 Try.prog 72 iZ:=X6.of tok th mixed Try.func72 (by kernel_rfl) ⟨by kernel_rfl,by kernel_rfl⟩ (fun _=>afg (by kernel_rfl)) (fun pre post q x q' r h=>uf pre post q x.1 x.2 (q',r) h)
noncomputable def ja:=E8 69 74 5 aF (jh (aI .i64) (fU (cX cF))) (fun (q:aw) (x:Int×aw)=>dO q x.1 x.2) (fun r:Unit =>.tup [])
noncomputable def gA:Env:=(Am.n9 72 (0,iZ) (Am.ext (Am.n9 69 (0,ee) (Am.ext (Am.ext a6 43 false jM) 44 false kI)) 70 true jf))
theorem tj:bA Try.prog gA:=(bA.n9 ((bA.n9 ((bA.none.add mX false).add nw false) cZ.callable cZ.calls).add pn true) lV.callable lV.calls)
theorem bx:type_of% (ai @w<|ai @Z5<|ai @Z4<|ai @gF<|ai @gN<|@gA.eq_1):=⟨@w,@Z5,@Z4,@gF,@gN,@gA.eq_1⟩
theorem ug (pre post:List D) (p0:aw) (p1:Int) (p2:aw) (r:aw×(Unit)) (hh:dO p0 p1 p2=some r):sQ tab gA FU Try.f42 69 74 5 pre.length (pre++(aF.cells p0++post)) [.int .i64 p1,.agg [.int .i64 p2.aO.aH.ag,.sl false false p2.aO.aH.aa.length (ae (eI .i64) p2.aO.aH.aa),.int .i64 p2.aO.aK.ag,.sl false false p2.aO.aK.aa.length (ae (eI .i64) p2.aO.aK.aa),.sl false false p2.bk.length (ae bo p2.bk)]]=some (.tup [],pre++(aF.cells r.1++post)):=by
 refine vT rfl Try.ntmps42 Try.results42 ?_
 rw[cV]
 unfold dO at hh
 have i1:=iH pre post p0 p1
 simp only[bI]at i1
 obtain⟨r2,hr2,hh⟩:=ah hh
 have bp3:pB 0 (2)=some (4*(2)+1):=jN (by omega)
 try simp only[bx,seval,i1,hr2,bp3]
 refine sp aq hh (fun _ hh =>?_) (fun _ hh =>?_)
 ·cases hh
  try simp only[bx,seval,i1,hr2,bp3]
 ·obtain⟨x5,hx5,hh⟩:=ah hh
  have ax5:=bQ bo hx5
  simp only[bI]at ax5
  have aq6:=jv bo 1 hx5
  have fq6:=iN bo 1 4 (afg rfl) hx5
  simp only[bI]at aq6 fq6
  have i7:=p8 [] [] r2.1.bk r2.2.1 (IntKind.i64.wrap (r2.2.1+1))
  simp only[List.nil_append,afo,List.length_nil,bI]at i7
  obtain⟨r8,hr8,hh⟩:=ah hh
  have bp9:pB (4*(2)+1) (5)=some (4*(5)+1):=jN (by omega)
  obtain⟨r10,hr10,hh⟩:=ah hh
  try simp only[bx,seval,i1,hr2,bp3,ax5,aq6,fq6,i7,hr8,bp9,hr10]
  refine bn (by kernel_rfl) ?_
  try simp only[bx,seval,i1,hr2,bp3,ax5,aq6,fq6,i7,hr8,bp9,hr10]
  obtain⟨o18,ho18,hh⟩:=ah hh
  refine aB (fun s t H e=>match s with|(s52a,r0_0a,r0_1a,r0_2a,r0_3a,r0_4a)=>∃v8a:Nat,∃vn0a:Nat,t 0=.ptr 0 0 pre.length∧t 8=.ptr 8 v8a 0∧t 50=.sl false false p2.bk.length (ae bo p2.bk)∧t 51=.int .i64 (p2.bk.length:Int)∧t 52=.int .i64 s52a∧H 0=some ⟨0,69,[.nr 74 5 vn0a (pre++([.int .i64 r0_0a,.sl false false r0_1a.length (ae (eI .i64) r0_1a),.int .i64 r0_2a,.sl false false r0_3a.length (ae (eI .i64) r0_3a),.nx (r0_4a).length (ae bo r0_4a)]++post))],false,true,true⟩∧H 8=some ⟨v8a,41,[.int .i64 x5.dD.aH.ag,.sl false false x5.dD.aH.aa.length (ae (eI .i64) x5.dD.aH.aa),.int .i64 x5.dD.aK.ag,.sl false false x5.dD.aK.aa.length (ae (eI .i64) x5.dD.aK.aa)],false,false,false⟩∧vn0a<=4*e) (fun o x t H e=>match o with|(r0_0ax,r0_1ax,r0_2ax,r0_3ax,r0_4ax)=>x=.exit 0∧∃vn0ax:Nat,t 0=.ptr 0 0 pre.length∧H 0=some ⟨0,69,[.nr 74 5 vn0ax (pre++([.int .i64 r0_0ax,.sl false false r0_1ax.length (ae (eI .i64) r0_1ax),.int .i64 r0_2ax,.sl false false r0_3ax.length (ae (eI .i64) r0_3ax),.nx (r0_4ax).length (ae bo r0_4ax)]++post))],false,true,true⟩∧vn0ax<=4*e) ho18 ?_ ?_ ?_
  ·refine⟨4,4*(5)+1,?_,?_,?_,?_,?_,?_,?_,?_⟩
   all_goals (first|rfl|omega|(simp only[bx,seval,i1,hr2,bp3,ax5,aq6,fq6,i7,hr8,bp9,hr10]<;>rfl))
  ·rintro⟨s52a,r0_0a,r0_1a,r0_2a,r0_3a,r0_4a⟩ t H e ⟨v8a,vn0a,Za⟩ c hh
   simp only[eF]at hh
   try simp only[bx,seval,i1,hr2,bp3,ax5,aq6,fq6,i7,hr8,bp9,hr10,Za]
   refine sp aq hh (fun _ hh =>?_) (fun _ hh =>?_)
   ·obtain⟨x20,hx20,hh⟩:=ah hh
    have ax20:=bQ bo hx20
    simp only[bI]at ax20
    obtain⟨r21,hr21,hh⟩:=ah hh
    obtain⟨r22,hr22,hh⟩:=ah hh
    have i23:=tq pre post (aw.mk (ak.mk (al.mk r0_0a r0_1a) (al.mk r0_2a r0_3a)) r0_4a) x20.ka r22.aH.ag r22.aH.aa r22.aK.ag r22.aK.aa
    simp only[bI]at i23
    obtain⟨r24,hr24,hh⟩:=ah hh
    have bp25:pB vn0a (e+1+1)=some (4*(e+1+1)+1):=jN (by omega)
    try simp only[bx,seval,i1,hr2,bp3,ax5,aq6,fq6,i7,hr8,bp9,hr10,Za,ax20,hr21,hr22,i23,hr24,bp25]
    refine bn (by kernel_rfl) ?_
    cases hh
    try simp only[bx,seval,i1,hr2,bp3,ax5,aq6,fq6,i7,hr8,bp9,hr10,Za,ax20,hr21,hr22,i23,hr24,bp25]
    refine j6 ?_
    refine⟨v8a,4*(e+1+1)+1,?_,?_,?_,?_,?_,?_,?_,?_⟩
    all_goals (first|rfl|omega|(simp only[bx,seval,i1,hr2,bp3,ax5,aq6,fq6,i7,hr8,bp9,hr10,Za,ax20,hr21,hr22,i23,hr24,bp25]<;>rfl))
   ·cases hh
    try simp only[bx,seval,i1,hr2,bp3,ax5,aq6,fq6,i7,hr8,bp9,hr10,Za]
    refine lj ?_
    refine⟨rfl,⟨vn0a,?_,?_,?_⟩⟩
    all_goals (first|rfl|omega|(simp only[bx,seval,i1,hr2,bp3,ax5,aq6,fq6,i7,hr8,bp9,hr10,Za]<;>rfl))
  ·rintro x t H e hx
   rcases o18 with⟨r0_0ax,r0_1ax,r0_2ax,r0_3ax,r0_4ax⟩
   dsimp only at hx hh
   obtain⟨rfl,⟨vn0ax,Zax⟩⟩:=hx
   cases hh
   try simp only[bx,seval,i1,hr2,bp3,ax5,aq6,fq6,i7,hr8,bp9,hr10,Zax]
theorem lW:X6 Try.prog 42 ja:=X6.of tok tj mixed Try.func42 (by kernel_rfl) ⟨by kernel_rfl,by kernel_rfl⟩ (fun _=>afg (by kernel_rfl)) (fun pre post q x q' r h=>ug pre post q x.1 x.2 (q',r) h)
noncomputable def oI:=fX (jh (cX nO) (fU (mL az))) (fun x:bY×(List ak)=>fP x.1 x.2) (fun r:(List ak)×Int =>.clean (.tup [.sl false false r.1.length (ae az r.1),.int .i64 r.2]))
theorem jC (p0_0:Int) (p0_1:(List dy)) (p1:(List ak)):oI none [.agg [.int .i64 p0_0,.sl false false p0_1.length (ae a8 p0_1)],.sl false false p1.length (ae az p1)]=(fP (bY.mk p0_0 p0_1) p1).map fun r:(List ak)×Int=>(.clean (.tup [.sl false false r.1.length (ae az r.1),.int .i64 r.2]),none):=aU _ _ _ ((bY.mk p0_0 p0_1),p1)
theorem qO {C:List (Bool×aw)} {i:Int} {p0:aw} (h:P.idx C i=some (false,p0)) (p1:Int):gW 69 74 5 (i.toNat*aX.size) (ae aX C) [.int .i64 p1]=(de p0 p1).map fun r=>(.tup [],ae aX (C.set i.toNat (false,r.1))):=SA lI h (p1)
theorem tp {C:List (Bool×aw)} {i:Int} {p0:aw} (h:P.idx C i=some (false,p0)) (p1:Int) (p2_0:Int) (p2_1:(List Int)) (p2_2:Int) (p2_3:(List Int)) (p2_4:(List dL)):ja 69 74 5 (i.toNat*aX.size) (ae aX C) [.int .i64 p1,.agg [.int .i64 p2_0,.sl false false p2_1.length (ae (eI .i64) p2_1),.int .i64 p2_2,.sl false false p2_3.length (ae (eI .i64) p2_3),.sl false false p2_4.length (ae bo p2_4)]]=(dO p0 p1 (aw.mk (ak.mk (al.mk p2_0 p2_1) (al.mk p2_2 p2_3)) p2_4)).map fun r=>(.tup [],ae aX (C.set i.toNat (false,r.1))):=SA lI h (p1,(aw.mk (ak.mk (al.mk p2_0 p2_1) (al.mk p2_2 p2_3)) p2_4))
noncomputable def sh:Env:=(Am.ext (Am.ext (Am.n9 42 (0,ja) (Am.n9 41 (5,gW) (Am.yl 40 kG (Am.ext (Am.ext (Am.ext a6 11 false kX) 14 false mK) 39 false ku)))) 43 false jM) 44 false kI)
theorem L7:bA Try.prog sh:=(((bA.n9 (bA.n9 (bA.yl (((bA.none.add oc false).add uk false).add qN false) nQ.callable nQ.calls) km.callable km.calls) lW.callable lW.calls).add mX false).add nw false)
theorem aS:type_of% (ai @w<|ai @Z4<|ai @iy<|ai @mY<|ai @kF<|ai @pq<|ai @gF<|ai @gN<|@sh.eq_1):=⟨@w,@Z4,@iy,@mY,@kF,@pq,@gF,@gN,@sh.eq_1⟩
theorem Qc (p0:bY) (p1:(List ak)) (r:(List ak)×Int) (hh:fP p0 p1=some r):bc .clean tab sh FU Try.f13 none [.agg [.int .i64 p0.aD,.sl false false p0.av.length (ae a8 p0.av)],.sl false false p1.length (ae az p1)]=some (.clean (.tup [.sl false false r.1.length (ae az r.1),.int .i64 r.2]),none):=by
 refine aC rfl Try.ntmps13 Try.results13 ?_
 unfold fP at hh
 obtain⟨r1,hr1,hh⟩:=ah hh
 try simp only[aS,seval,hr1]
 obtain⟨o2,ho2,hh⟩:=ah hh
 refine bt 0 (fun s t H e=>match s with|s14j1=>∃v2j1:Nat,t 1=.sl false false p1.length (ae az p1)∧t 2=.ptr 2 v2j1 0∧t 14=.bool s14j1∧H 2=some ⟨v2j1,24,[.int .i64 p0.aD,.sl false false p0.av.length (ae a8 p0.av)],false,false,false⟩) (fun s=>s=o2) ?_ ?_
 ·rintro s14j1 t H e ⟨v2j1,Zj1⟩ rfl
  try dsimp only at hh
  try simp only[aS,seval,hr1,Zj1]
  refine sp aq hh (fun _ hh =>?_) (fun _ hh =>?_)
  ·cases hh
   try simp only[aS,seval,hr1,Zj1]
  ·obtain⟨r4,hr4,hh⟩:=ah hh
   try simp only[aS,seval,hr1,Zj1,hr4]
   refine sp aq hh (fun _ hh =>?_) (fun _ hh =>?_)
   ·cases hh
    try simp only[aS,seval,hr1,Zj1,hr4]
   ·obtain⟨r6,hr6,hh⟩:=ah hh
    have er6:=GG lI r6
    try simp only[aS,seval,hr1,Zj1,hr4,hr6,er6]
    obtain⟨o32,ho32,hh⟩:=ah hh
    refine aB (fun s t H e=>match s with|(s35b,l32b)=>∃v2b:Nat,∃v32b:Nat,∃vn32b:Nat,t 2=.ptr 2 v2b 0∧t 6=.buf 32 v32b 5 0 (l32b).length∧t 34=.int .i64 ((r6).length:Int)∧t 35=.int .i64 s35b∧H 2=some ⟨v2b,24,[.int .i64 p0.aD,.sl false false p0.av.length (ae a8 p0.av)],false,false,false⟩∧H 32=some ⟨v32b,69,[.nr 74 5 vn32b (ae aX l32b)],false,true,true⟩∧vn32b<=4*e) (fun o x t H e=>match o with|l32bx=>x=.exit 1∧∃v2bx:Nat,∃v32bx:Nat,∃vn32bx:Nat,t 2=.ptr 2 v2bx 0∧t 6=.buf 32 v32bx 5 0 (l32bx).length∧H 2=some ⟨v2bx,24,[.int .i64 p0.aD,.sl false false p0.av.length (ae a8 p0.av)],false,false,false⟩∧H 32=some ⟨v32bx,69,[.nr 74 5 vn32bx (ae aX l32bx)],false,true,true⟩∧vn32bx<=4*e) ho32 ?_ ?_ ?_
    ·refine⟨v2j1,e+1,4*(e+1)+2,?_,?_,?_,?_,?_,?_,?_⟩
     all_goals (first|rfl|omega|(simp only[aS,seval,hr1,Zj1,hr4,hr6,er6]<;>rfl))
    ·rintro⟨s35b,l32b⟩ t H e ⟨v2b,v32b,vn32b,Zb⟩ c hh
     simp only[jH]at hh
     try simp only[aS,seval,hr1,hr4,hr6,er6,Zb]
     refine sp aq hh (fun _ hh =>?_) (fun _ hh =>?_)
     ·obtain⟨x34,hx34,hh⟩:=ah hh
      have ax34:=And.intro (pb hx34) (jQ aX hx34)
      simp only[bI]at ax34
      obtain⟨x35,hx35,hh⟩:=ah hh
      have gx35:P.idx l32b s35b=some (false,x35):=hx34.trans (congrArg some (NR hx35))
      have i36:=qO gx35 s35b
      simp only[bI]at i36
      obtain⟨r37,hr37,hh⟩:=ah hh
      have bp38:pB vn32b (e+1+1)=some (4*(e+1+1)+1):=jN (by omega)
      have fp38:=abh lI Cu Cw Cv gx35 r37.1
      rw[mr]at fp38
      try simp only[aS,seval,hr1,hr4,hr6,er6,Zb,ax34,i36,hr37,bp38,fp38]
      obtain⟨o48,ho48,hh⟩:=ah hh
      refine aB (fun s t H e=>match s with|(s8d,l32d)=>∃v2d:Nat,∃v32d:Nat,∃vn32d:Nat,t 2=.ptr 2 v2d 0∧t 6=.buf 32 v32d 5 0 (l32d).length∧t 7=.int .i64 s35b∧t 8=.int .i64 s8d∧t 34=.int .i64 ((r6).length:Int)∧t 35=.int .i64 s35b∧H 2=some ⟨v2d,24,[.int .i64 p0.aD,.sl false false p0.av.length (ae a8 p0.av)],false,false,false⟩∧H 32=some ⟨v32d,69,[.nr 74 5 vn32d (ae aX l32d)],false,true,true⟩∧vn32d<=4*e) (fun o x t H e=>match o with|l32dx=>x=.exit 3∧∃v2dx:Nat,∃v32dx:Nat,∃vn32dx:Nat,t 2=.ptr 2 v2dx 0∧t 6=.buf 32 v32dx 5 0 (l32dx).length∧t 34=.int .i64 ((r6).length:Int)∧t 35=.int .i64 s35b∧H 2=some ⟨v2dx,24,[.int .i64 p0.aD,.sl false false p0.av.length (ae a8 p0.av)],false,false,false⟩∧H 32=some ⟨v32dx,69,[.nr 74 5 vn32dx (ae aX l32dx)],false,true,true⟩∧vn32dx<=4*e) ho48 ?_ ?_ ?_
      ·refine⟨v2b,v32b,4*(e+1+1)+1,?_,?_,?_,?_,?_,?_,?_,?_,?_⟩
       all_goals (first|rfl|omega|(simp only[aS,seval,hr1,hr4,hr6,er6,Zb,ax34,i36,hr37,bp38,fp38]<;>rfl))
      ·rintro⟨s8d,l32d⟩ t H e ⟨v2d,v32d,vn32d,Zd⟩ c hh
       simp only[lv]at hh
       try simp only[aS,seval,hr1,hr4,hr6,er6,ax34,i36,hr37,bp38,fp38,Zd]
       refine sp aq hh (fun _ hh =>?_) (fun _ hh =>?_)
       ·obtain⟨x50,hx50,hh⟩:=ah hh
        have ax50:=And.intro (pb hx50) (jQ aX hx50)
        simp only[bI]at ax50
        obtain⟨x51,hx51,hh⟩:=ah hh
        have ax51:=And.intro (pb hx51) (jQ aX hx51)
        simp only[bI]at ax51
        obtain⟨x52,hx52,hh⟩:=ah hh
        have gx52:P.idx l32d s35b=some (true,x52):=hx51.trans (congrArg some (Oj hx52))
        have aq53:=jv aX 0 gx52
        have fq53:=iN aX 0 5 (afg rfl) gx52
        simp only[bI,Nat.add_zero]at aq53 fq53
        obtain⟨x54,hx54,hh⟩:=ah hh
        have gx54:P.idx l32d s8d=some (false,x54):=hx50.trans (congrArg some (NR hx54))
        have i55:=tp gx54 s35b x52.aO.aH.ag x52.aO.aH.aa x52.aO.aK.ag x52.aO.aK.aa x52.bk
        simp only[bI]at i55
        obtain⟨r56,hr56,hh⟩:=ah hh
        have bp57:pB vn32d (e+1)=some (4*(e+1)+1):=jN (by omega)
        try simp only[aS,seval,hr1,hr4,hr6,er6,ax34,i36,hr37,bp38,fp38,Zd,ax50,ax51,aq53,fq53,i55,hr56,bp57]
        refine bn (by kernel_rfl) ?_
        cases hh
        try simp only[aS,seval,hr1,hr4,hr6,er6,ax34,i36,hr37,bp38,fp38,Zd,ax50,ax51,aq53,fq53,i55,hr56,bp57]
        refine j6 ?_
        refine⟨v2d,v32d,4*(e+1)+1,?_,?_,?_,?_,?_,?_,?_,?_,?_⟩
        all_goals (first|rfl|omega|(simp only[aS,seval,hr1,hr4,hr6,er6,ax34,i36,hr37,bp38,fp38,Zd,ax50,ax51,aq53,fq53,i55,hr56,bp57]<;>rfl))
       ·cases hh
        try simp only[aS,seval,hr1,hr4,hr6,er6,ax34,i36,hr37,bp38,fp38,Zd]
        refine lj ?_
        refine⟨rfl,⟨v2d,v32d,vn32d,?_,?_,?_,?_,?_,?_,?_⟩⟩
        all_goals (first|rfl|omega|(simp only[aS,seval,hr1,hr4,hr6,er6,ax34,i36,hr37,bp38,fp38,Zd]<;>rfl))
      ·rintro x t H e hx
       obtain⟨l32dx,rfl⟩:∃z,z=o48:=⟨_,rfl⟩
       dsimp only at hx hh
       obtain⟨rfl,⟨v2dx,v32dx,vn32dx,Zdx⟩⟩:=hx
       cases hh
       try simp only[aS,seval,hr1,hr4,hr6,er6,ax34,i36,hr37,bp38,fp38,Zdx]
       refine j6 ?_
       refine⟨v2dx,v32dx,vn32dx,?_,?_,?_,?_,?_,?_,?_⟩
       all_goals (first|rfl|omega|(simp only[aS,seval,hr1,hr4,hr6,er6,ax34,i36,hr37,bp38,fp38,Zdx]<;>rfl))
     ·cases hh
      try simp only[aS,seval,hr1,hr4,hr6,er6,Zb]
      refine lj ?_
      refine⟨rfl,⟨v2b,v32b,vn32b,?_,?_,?_,?_,?_⟩⟩
      all_goals (first|rfl|omega|(simp only[aS,seval,hr1,hr4,hr6,er6,Zb]<;>rfl))
    ·rintro x t H e hx
     obtain⟨l32bx,rfl⟩:∃z,z=o32:=⟨_,rfl⟩
     dsimp only at hx hh
     obtain⟨rfl,⟨v2bx,v32bx,vn32bx,Zbx⟩⟩:=hx
     obtain⟨x58,hx58,hh⟩:=ah hh
     obtain⟨q59a,q59b,q59c,q59d,q59e⟩:=mk_one az hx58
     simp only[bI]at q59d
     try simp only[aS,seval,hr1,hr4,hr6,er6,Zbx,q59a,q59b,q59c,q59d,q59e]
     obtain⟨o78,ho78,hh⟩:=ah hh
     refine aB (fun s t H e=>match s with|(s10e,l9e)=>∃v9e:Nat,∃v32e:Nat,∃vn32e:Nat,t 6=.buf 32 v32e 5 0 (l32bx).length∧t 9=.buf 9 v9e 4 0 (l9e).length∧t 10=.int .i64 s10e∧H 9=some ⟨v9e,41,ae az l9e,false,true,false⟩∧H 32=some ⟨v32e,69,[.nr 74 5 vn32e (ae aX l32bx)],false,true,true⟩∧vn32e<=4*e) (fun o x t H e=>match o with|l9ex=>x=.exit 5∧∃v9ex:Nat,t 9=.buf 9 v9ex 4 0 (l9ex).length∧H 9=some ⟨v9ex,41,ae az l9ex,false,true,false⟩) ho78 ?_ ?_ ?_
     ·refine⟨e,v32bx,vn32bx,?_,?_,?_,?_,?_,?_⟩
      all_goals (first|rfl|omega|(simp only[aS,seval,hr1,hr4,hr6,er6,Zbx,q59a,q59b,q59c,q59d,q59e]<;>rfl))
     ·rintro⟨s10e,l9e⟩ t H e ⟨v9e,v32e,vn32e,Ze⟩ c hh
      simp only[jI]at hh
      try simp only[aS,seval,hr1,hr4,hr6,er6,q59a,q59b,q59c,q59d,q59e,Ze]
      refine sp aq hh (fun _ hh =>?_) (fun _ hh =>?_)
      ·obtain⟨x80,hx80,hh⟩:=ah hh
       have ax80:=And.intro (pb hx80) (jQ aX hx80)
       simp only[bI]at ax80
       obtain⟨x81,hx81,hh⟩:=ah hh
       have gx81:P.idx l32bx s10e=some (true,x81):=hx80.trans (congrArg some (Oj hx81))
       have aq82:=jv aX 0 gx81
       have fq82:=iN aX 0 4 (afg rfl) gx81
       simp only[bI,Nat.add_zero]at aq82 fq82
       obtain⟨r83,hr83,hh⟩:=ah hh
       obtain⟨r84,hr84,hh⟩:=ah hh
       try simp only[aS,seval,hr1,hr4,hr6,er6,q59a,q59b,q59c,q59d,q59e,Ze,ax80,aq82,fq82,hr83,hr84]
       refine bn (by kernel_rfl) ?_
       have ax80:=And.intro (pb hx80) (jQ aX hx80)
       simp only[bI]at ax80
       have aq85:=jv aX 4 gx81
       have fq85:=iN aX 4 1 (afg rfl) gx81
       simp only[bI,Nat.add_zero]at aq85 fq85
       try simp only[aS,seval,hr1,hr4,hr6,er6,q59a,q59b,q59c,q59d,q59e,Ze,ax80,aq82,fq82,hr83,hr84,ax80,aq85,fq85]
       obtain⟨o90,ho90,hh⟩:=ah hh
       refine aB (fun s t H e=>match s with|(s85g,r11_0g,r11_1g,r11_2g,r11_3g)=>∃v9g:Nat,∃v11g:Nat,∃v32g:Nat,∃vn32g:Nat,t 6=.buf 32 v32g 5 0 (l32bx).length∧t 9=.buf 9 v9g 4 0 (l9e).length∧t 10=.int .i64 s10e∧t 11=.ptr 11 v11g 0∧t 83=.sl false false x81.bk.length (ae bo x81.bk)∧t 84=.int .i64 (x81.bk.length:Int)∧t 85=.int .i64 s85g∧H 9=some ⟨v9g,41,ae az l9e,false,true,false⟩∧H 11=some ⟨v11g,41,[.int .i64 r11_0g,.sl false false r11_1g.length (ae (eI .i64) r11_1g),.int .i64 r11_2g,.sl false false r11_3g.length (ae (eI .i64) r11_3g)],false,false,false⟩∧H 32=some ⟨v32g,69,[.nr 74 5 vn32g (ae aX l32bx)],false,true,true⟩∧vn32g<=4*e) (fun o x t H e=>match o with|(r11_0gx,r11_1gx,r11_2gx,r11_3gx)=>x=.exit 7∧∃v9gx:Nat,∃v11gx:Nat,∃v32gx:Nat,∃vn32gx:Nat,t 6=.buf 32 v32gx 5 0 (l32bx).length∧t 9=.buf 9 v9gx 4 0 (l9e).length∧t 10=.int .i64 s10e∧t 11=.ptr 11 v11gx 0∧H 9=some ⟨v9gx,41,ae az l9e,false,true,false⟩∧H 11=some ⟨v11gx,41,[.int .i64 r11_0gx,.sl false false r11_1gx.length (ae (eI .i64) r11_1gx),.int .i64 r11_2gx,.sl false false r11_3gx.length (ae (eI .i64) r11_3gx)],false,false,false⟩∧H 32=some ⟨v32gx,69,[.nr 74 5 vn32gx (ae aX l32bx)],false,true,true⟩∧vn32gx<=4*e) ho90 ?_ ?_ ?_
       ·refine⟨v9e,e+1,v32e,vn32e,?_,?_,?_,?_,?_,?_,?_,?_,?_,?_,?_⟩
        all_goals (first|rfl|omega|(simp only[aS,seval,hr1,hr4,hr6,er6,q59a,q59b,q59c,q59d,q59e,Ze,ax80,aq82,fq82,hr83,hr84,ax80,aq85,fq85]<;>rfl))
       ·rintro⟨s85g,r11_0g,r11_1g,r11_2g,r11_3g⟩ t H e ⟨v9g,v11g,v32g,vn32g,Zg⟩ c hh
        simp only[nE]at hh
        try simp only[aS,seval,hr1,hr4,hr6,er6,q59a,q59b,q59c,q59d,q59e,ax80,aq82,fq82,hr83,hr84,ax80,aq85,fq85,Zg]
        refine sp aq hh (fun _ hh =>?_) (fun _ hh =>?_)
        ·obtain⟨x92,hx92,hh⟩:=ah hh
         have ax92:=bQ bo hx92
         simp only[bI]at ax92
         obtain⟨x93,hx93,hh⟩:=ah hh
         have ax93:=bQ az hx93
         simp only[bI]at ax93
         obtain⟨r94,hr94,hh⟩:=ah hh
         try simp only[aS,seval,hr1,hr4,hr6,er6,q59a,q59b,q59c,q59d,q59e,ax80,aq82,fq82,hr83,hr84,ax80,aq85,fq85,Zg,ax92,ax93,hr94]
         refine bn (by kernel_rfl) ?_
         cases hh
         try simp only[aS,seval,hr1,hr4,hr6,er6,q59a,q59b,q59c,q59d,q59e,ax80,aq82,fq82,hr83,hr84,ax80,aq85,fq85,Zg,ax92,ax93,hr94]
         refine j6 ?_
         refine⟨v9g,v11g,v32g,vn32g,?_,?_,?_,?_,?_,?_,?_,?_,?_,?_,?_⟩
         all_goals (first|rfl|omega|(simp only[aS,seval,hr1,hr4,hr6,er6,q59a,q59b,q59c,q59d,q59e,ax80,aq82,fq82,hr83,hr84,ax80,aq85,fq85,Zg,ax92,ax93,hr94]<;>rfl))
        ·cases hh
         try simp only[aS,seval,hr1,hr4,hr6,er6,q59a,q59b,q59c,q59d,q59e,ax80,aq82,fq82,hr83,hr84,ax80,aq85,fq85,Zg]
         refine lj ?_
         refine⟨rfl,⟨v9g,v11g,v32g,vn32g,?_,?_,?_,?_,?_,?_,?_,?_⟩⟩
         all_goals (first|rfl|omega|(simp only[aS,seval,hr1,hr4,hr6,er6,q59a,q59b,q59c,q59d,q59e,ax80,aq82,fq82,hr83,hr84,ax80,aq85,fq85,Zg]<;>rfl))
       ·rintro x t H e hx
        rcases o90 with⟨r11_0gx,r11_1gx,r11_2gx,r11_3gx⟩
        dsimp only at hx hh
        obtain⟨rfl,⟨v9gx,v11gx,v32gx,vn32gx,Zgx⟩⟩:=hx
        obtain⟨x95,hx95,hh⟩:=ah hh
        have ax95:=bQ az hx95
        simp only[bI]at ax95
        have p96:=eO az (x':=(ak.mk (al.mk r11_0gx r11_1gx) (al.mk r11_2gx r11_3gx))) (fo:=0) (cs:=[.int .i64 r11_0gx,.sl false false r11_1gx.length (ae (eI .i64) r11_1gx),.int .i64 r11_2gx,.sl false false r11_3gx.length (ae (eI .i64) r11_3gx)]) hx95 rfl (afg rfl)
        simp only[bI,Nat.add_zero]at p96
        have up96:=p96
        simp only[putCells,List.length_cons,List.length_nil,aen,Nat.reduceAdd]at up96
        cases hh
        try simp only[aS,seval,hr1,hr4,hr6,er6,q59a,q59b,q59c,q59d,q59e,ax80,aq82,fq82,hr83,hr84,ax80,aq85,fq85,Zgx,ax95,p96,up96]
        refine j6 ?_
        refine⟨v9gx,v32gx,vn32gx,?_,?_,?_,?_,?_,?_⟩
        all_goals (first|rfl|omega|(simp only[aS,seval,hr1,hr4,hr6,er6,q59a,q59b,q59c,q59d,q59e,ax80,aq82,fq82,hr83,hr84,ax80,aq85,fq85,Zgx,ax95,p96,up96]<;>rfl))
      ·cases hh
       try simp only[aS,seval,hr1,hr4,hr6,er6,q59a,q59b,q59c,q59d,q59e,Ze]
       refine lj ?_
       refine⟨rfl,⟨v9e,?_,?_⟩⟩
       all_goals first|rfl|(simp only[aS,seval,hr1,hr4,hr6,er6,q59a,q59b,q59c,q59d,q59e,Ze]<;>rfl)
     ·rintro x t H e hx
      obtain⟨l9ex,rfl⟩:∃z,z=o78:=⟨_,rfl⟩
      dsimp only at hx hh
      obtain⟨rfl,⟨v9ex,Zex⟩⟩:=hx
      cases hh
      try simp only[aS,seval,hr1,hr4,hr6,er6,q59a,q59b,q59c,q59d,q59e,Zex]
 ·clear hh
  have hh:=ho2
  try simp only[aS,seval,hr1]
  refine sp bd hh (fun _ hh =>?_) (fun _ hh =>?_)
  ·cases hh
   try simp only[aS,seval,hr1]
   rw[au]
   refine⟨_,rfl,?_⟩
   refine⟨0,?_,?_,?_,?_⟩
   all_goals first|rfl|(simp only[aS,seval,hr1]<;>rfl)
  ·obtain⟨r98,hr98,hh⟩:=ah hh
   cases hh
   try simp only[aS,seval,hr1,hr98]
   rw[au]
   refine⟨_,rfl,?_⟩
   refine⟨0,?_,?_,?_,?_⟩
   all_goals first|rfl|(simp only[aS,seval,hr1,hr98]<;>rfl)
theorem um:b6 Try.prog 13 oI:=b6.of (mode := .clean) tok L7 mixed Try.func13 (by kernel_rfl) ⟨by kernel_rfl,by kernel_rfl⟩ (fun _=>afg (by kernel_rfl)) (fun x r h=>Qc x.1 x.2 r h)
noncomputable def qu:=fX (jh (cX eB) (fU (cX eB))) (fun x:al×al=>iA x.1 x.2) (fun r:Bool =>.clean (.bool r))
theorem wE (p0_0:Int) (p0_1:(List Int)) (p1_0:Int) (p1_1:(List Int)):qu none [.agg [.int .i64 p0_0,.sl false false p0_1.length (ae (eI .i64) p0_1)],.agg [.int .i64 p1_0,.sl false false p1_1.length (ae (eI .i64) p1_1)]]=(iA (al.mk p0_0 p0_1) (al.mk p1_0 p1_1)).map fun r:Bool=>(.clean (.bool r),none):=aU _ _ _ ((al.mk p0_0 p0_1),(al.mk p1_0 p1_1))
theorem E5 (p0:al) (p1:al) (r:Bool) (hh:iA p0 p1=some r):bc .clean tab a6 FU Try.f53 none [.agg [.int .i64 p0.ag,.sl false false p0.aa.length (ae (eI .i64) p0.aa)],.agg [.int .i64 p1.ag,.sl false false p1.aa.length (ae (eI .i64) p1.aa)]]=some (.clean (.bool r),none):=by
 refine aC rfl Try.ntmps53 Try.results53 ?_
 unfold iA at hh
 try simp only[w,seval]
 obtain⟨o1,ho1,hh⟩:=ah hh
 refine bt 0 (fun s t H e=>match s with|s19j1=>∃v2j1:Nat,∃v3j1:Nat,t 2=.ptr 2 v2j1 0∧t 3=.ptr 3 v3j1 0∧t 19=.bool s19j1∧H 2=some ⟨v2j1,39,[.int .i64 p0.ag,.sl false false p0.aa.length (ae (eI .i64) p0.aa)],false,false,false⟩∧H 3=some ⟨v3j1,39,[.int .i64 p1.ag,.sl false false p1.aa.length (ae (eI .i64) p1.aa)],false,false,false⟩) (fun s=>s=o1) ?_ ?_
 ·rintro s19j1 t H e ⟨v2j1,v3j1,Zj1⟩ rfl
  try dsimp only at hh
  try simp only[w,seval,Zj1]
  refine sp aq hh (fun _ hh =>?_) (fun _ hh =>?_)
  ·cases hh
   try simp only[w,seval,Zj1]
  ·try simp only[w,seval,Zj1]
   obtain⟨o7,ho7,hh⟩:=ah hh
   refine aB (fun s t H e=>match s with|s5b=>∃v2b:Nat,∃v3b:Nat,t 2=.ptr 2 v2b 0∧t 3=.ptr 3 v3b 0∧t 5=.int .i64 s5b∧H 2=some ⟨v2b,39,[.int .i64 p0.ag,.sl false false p0.aa.length (ae (eI .i64) p0.aa)],false,false,false⟩∧H 3=some ⟨v3b,39,[.int .i64 p1.ag,.sl false false p1.aa.length (ae (eI .i64) p1.aa)],false,false,false⟩) (fun o x t H e=>match o with|(.inl _)=>x=.exit 0|(.inr r)=>x=.ret∧jo .clean tab none [.tmp 4] ⟨t,EH H,e⟩=some (.clean (.bool r),none)) ho7 ?_ ?_ ?_
   ·refine⟨v2j1,v3j1,?_,?_,?_,?_,?_⟩
    all_goals first|rfl|(simp only[w,seval,Zj1]<;>rfl)
   ·rintro s5b t H e ⟨v2b,v3b,Zb⟩ c hh
    simp only[l4]at hh
    try simp only[w,seval,Zb]
    refine sp aq hh (fun _ hh =>?_) (fun _ hh =>?_)
    ·obtain⟨x9,hx9,hh⟩:=ah hh
     have ax9:=bQ (eI .i64) hx9
     simp only[bI]at ax9
     obtain⟨x10,hx10,hh⟩:=ah hh
     have ax10:=bQ (eI .i64) hx10
     simp only[bI]at ax10
     try simp only[w,seval,Zb,ax9,ax10]
     refine bn (by kernel_rfl) ?_
     try simp only[w,seval,Zb,ax9,ax10]
     refine sp aq hh (fun _ hh =>?_) (fun _ hh =>?_)
     ·cases hh
      try simp only[w,seval,Zb,ax9,ax10]
      refine G2 ⟨rfl,?_⟩
      try simp only[w,seval,Zb,ax9,ax10]
     ·cases hh
      try simp only[w,seval,Zb,ax9,ax10]
      refine j6 ?_
      refine⟨v2b,v3b,?_,?_,?_,?_,?_⟩
      all_goals first|rfl|(simp only[w,seval,Zb,ax9,ax10]<;>rfl)
    ·cases hh
     try simp only[w,seval,Zb]
     refine lj ?_
     exact rfl
   ·rintro x t H e hx
    rcases o7 with _|rb
    ·dsimp only at hx hh
     subst hx
     cases hh
     try simp only[w,seval]
    ·dsimp only at hx hh
     obtain⟨rfl,hE⟩:=hx
     cases hh
     try simp only[bJ,bq,bW,ep,eo,dk,dm]
     exact hE
 ·clear hh
  have hh:=ho1
  try simp only[w,seval]
  refine sp bd hh (fun _ hh =>?_) (fun _ hh =>?_)
  ·cases hh
   try simp only[w,seval]
   rw[au]
   refine⟨_,rfl,?_⟩
   refine⟨0,0,?_,?_,?_,?_,?_⟩
   all_goals first|rfl|(simp only[w,seval]<;>rfl)
  ·cases hh
   try simp only[w,seval]
   rw[au]
   refine⟨_,rfl,?_⟩
   refine⟨0,0,?_,?_,?_,?_,?_⟩
   all_goals first|rfl|(simp only[w,seval]<;>rfl)
theorem DK:b6 Try.prog 53 qu:=b6.of (mode := .clean) tok bA.none mixed Try.func53 (by kernel_rfl) ⟨by kernel_rfl,by kernel_rfl⟩ (fun _=>afg (by kernel_rfl)) (fun x r h=>E5 x.1 x.2 r h)
noncomputable def wS:=fX (jh (cX az) (fU (cX az))) (fun x:ak×ak=>pt x.1 x.2) (fun r:Bool =>.clean (.bool r))
theorem DX (p0_0:Int) (p0_1:(List Int)) (p0_2:Int) (p0_3:(List Int)) (p1_0:Int) (p1_1:(List Int)) (p1_2:Int) (p1_3:(List Int)):wS none [.agg [.int .i64 p0_0,.sl false false p0_1.length (ae (eI .i64) p0_1),.int .i64 p0_2,.sl false false p0_3.length (ae (eI .i64) p0_3)],.agg [.int .i64 p1_0,.sl false false p1_1.length (ae (eI .i64) p1_1),.int .i64 p1_2,.sl false false p1_3.length (ae (eI .i64) p1_3)]]=(pt (ak.mk (al.mk p0_0 p0_1) (al.mk p0_2 p0_3)) (ak.mk (al.mk p1_0 p1_1) (al.mk p1_2 p1_3))).map fun r:Bool=>(.clean (.bool r),none):=aU _ _ _ ((ak.mk (al.mk p0_0 p0_1) (al.mk p0_2 p0_3)),(ak.mk (al.mk p1_0 p1_1) (al.mk p1_2 p1_3)))
noncomputable def sf:Env:=(Am.ext a6 53 false qu)
theorem L5:bA Try.prog sf:=(bA.none.add DK false)
theorem xr:type_of% (ai @w<|ai @wE<|@sf.eq_1):=⟨@w,@wE,@sf.eq_1⟩
theorem Qa (p0:ak) (p1:ak) (r:Bool) (hh:pt p0 p1=some r):bc .clean tab sf FU Try.f23 none [.agg [.int .i64 p0.aH.ag,.sl false false p0.aH.aa.length (ae (eI .i64) p0.aH.aa),.int .i64 p0.aK.ag,.sl false false p0.aK.aa.length (ae (eI .i64) p0.aK.aa)],.agg [.int .i64 p1.aH.ag,.sl false false p1.aH.aa.length (ae (eI .i64) p1.aH.aa),.int .i64 p1.aK.ag,.sl false false p1.aK.aa.length (ae (eI .i64) p1.aK.aa)]]=some (.clean (.bool r),none):=by
 refine aC rfl Try.ntmps23 Try.results23 ?_
 unfold pt at hh
 obtain⟨r1,hr1,hh⟩:=ah hh
 try simp only[xr,seval,hr1]
 refine sp dp hh (fun _ hh =>?_) (fun _ hh =>?_)
 ·obtain⟨r3,hr3,hh⟩:=ah hh
  cases hh
  try simp only[xr,seval,hr1,hr3]
 ·cases hh
  try simp only[xr,seval,hr1]
theorem NN:b6 Try.prog 23 wS:=b6.of (mode := .clean) tok L5 mixed Try.func23 (by kernel_rfl) ⟨by kernel_rfl,by kernel_rfl⟩ (fun _=>afg (by kernel_rfl)) (fun x r h=>Qa x.1 x.2 r h)
noncomputable def rn:=fX (jh (mL az) (fU (mL az))) (fun x:(List ak)×(List ak)=>nD x.1 x.2) (fun r:Bool =>.clean (.bool r))
theorem sA (p0:(List ak)) (p1:(List ak)):rn none [.sl false false p0.length (ae az p0),.sl false false p1.length (ae az p1)]=(nD p0 p1).map fun r:Bool=>(.clean (.bool r),none):=aU _ _ _ (p0,p1)
noncomputable def sg:Env:=(Am.ext a6 23 false wS)
theorem L6:bA Try.prog sg:=(bA.none.add NN false)
theorem eK:type_of% (ai @w<|ai @DX<|@sg.eq_1):=⟨@w,@DX,@sg.eq_1⟩
theorem Qb (p0:(List ak)) (p1:(List ak)) (r:Bool) (hh:nD p0 p1=some r):bc .clean tab sg FU Try.f16 none [.sl false false p0.length (ae az p0),.sl false false p1.length (ae az p1)]=some (.clean (.bool r),none):=by
 refine aC rfl Try.ntmps16 Try.results16 ?_
 unfold nD at hh
 try simp only[eK,seval]
 refine sp aq hh (fun _ hh =>?_) (fun _ hh =>?_)
 ·cases hh
  try simp only[eK,seval]
 ·try simp only[eK,seval]
  obtain⟨o7,ho7,hh⟩:=ah hh
  refine aB (fun s t H e=>match s with|s5a=>t 0=.sl false false p0.length (ae az p0)∧t 1=.sl false false p1.length (ae az p1)∧t 5=.int .i64 s5a) (fun o x t H e=>match o with|(.inl _)=>x=.exit 0|(.inr r)=>x=.ret∧jo .clean tab none [.tmp 4] ⟨t,EH H,e⟩=some (.clean (.bool r),none)) ho7 ?_ ?_ ?_
  ·refine⟨?_,?_,?_⟩
   all_goals first|rfl|(simp only[eK,seval]<;>rfl)
  ·rintro s5a t H e Za c hh
   simp only[ql]at hh
   try simp only[eK,seval,Za]
   refine sp aq hh (fun _ hh =>?_) (fun _ hh =>?_)
   ·obtain⟨x9,hx9,hh⟩:=ah hh
    have ax9:=bQ az hx9
    simp only[bI]at ax9
    obtain⟨x10,hx10,hh⟩:=ah hh
    have ax10:=bQ az hx10
    simp only[bI]at ax10
    obtain⟨r11,hr11,hh⟩:=ah hh
    try simp only[eK,seval,Za,ax9,ax10,hr11]
    refine bn (by kernel_rfl) ?_
    try simp only[eK,seval,Za,ax9,ax10,hr11]
    refine sp aq hh (fun _ hh =>?_) (fun _ hh =>?_)
    ·cases hh
     try simp only[eK,seval,Za,ax9,ax10,hr11]
     refine G2 ⟨rfl,?_⟩
     try simp only[eK,seval,Za,ax9,ax10,hr11]
    ·cases hh
     try simp only[eK,seval,Za,ax9,ax10,hr11]
     refine j6 ?_
     refine⟨?_,?_,?_⟩
     all_goals first|rfl|(simp only[eK,seval,Za,ax9,ax10,hr11]<;>rfl)
   ·cases hh
    try simp only[eK,seval,Za]
    refine lj ?_
    exact rfl
  ·rintro x t H e hx
   rcases o7 with _|ra
   ·dsimp only at hx hh
    subst hx
    cases hh
    try simp only[eK,seval]
   ·dsimp only at hx hh
    obtain⟨rfl,hE⟩:=hx
    cases hh
    try simp only[bJ,bq,bW,ep,eo,dk,dm]
    exact hE
theorem Au:b6 Try.prog 16 rn:=b6.of (mode := .clean) tok L6 mixed Try.func16 (by kernel_rfl) ⟨by kernel_rfl,by kernel_rfl⟩ (fun _=>afg (by kernel_rfl)) (fun x r h=>Qb x.1 x.2 r h)
noncomputable def qp:=fX (jh (cX eB) (fU (cX eB))) (fun x:al×al=>js x.1 x.2) (fun r:Int =>.clean (.int .i64 r))
theorem wB (p0_0:Int) (p0_1:(List Int)) (p1_0:Int) (p1_1:(List Int)):qp none [.agg [.int .i64 p0_0,.sl false false p0_1.length (ae (eI .i64) p0_1)],.agg [.int .i64 p1_0,.sl false false p1_1.length (ae (eI .i64) p1_1)]]=(js (al.mk p0_0 p0_1) (al.mk p1_0 p1_1)).map fun r:Int=>(.clean (.int .i64 r),none):=aU _ _ _ ((al.mk p0_0 p0_1),(al.mk p1_0 p1_1))
noncomputable def mO:Env:=(Am.ext (Am.ext (Am.ext a6 50 false eS) 66 false iS) 78 false kc)
theorem CO:bA Try.prog mO:=(((bA.none.add fw false).add lY false).add pk false)
theorem dg:type_of% (ai @w<|ai @cq<|ai @fF<|ai @iX<|@mO.eq_1):=⟨@w,@cq,@fF,@iX,@mO.eq_1⟩
theorem EX (p0:al) (p1:al) (r:Int) (hh:js p0 p1=some r):bc .clean tab mO FU Try.f54 none [.agg [.int .i64 p0.ag,.sl false false p0.aa.length (ae (eI .i64) p0.aa)],.agg [.int .i64 p1.ag,.sl false false p1.aa.length (ae (eI .i64) p1.aa)]]=some (.clean (.int .i64 r),none):=by
 refine aC rfl Try.ntmps54 Try.results54 ?_
 unfold js at hh
 obtain⟨r1,hr1,hh⟩:=ah hh
 try simp only[dg,seval,hr1]
 obtain⟨o2,ho2,hh⟩:=ah hh
 refine bt 0 (fun s t H e=>match s with|s12j1=>∃v2j1:Nat,∃v3j1:Nat,t 2=.ptr 2 v2j1 0∧t 3=.ptr 3 v3j1 0∧t 12=.bool s12j1∧H 2=some ⟨v2j1,39,[.int .i64 p0.ag,.sl false false p0.aa.length (ae (eI .i64) p0.aa)],false,false,false⟩∧H 3=some ⟨v3j1,39,[.int .i64 p1.ag,.sl false false p1.aa.length (ae (eI .i64) p1.aa)],false,false,false⟩) (fun s=>s=o2) ?_ ?_
 ·rintro s12j1 t H e ⟨v2j1,v3j1,Zj1⟩ rfl
  try dsimp only at hh
  try simp only[dg,seval,hr1,Zj1]
  refine sp aq hh (fun _ hh =>?_) (fun _ hh =>?_)
  ·cases hh
   try simp only[dg,seval,hr1,Zj1]
  ·try simp only[dg,seval,hr1,Zj1]
   refine sp aq hh (fun _ hh =>?_) (fun _ hh =>?_)
   ·obtain⟨r5,hr5,hh⟩:=ah hh
    cases hh
    try simp only[dg,seval,hr1,Zj1,hr5]
   ·obtain⟨r6,hr6,hh⟩:=ah hh
    try simp only[dg,seval,hr1,Zj1,hr6]
    refine bn (by kernel_rfl) ?_
    cases hh
    try simp only[dg,seval,hr1,Zj1,hr6]
 ·clear hh
  have hh:=ho2
  try simp only[dg,seval,hr1]
  refine sp bd hh (fun _ hh =>?_) (fun _ hh =>?_)
  ·cases hh
   try simp only[dg,seval,hr1]
   rw[au]
   refine⟨_,rfl,?_⟩
   refine⟨0,0,?_,?_,?_,?_,?_⟩
   all_goals first|rfl|(simp only[dg,seval,hr1]<;>rfl)
  ·obtain⟨r8,hr8,hh⟩:=ah hh
   cases hh
   try simp only[dg,seval,hr1,hr8]
   rw[au]
   refine⟨_,rfl,?_⟩
   refine⟨0,0,?_,?_,?_,?_,?_⟩
   all_goals first|rfl|(simp only[dg,seval,hr1,hr8]<;>rfl)
theorem Dy:b6 Try.prog 54 qp:=b6.of (mode := .clean) tok CO mixed Try.func54 (by kernel_rfl) ⟨by kernel_rfl,by kernel_rfl⟩ (fun _=>afg (by kernel_rfl)) (fun x r h=>EX x.1 x.2 r h)
noncomputable def oG:=fX (jh (cX az) (fU (cX az))) (fun x:ak×ak=>iE x.1 x.2) (fun r:Int =>.clean (.int .i64 r))
theorem uq (p0_0:Int) (p0_1:(List Int)) (p0_2:Int) (p0_3:(List Int)) (p1_0:Int) (p1_1:(List Int)) (p1_2:Int) (p1_3:(List Int)):oG none [.agg [.int .i64 p0_0,.sl false false p0_1.length (ae (eI .i64) p0_1),.int .i64 p0_2,.sl false false p0_3.length (ae (eI .i64) p0_3)],.agg [.int .i64 p1_0,.sl false false p1_1.length (ae (eI .i64) p1_1),.int .i64 p1_2,.sl false false p1_3.length (ae (eI .i64) p1_3)]]=(iE (ak.mk (al.mk p0_0 p0_1) (al.mk p0_2 p0_3)) (ak.mk (al.mk p1_0 p1_1) (al.mk p1_2 p1_3))).map fun r:Int=>(.clean (.int .i64 r),none):=aU _ _ _ ((ak.mk (al.mk p0_0 p0_1) (al.mk p0_2 p0_3)),(ak.mk (al.mk p1_0 p1_1) (al.mk p1_2 p1_3)))
noncomputable def lN:Env:=(Am.ext (Am.ext (Am.ext a6 22 false eM) 48 false jL) 54 false qp)
theorem A0:bA Try.prog lN:=(((bA.none.add fD false).add mW false).add Dy false)
theorem dH:type_of% (ai @w<|ai @ct<|ai @gE<|ai @wB<|@lN.eq_1):=⟨@w,@ct,@gE,@wB,@lN.eq_1⟩
theorem Dd (p0:ak) (p1:ak) (r:Int) (hh:iE p0 p1=some r):bc .clean tab lN FU Try.f24 none [.agg [.int .i64 p0.aH.ag,.sl false false p0.aH.aa.length (ae (eI .i64) p0.aH.aa),.int .i64 p0.aK.ag,.sl false false p0.aK.aa.length (ae (eI .i64) p0.aK.aa)],.agg [.int .i64 p1.aH.ag,.sl false false p1.aH.aa.length (ae (eI .i64) p1.aH.aa),.int .i64 p1.aK.ag,.sl false false p1.aK.aa.length (ae (eI .i64) p1.aK.aa)]]=some (.clean (.int .i64 r),none):=by
 refine aC rfl Try.ntmps24 Try.results24 ?_
 unfold iE at hh
 obtain⟨r1,hr1,hh⟩:=ah hh
 try simp only[dH,seval,hr1]
 obtain⟨o2,ho2,hh⟩:=ah hh
 refine bt 0 (fun s t H e=>match s with|s12j1=>∃v2j1:Nat,∃v3j1:Nat,t 2=.ptr 2 v2j1 0∧t 3=.ptr 3 v3j1 0∧t 12=.bool s12j1∧H 2=some ⟨v2j1,41,[.int .i64 p0.aH.ag,.sl false false p0.aH.aa.length (ae (eI .i64) p0.aH.aa),.int .i64 p0.aK.ag,.sl false false p0.aK.aa.length (ae (eI .i64) p0.aK.aa)],false,false,false⟩∧H 3=some ⟨v3j1,41,[.int .i64 p1.aH.ag,.sl false false p1.aH.aa.length (ae (eI .i64) p1.aH.aa),.int .i64 p1.aK.ag,.sl false false p1.aK.aa.length (ae (eI .i64) p1.aK.aa)],false,false,false⟩) (fun s=>s=o2) ?_ ?_
 ·rintro s12j1 t H e ⟨v2j1,v3j1,Zj1⟩ rfl
  try dsimp only at hh
  try simp only[dH,seval,hr1,Zj1]
  refine sp aq hh (fun _ hh =>?_) (fun _ hh =>?_)
  ·cases hh
   try simp only[dH,seval,hr1,Zj1]
  ·obtain⟨r4,hr4,hh⟩:=ah hh
   obtain⟨r5,hr5,hh⟩:=ah hh
   obtain⟨r6,hr6,hh⟩:=ah hh
   try simp only[dH,seval,hr1,Zj1,hr4,hr5,hr6]
   refine bn (by kernel_rfl) ?_
   cases hh
   try simp only[dH,seval,hr1,Zj1,hr4,hr5,hr6]
 ·clear hh
  have hh:=ho2
  try simp only[dH,seval,hr1]
  refine sp bd hh (fun _ hh =>?_) (fun _ hh =>?_)
  ·cases hh
   try simp only[dH,seval,hr1]
   rw[au]
   refine⟨_,rfl,?_⟩
   refine⟨0,0,?_,?_,?_,?_,?_⟩
   all_goals first|rfl|(simp only[dH,seval,hr1]<;>rfl)
  ·obtain⟨r8,hr8,hh⟩:=ah hh
   cases hh
   try simp only[dH,seval,hr1,hr8]
   rw[au]
   refine⟨_,rfl,?_⟩
   refine⟨0,0,?_,?_,?_,?_,?_⟩
   all_goals first|rfl|(simp only[dH,seval,hr1,hr8]<;>rfl)
theorem A4:b6 Try.prog 24 oG:=b6.of (mode := .clean) tok A0 mixed Try.func24 (by kernel_rfl) ⟨by kernel_rfl,by kernel_rfl⟩ (fun _=>afg (by kernel_rfl)) (fun x r h=>Dd x.1 x.2 r h)
noncomputable def kd:=fX (jh (cX nO) (jh (mL az) (fU (mL az)))) (fun x:bY×(List ak)×(List ak)=>dS x.1 x.2.1 x.2.2) (fun r:Bool =>.clean (.bool r))
theorem gO (p0_0:Int) (p0_1:(List dy)) (p1:(List ak)) (p2:(List ak)):kd none [.agg [.int .i64 p0_0,.sl false false p0_1.length (ae a8 p0_1)],.sl false false p1.length (ae az p1),.sl false false p2.length (ae az p2)]=(dS (bY.mk p0_0 p0_1) p1 p2).map fun r:Bool=>(.clean (.bool r),none):=aU _ _ _ ((bY.mk p0_0 p0_1),p1,p2)
noncomputable def mV:Env:=(Am.ext (Am.ext (Am.ext (Am.ext (Am.ext a6 11 false kX) 24 false oG) 39 false ku) 40 false lD) 43 false jM)
theorem CV:bA Try.prog mV:=(((((bA.none.add oc false).add A4 false).add qN false).add xf false).add mX false)
theorem aT:type_of% (ai @w<|ai @iy<|ai @uq<|ai @kF<|ai @qd<|ai @gF<|@mV.eq_1):=⟨@w,@iy,@uq,@kF,@qd,@gF,@mV.eq_1⟩
end Go.Proofs.Ytchndpjlijbplaa.Am
