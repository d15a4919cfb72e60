/- Part of a proof, made small by a program (wip/mini.py). -/
import Derived.Test.YtchndpjlijbplaaKd
namespace Go.Proofs.Ytchndpjlijbplaa.Am
open Go.RowKit Go.Proofs.Ytchndpjlijbplaa.P
set_option maxRecDepth 100000
set_option maxHeartbeats 4000000
set_option linter.unusedSimpArgs false
set_option linter.unusedVariables false
theorem Tg (p0:an) (p1:an) (r:al×Int) (hh:xz p0 p1=some r):a8 .clean tab ux FU Try.f74 none [.agg [.int .i64 p0.ag,.sl false false p0.aa.length (ae (eI .i64) p0.aa)],.agg [.int .i64 p1.ag,.sl false false p1.aa.length (ae (eI .i64) p1.aa)]]=some (.clean (.tup [.agg [.int .i64 r.1.aH.ag,.sl false false r.1.aH.aa.length (ae (eI .i64) r.1.aH.aa),.int .i64 r.1.aK.ag,.sl false false r.1.aK.aa.length (ae (eI .i64) r.1.aK.aa)],.int .i64 r.2]),none):=by
 refine aC rfl Try.ntmps74 Try.results74 ?_
 unfold xz at hh
 obtain⟨r1,hr1,hh⟩:=ah hh
 try simp only[dI,seval,hr1]
 obtain⟨o2,ho2,hh⟩:=ah hh
 refine bJ 0 (fun s t H e=>match s with|s21j1=>∃v2j1:Nat,∃v3j1:Nat,∃v4j1:Nat,t 2=.ptr 2 v2j1 0∧t 3=.ptr 3 v3j1 0∧t 4=.ptr 4 v4j1 0∧t 21=.bool s21j1∧H 2=some ⟨v2j1,39,[.int .i64 p0.ag,.sl false false p0.aa.length (ae (eI .i64) p0.aa)],false,false,false⟩∧H 3=some ⟨v3j1,39,[.int .i64 p1.ag,.sl false false p1.aa.length (ae (eI .i64) p1.aa)],false,false,false⟩∧H 4=some ⟨v4j1,41,[.int .i64 0,.sl true true 0 [],.int .i64 0,.sl true true 0 []],false,false,false⟩) (fun s=>s=o2) ?_ ?_
 ·rintro s21j1 t H e ⟨v2j1,v3j1,v4j1,Zj1⟩ rfl
  try dsimp only at hh
  try simp only[dI,seval,hr1,Zj1]
  refine sp aq hh (fun _ hh =>?_) (fun _ hh =>?_)
  ·cases hh
   try simp only[dI,seval,hr1,Zj1]
  ·try simp only[dI,seval,hr1,Zj1]
   refine sp aq hh (fun _ hh =>?_) (fun _ hh =>?_)
   ·cases hh
    try simp only[dI,seval,hr1,Zj1]
   ·try simp only[dI,seval,hr1,Zj1]
    obtain⟨o5,ho5,hh⟩:=ah hh
    refine j4 0 (fun s t H e=>match s with|(r2_0j2,r2_1j2,r3_0j2,r3_1j2)=>∃v2j2:Nat,∃v3j2:Nat,∃v4j2:Nat,t 2=.ptr 2 v2j2 0∧t 3=.ptr 3 v3j2 0∧t 4=.ptr 4 v4j2 0∧H 2=some ⟨v2j2,39,[.int .i64 r2_0j2,.sl false false r2_1j2.length (ae (eI .i64) r2_1j2)],false,false,false⟩∧H 3=some ⟨v3j2,39,[.int .i64 r3_0j2,.sl false false r3_1j2.length (ae (eI .i64) r3_1j2)],false,false,false⟩∧H 4=some ⟨v4j2,41,[.int .i64 0,.sl true true 0 [],.int .i64 0,.sl true true 0 []],false,false,false⟩) (fun s=>s=o5) ?_ ?_
    ·rintro⟨r2_0j2,r2_1j2,r3_0j2,r3_1j2⟩ t H e ⟨v2j2,v3j2,v4j2,Zj2⟩ rfl
     try dsimp only at hh
     obtain⟨r6,hr6,hh⟩:=ah hh
     obtain⟨r7,hr7,hh⟩:=ah hh
     obtain⟨r8,hr8,hh⟩:=ah hh
     cases hh
     try simp only[dI,seval,hr1,Zj2,hr6,hr7,hr8]
    ·clear hh
     have hh:=ho5
     try simp only[dI,seval,hr1,Zj1]
     refine sp aq hh (fun _ hh =>?_) (fun _ hh =>?_)
     ·obtain⟨r10,hr10,hh⟩:=ah hh
      obtain⟨r11,hr11,hh⟩:=ah hh
      cases hh
      try simp only[dI,seval,hr1,Zj1,hr10,hr11]
      rw[au]
      refine⟨_,rfl,?_⟩
      refine⟨v2j1,v3j1,v4j1,?_,?_,?_,?_,?_,?_⟩
      all_goals first|rfl|(simp only[dI,seval,hr1,Zj1,hr10,hr11]<;>rfl)
     ·cases hh
      try simp only[dI,seval,hr1,Zj1]
      rw[au]
      refine⟨_,rfl,?_⟩
      refine⟨v2j1,v3j1,v4j1,?_,?_,?_,?_,?_,?_⟩
      all_goals first|rfl|(simp only[dI,seval,hr1,Zj1]<;>rfl)
 ·clear hh
  have hh:=ho2
  try simp only[dI,seval,hr1]
  refine sp bd hh (fun _ hh =>?_) (fun _ hh =>?_)
  ·cases hh
   try simp only[dI,seval,hr1]
   rw[au]
   refine⟨_,rfl,?_⟩
   refine⟨0,0,0,?_,?_,?_,?_,?_,?_,?_⟩
   all_goals first|rfl|(simp only[dI,seval,hr1]<;>rfl)
  ·obtain⟨r13,hr13,hh⟩:=ah hh
   cases hh
   try simp only[dI,seval,hr1,hr13]
   rw[au]
   refine⟨_,rfl,?_⟩
   refine⟨0,0,0,?_,?_,?_,?_,?_,?_,?_⟩
   all_goals first|rfl|(simp only[dI,seval,hr1,hr13]<;>rfl)
theorem Pd:bY Try.prog 74 x4:=bY.of (mode := .clean) tok OA mixed Try.func74 (by kernel_rfl) ⟨by kernel_rfl,by kernel_rfl⟩ (fun _=>ad4 (by kernel_rfl)) (fun x r h=>Tg x.1 x.2 r h)
noncomputable def wB:=gf (iQ (aI .i64) (fP (aI .i64))) (fun x:Int×Int=>yC x.1 x.2) (fun r:al×Int =>.clean (.tup [.agg [.int .i64 r.1.aH.ag,.sl false false r.1.aH.aa.length (ae (eI .i64) r.1.aH.aa),.int .i64 r.1.aK.ag,.sl false false r.1.aK.aa.length (ae (eI .i64) r.1.aK.aa)],.int .i64 r.2]))
theorem xq (p0:Int) (p1:Int):wB none [.int .i64 p0,.int .i64 p1]=(yC p0 p1).map fun r:al×Int=>(.clean (.tup [.agg [.int .i64 r.1.aH.ag,.sl false false r.1.aH.aa.length (ae (eI .i64) r.1.aH.aa),.int .i64 r.1.aK.ag,.sl false false r.1.aK.aa.length (ae (eI .i64) r.1.aK.aa)],.int .i64 r.2]),none):=aW _ _ _ (p0,p1)
noncomputable def w3:Env:=(Am.ext (Am.ext a6 58 false AE) 74 false x4)
theorem SO:bD Try.prog w3:=((bD.none.add Tr false).add Pd false)
theorem W2:type_of% (ai @w<|ai @ML<|ai @GA<|@w3.eq_1):=⟨@w,@ML,@GA,@w3.eq_1⟩
theorem VA (p0:Int) (p1:Int) (r:al×Int) (hh:yC p0 p1=some r):a8 .clean tab w3 FU Try.f46 none [.int .i64 p0,.int .i64 p1]=some (.clean (.tup [.agg [.int .i64 r.1.aH.ag,.sl false false r.1.aH.aa.length (ae (eI .i64) r.1.aH.aa),.int .i64 r.1.aK.ag,.sl false false r.1.aK.aa.length (ae (eI .i64) r.1.aK.aa)],.int .i64 r.2]),none):=by
 refine aC rfl Try.ntmps46 Try.results46 ?_
 unfold yC at hh
 obtain⟨r1,hr1,hh⟩:=ah hh
 obtain⟨r2,hr2,hh⟩:=ah hh
 obtain⟨r3,hr3,hh⟩:=ah hh
 cases hh
 try simp only[W2,seval,hr1,hr2,hr3]
theorem Gj:bY Try.prog 46 wB:=bY.of (mode := .clean) tok SO mixed Try.func46 (by kernel_rfl) ⟨by kernel_rfl,by kernel_rfl⟩ (fun _=>ad4 (by kernel_rfl)) (fun x r h=>VA x.1 x.2 r h)
noncomputable def vG:=gf (iQ (aI .i64) (iQ (aI .i64) (iQ (aI .i64) (fP (aI .i64))))) (fun x:Int×Int×Int×Int=>jV x.1 x.2.1 x.2.2.1 x.2.2.2) (fun r:di =>.clean (.agg [.int .i64 r.de,.int .i64 r.lN,.int .i64 r.bg.aH.ag,.sl false false r.bg.aH.aa.length (ae (eI .i64) r.bg.aH.aa),.int .i64 r.bg.aK.ag,.sl false false r.bg.aK.aa.length (ae (eI .i64) r.bg.aK.aa)]))
theorem CX (p0:Int) (p1:Int) (p2:Int) (p3:Int):vG none [.int .i64 p0,.int .i64 p1,.int .i64 p2,.int .i64 p3]=(jV p0 p1 p2 p3).map fun r:di=>(.clean (.agg [.int .i64 r.de,.int .i64 r.lN,.int .i64 r.bg.aH.ag,.sl false false r.bg.aH.aa.length (ae (eI .i64) r.bg.aH.aa),.int .i64 r.bg.aK.ag,.sl false false r.bg.aK.aa.length (ae (eI .i64) r.bg.aK.aa)]),none):=aW _ _ _ (p0,p1,p2,p3)
noncomputable def qP:Env:=(Am.ext a6 46 false wB)
theorem KI:bD Try.prog qP:=(bD.none.add Gj false)
theorem PX:type_of% (ai @w<|ai @xq<|@qP.eq_1):=⟨@w,@xq,@qP.eq_1⟩
theorem OR (p0:Int) (p1:Int) (p2:Int) (p3:Int) (r:di) (hh:jV p0 p1 p2 p3=some r):a8 .clean tab qP FU Try.f31 none [.int .i64 p0,.int .i64 p1,.int .i64 p2,.int .i64 p3]=some (.clean (.agg [.int .i64 r.de,.int .i64 r.lN,.int .i64 r.bg.aH.ag,.sl false false r.bg.aH.aa.length (ae (eI .i64) r.bg.aH.aa),.int .i64 r.bg.aK.ag,.sl false false r.bg.aK.aa.length (ae (eI .i64) r.bg.aK.aa)]),none):=by
 refine aC rfl Try.ntmps31 Try.results31 ?_
 unfold jV at hh
 obtain⟨r1,hr1,hh⟩:=ah hh
 cases hh
 try simp only[PX,seval,hr1]
theorem My:bY Try.prog 31 vG:=bY.of (mode := .clean) tok KI mixed Try.func31 (by kernel_rfl) ⟨by kernel_rfl,by kernel_rfl⟩ (fun _=>ad4 (by kernel_rfl)) (fun x r h=>OR x.1 x.2.1 x.2.2.1 x.2.2.2 r h)
noncomputable def xZ:=gf (fP (aI .i64)) (fun x:Int=>xy x) (fun r:al =>.clean (.agg [.int .i64 r.aH.ag,.sl false false r.aH.aa.length (ae (eI .i64) r.aH.aa),.int .i64 r.aK.ag,.sl false false r.aK.aa.length (ae (eI .i64) r.aK.aa)]))
theorem Gz (p0:Int):xZ none [.int .i64 p0]=(xy p0).map fun r:al=>(.clean (.agg [.int .i64 r.aH.ag,.sl false false r.aH.aa.length (ae (eI .i64) r.aH.aa),.int .i64 r.aK.ag,.sl false false r.aK.aa.length (ae (eI .i64) r.aK.aa)]),none):=aW _ _ _ (p0)
noncomputable def uw:Env:=(Am.ext a6 46 false wB)
theorem Oz:bD Try.prog uw:=(bD.none.add Gj false)
theorem TJ:type_of% (ai @w<|ai @xq<|@uw.eq_1):=⟨@w,@xq,@uw.eq_1⟩
theorem Tf (p0:Int) (r:al) (hh:xy p0=some r):a8 .clean tab uw FU Try.f17 none [.int .i64 p0]=some (.clean (.agg [.int .i64 r.aH.ag,.sl false false r.aH.aa.length (ae (eI .i64) r.aH.aa),.int .i64 r.aK.ag,.sl false false r.aK.aa.length (ae (eI .i64) r.aK.aa)]),none):=by
 refine aC rfl Try.ntmps17 Try.results17 ?_
 unfold xy at hh
 obtain⟨r1,hr1,hh⟩:=ah hh
 cases hh
 try simp only[TJ,seval,hr1]
theorem Pc:bY Try.prog 17 xZ:=bY.of (mode := .clean) tok Oz mixed Try.func17 (by kernel_rfl) ⟨by kernel_rfl,by kernel_rfl⟩ (fun _=>ad4 (by kernel_rfl)) (fun x r h=>Tf x r h)
noncomputable def p8:=gf (fP (mB (eI .i64))) (fun x:(List Int)=>jU x) (fun r:(List al) =>.clean (.sl false false r.length (ae av r)))
theorem jf (p0:(List Int)):p8 none [.sl false false p0.length (ae (eI .i64) p0)]=(jU p0).map fun r:(List al)=>(.clean (.sl false false r.length (ae av r)),none):=aW _ _ _ (p0)
noncomputable def qN:Env:=(Am.ext a6 17 false xZ)
theorem KG:bD Try.prog qN:=(bD.none.add Pc false)
theorem jm:type_of% (ai @w<|ai @Gz<|@qN.eq_1):=⟨@w,@Gz,@qN.eq_1⟩
theorem OP (p0:(List Int)) (r:(List al)) (hh:jU p0=some r):a8 .clean tab qN FU Try.f32 none [.sl false false p0.length (ae (eI .i64) p0)]=some (.clean (.sl false false r.length (ae av r)),none):=by
 refine aC rfl Try.ntmps32 Try.results32 ?_
 unfold jU at hh
 try simp only[jm,seval]
 obtain⟨o6,ho6,hh⟩:=ah hh
 refine aB (fun s t H e=>match s with|(s4a,l3a)=>∃v3a:Nat,t 0=.sl false false p0.length (ae (eI .i64) p0)∧t 3=.buf 3 v3a 4 0 (l3a).length∧t 4=.int .i64 s4a∧H 3=some ⟨v3a,41,ae av l3a,false,true,false⟩) (fun o x t H e=>match o with|l3ax=>x=.exit 0∧∃v3ax:Nat,t 3=.buf 3 v3ax 4 0 (l3ax).length∧H 3=some ⟨v3ax,41,ae av l3ax,false,true,false⟩) ho6 ?_ ?_ ?_
 ·refine⟨1,?_,?_,?_,?_⟩
  all_goals first|rfl|(simp only[jm,seval]<;>rfl)
 ·rintro⟨s4a,l3a⟩ t H e ⟨v3a,Za⟩ c hh
  simp only[zr]at hh
  try simp only[jm,seval,Za]
  refine sp aq hh (fun _ hh =>?_) (fun _ hh =>?_)
  ·obtain⟨x8,hx8,hh⟩:=ah hh
   have ax8:=bG (eI .i64) hx8
   simp only[bB]at ax8
   obtain⟨r9,hr9,hh⟩:=ah hh
   obtain⟨x10,hx10,hh⟩:=ah hh
   obtain⟨q11a,q11b,q11c,q11d⟩:=gz av hx10
   simp only[bB]at q11b
   cases hh
   try simp only[jm,seval,Za,ax8,hr9,q11a,q11b,q11c,q11d]
   refine jN ?_
   refine⟨e+1,?_,?_,?_,?_⟩
   all_goals first|rfl|(simp only[jm,seval,Za,ax8,hr9,q11a,q11b,q11c,q11d]<;>rfl)
  ·cases hh
   try simp only[jm,seval,Za]
   refine kW ?_
   refine⟨rfl,⟨v3a,?_,?_⟩⟩
   all_goals first|rfl|(simp only[jm,seval,Za]<;>rfl)
 ·rintro x t H e hx
  obtain⟨l3ax,rfl⟩:∃z,z=o6:=⟨_,rfl⟩
  dsimp only at hx hh
  obtain⟨rfl,⟨v3ax,Zax⟩⟩:=hx
  cases hh
  try simp only[jm,seval,Zax]
theorem zA:bY Try.prog 32 p8:=bY.of (mode := .clean) tok KG mixed Try.func32 (by kernel_rfl) ⟨by kernel_rfl,by kernel_rfl⟩ (fun _=>ad4 (by kernel_rfl)) (fun x r h=>OP x r h)
noncomputable def qd:=gf (iQ (aI .i64) (iQ (aI .i64) (fP (aI .i64)))) (fun x:Int×Int×Int=>gp x.1 x.2.1 x.2.2) (fun r:Bool =>.clean (.bool r))
theorem xp (p0:Int) (p1:Int) (p2:Int):qd none [.int .i64 p0,.int .i64 p1,.int .i64 p2]=(gp p0 p1 p2).map fun r:Bool=>(.clean (.bool r),none):=aW _ _ _ (p0,p1,p2)
theorem H6 (p0:Int) (p1:Int) (p2:Int) (r:Bool) (hh:gp p0 p1 p2=some r):a8 .clean tab a6 FU Try.f34 none [.int .i64 p0,.int .i64 p1,.int .i64 p2]=some (.clean (.bool r),none):=by
 refine aC rfl Try.ntmps34 Try.results34 ?_
 unfold gp at hh
 try simp only[w,seval]
 refine sp dW hh (fun _ hh =>?_) (fun _ hh =>?_)
 ·cases hh
  try simp only[w,seval]
 ·cases hh
  try simp only[w,seval]
theorem D4:bY Try.prog 34 qd:=bY.of (mode := .clean) tok bD.none mixed Try.func34 (by kernel_rfl) ⟨by kernel_rfl,by kernel_rfl⟩ (fun _=>ad4 (by kernel_rfl)) (fun x r h=>H6 x.1 x.2.1 x.2.2 r h)
noncomputable def eC:=gf (fP (cW eM)) (fun x:an=>ch x) (fun r:Bool =>.clean (.bool r))
theorem cd (p0_0:Int) (p0_1:(List Int)):eC none [.agg [.int .i64 p0_0,.sl false false p0_1.length (ae (eI .i64) p0_1)]]=(ch (an.mk p0_0 p0_1)).map fun r:Bool=>(.clean (.bool r),none):=aW _ _ _ ((an.mk p0_0 p0_1))
theorem LM (p0:an) (r:Bool) (hh:ch p0=some r):a8 .clean tab a6 FU Try.f50 none [.agg [.int .i64 p0.ag,.sl false false p0.aa.length (ae (eI .i64) p0.aa)]]=some (.clean (.bool r),none):=by
 refine aC rfl Try.ntmps50 Try.results50 ?_
 unfold ch at hh
 try simp only[w,seval]
 obtain⟨o5,ho5,hh⟩:=ah hh
 refine aB (fun s t H e=>match s with|s12a=>∃v1a:Nat,t 1=.ptr 1 v1a 0∧t 3=.int .i64 (p0.aa.length:Int)∧t 10=.sl false false p0.aa.length (ae (eI .i64) p0.aa)∧t 11=.int .i64 (p0.aa.length:Int)∧t 12=.int .i64 s12a∧H 1=some ⟨v1a,39,[.int .i64 p0.ag,.sl false false p0.aa.length (ae (eI .i64) p0.aa)],false,false,false⟩) (fun o x t H e=>match o with|(.inl _)=>x=.exit 0∧∃v1ax:Nat,t 1=.ptr 1 v1ax 0∧t 3=.int .i64 (p0.aa.length:Int)∧H 1=some ⟨v1ax,39,[.int .i64 p0.ag,.sl false false p0.aa.length (ae (eI .i64) p0.aa)],false,false,false⟩|(.inr r)=>x=.ret∧jv .clean tab none [.tmp 2] ⟨t,EH H,e⟩=some (.clean (.bool r),none)) ho5 ?_ ?_ ?_
 ·refine⟨0,?_,?_,?_,?_,?_,?_⟩
  all_goals first|rfl|(simp only[w,seval]<;>rfl)
 ·rintro s12a t H e ⟨v1a,Za⟩ c hh
  simp only[nc]at hh
  try simp only[w,seval,Za]
  refine sp aq hh (fun _ hh =>?_) (fun _ hh =>?_)
  ·obtain⟨x7,hx7,hh⟩:=ah hh
   have ax7:=bG (eI .i64) hx7
   simp only[bB]at ax7
   try simp only[w,seval,Za,ax7]
   refine sp bd hh (fun _ hh =>?_) (fun _ hh =>?_)
   ·cases hh
    try simp only[w,seval,Za,ax7]
    refine DR ⟨rfl,?_⟩
    try simp only[w,seval,Za,ax7]
   ·try simp only[w,seval,Za,ax7]
    refine sp aq hh (fun _ hh =>?_) (fun _ hh =>?_)
    ·cases hh
     try simp only[w,seval,Za,ax7]
     refine DR ⟨rfl,?_⟩
     try simp only[w,seval,Za,ax7]
    ·cases hh
     try simp only[w,seval,Za,ax7]
     refine jN ?_
     refine⟨v1a,?_,?_,?_,?_,?_,?_⟩
     all_goals first|rfl|(simp only[w,seval,Za,ax7]<;>rfl)
  ·cases hh
   try simp only[w,seval,Za]
   refine kW ?_
   refine⟨rfl,⟨v1a,?_,?_,?_⟩⟩
   all_goals first|rfl|(simp only[w,seval,Za]<;>rfl)
 ·rintro x t H e hx
  rcases o5 with _|ra
  ·dsimp only at hx hh
   obtain⟨rfl,⟨v1ax,Zax⟩⟩:=hx
   try simp only[w,seval,Zax]
   refine sp aq hh (fun _ hh =>?_) (fun _ hh =>?_)
   ·cases hh
    try simp only[w,seval,Zax]
   ·try simp only[w,seval,Zax]
    refine sp bd hh (fun _ hh =>?_) (fun _ hh =>?_)
    ·obtain⟨x12,hx12,hh⟩:=ah hh
     have ax12:=bG (eI .i64) hx12
     simp only[bB]at ax12
     cases hh
     try simp only[w,seval,Zax,ax12]
    ·try simp only[w,seval,Zax]
     refine sp dW hh (fun _ hh =>?_) (fun _ hh =>?_)
     ·obtain⟨x14,hx14,hh⟩:=ah hh
      have ax14:=bG (eI .i64) hx14
      simp only[bB]at ax14
      cases hh
      try simp only[w,seval,Zax,ax14]
     ·cases hh
      try simp only[w,seval,Zax]
  ·dsimp only at hx hh
   obtain⟨rfl,hE⟩:=hx
   cases hh
   try simp only[bO,bI,b6,eJ,eF,dE,dF]
   exact hE
theorem fe:bY Try.prog 50 eC:=bY.of (mode := .clean) tok bD.none mixed Try.func50 (by kernel_rfl) ⟨by kernel_rfl,by kernel_rfl⟩ (fun _=>ad4 (by kernel_rfl)) (fun x r h=>LM x r h)
noncomputable def jO:=gf (iQ ZZ (fP (cW eM))) (fun x:Bool×an=>dC x.1 x.2) (fun r:an×Int =>.clean (.tup [.agg [.int .i64 r.1.ag,.sl false false r.1.aa.length (ae (eI .i64) r.1.aa)],.int .i64 r.2]))
theorem ez (p0:Bool) (p1_0:Int) (p1_1:(List Int)):jO none [.bool p0,.agg [.int .i64 p1_0,.sl false false p1_1.length (ae (eI .i64) p1_1)]]=(dC p0 (an.mk p1_0 p1_1)).map fun r:an×Int=>(.clean (.tup [.agg [.int .i64 r.1.ag,.sl false false r.1.aa.length (ae (eI .i64) r.1.aa)],.int .i64 r.2]),none):=aW _ _ _ (p0,(an.mk p1_0 p1_1))
theorem DT (p0:Bool) (p1:an) (r:an×Int) (hh:dC p0 p1=some r):a8 .clean tab a6 FU Try.f75 none [.bool p0,.agg [.int .i64 p1.ag,.sl false false p1.aa.length (ae (eI .i64) p1.aa)]]=some (.clean (.tup [.agg [.int .i64 r.1.ag,.sl false false r.1.aa.length (ae (eI .i64) r.1.aa)],.int .i64 r.2]),none):=by
 refine aC rfl Try.ntmps75 Try.results75 ?_
 unfold dC at hh
 try simp only[w,seval]
 refine sp aq hh (fun _ hh =>?_) (fun _ hh =>?_)
 ·cases hh
  try simp only[w,seval]
 ·cases hh
  try simp only[w,seval]
theorem oo:bY Try.prog 75 jO:=bY.of (mode := .clean) tok bD.none mixed Try.func75 (by kernel_rfl) ⟨by kernel_rfl,by kernel_rfl⟩ (fun _=>ad4 (by kernel_rfl)) (fun x r h=>DT x.1 x.2 r h)
theorem yt (r:(List Int)) (hh:ct []=some r):a8 (.fresh 3 1) tab a6 FU Try.f82 none [.sl true true 0 []]=some (.fresh 3 1 r.length (ae (eI .i64) r),none):=by
 unfold ct at hh
 obtain⟨qa,qb,qc⟩:=An hh
 subst qa
 refine aC rfl Try.ntmps82 Try.results82 ?_
 simp only[w,seval,Nat.lt_irrefl]
theorem yu (r:(List Int)) (hh:ct []=some r):a8 (.fresh 3 1) tab a6 FU Try.f82 none [.sl true false 0 []]=some (.fresh 3 1 r.length (ae (eI .i64) r),none):=by
 unfold ct at hh
 obtain⟨qa,qb,qc⟩:=An hh
 subst qa
 refine aC rfl Try.ntmps82 Try.results82 ?_
 simp only[w,seval,Nat.lt_irrefl]
theorem yv (p0 r:(List Int)) (hp:0<p0.length) (hh:ct p0=some r):a8 (.fresh 3 1) tab a6 FU Try.f82 none [.sl false false p0.length (ae (eI .i64) p0)]=some (.fresh 3 1 r.length (ae (eI .i64) r),none):=by
 unfold ct at hh
 have hz:¬p0.length=0:=by omega
 obtain⟨qa,qb,qc⟩:=An hh
 subst qa
 refine aC rfl Try.ntmps82 Try.results82 ?_
 simp only[w,seval,hp,hz,qb,qc]
noncomputable def gE:=gf (fP (mB (eI .i64))) (fun x:(List Int)=>ct x) (fun r:(List Int) =>.fresh 3 1 r.length (ae (eI .i64) r))
theorem eH (p0:(List Int)):gE none [.sl false false p0.length (ae (eI .i64) p0)]=(ct p0).map fun r:(List Int)=>(.fresh 3 1 r.length (ae (eI .i64) r),none):=aW _ _ _ p0
theorem kd:bY Try.prog 82 gE:=bY.aaj (mode:=(.fresh 3 1)) tok bD.none mixed Try.func82 (by kernel_rfl) ⟨by kernel_rfl,by kernel_rfl⟩ (ad4 (by kernel_rfl)) yt yu yv
noncomputable def sr:=gf (fP (aI .i64)) (fun x:Int=>lX x) (fun r:Bool =>.clean (.bool r))
theorem zH (p0:Int):sr none [.int .i64 p0]=(lX p0).map fun r:Bool=>(.clean (.bool r),none):=aW _ _ _ (p0)
theorem LO (p0:Int) (r:Bool) (hh:lX p0=some r):a8 .clean tab a6 FU Try.f96 none [.int .i64 p0]=some (.clean (.bool r),none):=by
 refine aC rfl Try.ntmps96 Try.results96 ?_
 unfold lX at hh
 cases hh
 try simp only[w,seval]
theorem Im:bY Try.prog 96 sr:=bY.of (mode := .clean) tok bD.none mixed Try.func96 (by kernel_rfl) ⟨by kernel_rfl,by kernel_rfl⟩ (fun _=>ad4 (by kernel_rfl)) (fun x r h=>LO x r h)
noncomputable def im:=gf (iQ (aI .i64) (fP (aI .i64))) (fun x:Int×Int=>ee x.1 x.2) (fun r:Int =>.clean (.int .i64 r))
theorem fj (p0:Int) (p1:Int):im none [.int .i64 p0,.int .i64 p1]=(ee p0 p1).map fun r:Int=>(.clean (.int .i64 r),none):=aW _ _ _ (p0,p1)
noncomputable def mn:Env:=(Am.ext a6 96 false sr)
theorem B4:bD Try.prog mn:=(bD.none.add Im false)
theorem dp:type_of% (ai @w<|ai @zH<|@mn.eq_1):=⟨@w,@zH,@mn.eq_1⟩
theorem DV (p0:Int) (p1:Int) (r:Int) (hh:ee p0 p1=some r):a8 .clean tab mn FU Try.f66 none [.int .i64 p0,.int .i64 p1]=some (.clean (.int .i64 r),none):=by
 refine aC rfl Try.ntmps66 Try.results66 ?_
 unfold ee at hh
 obtain⟨r1,hr1,hh⟩:=ah hh
 obtain⟨r2,hr2,hh⟩:=ah hh
 try simp only[dp,seval,hr1,hr2]
 refine sp aq hh (fun _ hh =>?_) (fun _ hh =>?_)
 ·try simp only[dp,seval,hr1,hr2]
  refine sp aq hh (fun _ hh =>?_) (fun _ hh =>?_)
  ·cases hh
   try simp only[dp,seval,hr1,hr2]
  ·cases hh
   try simp only[dp,seval,hr1,hr2]
 ·try simp only[dp,seval,hr1,hr2]
  refine sp aq hh (fun _ hh =>?_) (fun _ hh =>?_)
  ·cases hh
   try simp only[dp,seval,hr1,hr2]
  ·try simp only[dp,seval,hr1,hr2]
   refine sp aq hh (fun _ hh =>?_) (fun _ hh =>?_)
   ·cases hh
    try simp only[dp,seval,hr1,hr2]
   ·try simp only[dp,seval,hr1,hr2]
    refine sp aq hh (fun _ hh =>?_) (fun _ hh =>?_)
    ·cases hh
     try simp only[dp,seval,hr1,hr2]
    ·cases hh
     try simp only[dp,seval,hr1,hr2]
theorem lD:bY Try.prog 66 im:=bY.of (mode := .clean) tok B4 mixed Try.func66 (by kernel_rfl) ⟨by kernel_rfl,by kernel_rfl⟩ (fun _=>ad4 (by kernel_rfl)) (fun x r h=>DV x.1 x.2 r h)
noncomputable def jP:=gf (iQ (mB (eI .i64)) (fP (mB (eI .i64)))) (fun x:(List Int)×(List Int)=>eE x.1 x.2) (fun r:Int =>.clean (.int .i64 r))
theorem iA (p0:(List Int)) (p1:(List Int)):jP none [.sl false false p0.length (ae (eI .i64) p0),.sl false false p1.length (ae (eI .i64) p1)]=(eE p0 p1).map fun r:Int=>(.clean (.int .i64 r),none):=aW _ _ _ (p0,p1)
noncomputable def mm:Env:=(Am.ext a6 66 false im)
theorem B3:bD Try.prog mm:=(bD.none.add lD false)
theorem cl:type_of% (ai @w<|ai @fj<|@mm.eq_1):=⟨@w,@fj,@mm.eq_1⟩
theorem DU (p0:(List Int)) (p1:(List Int)) (r:Int) (hh:eE p0 p1=some r):a8 .clean tab mm FU Try.f78 none [.sl false false p0.length (ae (eI .i64) p0),.sl false false p1.length (ae (eI .i64) p1)]=some (.clean (.int .i64 r),none):=by
 refine aC rfl Try.ntmps78 Try.results78 ?_
 unfold eE at hh
 try simp only[cl,seval]
 refine sp aq hh (fun _ hh =>?_) (fun _ hh =>?_)
 ·obtain⟨r2,hr2,hh⟩:=ah hh
  cases hh
  try simp only[cl,seval,hr2]
 ·try simp only[cl,seval]
  obtain⟨o8,ho8,hh⟩:=ah hh
  refine aB (fun s t H e=>match s with|s5a=>t 0=.sl false false p0.length (ae (eI .i64) p0)∧t 1=.sl false false p1.length (ae (eI .i64) p1)∧t 5=.int .i64 s5a) (fun o x t H e=>match o with|(.inl _)=>x=.exit 0|(.inr r)=>x=.ret∧jv .clean tab none [.tmp 4] ⟨t,EH H,e⟩=some (.clean (.int .i64 r),none)) ho8 ?_ ?_ ?_
  ·refine⟨?_,?_,?_⟩
   all_goals first|rfl|(simp only[cl,seval]<;>rfl)
  ·rintro s5a t H e Za c hh
   simp only[ld]at hh
   try simp only[cl,seval,Za]
   refine sp aq hh (fun _ hh =>?_) (fun _ hh =>?_)
   ·obtain⟨x10,hx10,hh⟩:=ah hh
    have ax10:=bG (eI .i64) hx10
    simp only[bB]at ax10
    obtain⟨x11,hx11,hh⟩:=ah hh
    have ax11:=bG (eI .i64) hx11
    simp only[bB]at ax11
    try simp only[cl,seval,Za,ax10,ax11]
    refine bf (by kernel_rfl) ?_
    try simp only[cl,seval,Za,ax10,ax11]
    refine sp aq hh (fun _ hh =>?_) (fun _ hh =>?_)
    ·have ax10:=bG (eI .i64) hx10
     simp only[bB]at ax10
     have ax11:=bG (eI .i64) hx11
     simp only[bB]at ax11
     obtain⟨r13,hr13,hh⟩:=ah hh
     try simp only[cl,seval,Za,ax10,ax11,ax10,ax11,hr13]
     refine bf (by kernel_rfl) ?_
     cases hh
     try simp only[cl,seval,Za,ax10,ax11,ax10,ax11,hr13]
     refine DR ⟨rfl,?_⟩
     try simp only[cl,seval,Za,ax10,ax11,ax10,ax11,hr13]
    ·cases hh
     try simp only[cl,seval,Za,ax10,ax11]
     refine jN ?_
     refine⟨?_,?_,?_⟩
     all_goals first|rfl|(simp only[cl,seval,Za,ax10,ax11]<;>rfl)
   ·cases hh
    try simp only[cl,seval,Za]
    refine kW ?_
    exact rfl
  ·rintro x t H e hx
   rcases o8 with _|ra
   ·dsimp only at hx hh
    subst hx
    cases hh
    try simp only[cl,seval]
   ·dsimp only at hx hh
    obtain⟨rfl,hE⟩:=hx
    cases hh
    try simp only[bO,bI,b6,eJ,eF,dE,dF]
    exact hE
theorem ot:bY Try.prog 78 jP:=bY.of (mode := .clean) tok B3 mixed Try.func78 (by kernel_rfl) ⟨by kernel_rfl,by kernel_rfl⟩ (fun _=>ad4 (by kernel_rfl)) (fun x r h=>DU x.1 x.2 r h)
noncomputable def kg:=gf (fP (mB (eI .i64))) (fun x:(List Int)=>dD x) (fun r:(List Int) =>.clean (.sl false false r.length (ae (eI .i64) r)))
theorem eV (p0:(List Int)):kg none [.sl false false p0.length (ae (eI .i64) p0)]=(dD p0).map fun r:(List Int)=>(.clean (.sl false false r.length (ae (eI .i64) r)),none):=aW _ _ _ (p0)
theorem OH (p0:(List Int)) (r:(List Int)) (hh:dD p0=some r):a8 .clean tab a6 FU Try.f102 none [.sl false false p0.length (ae (eI .i64) p0)]=some (.clean (.sl false false r.length (ae (eI .i64) r)),none):=by
 refine aC rfl Try.ntmps102 Try.results102 ?_
 unfold dD at hh
 try simp only[w,seval]
 obtain⟨o4,ho4,hh⟩:=ah hh
 refine aB (fun s t H e=>match s with|s3a=>t 0=.sl false false p0.length (ae (eI .i64) p0)∧t 3=.int .i64 s3a) (fun o x t H e=>match o with|s3ax=>x=.exit 0∧t 0=.sl false false p0.length (ae (eI .i64) p0)∧t 3=.int .i64 s3ax) ho4 ?_ ?_ ?_
 ·refine⟨?_,?_⟩
  all_goals first|rfl|(simp only[w,seval]<;>rfl)
 ·rintro s3a t H e Za c hh
  simp only[mC]at hh
  try simp only[w,seval,Za]
  refine sp dW hh (fun _ hh =>?_) (fun _ hh =>?_)
  ·obtain⟨x6,hx6,hh⟩:=ah hh
   have ax6:=bG (eI .i64) hx6
   simp only[bB]at ax6
   try simp only[w,seval,Za,ax6]
   refine sp aq hh (fun _ hh =>?_) (fun _ hh =>?_)
   ·cases hh
    try simp only[w,seval,Za,ax6]
    refine jN ?_
    refine⟨?_,?_⟩
    all_goals first|rfl|(simp only[w,seval,Za,ax6]<;>rfl)
   ·cases hh
    try simp only[w,seval,Za,ax6]
    refine kW ?_
    refine⟨rfl,⟨?_,?_⟩⟩
    all_goals first|rfl|(simp only[w,seval,Za,ax6]<;>rfl)
  ·cases hh
   try simp only[w,seval,Za]
   refine kW ?_
   refine⟨rfl,⟨?_,?_⟩⟩
   all_goals first|rfl|(simp only[w,seval,Za]<;>rfl)
 ·rintro x t H e hx
  obtain⟨s3ax,rfl⟩:∃z,z=o4:=⟨_,rfl⟩
  dsimp only at hx hh
  obtain⟨rfl,Zax⟩:=hx
  obtain⟨x8,hx8,hh⟩:=ah hh
  obtain⟨q9a,q9b,q9c,q9d,q9e⟩:=IE (eI .i64) hx8
  simp only[bB]at q9e
  cases hh
  try simp only[w,seval,Zax,q9a,q9b,q9c,q9d,q9e]
theorem mO:bY Try.prog 102 kg:=bY.of (mode := .clean) tok bD.none mixed Try.func102 (by kernel_rfl) ⟨by kernel_rfl,by kernel_rfl⟩ (fun _=>ad4 (by kernel_rfl)) (fun x r h=>OH x r h)
noncomputable def p5:=YI 3 (eI .i64) (as0) (fun (l:(List Int)) (x:Unit)=>dD l)
theorem Ix (pre post:List D) (p0:(List Int)):p5 (some (.buf 0 0 1 pre.length p0.length,⟨0,3,pre++(ae (eI .i64) p0++post),false,true,false⟩)) []=(dD p0).map fun r=>(.fresh 3 1 r.length (ae (eI .i64) r),none):=VB _ _ _ _ pre post p0 ()
theorem H2 (pre post:List D) (p0:(List Int)) (r:(List Int)) (hh:dD p0=some r):a8 (.fresh 3 1) tab a6 FU Try.f102 (some (.buf 0 0 1 pre.length p0.length,⟨0,3,pre++(ae (eI .i64) p0++post),false,true,false⟩)) []=some (.fresh 3 1 r.length (ae (eI .i64) r),none):=by
 refine Dy rfl Try.ntmps102 Try.results102 ?_
 unfold dD at hh
 try simp only[w,seval]
 obtain⟨o4,ho4,hh⟩:=ah hh
 refine aB (fun s t H e=>match s with|s3a=>∃v0a:Nat,t 0=.buf 0 v0a 1 pre.length (p0).length∧t 3=.int .i64 s3a∧H 0=some ⟨v0a,3,pre++(ae (eI .i64) p0++post),false,true,false⟩) (fun o x t H e=>match o with|s3ax=>x=.exit 0∧∃v0ax:Nat,t 0=.buf 0 v0ax 1 pre.length (p0).length∧t 3=.int .i64 s3ax∧H 0=some ⟨v0ax,3,pre++(ae (eI .i64) p0++post),false,true,false⟩) ho4 ?_ ?_ ?_
 ·refine⟨0,?_,?_,?_⟩
  all_goals first|rfl|(simp only[w,seval]<;>rfl)
 ·rintro s3a t H e ⟨v0a,Za⟩ c hh
  simp only[mC]at hh
  try simp only[w,seval,Za]
  refine sp dW hh (fun _ hh =>?_) (fun _ hh =>?_)
  ·obtain⟨x6,hx6,hh⟩:=ah hh
   have ax6:=K4 (pre:=pre) (post:=post) (eI .i64) hx6
   simp only[bB]at ax6
   try simp only[w,seval,Za,ax6]
   refine sp aq hh (fun _ hh =>?_) (fun _ hh =>?_)
   ·cases hh
    try simp only[w,seval,Za,ax6]
    refine jN ?_
    refine⟨v0a,?_,?_,?_⟩
    all_goals first|rfl|(simp only[w,seval,Za,ax6]<;>rfl)
   ·cases hh
    try simp only[w,seval,Za,ax6]
    refine kW ?_
    refine⟨rfl,⟨v0a,?_,?_,?_⟩⟩
    all_goals first|rfl|(simp only[w,seval,Za,ax6]<;>rfl)
  ·cases hh
   try simp only[w,seval,Za]
   refine kW ?_
   refine⟨rfl,⟨v0a,?_,?_,?_⟩⟩
   all_goals first|rfl|(simp only[w,seval,Za]<;>rfl)
 ·rintro x t H e hx
  obtain⟨s3ax,rfl⟩:∃z,z=o4:=⟨_,rfl⟩
  dsimp only at hx hh
  obtain⟨rfl,⟨v0ax,Zax⟩⟩:=hx
  obtain⟨x8,hx8,hh⟩:=ah hh
  obtain⟨q9a,q9b,q9c,q9d,q9e⟩:=IE (eI .i64) hx8
  simp only[bB]at q9e
  obtain⟨q9f,q9g⟩:=XV (pre:=pre) (post:=post) (eI .i64) hx8
  simp only[bB]at q9f q9g
  cases hh
  try simp only[w,seval,Zax,q9a,q9b,q9c,q9f,q9g,q9d]
theorem D2:bY Try.prog 102 p5:=bY.aag tok bD.none mixed Try.func102 (by kernel_rfl) ⟨by kernel_rfl,by kernel_rfl⟩ (fun _=>ad4 (by kernel_rfl)) (fun pre post l x r h=>H2 pre post l r h)
noncomputable def so:=gf (iQ (mB (eI .i64)) (fP (aI .i64))) (fun x:(List Int)×Int=>kF x.1 x.2) (fun r:(List Int)×Int =>.clean (.tup [.sl false false r.1.length (ae (eI .i64) r.1),.int .i64 r.2]))
theorem zG (p0:(List Int)) (p1:Int):so none [.sl false false p0.length (ae (eI .i64) p0),.int .i64 p1]=(kF p0 p1).map fun r:(List Int)×Int=>(.clean (.tup [.sl false false r.1.length (ae (eI .i64) r.1),.int .i64 r.2]),none):=aW _ _ _ (p0,p1)
noncomputable def oP:Env:=(Am.ext a6 102 false kg)
theorem HN:bD Try.prog oP:=(bD.none.add mO false)
theorem gX:type_of% (ai @w<|ai @eV<|@oP.eq_1):=⟨@w,@eV,@oP.eq_1⟩
theorem LN (p0:(List Int)) (p1:Int) (r:(List Int)×Int) (hh:kF p0 p1=some r):a8 .clean tab oP FU Try.f104 none [.sl false false p0.length (ae (eI .i64) p0),.int .i64 p1]=some (.clean (.tup [.sl false false r.1.length (ae (eI .i64) r.1),.int .i64 r.2]),none):=by
 refine aC rfl Try.ntmps104 Try.results104 ?_
 unfold kF at hh
 obtain⟨x1,hx1,hh⟩:=ah hh
 obtain⟨q2a,q2b,q2c,q2d,q2e⟩:=mk_one (eI .i64) hx1
 simp only[bB]at q2d
 try simp only[gX,seval,-Int.reduceToNat,q2a,q2b,q2c,q2d,q2e]
 obtain⟨o13,ho13,hh⟩:=ah hh
 refine aB (fun s t H e=>match s with|(s7a,s8a,l6a)=>∃v6a:Nat,t 0=.sl false false p0.length (ae (eI .i64) p0)∧t 1=.int .i64 p1∧t 6=.buf 6 v6a 1 0 (l6a).length∧t 7=.int .i64 s7a∧t 8=.int .i64 s8a∧H 6=some ⟨v6a,3,ae (eI .i64) l6a,false,true,false⟩) (fun o x t H e=>match o with|(s7ax,l6ax)=>x=.exit 0∧∃v6ax:Nat,t 6=.buf 6 v6ax 1 0 (l6ax).length∧t 7=.int .i64 s7ax∧H 6=some ⟨v6ax,3,ae (eI .i64) l6ax,false,true,false⟩) ho13 ?_ ?_ ?_
 ·refine⟨1,?_,?_,?_,?_,?_,?_⟩
  all_goals first|rfl|(simp only[gX,seval,-Int.reduceToNat,q2a,q2b,q2c,q2d,q2e]<;>rfl)
 ·rintro⟨s7a,s8a,l6a⟩ t H e ⟨v6a,Za⟩ c hh
  simp only[nf]at hh
  try simp only[gX,seval,-Int.reduceToNat,q2a,q2b,q2c,q2d,q2e,Za]
  refine sp aq hh (fun _ hh =>?_) (fun _ hh =>?_)
  ·obtain⟨x15,hx15,hh⟩:=ah hh
   have q16:=Ay hx15
   obtain⟨x17,hx17,hh⟩:=ah hh
   have ax17:=bG (eI .i64) hx17
   simp only[bB]at ax17
   obtain⟨x18,hx18,hh⟩:=ah hh
   have q19:=qB hx18
   obtain⟨x20,hx20,hh⟩:=ah hh
   have ax20:=bG (eI .i64) hx20
   simp only[bB]at ax20
   have p21:=eO (eI .i64) (x':=x18) (fo:=0) (cs:=[.int .i64 x18]) hx20 rfl (ad4 rfl)
   simp only[bB,Nat.add_zero]at p21
   have up21:=p21
   simp only[putCells,List.length_cons,List.length_nil,ada,Nat.reduceAdd]at up21
   obtain⟨x22,hx22,hh⟩:=ah hh
   have q23:=xe hx22
   cases hh
   try simp only[gX,seval,-Int.reduceToNat,q2a,q2b,q2c,q2d,q2e,Za,q16,ax17,q19,ax20,p21,up21,q23]
   refine jN ?_
   refine⟨v6a,?_,?_,?_,?_,?_,?_⟩
   all_goals first|rfl|(simp only[gX,seval,-Int.reduceToNat,q2a,q2b,q2c,q2d,q2e,Za,q16,ax17,q19,ax20,p21,up21,q23]<;>rfl)
  ·cases hh
   try simp only[gX,seval,-Int.reduceToNat,q2a,q2b,q2c,q2d,q2e,Za]
   refine kW ?_
   refine⟨rfl,⟨v6a,?_,?_,?_⟩⟩
   all_goals first|rfl|(simp only[gX,seval,-Int.reduceToNat,q2a,q2b,q2c,q2d,q2e,Za]<;>rfl)
 ·rintro x t H e hx
  rcases o13 with⟨s7ax,l6ax⟩
  dsimp only at hx hh
  obtain⟨rfl,⟨v6ax,Zax⟩⟩:=hx
  obtain⟨r24,hr24,hh⟩:=ah hh
  cases hh
  try simp only[gX,seval,-Int.reduceToNat,q2a,q2b,q2c,q2d,q2e,Zax,hr24]
theorem Il:bY Try.prog 104 so:=bY.of (mode := .clean) tok HN mixed Try.func104 (by kernel_rfl) ⟨by kernel_rfl,by kernel_rfl⟩ (fun _=>ad4 (by kernel_rfl)) (fun x r h=>LN x.1 x.2 r h)
noncomputable def tO:=gf (iQ (mB (eI .i64)) (fP (mB (eI .i64)))) (fun x:(List Int)×(List Int)=>nd x.1 x.2) (fun r:(List Int) =>.fresh 3 1 r.length (ae (eI .i64) r))
theorem nG (p0:(List Int)) (p1:(List Int)):tO none [.sl false false p0.length (ae (eI .i64) p0),.sl false false p1.length (ae (eI .i64) p1)]=(nd p0 p1).map fun r:(List Int)=>(.fresh 3 1 r.length (ae (eI .i64) r),none):=aW _ _ _ (p0,p1)
noncomputable def um:Env:=(Am.ext a6 102 true p5)
theorem Ot:bD Try.prog um:=(bD.none.add D2 true)
theorem ep:type_of% (ai @w<|@um.eq_1):=⟨@w,@um.eq_1⟩
theorem S8 (p0:(List Int)) (p1:(List Int)) (r:(List Int)) (hh:nd p0 p1=some r):a8 (.fresh 3 1) tab um FU Try.f103 none [.sl false false p0.length (ae (eI .i64) p0),.sl false false p1.length (ae (eI .i64) p1)]=some (.fresh 3 1 r.length (ae (eI .i64) r),none):=by
 refine aC rfl Try.ntmps103 Try.results103 ?_
 unfold nd at hh
 obtain⟨x1,hx1,hh⟩:=ah hh
 obtain⟨q2a,q2b,q2c,q2d,q2e⟩:=mk_one (eI .i64) hx1
 simp only[bB]at q2d
 try simp only[ep,seval,-Int.reduceToNat,q2a,q2b,q2c,q2d,q2e]
 obtain⟨o20,ho20,hh⟩:=ah hh
 refine aB (fun s t H e=>match s with|(s20a,l5a)=>∃v5a:Nat,t 1=.sl false false p1.length (ae (eI .i64) p1)∧t 5=.buf 5 v5a 1 0 (l5a).length∧t 18=.sl false false p0.length (ae (eI .i64) p0)∧t 19=.int .i64 (p0.length:Int)∧t 20=.int .i64 s20a∧H 5=some ⟨v5a,3,ae (eI .i64) l5a,false,true,false⟩) (fun o x t H e=>match o with|l5ax=>x=.exit 0∧∃v5ax:Nat,t 5=.buf 5 v5ax 1 0 (l5ax).length∧H 5=some ⟨v5ax,3,ae (eI .i64) l5ax,false,true,false⟩) ho20 ?_ ?_ ?_
 ·refine⟨1,?_,?_,?_,?_,?_,?_⟩
  all_goals first|rfl|(simp only[ep,seval,-Int.reduceToNat,q2a,q2b,q2c,q2d,q2e]<;>rfl)
 ·rintro⟨s20a,l5a⟩ t H e ⟨v5a,Za⟩ c hh
  simp only[qv]at hh
  try simp only[ep,seval,-Int.reduceToNat,q2a,q2b,q2c,q2d,q2e,Za]
  refine sp aq hh (fun _ hh =>?_) (fun _ hh =>?_)
  ·obtain⟨x22,hx22,hh⟩:=ah hh
   have ax22:=bG (eI .i64) hx22
   simp only[bB]at ax22
   try simp only[ep,seval,-Int.reduceToNat,q2a,q2b,q2c,q2d,q2e,Za,ax22]
   obtain⟨o29,ho29,hh⟩:=ah hh
   refine aB (fun s t H e=>match s with|(s8c,s27c,l5c)=>∃v5c:Nat,t 1=.sl false false p1.length (ae (eI .i64) p1)∧t 5=.buf 5 v5c 1 0 (l5c).length∧t 6=.int .i64 s20a∧t 7=.int .i64 x22∧t 8=.int .i64 s8c∧t 18=.sl false false p0.length (ae (eI .i64) p0)∧t 19=.int .i64 (p0.length:Int)∧t 20=.int .i64 s20a∧t 25=.sl false false p1.length (ae (eI .i64) p1)∧t 26=.int .i64 (p1.length:Int)∧t 27=.int .i64 s27c∧H 5=some ⟨v5c,3,ae (eI .i64) l5c,false,true,false⟩) (fun o x t H e=>match o with|(s8cx,l5cx)=>x=.exit 2∧∃v5cx:Nat,t 1=.sl false false p1.length (ae (eI .i64) p1)∧t 5=.buf 5 v5cx 1 0 (l5cx).length∧t 6=.int .i64 s20a∧t 8=.int .i64 s8cx∧t 18=.sl false false p0.length (ae (eI .i64) p0)∧t 19=.int .i64 (p0.length:Int)∧t 20=.int .i64 s20a∧H 5=some ⟨v5cx,3,ae (eI .i64) l5cx,false,true,false⟩) ho29 ?_ ?_ ?_
   ·refine⟨v5a,?_,?_,?_,?_,?_,?_,?_,?_,?_,?_,?_,?_⟩
    all_goals first|rfl|(simp only[ep,seval,-Int.reduceToNat,q2a,q2b,q2c,q2d,q2e,Za,ax22]<;>rfl)
   ·rintro⟨s8c,s27c,l5c⟩ t H e ⟨v5c,Zc⟩ c hh
    simp only[qw]at hh
    try simp only[ep,seval,-Int.reduceToNat,q2a,q2b,q2c,q2d,q2e,ax22,Zc]
    refine sp aq hh (fun _ hh =>?_) (fun _ hh =>?_)
    ·obtain⟨x31,hx31,hh⟩:=ah hh
     have ax31:=bG (eI .i64) hx31
     simp only[bB]at ax31
     obtain⟨x32,hx32,hh⟩:=ah hh
     have ax32:=bG (eI .i64) hx32
     simp only[bB]at ax32
     obtain⟨x33,hx33,hh⟩:=ah hh
     have q34:=rE hx33
     have ax32:=bG (eI .i64) hx32
     simp only[bB]at ax32
     have p35:=eO (eI .i64) (x':=jR .and .i64 (IntKind.i64.wrap ((IntKind.i64.wrap (x32+(IntKind.i64.wrap (x22*x31))))+s8c)) 1048575) (fo:=0) (cs:=[.int .i64 (jR .and .i64 (IntKind.i64.wrap ((IntKind.i64.wrap (x32+(IntKind.i64.wrap (x22*x31))))+s8c)) 1048575)]) hx32 rfl (ad4 rfl)
     simp only[bB,Nat.add_zero]at p35
     have up35:=p35
     simp only[putCells,List.length_cons,List.length_nil,ada,Nat.reduceAdd]at up35
     cases hh
     try simp only[ep,seval,-Int.reduceToNat,q2a,q2b,q2c,q2d,q2e,ax22,Zc,ax31,ax32,q34,ax32,p35,up35]
     refine jN ?_
     refine⟨v5c,?_,?_,?_,?_,?_,?_,?_,?_,?_,?_,?_,?_⟩
     all_goals first|rfl|(simp only[ep,seval,-Int.reduceToNat,q2a,q2b,q2c,q2d,q2e,ax22,Zc,ax31,ax32,q34,ax32,p35,up35]<;>rfl)
    ·cases hh
     try simp only[ep,seval,-Int.reduceToNat,q2a,q2b,q2c,q2d,q2e,ax22,Zc]
     refine kW ?_
     refine⟨rfl,⟨v5c,?_,?_,?_,?_,?_,?_,?_,?_⟩⟩
     all_goals first|rfl|(simp only[ep,seval,-Int.reduceToNat,q2a,q2b,q2c,q2d,q2e,ax22,Zc]<;>rfl)
   ·rintro x t H e hx
    rcases o29 with⟨s8cx,l5cx⟩
    dsimp only at hx hh
    obtain⟨rfl,⟨v5cx,Zcx⟩⟩:=hx
    obtain⟨x36,hx36,hh⟩:=ah hh
    have ax36:=bG (eI .i64) hx36
    simp only[bB]at ax36
    have ax36:=bG (eI .i64) hx36
    simp only[bB]at ax36
    have p37:=eO (eI .i64) (x':=IntKind.i64.wrap (x36+s8cx)) (fo:=0) (cs:=[.int .i64 (IntKind.i64.wrap (x36+s8cx))]) hx36 rfl (ad4 rfl)
    simp only[bB,Nat.add_zero]at p37
    have up37:=p37
    simp only[putCells,List.length_cons,List.length_nil,ada,Nat.reduceAdd]at up37
    cases hh
    try simp only[ep,seval,-Int.reduceToNat,q2a,q2b,q2c,q2d,q2e,ax22,Zcx,ax36,ax36,p37,up37]
    refine jN ?_
    refine⟨v5cx,?_,?_,?_,?_,?_,?_⟩
    all_goals first|rfl|(simp only[ep,seval,-Int.reduceToNat,q2a,q2b,q2c,q2d,q2e,ax22,Zcx,ax36,ax36,p37,up37]<;>rfl)
  ·cases hh
   try simp only[ep,seval,-Int.reduceToNat,q2a,q2b,q2c,q2d,q2e,Za]
   refine kW ?_
   refine⟨rfl,⟨v5a,?_,?_⟩⟩
   all_goals first|rfl|(simp only[ep,seval,-Int.reduceToNat,q2a,q2b,q2c,q2d,q2e,Za]<;>rfl)
 ·rintro x t H e hx
  obtain⟨l5ax,rfl⟩:∃z,z=o20:=⟨_,rfl⟩
  dsimp only at hx hh
  obtain⟨rfl,⟨v5ax,Zax⟩⟩:=hx
  have i38:=Ix [] [] l5ax
  try simp only[List.nil_append,aec,List.length_nil,aJ,aem,bB]at i38
  obtain⟨r39,hr39,hh⟩:=ah hh
  cases hh
  try simp only[ep,seval,-Int.reduceToNat,q2a,q2b,q2c,q2d,q2e,Zax,i38,hr39]
theorem CI:bY Try.prog 103 tO:=bY.of (mode:=(.fresh 3 1)) tok Ot mixed Try.func103 (by kernel_rfl) ⟨by kernel_rfl,by kernel_rfl⟩ (fun _=>ad4 (by kernel_rfl)) (fun x r h=>S8 x.1 x.2 r h)
noncomputable def nN:=ZW 3 (eI .i64) (iQ (mB (eI .i64)) (fP (aI .i64))) (fun (l:(List Int)) (x:(List Int)×Int)=>e9 l x.1 x.2) (fun r:Int =>.clean (.int .i64 r))
theorem CU (pre post:List D) (p0:(List Int)) (p1:(List Int)) (p2:Int):nN (some (.buf 0 0 1 pre.length p0.length,⟨0,3,pre++(ae (eI .i64) p0++post),false,true,false⟩)) [.sl false false p1.length (ae (eI .i64) p1),.int .i64 p2]=(e9 p0 p1 p2).map fun r=>(.clean (.int .i64 r.2),some ⟨0,3,pre++(ae (eI .i64) r.1++post),false,true,false⟩):=Zy _ _ _ _ _ pre post p0 (p1,p2)
theorem Co (pre post:List D) (p0:(List Int)) (p1:(List Int)) (p2:Int) (r:(List Int)×(Int)) (hh:e9 p0 p1 p2=some r):a8 .clean tab a6 FU Try.f105 (some (.buf 0 0 1 pre.length p0.length,⟨0,3,pre++(ae (eI .i64) p0++post),false,true,false⟩)) [.sl false false p1.length (ae (eI .i64) p1),.int .i64 p2]=some (.clean (.int .i64 r.2),some ⟨0,3,pre++(ae (eI .i64) r.1++post),false,true,false⟩):=by
 refine Dy rfl Try.ntmps105 Try.results105 ?_
 unfold e9 at hh
 obtain⟨rw,hrw,hh⟩:=ah hh
 split at hh
 rotate_left
 ·cases hh
 cases hh
 rename_i hlen
 replace hh:=hrw
 unfold nU at hh
 try simp only[w,seval,-Int.reduceToNat]
 obtain⟨o9,ho9,hh⟩:=ah hh
 refine aB (fun s t H e=>match s with|(s7a,s14a,l0a)=>t 0=.buf 0 0 1 pre.length (l0a).length∧t 1=.sl false false p1.length (ae (eI .i64) p1)∧t 2=.int .i64 p2∧t 7=.int .i64 s7a∧t 13=.int .i64 ((p0).length:Int)∧t 14=.int .i64 s14a∧H 0=some ⟨0,3,pre++(ae (eI .i64) l0a++post),false,true,false⟩) (fun o x t H e=>match o with|(s7ax,l0ax)=>x=.exit 0∧t 0=.buf 0 0 1 pre.length (l0ax).length∧t 1=.sl false false p1.length (ae (eI .i64) p1)∧t 2=.int .i64 p2∧t 7=.int .i64 s7ax∧H 0=some ⟨0,3,pre++(ae (eI .i64) l0ax++post),false,true,false⟩) ho9 ?_ ?_ ?_
 ·refine⟨?_,?_,?_,?_,?_,?_,?_⟩
  all_goals first|rfl|(simp only[w,seval,-Int.reduceToNat]<;>rfl)
 ·rintro⟨s7a,s14a,l0a⟩ t H e Za c hh
  simp only[j7]at hh
  try simp only[w,seval,-Int.reduceToNat,Za]
  refine sp aq hh (fun _ hh =>?_) (fun _ hh =>?_)
  ·obtain⟨x11,hx11,hh⟩:=ah hh
   have ax11:=K4 (pre:=pre) (post:=post) (eI .i64) hx11
   simp only[bB]at ax11
   try simp only[w,seval,-Int.reduceToNat,Za,ax11]
   obtain⟨o12,ho12,hh⟩:=ah hh
   refine j4 0 (fun s t H e=>match s with|s9j3=>t 0=.buf 0 0 1 pre.length (l0a).length∧t 1=.sl false false p1.length (ae (eI .i64) p1)∧t 2=.int .i64 p2∧t 8=.int .i64 s14a∧t 9=.int .i64 s9j3∧t 13=.int .i64 ((p0).length:Int)∧t 14=.int .i64 s14a∧H 0=some ⟨0,3,pre++(ae (eI .i64) l0a++post),false,true,false⟩) (fun s=>s=o12) ?_ ?_
   ·rintro s9j3 t H e Zj3 rfl
    try dsimp only at hh
    have ax11:=K4 (pre:=pre) (post:=post) (eI .i64) hx11
    simp only[bB]at ax11
    have p13:=MJ (pre:=pre) (post:=post) (eI .i64) (y':=jR .and .i64 s9j3 1048575) hx11
    simp only[bB]at p13
    have up13:=p13
    simp only[putCells,List.length_cons,List.length_nil,ada,Nat.reduceAdd]at up13
    obtain⟨x14,hx14,hh⟩:=ah hh
    have q15:=rE hx14
    cases hh
    try simp only[w,seval,-Int.reduceToNat,ax11,Zj3,ax11,p13,up13,q15]
    refine jN ?_
    refine⟨?_,?_,?_,?_,?_,?_,?_⟩
    all_goals first|rfl|(simp only[w,seval,-Int.reduceToNat,ax11,Zj3,ax11,p13,up13,q15]<;>rfl)
   ·clear hh
    have hh:=ho12
    try simp only[w,seval,-Int.reduceToNat,Za,ax11]
    refine sp aq hh (fun _ hh =>?_) (fun _ hh =>?_)
    ·obtain⟨x17,hx17,hh⟩:=ah hh
     have ax17:=bG (eI .i64) hx17
     simp only[bB]at ax17
     cases hh
     try simp only[w,seval,-Int.reduceToNat,Za,ax11,ax17]
     rw[au]
     refine⟨_,rfl,?_⟩
     refine⟨?_,?_,?_,?_,?_,?_,?_,?_⟩
     all_goals first|rfl|(simp only[w,seval,-Int.reduceToNat,Za,ax11,ax17]<;>rfl)
    ·cases hh
     try simp only[w,seval,-Int.reduceToNat,Za,ax11]
     rw[au]
     refine⟨_,rfl,?_⟩
     refine⟨?_,?_,?_,?_,?_,?_,?_,?_⟩
     all_goals first|rfl|(simp only[w,seval,-Int.reduceToNat,Za,ax11]<;>rfl)
  ·cases hh
   try simp only[w,seval,-Int.reduceToNat,Za]
   refine kW ?_
   refine⟨rfl,⟨?_,?_,?_,?_,?_⟩⟩
   all_goals first|rfl|(simp only[w,seval,-Int.reduceToNat,Za]<;>rfl)
 ·rintro x t H e hx
  rcases o9 with⟨s7ax,l0ax⟩
  dsimp only at hx hh
  obtain⟨rfl,Zax⟩:=hx
  try simp only[w,seval,-Int.reduceToNat,Zax]
  refine sp aq hh (fun _ hh =>?_) (fun _ hh =>?_)
  ·cases hh
   try simp only[w,seval,-Int.reduceToNat,Zax]
  ·try simp only[w,seval,-Int.reduceToNat,Zax]
   obtain⟨o27,ho27,hh⟩:=ah hh
   refine aB (fun s t H e=>match s with|(s10d,s49d,l0d)=>t 0=.buf 0 0 1 pre.length (l0d).length∧t 1=.sl false false p1.length (ae (eI .i64) p1)∧t 2=.int .i64 p2∧t 10=.int .i64 s10d∧t 48=.int .i64 ((l0ax).length:Int)∧t 49=.int .i64 s49d∧H 0=some ⟨0,3,pre++(ae (eI .i64) l0d++post),false,true,false⟩) (fun o x t H e=>match o with|l0dx=>x=.exit 2∧t 0=.buf 0 0 1 pre.length (l0dx).length∧t 2=.int .i64 p2∧H 0=some ⟨0,3,pre++(ae (eI .i64) l0dx++post),false,true,false⟩) ho27 ?_ ?_ ?_
   ·refine⟨?_,?_,?_,?_,?_,?_,?_⟩
    all_goals first|rfl|(simp only[w,seval,-Int.reduceToNat,Zax]<;>rfl)
   ·rintro⟨s10d,s49d,l0d⟩ t H e Zd c hh
    simp only[j8]at hh
    try simp only[w,seval,-Int.reduceToNat,Zd]
    refine sp aq hh (fun _ hh =>?_) (fun _ hh =>?_)
    ·obtain⟨x29,hx29,hh⟩:=ah hh
     have ax29:=K4 (pre:=pre) (post:=post) (eI .i64) hx29
     simp only[bB]at ax29
     try simp only[w,seval,-Int.reduceToNat,Zd,ax29]
     obtain⟨o30,ho30,hh⟩:=ah hh
     refine j4 0 (fun s t H e=>match s with|s10j6=>t 0=.buf 0 0 1 pre.length (l0d).length∧t 1=.sl false false p1.length (ae (eI .i64) p1)∧t 2=.int .i64 p2∧t 10=.int .i64 s10j6∧t 11=.int .i64 s49d∧t 48=.int .i64 ((l0ax).length:Int)∧t 49=.int .i64 s49d∧H 0=some ⟨0,3,pre++(ae (eI .i64) l0d++post),false,true,false⟩) (fun s=>s=o30) ?_ ?_
     ·rintro s10j6 t H e Zj6 rfl
      try dsimp only at hh
      have ax29:=K4 (pre:=pre) (post:=post) (eI .i64) hx29
      simp only[bB]at ax29
      have p31:=MJ (pre:=pre) (post:=post) (eI .i64) (y':=jR .and .i64 s10j6 1048575) hx29
      simp only[bB]at p31
      have up31:=p31
      simp only[putCells,List.length_cons,List.length_nil,ada,Nat.reduceAdd]at up31
      obtain⟨x32,hx32,hh⟩:=ah hh
      have q33:=rE hx32
      cases hh
      try simp only[w,seval,-Int.reduceToNat,ax29,Zj6,ax29,p31,up31,q33]
      refine jN ?_
      refine⟨?_,?_,?_,?_,?_,?_,?_⟩
      all_goals first|rfl|(simp only[w,seval,-Int.reduceToNat,ax29,Zj6,ax29,p31,up31,q33]<;>rfl)
     ·clear hh
      have hh:=ho30
      try simp only[w,seval,-Int.reduceToNat,Zd,ax29]
      refine sp aq hh (fun _ hh =>?_) (fun _ hh =>?_)
      ·obtain⟨x35,hx35,hh⟩:=ah hh
       have ax35:=bG (eI .i64) hx35
       simp only[bB]at ax35
       cases hh
       try simp only[w,seval,-Int.reduceToNat,Zd,ax29,ax35]
       rw[au]
       refine⟨_,rfl,?_⟩
       refine⟨?_,?_,?_,?_,?_,?_,?_,?_⟩
       all_goals first|rfl|(simp only[w,seval,-Int.reduceToNat,Zd,ax29,ax35]<;>rfl)
      ·cases hh
       try simp only[w,seval,-Int.reduceToNat,Zd,ax29]
       rw[au]
       refine⟨_,rfl,?_⟩
       refine⟨?_,?_,?_,?_,?_,?_,?_,?_⟩
       all_goals first|rfl|(simp only[w,seval,-Int.reduceToNat,Zd,ax29]<;>rfl)
    ·cases hh
     try simp only[w,seval,-Int.reduceToNat,Zd]
     refine kW ?_
     refine⟨rfl,⟨?_,?_,?_⟩⟩
     all_goals first|rfl|(simp only[w,seval,-Int.reduceToNat,Zd]<;>rfl)
   ·rintro x t H e hx
    obtain⟨l0dx,rfl⟩:∃z,z=o27:=⟨_,rfl⟩
    dsimp only at hx hh
    obtain⟨rfl,Zdx⟩:=hx
    cases hh
    try simp only[w,seval,-Int.reduceToNat,Zdx]
theorem Ah:bY Try.prog 105 nN:=bY.aah (mode := .clean) tok bD.none mixed Try.func105 (by kernel_rfl) ⟨by kernel_rfl,by kernel_rfl⟩ (fun _=>ad4 (by kernel_rfl)) (fun pre post l x l' r h=>Co pre post l x.1 x.2 (l',r) h)
noncomputable def tN:=gf (iQ (mB (eI .i64)) (fP (mB (eI .i64)))) (fun x:(List Int)×(List Int)=>oJ x.1 x.2) (fun r:(List Int)×(List Int) =>.clean (.tup [.sl false false r.1.length (ae (eI .i64) r.1),.sl false false r.2.length (ae (eI .i64) r.2)]))
theorem uE (p0:(List Int)) (p1:(List Int)):tN none [.sl false false p0.length (ae (eI .i64) p0),.sl false false p1.length (ae (eI .i64) p1)]=(oJ p0 p1).map fun r:(List Int)×(List Int)=>(.clean (.tup [.sl false false r.1.length (ae (eI .i64) r.1),.sl false false r.2.length (ae (eI .i64) r.2)]),none):=aW _ _ _ (p0,p1)
noncomputable def uk:Env:=(Am.ext (Am.ext (Am.ext (Am.ext (Am.ext (Am.ext a6 78 false jP) 82 false gE) 102 false kg) 103 false tO) 104 false so) 105 true nN)
theorem Oq:bD Try.prog uk:=((((((bD.none.add ot false).add kd false).add mO false).add CI false).add Il false).add Ah true)
theorem aU:type_of% (ai @w<|ai @iA<|ai @eH<|ai @eV<|ai @nG<|ai @zG<|@uk.eq_1):=⟨@w,@iA,@eH,@eV,@nG,@zG,@uk.eq_1⟩
theorem S7 (p0:(List Int)) (p1:(List Int)) (r:(List Int)×(List Int)) (hh:oJ p0 p1=some r):a8 .clean tab uk FU Try.f83 none [.sl false false p0.length (ae (eI .i64) p0),.sl false false p1.length (ae (eI .i64) p1)]=some (.clean (.tup [.sl false false r.1.length (ae (eI .i64) r.1),.sl false false r.2.length (ae (eI .i64) r.2)]),none):=by
 refine aC rfl Try.ntmps83 Try.results83 ?_
 unfold oJ at hh
 obtain⟨r1,hr1,hh⟩:=ah hh
 try simp only[aU,seval,-Int.reduceToNat,hr1]
 refine sp aq hh (fun _ hh =>?_) (fun _ hh =>?_)
 ·obtain⟨r3,hr3,hh⟩:=ah hh
  cases hh
  try simp only[aU,seval,-Int.reduceToNat,hr1,hr3]
 ·try simp only[aU,seval,-Int.reduceToNat,hr1]
  refine sp aq hh (fun _ hh =>?_) (fun _ hh =>?_)
  ·obtain⟨x5,hx5,hh⟩:=ah hh
   have ax5:=bG (eI .i64) hx5
   simp only[bB]at ax5
   obtain⟨r6,hr6,hh⟩:=ah hh
   have i7:=eV ([r6.2])
   simp only[aJ,bB,List.length_cons,List.length_nil,ada,Nat.reduceAdd,aem]at i7
   obtain⟨r8,hr8,hh⟩:=ah hh
   cases hh
   try simp only[aU,seval,-Int.reduceToNat,hr1,ax5,hr6,i7,hr8]
  ·try simp only[aU,seval,-Int.reduceToNat,hr1]
   obtain⟨o11,ho11,hh⟩:=ah hh
   refine aB (fun s t H e=>match s with|s8a=>t 0=.sl false false p0.length (ae (eI .i64) p0)∧t 1=.sl false false p1.length (ae (eI .i64) p1)∧t 8=.int .i64 s8a) (fun o x t H e=>match o with|s8ax=>x=.exit 0∧t 0=.sl false false p0.length (ae (eI .i64) p0)∧t 1=.sl false false p1.length (ae (eI .i64) p1)∧t 8=.int .i64 s8ax) ho11 ?_ ?_ ?_
   ·refine⟨?_,?_,?_⟩
    all_goals first|rfl|(simp only[aU,seval,-Int.reduceToNat,hr1]<;>rfl)
   ·rintro s8a t H e Za c hh
    simp only[qq]at hh
    obtain⟨x12,hx12,hh⟩:=ah hh
    have ax12:=bG (eI .i64) hx12
    simp only[bB]at ax12
    try simp only[aU,seval,-Int.reduceToNat,hr1,Za,ax12]
    refine sp aq hh (fun _ hh =>?_) (fun _ hh =>?_)
    ·cases hh
     try simp only[aU,seval,-Int.reduceToNat,hr1,Za,ax12]
     refine jN ?_
     refine⟨?_,?_,?_⟩
     all_goals first|rfl|(simp only[aU,seval,-Int.reduceToNat,hr1,Za,ax12]<;>rfl)
    ·cases hh
     try simp only[aU,seval,-Int.reduceToNat,hr1,Za,ax12]
     refine kW ?_
     refine⟨rfl,⟨?_,?_,?_⟩⟩
     all_goals first|rfl|(simp only[aU,seval,-Int.reduceToNat,hr1,Za,ax12]<;>rfl)
   ·rintro x t H e hx
    obtain⟨s8ax,rfl⟩:∃z,z=o11:=⟨_,rfl⟩
    dsimp only at hx hh
    obtain⟨rfl,Zax⟩:=hx
    have i14:=nG p0 ([s8ax])
    simp only[aJ,bB,List.length_cons,List.length_nil,ada,Nat.reduceAdd,aem]at i14
    obtain⟨r15,hr15,hh⟩:=ah hh
    obtain⟨x16,hx16,hh⟩:=ah hh
    obtain⟨q17a,q17b,q17c,q17d⟩:=gz (eI .i64) hx16
    simp only[bB]at q17b
    have i18:=nG p1 ([s8ax])
    simp only[aJ,bB,List.length_cons,List.length_nil,ada,Nat.reduceAdd,aem]at i18
    obtain⟨r19,hr19,hh⟩:=ah hh
    try simp only[aU,seval,-Int.reduceToNat,hr1,Zax,i14,hr15,q17a,q17b,q17c,q17d,i18,hr19]
    obtain⟨o20,ho20,hh⟩:=ah hh
    refine j4 0 (fun s t H e=>match s with|l9j2=>∃v9j2:Nat,∃v10j2:Nat,t 8=.int .i64 s8ax∧t 9=.buf 9 v9j2 1 0 (l9j2).length∧t 10=.buf 10 v10j2 1 0 (r19).length∧H 9=some ⟨v9j2,3,ae (eI .i64) l9j2,false,true,false⟩∧H 10=some ⟨v10j2,3,ae (eI .i64) r19,false,true,false⟩) (fun s=>s=o20) ?_ ?_
    ·rintro l9j2 t H e ⟨v9j2,v10j2,Zj2⟩ rfl
     try dsimp only at hh
     obtain⟨x21,hx21,hh⟩:=ah hh
     obtain⟨q22a,q22b,q22c,q22d,q22e⟩:=mk_one (eI .i64) hx21
     simp only[bB]at q22d
     try simp only[aU,seval,-Int.reduceToNat,hr1,i14,hr15,q17a,q17b,q17c,q17d,i18,hr19,Zj2,q22a,q22b,q22c,q22d,q22e]
     obtain⟨o58,ho58,hh⟩:=ah hh
     refine aB (fun s t H e=>match s with|(s13c,l9c,l12c)=>∃v9c:Nat,∃v10c:Nat,∃v12c:Nat,∃z10c:Bool,t 8=.int .i64 s8ax∧t 9=.buf 9 v9c 1 0 (l9c).length∧t 10=.buf 10 v10c 1 0 (r19).length∧t 11=.int .i64 ((r19).length:Int)∧t 12=.buf 12 v12c 1 0 (l12c).length∧t 13=.int .i64 s13c∧H 9=some ⟨v9c,3,ae (eI .i64) l9c,false,true,false⟩∧H 10=some ⟨v10c,3,ae (eI .i64) r19,z10c,true,false⟩∧H 12=some ⟨v12c,3,ae (eI .i64) l12c,false,true,false⟩) (fun o x t H e=>match o with|(l9cx,l12cx)=>x=.exit 2∧∃v9cx:Nat,∃v12cx:Nat,t 8=.int .i64 s8ax∧t 9=.buf 9 v9cx 1 0 (l9cx).length∧t 12=.buf 12 v12cx 1 0 (l12cx).length∧H 9=some ⟨v9cx,3,ae (eI .i64) l9cx,false,true,false⟩∧H 12=some ⟨v12cx,3,ae (eI .i64) l12cx,false,true,false⟩) ho58 ?_ ?_ ?_
     ·refine⟨v9j2,v10j2,e+1,false,?_,?_,?_,?_,?_,?_,?_,?_,?_⟩
      all_goals first|rfl|(simp only[aU,seval,-Int.reduceToNat,hr1,i14,hr15,q17a,q17b,q17c,q17d,i18,hr19,Zj2,q22a,q22b,q22c,q22d,q22e]<;>rfl)
     ·rintro⟨s13c,l9c,l12c⟩ t H e ⟨v9c,v10c,v12c,z10c,Zc⟩ c hh
      simp only[qt]at hh
      try simp only[aU,seval,-Int.reduceToNat,hr1,i14,hr15,q17a,q17b,q17c,q17d,i18,hr19,q22a,q22b,q22c,q22d,q22e,Zc]
      refine sp aq hh (fun _ hh =>?_) (fun _ hh =>?_)
      ·obtain⟨x60,hx60,hh⟩:=ah hh
       have ax60:=bG (eI .i64) hx60
       simp only[bB]at ax60
       obtain⟨x61,hx61,hh⟩:=ah hh
       have q62:=Ay hx61
       obtain⟨x63,hx63,hh⟩:=ah hh
       have ax63:=bG (eI .i64) hx63
       simp only[bB]at ax63
       try simp only[aU,seval,-Int.reduceToNat,hr1,i14,hr15,q17a,q17b,q17c,q17d,i18,hr19,q22a,q22b,q22c,q22d,q22e,Zc,ax60,q62,ax63]
       refine bf (by kernel_rfl) ?_
       obtain⟨x64,hx64,hh⟩:=ah hh
       have ax64:=bG (eI .i64) hx64
       simp only[bB]at ax64
       obtain⟨x65,hx65,hh⟩:=ah hh
       have q66:=qB hx65
       have ax64:=bG (eI .i64) hx64
       simp only[bB]at ax64
       obtain⟨x67,hx67,hh⟩:=ah hh
       have q68:=xe hx67
       try simp only[aU,seval,-Int.reduceToNat,hr1,i14,hr15,q17a,q17b,q17c,q17d,i18,hr19,q22a,q22b,q22c,q22d,q22e,Zc,ax60,q62,ax63,ax64,q66,ax64,q68]
       refine bf (by kernel_rfl) ?_
       try simp only[aU,seval,-Int.reduceToNat,hr1,i14,hr15,q17a,q17b,q17c,q17d,i18,hr19,q22a,q22b,q22c,q22d,q22e,Zc,ax60,q62,ax63,ax64,q66,ax64,q68]
       obtain⟨o78,ho78,hh⟩:=ah hh
       refine aB (fun s t H e=>match s with|(s15g,s16g)=>∃v9g:Nat,∃v10g:Nat,∃v12g:Nat,∃z10g:Bool,t 8=.int .i64 s8ax∧t 9=.buf 9 v9g 1 0 (l9c).length∧t 10=.buf 10 v10g 1 0 (r19).length∧t 11=.int .i64 ((r19).length:Int)∧t 12=.buf 12 v12g 1 0 (l12c).length∧t 13=.int .i64 s13c∧t 15=.int .i64 s15g∧t 16=.int .i64 s16g∧H 9=some ⟨v9g,3,ae (eI .i64) l9c,false,true,false⟩∧H 10=some ⟨v10g,3,ae (eI .i64) r19,z10g,true,false⟩∧H 12=some ⟨v12g,3,ae (eI .i64) l12c,false,true,false⟩) (fun o x t H e=>match o with|s15gx=>x=.exit 4∧∃v9gx:Nat,∃v10gx:Nat,∃v12gx:Nat,∃z10gx:Bool,t 8=.int .i64 s8ax∧t 9=.buf 9 v9gx 1 0 (l9c).length∧t 10=.buf 10 v10gx 1 0 (r19).length∧t 11=.int .i64 ((r19).length:Int)∧t 12=.buf 12 v12gx 1 0 (l12c).length∧t 13=.int .i64 s13c∧t 15=.int .i64 s15gx∧H 9=some ⟨v9gx,3,ae (eI .i64) l9c,false,true,false⟩∧H 10=some ⟨v10gx,3,ae (eI .i64) r19,z10gx,true,false⟩∧H 12=some ⟨v12gx,3,ae (eI .i64) l12c,false,true,false⟩) ho78 ?_ ?_ ?_
       ·refine⟨v9c,v10c,v12c,z10c,?_,?_,?_,?_,?_,?_,?_,?_,?_,?_,?_⟩
        all_goals first|rfl|(simp only[aU,seval,-Int.reduceToNat,hr1,i14,hr15,q17a,q17b,q17c,q17d,i18,hr19,q22a,q22b,q22c,q22d,q22e,Zc,ax60,q62,ax63,ax64,q66,ax64,q68]<;>rfl)
       ·rintro⟨s15g,s16g⟩ t H e ⟨v9g,v10g,v12g,z10g,Zg⟩ c hh
        simp only[qu]at hh
        try simp only[aU,seval,-Int.reduceToNat,hr1,i14,hr15,q17a,q17b,q17c,q17d,i18,hr19,q22a,q22b,q22c,q22d,q22e,ax60,q62,ax63,ax64,q66,ax64,q68,Zg]
        obtain⟨o79,ho79,hh⟩:=ah hh
        refine WO 0 (fun s t H e=>match s with|s137j9=>∃v9j9:Nat,∃v10j9:Nat,∃v12j9:Nat,∃z10j9:Bool,t 8=.int .i64 s8ax∧t 9=.buf 9 v9j9 1 0 (l9c).length∧t 10=.buf 10 v10j9 1 0 (r19).length∧t 11=.int .i64 ((r19).length:Int)∧t 12=.buf 12 v12j9 1 0 (l12c).length∧t 13=.int .i64 s13c∧t 15=.int .i64 s15g∧t 16=.int .i64 s16g∧t 137=.bool s137j9∧H 9=some ⟨v9j9,3,ae (eI .i64) l9c,false,true,false⟩∧H 10=some ⟨v10j9,3,ae (eI .i64) r19,z10j9,true,false⟩∧H 12=some ⟨v12j9,3,ae (eI .i64) l12c,false,true,false⟩) (fun s=>s=o79) ?_ ?_
        ·rintro s137j9 t H e ⟨v9j9,v10j9,v12j9,z10j9,Zj9⟩ rfl
         try dsimp only at hh
         try simp only[aU,seval,-Int.reduceToNat,hr1,i14,hr15,q17a,q17b,q17c,q17d,i18,hr19,q22a,q22b,q22c,q22d,q22e,ax60,q62,ax63,ax64,q66,ax64,q68,Zj9]
         refine sp aq hh (fun _ hh =>?_) (fun _ hh =>?_)
         ·have ax64:=bG (eI .i64) hx64
          simp only[bB]at ax64
          cases hh
          try simp only[aU,seval,-Int.reduceToNat,hr1,i14,hr15,q17a,q17b,q17c,q17d,i18,hr19,q22a,q22b,q22c,q22d,q22e,ax60,q62,ax63,ax64,q66,ax64,q68,Zj9,ax64]
          refine jN ?_
          refine⟨v9j9,v10j9,v12j9,z10j9,?_,?_,?_,?_,?_,?_,?_,?_,?_,?_,?_⟩
          all_goals first|rfl|(simp only[aU,seval,-Int.reduceToNat,hr1,i14,hr15,q17a,q17b,q17c,q17d,i18,hr19,q22a,q22b,q22c,q22d,q22e,ax60,q62,ax63,ax64,q66,ax64,q68,Zj9,ax64]<;>rfl)
         ·cases hh
          try simp only[aU,seval,-Int.reduceToNat,hr1,i14,hr15,q17a,q17b,q17c,q17d,i18,hr19,q22a,q22b,q22c,q22d,q22e,ax60,q62,ax63,ax64,q66,ax64,q68,Zj9]
          refine kW ?_
          refine⟨rfl,⟨v9j9,v10j9,v12j9,z10j9,?_,?_,?_,?_,?_,?_,?_,?_,?_,?_⟩⟩
          all_goals first|rfl|(simp only[aU,seval,-Int.reduceToNat,hr1,i14,hr15,q17a,q17b,q17c,q17d,i18,hr19,q22a,q22b,q22c,q22d,q22e,ax60,q62,ax63,ax64,q66,ax64,q68,Zj9]<;>rfl)
        ·clear hh
         have hh:=ho79
         try simp only[aU,seval,-Int.reduceToNat,hr1,i14,hr15,q17a,q17b,q17c,q17d,i18,hr19,q22a,q22b,q22c,q22d,q22e,ax60,q62,ax63,ax64,q66,ax64,q68,Zg]
         refine sp xI hh (fun _ hh =>?_) (fun _ hh =>?_)
         ·try simp only[aU,seval,-Int.reduceToNat,hr1,i14,hr15,q17a,q17b,q17c,q17d,i18,hr19,q22a,q22b,q22c,q22d,q22e,ax60,q62,ax63,ax64,q66,ax64,q68,Zg]
          refine bf (by kernel_rfl) ?_
          cases hh
          try simp only[aU,seval,-Int.reduceToNat,hr1,i14,hr15,q17a,q17b,q17c,q17d,i18,hr19,q22a,q22b,q22c,q22d,q22e,ax60,q62,ax63,ax64,q66,ax64,q68,Zg]
          rw[au]
          refine⟨_,rfl,?_⟩
          refine⟨v9g,v10g,v12g,z10g,?_,?_,?_,?_,?_,?_,?_,?_,?_,?_,?_,?_⟩
          all_goals first|rfl|(simp only[aU,seval,-Int.reduceToNat,hr1,i14,hr15,q17a,q17b,q17c,q17d,i18,hr19,q22a,q22b,q22c,q22d,q22e,ax60,q62,ax63,ax64,q66,ax64,q68,Zg]<;>rfl)
         ·try simp only[aU,seval,-Int.reduceToNat,hr1,i14,hr15,q17a,q17b,q17c,q17d,i18,hr19,q22a,q22b,q22c,q22d,q22e,ax60,q62,ax63,ax64,q66,ax64,q68,Zg]
          refine sp pn hh (fun _ hh =>?_) (fun _ hh =>?_)
          ·obtain⟨x83,hx83,hh⟩:=ah hh
           have ax83:=bG (eI .i64) hx83
           simp only[bB]at ax83
           obtain⟨x84,hx84,hh⟩:=ah hh
           have q85:=Ay hx84
           obtain⟨x86,hx86,hh⟩:=ah hh
           have ax86:=bG (eI .i64) hx86
           simp only[bB]at ax86
           try simp only[aU,seval,-Int.reduceToNat,hr1,i14,hr15,q17a,q17b,q17c,q17d,i18,hr19,q22a,q22b,q22c,q22d,q22e,ax60,q62,ax63,ax64,q66,ax64,q68,Zg,ax83,q85,ax86]
           refine bf (by kernel_rfl) ?_
           cases hh
           try simp only[aU,seval,-Int.reduceToNat,hr1,i14,hr15,q17a,q17b,q17c,q17d,i18,hr19,q22a,q22b,q22c,q22d,q22e,ax60,q62,ax63,ax64,q66,ax64,q68,Zg,ax83,q85,ax86]
           rw[au]
           refine⟨_,rfl,?_⟩
           refine⟨v9g,v10g,v12g,z10g,?_,?_,?_,?_,?_,?_,?_,?_,?_,?_,?_,?_⟩
           all_goals first|rfl|(simp only[aU,seval,-Int.reduceToNat,hr1,i14,hr15,q17a,q17b,q17c,q17d,i18,hr19,q22a,q22b,q22c,q22d,q22e,ax60,q62,ax63,ax64,q66,ax64,q68,Zg,ax83,q85,ax86]<;>rfl)
          ·try simp only[aU,seval,-Int.reduceToNat,hr1,i14,hr15,q17a,q17b,q17c,q17d,i18,hr19,q22a,q22b,q22c,q22d,q22e,ax60,q62,ax63,ax64,q66,ax64,q68,Zg]
           refine bf (by kernel_rfl) ?_
           cases hh
           try simp only[aU,seval,-Int.reduceToNat,hr1,i14,hr15,q17a,q17b,q17c,q17d,i18,hr19,q22a,q22b,q22c,q22d,q22e,ax60,q62,ax63,ax64,q66,ax64,q68,Zg]
           rw[au]
           refine⟨_,rfl,?_⟩
           refine⟨v9g,v10g,v12g,z10g,?_,?_,?_,?_,?_,?_,?_,?_,?_,?_,?_,?_⟩
           all_goals first|rfl|(simp only[aU,seval,-Int.reduceToNat,hr1,i14,hr15,q17a,q17b,q17c,q17d,i18,hr19,q22a,q22b,q22c,q22d,q22e,ax60,q62,ax63,ax64,q66,ax64,q68,Zg]<;>rfl)
       ·rintro x t H e hx
        obtain⟨s15gx,rfl⟩:∃z,z=o78:=⟨_,rfl⟩
        dsimp only at hx hh
        obtain⟨rfl,⟨v9gx,v10gx,v12gx,z10gx,Zgx⟩⟩:=hx
        obtain⟨x87,hx87,hh⟩:=ah hh
        obtain⟨q88a,q88b,q88c,q88d,q88e⟩:=ZL (eI .i64) hx87
        simp only[bB]at q88e
        have i89:=CU (ae (eI .i64) (l9c.take (s13c).toNat)) (ae (eI .i64) (l9c.drop (IntKind.i64.wrap ((IntKind.i64.wrap (s13c+((r19).length:Int)))+1)).toNat)) x87 r19 s15gx
        simp only[X4,X5 (eI .i64) hx87,X6 (eI .i64) hx87,YY hx87,bB,Int.toNat_zero,aea,Nat.sub_zero]at i89
        obtain⟨r90,hr90,hh⟩:=ah hh
        have q91l:=yr hr90
        have q91m:=WU hx87 q91l
        obtain⟨x92,hx92,hh⟩:=ah hh
        have ax92:=bG (eI .i64) hx92
        simp only[bB]at ax92
        have p93:=eO (eI .i64) (x':=r90.2) (fo:=0) (cs:=[.int .i64 r90.2]) hx92 rfl (ad4 rfl)
        simp only[bB,Nat.add_zero]at p93
        have up93:=p93
        simp only[putCells,List.length_cons,List.length_nil,ada,Nat.reduceAdd]at up93
        cases hh
        try simp only[aU,seval,-Int.reduceToNat,hr1,i14,hr15,q17a,q17b,q17c,q17d,i18,hr19,q22a,q22b,q22c,q22d,q22e,ax60,q62,ax63,ax64,q66,ax64,q68,Zgx,q88a,q88b,q88c,q88e,i89,hr90,q91m,ax92,p93,up93]
        refine jN ?_
        refine⟨v9gx,v10gx,v12gx,true,?_,?_,?_,?_,?_,?_,?_,?_,?_⟩
        all_goals first|rfl|(simp only[aU,seval,-Int.reduceToNat,hr1,i14,hr15,q17a,q17b,q17c,q17d,i18,hr19,q22a,q22b,q22c,q22d,q22e,ax60,q62,ax63,ax64,q66,ax64,q68,Zgx,q88a,q88b,q88c,q88e,i89,hr90,q91m,ax92,p93,up93]<;>rfl)
      ·cases hh
       try simp only[aU,seval,-Int.reduceToNat,hr1,i14,hr15,q17a,q17b,q17c,q17d,i18,hr19,q22a,q22b,q22c,q22d,q22e,Zc]
       refine kW ?_
       refine⟨rfl,⟨v9c,v12c,?_,?_,?_,?_,?_⟩⟩
       all_goals first|rfl|(simp only[aU,seval,-Int.reduceToNat,hr1,i14,hr15,q17a,q17b,q17c,q17d,i18,hr19,q22a,q22b,q22c,q22d,q22e,Zc]<;>rfl)
     ·rintro x t H e hx
      rcases o58 with⟨l9cx,l12cx⟩
      dsimp only at hx hh
      obtain⟨rfl,⟨v9cx,v12cx,Zcx⟩⟩:=hx
      obtain⟨r94,hr94,hh⟩:=ah hh
      obtain⟨r95,hr95,hh⟩:=ah hh
      obtain⟨r96,hr96,hh⟩:=ah hh
      cases hh
      try simp only[aU,seval,-Int.reduceToNat,hr1,i14,hr15,q17a,q17b,q17c,q17d,i18,hr19,q22a,q22b,q22c,q22d,q22e,Zcx,hr94,hr95,hr96]
    ·clear hh
     have hh:=ho20
     try simp only[aU,seval,-Int.reduceToNat,hr1,Zax,i14,hr15,q17a,q17b,q17c,q17d,i18,hr19]
     refine sp aq hh (fun _ hh =>?_) (fun _ hh =>?_)
     ·obtain⟨x98,hx98,hh⟩:=ah hh
      obtain⟨q99a,q99b,q99c,q99d⟩:=gz (eI .i64) hx98
      simp only[bB]at q99b
      cases hh
      try simp only[aU,seval,-Int.reduceToNat,hr1,Zax,i14,hr15,q17a,q17b,q17c,q17d,i18,hr19,q99a,q99b,q99c,q99d]
      rw[au]
      refine⟨_,rfl,?_⟩
      refine⟨e+1+1,e,?_,?_,?_,?_,?_⟩
      all_goals first|rfl|(simp only[aU,seval,-Int.reduceToNat,hr1,Zax,i14,hr15,q17a,q17b,q17c,q17d,i18,hr19,q99a,q99b,q99c,q99d]<;>rfl)
     ·cases hh
      try simp only[aU,seval,-Int.reduceToNat,hr1,Zax,i14,hr15,q17a,q17b,q17c,q17d,i18,hr19]
      rw[au]
      refine⟨_,rfl,?_⟩
      refine⟨e,e,?_,?_,?_,?_,?_⟩
      all_goals first|rfl|(simp only[aU,seval,-Int.reduceToNat,hr1,Zax,i14,hr15,q17a,q17b,q17c,q17d,i18,hr19]<;>rfl)
theorem CH:bY Try.prog 83 tN:=bY.of (mode := .clean) tok Oq mixed Try.func83 (by kernel_rfl) ⟨by kernel_rfl,by kernel_rfl⟩ (fun _=>ad4 (by kernel_rfl)) (fun x r h=>S7 x.1 x.2 r h)
noncomputable def fT:=gf (iQ (aI .i64) (fP (mB (eI .i64)))) (fun x:Int×(List Int)=>cn x.1 x.2) (fun r:an =>.clean (.agg [.int .i64 r.ag,.sl false false r.aa.length (ae (eI .i64) r.aa)]))
theorem dt (p0:Int) (p1:(List Int)):fT none [.int .i64 p0,.sl false false p1.length (ae (eI .i64) p1)]=(cn p0 p1).map fun r:an=>(.clean (.agg [.int .i64 r.ag,.sl false false r.aa.length (ae (eI .i64) r.aa)]),none):=aW _ _ _ (p0,p1)
noncomputable def nh:Env:=(Am.ext a6 102 false kg)
theorem DL:bD Try.prog nh:=(bD.none.add mO false)
theorem rJ:type_of% (ai @w<|ai @eV<|@nh.eq_1):=⟨@w,@eV,@nh.eq_1⟩
theorem H0 (p0:Int) (p1:(List Int)) (r:an) (hh:cn p0 p1=some r):a8 .clean tab nh FU Try.f76 none [.int .i64 p0,.sl false false p1.length (ae (eI .i64) p1)]=some (.clean (.agg [.int .i64 r.ag,.sl false false r.aa.length (ae (eI .i64) r.aa)]),none):=by
 refine aC rfl Try.ntmps76 Try.results76 ?_
 unfold cn at hh
 obtain⟨r1,hr1,hh⟩:=ah hh
 try simp only[rJ,seval,hr1]
 refine sp aq hh (fun _ hh =>?_) (fun _ hh =>?_)
 ·cases hh
  try simp only[rJ,seval,hr1]
 ·cases hh
  try simp only[rJ,seval,hr1]
theorem iz:bY Try.prog 76 fT:=bY.of (mode := .clean) tok DL mixed Try.func76 (by kernel_rfl) ⟨by kernel_rfl,by kernel_rfl⟩ (fun _=>ad4 (by kernel_rfl)) (fun x r h=>H0 x.1 x.2 r h)
noncomputable def tK:=gf (iQ (cW eM) (fP (cW eM))) (fun x:an×an=>m9 x.1 x.2) (fun r:an×Int =>.clean (.tup [.agg [.int .i64 r.1.ag,.sl false false r.1.aa.length (ae (eI .i64) r.1.aa)],.int .i64 r.2]))
theorem uC (p0_0:Int) (p0_1:(List Int)) (p1_0:Int) (p1_1:(List Int)):tK none [.agg [.int .i64 p0_0,.sl false false p0_1.length (ae (eI .i64) p0_1)],.agg [.int .i64 p1_0,.sl false false p1_1.length (ae (eI .i64) p1_1)]]=(m9 (an.mk p0_0 p0_1) (an.mk p1_0 p1_1)).map fun r:an×Int=>(.clean (.tup [.agg [.int .i64 r.1.ag,.sl false false r.1.aa.length (ae (eI .i64) r.1.aa)],.int .i64 r.2]),none):=aW _ _ _ ((an.mk p0_0 p0_1),(an.mk p1_0 p1_1))
noncomputable def uf:Env:=(Am.keep 6 (Am.ext (Am.ext (Am.ext (Am.ext (Am.ext a6 50 false eC) 75 false jO) 76 false fT) 82 false gE) 83 false tN))
theorem Ok:bD Try.prog uf:=(bD.keep (((((bD.none.add fe false).add oo false).add iz false).add kd false).add CH false) 6)
theorem dH:type_of% (ai @w<|ai @cd<|ai @ez<|ai @dt<|ai @eH<|ai @uE<|@uf.eq_1):=⟨@w,@cd,@ez,@dt,@eH,@uE,@uf.eq_1⟩
theorem S2 (p0:an) (p1:an) (r:an×Int) (hh:m9 p0 p1=some r):a8 .clean tab uf FU Try.f51 none [.agg [.int .i64 p0.ag,.sl false false p0.aa.length (ae (eI .i64) p0.aa)],.agg [.int .i64 p1.ag,.sl false false p1.aa.length (ae (eI .i64) p1.aa)]]=some (.clean (.tup [.agg [.int .i64 r.1.ag,.sl false false r.1.aa.length (ae (eI .i64) r.1.aa)],.int .i64 r.2]),none):=by
 refine aC rfl Try.ntmps51 Try.results51 ?_
 unfold m9 at hh
 obtain⟨r1,hr1,hh⟩:=ah hh
 try simp only[dH,seval,hr1]
 obtain⟨o2,ho2,hh⟩:=ah hh
 refine bJ 0 (fun s t H e=>match s with|s17j1=>∃v2j1:Nat,∃v3j1:Nat,∃v4j1:Nat,t 2=.ptr 2 v2j1 0∧t 3=.ptr 3 v3j1 0∧t 4=.ptr 4 v4j1 0∧t 17=.bool s17j1∧H 2=some ⟨v2j1,39,[.int .i64 p0.ag,.sl false false p0.aa.length (ae (eI .i64) p0.aa)],false,false,false⟩∧H 3=some ⟨v3j1,39,[.int .i64 p1.ag,.sl false false p1.aa.length (ae (eI .i64) p1.aa)],false,false,false⟩∧H 4=some ⟨v4j1,39,[.int .i64 0,.sl true true 0 []],false,false,false⟩) (fun s=>s=o2) ?_ ?_
 ·rintro s17j1 t H e ⟨v2j1,v3j1,v4j1,Zj1⟩ rfl
  try dsimp only at hh
  try simp only[dH,seval,hr1,Zj1]
  refine sp aq hh (fun _ hh =>?_) (fun _ hh =>?_)
  ·have i4:=ez false 0 ([])
   simp only[aJ,bB,List.length_cons,List.length_nil,ada,Nat.reduceAdd,aem]at i4
   obtain⟨r5,hr5,hh⟩:=ah hh
   cases hh
   try simp only[dH,seval,hr1,Zj1,i4,hr5]
  ·obtain⟨r6,hr6,hh⟩:=ah hh
   try simp only[dH,seval,hr1,Zj1,hr6]
   refine bf (by kernel_rfl) ?_
   try simp only[dH,seval,hr1,Zj1,hr6]
   obtain⟨o9,ho9,hh⟩:=ah hh
   refine aB (fun s t H e=>match s with|(s6b,s7b)=>∃v4b:Nat,t 4=.ptr 4 v4b 0∧t 6=.sl false false s6b.length (ae (eI .i64) s6b)∧t 7=.sl false false s7b.length (ae (eI .i64) s7b)∧H 4=some ⟨v4b,39,[.int .i64 0,.sl true true 0 []],false,false,false⟩) (fun o x t H e=>match o with|s6bx=>x=.exit 0∧∃v4bx:Nat,t 4=.ptr 4 v4bx 0∧t 6=.sl false false s6bx.length (ae (eI .i64) s6bx)∧H 4=some ⟨v4bx,39,[.int .i64 0,.sl true true 0 []],false,false,false⟩) ho9 ?_ ?_ ?_
   ·refine⟨v4j1,?_,?_,?_,?_⟩
    all_goals first|rfl|(simp only[dH,seval,hr1,Zj1,hr6]<;>rfl)
   ·rintro⟨s6b,s7b⟩ t H e ⟨v4b,Zb⟩ c hh
    simp only[nS]at hh
    try simp only[dH,seval,hr1,hr6,Zb]
    refine sp aq hh (fun _ hh =>?_) (fun _ hh =>?_)
    ·obtain⟨r11,hr11,hh⟩:=ah hh
     cases hh
     try simp only[dH,seval,hr1,hr6,Zb,hr11]
     refine jN ?_
     refine⟨v4b,?_,?_,?_,?_⟩
     all_goals first|rfl|(simp only[dH,seval,hr1,hr6,Zb,hr11]<;>rfl)
    ·cases hh
     try simp only[dH,seval,hr1,hr6,Zb]
     refine kW ?_
     refine⟨rfl,⟨v4b,?_,?_,?_⟩⟩
     all_goals first|rfl|(simp only[dH,seval,hr1,hr6,Zb]<;>rfl)
   ·rintro x t H e hx
    obtain⟨s6bx,rfl⟩:∃z,z=o9:=⟨_,rfl⟩
    dsimp only at hx hh
    obtain⟨rfl,⟨v4bx,Zbx⟩⟩:=hx
    obtain⟨r12,hr12,hh⟩:=ah hh
    obtain⟨r13,hr13,hh⟩:=ah hh
    obtain⟨r14,hr14,hh⟩:=ah hh
    cases hh
    try simp only[dH,seval,hr1,hr6,Zbx,hr12,hr13,hr14]
 ·clear hh
  have hh:=ho2
  try simp only[dH,seval,hr1]
  refine sp bd hh (fun _ hh =>?_) (fun _ hh =>?_)
  ·cases hh
   try simp only[dH,seval,hr1]
   rw[au]
   refine⟨_,rfl,?_⟩
   refine⟨0,0,0,?_,?_,?_,?_,?_,?_,?_⟩
   all_goals first|rfl|(simp only[dH,seval,hr1]<;>rfl)
  ·obtain⟨r16,hr16,hh⟩:=ah hh
   cases hh
   try simp only[dH,seval,hr1,hr16]
   rw[au]
   refine⟨_,rfl,?_⟩
   refine⟨0,0,0,?_,?_,?_,?_,?_,?_,?_⟩
   all_goals first|rfl|(simp only[dH,seval,hr1,hr16]<;>rfl)
theorem CE:bY Try.prog 51 tK:=bY.of (mode := .clean) tok Ok mixed Try.func51 (by kernel_rfl) ⟨by kernel_rfl,by kernel_rfl⟩ (fun _=>ad4 (by kernel_rfl)) (fun x r h=>S2 x.1 x.2 r h)
noncomputable def xT:=gf (fP (cW eM)) (fun x:an=>qn x) (fun r:Int×Bool =>.clean (.tup [.int .i64 r.1,.bool r.2]))
theorem Gt (p0_0:Int) (p0_1:(List Int)):xT none [.agg [.int .i64 p0_0,.sl false false p0_1.length (ae (eI .i64) p0_1)]]=(qn (an.mk p0_0 p0_1)).map fun r:Int×Bool=>(.clean (.tup [.int .i64 r.1,.bool r.2]),none):=aW _ _ _ ((an.mk p0_0 p0_1))
noncomputable def ug:Env:=(Am.ext a6 50 false eC)
theorem Ol:bD Try.prog ug:=(bD.none.add fe false)
theorem bh:type_of% (ai @w<|ai @cd<|@ug.eq_1):=⟨@w,@cd,@ug.eq_1⟩
theorem S3 (p0:an) (r:Int×Bool) (hh:qn p0=some r):a8 .clean tab ug FU Try.f84 none [.agg [.int .i64 p0.ag,.sl false false p0.aa.length (ae (eI .i64) p0.aa)]]=some (.clean (.tup [.int .i64 r.1,.bool r.2]),none):=by
 refine aC rfl Try.ntmps84 Try.results84 ?_
 unfold qn at hh
 obtain⟨r1,hr1,hh⟩:=ah hh
 try simp only[bh,seval,-Int.reduceToNat,hr1]
 obtain⟨o2,ho2,hh⟩:=ah hh
 refine bJ 0 (fun s t H e=>match s with|s15j1=>∃v1j1:Nat,t 1=.ptr 1 v1j1 0∧t 15=.bool s15j1∧H 1=some ⟨v1j1,39,[.int .i64 p0.ag,.sl false false p0.aa.length (ae (eI .i64) p0.aa)],false,false,false⟩) (fun s=>s=o2) ?_ ?_
 ·rintro s15j1 t H e ⟨v1j1,Zj1⟩ rfl
  try dsimp only at hh
  try simp only[bh,seval,-Int.reduceToNat,hr1,Zj1]
  refine sp aq hh (fun _ hh =>?_) (fun _ hh =>?_)
  ·cases hh
   try simp only[bh,seval,-Int.reduceToNat,hr1,Zj1]
  ·try simp only[bh,seval,-Int.reduceToNat,hr1,Zj1]
   obtain⟨o11,ho11,hh⟩:=ah hh
   refine aB (fun s t H e=>match s with|(s4b,s19b)=>∃v1b:Nat,t 1=.ptr 1 v1b 0∧t 4=.int .u64 s4b∧t 17=.sl false false p0.aa.length (ae (eI .i64) p0.aa)∧t 18=.int .i64 (p0.aa.length:Int)∧t 19=.int .i64 s19b∧H 1=some ⟨v1b,39,[.int .i64 p0.ag,.sl false false p0.aa.length (ae (eI .i64) p0.aa)],false,false,false⟩) (fun o x t H e=>match o with|(.inl s4bx)=>x=.exit 0∧∃v1bx:Nat,t 1=.ptr 1 v1bx 0∧t 4=.int .u64 s4bx∧H 1=some ⟨v1bx,39,[.int .i64 p0.ag,.sl false false p0.aa.length (ae (eI .i64) p0.aa)],false,false,false⟩|(.inr r)=>x=.ret∧jv .clean tab none [.tmp 2,.tmp 3] ⟨t,EH H,e⟩=some (.clean (.tup [.int .i64 r.1,.bool r.2]),none)) ho11 ?_ ?_ ?_
   ·refine⟨v1j1,?_,?_,?_,?_,?_,?_⟩
    all_goals first|rfl|(simp only[bh,seval,-Int.reduceToNat,hr1,Zj1]<;>rfl)
   ·rintro⟨s4b,s19b⟩ t H e ⟨v1b,Zb⟩ c hh
    simp only[qo]at hh
    try simp only[bh,seval,-Int.reduceToNat,hr1,Zb]
    refine sp aq hh (fun _ hh =>?_) (fun _ hh =>?_)
    ·obtain⟨x13,hx13,hh⟩:=ah hh
     have ax13:=bG (eI .i64) hx13
     simp only[bB]at ax13
     try simp only[bh,seval,-Int.reduceToNat,hr1,Zb,ax13]
     obtain⟨o14,ho14,hh⟩:=ah hh
     refine bJ 0 (fun s t H e=>match s with|s29j4=>∃v1j4:Nat,t 1=.ptr 1 v1j4 0∧t 4=.int .u64 s4b∧t 5=.int .i64 s19b∧t 6=.int .i64 x13∧t 17=.sl false false p0.aa.length (ae (eI .i64) p0.aa)∧t 18=.int .i64 (p0.aa.length:Int)∧t 19=.int .i64 s19b∧t 29=.bool s29j4∧H 1=some ⟨v1j4,39,[.int .i64 p0.ag,.sl false false p0.aa.length (ae (eI .i64) p0.aa)],false,false,false⟩) (fun s=>s=o14) ?_ ?_
     ·rintro s29j4 t H e ⟨v1j4,Zj4⟩ rfl
      try dsimp only at hh
      try simp only[bh,seval,-Int.reduceToNat,hr1,ax13,Zj4]
      refine sp aq hh (fun _ hh =>?_) (fun _ hh =>?_)
      ·cases hh
       try simp only[bh,seval,-Int.reduceToNat,hr1,ax13,Zj4]
       refine DR ⟨rfl,?_⟩
       try simp only[bh,seval,-Int.reduceToNat,hr1,ax13,Zj4]
      ·obtain⟨x16,hx16,hh⟩:=ah hh
       have q17:=Ay hx16
       cases hh
       try simp only[bh,seval,-Int.reduceToNat,hr1,ax13,Zj4,q17]
       refine jN ?_
       refine⟨v1j4,?_,?_,?_,?_,?_,?_⟩
       all_goals first|rfl|(simp only[bh,seval,-Int.reduceToNat,hr1,ax13,Zj4,q17]<;>rfl)
     ·clear hh
      have hh:=ho14
      try simp only[bh,seval,-Int.reduceToNat,hr1,Zb,ax13]
      refine sp dW hh (fun _ hh =>?_) (fun _ hh =>?_)
      ·cases hh
       try simp only[bh,seval,-Int.reduceToNat,hr1,Zb,ax13]
       rw[au]
       refine⟨_,rfl,?_⟩
       refine⟨v1b,?_,?_,?_,?_,?_,?_,?_,?_,?_⟩
       all_goals first|rfl|(simp only[bh,seval,-Int.reduceToNat,hr1,Zb,ax13]<;>rfl)
      ·cases hh
       try simp only[bh,seval,-Int.reduceToNat,hr1,Zb,ax13]
       rw[au]
       refine⟨_,rfl,?_⟩
       refine⟨v1b,?_,?_,?_,?_,?_,?_,?_,?_,?_⟩
       all_goals first|rfl|(simp only[bh,seval,-Int.reduceToNat,hr1,Zb,ax13]<;>rfl)
    ·cases hh
     try simp only[bh,seval,-Int.reduceToNat,hr1,Zb]
     refine kW ?_
     refine⟨rfl,⟨v1b,?_,?_,?_⟩⟩
     all_goals first|rfl|(simp only[bh,seval,-Int.reduceToNat,hr1,Zb]<;>rfl)
   ·rintro x t H e hx
    rcases o11 with s4bx|rb
    ·dsimp only at hx hh
     obtain⟨rfl,⟨v1bx,Zbx⟩⟩:=hx
     try simp only[bh,seval,-Int.reduceToNat,hr1,Zbx]
     obtain⟨o19,ho19,hh⟩:=ah hh
     refine bJ 0 (fun s t H e=>match s with|s38j5=>∃v1j5:Nat,t 1=.ptr 1 v1j5 0∧t 4=.int .u64 s4bx∧t 38=.bool s38j5∧H 1=some ⟨v1j5,39,[.int .i64 p0.ag,.sl false false p0.aa.length (ae (eI .i64) p0.aa)],false,false,false⟩) (fun s=>s=o19) ?_ ?_
     ·rintro s38j5 t H e ⟨v1j5,Zj5⟩ rfl
      try dsimp only at hh
      try simp only[bh,seval,-Int.reduceToNat,hr1,Zj5]
      refine sp aq hh (fun _ hh =>?_) (fun _ hh =>?_)
      ·cases hh
       try simp only[bh,seval,-Int.reduceToNat,hr1,Zj5]
      ·try simp only[bh,seval,-Int.reduceToNat,hr1,Zj5]
       refine sp dW hh (fun _ hh =>?_) (fun _ hh =>?_)
       ·try simp only[bh,seval,-Int.reduceToNat,hr1,Zj5]
        refine sp aq hh (fun _ hh =>?_) (fun _ hh =>?_)
        ·cases hh
         try simp only[bh,seval,-Int.reduceToNat,hr1,Zj5]
        ·cases hh
         try simp only[bh,seval,-Int.reduceToNat,hr1,Zj5]
       ·cases hh
        try simp only[bh,seval,-Int.reduceToNat,hr1,Zj5]
     ·clear hh
      have hh:=ho19
      try simp only[bh,seval,-Int.reduceToNat,hr1,Zbx]
      refine sp dW hh (fun _ hh =>?_) (fun _ hh =>?_)
      ·cases hh
       try simp only[bh,seval,-Int.reduceToNat,hr1,Zbx]
       rw[au]
       refine⟨_,rfl,?_⟩
       refine⟨v1bx,?_,?_,?_,?_⟩
       all_goals first|rfl|(simp only[bh,seval,-Int.reduceToNat,hr1,Zbx]<;>rfl)
      ·cases hh
       try simp only[bh,seval,-Int.reduceToNat,hr1,Zbx]
       rw[au]
       refine⟨_,rfl,?_⟩
       refine⟨v1bx,?_,?_,?_,?_⟩
       all_goals first|rfl|(simp only[bh,seval,-Int.reduceToNat,hr1,Zbx]<;>rfl)
    ·dsimp only at hx hh
     obtain⟨rfl,hE⟩:=hx
     cases hh
     try simp only[bO,bI,b6,eJ,eF,dE,dF]
     exact hE
 ·clear hh
  have hh:=ho2
  try simp only[bh,seval,-Int.reduceToNat,hr1]
  refine sp bd hh (fun _ hh =>?_) (fun _ hh =>?_)
  ·cases hh
   try simp only[bh,seval,-Int.reduceToNat,hr1]
   rw[au]
   refine⟨_,rfl,?_⟩
   refine⟨0,?_,?_,?_⟩
   all_goals first|rfl|(simp only[bh,seval,-Int.reduceToNat,hr1]<;>rfl)
  ·cases hh
   try simp only[bh,seval,-Int.reduceToNat,hr1]
   rw[au]
   refine⟨_,rfl,?_⟩
   refine⟨0,?_,?_,?_⟩
   all_goals first|rfl|(simp only[bh,seval,-Int.reduceToNat,hr1]<;>rfl)
theorem O5:bY Try.prog 84 xT:=bY.of (mode := .clean) tok Ol mixed Try.func84 (by kernel_rfl) ⟨by kernel_rfl,by kernel_rfl⟩ (fun _=>ad4 (by kernel_rfl)) (fun x r h=>S3 x r h)
noncomputable def vE:=gf (fP (cW eM)) (fun x:an=>oa x) (fun r:Bool =>.clean (.bool r))
theorem CW (p0_0:Int) (p0_1:(List Int)):vE none [.agg [.int .i64 p0_0,.sl false false p0_1.length (ae (eI .i64) p0_1)]]=(oa (an.mk p0_0 p0_1)).map fun r:Bool=>(.clean (.bool r),none):=aW _ _ _ ((an.mk p0_0 p0_1))
noncomputable def qM:Env:=(Am.ext a6 84 false xT)
theorem KF:bD Try.prog qM:=(bD.none.add O5 false)
theorem wk:type_of% (ai @w<|ai @Gt<|@qM.eq_1):=⟨@w,@Gt,@qM.eq_1⟩
theorem OO (p0:an) (r:Bool) (hh:oa p0=some r):a8 .clean tab qM FU Try.f52 none [.agg [.int .i64 p0.ag,.sl false false p0.aa.length (ae (eI .i64) p0.aa)]]=some (.clean (.bool r),none):=by
 refine aC rfl Try.ntmps52 Try.results52 ?_
 unfold oa at hh
 obtain⟨r1,hr1,hh⟩:=ah hh
 try simp only[wk,seval,hr1]
 refine sp dW hh (fun _ hh =>?_) (fun _ hh =>?_)
 ·cases hh
  try simp only[wk,seval,hr1]
 ·cases hh
  try simp only[wk,seval,hr1]
theorem Mw:bY Try.prog 52 vE:=bY.of (mode := .clean) tok KF mixed Try.func52 (by kernel_rfl) ⟨by kernel_rfl,by kernel_rfl⟩ (fun _=>ad4 (by kernel_rfl)) (fun x r h=>OO x r h)
noncomputable def dP:=gf (fP (cW av)) (fun x:al=>bU x) (fun r:Bool =>.clean (.bool r))
theorem bR (p0_0:Int) (p0_1:(List Int)) (p0_2:Int) (p0_3:(List Int)):dP none [.agg [.int .i64 p0_0,.sl false false p0_1.length (ae (eI .i64) p0_1),.int .i64 p0_2,.sl false false p0_3.length (ae (eI .i64) p0_3)]]=(bU (al.mk (an.mk p0_0 p0_1) (an.mk p0_2 p0_3))).map fun r:Bool=>(.clean (.bool r),none):=aW _ _ _ ((al.mk (an.mk p0_0 p0_1) (an.mk p0_2 p0_3)))
noncomputable def nk:Env:=(Am.ext (Am.ext (Am.ext a6 50 false eC) 51 false tK) 52 false vE)
theorem DM:bD Try.prog nk:=(((bD.none.add fe false).add CE false).add Mw false)
theorem cL:type_of% (ai @w<|ai @cd<|ai @uC<|ai @CW<|@nk.eq_1):=⟨@w,@cd,@uC,@CW,@nk.eq_1⟩
theorem H3 (p0:al) (r:Bool) (hh:bU p0=some r):a8 .clean tab nk FU Try.f22 none [.agg [.int .i64 p0.aH.ag,.sl false false p0.aH.aa.length (ae (eI .i64) p0.aH.aa),.int .i64 p0.aK.ag,.sl false false p0.aK.aa.length (ae (eI .i64) p0.aK.aa)]]=some (.clean (.bool r),none):=by
 refine aC rfl Try.ntmps22 Try.results22 ?_
 unfold bU at hh
 obtain⟨r1,hr1,hh⟩:=ah hh
 try simp only[cL,seval,hr1]
 obtain⟨o2,ho2,hh⟩:=ah hh
 refine bJ 0 (fun s t H e=>match s with|s20j1=>∃v1j1:Nat,t 1=.ptr 1 v1j1 0∧t 20=.bool s20j1∧H 1=some ⟨v1j1,41,[.int .i64 p0.aH.ag,.sl false false p0.aH.aa.length (ae (eI .i64) p0.aH.aa),.int .i64 p0.aK.ag,.sl false false p0.aK.aa.length (ae (eI .i64) p0.aK.aa)],false,false,false⟩) (fun s=>s=o2) ?_ ?_
 ·rintro s20j1 t H e ⟨v1j1,Zj1⟩ rfl
  try dsimp only at hh
  try simp only[cL,seval,hr1,Zj1]
  refine sp aq hh (fun _ hh =>?_) (fun _ hh =>?_)
  ·cases hh
   try simp only[cL,seval,hr1,Zj1]
  ·obtain⟨r4,hr4,hh⟩:=ah hh
   try simp only[cL,seval,hr1,Zj1,hr4]
   refine sp dW hh (fun _ hh =>?_) (fun _ hh =>?_)
   ·obtain⟨r6,hr6,hh⟩:=ah hh
    cases hh
    try simp only[cL,seval,hr1,Zj1,hr4,hr6]
   ·cases hh
    try simp only[cL,seval,hr1,Zj1,hr4]
 ·clear hh
  have hh:=ho2
  try simp only[cL,seval,hr1]
  refine sp bd hh (fun _ hh =>?_) (fun _ hh =>?_)
  ·cases hh
   try simp only[cL,seval,hr1]
   rw[au]
   refine⟨_,rfl,?_⟩
   refine⟨0,?_,?_,?_⟩
   all_goals first|rfl|(simp only[cL,seval,hr1]<;>rfl)
  ·obtain⟨r8,hr8,hh⟩:=ah hh
   try simp only[cL,seval,hr1,hr8]
   refine sp bd hh (fun _ hh =>?_) (fun _ hh =>?_)
   ·cases hh
    try simp only[cL,seval,hr1,hr8]
    rw[au]
    refine⟨_,rfl,?_⟩
    refine⟨0,?_,?_,?_⟩
    all_goals first|rfl|(simp only[cL,seval,hr1,hr8]<;>rfl)
   ·cases hh
    try simp only[cL,seval,hr1,hr8]
    rw[au]
    refine⟨_,rfl,?_⟩
    refine⟨0,?_,?_,?_⟩
    all_goals first|rfl|(simp only[cL,seval,hr1,hr8]<;>rfl)
theorem ey:bY Try.prog 22 dP:=bY.of (mode := .clean) tok DM mixed Try.func22 (by kernel_rfl) ⟨by kernel_rfl,by kernel_rfl⟩ (fun _=>ad4 (by kernel_rfl)) (fun x r h=>H3 x r h)
noncomputable def kz:=gf (fP (cW av)) (fun x:al=>fQ x) (fun r:Int =>.clean (.int .i64 r))
theorem gT (p0_0:Int) (p0_1:(List Int)) (p0_2:Int) (p0_3:(List Int)):kz none [.agg [.int .i64 p0_0,.sl false false p0_1.length (ae (eI .i64) p0_1),.int .i64 p0_2,.sl false false p0_3.length (ae (eI .i64) p0_3)]]=(fQ (al.mk (an.mk p0_0 p0_1) (an.mk p0_2 p0_3))).map fun r:Int=>(.clean (.int .i64 r),none):=aW _ _ _ ((al.mk (an.mk p0_0 p0_1) (an.mk p0_2 p0_3)))
noncomputable def oQ:Env:=(Am.ext a6 22 false dP)
theorem HO:bD Try.prog oQ:=(bD.none.add ey false)
theorem tH:type_of% (ai @w<|ai @bR<|@oQ.eq_1):=⟨@w,@bR,@oQ.eq_1⟩
theorem LP (p0:al) (r:Int) (hh:fQ p0=some r):a8 .clean tab oQ FU Try.f20 none [.agg [.int .i64 p0.aH.ag,.sl false false p0.aH.aa.length (ae (eI .i64) p0.aH.aa),.int .i64 p0.aK.ag,.sl false false p0.aK.aa.length (ae (eI .i64) p0.aK.aa)]]=some (.clean (.int .i64 r),none):=by
 refine aC rfl Try.ntmps20 Try.results20 ?_
 unfold fQ at hh
 obtain⟨r1,hr1,hh⟩:=ah hh
 try simp only[tH,seval,hr1]
 refine sp aq hh (fun _ hh =>?_) (fun _ hh =>?_)
 ·cases hh
  try simp only[tH,seval,hr1]
 ·cases hh
  try simp only[tH,seval,hr1]
theorem nA:bY Try.prog 20 kz:=bY.of (mode := .clean) tok HO mixed Try.func20 (by kernel_rfl) ⟨by kernel_rfl,by kernel_rfl⟩ (fun _=>ad4 (by kernel_rfl)) (fun x r h=>LP x r h)
noncomputable def wz:=gf (fP (mB (eI .i64))) (fun x:(List Int)=>sJ x) (fun r:Int =>.clean (.int .i64 r))
theorem pT (p0:(List Int)):wz none [.sl false false p0.length (ae (eI .i64) p0)]=(sJ p0).map fun r:Int=>(.clean (.int .i64 r),none):=aW _ _ _ (p0)
theorem Vy (p0:(List Int)) (r:Int) (hh:sJ p0=some r):a8 .clean tab a6 FU Try.f65 none [.sl false false p0.length (ae (eI .i64) p0)]=some (.clean (.int .i64 r),none):=by
 refine aC rfl Try.ntmps65 Try.results65 ?_
 unfold sJ at hh
 try simp only[w,seval]
 obtain⟨o4,ho4,hh⟩:=ah hh
 refine aB (fun s t H e=>match s with|s8a=>t 3=.int .i64 0∧t 6=.sl false false p0.length (ae (eI .i64) p0)∧t 7=.int .i64 (p0.length:Int)∧t 8=.int .i64 s8a) (fun o x t H e=>match o with|(.inl _)=>x=.exit 0∧t 3=.int .i64 0|(.inr r)=>x=.ret∧jv .clean tab none [.tmp 2] ⟨t,EH H,e⟩=some (.clean (.int .i64 r),none)) ho4 ?_ ?_ ?_
 ·refine⟨?_,?_,?_,?_⟩
  all_goals first|rfl|(simp only[w,seval]<;>rfl)
 ·rintro s8a t H e Za c hh
  simp only[tW]at hh
  try simp only[w,seval,Za]
  refine sp aq hh (fun _ hh =>?_) (fun _ hh =>?_)
  ·obtain⟨x6,hx6,hh⟩:=ah hh
   have ax6:=bG (eI .i64) hx6
   simp only[bB]at ax6
   try simp only[w,seval,Za,ax6]
   refine sp aq hh (fun _ hh =>?_) (fun _ hh =>?_)
   ·cases hh
    try simp only[w,seval,Za,ax6]
    refine DR ⟨rfl,?_⟩
    try simp only[w,seval,Za,ax6]
   ·cases hh
    try simp only[w,seval,Za,ax6]
    refine jN ?_
    refine⟨?_,?_,?_,?_⟩
    all_goals first|rfl|(simp only[w,seval,Za,ax6]<;>rfl)
  ·cases hh
   try simp only[w,seval,Za]
   refine kW ?_
   refine⟨rfl,?_⟩
   all_goals first|rfl|(simp only[w,seval,Za]<;>rfl)
 ·rintro x t H e hx
  rcases o4 with _|ra
  ·dsimp only at hx hh
   obtain⟨rfl,Zax⟩:=hx
   cases hh
   try simp only[w,seval,Zax]
  ·dsimp only at hx hh
   obtain⟨rfl,hE⟩:=hx
   cases hh
   try simp only[bO,bI,b6,eJ,eF,dE,dF]
   exact hE
theorem Gi:bY Try.prog 65 wz:=bY.of (mode := .clean) tok bD.none mixed Try.func65 (by kernel_rfl) ⟨by kernel_rfl,by kernel_rfl⟩ (fun _=>ad4 (by kernel_rfl)) (fun x r h=>Vy x r h)
noncomputable def p9:=gf (iQ (cW a7) (fP (cW a7))) (fun x:di×di=>kq x.1 x.2) (fun r:Int =>.clean (.int .i64 r))
theorem xo (p0_0:Int) (p0_1:Int) (p0_2:Int) (p0_3:(List Int)) (p0_4:Int) (p0_5:(List Int)) (p1_0:Int) (p1_1:Int) (p1_2:Int) (p1_3:(List Int)) (p1_4:Int) (p1_5:(List Int)):p9 none [.agg [.int .i64 p0_0,.int .i64 p0_1,.int .i64 p0_2,.sl false false p0_3.length (ae (eI .i64) p0_3),.int .i64 p0_4,.sl false false p0_5.length (ae (eI .i64) p0_5)],.agg [.int .i64 p1_0,.int .i64 p1_1,.int .i64 p1_2,.sl false false p1_3.length (ae (eI .i64) p1_3),.int .i64 p1_4,.sl false false p1_5.length (ae (eI .i64) p1_5)]]=(kq (di.mk p0_0 p0_1 (al.mk (an.mk p0_2 p0_3) (an.mk p0_4 p0_5))) (di.mk p1_0 p1_1 (al.mk (an.mk p1_2 p1_3) (an.mk p1_4 p1_5)))).map fun r:Int=>(.clean (.int .i64 r),none):=aW _ _ _ ((di.mk p0_0 p0_1 (al.mk (an.mk p0_2 p0_3) (an.mk p0_4 p0_5))),(di.mk p1_0 p1_1 (al.mk (an.mk p1_2 p1_3) (an.mk p1_4 p1_5))))
noncomputable def np:Env:=(Am.ext (Am.ext a6 65 false wz) 66 false im)
theorem DO:bD Try.prog np:=((bD.none.add Gi false).add lD false)
theorem xO:type_of% (ai @w<|ai @pT<|ai @fj<|@np.eq_1):=⟨@w,@pT,@fj,@np.eq_1⟩
theorem H5 (p0:di) (p1:di) (r:Int) (hh:kq p0 p1=some r):a8 .clean tab np FU Try.f35 none [.agg [.int .i64 p0.de,.int .i64 p0.lN,.int .i64 p0.bg.aH.ag,.sl false false p0.bg.aH.aa.length (ae (eI .i64) p0.bg.aH.aa),.int .i64 p0.bg.aK.ag,.sl false false p0.bg.aK.aa.length (ae (eI .i64) p0.bg.aK.aa)],.agg [.int .i64 p1.de,.int .i64 p1.lN,.int .i64 p1.bg.aH.ag,.sl false false p1.bg.aH.aa.length (ae (eI .i64) p1.bg.aH.aa),.int .i64 p1.bg.aK.ag,.sl false false p1.bg.aK.aa.length (ae (eI .i64) p1.bg.aK.aa)]]=some (.clean (.int .i64 r),none):=by
 refine aC rfl Try.ntmps35 Try.results35 ?_
 unfold kq at hh
 obtain⟨r1,hr1,hh⟩:=ah hh
 obtain⟨r2,hr2,hh⟩:=ah hh
 have i3:=pT ([r1,r2])
 simp only[aJ,bB,List.length_cons,List.length_nil,ada,Nat.reduceAdd,aem]at i3
 obtain⟨r4,hr4,hh⟩:=ah hh
 try simp only[xO,seval,hr1,hr2,i3,hr4]
 refine bf (by kernel_rfl) ?_
 cases hh
 try simp only[xO,seval,hr1,hr2,i3,hr4]
theorem D3:bY Try.prog 35 p9:=bY.of (mode := .clean) tok DO mixed Try.func35 (by kernel_rfl) ⟨by kernel_rfl,by kernel_rfl⟩ (fun _=>ad4 (by kernel_rfl)) (fun x r h=>H5 x.1 x.2 r h)
noncomputable def AD:=gf (fP (aI .i64)) (fun x:Int=>sB x) (fun r:an =>.clean (.agg [.int .i64 r.ag,.sl false false r.aa.length (ae (eI .i64) r.aa)]))
theorem MK (p0:Int):AD none [.int .i64 p0]=(sB p0).map fun r:an=>(.clean (.agg [.int .i64 r.ag,.sl false false r.aa.length (ae (eI .i64) r.aa)]),none):=aW _ _ _ (p0)
noncomputable def wZ:Env:=(Am.ext a6 76 false fT)
theorem SM:bD Try.prog wZ:=(bD.none.add iz false)
theorem gm:type_of% (ai @w<|ai @dt<|@wZ.eq_1):=⟨@w,@dt,@wZ.eq_1⟩
theorem Vx (p0:Int) (r:an) (hh:sB p0=some r):a8 .clean tab wZ FU Try.f73 none [.int .i64 p0]=some (.clean (.agg [.int .i64 r.ag,.sl false false r.aa.length (ae (eI .i64) r.aa)]),none):=by
 refine aC rfl Try.ntmps73 Try.results73 ?_
 unfold sB at hh
 try simp only[gm,seval,-Int.reduceToNat]
 obtain⟨o1,ho1,hh⟩:=ah hh
 refine j4 0 (fun s t H e=>match s with|(s3j1,s4j1)=>∃v2j1:Nat,t 2=.ptr 2 v2j1 0∧t 3=.int .i64 s3j1∧t 4=.int .u64 s4j1∧H 2=some ⟨v2j1,39,[.int .i64 0,.sl true true 0 []],false,false,false⟩) (fun s=>s=o1) ?_ ?_
 ·rintro⟨s3j1,s4j1⟩ t H e ⟨v2j1,Zj1⟩ rfl
  try dsimp only at hh
  try simp only[gm,seval,-Int.reduceToNat,Zj1]
  obtain⟨o7,ho7,hh⟩:=ah hh
  refine aB (fun s t H e=>match s with|(s4b,l5b)=>∃v2b:Nat,∃v5b:Nat,t 2=.ptr 2 v2b 0∧t 3=.int .i64 s3j1∧t 4=.int .u64 s4b∧t 5=.buf 5 v5b 1 0 (l5b).length∧H 2=some ⟨v2b,39,[.int .i64 0,.sl true true 0 []],false,false,false⟩∧H 5=some ⟨v5b,3,ae (eI .i64) l5b,false,true,false⟩) (fun o x t H e=>match o with|l5bx=>x=.exit 0∧∃v2bx:Nat,∃v5bx:Nat,t 2=.ptr 2 v2bx 0∧t 3=.int .i64 s3j1∧t 5=.buf 5 v5bx 1 0 (l5bx).length∧H 2=some ⟨v2bx,39,[.int .i64 0,.sl true true 0 []],false,false,false⟩∧H 5=some ⟨v5bx,3,ae (eI .i64) l5bx,false,true,false⟩) ho7 ?_ ?_ ?_
  ·refine⟨v2j1,e,?_,?_,?_,?_,?_,?_⟩
   all_goals first|rfl|(simp only[gm,seval,-Int.reduceToNat,Zj1]<;>rfl)
  ·rintro⟨s4b,l5b⟩ t H e ⟨v2b,v5b,Zb⟩ c hh
   simp only[tT]at hh
   try simp only[gm,seval,-Int.reduceToNat,Zb]
   refine sp aq hh (fun _ hh =>?_) (fun _ hh =>?_)
   ·obtain⟨x9,hx9,hh⟩:=ah hh
    obtain⟨q10a,q10b,q10c,q10d⟩:=gz (eI .i64) hx9
    simp only[bB]at q10b
    obtain⟨x11,hx11,hh⟩:=ah hh
    have q12:=rE hx11
    cases hh
    try simp only[gm,seval,-Int.reduceToNat,Zb,q10a,q10b,q10c,q10d,q12]
    refine jN ?_
    refine⟨v2b,e+1,?_,?_,?_,?_,?_,?_⟩
    all_goals first|rfl|(simp only[gm,seval,-Int.reduceToNat,Zb,q10a,q10b,q10c,q10d,q12]<;>rfl)
   ·cases hh
    try simp only[gm,seval,-Int.reduceToNat,Zb]
    refine kW ?_
    refine⟨rfl,⟨v2b,v5b,?_,?_,?_,?_,?_⟩⟩
    all_goals first|rfl|(simp only[gm,seval,-Int.reduceToNat,Zb]<;>rfl)
  ·rintro x t H e hx
   obtain⟨l5bx,rfl⟩:∃z,z=o7:=⟨_,rfl⟩
   dsimp only at hx hh
   obtain⟨rfl,⟨v2bx,v5bx,Zbx⟩⟩:=hx
   obtain⟨r13,hr13,hh⟩:=ah hh
   cases hh
   try simp only[gm,seval,-Int.reduceToNat,Zbx,hr13]
 ·clear hh
  have hh:=ho1
  try simp only[gm,seval,-Int.reduceToNat]
  refine sp aq hh (fun _ hh =>?_) (fun _ hh =>?_)
  ·cases hh
   try simp only[gm,seval,-Int.reduceToNat]
   rw[au]
   refine⟨_,rfl,?_⟩
   refine⟨0,?_,?_,?_,?_⟩
   all_goals first|rfl|(simp only[gm,seval,-Int.reduceToNat]<;>rfl)
  ·cases hh
   try simp only[gm,seval,-Int.reduceToNat]
   rw[au]
   refine⟨_,rfl,?_⟩
   refine⟨0,?_,?_,?_,?_⟩
   all_goals first|rfl|(simp only[gm,seval,-Int.reduceToNat]<;>rfl)
theorem Tq:bY Try.prog 73 AD:=bY.of (mode := .clean) tok SM mixed Try.func73 (by kernel_rfl) ⟨by kernel_rfl,by kernel_rfl⟩ (fun _=>ad4 (by kernel_rfl)) (fun x r h=>Vx x r h)
noncomputable def kh:=gf (fP (aI .i64)) (fun x:Int=>gH x) (fun r:al =>.clean (.agg [.int .i64 r.aH.ag,.sl false false r.aH.aa.length (ae (eI .i64) r.aH.aa),.int .i64 r.aK.ag,.sl false false r.aK.aa.length (ae (eI .i64) r.aK.aa)]))
theorem gq (p0:Int):kh none [.int .i64 p0]=(gH p0).map fun r:al=>(.clean (.agg [.int .i64 r.aH.ag,.sl false false r.aH.aa.length (ae (eI .i64) r.aH.aa),.int .i64 r.aK.ag,.sl false false r.aK.aa.length (ae (eI .i64) r.aK.aa)]),none):=aW _ _ _ (p0)
noncomputable def qI:Env:=(Am.ext a6 73 false AD)
theorem KB:bD Try.prog qI:=(bD.none.add Tq false)
theorem PW:type_of% (ai @w<|ai @MK<|@qI.eq_1):=⟨@w,@MK,@qI.eq_1⟩
theorem OK (p0:Int) (r:al) (hh:gH p0=some r):a8 .clean tab qI FU Try.f44 none [.int .i64 p0]=some (.clean (.agg [.int .i64 r.aH.ag,.sl false false r.aH.aa.length (ae (eI .i64) r.aH.aa),.int .i64 r.aK.ag,.sl false false r.aK.aa.length (ae (eI .i64) r.aK.aa)]),none):=by
 refine aC rfl Try.ntmps44 Try.results44 ?_
 unfold gH at hh
 obtain⟨r1,hr1,hh⟩:=ah hh
 obtain⟨r2,hr2,hh⟩:=ah hh
 cases hh
 try simp only[PW,seval,hr1,hr2]
theorem mP:bY Try.prog 44 kh:=bY.of (mode := .clean) tok KB mixed Try.func44 (by kernel_rfl) ⟨by kernel_rfl,by kernel_rfl⟩ (fun _=>ad4 (by kernel_rfl)) (fun x r h=>OK x r h)
noncomputable def tL:=gf (fP (cW eM)) (fun x:an=>mi x) (fun r:an =>.clean (.agg [.int .i64 r.ag,.sl false false r.aa.length (ae (eI .i64) r.aa)]))
theorem uD (p0_0:Int) (p0_1:(List Int)):tL none [.agg [.int .i64 p0_0,.sl false false p0_1.length (ae (eI .i64) p0_1)]]=(mi (an.mk p0_0 p0_1)).map fun r:an=>(.clean (.agg [.int .i64 r.ag,.sl false false r.aa.length (ae (eI .i64) r.aa)]),none):=aW _ _ _ ((an.mk p0_0 p0_1))
noncomputable def ui:Env:=(Am.ext (Am.ext (Am.ext a6 50 false eC) 76 false fT) 82 false gE)
theorem On:bD Try.prog ui:=(((bD.none.add fe false).add iz false).add kd false)
theorem uU:type_of% (ai @w<|ai @cd<|ai @dt<|ai @eH<|@ui.eq_1):=⟨@w,@cd,@dt,@eH,@ui.eq_1⟩
theorem S5 (p0:an) (r:an) (hh:mi p0=some r):a8 .clean tab ui FU Try.f64 none [.agg [.int .i64 p0.ag,.sl false false p0.aa.length (ae (eI .i64) p0.aa)]]=some (.clean (.agg [.int .i64 r.ag,.sl false false r.aa.length (ae (eI .i64) r.aa)]),none):=by
 refine aC rfl Try.ntmps64 Try.results64 ?_
 unfold mi at hh
 obtain⟨r1,hr1,hh⟩:=ah hh
 try simp only[uU,seval,hr1]
 refine sp aq hh (fun _ hh =>?_) (fun _ hh =>?_)
 ·cases hh
  try simp only[uU,seval,hr1]
 ·obtain⟨r3,hr3,hh⟩:=ah hh
  obtain⟨r4,hr4,hh⟩:=ah hh
  try simp only[uU,seval,hr1,hr3,hr4]
  refine bf (by kernel_rfl) ?_
  cases hh
  try simp only[uU,seval,hr1,hr3,hr4]
theorem CF:bY Try.prog 64 tL:=bY.of (mode := .clean) tok On mixed Try.func64 (by kernel_rfl) ⟨by kernel_rfl,by kernel_rfl⟩ (fun _=>ad4 (by kernel_rfl)) (fun x r h=>S5 x r h)
noncomputable def xU:=gf (iQ (cW eM) (fP (cW eM))) (fun x:an×an=>qp x.1 x.2) (fun r:an×Int =>.clean (.tup [.agg [.int .i64 r.1.ag,.sl false false r.1.aa.length (ae (eI .i64) r.1.aa)],.int .i64 r.2]))
theorem Gu (p0_0:Int) (p0_1:(List Int)) (p1_0:Int) (p1_1:(List Int)):xU none [.agg [.int .i64 p0_0,.sl false false p0_1.length (ae (eI .i64) p0_1)],.agg [.int .i64 p1_0,.sl false false p1_1.length (ae (eI .i64) p1_1)]]=(qp (an.mk p0_0 p0_1) (an.mk p1_0 p1_1)).map fun r:an×Int=>(.clean (.tup [.agg [.int .i64 r.1.ag,.sl false false r.1.aa.length (ae (eI .i64) r.1.aa)],.int .i64 r.2]),none):=aW _ _ _ ((an.mk p0_0 p0_1),(an.mk p1_0 p1_1))
noncomputable def uh:Env:=(Am.ext (Am.ext (Am.ext (Am.ext a6 50 false eC) 75 false jO) 76 false fT) 103 false tO)
theorem Om:bD Try.prog uh:=((((bD.none.add fe false).add oo false).add iz false).add CI false)
theorem iD:type_of% (ai @w<|ai @cd<|ai @ez<|ai @dt<|ai @nG<|@uh.eq_1):=⟨@w,@cd,@ez,@dt,@nG,@uh.eq_1⟩
theorem S4 (p0:an) (p1:an) (r:an×Int) (hh:qp p0 p1=some r):a8 .clean tab uh FU Try.f80 none [.agg [.int .i64 p0.ag,.sl false false p0.aa.length (ae (eI .i64) p0.aa)],.agg [.int .i64 p1.ag,.sl false false p1.aa.length (ae (eI .i64) p1.aa)]]=some (.clean (.tup [.agg [.int .i64 r.1.ag,.sl false false r.1.aa.length (ae (eI .i64) r.1.aa)],.int .i64 r.2]),none):=by
 refine aC rfl Try.ntmps80 Try.results80 ?_
 unfold qp at hh
 obtain⟨r1,hr1,hh⟩:=ah hh
 try simp only[iD,seval,hr1]
 obtain⟨o2,ho2,hh⟩:=ah hh
 refine bJ 0 (fun s t H e=>match s with|s13j1=>∃v2j1:Nat,∃v3j1:Nat,∃v4j1:Nat,t 2=.ptr 2 v2j1 0∧t 3=.ptr 3 v3j1 0∧t 4=.ptr 4 v4j1 0∧t 13=.bool s13j1∧H 2=some ⟨v2j1,39,[.int .i64 p0.ag,.sl false false p0.aa.length (ae (eI .i64) p0.aa)],false,false,false⟩∧H 3=some ⟨v3j1,39,[.int .i64 p1.ag,.sl false false p1.aa.length (ae (eI .i64) p1.aa)],false,false,false⟩∧H 4=some ⟨v4j1,39,[.int .i64 0,.sl true true 0 []],false,false,false⟩) (fun s=>s=o2) ?_ ?_
 ·rintro s13j1 t H e ⟨v2j1,v3j1,v4j1,Zj1⟩ rfl
  try dsimp only at hh
  try simp only[iD,seval,hr1,Zj1]
  refine sp aq hh (fun _ hh =>?_) (fun _ hh =>?_)
  ·have i4:=ez false 0 ([])
   simp only[aJ,bB,List.length_cons,List.length_nil,ada,Nat.reduceAdd,aem]at i4
   obtain⟨r5,hr5,hh⟩:=ah hh
   cases hh
   try simp only[iD,seval,hr1,Zj1,i4,hr5]
  ·obtain⟨r6,hr6,hh⟩:=ah hh
   obtain⟨r7,hr7,hh⟩:=ah hh
   obtain⟨r8,hr8,hh⟩:=ah hh
   try simp only[iD,seval,hr1,Zj1,hr6,hr7,hr8]
   refine bf (by kernel_rfl) ?_
   cases hh
   try simp only[iD,seval,hr1,Zj1,hr6,hr7,hr8]
 ·clear hh
  have hh:=ho2
  try simp only[iD,seval,hr1]
  refine sp bd hh (fun _ hh =>?_) (fun _ hh =>?_)
  ·cases hh
   try simp only[iD,seval,hr1]
   rw[au]
   refine⟨_,rfl,?_⟩
   refine⟨0,0,0,?_,?_,?_,?_,?_,?_,?_⟩
   all_goals first|rfl|(simp only[iD,seval,hr1]<;>rfl)
  ·obtain⟨r10,hr10,hh⟩:=ah hh
   cases hh
   try simp only[iD,seval,hr1,hr10]
   rw[au]
   refine⟨_,rfl,?_⟩
   refine⟨0,0,0,?_,?_,?_,?_,?_,?_,?_⟩
   all_goals first|rfl|(simp only[iD,seval,hr1,hr10]<;>rfl)
theorem O6:bY Try.prog 80 xU:=bY.of (mode := .clean) tok Om mixed Try.func80 (by kernel_rfl) ⟨by kernel_rfl,by kernel_rfl⟩ (fun _=>ad4 (by kernel_rfl)) (fun x r h=>S4 x.1 x.2 r h)
noncomputable def jo:=gf (iQ (cW eM) (fP (cW eM))) (fun x:an×an=>bN x.1 x.2) (fun r:an =>.clean (.agg [.int .i64 r.ag,.sl false false r.aa.length (ae (eI .i64) r.aa)]))
theorem gh (p0_0:Int) (p0_1:(List Int)) (p1_0:Int) (p1_1:(List Int)):jo none [.agg [.int .i64 p0_0,.sl false false p0_1.length (ae (eI .i64) p0_1)],.agg [.int .i64 p1_0,.sl false false p1_1.length (ae (eI .i64) p1_1)]]=(bN (an.mk p0_0 p0_1) (an.mk p1_0 p1_1)).map fun r:an=>(.clean (.agg [.int .i64 r.ag,.sl false false r.aa.length (ae (eI .i64) r.aa)]),none):=aW _ _ _ ((an.mk p0_0 p0_1),(an.mk p1_0 p1_1))
noncomputable def nn:Env:=(Am.ext a6 80 false xU)
theorem DN:bD Try.prog nn:=(bD.none.add O6 false)
theorem IS:type_of% (ai @w<|ai @Gu<|@nn.eq_1):=⟨@w,@Gu,@nn.eq_1⟩
theorem H4 (p0:an) (p1:an) (r:an) (hh:bN p0 p1=some r):a8 .clean tab nn FU Try.f48 none [.agg [.int .i64 p0.ag,.sl false false p0.aa.length (ae (eI .i64) p0.aa)],.agg [.int .i64 p1.ag,.sl false false p1.aa.length (ae (eI .i64) p1.aa)]]=some (.clean (.agg [.int .i64 r.ag,.sl false false r.aa.length (ae (eI .i64) r.aa)]),none):=by
 refine aC rfl Try.ntmps48 Try.results48 ?_
 unfold bN at hh
 obtain⟨r1,hr1,hh⟩:=ah hh
 cases hh
 try simp only[IS,seval,hr1]
theorem mu:bY Try.prog 48 jo:=bY.of (mode := .clean) tok DN mixed Try.func48 (by kernel_rfl) ⟨by kernel_rfl,by kernel_rfl⟩ (fun _=>ad4 (by kernel_rfl)) (fun x r h=>H4 x.1 x.2 r h)
noncomputable def tM:=gf (iQ (mB (eI .i64)) (fP (mB (eI .i64)))) (fun x:(List Int)×(List Int)=>oI x.1 x.2) (fun r:(List Int) =>.clean (.sl false false r.length (ae (eI .i64) r)))
theorem pS (p0:(List Int)) (p1:(List Int)):tM none [.sl false false p0.length (ae (eI .i64) p0),.sl false false p1.length (ae (eI .i64) p1)]=(oI p0 p1).map fun r:(List Int)=>(.clean (.sl false false r.length (ae (eI .i64) r)),none):=aW _ _ _ (p0,p1)
noncomputable def uj:Env:=(Am.ext a6 102 false kg)
theorem Oo:bD Try.prog uj:=(bD.none.add mO false)
theorem cR:type_of% (ai @w<|ai @eV<|@uj.eq_1):=⟨@w,@eV,@uj.eq_1⟩
theorem S6 (p0:(List Int)) (p1:(List Int)) (r:(List Int)) (hh:oI p0 p1=some r):a8 .clean tab uj FU Try.f77 none [.sl false false p0.length (ae (eI .i64) p0),.sl false false p1.length (ae (eI .i64) p1)]=some (.clean (.sl false false r.length (ae (eI .i64) r)),none):=by
 refine aC rfl Try.ntmps77 Try.results77 ?_
 unfold oI at hh
 try simp only[cR,seval,-Int.reduceToNat]
 obtain⟨o1,ho1,hh⟩:=ah hh
 refine j4 0 (fun s t H e=>match s with|(s0j1,s1j1)=>t 0=.sl false false s0j1.length (ae (eI .i64) s0j1)∧t 1=.sl false false s1j1.length (ae (eI .i64) s1j1)) (fun s=>s=o1) ?_ ?_
 ·rintro⟨s0j1,s1j1⟩ t H e Zj1 rfl
  try dsimp only at hh
  obtain⟨x2,hx2,hh⟩:=ah hh
  obtain⟨q3a,q3b,q3c,q3d,q3e⟩:=mk_one (eI .i64) hx2
  simp only[bB]at q3d
  try simp only[cR,seval,-Int.reduceToNat,Zj1,q3a,q3b,q3c,q3d,q3e]
  obtain⟨o13,ho13,hh⟩:=ah hh
  refine aB (fun s t H e=>match s with|(s6b,s22b,l5b)=>∃v5b:Nat,t 0=.sl false false s0j1.length (ae (eI .i64) s0j1)∧t 1=.sl false false s1j1.length (ae (eI .i64) s1j1)∧t 5=.buf 5 v5b 1 0 (l5b).length∧t 6=.int .i64 s6b∧t 20=.sl false false s0j1.length (ae (eI .i64) s0j1)∧t 21=.int .i64 (s0j1.length:Int)∧t 22=.int .i64 s22b∧H 5=some ⟨v5b,3,ae (eI .i64) l5b,false,true,false⟩) (fun o x t H e=>match o with|(s6bx,l5bx)=>x=.exit 0∧∃v5bx:Nat,t 0=.sl false false s0j1.length (ae (eI .i64) s0j1)∧t 5=.buf 5 v5bx 1 0 (l5bx).length∧t 6=.int .i64 s6bx∧H 5=some ⟨v5bx,3,ae (eI .i64) l5bx,false,true,false⟩) ho13 ?_ ?_ ?_
  ·refine⟨e,?_,?_,?_,?_,?_,?_,?_,?_⟩
   all_goals first|rfl|(simp only[cR,seval,-Int.reduceToNat,Zj1,q3a,q3b,q3c,q3d,q3e]<;>rfl)
  ·rintro⟨s6b,s22b,l5b⟩ t H e ⟨v5b,Zb⟩ c hh
   simp only[nT]at hh
   try simp only[cR,seval,-Int.reduceToNat,q3a,q3b,q3c,q3d,q3e,Zb]
   refine sp aq hh (fun _ hh =>?_) (fun _ hh =>?_)
   ·obtain⟨x15,hx15,hh⟩:=ah hh
    have ax15:=bG (eI .i64) hx15
    simp only[bB]at ax15
    try simp only[cR,seval,-Int.reduceToNat,q3a,q3b,q3c,q3d,q3e,Zb,ax15]
    obtain⟨o16,ho16,hh⟩:=ah hh
    refine j4 0 (fun s t H e=>match s with|s6j4=>∃v5j4:Nat,t 0=.sl false false s0j1.length (ae (eI .i64) s0j1)∧t 1=.sl false false s1j1.length (ae (eI .i64) s1j1)∧t 5=.buf 5 v5j4 1 0 (l5b).length∧t 6=.int .i64 s6j4∧t 7=.int .i64 s22b∧t 20=.sl false false s0j1.length (ae (eI .i64) s0j1)∧t 21=.int .i64 (s0j1.length:Int)∧t 22=.int .i64 s22b∧H 5=some ⟨v5j4,3,ae (eI .i64) l5b,false,true,false⟩) (fun s=>s=o16) ?_ ?_
    ·rintro s6j4 t H e ⟨v5j4,Zj4⟩ rfl
     try dsimp only at hh
     obtain⟨x17,hx17,hh⟩:=ah hh
     have ax17:=bG (eI .i64) hx17
     simp only[bB]at ax17
     have p18:=eO (eI .i64) (x':=jR .and .i64 s6j4 1048575) (fo:=0) (cs:=[.int .i64 (jR .and .i64 s6j4 1048575)]) hx17 rfl (ad4 rfl)
     simp only[bB,Nat.add_zero]at p18
     have up18:=p18
     simp only[putCells,List.length_cons,List.length_nil,ada,Nat.reduceAdd]at up18
     obtain⟨x19,hx19,hh⟩:=ah hh
     have q20:=rE hx19
     cases hh
     try simp only[cR,seval,-Int.reduceToNat,q3a,q3b,q3c,q3d,q3e,ax15,Zj4,ax17,p18,up18,q20]
     refine jN ?_
     refine⟨v5j4,?_,?_,?_,?_,?_,?_,?_,?_⟩
     all_goals first|rfl|(simp only[cR,seval,-Int.reduceToNat,q3a,q3b,q3c,q3d,q3e,ax15,Zj4,ax17,p18,up18,q20]<;>rfl)
    ·clear hh
     have hh:=ho16
     try simp only[cR,seval,-Int.reduceToNat,q3a,q3b,q3c,q3d,q3e,Zb,ax15]
     refine sp aq hh (fun _ hh =>?_) (fun _ hh =>?_)
     ·obtain⟨x22,hx22,hh⟩:=ah hh
      have ax22:=bG (eI .i64) hx22
      simp only[bB]at ax22
      cases hh
      try simp only[cR,seval,-Int.reduceToNat,q3a,q3b,q3c,q3d,q3e,Zb,ax15,ax22]
      rw[au]
      refine⟨_,rfl,?_⟩
      refine⟨v5b,?_,?_,?_,?_,?_,?_,?_,?_,?_⟩
      all_goals first|rfl|(simp only[cR,seval,-Int.reduceToNat,q3a,q3b,q3c,q3d,q3e,Zb,ax15,ax22]<;>rfl)
     ·cases hh
      try simp only[cR,seval,-Int.reduceToNat,q3a,q3b,q3c,q3d,q3e,Zb,ax15]
      rw[au]
      refine⟨_,rfl,?_⟩
      refine⟨v5b,?_,?_,?_,?_,?_,?_,?_,?_,?_⟩
      all_goals first|rfl|(simp only[cR,seval,-Int.reduceToNat,q3a,q3b,q3c,q3d,q3e,Zb,ax15]<;>rfl)
   ·cases hh
    try simp only[cR,seval,-Int.reduceToNat,q3a,q3b,q3c,q3d,q3e,Zb]
    refine kW ?_
    refine⟨rfl,⟨v5b,?_,?_,?_,?_⟩⟩
    all_goals first|rfl|(simp only[cR,seval,-Int.reduceToNat,q3a,q3b,q3c,q3d,q3e,Zb]<;>rfl)
  ·rintro x t H e hx
   rcases o13 with⟨s6bx,l5bx⟩
   dsimp only at hx hh
   obtain⟨rfl,⟨v5bx,Zbx⟩⟩:=hx
   obtain⟨x23,hx23,hh⟩:=ah hh
   have ax23:=bG (eI .i64) hx23
   simp only[bB]at ax23
   have p24:=eO (eI .i64) (x':=s6bx) (fo:=0) (cs:=[.int .i64 s6bx]) hx23 rfl (ad4 rfl)
   simp only[bB,Nat.add_zero]at p24
   have up24:=p24
   simp only[putCells,List.length_cons,List.length_nil,ada,Nat.reduceAdd]at up24
   have i25:=eV (l5bx.set ((s0j1.length:Int)).toNat s6bx)
   simp only[aJ,bB,List.length_cons,List.length_nil,ada,Nat.reduceAdd,aem]at i25
   obtain⟨r26,hr26,hh⟩:=ah hh
   cases hh
   try simp only[cR,seval,-Int.reduceToNat,q3a,q3b,q3c,q3d,q3e,Zbx,ax23,p24,up24,i25,hr26]
 ·clear hh
  have hh:=ho1
  try simp only[cR,seval,-Int.reduceToNat]
  refine sp aq hh (fun _ hh =>?_) (fun _ hh =>?_)
  ·cases hh
   try simp only[cR,seval,-Int.reduceToNat]
   rw[au]
   refine⟨_,rfl,?_⟩
   refine⟨?_,?_⟩
   all_goals first|rfl|(simp only[cR,seval,-Int.reduceToNat]<;>rfl)
  ·cases hh
   try simp only[cR,seval,-Int.reduceToNat]
   rw[au]
   refine⟨_,rfl,?_⟩
   refine⟨?_,?_⟩
   all_goals first|rfl|(simp only[cR,seval,-Int.reduceToNat]<;>rfl)
theorem CG:bY Try.prog 77 tM:=bY.of (mode := .clean) tok Oo mixed Try.func77 (by kernel_rfl) ⟨by kernel_rfl,by kernel_rfl⟩ (fun _=>ad4 (by kernel_rfl)) (fun x r h=>S6 x.1 x.2 r h)
noncomputable def tP:=gf (iQ (mB (eI .i64)) (fP (mB (eI .i64)))) (fun x:(List Int)×(List Int)=>ng x.1 x.2) (fun r:(List Int) =>.clean (.sl false false r.length (ae (eI .i64) r)))
theorem uF (p0:(List Int)) (p1:(List Int)):tP none [.sl false false p0.length (ae (eI .i64) p0),.sl false false p1.length (ae (eI .i64) p1)]=(ng p0 p1).map fun r:(List Int)=>(.clean (.sl false false r.length (ae (eI .i64) r)),none):=aW _ _ _ (p0,p1)
noncomputable def uo:Env:=(Am.ext (Am.ext a6 82 false gE) 102 false kg)
theorem Ou:bD Try.prog uo:=((bD.none.add kd false).add mO false)
theorem eQ:type_of% (ai @w<|ai @eH<|ai @eV<|@uo.eq_1):=⟨@w,@eH,@eV,@uo.eq_1⟩
theorem S9 (p0:(List Int)) (p1:(List Int)) (r:(List Int)) (hh:ng p0 p1=some r):a8 .clean tab uo FU Try.f79 none [.sl false false p0.length (ae (eI .i64) p0),.sl false false p1.length (ae (eI .i64) p1)]=some (.clean (.sl false false r.length (ae (eI .i64) r)),none):=by
 refine aC rfl Try.ntmps79 Try.results79 ?_
 unfold ng at hh
 obtain⟨r1,hr1,hh⟩:=ah hh
 try simp only[eQ,seval,-Int.reduceToNat,hr1]
 obtain⟨o10,ho10,hh⟩:=ah hh
 refine aB (fun s t H e=>match s with|(s6a,s13a,l5a)=>∃v5a:Nat,t 1=.sl false false p1.length (ae (eI .i64) p1)∧t 5=.buf 5 v5a 1 0 (l5a).length∧t 6=.int .i64 s6a∧t 12=.int .i64 ((r1).length:Int)∧t 13=.int .i64 s13a∧H 5=some ⟨v5a,3,ae (eI .i64) l5a,false,true,false⟩) (fun o x t H e=>match o with|l5ax=>x=.exit 0∧∃v5ax:Nat,t 5=.buf 5 v5ax 1 0 (l5ax).length∧H 5=some ⟨v5ax,3,ae (eI .i64) l5ax,false,true,false⟩) ho10 ?_ ?_ ?_
 ·refine⟨1,?_,?_,?_,?_,?_,?_⟩
  all_goals first|rfl|(simp only[eQ,seval,-Int.reduceToNat,hr1]<;>rfl)
 ·rintro⟨s6a,s13a,l5a⟩ t H e ⟨v5a,Za⟩ c hh
  simp only[qy]at hh
  try simp only[eQ,seval,-Int.reduceToNat,hr1,Za]
  refine sp aq hh (fun _ hh =>?_) (fun _ hh =>?_)
  ·obtain⟨x12,hx12,hh⟩:=ah hh
   have ax12:=bG (eI .i64) hx12
   simp only[bB]at ax12
   try simp only[eQ,seval,-Int.reduceToNat,hr1,Za,ax12]
   obtain⟨o13,ho13,hh⟩:=ah hh
   refine j4 0 (fun s t H e=>match s with|s8j3=>∃v5j3:Nat,t 1=.sl false false p1.length (ae (eI .i64) p1)∧t 5=.buf 5 v5j3 1 0 (l5a).length∧t 7=.int .i64 s13a∧t 8=.int .i64 s8j3∧t 12=.int .i64 ((r1).length:Int)∧t 13=.int .i64 s13a∧H 5=some ⟨v5j3,3,ae (eI .i64) l5a,false,true,false⟩) (fun s=>s=o13) ?_ ?_
   ·rintro s8j3 t H e ⟨v5j3,Zj3⟩ rfl
    try dsimp only at hh
    obtain⟨x14,hx14,hh⟩:=ah hh
    have q15:=rE hx14
    have ax12:=bG (eI .i64) hx12
    simp only[bB]at ax12
    have p16:=eO (eI .i64) (x':=jR .and .i64 s8j3 1048575) (fo:=0) (cs:=[.int .i64 (jR .and .i64 s8j3 1048575)]) hx12 rfl (ad4 rfl)
    simp only[bB,Nat.add_zero]at p16
    have up16:=p16
    simp only[putCells,List.length_cons,List.length_nil,ada,Nat.reduceAdd]at up16
    cases hh
    try simp only[eQ,seval,-Int.reduceToNat,hr1,ax12,Zj3,q15,ax12,p16,up16]
    refine jN ?_
    refine⟨v5j3,?_,?_,?_,?_,?_,?_⟩
    all_goals first|rfl|(simp only[eQ,seval,-Int.reduceToNat,hr1,ax12,Zj3,q15,ax12,p16,up16]<;>rfl)
   ·clear hh
    have hh:=ho13
    try simp only[eQ,seval,-Int.reduceToNat,hr1,Za,ax12]
    refine sp aq hh (fun _ hh =>?_) (fun _ hh =>?_)
    ·obtain⟨x18,hx18,hh⟩:=ah hh
     have ax18:=bG (eI .i64) hx18
     simp only[bB]at ax18
     cases hh
     try simp only[eQ,seval,-Int.reduceToNat,hr1,Za,ax12,ax18]
     rw[au]
     refine⟨_,rfl,?_⟩
     refine⟨v5a,?_,?_,?_,?_,?_,?_,?_⟩
     all_goals first|rfl|(simp only[eQ,seval,-Int.reduceToNat,hr1,Za,ax12,ax18]<;>rfl)
    ·cases hh
     try simp only[eQ,seval,-Int.reduceToNat,hr1,Za,ax12]
     rw[au]
     refine⟨_,rfl,?_⟩
     refine⟨v5a,?_,?_,?_,?_,?_,?_,?_⟩
     all_goals first|rfl|(simp only[eQ,seval,-Int.reduceToNat,hr1,Za,ax12]<;>rfl)
  ·cases hh
   try simp only[eQ,seval,-Int.reduceToNat,hr1,Za]
   refine kW ?_
   refine⟨rfl,⟨v5a,?_,?_⟩⟩
   all_goals first|rfl|(simp only[eQ,seval,-Int.reduceToNat,hr1,Za]<;>rfl)
 ·rintro x t H e hx
  obtain⟨l5ax,rfl⟩:∃z,z=o10:=⟨_,rfl⟩
  dsimp only at hx hh
  obtain⟨rfl,⟨v5ax,Zax⟩⟩:=hx
  obtain⟨r19,hr19,hh⟩:=ah hh
  cases hh
  try simp only[eQ,seval,-Int.reduceToNat,hr1,Zax,hr19]
theorem CJ:bY Try.prog 79 tP:=bY.of (mode := .clean) tok Ou mixed Try.func79 (by kernel_rfl) ⟨by kernel_rfl,by kernel_rfl⟩ (fun _=>ad4 (by kernel_rfl)) (fun x r h=>S9 x.1 x.2 r h)
noncomputable def xR:=gf (iQ (cW eM) (fP (cW eM))) (fun x:an×an=>qm x.1 x.2) (fun r:an×Int =>.clean (.tup [.agg [.int .i64 r.1.ag,.sl false false r.1.aa.length (ae (eI .i64) r.1.aa)],.int .i64 r.2]))
theorem Gr (p0_0:Int) (p0_1:(List Int)) (p1_0:Int) (p1_1:(List Int)):xR none [.agg [.int .i64 p0_0,.sl false false p0_1.length (ae (eI .i64) p0_1)],.agg [.int .i64 p1_0,.sl false false p1_1.length (ae (eI .i64) p1_1)]]=(qm (an.mk p0_0 p0_1) (an.mk p1_0 p1_1)).map fun r:an×Int=>(.clean (.tup [.agg [.int .i64 r.1.ag,.sl false false r.1.aa.length (ae (eI .i64) r.1.aa)],.int .i64 r.2]),none):=aW _ _ _ ((an.mk p0_0 p0_1),(an.mk p1_0 p1_1))
noncomputable def ud:Env:=(Am.ext (Am.ext (Am.ext (Am.ext (Am.ext (Am.ext (Am.ext a6 50 false eC) 65 false wz) 75 false jO) 76 false fT) 77 false tM) 78 false jP) 79 false tP)
theorem Oi:bD Try.prog ud:=(((((((bD.none.add fe false).add Gi false).add oo false).add iz false).add CG false).add ot false).add CJ false)
theorem dZ:type_of% (ai @w<|ai @cd<|ai @pT<|ai @ez<|ai @dt<|ai @pS<|ai @iA<|ai @uF<|@ud.eq_1):=⟨@w,@cd,@pT,@ez,@dt,@pS,@iA,@uF,@ud.eq_1⟩
theorem S0 (p0:an) (p1:an) (r:an×Int) (hh:qm p0 p1=some r):a8 .clean tab ud FU Try.f47 none [.agg [.int .i64 p0.ag,.sl false false p0.aa.length (ae (eI .i64) p0.aa)],.agg [.int .i64 p1.ag,.sl false false p1.aa.length (ae (eI .i64) p1.aa)]]=some (.clean (.tup [.agg [.int .i64 r.1.ag,.sl false false r.1.aa.length (ae (eI .i64) r.1.aa)],.int .i64 r.2]),none):=by
 refine aC rfl Try.ntmps47 Try.results47 ?_
 unfold qm at hh
 obtain⟨r1,hr1,hh⟩:=ah hh
 try simp only[dZ,seval,hr1]
 obtain⟨o2,ho2,hh⟩:=ah hh
 refine bJ 0 (fun s t H e=>match s with|s13j1=>∃v2j1:Nat,∃v3j1:Nat,∃v4j1:Nat,t 2=.ptr 2 v2j1 0∧t 3=.ptr 3 v3j1 0∧t 4=.ptr 4 v4j1 0∧t 13=.bool s13j1∧H 2=some ⟨v2j1,39,[.int .i64 p0.ag,.sl false false p0.aa.length (ae (eI .i64) p0.aa)],false,false,false⟩∧H 3=some ⟨v3j1,39,[.int .i64 p1.ag,.sl false false p1.aa.length (ae (eI .i64) p1.aa)],false,false,false⟩∧H 4=some ⟨v4j1,39,[.int .i64 0,.sl true true 0 []],false,false,false⟩) (fun s=>s=o2) ?_ ?_
 ·rintro s13j1 t H e ⟨v2j1,v3j1,v4j1,Zj1⟩ rfl
  try dsimp only at hh
  try simp only[dZ,seval,hr1,Zj1]
  refine sp aq hh (fun _ hh =>?_) (fun _ hh =>?_)
  ·have i4:=ez false 0 ([])
   simp only[aJ,bB,List.length_cons,List.length_nil,ada,Nat.reduceAdd,aem]at i4
   obtain⟨r5,hr5,hh⟩:=ah hh
   cases hh
   try simp only[dZ,seval,hr1,Zj1,i4,hr5]
  ·try simp only[dZ,seval,hr1,Zj1]
   refine sp aq hh (fun _ hh =>?_) (fun _ hh =>?_)
   ·have i7:=pT ([p0.ag,p1.ag])
    simp only[aJ,bB,List.length_cons,List.length_nil,ada,Nat.reduceAdd,aem]at i7
    obtain⟨r8,hr8,hh⟩:=ah hh
    obtain⟨r9,hr9,hh⟩:=ah hh
    obtain⟨r10,hr10,hh⟩:=ah hh
    obtain⟨r11,hr11,hh⟩:=ah hh
    try simp only[dZ,seval,hr1,Zj1,i7,hr8,hr9,hr10,hr11]
    refine bf (by kernel_rfl) ?_
    cases hh
    try simp only[dZ,seval,hr1,Zj1,i7,hr8,hr9,hr10,hr11]
   ·obtain⟨r12,hr12,hh⟩:=ah hh
    try simp only[dZ,seval,hr1,Zj1,hr12]
    refine sp aq hh (fun _ hh =>?_) (fun _ hh =>?_)
    ·obtain⟨r14,hr14,hh⟩:=ah hh
     obtain⟨r15,hr15,hh⟩:=ah hh
     obtain⟨r16,hr16,hh⟩:=ah hh
     try simp only[dZ,seval,hr1,Zj1,hr12,hr14,hr15,hr16]
     refine bf (by kernel_rfl) ?_
     cases hh
     try simp only[dZ,seval,hr1,Zj1,hr12,hr14,hr15,hr16]
    ·obtain⟨r17,hr17,hh⟩:=ah hh
     obtain⟨r18,hr18,hh⟩:=ah hh
     obtain⟨r19,hr19,hh⟩:=ah hh
     try simp only[dZ,seval,hr1,Zj1,hr12,hr17,hr18,hr19]
     refine bf (by kernel_rfl) ?_
     cases hh
     try simp only[dZ,seval,hr1,Zj1,hr12,hr17,hr18,hr19]
 ·clear hh
  have hh:=ho2
  try simp only[dZ,seval,hr1]
  refine sp bd hh (fun _ hh =>?_) (fun _ hh =>?_)
  ·cases hh
   try simp only[dZ,seval,hr1]
   rw[au]
   refine⟨_,rfl,?_⟩
   refine⟨0,0,0,?_,?_,?_,?_,?_,?_,?_⟩
   all_goals first|rfl|(simp only[dZ,seval,hr1]<;>rfl)
  ·obtain⟨r21,hr21,hh⟩:=ah hh
   cases hh
   try simp only[dZ,seval,hr1,hr21]
   rw[au]
   refine⟨_,rfl,?_⟩
   refine⟨0,0,0,?_,?_,?_,?_,?_,?_,?_⟩
   all_goals first|rfl|(simp only[dZ,seval,hr1,hr21]<;>rfl)
theorem O3:bY Try.prog 47 xR:=bY.of (mode := .clean) tok Oi mixed Try.func47 (by kernel_rfl) ⟨by kernel_rfl,by kernel_rfl⟩ (fun _=>ad4 (by kernel_rfl)) (fun x r h=>S0 x.1 x.2 r h)
noncomputable def xS:=gf (iQ (cW eM) (fP (cW eM))) (fun x:an×an=>mh x.1 x.2) (fun r:an×an×Int =>.clean (.tup [.agg [.int .i64 r.1.ag,.sl false false r.1.aa.length (ae (eI .i64) r.1.aa)],.agg [.int .i64 r.2.1.ag,.sl false false r.2.1.aa.length (ae (eI .i64) r.2.1.aa)],.int .i64 r.2.2]))
theorem Gs (p0_0:Int) (p0_1:(List Int)) (p1_0:Int) (p1_1:(List Int)):xS none [.agg [.int .i64 p0_0,.sl false false p0_1.length (ae (eI .i64) p0_1)],.agg [.int .i64 p1_0,.sl false false p1_1.length (ae (eI .i64) p1_1)]]=(mh (an.mk p0_0 p0_1) (an.mk p1_0 p1_1)).map fun r:an×an×Int=>(.clean (.tup [.agg [.int .i64 r.1.ag,.sl false false r.1.aa.length (ae (eI .i64) r.1.aa)],.agg [.int .i64 r.2.1.ag,.sl false false r.2.1.aa.length (ae (eI .i64) r.2.1.aa)],.int .i64 r.2.2]),none):=aW _ _ _ ((an.mk p0_0 p0_1),(an.mk p1_0 p1_1))
noncomputable def ue:Env:=(Am.ext (Am.ext (Am.ext (Am.ext (Am.ext a6 50 false eC) 76 false fT) 77 false tM) 79 false tP) 83 false tN)
theorem Oj:bD Try.prog ue:=(((((bD.none.add fe false).add iz false).add CG false).add CJ false).add CH false)
theorem cC:type_of% (ai @w<|ai @cd<|ai @dt<|ai @pS<|ai @uF<|ai @uE<|@ue.eq_1):=⟨@w,@cd,@dt,@pS,@uF,@uE,@ue.eq_1⟩
theorem S1 (p0:an) (p1:an) (r:an×an×Int) (hh:mh p0 p1=some r):a8 .clean tab ue FU Try.f81 none [.agg [.int .i64 p0.ag,.sl false false p0.aa.length (ae (eI .i64) p0.aa)],.agg [.int .i64 p1.ag,.sl false false p1.aa.length (ae (eI .i64) p1.aa)]]=some (.clean (.tup [.agg [.int .i64 r.1.ag,.sl false false r.1.aa.length (ae (eI .i64) r.1.aa)],.agg [.int .i64 r.2.1.ag,.sl false false r.2.1.aa.length (ae (eI .i64) r.2.1.aa)],.int .i64 r.2.2]),none):=by
 refine aC rfl Try.ntmps81 Try.results81 ?_
 unfold mh at hh
 obtain⟨r1,hr1,hh⟩:=ah hh
 try simp only[cC,seval,hr1]
 obtain⟨o2,ho2,hh⟩:=ah hh
 refine bJ 0 (fun s t H e=>match s with|s9j1=>∃v2j1:Nat,∃v3j1:Nat,∃v4j1:Nat,∃v5j1:Nat,t 2=.ptr 2 v2j1 0∧t 3=.ptr 3 v3j1 0∧t 4=.ptr 4 v4j1 0∧t 5=.ptr 5 v5j1 0∧t 9=.bool s9j1∧H 2=some ⟨v2j1,39,[.int .i64 p0.ag,.sl false false p0.aa.length (ae (eI .i64) p0.aa)],false,false,false⟩∧H 3=some ⟨v3j1,39,[.int .i64 p1.ag,.sl false false p1.aa.length (ae (eI .i64) p1.aa)],false,false,false⟩∧H 4=some ⟨v4j1,39,[.int .i64 0,.sl true true 0 []],false,false,false⟩∧H 5=some ⟨v5j1,39,[.int .i64 0,.sl true true 0 []],false,false,false⟩) (fun s=>s=o2) ?_ ?_
 ·rintro s9j1 t H e ⟨v2j1,v3j1,v4j1,v5j1,Zj1⟩ rfl
  try dsimp only at hh
  try simp only[cC,seval,hr1,Zj1]
  refine sp aq hh (fun _ hh =>?_) (fun _ hh =>?_)
  ·cases hh
   try simp only[cC,seval,hr1,Zj1]
  ·try simp only[cC,seval,hr1,Zj1]
   refine sp aq hh (fun _ hh =>?_) (fun _ hh =>?_)
   ·cases hh
    try simp only[cC,seval,hr1,Zj1]
   ·obtain⟨r5,hr5,hh⟩:=ah hh
    try simp only[cC,seval,hr1,Zj1,hr5]
    obtain⟨o6,ho6,hh⟩:=ah hh
    refine bJ 0 (fun s t H e=>match s with|s44j2=>∃v2j2:Nat,∃v3j2:Nat,∃v4j2:Nat,∃v5j2:Nat,t 2=.ptr 2 v2j2 0∧t 3=.ptr 3 v3j2 0∧t 4=.ptr 4 v4j2 0∧t 5=.ptr 5 v5j2 0∧t 7=.sl false false r5.1.length (ae (eI .i64) r5.1)∧t 8=.sl false false r5.2.length (ae (eI .i64) r5.2)∧t 44=.bool s44j2∧H 2=some ⟨v2j2,39,[.int .i64 p0.ag,.sl false false p0.aa.length (ae (eI .i64) p0.aa)],false,false,false⟩∧H 3=some ⟨v3j2,39,[.int .i64 p1.ag,.sl false false p1.aa.length (ae (eI .i64) p1.aa)],false,false,false⟩∧H 4=some ⟨v4j2,39,[.int .i64 0,.sl true true 0 []],false,false,false⟩∧H 5=some ⟨v5j2,39,[.int .i64 0,.sl true true 0 []],false,false,false⟩) (fun s=>s=o6) ?_ ?_
    ·rintro s44j2 t H e ⟨v2j2,v3j2,v4j2,v5j2,Zj2⟩ rfl
     try dsimp only at hh
     try simp only[cC,seval,hr1,hr5,Zj2]
     refine sp aq hh (fun _ hh =>?_) (fun _ hh =>?_)
     ·have i8:=pS r5.1 ([1])
      simp only[aJ,bB,List.length_cons,List.length_nil,ada,Nat.reduceAdd,aem]at i8
      obtain⟨r9,hr9,hh⟩:=ah hh
      obtain⟨r10,hr10,hh⟩:=ah hh
      obtain⟨r11,hr11,hh⟩:=ah hh
      obtain⟨r12,hr12,hh⟩:=ah hh
      try simp only[cC,seval,hr1,hr5,Zj2,i8,hr9,hr10,hr11,hr12]
      refine bf (by kernel_rfl) ?_
      cases hh
      try simp only[cC,seval,hr1,hr5,Zj2,i8,hr9,hr10,hr11,hr12]
     ·obtain⟨r13,hr13,hh⟩:=ah hh
      obtain⟨r14,hr14,hh⟩:=ah hh
      try simp only[cC,seval,hr1,hr5,Zj2,hr13,hr14]
      refine bf (by kernel_rfl) ?_
      cases hh
      try simp only[cC,seval,hr1,hr5,Zj2,hr13,hr14]
    ·clear hh
     have hh:=ho6
     try simp only[cC,seval,hr1,Zj1,hr5]
     refine sp dW hh (fun _ hh =>?_) (fun _ hh =>?_)
     ·cases hh
      try simp only[cC,seval,hr1,Zj1,hr5]
      rw[au]
      refine⟨_,rfl,?_⟩
      refine⟨v2j1,v3j1,v4j1,v5j1,?_,?_,?_,?_,?_,?_,?_,?_,?_,?_,?_⟩
      all_goals first|rfl|(simp only[cC,seval,hr1,Zj1,hr5]<;>rfl)
     ·cases hh
      try simp only[cC,seval,hr1,Zj1,hr5]
      rw[au]
      refine⟨_,rfl,?_⟩
      refine⟨v2j1,v3j1,v4j1,v5j1,?_,?_,?_,?_,?_,?_,?_,?_,?_,?_,?_⟩
      all_goals first|rfl|(simp only[cC,seval,hr1,Zj1,hr5]<;>rfl)
 ·clear hh
  have hh:=ho2
  try simp only[cC,seval,hr1]
  refine sp bd hh (fun _ hh =>?_) (fun _ hh =>?_)
  ·cases hh
   try simp only[cC,seval,hr1]
   rw[au]
   refine⟨_,rfl,?_⟩
   refine⟨0,0,0,0,?_,?_,?_,?_,?_,?_,?_,?_,?_⟩
   all_goals first|rfl|(simp only[cC,seval,hr1]<;>rfl)
  ·obtain⟨r17,hr17,hh⟩:=ah hh
   cases hh
   try simp only[cC,seval,hr1,hr17]
   rw[au]
   refine⟨_,rfl,?_⟩
   refine⟨0,0,0,0,?_,?_,?_,?_,?_,?_,?_,?_,?_⟩
   all_goals first|rfl|(simp only[cC,seval,hr1,hr17]<;>rfl)
theorem O4:bY Try.prog 81 xS:=bY.of (mode := .clean) tok Oj mixed Try.func81 (by kernel_rfl) ⟨by kernel_rfl,by kernel_rfl⟩ (fun _=>ad4 (by kernel_rfl)) (fun x r h=>S1 x.1 x.2 r h)
noncomputable def nP:=gf (iQ (cW eM) (fP (cW eM))) (fun x:an×an=>lq x.1 x.2) (fun r:al×Int =>.clean (.tup [.agg [.int .i64 r.1.aH.ag,.sl false false r.1.aH.aa.length (ae (eI .i64) r.1.aH.aa),.int .i64 r.1.aK.ag,.sl false false r.1.aK.aa.length (ae (eI .i64) r.1.aK.aa)],.int .i64 r.2]))
theorem l9 (p0_0:Int) (p0_1:(List Int)) (p1_0:Int) (p1_1:(List Int)):nP none [.agg [.int .i64 p0_0,.sl false false p0_1.length (ae (eI .i64) p0_1)],.agg [.int .i64 p1_0,.sl false false p1_1.length (ae (eI .i64) p1_1)]]=(lq (an.mk p0_0 p0_1) (an.mk p1_0 p1_1)).map fun r:al×Int=>(.clean (.tup [.agg [.int .i64 r.1.aH.ag,.sl false false r.1.aH.aa.length (ae (eI .i64) r.1.aH.aa),.int .i64 r.1.aK.ag,.sl false false r.1.aK.aa.length (ae (eI .i64) r.1.aK.aa)],.int .i64 r.2]),none):=aW _ _ _ ((an.mk p0_0 p0_1),(an.mk p1_0 p1_1))
noncomputable def qK:Env:=(Am.ext (Am.ext (Am.ext (Am.ext a6 50 false eC) 51 false tK) 64 false tL) 81 false xS)
theorem KD:bD Try.prog qK:=((((bD.none.add fe false).add CE false).add CF false).add O4 false)
theorem cH:type_of% (ai @w<|ai @cd<|ai @uC<|ai @uD<|ai @Gs<|@qK.eq_1):=⟨@w,@cd,@uC,@uD,@Gs,@qK.eq_1⟩
theorem OM (p0:an) (p1:an) (r:al×Int) (hh:lq p0 p1=some r):a8 .clean tab qK FU Try.f49 none [.agg [.int .i64 p0.ag,.sl false false p0.aa.length (ae (eI .i64) p0.aa)],.agg [.int .i64 p1.ag,.sl false false p1.aa.length (ae (eI .i64) p1.aa)]]=some (.clean (.tup [.agg [.int .i64 r.1.aH.ag,.sl false false r.1.aH.aa.length (ae (eI .i64) r.1.aH.aa),.int .i64 r.1.aK.ag,.sl false false r.1.aK.aa.length (ae (eI .i64) r.1.aK.aa)],.int .i64 r.2]),none):=by
 refine aC rfl Try.ntmps49 Try.results49 ?_
 unfold lq at hh
 obtain⟨r1,hr1,hh⟩:=ah hh
 try simp only[cH,seval,hr1]
 obtain⟨o2,ho2,hh⟩:=ah hh
 refine bJ 0 (fun s t H e=>match s with|s14j1=>∃v2j1:Nat,∃v3j1:Nat,∃v4j1:Nat,t 2=.ptr 2 v2j1 0∧t 3=.ptr 3 v3j1 0∧t 4=.ptr 4 v4j1 0∧t 14=.bool s14j1∧H 2=some ⟨v2j1,39,[.int .i64 p0.ag,.sl false false p0.aa.length (ae (eI .i64) p0.aa)],false,false,false⟩∧H 3=some ⟨v3j1,39,[.int .i64 p1.ag,.sl false false p1.aa.length (ae (eI .i64) p1.aa)],false,false,false⟩∧H 4=some ⟨v4j1,41,[.int .i64 0,.sl true true 0 [],.int .i64 0,.sl true true 0 []],false,false,false⟩) (fun s=>s=o2) ?_ ?_
 ·rintro s14j1 t H e ⟨v2j1,v3j1,v4j1,Zj1⟩ rfl
  try dsimp only at hh
  try simp only[cH,seval,hr1,Zj1]
  refine sp aq hh (fun _ hh =>?_) (fun _ hh =>?_)
  ·cases hh
   try simp only[cH,seval,hr1,Zj1]
  ·try simp only[cH,seval,hr1,Zj1]
   refine sp aq hh (fun _ hh =>?_) (fun _ hh =>?_)
   ·cases hh
    try simp only[cH,seval,hr1,Zj1]
   ·try simp only[cH,seval,hr1,Zj1]
    obtain⟨o5,ho5,hh⟩:=ah hh
    refine j4 0 (fun s t H e=>match s with|(r2_0j2,r2_1j2,r3_0j2,r3_1j2)=>∃v2j2:Nat,∃v3j2:Nat,∃v4j2:Nat,t 2=.ptr 2 v2j2 0∧t 3=.ptr 3 v3j2 0∧t 4=.ptr 4 v4j2 0∧H 2=some ⟨v2j2,39,[.int .i64 r2_0j2,.sl false false r2_1j2.length (ae (eI .i64) r2_1j2)],false,false,false⟩∧H 3=some ⟨v3j2,39,[.int .i64 r3_0j2,.sl false false r3_1j2.length (ae (eI .i64) r3_1j2)],false,false,false⟩∧H 4=some ⟨v4j2,41,[.int .i64 0,.sl true true 0 [],.int .i64 0,.sl true true 0 []],false,false,false⟩) (fun s=>s=o5) ?_ ?_
    ·rintro⟨r2_0j2,r2_1j2,r3_0j2,r3_1j2⟩ t H e ⟨v2j2,v3j2,v4j2,Zj2⟩ rfl
     try dsimp only at hh
     obtain⟨r6,hr6,hh⟩:=ah hh
     obtain⟨r7,hr7,hh⟩:=ah hh
     obtain⟨r8,hr8,hh⟩:=ah hh
     cases hh
     try simp only[cH,seval,hr1,Zj2,hr6,hr7,hr8]
    ·clear hh
     have hh:=ho5
     try simp only[cH,seval,hr1,Zj1]
     refine sp aq hh (fun _ hh =>?_) (fun _ hh =>?_)
     ·obtain⟨r10,hr10,hh⟩:=ah hh
      obtain⟨r11,hr11,hh⟩:=ah hh
      try simp only[cH,seval,hr1,Zj1,hr10,hr11]
      refine bf (by kernel_rfl) ?_
      cases hh
      try simp only[cH,seval,hr1,Zj1,hr10,hr11]
      rw[au]
      refine⟨_,rfl,?_⟩
      refine⟨v2j1,v3j1,v4j1,?_,?_,?_,?_,?_,?_⟩
      all_goals first|rfl|(simp only[cH,seval,hr1,Zj1,hr10,hr11]<;>rfl)
     ·cases hh
      try simp only[cH,seval,hr1,Zj1]
      rw[au]
      refine⟨_,rfl,?_⟩
      refine⟨v2j1,v3j1,v4j1,?_,?_,?_,?_,?_,?_⟩
      all_goals first|rfl|(simp only[cH,seval,hr1,Zj1]<;>rfl)
 ·clear hh
  have hh:=ho2
  try simp only[cH,seval,hr1]
  refine sp bd hh (fun _ hh =>?_) (fun _ hh =>?_)
  ·cases hh
   try simp only[cH,seval,hr1]
   rw[au]
   refine⟨_,rfl,?_⟩
   refine⟨0,0,0,?_,?_,?_,?_,?_,?_,?_⟩
   all_goals first|rfl|(simp only[cH,seval,hr1]<;>rfl)
  ·obtain⟨r13,hr13,hh⟩:=ah hh
   cases hh
   try simp only[cH,seval,hr1,hr13]
   rw[au]
   refine⟨_,rfl,?_⟩
   refine⟨0,0,0,?_,?_,?_,?_,?_,?_,?_⟩
   all_goals first|rfl|(simp only[cH,seval,hr1,hr13]<;>rfl)
theorem tj:bY Try.prog 49 nP:=bY.of (mode := .clean) tok KD mixed Try.func49 (by kernel_rfl) ⟨by kernel_rfl,by kernel_rfl⟩ (fun _=>ad4 (by kernel_rfl)) (fun x r h=>OM x.1 x.2 r h)
noncomputable def nO:=gf (iQ (cW av) (fP (cW av))) (fun x:al×al=>jS x.1 x.2) (fun r:al×Int =>.clean (.tup [.agg [.int .i64 r.1.aH.ag,.sl false false r.1.aH.aa.length (ae (eI .i64) r.1.aH.aa),.int .i64 r.1.aK.ag,.sl false false r.1.aK.aa.length (ae (eI .i64) r.1.aK.aa)],.int .i64 r.2]))
theorem l8 (p0_0:Int) (p0_1:(List Int)) (p0_2:Int) (p0_3:(List Int)) (p1_0:Int) (p1_1:(List Int)) (p1_2:Int) (p1_3:(List Int)):nO none [.agg [.int .i64 p0_0,.sl false false p0_1.length (ae (eI .i64) p0_1),.int .i64 p0_2,.sl false false p0_3.length (ae (eI .i64) p0_3)],.agg [.int .i64 p1_0,.sl false false p1_1.length (ae (eI .i64) p1_1),.int .i64 p1_2,.sl false false p1_3.length (ae (eI .i64) p1_3)]]=(jS (al.mk (an.mk p0_0 p0_1) (an.mk p0_2 p0_3)) (al.mk (an.mk p1_0 p1_1) (an.mk p1_2 p1_3))).map fun r:al×Int=>(.clean (.tup [.agg [.int .i64 r.1.aH.ag,.sl false false r.1.aH.aa.length (ae (eI .i64) r.1.aH.aa),.int .i64 r.1.aK.ag,.sl false false r.1.aK.aa.length (ae (eI .i64) r.1.aK.aa)],.int .i64 r.2]),none):=aW _ _ _ ((al.mk (an.mk p0_0 p0_1) (an.mk p0_2 p0_3)),(al.mk (an.mk p1_0 p1_1) (an.mk p1_2 p1_3)))
noncomputable def qG:Env:=(Am.ext (Am.ext (Am.ext (Am.ext a6 22 false dP) 47 false xR) 48 false jo) 49 false nP)
theorem Kz:bD Try.prog qG:=((((bD.none.add ey false).add O3 false).add mu false).add tj false)
theorem fE:type_of% (ai @w<|ai @bR<|ai @Gr<|ai @gh<|ai @l9<|@qG.eq_1):=⟨@w,@bR,@Gr,@gh,@l9,@qG.eq_1⟩
theorem OI (p0:al) (p1:al) (r:al×Int) (hh:jS p0 p1=some r):a8 .clean tab qG FU Try.f18 none [.agg [.int .i64 p0.aH.ag,.sl false false p0.aH.aa.length (ae (eI .i64) p0.aH.aa),.int .i64 p0.aK.ag,.sl false false p0.aK.aa.length (ae (eI .i64) p0.aK.aa)],.agg [.int .i64 p1.aH.ag,.sl false false p1.aH.aa.length (ae (eI .i64) p1.aH.aa),.int .i64 p1.aK.ag,.sl false false p1.aK.aa.length (ae (eI .i64) p1.aK.aa)]]=some (.clean (.tup [.agg [.int .i64 r.1.aH.ag,.sl false false r.1.aH.aa.length (ae (eI .i64) r.1.aH.aa),.int .i64 r.1.aK.ag,.sl false false r.1.aK.aa.length (ae (eI .i64) r.1.aK.aa)],.int .i64 r.2]),none):=by
 refine aC rfl Try.ntmps18 Try.results18 ?_
 unfold jS at hh
 obtain⟨r1,hr1,hh⟩:=ah hh
 try simp only[fE,seval,hr1]
 obtain⟨o2,ho2,hh⟩:=ah hh
 refine bJ 0 (fun s t H e=>match s with|s15j1=>∃v2j1:Nat,∃v3j1:Nat,∃v4j1:Nat,t 2=.ptr 2 v2j1 0∧t 3=.ptr 3 v3j1 0∧t 4=.ptr 4 v4j1 0∧t 15=.bool s15j1∧H 2=some ⟨v2j1,41,[.int .i64 p0.aH.ag,.sl false false p0.aH.aa.length (ae (eI .i64) p0.aH.aa),.int .i64 p0.aK.ag,.sl false false p0.aK.aa.length (ae (eI .i64) p0.aK.aa)],false,false,false⟩∧H 3=some ⟨v3j1,41,[.int .i64 p1.aH.ag,.sl false false p1.aH.aa.length (ae (eI .i64) p1.aH.aa),.int .i64 p1.aK.ag,.sl false false p1.aK.aa.length (ae (eI .i64) p1.aK.aa)],false,false,false⟩∧H 4=some ⟨v4j1,41,[.int .i64 0,.sl true true 0 [],.int .i64 0,.sl true true 0 []],false,false,false⟩) (fun s=>s=o2) ?_ ?_
 ·rintro s15j1 t H e ⟨v2j1,v3j1,v4j1,Zj1⟩ rfl
  try dsimp only at hh
  try simp only[fE,seval,hr1,Zj1]
  refine sp aq hh (fun _ hh =>?_) (fun _ hh =>?_)
  ·cases hh
   try simp only[fE,seval,hr1,Zj1]
  ·obtain⟨r4,hr4,hh⟩:=ah hh
   obtain⟨r5,hr5,hh⟩:=ah hh
   obtain⟨r6,hr6,hh⟩:=ah hh
   try simp only[fE,seval,hr1,Zj1,hr4,hr5,hr6]
   refine bf (by kernel_rfl) ?_
   obtain⟨r7,hr7,hh⟩:=ah hh
   obtain⟨r8,hr8,hh⟩:=ah hh
   try simp only[fE,seval,hr1,Zj1,hr4,hr5,hr6,hr7,hr8]
   refine bf (by kernel_rfl) ?_
   cases hh
   try simp only[fE,seval,hr1,Zj1,hr4,hr5,hr6,hr7,hr8]
 ·clear hh
  have hh:=ho2
  try simp only[fE,seval,hr1]
  refine sp bd hh (fun _ hh =>?_) (fun _ hh =>?_)
  ·cases hh
   try simp only[fE,seval,hr1]
   rw[au]
   refine⟨_,rfl,?_⟩
   refine⟨0,0,0,?_,?_,?_,?_,?_,?_,?_⟩
   all_goals first|rfl|(simp only[fE,seval,hr1]<;>rfl)
  ·obtain⟨r10,hr10,hh⟩:=ah hh
   cases hh
   try simp only[fE,seval,hr1,hr10]
   rw[au]
   refine⟨_,rfl,?_⟩
   refine⟨0,0,0,?_,?_,?_,?_,?_,?_,?_⟩
   all_goals first|rfl|(simp only[fE,seval,hr1,hr10]<;>rfl)
theorem th:bY Try.prog 18 nO:=bY.of (mode := .clean) tok Kz mixed Try.func18 (by kernel_rfl) ⟨by kernel_rfl,by kernel_rfl⟩ (fun _=>ad4 (by kernel_rfl)) (fun x r h=>OI x.1 x.2 r h)
noncomputable def p7:=gf (iQ (cW av) (fP (cW av))) (fun x:al×al=>mH x.1 x.2) (fun r:al×Int =>.clean (.tup [.agg [.int .i64 r.1.aH.ag,.sl false false r.1.aH.aa.length (ae (eI .i64) r.1.aH.aa),.int .i64 r.1.aK.ag,.sl false false r.1.aK.aa.length (ae (eI .i64) r.1.aK.aa)],.int .i64 r.2]))
theorem rn (p0_0:Int) (p0_1:(List Int)) (p0_2:Int) (p0_3:(List Int)) (p1_0:Int) (p1_1:(List Int)) (p1_2:Int) (p1_3:(List Int)):p7 none [.agg [.int .i64 p0_0,.sl false false p0_1.length (ae (eI .i64) p0_1),.int .i64 p0_2,.sl false false p0_3.length (ae (eI .i64) p0_3)],.agg [.int .i64 p1_0,.sl false false p1_1.length (ae (eI .i64) p1_1),.int .i64 p1_2,.sl false false p1_3.length (ae (eI .i64) p1_3)]]=(mH (al.mk (an.mk p0_0 p0_1) (an.mk p0_2 p0_3)) (al.mk (an.mk p1_0 p1_1) (an.mk p1_2 p1_3))).map fun r:al×Int=>(.clean (.tup [.agg [.int .i64 r.1.aH.ag,.sl false false r.1.aH.aa.length (ae (eI .i64) r.1.aH.aa),.int .i64 r.1.aK.ag,.sl false false r.1.aK.aa.length (ae (eI .i64) r.1.aK.aa)],.int .i64 r.2]),none):=aW _ _ _ ((al.mk (an.mk p0_0 p0_1) (an.mk p0_2 p0_3)),(al.mk (an.mk p1_0 p1_1) (an.mk p1_2 p1_3)))
noncomputable def qL:Env:=(Am.ext (Am.ext (Am.ext a6 18 false nO) 22 false dP) 64 false tL)
theorem KE:bD Try.prog qL:=(((bD.none.add th false).add ey false).add CF false)
theorem gu:type_of% (ai @w<|ai @l8<|ai @bR<|ai @uD<|@qL.eq_1):=⟨@w,@l8,@bR,@uD,@qL.eq_1⟩
theorem ON (p0:al) (p1:al) (r:al×Int) (hh:mH p0 p1=some r):a8 .clean tab qL FU Try.f30 none [.agg [.int .i64 p0.aH.ag,.sl false false p0.aH.aa.length (ae (eI .i64) p0.aH.aa),.int .i64 p0.aK.ag,.sl false false p0.aK.aa.length (ae (eI .i64) p0.aK.aa)],.agg [.int .i64 p1.aH.ag,.sl false false p1.aH.aa.length (ae (eI .i64) p1.aH.aa),.int .i64 p1.aK.ag,.sl false false p1.aK.aa.length (ae (eI .i64) p1.aK.aa)]]=some (.clean (.tup [.agg [.int .i64 r.1.aH.ag,.sl false false r.1.aH.aa.length (ae (eI .i64) r.1.aH.aa),.int .i64 r.1.aK.ag,.sl false false r.1.aK.aa.length (ae (eI .i64) r.1.aK.aa)],.int .i64 r.2]),none):=by
 refine aC rfl Try.ntmps30 Try.results30 ?_
 unfold mH at hh
 obtain⟨r1,hr1,hh⟩:=ah hh
 try simp only[gu,seval,hr1]
 obtain⟨o2,ho2,hh⟩:=ah hh
 refine bJ 0 (fun s t H e=>match s with|s13j1=>∃v2j1:Nat,∃v3j1:Nat,∃v4j1:Nat,t 2=.ptr 2 v2j1 0∧t 3=.ptr 3 v3j1 0∧t 4=.ptr 4 v4j1 0∧t 13=.bool s13j1∧H 2=some ⟨v2j1,41,[.int .i64 p0.aH.ag,.sl false false p0.aH.aa.length (ae (eI .i64) p0.aH.aa),.int .i64 p0.aK.ag,.sl false false p0.aK.aa.length (ae (eI .i64) p0.aK.aa)],false,false,false⟩∧H 3=some ⟨v3j1,41,[.int .i64 p1.aH.ag,.sl false false p1.aH.aa.length (ae (eI .i64) p1.aH.aa),.int .i64 p1.aK.ag,.sl false false p1.aK.aa.length (ae (eI .i64) p1.aK.aa)],false,false,false⟩∧H 4=some ⟨v4j1,41,[.int .i64 0,.sl true true 0 [],.int .i64 0,.sl true true 0 []],false,false,false⟩) (fun s=>s=o2) ?_ ?_
 ·rintro s13j1 t H e ⟨v2j1,v3j1,v4j1,Zj1⟩ rfl
  try dsimp only at hh
  try simp only[gu,seval,hr1,Zj1]
  refine sp aq hh (fun _ hh =>?_) (fun _ hh =>?_)
  ·cases hh
   try simp only[gu,seval,hr1,Zj1]
  ·obtain⟨r4,hr4,hh⟩:=ah hh
   obtain⟨r5,hr5,hh⟩:=ah hh
   try simp only[gu,seval,hr1,Zj1,hr4,hr5]
   refine bf (by kernel_rfl) ?_
   cases hh
   try simp only[gu,seval,hr1,Zj1,hr4,hr5]
 ·clear hh
  have hh:=ho2
  try simp only[gu,seval,hr1]
  refine sp bd hh (fun _ hh =>?_) (fun _ hh =>?_)
  ·cases hh
   try simp only[gu,seval,hr1]
   rw[au]
   refine⟨_,rfl,?_⟩
   refine⟨0,0,0,?_,?_,?_,?_,?_,?_,?_⟩
   all_goals first|rfl|(simp only[gu,seval,hr1]<;>rfl)
  ·obtain⟨r7,hr7,hh⟩:=ah hh
   cases hh
   try simp only[gu,seval,hr1,hr7]
   rw[au]
   refine⟨_,rfl,?_⟩
   refine⟨0,0,0,?_,?_,?_,?_,?_,?_,?_⟩
   all_goals first|rfl|(simp only[gu,seval,hr1,hr7]<;>rfl)
theorem zy:bY Try.prog 30 p7:=bY.of (mode := .clean) tok KE mixed Try.func30 (by kernel_rfl) ⟨by kernel_rfl,by kernel_rfl⟩ (fun _=>ad4 (by kernel_rfl)) (fun x r h=>ON x.1 x.2 r h)
noncomputable def oG:=gf (fP (cW m5)) (fun x:bW=>kK x) (fun r:(List al) =>.clean (.sl false false r.length (ae av r)))
theorem pb (p0_0:Int) (p0_1:(List di)):oG none [.agg [.int .i64 p0_0,.sl false false p0_1.length (ae a7 p0_1)]]=(kK (bW.mk p0_0 p0_1)).map fun r:(List al)=>(.clean (.sl false false r.length (ae av r)),none):=aW _ _ _ ((bW.mk p0_0 p0_1))
noncomputable def oU:Env:=(Am.ext (Am.ext a6 30 false p7) 44 false kh)
theorem HS:bD Try.prog oU:=((bD.none.add zy false).add mP false)
theorem cF:type_of% (ai @w<|ai @rn<|ai @gq<|@oU.eq_1):=⟨@w,@rn,@gq,@oU.eq_1⟩
theorem LU (p0:bW) (r:(List al)) (hh:kK p0=some r):a8 .clean tab oU FU Try.f37 none [.agg [.int .i64 p0.aF,.sl false false p0.ax.length (ae a7 p0.ax)]]=some (.clean (.sl false false r.length (ae av r)),none):=by
 refine aC rfl Try.ntmps37 Try.results37 ?_
 unfold kK at hh
 obtain⟨x1,hx1,hh⟩:=ah hh
 obtain⟨q2a,q2b,q2c,q2d,q2e⟩:=mk_one av hx1
 simp only[bB]at q2d
 try simp only[cF,seval,q2a,q2b,q2c,q2d,q2e]
 obtain⟨o7,ho7,hh⟩:=ah hh
 refine aB (fun s t H e=>match s with|(s12a,l3a)=>∃v1a:Nat,∃v3a:Nat,t 1=.ptr 1 v1a 0∧t 3=.buf 3 v3a 4 0 (l3a).length∧t 11=.int .i64 ((x1).length:Int)∧t 12=.int .i64 s12a∧H 1=some ⟨v1a,24,[.int .i64 p0.aF,.sl false false p0.ax.length (ae a7 p0.ax)],false,false,false⟩∧H 3=some ⟨v3a,41,ae av l3a,false,true,false⟩) (fun o x t H e=>match o with|l3ax=>x=.exit 0∧∃v1ax:Nat,∃v3ax:Nat,t 1=.ptr 1 v1ax 0∧t 3=.buf 3 v3ax 4 0 (l3ax).length∧H 1=some ⟨v1ax,24,[.int .i64 p0.aF,.sl false false p0.ax.length (ae a7 p0.ax)],false,false,false⟩∧H 3=some ⟨v3ax,41,ae av l3ax,false,true,false⟩) ho7 ?_ ?_ ?_
 ·refine⟨0,1,?_,?_,?_,?_,?_,?_⟩
  all_goals first|rfl|(simp only[cF,seval,q2a,q2b,q2c,q2d,q2e]<;>rfl)
 ·rintro⟨s12a,l3a⟩ t H e ⟨v1a,v3a,Za⟩ c hh
  simp only[lz]at hh
  try simp only[cF,seval,q2a,q2b,q2c,q2d,q2e,Za]
  refine sp aq hh (fun _ hh =>?_) (fun _ hh =>?_)
  ·obtain⟨r9,hr9,hh⟩:=ah hh
   obtain⟨x10,hx10,hh⟩:=ah hh
   have ax10:=bG av hx10
   simp only[bB]at ax10
   have p11:=eO av (x':=r9) (fo:=0) (cs:=[.int .i64 r9.aH.ag,.sl false false r9.aH.aa.length (ae (eI .i64) r9.aH.aa),.int .i64 r9.aK.ag,.sl false false r9.aK.aa.length (ae (eI .i64) r9.aK.aa)]) hx10 rfl (ad4 rfl)
   simp only[bB,Nat.add_zero]at p11
   have up11:=p11
   simp only[putCells,List.length_cons,List.length_nil,ada,Nat.reduceAdd]at up11
   cases hh
   try simp only[cF,seval,q2a,q2b,q2c,q2d,q2e,Za,hr9,ax10,p11,up11]
   refine jN ?_
   refine⟨v1a,v3a,?_,?_,?_,?_,?_,?_⟩
   all_goals first|rfl|(simp only[cF,seval,q2a,q2b,q2c,q2d,q2e,Za,hr9,ax10,p11,up11]<;>rfl)
  ·cases hh
   try simp only[cF,seval,q2a,q2b,q2c,q2d,q2e,Za]
   refine kW ?_
   refine⟨rfl,⟨v1a,v3a,?_,?_,?_,?_⟩⟩
   all_goals first|rfl|(simp only[cF,seval,q2a,q2b,q2c,q2d,q2e,Za]<;>rfl)
 ·rintro x t H e hx
  obtain⟨l3ax,rfl⟩:∃z,z=o7:=⟨_,rfl⟩
  dsimp only at hx hh
  obtain⟨rfl,⟨v1ax,v3ax,Zax⟩⟩:=hx
  try simp only[cF,seval,q2a,q2b,q2c,q2d,q2e,Zax]
  obtain⟨o17,ho17,hh⟩:=ah hh
  refine aB (fun s t H e=>match s with|(s23b,l3b)=>∃v3b:Nat,t 3=.buf 3 v3b 4 0 (l3b).length∧t 21=.sl false false p0.ax.length (ae a7 p0.ax)∧t 22=.int .i64 (p0.ax.length:Int)∧t 23=.int .i64 s23b∧H 3=some ⟨v3b,41,ae av l3b,false,true,false⟩) (fun o x t H e=>match o with|l3bx=>x=.exit 2∧∃v3bx:Nat,t 3=.buf 3 v3bx 4 0 (l3bx).length∧H 3=some ⟨v3bx,41,ae av l3bx,false,true,false⟩) ho17 ?_ ?_ ?_
  ·refine⟨v3ax,?_,?_,?_,?_,?_⟩
   all_goals first|rfl|(simp only[cF,seval,q2a,q2b,q2c,q2d,q2e,Zax]<;>rfl)
  ·rintro⟨s23b,l3b⟩ t H e ⟨v3b,Zb⟩ c hh
   simp only[lA]at hh
   try simp only[cF,seval,q2a,q2b,q2c,q2d,q2e,Zb]
   refine sp aq hh (fun _ hh =>?_) (fun _ hh =>?_)
   ·obtain⟨x19,hx19,hh⟩:=ah hh
    have ax19:=bG a7 hx19
    simp only[bB]at ax19
    obtain⟨x20,hx20,hh⟩:=ah hh
    have ax20:=bG av hx20
    simp only[bB]at ax20
    obtain⟨r21,hr21,hh⟩:=ah hh
    have ax20:=bG av hx20
    simp only[bB]at ax20
    have p22:=eO av (x':=r21.1) (fo:=0) (cs:=[.int .i64 r21.1.aH.ag,.sl false false r21.1.aH.aa.length (ae (eI .i64) r21.1.aH.aa),.int .i64 r21.1.aK.ag,.sl false false r21.1.aK.aa.length (ae (eI .i64) r21.1.aK.aa)]) hx20 rfl (ad4 rfl)
    simp only[bB,Nat.add_zero]at p22
    have up22:=p22
    simp only[putCells,List.length_cons,List.length_nil,ada,Nat.reduceAdd]at up22
    try simp only[cF,seval,q2a,q2b,q2c,q2d,q2e,Zb,ax19,ax20,hr21,ax20,p22,up22]
    refine bf (by kernel_rfl) ?_
    cases hh
    try simp only[cF,seval,q2a,q2b,q2c,q2d,q2e,Zb,ax19,ax20,hr21,ax20,p22,up22]
    refine jN ?_
    refine⟨v3b,?_,?_,?_,?_,?_⟩
    all_goals first|rfl|(simp only[cF,seval,q2a,q2b,q2c,q2d,q2e,Zb,ax19,ax20,hr21,ax20,p22,up22]<;>rfl)
   ·cases hh
    try simp only[cF,seval,q2a,q2b,q2c,q2d,q2e,Zb]
    refine kW ?_
    refine⟨rfl,⟨v3b,?_,?_⟩⟩
    all_goals first|rfl|(simp only[cF,seval,q2a,q2b,q2c,q2d,q2e,Zb]<;>rfl)
  ·rintro x t H e hx
   obtain⟨l3bx,rfl⟩:∃z,z=o17:=⟨_,rfl⟩
   dsimp only at hx hh
   obtain⟨rfl,⟨v3bx,Zbx⟩⟩:=hx
   cases hh
   try simp only[cF,seval,q2a,q2b,q2c,q2d,q2e,Zbx]
theorem xl:bY Try.prog 37 oG:=bY.of (mode := .clean) tok HS mixed Try.func37 (by kernel_rfl) ⟨by kernel_rfl,by kernel_rfl⟩ (fun _=>ad4 (by kernel_rfl)) (fun x r h=>LU x r h)
noncomputable def pt:=gf (fP (cW av)) (fun x:al=>kJ x) (fun r:Bool =>.clean (.bool r))
theorem vr (p0_0:Int) (p0_1:(List Int)) (p0_2:Int) (p0_3:(List Int)):pt none [.agg [.int .i64 p0_0,.sl false false p0_1.length (ae (eI .i64) p0_1),.int .i64 p0_2,.sl false false p0_3.length (ae (eI .i64) p0_3)]]=(kJ (al.mk (an.mk p0_0 p0_1) (an.mk p0_2 p0_3))).map fun r:Bool=>(.clean (.bool r),none):=aW _ _ _ ((al.mk (an.mk p0_0 p0_1) (an.mk p0_2 p0_3)))
noncomputable def mo:Env:=(Am.ext a6 20 false kz)
theorem B5:bD Try.prog mo:=(bD.none.add nA false)
theorem Ed:type_of% (ai @w<|ai @gT<|@mo.eq_1):=⟨@w,@gT,@mo.eq_1⟩
theorem DW (p0:al) (r:Bool) (hh:kJ p0=some r):a8 .clean tab mo FU Try.f38 none [.agg [.int .i64 p0.aH.ag,.sl false false p0.aH.aa.length (ae (eI .i64) p0.aH.aa),.int .i64 p0.aK.ag,.sl false false p0.aK.aa.length (ae (eI .i64) p0.aK.aa)]]=some (.clean (.bool r),none):=by
 refine aC rfl Try.ntmps38 Try.results38 ?_
 unfold kJ at hh
 obtain⟨r1,hr1,hh⟩:=ah hh
 cases hh
 try simp only[Ed,seval,hr1]
theorem CL:bY Try.prog 38 pt:=bY.of (mode := .clean) tok B5 mixed Try.func38 (by kernel_rfl) ⟨by kernel_rfl,by kernel_rfl⟩ (fun _=>ad4 (by kernel_rfl)) (fun x r h=>DW x r h)
noncomputable def eo:=gf (iQ (mB av) (fP (Z0 38))) (fun x:(List al)×Unit=>bX x.1) (fun r:Int =>.clean (.int .i64 r))
theorem gL (p0:(List al)):eo none [.sl false false p0.length (ae av p0),.fn 38]=(bX p0).map fun r:Int=>(.clean (.int .i64 r),none):=aW _ _ _ (p0,())
noncomputable def da:Env:=(Am.ext a6 38 false pt)
theorem lO:bD Try.prog da:=(bD.none.add CL false)
theorem aY:type_of% (ai @w<|ai @vr<|@da.eq_1):=⟨@w,@vr,@da.eq_1⟩
theorem l6 (p0:(List al)) (r:Int) (hh:bX p0=some r):a8 .clean tab da FU Try.f67 none [.sl false false p0.length (ae av p0),.fn 38]=some (.clean (.int .i64 r),none):=by
 refine aC rfl Try.ntmps67 Try.results67 ?_
 unfold bX at hh
 try simp only[aY,seval]
 obtain⟨o5,ho5,hh⟩:=ah hh
 refine aB (fun s t H e=>match s with|s8a=>t 0=.sl false false p0.length (ae av p0)∧t 1=.fn 38∧t 7=.int .i64 (p0.length:Int)∧t 8=.int .i64 s8a) (fun o x t H e=>match o with|(.inl _)=>x=.exit 0|(.inr r)=>x=.ret∧jv .clean tab none [.tmp 4] ⟨t,EH H,e⟩=some (.clean (.int .i64 r),none)) ho5 ?_ ?_ ?_
 ·refine⟨?_,?_,?_,?_⟩
  all_goals first|rfl|(simp only[aY,seval]<;>rfl)
 ·rintro s8a t H e Za c hh
  simp only[cS]at hh
  try simp only[aY,seval,Za]
  refine sp aq hh (fun _ hh =>?_) (fun _ hh =>?_)
  ·obtain⟨x7,hx7,hh⟩:=ah hh
   have ax7:=bG av hx7
   simp only[bB]at ax7
   obtain⟨r8,hr8,hh⟩:=ah hh
   try simp only[aY,seval,Za,ax7,hr8]
   refine sp aq hh (fun _ hh =>?_) (fun _ hh =>?_)
   ·cases hh
    try simp only[aY,seval,Za,ax7,hr8]
    refine DR ⟨rfl,?_⟩
    try simp only[aY,seval,Za,ax7,hr8]
   ·cases hh
    try simp only[aY,seval,Za,ax7,hr8]
    refine jN ?_
    refine⟨?_,?_,?_,?_⟩
    all_goals first|rfl|(simp only[aY,seval,Za,ax7,hr8]<;>rfl)
  ·cases hh
   try simp only[aY,seval,Za]
   refine kW ?_
   exact rfl
 ·rintro x t H e hx
  rcases o5 with _|ra
  ·dsimp only at hx hh
   subst hx
   cases hh
   try simp only[aY,seval]
  ·dsimp only at hx hh
   obtain⟨rfl,hE⟩:=hx
   cases hh
   try simp only[bO,bI,b6,eJ,eF,dE,dF]
   exact hE
theorem lP:bY Try.prog 67 eo:=bY.of (mode := .clean) tok lO mixed Try.func67 (by kernel_rfl) ⟨by kernel_rfl,by kernel_rfl⟩ (fun _=>ad4 (by kernel_rfl)) (fun x r h=>l6 x.1 r h)
noncomputable def dL:=gf (iQ (mB av) (fP (Z0 38))) (fun x:(List al)×Unit=>bs x.1) (fun r:Bool =>.clean (.bool r))
theorem fK (p0:(List al)):dL none [.sl false false p0.length (ae av p0),.fn 38]=(bs p0).map fun r:Bool=>(.clean (.bool r),none):=aW _ _ _ (p0,())
noncomputable def cz:Env:=(Am.ext a6 67 false eo)
theorem ko:bD Try.prog cz:=(bD.none.add lP false)
theorem kV:type_of% (ai @w<|ai @gL<|@cz.eq_1):=⟨@w,@gL,@cz.eq_1⟩
theorem kU (p0:(List al)) (r:Bool) (hh:bs p0=some r):a8 .clean tab cz FU Try.f36 none [.sl false false p0.length (ae av p0),.fn 38]=some (.clean (.bool r),none):=by
 refine aC rfl Try.ntmps36 Try.results36 ?_
 unfold bs at hh
 obtain⟨r1,hr1,hh⟩:=ah hh
 cases hh
 try simp only[kV,seval,hr1]
theorem kr:bY Try.prog 36 dL:=bY.of (mode := .clean) tok ko mixed Try.func36 (by kernel_rfl) ⟨by kernel_rfl,by kernel_rfl⟩ (fun _=>ad4 (by kernel_rfl)) (fun x r h=>kU x.1 r h)
noncomputable def mA:=gf (fP (cW m5)) (fun x:bW=>jE x) (fun r:Bool =>.clean (.bool r))
theorem kM (p0_0:Int) (p0_1:(List di)):mA none [.agg [.int .i64 p0_0,.sl false false p0_1.length (ae a7 p0_1)]]=(jE (bW.mk p0_0 p0_1)).map fun r:Bool=>(.clean (.bool r),none):=aW _ _ _ ((bW.mk p0_0 p0_1))
noncomputable def oT:Env:=(Am.ext (Am.ext (Am.ext (Am.ext (Am.ext (Am.ext a6 20 false kz) 22 false dP) 34 false qd) 35 false p9) 36 false dL) 37 false oG)
theorem HR:bD Try.prog oT:=((((((bD.none.add nA false).add ey false).add D4 false).add D3 false).add kr false).add xl false)
theorem aL:type_of% (ai @w<|ai @gT<|ai @bR<|ai @xp<|ai @xo<|ai @fK<|ai @pb<|@oT.eq_1):=⟨@w,@gT,@bR,@xp,@xo,@fK,@pb,@oT.eq_1⟩
theorem LS (p0:bW) (r:Bool) (hh:jE p0=some r):a8 .clean tab oT FU Try.f11 none [.agg [.int .i64 p0.aF,.sl false false p0.ax.length (ae a7 p0.ax)]]=some (.clean (.bool r),none):=by
 refine aC rfl Try.ntmps11 Try.results11 ?_
 unfold jE at hh
 obtain⟨r1,hr1,hh⟩:=ah hh
 try simp only[aL,seval,hr1]
 obtain⟨o2,ho2,hh⟩:=ah hh
 refine bJ 0 (fun s t H e=>match s with|s14j1=>∃v1j1:Nat,t 1=.ptr 1 v1j1 0∧t 14=.bool s14j1∧H 1=some ⟨v1j1,24,[.int .i64 p0.aF,.sl false false p0.ax.length (ae a7 p0.ax)],false,false,false⟩) (fun s=>s=o2) ?_ ?_
 ·rintro s14j1 t H e ⟨v1j1,Zj1⟩ rfl
  try dsimp only at hh
  try simp only[aL,seval,hr1,Zj1]
  refine sp aq hh (fun _ hh =>?_) (fun _ hh =>?_)
  ·cases hh
   try simp only[aL,seval,hr1,Zj1]
  ·try simp only[aL,seval,hr1,Zj1]
   obtain⟨o19,ho19,hh⟩:=ah hh
   refine aB (fun s t H e=>match s with|s18b=>∃v1b:Nat,t 1=.ptr 1 v1b 0∧t 16=.sl false false p0.ax.length (ae a7 p0.ax)∧t 17=.int .i64 (p0.ax.length:Int)∧t 18=.int .i64 s18b∧H 1=some ⟨v1b,24,[.int .i64 p0.aF,.sl false false p0.ax.length (ae a7 p0.ax)],false,false,false⟩) (fun o x t H e=>match o with|(.inl _)=>x=.exit 0∧∃v1bx:Nat,t 1=.ptr 1 v1bx 0∧H 1=some ⟨v1bx,24,[.int .i64 p0.aF,.sl false false p0.ax.length (ae a7 p0.ax)],false,false,false⟩|(.inr r)=>x=.ret∧jv .clean tab none [.tmp 2] ⟨t,EH H,e⟩=some (.clean (.bool r),none)) ho19 ?_ ?_ ?_
   ·refine⟨v1j1,?_,?_,?_,?_,?_⟩
    all_goals first|rfl|(simp only[aL,seval,hr1,Zj1]<;>rfl)
   ·rintro s18b t H e ⟨v1b,Zb⟩ c hh
    simp only[ly]at hh
    try simp only[aL,seval,hr1,Zb]
    refine sp aq hh (fun _ hh =>?_) (fun _ hh =>?_)
    ·obtain⟨x21,hx21,hh⟩:=ah hh
     have ax21:=bG a7 hx21
     simp only[bB]at ax21
     obtain⟨r22,hr22,hh⟩:=ah hh
     try simp only[aL,seval,hr1,Zb,ax21,hr22]
     obtain⟨o23,ho23,hh⟩:=ah hh
     refine bJ 0 (fun s t H e=>match s with|s50j4=>∃v1j4:Nat,∃v4j4:Nat,t 1=.ptr 1 v1j4 0∧t 3=.int .i64 s18b∧t 4=.ptr 4 v4j4 0∧t 16=.sl false false p0.ax.length (ae a7 p0.ax)∧t 17=.int .i64 (p0.ax.length:Int)∧t 18=.int .i64 s18b∧t 50=.bool s50j4∧H 1=some ⟨v1j4,24,[.int .i64 p0.aF,.sl false false p0.ax.length (ae a7 p0.ax)],false,false,false⟩∧H 4=some ⟨v4j4,46,[.int .i64 x21.de,.int .i64 x21.lN,.int .i64 x21.bg.aH.ag,.sl false false x21.bg.aH.aa.length (ae (eI .i64) x21.bg.aH.aa),.int .i64 x21.bg.aK.ag,.sl false false x21.bg.aK.aa.length (ae (eI .i64) x21.bg.aK.aa)],false,false,false⟩) (fun s=>s=o23) ?_ ?_
     ·rintro s50j4 t H e ⟨v1j4,v4j4,Zj4⟩ rfl
      try dsimp only at hh
      try simp only[aL,seval,hr1,ax21,hr22,Zj4]
      refine sp aq hh (fun _ hh =>?_) (fun _ hh =>?_)
      ·cases hh
       try simp only[aL,seval,hr1,ax21,hr22,Zj4]
       refine DR ⟨rfl,?_⟩
       try simp only[aL,seval,hr1,ax21,hr22,Zj4]
      ·try simp only[aL,seval,hr1,ax21,hr22,Zj4]
       refine sp pn hh (fun _ hh =>?_) (fun _ hh =>?_)
       ·obtain⟨x26,hx26,hh⟩:=ah hh
        have ax26:=bG a7 hx26
        simp only[bB]at ax26
        obtain⟨r27,hr27,hh⟩:=ah hh
        try simp only[aL,seval,hr1,ax21,hr22,Zj4,ax26,hr27]
        refine bf (by kernel_rfl) ?_
        try simp only[aL,seval,hr1,ax21,hr22,Zj4,ax26,hr27]
        refine sp aq hh (fun _ hh =>?_) (fun _ hh =>?_)
        ·cases hh
         try simp only[aL,seval,hr1,ax21,hr22,Zj4,ax26,hr27]
         refine DR ⟨rfl,?_⟩
         try simp only[aL,seval,hr1,ax21,hr22,Zj4,ax26,hr27]
        ·cases hh
         try simp only[aL,seval,hr1,ax21,hr22,Zj4,ax26,hr27]
         refine jN ?_
         refine⟨v1j4,?_,?_,?_,?_,?_⟩
         all_goals first|rfl|(simp only[aL,seval,hr1,ax21,hr22,Zj4,ax26,hr27]<;>rfl)
       ·try simp only[aL,seval,hr1,ax21,hr22,Zj4]
        refine bf (by kernel_rfl) ?_
        cases hh
        try simp only[aL,seval,hr1,ax21,hr22,Zj4]
        refine jN ?_
        refine⟨v1j4,?_,?_,?_,?_,?_⟩
        all_goals first|rfl|(simp only[aL,seval,hr1,ax21,hr22,Zj4]<;>rfl)
     ·clear hh
      have hh:=ho23
      try simp only[aL,seval,hr1,Zb,ax21,hr22]
      refine sp bd hh (fun _ hh =>?_) (fun _ hh =>?_)
      ·cases hh
       try simp only[aL,seval,hr1,Zb,ax21,hr22]
       rw[au]
       refine⟨_,rfl,?_⟩
       refine⟨v1b,e+1,?_,?_,?_,?_,?_,?_,?_,?_,?_⟩
       all_goals first|rfl|(simp only[aL,seval,hr1,Zb,ax21,hr22]<;>rfl)
      ·obtain⟨r30,hr30,hh⟩:=ah hh
       try simp only[aL,seval,hr1,Zb,ax21,hr22,hr30]
       refine sp bd hh (fun _ hh =>?_) (fun _ hh =>?_)
       ·cases hh
        try simp only[aL,seval,hr1,Zb,ax21,hr22,hr30]
        rw[au]
        refine⟨_,rfl,?_⟩
        refine⟨v1b,e+1,?_,?_,?_,?_,?_,?_,?_,?_,?_⟩
        all_goals first|rfl|(simp only[aL,seval,hr1,Zb,ax21,hr22,hr30]<;>rfl)
       ·obtain⟨r32,hr32,hh⟩:=ah hh
        try simp only[aL,seval,hr1,Zb,ax21,hr22,hr30,hr32]
        refine sp bd hh (fun _ hh =>?_) (fun _ hh =>?_)
        ·cases hh
         try simp only[aL,seval,hr1,Zb,ax21,hr22,hr30,hr32]
         rw[au]
         refine⟨_,rfl,?_⟩
         refine⟨v1b,e+1,?_,?_,?_,?_,?_,?_,?_,?_,?_⟩
         all_goals first|rfl|(simp only[aL,seval,hr1,Zb,ax21,hr22,hr30,hr32]<;>rfl)
        ·obtain⟨r34,hr34,hh⟩:=ah hh
         cases hh
         try simp only[aL,seval,hr1,Zb,ax21,hr22,hr30,hr32,hr34]
         rw[au]
         refine⟨_,rfl,?_⟩
         refine⟨v1b,e+1,?_,?_,?_,?_,?_,?_,?_,?_,?_⟩
         all_goals first|rfl|(simp only[aL,seval,hr1,Zb,ax21,hr22,hr30,hr32,hr34]<;>rfl)
    ·cases hh
     try simp only[aL,seval,hr1,Zb]
     refine kW ?_
     refine⟨rfl,⟨v1b,?_,?_⟩⟩
     all_goals first|rfl|(simp only[aL,seval,hr1,Zb]<;>rfl)
   ·rintro x t H e hx
    rcases o19 with _|rb
    ·dsimp only at hx hh
     obtain⟨rfl,⟨v1bx,Zbx⟩⟩:=hx
     obtain⟨r35,hr35,hh⟩:=ah hh
     obtain⟨r36,hr36,hh⟩:=ah hh
     cases hh
     try simp only[aL,seval,hr1,Zbx,hr35,hr36]
    ·dsimp only at hx hh
     obtain⟨rfl,hE⟩:=hx
     cases hh
     try simp only[bO,bI,b6,eJ,eF,dE,dF]
     exact hE
 ·clear hh
  have hh:=ho2
  try simp only[aL,seval,hr1]
  refine sp bd hh (fun _ hh =>?_) (fun _ hh =>?_)
  ·cases hh
   try simp only[aL,seval,hr1]
   rw[au]
   refine⟨_,rfl,?_⟩
   refine⟨0,?_,?_,?_⟩
   all_goals first|rfl|(simp only[aL,seval,hr1]<;>rfl)
  ·cases hh
   try simp only[aL,seval,hr1]
   rw[au]
   refine⟨_,rfl,?_⟩
   refine⟨0,?_,?_,?_⟩
   all_goals first|rfl|(simp only[aL,seval,hr1]<;>rfl)
theorem ri:bY Try.prog 11 mA:=bY.of (mode := .clean) tok HR mixed Try.func11 (by kernel_rfl) ⟨by kernel_rfl,by kernel_rfl⟩ (fun _=>ad4 (by kernel_rfl)) (fun x r h=>LS x r h)
noncomputable def kY:=gf (fP (cW av)) (fun x:al=>fS x) (fun r:Bool =>.clean (.bool r))
theorem pf (p0_0:Int) (p0_1:(List Int)) (p0_2:Int) (p0_3:(List Int)):kY none [.agg [.int .i64 p0_0,.sl false false p0_1.length (ae (eI .i64) p0_1),.int .i64 p0_2,.sl false false p0_3.length (ae (eI .i64) p0_3)]]=(fS (al.mk (an.mk p0_0 p0_1) (an.mk p0_2 p0_3))).map fun r:Bool=>(.clean (.bool r),none):=aW _ _ _ ((al.mk (an.mk p0_0 p0_1) (an.mk p0_2 p0_3)))
noncomputable def iL:Env:=(Am.ext a6 22 false dP)
theorem vS:bD Try.prog iL:=(bD.none.add ey false)
theorem xP:type_of% (ai @w<|ai @bR<|@iL.eq_1):=⟨@w,@bR,@iL.eq_1⟩
theorem xc (p0:al) (r:Bool) (hh:fS p0=some r):a8 .clean tab iL FU Try.f68 none [.agg [.int .i64 p0.aH.ag,.sl false false p0.aH.aa.length (ae (eI .i64) p0.aH.aa),.int .i64 p0.aK.ag,.sl false false p0.aK.aa.length (ae (eI .i64) p0.aK.aa)]]=some (.clean (.bool r),none):=by
 refine aC rfl Try.ntmps68 Try.results68 ?_
 unfold fS at hh
 obtain⟨r1,hr1,hh⟩:=ah hh
 cases hh
 try simp only[xP,seval,hr1]
theorem vY:bY Try.prog 68 kY:=bY.of (mode := .clean) tok vS mixed Try.func68 (by kernel_rfl) ⟨by kernel_rfl,by kernel_rfl⟩ (fun _=>ad4 (by kernel_rfl)) (fun x r h=>xc x r h)
noncomputable def dw:=gf (iQ (mB av) (fP (Z0 68))) (fun x:(List al)×Unit=>bL x.1) (fun r:Int =>.clean (.int .i64 r))
theorem fA (p0:(List al)):dw none [.sl false false p0.length (ae av p0),.fn 68]=(bL p0).map fun r:Int=>(.clean (.int .i64 r),none):=aW _ _ _ (p0,())
noncomputable def cq:Env:=(Am.ext a6 68 false kY)
theorem jT:bD Try.prog cq:=(bD.none.add vY false)
theorem aN:type_of% (ai @w<|ai @pf<|@cq.eq_1):=⟨@w,@pf,@cq.eq_1⟩
theorem kp (p0:(List al)) (r:Int) (hh:bL p0=some r):a8 .clean tab cq FU Try.f67 none [.sl false false p0.length (ae av p0),.fn 68]=some (.clean (.int .i64 r),none):=by
 refine aC rfl Try.ntmps67 Try.results67 ?_
 unfold bL at hh
 try simp only[aN,seval]
 obtain⟨o5,ho5,hh⟩:=ah hh
 refine aB (fun s t H e=>match s with|s8a=>t 0=.sl false false p0.length (ae av p0)∧t 1=.fn 68∧t 7=.int .i64 (p0.length:Int)∧t 8=.int .i64 s8a) (fun o x t H e=>match o with|(.inl _)=>x=.exit 0|(.inr r)=>x=.ret∧jv .clean tab none [.tmp 4] ⟨t,EH H,e⟩=some (.clean (.int .i64 r),none)) ho5 ?_ ?_ ?_
 ·refine⟨?_,?_,?_,?_⟩
  all_goals first|rfl|(simp only[aN,seval]<;>rfl)
 ·rintro s8a t H e Za c hh
  simp only[ck]at hh
  try simp only[aN,seval,Za]
  refine sp aq hh (fun _ hh =>?_) (fun _ hh =>?_)
  ·obtain⟨x7,hx7,hh⟩:=ah hh
   have ax7:=bG av hx7
   simp only[bB]at ax7
   obtain⟨r8,hr8,hh⟩:=ah hh
   try simp only[aN,seval,Za,ax7,hr8]
   refine sp aq hh (fun _ hh =>?_) (fun _ hh =>?_)
   ·cases hh
    try simp only[aN,seval,Za,ax7,hr8]
    refine DR ⟨rfl,?_⟩
    try simp only[aN,seval,Za,ax7,hr8]
   ·cases hh
    try simp only[aN,seval,Za,ax7,hr8]
    refine jN ?_
    refine⟨?_,?_,?_,?_⟩
    all_goals first|rfl|(simp only[aN,seval,Za,ax7,hr8]<;>rfl)
  ·cases hh
   try simp only[aN,seval,Za]
   refine kW ?_
   exact rfl
 ·rintro x t H e hx
  rcases o5 with _|ra
  ·dsimp only at hx hh
   subst hx
   cases hh
   try simp only[aN,seval]
  ·dsimp only at hx hh
   obtain⟨rfl,hE⟩:=hx
   cases hh
   try simp only[bO,bI,b6,eJ,eF,dE,dF]
   exact hE
theorem jY:bY Try.prog 67 dw:=bY.of (mode := .clean) tok jT mixed Try.func67 (by kernel_rfl) ⟨by kernel_rfl,by kernel_rfl⟩ (fun _=>ad4 (by kernel_rfl)) (fun x r h=>kp x.1 r h)
noncomputable def cX:=gf (iQ (mB av) (fP (Z0 68))) (fun x:(List al)×Unit=>bu x.1) (fun r:Bool =>.clean (.bool r))
theorem eP (p0:(List al)):cX none [.sl false false p0.length (ae av p0),.fn 68]=(bu p0).map fun r:Bool=>(.clean (.bool r),none):=aW _ _ _ (p0,())
noncomputable def ca:Env:=(Am.ext a6 67 false dw)
theorem ja:bD Try.prog ca:=(bD.none.add jY false)
theorem jH:type_of% (ai @w<|ai @fA<|@ca.eq_1):=⟨@w,@fA,@ca.eq_1⟩
theorem jy (p0:(List al)) (r:Bool) (hh:bu p0=some r):a8 .clean tab ca FU Try.f36 none [.sl false false p0.length (ae av p0),.fn 68]=some (.clean (.bool r),none):=by
 refine aC rfl Try.ntmps36 Try.results36 ?_
 unfold bu at hh
 obtain⟨r1,hr1,hh⟩:=ah hh
 cases hh
 try simp only[jH,seval,hr1]
theorem je:bY Try.prog 36 cX:=bY.of (mode := .clean) tok ja mixed Try.func36 (by kernel_rfl) ⟨by kernel_rfl,by kernel_rfl⟩ (fun _=>ad4 (by kernel_rfl)) (fun x r h=>jy x.1 r h)
noncomputable def j6:=gf (iQ (mB av) (fP (aI .i64))) (fun x:(List al)×Int=>eA x.1 x.2) (fun r:Bool =>.clean (.bool r))
theorem ke (p0:(List al)) (p1:Int):j6 none [.sl false false p0.length (ae av p0),.int .i64 p1]=(eA p0 p1).map fun r:Bool=>(.clean (.bool r),none):=aW _ _ _ (p0,p1)
noncomputable def kb:Env:=(Am.ext a6 36 false cX)
theorem yo:bD Try.prog kb:=(bD.none.add je false)
theorem m0:type_of% (ai @w<|ai @eP<|@kb.eq_1):=⟨@w,@eP,@kb.eq_1⟩
theorem Ag (p0:(List al)) (p1:Int) (r:Bool) (hh:eA p0 p1=some r):a8 .clean tab kb FU Try.f39 none [.sl false false p0.length (ae av p0),.int .i64 p1]=some (.clean (.bool r),none):=by
 refine aC rfl Try.ntmps39 Try.results39 ?_
 unfold eA at hh
 try simp only[m0,seval]
 refine sp dW hh (fun _ hh =>?_) (fun _ hh =>?_)
 ·obtain⟨r2,hr2,hh⟩:=ah hh
  cases hh
  try simp only[m0,seval,hr2]
 ·cases hh
  try simp only[m0,seval]
theorem pQ:bY Try.prog 39 j6:=bY.of (mode := .clean) tok yo mixed Try.func39 (by kernel_rfl) ⟨by kernel_rfl,by kernel_rfl⟩ (fun _=>ad4 (by kernel_rfl)) (fun x r h=>Ag x.1 x.2 r h)
noncomputable def su:=gf (fP (cW m5)) (fun x:bW=>iy x) (fun r:(List Int) =>.clean (.sl false false r.length (ae (eI .i64) r)))
theorem zJ (p0_0:Int) (p0_1:(List di)):su none [.agg [.int .i64 p0_0,.sl false false p0_1.length (ae a7 p0_1)]]=(iy (bW.mk p0_0 p0_1)).map fun r:(List Int)=>(.clean (.sl false false r.length (ae (eI .i64) r)),none):=aW _ _ _ ((bW.mk p0_0 p0_1))
noncomputable def oS:Env:=(Am.xi 18 (3,1,0) (Am.ext (Am.ext (Am.ext a6 11 false mA) 20 false kz) 37 false oG))
theorem HQ:bD Try.prog oS:=(bD.xi (((bD.none.add ri false).add nA false).add xl false) 18 (3,1,0))
theorem aO:type_of% (ai @w<|ai @kM<|ai @gT<|ai @pb<|@oS.eq_1):=⟨@w,@kM,@gT,@pb,@oS.eq_1⟩
theorem LR (p0:bW) (r:(List Int)) (hh:iy p0=some r):a8 .clean tab oS FU Try.f45 none [.agg [.int .i64 p0.aF,.sl false false p0.ax.length (ae a7 p0.ax)]]=some (.clean (.sl false false r.length (ae (eI .i64) r)),none):=by
 refine aC rfl Try.ntmps45 Try.results45 ?_
 unfold iy at hh
 obtain⟨r1,hr1,hh⟩:=ah hh
 try simp only[aO,seval,-Int.reduceToNat,hr1]
 refine sp aq hh (fun _ hh =>?_) (fun _ hh =>?_)
 ·cases hh
  try simp only[aO,seval,-Int.reduceToNat,hr1]
 ·obtain⟨x3,hx3,hh⟩:=ah hh
  have q4n:=Rr (E:=(BE (eI .i64))) (ty':=3) (s:=1) (f:=0) (k := .i64) IH (by rfl) rfl rfl rfl rfl rfl hx3
  obtain⟨q4a,q4b,q4c,q4d,q4e⟩:=mk_one (BE (eI .i64)) hx3
  try simp only[aO,seval,-Int.reduceToNat,hr1,q4n,q4a]
  obtain⟨o11,ho11,hh⟩:=ah hh
  refine aB (fun s t H e=>match s with|(s22a,l18a)=>∃v1a:Nat,∃v18a:Nat,∃vn18a:Nat,t 1=.ptr 1 v1a 0∧t 3=.buf 18 v18a 1 0 (l18a).length∧t 20=.sl false false p0.ax.length (ae a7 p0.ax)∧t 21=.int .i64 (p0.ax.length:Int)∧t 22=.int .i64 s22a∧H 1=some ⟨v1a,24,[.int .i64 p0.aF,.sl false false p0.ax.length (ae a7 p0.ax)],false,false,false⟩∧H 18=some ⟨v18a,33,[.nr 3 1 vn18a (ae (BE (eI .i64)) l18a)],false,true,true⟩∧vn18a<=4*e) (fun o x t H e=>match o with|l18ax=>x=.exit 0∧∃v1ax:Nat,∃v18ax:Nat,∃vn18ax:Nat,t 1=.ptr 1 v1ax 0∧t 3=.buf 18 v18ax 1 0 (l18ax).length∧H 1=some ⟨v1ax,24,[.int .i64 p0.aF,.sl false false p0.ax.length (ae a7 p0.ax)],false,false,false⟩∧H 18=some ⟨v18ax,33,[.nr 3 1 vn18ax (ae (BE (eI .i64)) l18ax)],false,true,true⟩∧vn18ax<=4*e) ho11 ?_ ?_ ?_
  ·refine⟨0,2,4*(2)+2,?_,?_,?_,?_,?_,?_,?_,?_⟩
   all_goals (first|rfl|omega|(simp only[aO,seval,-Int.reduceToNat,hr1,q4n,q4a]<;>rfl))
  ·rintro⟨s22a,l18a⟩ t H e ⟨v1a,v18a,vn18a,Za⟩ c hh
   simp only[jA]at hh
   try simp only[aO,seval,-Int.reduceToNat,hr1,q4n,q4a,Za]
   refine sp aq hh (fun _ hh =>?_) (fun _ hh =>?_)
   ·obtain⟨x13,hx13,hh⟩:=ah hh
    have ax13:=bG a7 hx13
    simp only[bB]at ax13
    obtain⟨x14,hx14,hh⟩:=ah hh
    have ax14:=bG (BE (eI .i64)) hx14
    simp only[bB]at ax14
    obtain⟨x15,hx15,hh⟩:=ah hh
    obtain⟨q16a,q16b,q16c,q16d⟩:=gz (eI .i64) hx15
    simp only[bB]at q16b
    have ax14:=bG (BE (eI .i64)) hx14
    simp only[bB]at ax14
    have p17:=MI (BE (eI .i64)) (x':=x15) 0 .und (.nx x15.length (ae (eI .i64) x15)) hx14 rfl (ad4 rfl)
    have lp17:=RD (BE (eI .i64)) 0 .und hx14 (ad4 rfl)
    simp only[bB,Nat.add_zero]at p17 lp17
    have up17:=p17
    simp only[putCells,List.length_cons,List.length_nil,ada,Nat.reduceAdd]at up17
    have ulp17:=lp17
    simp only[putCells,List.length_cons,List.length_nil,ada,Nat.reduceAdd]at ulp17
    have bp17:oD vn18a (e+1+1)=some (4*(e+1+1)+1):=jr (by omega)
    try simp only[aO,seval,-Int.reduceToNat,hr1,q4n,q4a,Za,ax13,ax14,q16a,q16b,q16c,q16d,ax14,p17,up17,lp17,ulp17,bp17]
    refine bf (by kernel_rfl) ?_
    cases hh
    try simp only[aO,seval,-Int.reduceToNat,hr1,q4n,q4a,Za,ax13,ax14,q16a,q16b,q16c,q16d,ax14,p17,up17,lp17,ulp17,bp17]
    refine jN ?_
    refine⟨v1a,v18a,4*(e+1+1)+1,?_,?_,?_,?_,?_,?_,?_,?_⟩
    all_goals (first|rfl|omega|(simp only[aO,seval,-Int.reduceToNat,hr1,q4n,q4a,Za,ax13,ax14,q16a,q16b,q16c,q16d,ax14,p17,up17,lp17,ulp17,bp17]<;>rfl))
   ·cases hh
    try simp only[aO,seval,-Int.reduceToNat,hr1,q4n,q4a,Za]
    refine kW ?_
    refine⟨rfl,⟨v1a,v18a,vn18a,?_,?_,?_,?_,?_⟩⟩
    all_goals (first|rfl|omega|(simp only[aO,seval,-Int.reduceToNat,hr1,q4n,q4a,Za]<;>rfl))
  ·rintro x t H e hx
   obtain⟨l18ax,rfl⟩:∃z,z=o11:=⟨_,rfl⟩
   dsimp only at hx hh
   obtain⟨rfl,⟨v1ax,v18ax,vn18ax,Zax⟩⟩:=hx
   obtain⟨x18,hx18,hh⟩:=ah hh
   obtain⟨q19a,q19b,q19c,q19d,q19e⟩:=mk_one (eI .i64) hx18
   simp only[bB]at q19d
   obtain⟨r20,hr20,hh⟩:=ah hh
   try simp only[aO,seval,-Int.reduceToNat,hr1,q4n,q4a,Zax,q19a,q19b,q19c,q19d,q19e,hr20]
   obtain⟨o31,ho31,hh⟩:=ah hh
   refine aB (fun s t H e=>match s with|(s46b,l6b,l7b)=>∃v6b:Nat,∃v7b:Nat,∃v18b:Nat,∃vn18b:Nat,∃O7b:Nat,∃C7b:List D,t 3=.buf 18 v18b 1 0 (l18ax).length∧t 6=.buf 6 v6b 1 0 (l6b).length∧t 7=.buf 7 v7b 1 O7b (l7b).length∧t 44=.sl false false r20.length (ae av r20)∧t 45=.int .i64 (r20.length:Int)∧t 46=.int .i64 s46b∧H 6=some ⟨v6b,3,ae (eI .i64) l6b,false,true,false⟩∧H 7=some ⟨v7b,3,C7b,false,true,false⟩∧H 18=some ⟨v18b,33,[.nr 3 1 vn18b (ae (BE (eI .i64)) l18ax)],false,true,true⟩∧vn18b<=4*e∧rY (eI .i64) C7b O7b l7b) (fun o x t H e=>match o with|(l6bx,l7bx)=>x=.exit 2∧∃v6bx:Nat,∃v7bx:Nat,∃v18bx:Nat,∃vn18bx:Nat,∃O7bx:Nat,∃C7bx:List D,t 3=.buf 18 v18bx 1 0 (l18ax).length∧t 6=.buf 6 v6bx 1 0 (l6bx).length∧t 7=.buf 7 v7bx 1 O7bx (l7bx).length∧H 6=some ⟨v6bx,3,ae (eI .i64) l6bx,false,true,false⟩∧H 7=some ⟨v7bx,3,C7bx,false,true,false⟩∧H 18=some ⟨v18bx,33,[.nr 3 1 vn18bx (ae (BE (eI .i64)) l18ax)],false,true,true⟩∧vn18bx<=4*e∧rY (eI .i64) C7bx O7bx l7bx) ho31 ?_ ?_ ?_
   ·refine⟨e,e+1,v18ax,vn18ax,0,(ae (eI .i64) ([])),?_,?_,?_,?_,?_,?_,?_,?_,?_,?_,(rY.self (eI .i64) ([]))⟩
    all_goals (first|rfl|omega|(simp only[aO,seval,-Int.reduceToNat,hr1,q4n,q4a,Zax,q19a,q19b,q19c,q19d,q19e,hr20]<;>rfl))
   ·rintro⟨s46b,l6b,l7b⟩ t H e ⟨v6b,v7b,v18b,vn18b,O7b,C7b,t3b,t6b,t7b,t44b,t45b,t46b,H6b,H7b,H18b,Hn18b,F7b⟩ c hh
    simp only[jB]at hh
    have f1F7b:=F7b.fit
    have f2F7b:=F7b.eq
    simp only[bB]at f1F7b f2F7b
    try simp only[aO,seval,-Int.reduceToNat,hr1,q4n,q4a,q19a,q19b,q19c,q19d,q19e,hr20,t3b,t6b,t7b,t44b,t45b,t46b,H6b,H7b,H18b,Hn18b,f1F7b,f2F7b]
    refine sp aq hh (fun _ hh =>?_) (fun _ hh =>?_)
    ·obtain⟨x33,hx33,hh⟩:=ah hh
     have ax33:=bG av hx33
     simp only[bB]at ax33
     obtain⟨x34,hx34,hh⟩:=ah hh
     have ax34:=bG (eI .i64) hx34
     simp only[bB]at ax34
     have p35:=eO (eI .i64) (x':=(-1)) (fo:=0) (cs:=[.int .i64 (-1)]) hx34 rfl (ad4 rfl)
     simp only[bB,Nat.add_zero]at p35
     have up35:=p35
     simp only[putCells,List.length_cons,List.length_nil,ada,Nat.reduceAdd]at up35
     obtain⟨r36,hr36,hh⟩:=ah hh
     try simp only[aO,seval,-Int.reduceToNat,hr1,q4n,q4a,q19a,q19b,q19c,q19d,q19e,hr20,t3b,t6b,t7b,t44b,t45b,t46b,H6b,H7b,H18b,Hn18b,f1F7b,f2F7b,ax33,ax34,p35,up35,hr36]
     refine sp aq hh (fun _ hh =>?_) (fun _ hh =>?_)
     ·obtain⟨x38,hx38,hh⟩:=ah hh
      have ax38:=bG (eI .i64) hx38
      simp only[bB,aem]at ax38
      have p39:=eO (eI .i64) (x':=0) (fo:=0) (cs:=[.int .i64 0]) hx38 rfl (ad4 rfl)
      simp only[bB,Nat.add_zero]at p39
      have up39:=p39
      simp only[putCells,List.length_cons,List.length_nil,ada,Nat.reduceAdd]at up39
      obtain⟨x40,hx40,hh⟩:=ah hh
      obtain⟨q41a,q41b,q41c,q41d⟩:=gz (eI .i64) hx40
      simp only[bB]at q41b
      cases hh
      try simp only[aO,seval,-Int.reduceToNat,hr1,q4n,q4a,q19a,q19b,q19c,q19d,q19e,hr20,t3b,t6b,t7b,t44b,t45b,t46b,H6b,H7b,H18b,Hn18b,f1F7b,f2F7b,ax33,ax34,p35,up35,hr36,ax38,p39,up39,q41a,q41b,q41c,q41d]
      refine jN ?_
      refine⟨v6b,e+1+1+1+1+1,v18b,vn18b,0,(ae (eI .i64) x40),?_,?_,?_,?_,?_,?_,?_,?_,?_,?_,(rY.self (eI .i64) x40)⟩
      all_goals (first|rfl|omega|(simp only[aO,seval,-Int.reduceToNat,hr1,q4n,q4a,q19a,q19b,q19c,q19d,q19e,hr20,t3b,t6b,t7b,t44b,t45b,t46b,H6b,H7b,H18b,Hn18b,f1F7b,f2F7b,ax33,ax34,p35,up35,hr36,ax38,p39,up39,q41a,q41b,q41c,q41d]<;>rfl))
     ·cases hh
      try simp only[aO,seval,-Int.reduceToNat,hr1,q4n,q4a,q19a,q19b,q19c,q19d,q19e,hr20,t3b,t6b,t7b,t44b,t45b,t46b,H6b,H7b,H18b,Hn18b,f1F7b,f2F7b,ax33,ax34,p35,up35,hr36]
      refine jN ?_
      refine⟨v6b,v7b,v18b,vn18b,O7b,C7b,?_,?_,?_,?_,?_,?_,?_,?_,?_,?_,F7b⟩
      all_goals (first|rfl|omega|(simp only[aO,seval,-Int.reduceToNat,hr1,q4n,q4a,q19a,q19b,q19c,q19d,q19e,hr20,t3b,t6b,t7b,t44b,t45b,t46b,H6b,H7b,H18b,Hn18b,f1F7b,f2F7b,ax33,ax34,p35,up35,hr36]<;>rfl))
    ·cases hh
     try simp only[aO,seval,-Int.reduceToNat,hr1,q4n,q4a,q19a,q19b,q19c,q19d,q19e,hr20,t3b,t6b,t7b,t44b,t45b,t46b,H6b,H7b,H18b,Hn18b,f1F7b,f2F7b]
     refine kW ?_
     refine⟨rfl,⟨v6b,v7b,v18b,vn18b,O7b,C7b,?_,?_,?_,?_,?_,?_,?_,F7b⟩⟩
     all_goals (first|rfl|omega|(simp only[aO,seval,-Int.reduceToNat,hr1,q4n,q4a,q19a,q19b,q19c,q19d,q19e,hr20,t3b,t6b,t7b,t44b,t45b,t46b,H6b,H7b,H18b,Hn18b,f1F7b,f2F7b]<;>rfl))
   ·rintro x t H e hx
    rcases o31 with⟨l6bx,l7bx⟩
    dsimp only at hx hh
    obtain⟨rfl,⟨v6bx,v7bx,v18bx,vn18bx,O7bx,C7bx,t3bx,t6bx,t7bx,H6bx,H7bx,H18bx,Hn18bx,F7bx⟩⟩:=hx
    have f1F7bx:=F7bx.fit
    have f2F7bx:=F7bx.eq
    simp only[bB]at f1F7bx f2F7bx
    try simp only[aO,seval,-Int.reduceToNat,hr1,q4n,q4a,q19a,q19b,q19c,q19d,q19e,hr20,t3bx,t6bx,t7bx,H6bx,H7bx,H18bx,Hn18bx,f1F7bx,f2F7bx]
    obtain⟨o64,ho64,hh⟩:=ah hh
    refine aB (fun s t H e=>match s with|(l6c,l7c)=>∃v6c:Nat,∃v7c:Nat,∃v18c:Nat,∃vn18c:Nat,∃O7c:Nat,∃C7c:List D,t 3=.buf 18 v18c 1 0 (l18ax).length∧t 6=.buf 6 v6c 1 0 (l6c).length∧t 7=.buf 7 v7c 1 O7c (l7c).length∧H 6=some ⟨v6c,3,ae (eI .i64) l6c,false,true,false⟩∧H 7=some ⟨v7c,3,C7c,false,true,false⟩∧H 18=some ⟨v18c,33,[.nr 3 1 vn18c (ae (BE (eI .i64)) l18ax)],false,true,true⟩∧vn18c<=4*e∧rY (eI .i64) C7c O7c l7c) (fun o x t H e=>match o with|l6cx=>x=.exit 4∧∃v6cx:Nat,t 6=.buf 6 v6cx 1 0 (l6cx).length∧H 6=some ⟨v6cx,3,ae (eI .i64) l6cx,false,true,false⟩) ho64 ?_ ?_ ?_
    ·refine⟨v6bx,v7bx,v18bx,vn18bx,O7bx,C7bx,?_,?_,?_,?_,?_,?_,?_,F7bx⟩
     all_goals (first|rfl|omega|(simp only[aO,seval,-Int.reduceToNat,hr1,q4n,q4a,q19a,q19b,q19c,q19d,q19e,hr20,t3bx,t6bx,t7bx,H6bx,H7bx,H18bx,Hn18bx,f1F7bx,f2F7bx]<;>rfl))
    ·rintro⟨l6c,l7c⟩ t H e ⟨v6c,v7c,v18c,vn18c,O7c,C7c,t3c,t6c,t7c,H6c,H7c,H18c,Hn18c,F7c⟩ c hh
     simp only[jC]at hh
     have f1F7c:=F7c.fit
     have f2F7c:=F7c.eq
     simp only[bB]at f1F7c f2F7c
     try simp only[aO,seval,-Int.reduceToNat,hr1,q4n,q4a,q19a,q19b,q19c,q19d,q19e,hr20,f1F7bx,f2F7bx,t3c,t6c,t7c,H6c,H7c,H18c,Hn18c,f1F7c,f2F7c]
     refine sp aq hh (fun _ hh =>?_) (fun _ hh =>?_)
     ·obtain⟨x66,hx66,hh⟩:=ah hh
      have bx66:=od hx66
      obtain⟨fx66,restx66,ax66⟩:=F7c.idx hx66
      simp only[bB]at ax66 fx66
      obtain⟨x67,hx67,hh⟩:=ah hh
      obtain⟨q68a,q68b,q68c,q68d,q68e⟩:=V7 (eI .i64) hx67
      simp only[bB]at q68e
      have q68F:=rY.tail F7c hx67
      obtain⟨x69,hx69,hh⟩:=ah hh
      have ax69:=bG (BE (eI .i64)) hx69
      simp only[bB]at ax69
      try simp only[aO,seval,-Int.reduceToNat,hr1,q4n,q4a,q19a,q19b,q19c,q19d,q19e,hr20,f1F7bx,f2F7bx,t3c,t6c,t7c,H6c,H7c,H18c,Hn18c,f1F7c,f2F7c,bx66,ax66,fx66,q68a,q68b,q68c,q68e,ax69]
      obtain⟨o78,ho78,hh⟩:=ah hh
      refine aB (fun s t H e=>match s with|(s78e,l6e,l7e)=>∃v6e:Nat,∃v7e:Nat,∃v18e:Nat,∃vn18e:Nat,∃O7e:Nat,∃C7e:List D,t 3=.buf 18 v18e 1 0 (l18ax).length∧t 6=.buf 6 v6e 1 0 (l6e).length∧t 7=.buf 7 v7e 1 O7e (l7e).length∧t 10=.int .i64 x66∧t 76=.buf (NK 18 ((x66:Int).toNat*1)) vn18e 1 0 (x69).length∧t 77=.int .i64 ((x69).length:Int)∧t 78=.int .i64 s78e∧H 6=some ⟨v6e,3,ae (eI .i64) l6e,false,true,false⟩∧H 7=some ⟨v7e,3,C7e,false,true,false⟩∧H 18=some ⟨v18e,33,[.nr 3 1 vn18e (ae (BE (eI .i64)) l18ax)],false,true,true⟩∧vn18e<=4*e∧rY (eI .i64) C7e O7e l7e) (fun o x t H e=>match o with|(l6ex,l7ex)=>x=.exit 6∧∃v6ex:Nat,∃v7ex:Nat,∃v18ex:Nat,∃vn18ex:Nat,∃O7ex:Nat,∃C7ex:List D,t 3=.buf 18 v18ex 1 0 (l18ax).length∧t 6=.buf 6 v6ex 1 0 (l6ex).length∧t 7=.buf 7 v7ex 1 O7ex (l7ex).length∧H 6=some ⟨v6ex,3,ae (eI .i64) l6ex,false,true,false⟩∧H 7=some ⟨v7ex,3,C7ex,false,true,false⟩∧H 18=some ⟨v18ex,33,[.nr 3 1 vn18ex (ae (BE (eI .i64)) l18ax)],false,true,true⟩∧vn18ex<=4*e∧rY (eI .i64) C7ex O7ex l7ex) ho78 ?_ ?_ ?_
      ·refine⟨v6c,e+1+1,v18c,vn18c,(O7c+(1:Int).toNat*1),(C7c),?_,?_,?_,?_,?_,?_,?_,?_,?_,?_,?_,q68F⟩
       all_goals (first|rfl|omega|(simp only[aO,seval,-Int.reduceToNat,hr1,q4n,q4a,q19a,q19b,q19c,q19d,q19e,hr20,f1F7bx,f2F7bx,t3c,t6c,t7c,H6c,H7c,H18c,Hn18c,f1F7c,f2F7c,bx66,ax66,fx66,q68a,q68b,q68c,q68e,ax69,q68d]<;>rfl))
      ·rintro⟨s78e,l6e,l7e⟩ t H e ⟨v6e,v7e,v18e,vn18e,O7e,C7e,t3e,t6e,t7e,t10e,t76e,t77e,t78e,H6e,H7e,H18e,Hn18e,F7e⟩ c hh
       simp only[jD]at hh
       have f1F7e:=F7e.fit
       have f2F7e:=F7e.eq
       simp only[bB]at f1F7e f2F7e
       try simp only[aO,seval,-Int.reduceToNat,hr1,q4n,q4a,q19a,q19b,q19c,q19d,q19e,hr20,f1F7bx,f2F7bx,f1F7c,f2F7c,bx66,ax66,fx66,q68a,q68b,q68c,q68e,ax69,q68d,t3e,t6e,t7e,t10e,t76e,t77e,t78e,H6e,H7e,H18e,Hn18e,f1F7e,f2F7e]
       refine sp aq hh (fun _ hh =>?_) (fun _ hh =>?_)
       ·obtain⟨x80,hx80,hh⟩:=ah hh
        have ax80:=bG (eI .i64) hx80
        simp only[bB]at ax80
        obtain⟨x81,hx81,hh⟩:=ah hh
        have ax81:=bG (eI .i64) hx81
        simp only[bB]at ax81
        try simp only[aO,seval,-Int.reduceToNat,hr1,q4n,q4a,q19a,q19b,q19c,q19d,q19e,hr20,f1F7bx,f2F7bx,f1F7c,f2F7c,bx66,ax66,fx66,q68a,q68b,q68c,q68e,ax69,q68d,t3e,t6e,t7e,t10e,t76e,t77e,t78e,H6e,H7e,H18e,Hn18e,f1F7e,f2F7e,ax80,ax81]
        refine sp aq hh (fun _ hh =>?_) (fun _ hh =>?_)
        ·obtain⟨x83,hx83,hh⟩:=ah hh
         have ax83:=bG (eI .i64) hx83
         simp only[bB]at ax83
         have ax81:=bG (eI .i64) hx81
         simp only[bB]at ax81
         have p84:=eO (eI .i64) (x':=IntKind.i64.wrap (x83+1)) (fo:=0) (cs:=[.int .i64 (IntKind.i64.wrap (x83+1))]) hx81 rfl (ad4 rfl)
         simp only[bB,Nat.add_zero]at p84
         have up84:=p84
         simp only[putCells,List.length_cons,List.length_nil,ada,Nat.reduceAdd]at up84
         obtain⟨x85,hx85,hh⟩:=ah hh
         obtain⟨q86a,q86b,q86c,q86d⟩:=gz (eI .i64) hx85
         simp only[bB]at q86b
         cases hh
         try simp only[aO,seval,-Int.reduceToNat,hr1,q4n,q4a,q19a,q19b,q19c,q19d,q19e,hr20,f1F7bx,f2F7bx,f1F7c,f2F7c,bx66,ax66,fx66,q68a,q68b,q68c,q68e,ax69,q68d,t3e,t6e,t7e,t10e,t76e,t77e,t78e,H6e,H7e,H18e,Hn18e,f1F7e,f2F7e,ax80,ax81,ax83,ax81,p84,up84,q86a,q86b,q86c,q86d]
         refine jN ?_
         refine⟨v6e,e+1+1+1+1,v18e,vn18e,0,(ae (eI .i64) x85),?_,?_,?_,?_,?_,?_,?_,?_,?_,?_,?_,(rY.self (eI .i64) x85)⟩
         all_goals (first|rfl|omega|(simp only[aO,seval,-Int.reduceToNat,hr1,q4n,q4a,q19a,q19b,q19c,q19d,q19e,hr20,f1F7bx,f2F7bx,f1F7c,f2F7c,bx66,ax66,fx66,q68a,q68b,q68c,q68e,ax69,q68d,t3e,t6e,t7e,t10e,t76e,t77e,t78e,H6e,H7e,H18e,Hn18e,f1F7e,f2F7e,ax80,ax81,ax83,ax81,p84,up84,q86a,q86b,q86c,q86d]<;>rfl))
        ·cases hh
         try simp only[aO,seval,-Int.reduceToNat,hr1,q4n,q4a,q19a,q19b,q19c,q19d,q19e,hr20,f1F7bx,f2F7bx,f1F7c,f2F7c,bx66,ax66,fx66,q68a,q68b,q68c,q68e,ax69,q68d,t3e,t6e,t7e,t10e,t76e,t77e,t78e,H6e,H7e,H18e,Hn18e,f1F7e,f2F7e,ax80,ax81]
         refine jN ?_
         refine⟨v6e,v7e,v18e,vn18e,O7e,C7e,?_,?_,?_,?_,?_,?_,?_,?_,?_,?_,?_,F7e⟩
         all_goals (first|rfl|omega|(simp only[aO,seval,-Int.reduceToNat,hr1,q4n,q4a,q19a,q19b,q19c,q19d,q19e,hr20,f1F7bx,f2F7bx,f1F7c,f2F7c,bx66,ax66,fx66,q68a,q68b,q68c,q68e,ax69,q68d,t3e,t6e,t7e,t10e,t76e,t77e,t78e,H6e,H7e,H18e,Hn18e,f1F7e,f2F7e,ax80,ax81]<;>rfl))
       ·cases hh
        try simp only[aO,seval,-Int.reduceToNat,hr1,q4n,q4a,q19a,q19b,q19c,q19d,q19e,hr20,f1F7bx,f2F7bx,f1F7c,f2F7c,bx66,ax66,fx66,q68a,q68b,q68c,q68e,ax69,q68d,t3e,t6e,t7e,t10e,t76e,t77e,t78e,H6e,H7e,H18e,Hn18e,f1F7e,f2F7e]
        refine kW ?_
        refine⟨rfl,⟨v6e,v7e,v18e,vn18e,O7e,C7e,?_,?_,?_,?_,?_,?_,?_,F7e⟩⟩
        all_goals (first|rfl|omega|(simp only[aO,seval,-Int.reduceToNat,hr1,q4n,q4a,q19a,q19b,q19c,q19d,q19e,hr20,f1F7bx,f2F7bx,f1F7c,f2F7c,bx66,ax66,fx66,q68a,q68b,q68c,q68e,ax69,q68d,t3e,t6e,t7e,t10e,t76e,t77e,t78e,H6e,H7e,H18e,Hn18e,f1F7e,f2F7e]<;>rfl))
      ·rintro x t H e hx
       rcases o78 with⟨l6ex,l7ex⟩
       dsimp only at hx hh
       obtain⟨rfl,⟨v6ex,v7ex,v18ex,vn18ex,O7ex,C7ex,t3ex,t6ex,t7ex,H6ex,H7ex,H18ex,Hn18ex,F7ex⟩⟩:=hx
       have f1F7ex:=F7ex.fit
       have f2F7ex:=F7ex.eq
       simp only[bB]at f1F7ex f2F7ex
       cases hh
       try simp only[aO,seval,-Int.reduceToNat,hr1,q4n,q4a,q19a,q19b,q19c,q19d,q19e,hr20,f1F7bx,f2F7bx,f1F7c,f2F7c,bx66,ax66,fx66,q68a,q68b,q68c,q68e,ax69,q68d,q68d,t3ex,t6ex,t7ex,H6ex,H7ex,H18ex,Hn18ex,f1F7ex,f2F7ex]
       refine jN ?_
       refine⟨v6ex,v7ex,v18ex,vn18ex,O7ex,C7ex,?_,?_,?_,?_,?_,?_,?_,F7ex⟩
       all_goals (first|rfl|omega|(simp only[aO,seval,-Int.reduceToNat,hr1,q4n,q4a,q19a,q19b,q19c,q19d,q19e,hr20,f1F7bx,f2F7bx,f1F7c,f2F7c,bx66,ax66,fx66,q68a,q68b,q68c,q68e,ax69,q68d,q68d,t3ex,t6ex,t7ex,H6ex,H7ex,H18ex,Hn18ex,f1F7ex,f2F7ex]<;>rfl))
     ·cases hh
      try simp only[aO,seval,-Int.reduceToNat,hr1,q4n,q4a,q19a,q19b,q19c,q19d,q19e,hr20,f1F7bx,f2F7bx,t3c,t6c,t7c,H6c,H7c,H18c,Hn18c,f1F7c,f2F7c]
      refine kW ?_
      refine⟨rfl,⟨v6c,?_,?_⟩⟩
      all_goals first|rfl|(simp only[aO,seval,-Int.reduceToNat,hr1,q4n,q4a,q19a,q19b,q19c,q19d,q19e,hr20,f1F7bx,f2F7bx,t3c,t6c,t7c,H6c,H7c,H18c,Hn18c,f1F7c,f2F7c]<;>rfl)
    ·rintro x t H e hx
     obtain⟨l6cx,rfl⟩:∃z,z=o64:=⟨_,rfl⟩
     dsimp only at hx hh
     obtain⟨rfl,⟨v6cx,Zcx⟩⟩:=hx
     cases hh
     try simp only[aO,seval,-Int.reduceToNat,hr1,q4n,q4a,q19a,q19b,q19c,q19d,q19e,hr20,f1F7bx,f2F7bx,Zcx]
theorem Ip:bY Try.prog 45 su:=bY.of (mode := .clean) tok HQ mixed Try.func45 (by kernel_rfl) ⟨by kernel_rfl,by kernel_rfl⟩ (fun _=>ad4 (by kernel_rfl)) (fun x r h=>LR x r h)
noncomputable def py:=gf (fP (cW m5)) (fun x:bW=>gS x) (fun r:(List Int) =>.clean (.sl false false r.length (ae (eI .i64) r)))
theorem vt (p0_0:Int) (p0_1:(List di)):py none [.agg [.int .i64 p0_0,.sl false false p0_1.length (ae a7 p0_1)]]=(gS (bW.mk p0_0 p0_1)).map fun r:(List Int)=>(.clean (.sl false false r.length (ae (eI .i64) r)),none):=aW _ _ _ ((bW.mk p0_0 p0_1))
noncomputable def mq:Env:=(Am.ext a6 45 false su)
theorem B6:bD Try.prog mq:=(bD.none.add Ip false)
theorem dr:type_of% (ai @w<|ai @zJ<|@mq.eq_1):=⟨@w,@zJ,@mq.eq_1⟩
theorem DX (p0:bW) (r:(List Int)) (hh:gS p0=some r):a8 .clean tab mq FU Try.f14 none [.agg [.int .i64 p0.aF,.sl false false p0.ax.length (ae a7 p0.ax)]]=some (.clean (.sl false false r.length (ae (eI .i64) r)),none):=by
 refine aC rfl Try.ntmps14 Try.results14 ?_
 unfold gS at hh
 obtain⟨r1,hr1,hh⟩:=ah hh
 try simp only[dr,seval,hr1]
 obtain⟨o7,ho7,hh⟩:=ah hh
 refine aB (fun s t H e=>match s with|(s9a,l3a)=>∃v3a:Nat,t 3=.buf 3 v3a 1 0 (l3a).length∧t 7=.sl false false r1.length (ae (eI .i64) r1)∧t 8=.int .i64 (r1.length:Int)∧t 9=.int .i64 s9a∧H 3=some ⟨v3a,3,ae (eI .i64) l3a,false,true,false⟩) (fun o x t H e=>match o with|l3ax=>x=.exit 0∧∃v3ax:Nat,t 3=.buf 3 v3ax 1 0 (l3ax).length∧H 3=some ⟨v3ax,3,ae (eI .i64) l3ax,false,true,false⟩) ho7 ?_ ?_ ?_
 ·refine⟨1,?_,?_,?_,?_,?_⟩
  all_goals first|rfl|(simp only[dr,seval,hr1]<;>rfl)
 ·rintro⟨s9a,l3a⟩ t H e ⟨v3a,Za⟩ c hh
  simp only[gJ]at hh
  try simp only[dr,seval,hr1,Za]
  refine sp aq hh (fun _ hh =>?_) (fun _ hh =>?_)
  ·obtain⟨x9,hx9,hh⟩:=ah hh
   have ax9:=bG (eI .i64) hx9
   simp only[bB]at ax9
   try simp only[dr,seval,hr1,Za,ax9]
   refine sp aq hh (fun _ hh =>?_) (fun _ hh =>?_)
   ·obtain⟨x11,hx11,hh⟩:=ah hh
    obtain⟨q12a,q12b,q12c,q12d⟩:=gz (eI .i64) hx11
    simp only[bB]at q12b
    cases hh
    try simp only[dr,seval,hr1,Za,ax9,q12a,q12b,q12c,q12d]
    refine jN ?_
    refine⟨e+1+1+1,?_,?_,?_,?_,?_⟩
    all_goals first|rfl|(simp only[dr,seval,hr1,Za,ax9,q12a,q12b,q12c,q12d]<;>rfl)
   ·cases hh
    try simp only[dr,seval,hr1,Za,ax9]
    refine jN ?_
    refine⟨v3a,?_,?_,?_,?_,?_⟩
    all_goals first|rfl|(simp only[dr,seval,hr1,Za,ax9]<;>rfl)
  ·cases hh
   try simp only[dr,seval,hr1,Za]
   refine kW ?_
   refine⟨rfl,⟨v3a,?_,?_⟩⟩
   all_goals first|rfl|(simp only[dr,seval,hr1,Za]<;>rfl)
 ·rintro x t H e hx
  obtain⟨l3ax,rfl⟩:∃z,z=o7:=⟨_,rfl⟩
  dsimp only at hx hh
  obtain⟨rfl,⟨v3ax,Zax⟩⟩:=hx
  cases hh
  try simp only[dr,seval,hr1,Zax]
theorem CM:bY Try.prog 14 py:=bY.of (mode := .clean) tok B6 mixed Try.func14 (by kernel_rfl) ⟨by kernel_rfl,by kernel_rfl⟩ (fun _=>ad4 (by kernel_rfl)) (fun x r h=>DX x r h)
noncomputable def kZ:=gf (iQ (cW m5) (fP (mB av))) (fun x:bW×(List al)=>cw x.1 x.2) (fun r:(List aw) =>.clean (.sl false false r.length (ae cp r)))
theorem pg (p0_0:Int) (p0_1:(List di)) (p1:(List al)):kZ none [.agg [.int .i64 p0_0,.sl false false p0_1.length (ae a7 p0_1)],.sl false false p1.length (ae av p1)]=(cw (bW.mk p0_0 p0_1) p1).map fun r:(List aw)=>(.clean (.sl false false r.length (ae cp r)),none):=aW _ _ _ ((bW.mk p0_0 p0_1),p1)
noncomputable def iM:Env:=(Am.xi 11 (74,5,4) a6)
theorem oc:bD Try.prog iM:=(bD.xi bD.none 11 (74,5,4))
theorem bm:type_of% (ai @w<|@iM.eq_1):=⟨@w,@iM.eq_1⟩
theorem oY (p0:bW) (p1:(List al)) (r:(List aw)) (hh:cw p0 p1=some r):rG tab iM FU Try.f40 [.agg [.int .i64 p0.aF,.sl false false p0.ax.length (ae a7 p0.ax)],.sl false false p1.length (ae av p1)]=some (69,74,5,5,r.length,ae aE r):=by
 refine TG rfl Try.ntmps40 Try.results40 ?_
 unfold cw at hh
 obtain⟨x1,hx1,hh⟩:=ah hh
 have q2n:=Rr (E:=aE) (ty':=74) (s:=5) (f:=4) (k := .i64) Pw (by rfl) rfl rfl rfl rfl rfl hx1
 obtain⟨q2a,q2b,q2c,q2d,q2e⟩:=mk_one aE hx1
 try simp only[bm,seval,q2n,q2a]
 obtain⟨o8,ho8,hh⟩:=ah hh
 refine aB (fun s t H e=>match s with|(s14a,l11a)=>∃v2a:Nat,∃v11a:Nat,∃vn11a:Nat,t 1=.sl false false p1.length (ae av p1)∧t 2=.ptr 2 v2a 0∧t 5=.buf 11 v11a 5 0 (l11a).length∧t 13=.int .i64 ((x1).length:Int)∧t 14=.int .i64 s14a∧H 2=some ⟨v2a,24,[.int .i64 p0.aF,.sl false false p0.ax.length (ae a7 p0.ax)],false,false,false⟩∧H 11=some ⟨v11a,69,[.nr 74 5 vn11a (ae aE l11a)],false,true,true⟩∧vn11a<=4*e) (fun o x t H e=>match o with|l11ax=>x=.exit 0∧∃v2ax:Nat,∃v11ax:Nat,∃vn11ax:Nat,t 2=.ptr 2 v2ax 0∧t 5=.buf 11 v11ax 5 0 (l11ax).length∧H 2=some ⟨v2ax,24,[.int .i64 p0.aF,.sl false false p0.ax.length (ae a7 p0.ax)],false,false,false⟩∧H 11=some ⟨v11ax,69,[.nr 74 5 vn11ax (ae aE l11ax)],false,true,true⟩∧vn11ax<=4*e) ho8 ?_ ?_ ?_
 ·refine⟨0,1,4*(1)+2,?_,?_,?_,?_,?_,?_,?_,?_⟩
  all_goals (first|rfl|omega|(simp only[bm,seval,q2n,q2a]<;>rfl))
 ·rintro⟨s14a,l11a⟩ t H e ⟨v2a,v11a,vn11a,Za⟩ c hh
  simp only[fB]at hh
  try simp only[bm,seval,q2n,q2a,Za]
  refine sp aq hh (fun _ hh =>?_) (fun _ hh =>?_)
  ·obtain⟨x10,hx10,hh⟩:=ah hh
   have ax10:=bG av hx10
   simp only[bB]at ax10
   obtain⟨x11,hx11,hh⟩:=ah hh
   have ax11:=bG aE hx11
   simp only[bB]at ax11
   have fq13:=ig aE 0 4 (ad4 rfl) hx11
   simp only[bB,Nat.add_zero]at fq13
   have p12:=eO aE (x':=(aw.mk x10 x11.bl)) (fo:=0) (cs:=[.int .i64 x10.aH.ag,.sl false false x10.aH.aa.length (ae (eI .i64) x10.aH.aa),.int .i64 x10.aK.ag,.sl false false x10.aK.aa.length (ae (eI .i64) x10.aK.aa)]) hx11 rfl (ad4 rfl)
   simp only[bB,Nat.add_zero]at p12
   have up12:=p12
   simp only[putCells,List.length_cons,List.length_nil,ada,Nat.reduceAdd]at up12
   cases hh
   try simp only[bm,seval,q2n,q2a,Za,ax10,ax11,fq13,p12,up12]
   refine jN ?_
   refine⟨v2a,v11a,vn11a,?_,?_,?_,?_,?_,?_,?_,?_⟩
   all_goals (first|rfl|omega|(simp only[bm,seval,q2n,q2a,Za,ax10,ax11,fq13,p12,up12]<;>rfl))
  ·cases hh
   try simp only[bm,seval,q2n,q2a,Za]
   refine kW ?_
   refine⟨rfl,⟨v2a,v11a,vn11a,?_,?_,?_,?_,?_⟩⟩
   all_goals (first|rfl|omega|(simp only[bm,seval,q2n,q2a,Za]<;>rfl))
 ·rintro x t H e hx
  obtain⟨l11ax,rfl⟩:∃z,z=o8:=⟨_,rfl⟩
  dsimp only at hx hh
  obtain⟨rfl,⟨v2ax,v11ax,vn11ax,Zax⟩⟩:=hx
  try simp only[bm,seval,q2n,q2a,Zax]
  obtain⟨o22,ho22,hh⟩:=ah hh
  refine aB (fun s t H e=>match s with|(s29b,l11b)=>∃v11b:Nat,∃vn11b:Nat,t 5=.buf 11 v11b 5 0 (l11b).length∧t 27=.sl false false p0.ax.length (ae a7 p0.ax)∧t 28=.int .i64 (p0.ax.length:Int)∧t 29=.int .i64 s29b∧H 11=some ⟨v11b,69,[.nr 74 5 vn11b (ae aE l11b)],false,true,true⟩∧vn11b<=4*e) (fun o x t H e=>match o with|l11bx=>x=.exit 2∧∃v11bx:Nat,∃vn11bx:Nat,t 5=.buf 11 v11bx 5 0 (l11bx).length∧H 11=some ⟨v11bx,69,[.nr 74 5 vn11bx (ae aE l11bx)],false,true,true⟩∧vn11bx<=4*e) ho22 ?_ ?_ ?_
  ·refine⟨v11ax,vn11ax,?_,?_,?_,?_,?_,?_⟩
   all_goals (first|rfl|omega|(simp only[bm,seval,q2n,q2a,Zax]<;>rfl))
  ·rintro⟨s29b,l11b⟩ t H e ⟨v11b,vn11b,Zb⟩ c hh
   simp only[fC]at hh
   try simp only[bm,seval,q2n,q2a,Zb]
   refine sp aq hh (fun _ hh =>?_) (fun _ hh =>?_)
   ·obtain⟨x24,hx24,hh⟩:=ah hh
    have ax24:=bG a7 hx24
    simp only[bB]at ax24
    obtain⟨x25,hx25,hh⟩:=ah hh
    have ax25:=bG aE hx25
    simp only[bB]at ax25
    have aq26:=jb aE 4 hx25
    have fq26:=ig aE 4 1 (ad4 rfl) hx25
    simp only[bB]at aq26 fq26
    obtain⟨x27,hx27,hh⟩:=ah hh
    obtain⟨q28a,q28b,q28c,q28d⟩:=gz bn hx27
    simp only[bB]at q28b
    have ax25:=bG aE hx25
    simp only[bB]at ax25
    have aq29:=jb aE 4 hx25
    have fq29:=ig aE 4 1 (ad4 rfl) hx25
    simp only[bB]at aq29 fq29
    have p30:=MI aE (x':=(aw.mk x25.aP x27)) 4 .und (.nx x27.length (ae bn x27)) hx25 rfl (ad4 rfl)
    have lp30:=RD aE 4 .und hx25 (ad4 rfl)
    simp only[bB,Nat.add_zero]at p30 lp30
    have up30:=p30
    simp only[putCells,List.length_cons,List.length_nil,ada,Nat.reduceAdd]at up30
    have ulp30:=lp30
    simp only[putCells,List.length_cons,List.length_nil,ada,Nat.reduceAdd]at ulp30
    have bp30:oD vn11b (e+1+1)=some (4*(e+1+1)+1):=jr (by omega)
    try simp only[bm,seval,q2n,q2a,Zb,ax24,ax25,aq26,fq26,q28a,q28b,q28c,q28d,ax25,aq29,fq29,p30,up30,lp30,ulp30,bp30]
    refine bf (by kernel_rfl) ?_
    cases hh
    try simp only[bm,seval,q2n,q2a,Zb,ax24,ax25,aq26,fq26,q28a,q28b,q28c,q28d,ax25,aq29,fq29,p30,up30,lp30,ulp30,bp30]
    refine jN ?_
    refine⟨v11b,4*(e+1+1)+1,?_,?_,?_,?_,?_,?_⟩
    all_goals (first|rfl|omega|(simp only[bm,seval,q2n,q2a,Zb,ax24,ax25,aq26,fq26,q28a,q28b,q28c,q28d,ax25,aq29,fq29,p30,up30,lp30,ulp30,bp30]<;>rfl))
   ·cases hh
    try simp only[bm,seval,q2n,q2a,Zb]
    refine kW ?_
    refine⟨rfl,⟨v11b,vn11b,?_,?_,?_⟩⟩
    all_goals (first|rfl|omega|(simp only[bm,seval,q2n,q2a,Zb]<;>rfl))
  ·rintro x t H e hx
   obtain⟨l11bx,rfl⟩:∃z,z=o22:=⟨_,rfl⟩
   dsimp only at hx hh
   obtain⟨rfl,⟨v11bx,vn11bx,Zbx⟩⟩:=hx
   cases hh
   try simp only[bm,seval,q2n,q2a,Zbx]
theorem vZ:bY Try.prog 40 kZ:=bY.ofW (E:=cp) (EN:=aE) (ty:=69) (t:=74) (s:=5) tok oc mixed Try.func40 (by kernel_rfl) ⟨by kernel_rfl,by kernel_rfl⟩ (fun _=>ad4 (by kernel_rfl)) rfl (fun _=>rfl) (fun x=>by simp[cK,uX,eY,bH,Ar,qC,tZ,wS,sS,lZ,qD,oL,oM,qE,oN,ka]) (fun x r h=>oY x.1 x.2 r h)
noncomputable def kf:=dg (iQ (cW m5) (fP (mB av))) (fun x:bW×(List al)=>cw x.1 x.2) (fun r:(List aw)=>(69,74,5,5,r.length,ae aE r))
theorem ow (p0_0:Int) (p0_1:(List di)) (p1:(List al)):kf [.agg [.int .i64 p0_0,.sl false false p0_1.length (ae a7 p0_1)],.sl false false p1.length (ae av p1)]=(cw (bW.mk p0_0 p0_1) p1).map fun r:(List aw)=>(69,74,5,5,r.length,ae aE r):=Zx _ _ _ ((bW.mk p0_0 p0_1),p1)
theorem m7:FOk Try.prog 40 kf:=FOk.of tok oc mixed Try.func40 (by kernel_rfl) ⟨by kernel_rfl,by kernel_rfl⟩ (fun _=>ad4 (by kernel_rfl)) (fun x r h=>oY x.1 x.2 r h)
noncomputable def gF:=gf (iQ (cW bn) (fP (aI .i64))) (fun x:du×Int=>cf x.1 x.2) (fun r:Int =>.clean (.int .i64 r))
theorem kN (p0_0:Int) (p0_1:Int) (p0_2:(List Int)) (p0_3:Int) (p0_4:(List Int)) (p1:Int):gF none [.agg [.int .i64 p0_0,.int .i64 p0_1,.sl false false p0_2.length (ae (eI .i64) p0_2),.int .i64 p0_3,.sl false false p0_4.length (ae (eI .i64) p0_4)],.int .i64 p1]=(cf (du.mk p0_0 (al.mk (an.mk p0_1 p0_2) (an.mk p0_3 p0_4))) p1).map fun r:Int=>(.clean (.int .i64 r),none):=aW _ _ _ ((du.mk p0_0 (al.mk (an.mk p0_1 p0_2) (an.mk p0_3 p0_4))),p1)
noncomputable def eN:Env:=(Am.ext a6 66 false im)
theorem pC:bD Try.prog eN:=(bD.none.add lD false)
theorem pX:type_of% (ai @w<|ai @fj<|@eN.eq_1):=⟨@w,@fj,@eN.eq_1⟩
theorem pN (p0:du) (p1:Int) (r:Int) (hh:cf p0 p1=some r):a8 .clean tab eN FU Try.f98 none [.agg [.int .i64 p0.kn,.int .i64 p0.dx.aH.ag,.sl false false p0.dx.aH.aa.length (ae (eI .i64) p0.dx.aH.aa),.int .i64 p0.dx.aK.ag,.sl false false p0.dx.aK.aa.length (ae (eI .i64) p0.dx.aK.aa)],.int .i64 p1]=some (.clean (.int .i64 r),none):=by
 refine aC rfl Try.ntmps98 Try.results98 ?_
 unfold cf at hh
 obtain⟨r1,hr1,hh⟩:=ah hh
 cases hh
 try simp only[pX,seval,hr1]
theorem pE:bY Try.prog 98 gF:=bY.of (mode := .clean) tok pC mixed Try.func98 (by kernel_rfl) ⟨by kernel_rfl,by kernel_rfl⟩ (fun _=>ad4 (by kernel_rfl)) (fun x r h=>pN x.1 x.2 r h)
noncomputable def bZ:=gf (iQ (mB bn) (iQ (aI .i64) (fP (Z0 98)))) (fun x:(List du)×Int×Unit=>aQ x.1 x.2.1) (fun r:Int×Bool =>.clean (.tup [.int .i64 r.1,.bool r.2]))
theorem df (p0:(List du)) (p1:Int):bZ none [.sl false false p0.length (ae bn p0),.int .i64 p1,.fn 98]=(aQ p0 p1).map fun r:Int×Bool=>(.clean (.tup [.int .i64 r.1,.bool r.2]),none):=aW _ _ _ (p0,p1,())
noncomputable def bC:Env:=(Am.ext a6 98 false gF)
theorem fN:bD Try.prog bC:=(bD.none.add pE false)
theorem az:type_of% (ai @w<|ai @kN<|@bC.eq_1):=⟨@w,@kN,@bC.eq_1⟩
theorem fZ (p0:(List du)) (p1:Int) (r:Int×Bool) (hh:aQ p0 p1=some r):a8 .clean tab bC FU Try.f97 none [.sl false false p0.length (ae bn p0),.int .i64 p1,.fn 98]=some (.clean (.tup [.int .i64 r.1,.bool r.2]),none):=by
 refine aC rfl Try.ntmps97 Try.results97 ?_
 unfold aQ at hh
 try simp only[az,seval,-Int.reduceToNat]
 obtain⟨o7,ho7,hh⟩:=ah hh
 refine aB (fun s t H e=>match s with|(s9a,s10a)=>t 0=.sl false false p0.length (ae bn p0)∧t 1=.int .i64 p1∧t 2=.fn 98∧t 8=.int .i64 (p0.length:Int)∧t 9=.int .i64 s9a∧t 10=.int .i64 s10a) (fun o x t H e=>match o with|s9ax=>x=.exit 0∧t 0=.sl false false p0.length (ae bn p0)∧t 1=.int .i64 p1∧t 2=.fn 98∧t 8=.int .i64 (p0.length:Int)∧t 9=.int .i64 s9ax) ho7 ?_ ?_ ?_
 ·refine⟨?_,?_,?_,?_,?_,?_⟩
  all_goals first|rfl|(simp only[az,seval,-Int.reduceToNat]<;>rfl)
 ·rintro⟨s9a,s10a⟩ t H e Za c hh
  simp only[bz]at hh
  try simp only[az,seval,-Int.reduceToNat,Za]
  refine sp aq hh (fun _ hh =>?_) (fun _ hh =>?_)
  ·obtain⟨x9,hx9,hh⟩:=ah hh
   have q10:=rE hx9
   obtain⟨x11,hx11,hh⟩:=ah hh
   have ax11:=bG bn hx11
   simp only[bB]at ax11
   obtain⟨r12,hr12,hh⟩:=ah hh
   try simp only[az,seval,-Int.reduceToNat,Za,q10,ax11,hr12]
   refine sp aq hh (fun _ hh =>?_) (fun _ hh =>?_)
   ·cases hh
    try simp only[az,seval,-Int.reduceToNat,Za,q10,ax11,hr12]
    refine jN ?_
    refine⟨?_,?_,?_,?_,?_,?_⟩
    all_goals first|rfl|(simp only[az,seval,-Int.reduceToNat,Za,q10,ax11,hr12]<;>rfl)
   ·cases hh
    try simp only[az,seval,-Int.reduceToNat,Za,q10,ax11,hr12]
    refine jN ?_
    refine⟨?_,?_,?_,?_,?_,?_⟩
    all_goals first|rfl|(simp only[az,seval,-Int.reduceToNat,Za,q10,ax11,hr12]<;>rfl)
  ·cases hh
   try simp only[az,seval,-Int.reduceToNat,Za]
   refine kW ?_
   refine⟨rfl,⟨?_,?_,?_,?_,?_⟩⟩
   all_goals first|rfl|(simp only[az,seval,-Int.reduceToNat,Za]<;>rfl)
 ·rintro x t H e hx
  obtain⟨s9ax,rfl⟩:∃z,z=o7:=⟨_,rfl⟩
  dsimp only at hx hh
  obtain⟨rfl,Zax⟩:=hx
  try simp only[az,seval,-Int.reduceToNat,Zax]
  refine sp dW hh (fun _ hh =>?_) (fun _ hh =>?_)
  ·obtain⟨x15,hx15,hh⟩:=ah hh
   have ax15:=bG bn hx15
   simp only[bB]at ax15
   obtain⟨r16,hr16,hh⟩:=ah hh
   cases hh
   try simp only[az,seval,-Int.reduceToNat,Zax,ax15,hr16]
  ·cases hh
   try simp only[az,seval,-Int.reduceToNat,Zax]
theorem fO:bY Try.prog 97 bZ:=bY.of (mode := .clean) tok fN mixed Try.func97 (by kernel_rfl) ⟨by kernel_rfl,by kernel_rfl⟩ (fun _=>ad4 (by kernel_rfl)) (fun x r h=>fZ x.1 x.2.1 r h)
noncomputable def dO:=D1 69 74 5 aE (fP (aI .i64)) (fun (q:aw) (x:Int)=>cg q x) (fun r:Int×Bool =>.tup [.int .i64 r.1,.bool r.2])
theorem hZ (pre post:List D) (p0:aw) (p1:Int):dO 69 74 5 pre.length (pre++(aE.cells p0++post)) [.int .i64 p1]=(cg p0 p1).map fun r=>(.tup [.int .i64 r.2.1,.bool r.2.2],pre++(aE.cells r.1++post)):=Ic _ _ _ _ _ _ _ pre post p0 (p1)
noncomputable def fF:Env:=(Am.ext a6 97 false bZ)
theorem qY:bD Try.prog fF:=(bD.none.add fO false)
theorem sj:type_of% (ai @w<|ai @YX<|ai @df<|@fF.eq_1):=⟨@w,@YX,@df,@fF.eq_1⟩
theorem se (pre post:List D) (p0:aw) (p1:Int) (r:aw×(Int×Bool)) (hh:cg p0 p1=some r):rH tab fF FU Try.f69 69 74 5 pre.length (pre++(aE.cells p0++post)) [.int .i64 p1]=some (.tup [.int .i64 r.2.1,.bool r.2.2],pre++(aE.cells r.1++post)):=by
 refine uQ rfl Try.ntmps69 Try.results69 ?_
 rw[cK]
 unfold cg at hh
 obtain⟨r1,hr1,hh⟩:=ah hh
 cases hh
 try simp only[sj,seval,hr1]
theorem cQ:W3 Try.prog 69 dO:=W3.of tok qY mixed Try.func69 (by kernel_rfl) ⟨by kernel_rfl,by kernel_rfl⟩ (fun _=>ad4 (by kernel_rfl)) (fun pre post q x q' r h=>se pre post q x (q',r) h)
noncomputable def iI:=YI 74 bn (iQ (aI .i64) (fP (aI .i64))) (fun (l:(List du)) (x:Int×Int)=>fl l x.1 x.2)
theorem pe (pre post:List D) (p0:(List du)) (p1 p2:Int):iI (some (.buf 0 0 5 pre.length p0.length,⟨0,74,pre++(ae bn p0++post),false,true,false⟩)) [.int .i64 p1,.int .i64 p2]=(fl p0 p1 p2).map fun r=>(.fresh 74 5 r.length (ae bn r),none):=VB _ _ _ _ pre post p0 (p1,p2)
theorem ou:bY Try.prog 70 iI:=Xk bn rfl
noncomputable def vD:=gf (iQ (cW av) (fP (cW av))) (fun x:al×al=>ln x.1 x.2) (fun r:al×Int =>.clean (.tup [.agg [.int .i64 r.1.aH.ag,.sl false false r.1.aH.aa.length (ae (eI .i64) r.1.aH.aa),.int .i64 r.1.aK.ag,.sl false false r.1.aK.aa.length (ae (eI .i64) r.1.aK.aa)],.int .i64 r.2]))
theorem CV (p0_0:Int) (p0_1:(List Int)) (p0_2:Int) (p0_3:(List Int)) (p1_0:Int) (p1_1:(List Int)) (p1_2:Int) (p1_3:(List Int)):vD none [.agg [.int .i64 p0_0,.sl false false p0_1.length (ae (eI .i64) p0_1),.int .i64 p0_2,.sl false false p0_3.length (ae (eI .i64) p0_3)],.agg [.int .i64 p1_0,.sl false false p1_1.length (ae (eI .i64) p1_1),.int .i64 p1_2,.sl false false p1_3.length (ae (eI .i64) p1_3)]]=(ln (al.mk (an.mk p0_0 p0_1) (an.mk p0_2 p0_3)) (al.mk (an.mk p1_0 p1_1) (an.mk p1_2 p1_3))).map fun r:al×Int=>(.clean (.tup [.agg [.int .i64 r.1.aH.ag,.sl false false r.1.aH.aa.length (ae (eI .i64) r.1.aH.aa),.int .i64 r.1.aK.ag,.sl false false r.1.aK.aa.length (ae (eI .i64) r.1.aK.aa)],.int .i64 r.2]),none):=aW _ _ _ ((al.mk (an.mk p0_0 p0_1) (an.mk p0_2 p0_3)),(al.mk (an.mk p1_0 p1_1) (an.mk p1_2 p1_3)))
noncomputable def qH:Env:=(Am.ext (Am.ext (Am.ext a6 22 false dP) 48 false jo) 49 false nP)
theorem KA:bD Try.prog qH:=(((bD.none.add ey false).add mu false).add tj false)
theorem eX:type_of% (ai @w<|ai @bR<|ai @gh<|ai @l9<|@qH.eq_1):=⟨@w,@bR,@gh,@l9,@qH.eq_1⟩
theorem OJ (p0:al) (p1:al) (r:al×Int) (hh:ln p0 p1=some r):a8 .clean tab qH FU Try.f71 none [.agg [.int .i64 p0.aH.ag,.sl false false p0.aH.aa.length (ae (eI .i64) p0.aH.aa),.int .i64 p0.aK.ag,.sl false false p0.aK.aa.length (ae (eI .i64) p0.aK.aa)],.agg [.int .i64 p1.aH.ag,.sl false false p1.aH.aa.length (ae (eI .i64) p1.aH.aa),.int .i64 p1.aK.ag,.sl false false p1.aK.aa.length (ae (eI .i64) p1.aK.aa)]]=some (.clean (.tup [.agg [.int .i64 r.1.aH.ag,.sl false false r.1.aH.aa.length (ae (eI .i64) r.1.aH.aa),.int .i64 r.1.aK.ag,.sl false false r.1.aK.aa.length (ae (eI .i64) r.1.aK.aa)],.int .i64 r.2]),none):=by
 refine aC rfl Try.ntmps71 Try.results71 ?_
 unfold ln at hh
 obtain⟨r1,hr1,hh⟩:=ah hh
 try simp only[eX,seval,hr1]
 obtain⟨o2,ho2,hh⟩:=ah hh
 refine bJ 0 (fun s t H e=>match s with|s6j1=>∃v2j1:Nat,∃v3j1:Nat,∃v4j1:Nat,t 2=.ptr 2 v2j1 0∧t 3=.ptr 3 v3j1 0∧t 4=.ptr 4 v4j1 0∧t 6=.bool s6j1∧H 2=some ⟨v2j1,41,[.int .i64 p0.aH.ag,.sl false false p0.aH.aa.length (ae (eI .i64) p0.aH.aa),.int .i64 p0.aK.ag,.sl false false p0.aK.aa.length (ae (eI .i64) p0.aK.aa)],false,false,false⟩∧H 3=some ⟨v3j1,41,[.int .i64 p1.aH.ag,.sl false false p1.aH.aa.length (ae (eI .i64) p1.aH.aa),.int .i64 p1.aK.ag,.sl false false p1.aK.aa.length (ae (eI .i64) p1.aK.aa)],false,false,false⟩∧H 4=some ⟨v4j1,41,[.int .i64 0,.sl true true 0 [],.int .i64 0,.sl true true 0 []],false,false,false⟩) (fun s=>s=o2) ?_ ?_
 ·rintro s6j1 t H e ⟨v2j1,v3j1,v4j1,Zj1⟩ rfl
  try dsimp only at hh
  try simp only[eX,seval,hr1,Zj1]
  refine sp aq hh (fun _ hh =>?_) (fun _ hh =>?_)
  ·cases hh
   try simp only[eX,seval,hr1,Zj1]
  ·try simp only[eX,seval,hr1,Zj1]
   refine sp aq hh (fun _ hh =>?_) (fun _ hh =>?_)
   ·cases hh
    try simp only[eX,seval,hr1,Zj1]
   ·obtain⟨r5,hr5,hh⟩:=ah hh
    obtain⟨r6,hr6,hh⟩:=ah hh
    obtain⟨r7,hr7,hh⟩:=ah hh
    try simp only[eX,seval,hr1,Zj1,hr5,hr6,hr7]
    refine bf (by kernel_rfl) ?_
    cases hh
    try simp only[eX,seval,hr1,Zj1,hr5,hr6,hr7]
 ·clear hh
  have hh:=ho2
  try simp only[eX,seval,hr1]
  refine sp bd hh (fun _ hh =>?_) (fun _ hh =>?_)
  ·cases hh
   try simp only[eX,seval,hr1]
   rw[au]
   refine⟨_,rfl,?_⟩
   refine⟨0,0,0,?_,?_,?_,?_,?_,?_,?_⟩
   all_goals first|rfl|(simp only[eX,seval,hr1]<;>rfl)
  ·obtain⟨r9,hr9,hh⟩:=ah hh
   cases hh
   try simp only[eX,seval,hr1,hr9]
   rw[au]
   refine⟨_,rfl,?_⟩
   refine⟨0,0,0,?_,?_,?_,?_,?_,?_,?_⟩
   all_goals first|rfl|(simp only[eX,seval,hr1,hr9]<;>rfl)
theorem Mv:bY Try.prog 71 vD:=bY.of (mode := .clean) tok KA mixed Try.func71 (by kernel_rfl) ⟨by kernel_rfl,by kernel_rfl⟩ (fun _=>ad4 (by kernel_rfl)) (fun x r h=>OJ x.1 x.2 r h)
noncomputable def gD:=D1 69 74 5 aE (fP (aI .i64)) (fun (q:aw) (x:Int)=>cT q x) (fun r:Unit =>.tup [])
noncomputable def fb:Env:=(Am.ext (Am.ext (Am.ny 69 (0,dO) (Am.ext (Am.ext a6 30 false p7) 44 false kh)) 70 true iI) 71 false vD)
theorem pM:bD Try.prog fb:=(((bD.ny ((bD.none.add zy false).add mP false) cQ.callable cQ.calls).add ou true).add Mv false)
theorem bc:type_of% (ai @w<|ai @YX<|ai @YW<|ai @rn<|ai @gq<|ai @CV<|@fb.eq_1):=⟨@w,@YX,@YW,@rn,@gq,@CV,@fb.eq_1⟩
theorem re (pre post:List D) (p0:aw) (p1:Int) (r:aw×(Unit)) (hh:cT p0 p1=some r):rH tab fb FU Try.f41 69 74 5 pre.length (pre++(aE.cells p0++post)) [.int .i64 p1]=some (.tup [],pre++(aE.cells r.1++post)):=by
 refine uQ rfl Try.ntmps41 Try.results41 ?_
 rw[cK]
 unfold cT at hh
 have i1:=hZ pre post p0 p1
 simp only[bB]at i1
 obtain⟨r2,hr2,hh⟩:=ah hh
 have bp3:oD 0 (1)=some (4*(1)+1):=jr (by omega)
 try simp only[bc,seval,i1,hr2,bp3]
 refine sp aq hh (fun _ hh =>?_) (fun _ hh =>?_)
 ·cases hh
  try simp only[bc,seval,i1,hr2,bp3]
 ·obtain⟨r5,hr5,hh⟩:=ah hh
  obtain⟨x6,hx6,hh⟩:=ah hh
  have ax6:=bG bn hx6
  simp only[bB]at ax6
  have aq7:=jb bn 1 hx6
  have fq7:=ig bn 1 4 (ad4 rfl) hx6
  simp only[bB]at aq7 fq7
  obtain⟨r8,hr8,hh⟩:=ah hh
  try simp only[bc,seval,i1,hr2,bp3,hr5,ax6,aq7,fq7,hr8]
  refine bf (by kernel_rfl) ?_
  have i9:=pe [] [] r2.1.bl r2.2.1 (IntKind.i64.wrap (r2.2.1+1))
  simp only[List.nil_append,aec,List.length_nil,bB]at i9
  obtain⟨r10,hr10,hh⟩:=ah hh
  have bp11:oD (4*(1)+1) (4)=some (4*(4)+1):=jr (by omega)
  obtain⟨r12,hr12,hh⟩:=ah hh
  try simp only[bc,seval,i1,hr2,bp3,hr5,ax6,aq7,fq7,hr8,i9,hr10,bp11,hr12]
  refine bf (by kernel_rfl) ?_
  try simp only[bc,seval,i1,hr2,bp3,hr5,ax6,aq7,fq7,hr8,i9,hr10,bp11,hr12]
  obtain⟨o19,ho19,hh⟩:=ah hh
  refine aB (fun s t H e=>match s with|(s58a,r0_4a)=>∃v6a:Nat,∃vn0a:Nat,t 0=.ptr 0 0 pre.length∧t 6=.ptr 6 v6a 0∧t 57=.int .i64 ((r10).length:Int)∧t 58=.int .i64 s58a∧H 0=some ⟨0,69,[.nr 74 5 vn0a (pre++([.int .i64 r12.1.aH.ag,.sl false false r12.1.aH.aa.length (ae (eI .i64) r12.1.aH.aa),.int .i64 r12.1.aK.ag,.sl false false r12.1.aK.aa.length (ae (eI .i64) r12.1.aK.aa),.nx (r0_4a).length (ae bn r0_4a)]++post))],false,true,true⟩∧H 6=some ⟨v6a,41,[.int .i64 r8.1.aH.ag,.sl false false r8.1.aH.aa.length (ae (eI .i64) r8.1.aH.aa),.int .i64 r8.1.aK.ag,.sl false false r8.1.aK.aa.length (ae (eI .i64) r8.1.aK.aa)],false,false,false⟩∧vn0a<=4*e) (fun o x t H e=>match o with|r0_4ax=>x=.exit 0∧∃vn0ax:Nat,t 0=.ptr 0 0 pre.length∧H 0=some ⟨0,69,[.nr 74 5 vn0ax (pre++([.int .i64 r12.1.aH.ag,.sl false false r12.1.aH.aa.length (ae (eI .i64) r12.1.aH.aa),.int .i64 r12.1.aK.ag,.sl false false r12.1.aK.aa.length (ae (eI .i64) r12.1.aK.aa),.nx (r0_4ax).length (ae bn r0_4ax)]++post))],false,true,true⟩∧vn0ax<=4*e) ho19 ?_ ?_ ?_
  ·refine⟨3,4*(4)+1,?_,?_,?_,?_,?_,?_,?_⟩
   all_goals (first|rfl|omega|(simp only[bc,seval,i1,hr2,bp3,hr5,ax6,aq7,fq7,hr8,i9,hr10,bp11,hr12]<;>rfl))
  ·rintro⟨s58a,r0_4a⟩ t H e ⟨v6a,vn0a,Za⟩ c hh
   simp only[dG]at hh
   try simp only[bc,seval,i1,hr2,bp3,hr5,ax6,aq7,fq7,hr8,i9,hr10,bp11,hr12,Za]
   refine sp aq hh (fun _ hh =>?_) (fun _ hh =>?_)
   ·obtain⟨x21,hx21,hh⟩:=ah hh
    have ax21:=bG bn hx21
    simp only[bB]at ax21
    have aq22:=jb bn 1 hx21
    have fq22:=ig bn 1 4 (ad4 rfl) hx21
    simp only[bB]at aq22 fq22
    obtain⟨r23,hr23,hh⟩:=ah hh
    have ax21:=bG bn hx21
    simp only[bB]at ax21
    have aq24:=jb bn 1 hx21
    have fq24:=ig bn 1 4 (ad4 rfl) hx21
    simp only[bB]at aq24 fq24
    have p25:=eO bn (x':=(du.mk x21.kn r23.1)) (fo:=1) (cs:=[.int .i64 r23.1.aH.ag,.sl false false r23.1.aH.aa.length (ae (eI .i64) r23.1.aH.aa),.int .i64 r23.1.aK.ag,.sl false false r23.1.aK.aa.length (ae (eI .i64) r23.1.aK.aa)]) hx21 rfl (ad4 rfl)
    simp only[bB,Nat.add_zero]at p25
    have up25:=p25
    simp only[putCells,List.length_cons,List.length_nil,ada,Nat.reduceAdd]at up25
    try simp only[bc,seval,i1,hr2,bp3,hr5,ax6,aq7,fq7,hr8,i9,hr10,bp11,hr12,Za,ax21,aq22,fq22,hr23,ax21,aq24,fq24,p25,up25]
    refine bf (by kernel_rfl) ?_
    cases hh
    try simp only[bc,seval,i1,hr2,bp3,hr5,ax6,aq7,fq7,hr8,i9,hr10,bp11,hr12,Za,ax21,aq22,fq22,hr23,ax21,aq24,fq24,p25,up25]
    refine jN ?_
    refine⟨v6a,vn0a,?_,?_,?_,?_,?_,?_,?_⟩
    all_goals (first|rfl|omega|(simp only[bc,seval,i1,hr2,bp3,hr5,ax6,aq7,fq7,hr8,i9,hr10,bp11,hr12,Za,ax21,aq22,fq22,hr23,ax21,aq24,fq24,p25,up25]<;>rfl))
   ·cases hh
    try simp only[bc,seval,i1,hr2,bp3,hr5,ax6,aq7,fq7,hr8,i9,hr10,bp11,hr12,Za]
    refine kW ?_
    refine⟨rfl,⟨vn0a,?_,?_,?_⟩⟩
    all_goals (first|rfl|omega|(simp only[bc,seval,i1,hr2,bp3,hr5,ax6,aq7,fq7,hr8,i9,hr10,bp11,hr12,Za]<;>rfl))
  ·rintro x t H e hx
   obtain⟨r0_4ax,rfl⟩:∃z,z=o19:=⟨_,rfl⟩
   dsimp only at hx hh
   obtain⟨rfl,⟨vn0ax,Zax⟩⟩:=hx
   cases hh
   try simp only[bc,seval,i1,hr2,bp3,hr5,ax6,aq7,fq7,hr8,i9,hr10,bp11,hr12,Zax]
theorem jX:W3 Try.prog 41 gD:=W3.of tok pM mixed Try.func41 (by kernel_rfl) ⟨by kernel_rfl,by kernel_rfl⟩ (fun _=>ad4 (by kernel_rfl)) (fun pre post q x q' r h=>re pre post q x (q',r) h)
noncomputable def p6:=gf (iQ (cW av) (fP (cW av))) (fun x:al×al=>lp x.1 x.2) (fun r:al×Int =>.clean (.tup [.agg [.int .i64 r.1.aH.ag,.sl false false r.1.aH.aa.length (ae (eI .i64) r.1.aH.aa),.int .i64 r.1.aK.ag,.sl false false r.1.aK.aa.length (ae (eI .i64) r.1.aK.aa)],.int .i64 r.2]))
theorem rm (p0_0:Int) (p0_1:(List Int)) (p0_2:Int) (p0_3:(List Int)) (p1_0:Int) (p1_1:(List Int)) (p1_2:Int) (p1_3:(List Int)):p6 none [.agg [.int .i64 p0_0,.sl false false p0_1.length (ae (eI .i64) p0_1),.int .i64 p0_2,.sl false false p0_3.length (ae (eI .i64) p0_3)],.agg [.int .i64 p1_0,.sl false false p1_1.length (ae (eI .i64) p1_1),.int .i64 p1_2,.sl false false p1_3.length (ae (eI .i64) p1_3)]]=(lp (al.mk (an.mk p0_0 p0_1) (an.mk p0_2 p0_3)) (al.mk (an.mk p1_0 p1_1) (an.mk p1_2 p1_3))).map fun r:al×Int=>(.clean (.tup [.agg [.int .i64 r.1.aH.ag,.sl false false r.1.aH.aa.length (ae (eI .i64) r.1.aH.aa),.int .i64 r.1.aK.ag,.sl false false r.1.aK.aa.length (ae (eI .i64) r.1.aK.aa)],.int .i64 r.2]),none):=aW _ _ _ ((al.mk (an.mk p0_0 p0_1) (an.mk p0_2 p0_3)),(al.mk (an.mk p1_0 p1_1) (an.mk p1_2 p1_3)))
noncomputable def qJ:Env:=(Am.ext (Am.ext (Am.ext a6 22 false dP) 48 false jo) 49 false nP)
theorem KC:bD Try.prog qJ:=(((bD.none.add ey false).add mu false).add tj false)
theorem gr:type_of% (ai @w<|ai @bR<|ai @gh<|ai @l9<|@qJ.eq_1):=⟨@w,@bR,@gh,@l9,@qJ.eq_1⟩
theorem OL (p0:al) (p1:al) (r:al×Int) (hh:lp p0 p1=some r):a8 .clean tab qJ FU Try.f19 none [.agg [.int .i64 p0.aH.ag,.sl false false p0.aH.aa.length (ae (eI .i64) p0.aH.aa),.int .i64 p0.aK.ag,.sl false false p0.aK.aa.length (ae (eI .i64) p0.aK.aa)],.agg [.int .i64 p1.aH.ag,.sl false false p1.aH.aa.length (ae (eI .i64) p1.aH.aa),.int .i64 p1.aK.ag,.sl false false p1.aK.aa.length (ae (eI .i64) p1.aK.aa)]]=some (.clean (.tup [.agg [.int .i64 r.1.aH.ag,.sl false false r.1.aH.aa.length (ae (eI .i64) r.1.aH.aa),.int .i64 r.1.aK.ag,.sl false false r.1.aK.aa.length (ae (eI .i64) r.1.aK.aa)],.int .i64 r.2]),none):=by
 refine aC rfl Try.ntmps19 Try.results19 ?_
 unfold lp at hh
 obtain⟨r1,hr1,hh⟩:=ah hh
 try simp only[gr,seval,hr1]
 obtain⟨o2,ho2,hh⟩:=ah hh
 refine bJ 0 (fun s t H e=>match s with|s13j1=>∃v2j1:Nat,∃v3j1:Nat,∃v4j1:Nat,t 2=.ptr 2 v2j1 0∧t 3=.ptr 3 v3j1 0∧t 4=.ptr 4 v4j1 0∧t 13=.bool s13j1∧H 2=some ⟨v2j1,41,[.int .i64 p0.aH.ag,.sl false false p0.aH.aa.length (ae (eI .i64) p0.aH.aa),.int .i64 p0.aK.ag,.sl false false p0.aK.aa.length (ae (eI .i64) p0.aK.aa)],false,false,false⟩∧H 3=some ⟨v3j1,41,[.int .i64 p1.aH.ag,.sl false false p1.aH.aa.length (ae (eI .i64) p1.aH.aa),.int .i64 p1.aK.ag,.sl false false p1.aK.aa.length (ae (eI .i64) p1.aK.aa)],false,false,false⟩∧H 4=some ⟨v4j1,41,[.int .i64 0,.sl true true 0 [],.int .i64 0,.sl true true 0 []],false,false,false⟩) (fun s=>s=o2) ?_ ?_
 ·rintro s13j1 t H e ⟨v2j1,v3j1,v4j1,Zj1⟩ rfl
  try dsimp only at hh
  try simp only[gr,seval,hr1,Zj1]
  refine sp aq hh (fun _ hh =>?_) (fun _ hh =>?_)
  ·cases hh
   try simp only[gr,seval,hr1,Zj1]
  ·obtain⟨r4,hr4,hh⟩:=ah hh
   obtain⟨r5,hr5,hh⟩:=ah hh
   obtain⟨r6,hr6,hh⟩:=ah hh
   try simp only[gr,seval,hr1,Zj1,hr4,hr5,hr6]
   refine bf (by kernel_rfl) ?_
   cases hh
   try simp only[gr,seval,hr1,Zj1,hr4,hr5,hr6]
 ·clear hh
  have hh:=ho2
  try simp only[gr,seval,hr1]
  refine sp bd hh (fun _ hh =>?_) (fun _ hh =>?_)
  ·cases hh
   try simp only[gr,seval,hr1]
   rw[au]
   refine⟨_,rfl,?_⟩
   refine⟨0,0,0,?_,?_,?_,?_,?_,?_,?_⟩
   all_goals first|rfl|(simp only[gr,seval,hr1]<;>rfl)
  ·obtain⟨r8,hr8,hh⟩:=ah hh
   cases hh
   try simp only[gr,seval,hr1,hr8]
   rw[au]
   refine⟨_,rfl,?_⟩
   refine⟨0,0,0,?_,?_,?_,?_,?_,?_,?_⟩
   all_goals first|rfl|(simp only[gr,seval,hr1,hr8]<;>rfl)
theorem zx:bY Try.prog 19 p6:=bY.of (mode := .clean) tok KC mixed Try.func19 (by kernel_rfl) ⟨by kernel_rfl,by kernel_rfl⟩ (fun _=>ad4 (by kernel_rfl)) (fun x r h=>OL x.1 x.2 r h)
noncomputable def jq:=gf (iQ (cW av) (iQ (cW av) (fP (cW av)))) (fun x:al×al×al=>eW x.1 x.2.1 x.2.2) (fun r:al =>.clean (.agg [.int .i64 r.aH.ag,.sl false false r.aH.aa.length (ae (eI .i64) r.aH.aa),.int .i64 r.aK.ag,.sl false false r.aK.aa.length (ae (eI .i64) r.aK.aa)]))
theorem gi (p0_0:Int) (p0_1:(List Int)) (p0_2:Int) (p0_3:(List Int)) (p1_0:Int) (p1_1:(List Int)) (p1_2:Int) (p1_3:(List Int)) (p2_0:Int) (p2_1:(List Int)) (p2_2:Int) (p2_3:(List Int)):jq none [.agg [.int .i64 p0_0,.sl false false p0_1.length (ae (eI .i64) p0_1),.int .i64 p0_2,.sl false false p0_3.length (ae (eI .i64) p0_3)],.agg [.int .i64 p1_0,.sl false false p1_1.length (ae (eI .i64) p1_1),.int .i64 p1_2,.sl false false p1_3.length (ae (eI .i64) p1_3)],.agg [.int .i64 p2_0,.sl false false p2_1.length (ae (eI .i64) p2_1),.int .i64 p2_2,.sl false false p2_3.length (ae (eI .i64) p2_3)]]=(eW (al.mk (an.mk p0_0 p0_1) (an.mk p0_2 p0_3)) (al.mk (an.mk p1_0 p1_1) (an.mk p1_2 p1_3)) (al.mk (an.mk p2_0 p2_1) (an.mk p2_2 p2_3))).map fun r:al=>(.clean (.agg [.int .i64 r.aH.ag,.sl false false r.aH.aa.length (ae (eI .i64) r.aH.aa),.int .i64 r.aK.ag,.sl false false r.aK.aa.length (ae (eI .i64) r.aK.aa)]),none):=aW _ _ _ ((al.mk (an.mk p0_0 p0_1) (an.mk p0_2 p0_3)),(al.mk (an.mk p1_0 p1_1) (an.mk p1_2 p1_3)),(al.mk (an.mk p2_0 p2_1) (an.mk p2_2 p2_3)))
noncomputable def nt:Env:=(Am.ext (Am.ext a6 18 false nO) 19 false p6)
theorem DQ:bD Try.prog nt:=((bD.none.add th false).add zx false)
theorem IT:type_of% (ai @w<|ai @l8<|ai @rm<|@nt.eq_1):=⟨@w,@l8,@rm,@nt.eq_1⟩
theorem H8 (p0:al) (p1:al) (p2:al) (r:al) (hh:eW p0 p1 p2=some r):a8 .clean tab nt FU Try.f43 none [.agg [.int .i64 p0.aH.ag,.sl false false p0.aH.aa.length (ae (eI .i64) p0.aH.aa),.int .i64 p0.aK.ag,.sl false false p0.aK.aa.length (ae (eI .i64) p0.aK.aa)],.agg [.int .i64 p1.aH.ag,.sl false false p1.aH.aa.length (ae (eI .i64) p1.aH.aa),.int .i64 p1.aK.ag,.sl false false p1.aK.aa.length (ae (eI .i64) p1.aK.aa)],.agg [.int .i64 p2.aH.ag,.sl false false p2.aH.aa.length (ae (eI .i64) p2.aH.aa),.int .i64 p2.aK.ag,.sl false false p2.aK.aa.length (ae (eI .i64) p2.aK.aa)]]=some (.clean (.agg [.int .i64 r.aH.ag,.sl false false r.aH.aa.length (ae (eI .i64) r.aH.aa),.int .i64 r.aK.ag,.sl false false r.aK.aa.length (ae (eI .i64) r.aK.aa)]),none):=by
 refine aC rfl Try.ntmps43 Try.results43 ?_
 unfold eW at hh
 obtain⟨r1,hr1,hh⟩:=ah hh
 obtain⟨r2,hr2,hh⟩:=ah hh
 cases hh
 try simp only[IT,seval,hr1,hr2]
theorem mv:bY Try.prog 43 jq:=bY.of (mode := .clean) tok DQ mixed Try.func43 (by kernel_rfl) ⟨by kernel_rfl,by kernel_rfl⟩ (fun _=>ad4 (by kernel_rfl)) (fun x r h=>H8 x.1 x.2.1 x.2.2 r h)
theorem Zr:TQ Try.prog 99 (74,5,72):=XA
noncomputable def iE:=D1 69 74 5 aE (iQ (aI .i64) (fP (cW av))) (fun (q:aw) (x:Int×al)=>dy q x.1 x.2) (fun r:Unit =>.tup [])
theorem si (pre post:List D) (p0:aw) (p1:Int) (p2_0:Int) (p2_1:(List Int)) (p2_2:Int) (p2_3:(List Int)):iE 69 74 5 pre.length (pre++(aE.cells p0++post)) [.int .i64 p1,.agg [.int .i64 p2_0,.sl false false p2_1.length (ae (eI .i64) p2_1),.int .i64 p2_2,.sl false false p2_3.length (ae (eI .i64) p2_3)]]=(dy p0 p1 (al.mk (an.mk p2_0 p2_1) (an.mk p2_2 p2_3))).map fun r=>(.tup [],pre++(aE.cells r.1++post)):=Ic _ _ _ _ _ _ _ pre post p0 (p1,(al.mk (an.mk p2_0 p2_1) (an.mk p2_2 p2_3)))
noncomputable def fX:Env:=(Am.yp 99 (74,5,72) (Am.ny 69 (0,dO) (Am.ext (Am.ext a6 43 false jq) 44 false kh)))
theorem sa:bD Try.prog fX:=(bD.yp (bD.ny ((bD.none.add mv false).add mP false) cQ.callable cQ.calls) Zr)
theorem eK:type_of% (ai @w<|ai @YX<|ai @YW<|ai @gi<|ai @gq<|@fX.eq_1):=⟨@w,@YX,@YW,@gi,@gq,@fX.eq_1⟩
theorem s9 (pre post:List D) (p0:aw) (p1:Int) (p2:al) (r:aw×(Unit)) (hh:dy p0 p1 p2=some r):rH tab fX FU Try.f72 69 74 5 pre.length (pre++(aE.cells p0++post)) [.int .i64 p1,.agg [.int .i64 p2.aH.ag,.sl false false p2.aH.aa.length (ae (eI .i64) p2.aH.aa),.int .i64 p2.aK.ag,.sl false false p2.aK.aa.length (ae (eI .i64) p2.aK.aa)]]=some (.tup [],pre++(aE.cells r.1++post)):=by
 refine uQ rfl Try.ntmps72 Try.results72 ?_
 rw[cK]
 unfold dy at hh
 have i1:=hZ pre post p0 p1
 simp only[bB]at i1
 obtain⟨r2,hr2,hh⟩:=ah hh
 have bp3:oD 0 (2)=some (4*(2)+1):=jr (by omega)
 try simp only[eK,ne_eq,not_false_eq_true,seval,i1,hr2,bp3]
 refine sp aq hh (fun _ hh =>?_) (fun _ hh =>?_)
 ·obtain⟨x5,hx5,hh⟩:=ah hh
  have ax5:=bG bn hx5
  simp only[bB]at ax5
  have aq6:=jb bn 1 hx5
  have fq6:=ig bn 1 4 (ad4 rfl) hx5
  simp only[bB]at aq6 fq6
  obtain⟨r7,hr7,hh⟩:=ah hh
  obtain⟨r8,hr8,hh⟩:=ah hh
  have ax5:=bG bn hx5
  simp only[bB]at ax5
  have aq9:=jb bn 1 hx5
  have fq9:=ig bn 1 4 (ad4 rfl) hx5
  simp only[bB]at aq9 fq9
  have p10:=eO bn (x':=(du.mk x5.kn r8)) (fo:=1) (cs:=[.int .i64 r8.aH.ag,.sl false false r8.aH.aa.length (ae (eI .i64) r8.aH.aa),.int .i64 r8.aK.ag,.sl false false r8.aK.aa.length (ae (eI .i64) r8.aK.aa)]) hx5 rfl (ad4 rfl)
  simp only[bB,Nat.add_zero]at p10
  have up10:=p10
  simp only[putCells,List.length_cons,List.length_nil,ada,Nat.reduceAdd]at up10
  try simp only[eK,ne_eq,not_false_eq_true,seval,i1,hr2,bp3,ax5,aq6,fq6,hr7,hr8,ax5,aq9,fq9,p10,up10]
  refine bf (by kernel_rfl) ?_
  cases hh
  try simp only[eK,ne_eq,not_false_eq_true,seval,i1,hr2,bp3,ax5,aq6,fq6,hr7,hr8,ax5,aq9,fq9,p10,up10]
 ·obtain⟨x11,hx11,hh⟩:=ah hh
  obtain⟨q12a,q12b,q12c,q12d,q12e⟩:=Xz bn hx11
  simp only[bB]at q12e
  have bp13:oD (4*(2)+1) (4)=some (4*(4)+1):=jr (by omega)
  try simp only[eK,ne_eq,not_false_eq_true,seval,i1,hr2,bp3,q12a,q12b,q12c,q12d,q12e,bp13]
  refine bf (by kernel_rfl) ?_
  cases hh
  try simp only[eK,ne_eq,not_false_eq_true,seval,i1,hr2,bp3,q12a,q12b,q12c,q12d,q12e,bp13]
theorem lB:W3 Try.prog 72 iE:=W3.of tok sa mixed Try.func72 (by kernel_rfl) ⟨by kernel_rfl,by kernel_rfl⟩ (fun _=>ad4 (by kernel_rfl)) (fun pre post q x q' r h=>s9 pre post q x.1 x.2 (q',r) h)
noncomputable def iF:=D1 69 74 5 aE (iQ (aI .i64) (fP (cW cp))) (fun (q:aw) (x:Int×aw)=>dz q x.1 x.2) (fun r:Unit =>.tup [])
noncomputable def fY:Env:=(Am.ny 72 (0,iE) (Am.ext (Am.ny 69 (0,dO) (Am.ext (Am.ext a6 43 false jq) 44 false kh)) 70 true iI))
theorem sb:bD Try.prog fY:=(bD.ny ((bD.ny ((bD.none.add mv false).add mP false) cQ.callable cQ.calls).add ou true) lB.callable lB.calls)
theorem bq:type_of% (ai @w<|ai @YX<|ai @YW<|ai @gi<|ai @gq<|@fY.eq_1):=⟨@w,@YX,@YW,@gi,@gq,@fY.eq_1⟩
theorem td (pre post:List D) (p0:aw) (p1:Int) (p2:aw) (r:aw×(Unit)) (hh:dz p0 p1 p2=some r):rH tab fY FU Try.f42 69 74 5 pre.length (pre++(aE.cells p0++post)) [.int .i64 p1,.agg [.int .i64 p2.aP.aH.ag,.sl false false p2.aP.aH.aa.length (ae (eI .i64) p2.aP.aH.aa),.int .i64 p2.aP.aK.ag,.sl false false p2.aP.aK.aa.length (ae (eI .i64) p2.aP.aK.aa),.sl false false p2.bl.length (ae bn p2.bl)]]=some (.tup [],pre++(aE.cells r.1++post)):=by
 refine uQ rfl Try.ntmps42 Try.results42 ?_
 rw[cK]
 unfold dz at hh
 have i1:=hZ pre post p0 p1
 simp only[bB]at i1
 obtain⟨r2,hr2,hh⟩:=ah hh
 have bp3:oD 0 (2)=some (4*(2)+1):=jr (by omega)
 try simp only[bq,seval,i1,hr2,bp3]
 refine sp aq hh (fun _ hh =>?_) (fun _ hh =>?_)
 ·cases hh
  try simp only[bq,seval,i1,hr2,bp3]
 ·obtain⟨x5,hx5,hh⟩:=ah hh
  have ax5:=bG bn hx5
  simp only[bB]at ax5
  have aq6:=jb bn 1 hx5
  have fq6:=ig bn 1 4 (ad4 rfl) hx5
  simp only[bB]at aq6 fq6
  have i7:=pe [] [] r2.1.bl r2.2.1 (IntKind.i64.wrap (r2.2.1+1))
  simp only[List.nil_append,aec,List.length_nil,bB]at i7
  obtain⟨r8,hr8,hh⟩:=ah hh
  have bp9:oD (4*(2)+1) (5)=some (4*(5)+1):=jr (by omega)
  obtain⟨r10,hr10,hh⟩:=ah hh
  try simp only[bq,seval,i1,hr2,bp3,ax5,aq6,fq6,i7,hr8,bp9,hr10]
  refine bf (by kernel_rfl) ?_
  try simp only[bq,seval,i1,hr2,bp3,ax5,aq6,fq6,i7,hr8,bp9,hr10]
  obtain⟨o18,ho18,hh⟩:=ah hh
  refine aB (fun s t H e=>match s with|(s52a,r0_0a,r0_1a,r0_2a,r0_3a,r0_4a)=>∃v8a:Nat,∃vn0a:Nat,t 0=.ptr 0 0 pre.length∧t 8=.ptr 8 v8a 0∧t 50=.sl false false p2.bl.length (ae bn p2.bl)∧t 51=.int .i64 (p2.bl.length:Int)∧t 52=.int .i64 s52a∧H 0=some ⟨0,69,[.nr 74 5 vn0a (pre++([.int .i64 r0_0a,.sl false false r0_1a.length (ae (eI .i64) r0_1a),.int .i64 r0_2a,.sl false false r0_3a.length (ae (eI .i64) r0_3a),.nx (r0_4a).length (ae bn r0_4a)]++post))],false,true,true⟩∧H 8=some ⟨v8a,41,[.int .i64 x5.dx.aH.ag,.sl false false x5.dx.aH.aa.length (ae (eI .i64) x5.dx.aH.aa),.int .i64 x5.dx.aK.ag,.sl false false x5.dx.aK.aa.length (ae (eI .i64) x5.dx.aK.aa)],false,false,false⟩∧vn0a<=4*e) (fun o x t H e=>match o with|(r0_0ax,r0_1ax,r0_2ax,r0_3ax,r0_4ax)=>x=.exit 0∧∃vn0ax:Nat,t 0=.ptr 0 0 pre.length∧H 0=some ⟨0,69,[.nr 74 5 vn0ax (pre++([.int .i64 r0_0ax,.sl false false r0_1ax.length (ae (eI .i64) r0_1ax),.int .i64 r0_2ax,.sl false false r0_3ax.length (ae (eI .i64) r0_3ax),.nx (r0_4ax).length (ae bn r0_4ax)]++post))],false,true,true⟩∧vn0ax<=4*e) ho18 ?_ ?_ ?_
  ·refine⟨4,4*(5)+1,?_,?_,?_,?_,?_,?_,?_,?_⟩
   all_goals (first|rfl|omega|(simp only[bq,seval,i1,hr2,bp3,ax5,aq6,fq6,i7,hr8,bp9,hr10]<;>rfl))
  ·rintro⟨s52a,r0_0a,r0_1a,r0_2a,r0_3a,r0_4a⟩ t H e ⟨v8a,vn0a,Za⟩ c hh
   simp only[eh]at hh
   try simp only[bq,seval,i1,hr2,bp3,ax5,aq6,fq6,i7,hr8,bp9,hr10,Za]
   refine sp aq hh (fun _ hh =>?_) (fun _ hh =>?_)
   ·obtain⟨x20,hx20,hh⟩:=ah hh
    have ax20:=bG bn hx20
    simp only[bB]at ax20
    obtain⟨r21,hr21,hh⟩:=ah hh
    obtain⟨r22,hr22,hh⟩:=ah hh
    have i23:=si pre post (aw.mk (al.mk (an.mk r0_0a r0_1a) (an.mk r0_2a r0_3a)) r0_4a) x20.kn r22.aH.ag r22.aH.aa r22.aK.ag r22.aK.aa
    simp only[bB]at i23
    obtain⟨r24,hr24,hh⟩:=ah hh
    have bp25:oD vn0a (e+1+1)=some (4*(e+1+1)+1):=jr (by omega)
    try simp only[bq,seval,i1,hr2,bp3,ax5,aq6,fq6,i7,hr8,bp9,hr10,Za,ax20,hr21,hr22,i23,hr24,bp25]
    refine bf (by kernel_rfl) ?_
    cases hh
    try simp only[bq,seval,i1,hr2,bp3,ax5,aq6,fq6,i7,hr8,bp9,hr10,Za,ax20,hr21,hr22,i23,hr24,bp25]
    refine jN ?_
    refine⟨v8a,4*(e+1+1)+1,?_,?_,?_,?_,?_,?_,?_,?_⟩
    all_goals (first|rfl|omega|(simp only[bq,seval,i1,hr2,bp3,ax5,aq6,fq6,i7,hr8,bp9,hr10,Za,ax20,hr21,hr22,i23,hr24,bp25]<;>rfl))
   ·cases hh
    try simp only[bq,seval,i1,hr2,bp3,ax5,aq6,fq6,i7,hr8,bp9,hr10,Za]
    refine kW ?_
    refine⟨rfl,⟨vn0a,?_,?_,?_⟩⟩
    all_goals (first|rfl|omega|(simp only[bq,seval,i1,hr2,bp3,ax5,aq6,fq6,i7,hr8,bp9,hr10,Za]<;>rfl))
  ·rintro x t H e hx
   rcases o18 with⟨r0_0ax,r0_1ax,r0_2ax,r0_3ax,r0_4ax⟩
   dsimp only at hx hh
   obtain⟨rfl,⟨vn0ax,Zax⟩⟩:=hx
   cases hh
   try simp only[bq,seval,i1,hr2,bp3,ax5,aq6,fq6,i7,hr8,bp9,hr10,Zax]
theorem lC:W3 Try.prog 42 iF:=W3.of tok sb mixed Try.func42 (by kernel_rfl) ⟨by kernel_rfl,by kernel_rfl⟩ (fun _=>ad4 (by kernel_rfl)) (fun pre post q x q' r h=>td pre post q x.1 x.2 (q',r) h)
noncomputable def nQ:=gf (iQ (cW m5) (fP (mB av))) (fun x:bW×(List al)=>dV x.1 x.2) (fun r:(List al)×Int =>.clean (.tup [.sl false false r.1.length (ae av r.1),.int .i64 r.2]))
theorem jh (p0_0:Int) (p0_1:(List di)) (p1:(List al)):nQ none [.agg [.int .i64 p0_0,.sl false false p0_1.length (ae a7 p0_1)],.sl false false p1.length (ae av p1)]=(dV (bW.mk p0_0 p0_1) p1).map fun r:(List al)×Int=>(.clean (.tup [.sl false false r.1.length (ae av r.1),.int .i64 r.2]),none):=aW _ _ _ ((bW.mk p0_0 p0_1),p1)
theorem pR {C:List (Bool×aw)} {i:Int} {p0:aw} (h:P.idx C i=some (false,p0)) (p1:Int):gD 69 74 5 (i.toNat*aV.size) (ae aV C) [.int .i64 p1]=(cT p0 p1).map fun r=>(.tup [],ae aV (C.set i.toNat (false,r.1))):=Rq lj h (p1)
theorem sh {C:List (Bool×aw)} {i:Int} {p0:aw} (h:P.idx C i=some (false,p0)) (p1:Int) (p2_0:Int) (p2_1:(List Int)) (p2_2:Int) (p2_3:(List Int)) (p2_4:(List du)):iF 69 74 5 (i.toNat*aV.size) (ae aV C) [.int .i64 p1,.agg [.int .i64 p2_0,.sl false false p2_1.length (ae (eI .i64) p2_1),.int .i64 p2_2,.sl false false p2_3.length (ae (eI .i64) p2_3),.sl false false p2_4.length (ae bn p2_4)]]=(dz p0 p1 (aw.mk (al.mk (an.mk p2_0 p2_1) (an.mk p2_2 p2_3)) p2_4)).map fun r=>(.tup [],ae aV (C.set i.toNat (false,r.1))):=Rq lj h (p1,(aw.mk (al.mk (an.mk p2_0 p2_1) (an.mk p2_2 p2_3)) p2_4))
noncomputable def qX:Env:=(Am.ext (Am.ext (Am.ny 42 (0,iF) (Am.ny 41 (5,gD) (Am.xh 40 kf (Am.ext (Am.ext (Am.ext a6 11 false mA) 14 false py) 39 false j6)))) 43 false jq) 44 false kh)
theorem KP:bD Try.prog qX:=(((bD.ny (bD.ny (bD.xh (((bD.none.add ri false).add CM false).add pQ false) m7.callable m7.calls) jX.callable jX.calls) lC.callable lC.calls).add mv false).add mP false)
theorem aR:type_of% (ai @w<|ai @YW<|ai @kM<|ai @vt<|ai @ke<|ai @ow<|ai @gi<|ai @gq<|@qX.eq_1):=⟨@w,@YW,@kM,@vt,@ke,@ow,@gi,@gq,@qX.eq_1⟩
theorem OZ (p0:bW) (p1:(List al)) (r:(List al)×Int) (hh:dV p0 p1=some r):a8 .clean tab qX FU Try.f13 none [.agg [.int .i64 p0.aF,.sl false false p0.ax.length (ae a7 p0.ax)],.sl false false p1.length (ae av p1)]=some (.clean (.tup [.sl false false r.1.length (ae av r.1),.int .i64 r.2]),none):=by
 refine aC rfl Try.ntmps13 Try.results13 ?_
 unfold dV at hh
 obtain⟨r1,hr1,hh⟩:=ah hh
 try simp only[aR,seval,hr1]
 obtain⟨o2,ho2,hh⟩:=ah hh
 refine bJ 0 (fun s t H e=>match s with|s14j1=>∃v2j1:Nat,t 1=.sl false false p1.length (ae av p1)∧t 2=.ptr 2 v2j1 0∧t 14=.bool s14j1∧H 2=some ⟨v2j1,24,[.int .i64 p0.aF,.sl false false p0.ax.length (ae a7 p0.ax)],false,false,false⟩) (fun s=>s=o2) ?_ ?_
 ·rintro s14j1 t H e ⟨v2j1,Zj1⟩ rfl
  try dsimp only at hh
  try simp only[aR,seval,hr1,Zj1]
  refine sp aq hh (fun _ hh =>?_) (fun _ hh =>?_)
  ·cases hh
   try simp only[aR,seval,hr1,Zj1]
  ·obtain⟨r4,hr4,hh⟩:=ah hh
   try simp only[aR,seval,hr1,Zj1,hr4]
   refine sp aq hh (fun _ hh =>?_) (fun _ hh =>?_)
   ·cases hh
    try simp only[aR,seval,hr1,Zj1,hr4]
   ·obtain⟨r6,hr6,hh⟩:=ah hh
    have er6:=FB lj r6
    try simp only[aR,seval,hr1,Zj1,hr4,hr6,er6]
    obtain⟨o32,ho32,hh⟩:=ah hh
    refine aB (fun s t H e=>match s with|(s35b,l32b)=>∃v2b:Nat,∃v32b:Nat,∃vn32b:Nat,t 2=.ptr 2 v2b 0∧t 6=.buf 32 v32b 5 0 (l32b).length∧t 34=.int .i64 ((r6).length:Int)∧t 35=.int .i64 s35b∧H 2=some ⟨v2b,24,[.int .i64 p0.aF,.sl false false p0.ax.length (ae a7 p0.ax)],false,false,false⟩∧H 32=some ⟨v32b,69,[.nr 74 5 vn32b (ae aV l32b)],false,true,true⟩∧vn32b<=4*e) (fun o x t H e=>match o with|l32bx=>x=.exit 1∧∃v2bx:Nat,∃v32bx:Nat,∃vn32bx:Nat,t 2=.ptr 2 v2bx 0∧t 6=.buf 32 v32bx 5 0 (l32bx).length∧H 2=some ⟨v2bx,24,[.int .i64 p0.aF,.sl false false p0.ax.length (ae a7 p0.ax)],false,false,false⟩∧H 32=some ⟨v32bx,69,[.nr 74 5 vn32bx (ae aV l32bx)],false,true,true⟩∧vn32bx<=4*e) ho32 ?_ ?_ ?_
    ·refine⟨v2j1,e+1,4*(e+1)+2,?_,?_,?_,?_,?_,?_,?_⟩
     all_goals (first|rfl|omega|(simp only[aR,seval,hr1,Zj1,hr4,hr6,er6]<;>rfl))
    ·rintro⟨s35b,l32b⟩ t H e ⟨v2b,v32b,vn32b,Zb⟩ c hh
     simp only[jk]at hh
     try simp only[aR,seval,hr1,hr4,hr6,er6,Zb]
     refine sp aq hh (fun _ hh =>?_) (fun _ hh =>?_)
     ·obtain⟨x34,hx34,hh⟩:=ah hh
      have ax34:=And.intro (od hx34) (jx aV hx34)
      simp only[bB]at ax34
      obtain⟨x35,hx35,hh⟩:=ah hh
      have gx35:P.idx l32b s35b=some (false,x35):=hx34.trans (congrArg some (MF hx35))
      have i36:=pR gx35 s35b
      simp only[bB]at i36
      obtain⟨r37,hr37,hh⟩:=ah hh
      have bp38:oD vn32b (e+1+1)=some (4*(e+1+1)+1):=jr (by omega)
      have fp38:=aaa lj BH BJ BI gx35 r37.1
      rw[lY]at fp38
      try simp only[aR,seval,hr1,hr4,hr6,er6,Zb,ax34,i36,hr37,bp38,fp38]
      obtain⟨o48,ho48,hh⟩:=ah hh
      refine aB (fun s t H e=>match s with|(s8d,l32d)=>∃v2d:Nat,∃v32d:Nat,∃vn32d:Nat,t 2=.ptr 2 v2d 0∧t 6=.buf 32 v32d 5 0 (l32d).length∧t 7=.int .i64 s35b∧t 8=.int .i64 s8d∧t 34=.int .i64 ((r6).length:Int)∧t 35=.int .i64 s35b∧H 2=some ⟨v2d,24,[.int .i64 p0.aF,.sl false false p0.ax.length (ae a7 p0.ax)],false,false,false⟩∧H 32=some ⟨v32d,69,[.nr 74 5 vn32d (ae aV l32d)],false,true,true⟩∧vn32d<=4*e) (fun o x t H e=>match o with|l32dx=>x=.exit 3∧∃v2dx:Nat,∃v32dx:Nat,∃vn32dx:Nat,t 2=.ptr 2 v2dx 0∧t 6=.buf 32 v32dx 5 0 (l32dx).length∧t 34=.int .i64 ((r6).length:Int)∧t 35=.int .i64 s35b∧H 2=some ⟨v2dx,24,[.int .i64 p0.aF,.sl false false p0.ax.length (ae a7 p0.ax)],false,false,false⟩∧H 32=some ⟨v32dx,69,[.nr 74 5 vn32dx (ae aV l32dx)],false,true,true⟩∧vn32dx<=4*e) ho48 ?_ ?_ ?_
      ·refine⟨v2b,v32b,4*(e+1+1)+1,?_,?_,?_,?_,?_,?_,?_,?_,?_⟩
       all_goals (first|rfl|omega|(simp only[aR,seval,hr1,hr4,hr6,er6,Zb,ax34,i36,hr37,bp38,fp38]<;>rfl))
      ·rintro⟨s8d,l32d⟩ t H e ⟨v2d,v32d,vn32d,Zd⟩ c hh
       simp only[kQ]at hh
       try simp only[aR,seval,hr1,hr4,hr6,er6,ax34,i36,hr37,bp38,fp38,Zd]
       refine sp aq hh (fun _ hh =>?_) (fun _ hh =>?_)
       ·obtain⟨x50,hx50,hh⟩:=ah hh
        have ax50:=And.intro (od hx50) (jx aV hx50)
        simp only[bB]at ax50
        obtain⟨x51,hx51,hh⟩:=ah hh
        have ax51:=And.intro (od hx51) (jx aV hx51)
        simp only[bB]at ax51
        obtain⟨x52,hx52,hh⟩:=ah hh
        have gx52:P.idx l32d s35b=some (true,x52):=hx51.trans (congrArg some (M9 hx52))
        have aq53:=jb aV 0 gx52
        have fq53:=ig aV 0 5 (ad4 rfl) gx52
        simp only[bB,Nat.add_zero]at aq53 fq53
        obtain⟨x54,hx54,hh⟩:=ah hh
        have gx54:P.idx l32d s8d=some (false,x54):=hx50.trans (congrArg some (MF hx54))
        have i55:=sh gx54 s35b x52.aP.aH.ag x52.aP.aH.aa x52.aP.aK.ag x52.aP.aK.aa x52.bl
        simp only[bB]at i55
        obtain⟨r56,hr56,hh⟩:=ah hh
        have bp57:oD vn32d (e+1)=some (4*(e+1)+1):=jr (by omega)
        try simp only[aR,seval,hr1,hr4,hr6,er6,ax34,i36,hr37,bp38,fp38,Zd,ax50,ax51,aq53,fq53,i55,hr56,bp57]
        refine bf (by kernel_rfl) ?_
        cases hh
        try simp only[aR,seval,hr1,hr4,hr6,er6,ax34,i36,hr37,bp38,fp38,Zd,ax50,ax51,aq53,fq53,i55,hr56,bp57]
        refine jN ?_
        refine⟨v2d,v32d,4*(e+1)+1,?_,?_,?_,?_,?_,?_,?_,?_,?_⟩
        all_goals (first|rfl|omega|(simp only[aR,seval,hr1,hr4,hr6,er6,ax34,i36,hr37,bp38,fp38,Zd,ax50,ax51,aq53,fq53,i55,hr56,bp57]<;>rfl))
       ·cases hh
        try simp only[aR,seval,hr1,hr4,hr6,er6,ax34,i36,hr37,bp38,fp38,Zd]
        refine kW ?_
        refine⟨rfl,⟨v2d,v32d,vn32d,?_,?_,?_,?_,?_,?_,?_⟩⟩
        all_goals (first|rfl|omega|(simp only[aR,seval,hr1,hr4,hr6,er6,ax34,i36,hr37,bp38,fp38,Zd]<;>rfl))
      ·rintro x t H e hx
       obtain⟨l32dx,rfl⟩:∃z,z=o48:=⟨_,rfl⟩
       dsimp only at hx hh
       obtain⟨rfl,⟨v2dx,v32dx,vn32dx,Zdx⟩⟩:=hx
       cases hh
       try simp only[aR,seval,hr1,hr4,hr6,er6,ax34,i36,hr37,bp38,fp38,Zdx]
       refine jN ?_
       refine⟨v2dx,v32dx,vn32dx,?_,?_,?_,?_,?_,?_,?_⟩
       all_goals (first|rfl|omega|(simp only[aR,seval,hr1,hr4,hr6,er6,ax34,i36,hr37,bp38,fp38,Zdx]<;>rfl))
     ·cases hh
      try simp only[aR,seval,hr1,hr4,hr6,er6,Zb]
      refine kW ?_
      refine⟨rfl,⟨v2b,v32b,vn32b,?_,?_,?_,?_,?_⟩⟩
      all_goals (first|rfl|omega|(simp only[aR,seval,hr1,hr4,hr6,er6,Zb]<;>rfl))
    ·rintro x t H e hx
     obtain⟨l32bx,rfl⟩:∃z,z=o32:=⟨_,rfl⟩
     dsimp only at hx hh
     obtain⟨rfl,⟨v2bx,v32bx,vn32bx,Zbx⟩⟩:=hx
     obtain⟨x58,hx58,hh⟩:=ah hh
     obtain⟨q59a,q59b,q59c,q59d,q59e⟩:=mk_one av hx58
     simp only[bB]at q59d
     try simp only[aR,seval,hr1,hr4,hr6,er6,Zbx,q59a,q59b,q59c,q59d,q59e]
     obtain⟨o78,ho78,hh⟩:=ah hh
     refine aB (fun s t H e=>match s with|(s10e,l9e)=>∃v9e:Nat,∃v32e:Nat,∃vn32e:Nat,t 6=.buf 32 v32e 5 0 (l32bx).length∧t 9=.buf 9 v9e 4 0 (l9e).length∧t 10=.int .i64 s10e∧H 9=some ⟨v9e,41,ae av l9e,false,true,false⟩∧H 32=some ⟨v32e,69,[.nr 74 5 vn32e (ae aV l32bx)],false,true,true⟩∧vn32e<=4*e) (fun o x t H e=>match o with|l9ex=>x=.exit 5∧∃v9ex:Nat,t 9=.buf 9 v9ex 4 0 (l9ex).length∧H 9=some ⟨v9ex,41,ae av l9ex,false,true,false⟩) ho78 ?_ ?_ ?_
     ·refine⟨e,v32bx,vn32bx,?_,?_,?_,?_,?_,?_⟩
      all_goals (first|rfl|omega|(simp only[aR,seval,hr1,hr4,hr6,er6,Zbx,q59a,q59b,q59c,q59d,q59e]<;>rfl))
     ·rintro⟨s10e,l9e⟩ t H e ⟨v9e,v32e,vn32e,Ze⟩ c hh
      simp only[jl]at hh
      try simp only[aR,seval,hr1,hr4,hr6,er6,q59a,q59b,q59c,q59d,q59e,Ze]
      refine sp aq hh (fun _ hh =>?_) (fun _ hh =>?_)
      ·obtain⟨x80,hx80,hh⟩:=ah hh
       have ax80:=And.intro (od hx80) (jx aV hx80)
       simp only[bB]at ax80
       obtain⟨x81,hx81,hh⟩:=ah hh
       have gx81:P.idx l32bx s10e=some (true,x81):=hx80.trans (congrArg some (M9 hx81))
       have aq82:=jb aV 0 gx81
       have fq82:=ig aV 0 4 (ad4 rfl) gx81
       simp only[bB,Nat.add_zero]at aq82 fq82
       obtain⟨r83,hr83,hh⟩:=ah hh
       obtain⟨r84,hr84,hh⟩:=ah hh
       try simp only[aR,seval,hr1,hr4,hr6,er6,q59a,q59b,q59c,q59d,q59e,Ze,ax80,aq82,fq82,hr83,hr84]
       refine bf (by kernel_rfl) ?_
       have ax80:=And.intro (od hx80) (jx aV hx80)
       simp only[bB]at ax80
       have aq85:=jb aV 4 gx81
       have fq85:=ig aV 4 1 (ad4 rfl) gx81
       simp only[bB,Nat.add_zero]at aq85 fq85
       try simp only[aR,seval,hr1,hr4,hr6,er6,q59a,q59b,q59c,q59d,q59e,Ze,ax80,aq82,fq82,hr83,hr84,ax80,aq85,fq85]
       obtain⟨o90,ho90,hh⟩:=ah hh
       refine aB (fun s t H e=>match s with|(s85g,r11_0g,r11_1g,r11_2g,r11_3g)=>∃v9g:Nat,∃v11g:Nat,∃v32g:Nat,∃vn32g:Nat,t 6=.buf 32 v32g 5 0 (l32bx).length∧t 9=.buf 9 v9g 4 0 (l9e).length∧t 10=.int .i64 s10e∧t 11=.ptr 11 v11g 0∧t 83=.sl false false x81.bl.length (ae bn x81.bl)∧t 84=.int .i64 (x81.bl.length:Int)∧t 85=.int .i64 s85g∧H 9=some ⟨v9g,41,ae av l9e,false,true,false⟩∧H 11=some ⟨v11g,41,[.int .i64 r11_0g,.sl false false r11_1g.length (ae (eI .i64) r11_1g),.int .i64 r11_2g,.sl false false r11_3g.length (ae (eI .i64) r11_3g)],false,false,false⟩∧H 32=some ⟨v32g,69,[.nr 74 5 vn32g (ae aV l32bx)],false,true,true⟩∧vn32g<=4*e) (fun o x t H e=>match o with|(r11_0gx,r11_1gx,r11_2gx,r11_3gx)=>x=.exit 7∧∃v9gx:Nat,∃v11gx:Nat,∃v32gx:Nat,∃vn32gx:Nat,t 6=.buf 32 v32gx 5 0 (l32bx).length∧t 9=.buf 9 v9gx 4 0 (l9e).length∧t 10=.int .i64 s10e∧t 11=.ptr 11 v11gx 0∧H 9=some ⟨v9gx,41,ae av l9e,false,true,false⟩∧H 11=some ⟨v11gx,41,[.int .i64 r11_0gx,.sl false false r11_1gx.length (ae (eI .i64) r11_1gx),.int .i64 r11_2gx,.sl false false r11_3gx.length (ae (eI .i64) r11_3gx)],false,false,false⟩∧H 32=some ⟨v32gx,69,[.nr 74 5 vn32gx (ae aV l32bx)],false,true,true⟩∧vn32gx<=4*e) ho90 ?_ ?_ ?_
       ·refine⟨v9e,e+1,v32e,vn32e,?_,?_,?_,?_,?_,?_,?_,?_,?_,?_,?_⟩
        all_goals (first|rfl|omega|(simp only[aR,seval,hr1,hr4,hr6,er6,q59a,q59b,q59c,q59d,q59e,Ze,ax80,aq82,fq82,hr83,hr84,ax80,aq85,fq85]<;>rfl))
       ·rintro⟨s85g,r11_0g,r11_1g,r11_2g,r11_3g⟩ t H e ⟨v9g,v11g,v32g,vn32g,Zg⟩ c hh
        simp only[mR]at hh
        try simp only[aR,seval,hr1,hr4,hr6,er6,q59a,q59b,q59c,q59d,q59e,ax80,aq82,fq82,hr83,hr84,ax80,aq85,fq85,Zg]
        refine sp aq hh (fun _ hh =>?_) (fun _ hh =>?_)
        ·obtain⟨x92,hx92,hh⟩:=ah hh
         have ax92:=bG bn hx92
         simp only[bB]at ax92
         obtain⟨x93,hx93,hh⟩:=ah hh
         have ax93:=bG av hx93
         simp only[bB]at ax93
         obtain⟨r94,hr94,hh⟩:=ah hh
         try simp only[aR,seval,hr1,hr4,hr6,er6,q59a,q59b,q59c,q59d,q59e,ax80,aq82,fq82,hr83,hr84,ax80,aq85,fq85,Zg,ax92,ax93,hr94]
         refine bf (by kernel_rfl) ?_
         cases hh
         try simp only[aR,seval,hr1,hr4,hr6,er6,q59a,q59b,q59c,q59d,q59e,ax80,aq82,fq82,hr83,hr84,ax80,aq85,fq85,Zg,ax92,ax93,hr94]
         refine jN ?_
         refine⟨v9g,v11g,v32g,vn32g,?_,?_,?_,?_,?_,?_,?_,?_,?_,?_,?_⟩
         all_goals (first|rfl|omega|(simp only[aR,seval,hr1,hr4,hr6,er6,q59a,q59b,q59c,q59d,q59e,ax80,aq82,fq82,hr83,hr84,ax80,aq85,fq85,Zg,ax92,ax93,hr94]<;>rfl))
        ·cases hh
         try simp only[aR,seval,hr1,hr4,hr6,er6,q59a,q59b,q59c,q59d,q59e,ax80,aq82,fq82,hr83,hr84,ax80,aq85,fq85,Zg]
         refine kW ?_
         refine⟨rfl,⟨v9g,v11g,v32g,vn32g,?_,?_,?_,?_,?_,?_,?_,?_⟩⟩
         all_goals (first|rfl|omega|(simp only[aR,seval,hr1,hr4,hr6,er6,q59a,q59b,q59c,q59d,q59e,ax80,aq82,fq82,hr83,hr84,ax80,aq85,fq85,Zg]<;>rfl))
       ·rintro x t H e hx
        rcases o90 with⟨r11_0gx,r11_1gx,r11_2gx,r11_3gx⟩
        dsimp only at hx hh
        obtain⟨rfl,⟨v9gx,v11gx,v32gx,vn32gx,Zgx⟩⟩:=hx
        obtain⟨x95,hx95,hh⟩:=ah hh
        have ax95:=bG av hx95
        simp only[bB]at ax95
        have p96:=eO av (x':=(al.mk (an.mk r11_0gx r11_1gx) (an.mk r11_2gx r11_3gx))) (fo:=0) (cs:=[.int .i64 r11_0gx,.sl false false r11_1gx.length (ae (eI .i64) r11_1gx),.int .i64 r11_2gx,.sl false false r11_3gx.length (ae (eI .i64) r11_3gx)]) hx95 rfl (ad4 rfl)
        simp only[bB,Nat.add_zero]at p96
        have up96:=p96
        simp only[putCells,List.length_cons,List.length_nil,ada,Nat.reduceAdd]at up96
        cases hh
        try simp only[aR,seval,hr1,hr4,hr6,er6,q59a,q59b,q59c,q59d,q59e,ax80,aq82,fq82,hr83,hr84,ax80,aq85,fq85,Zgx,ax95,p96,up96]
        refine jN ?_
        refine⟨v9gx,v32gx,vn32gx,?_,?_,?_,?_,?_,?_⟩
        all_goals (first|rfl|omega|(simp only[aR,seval,hr1,hr4,hr6,er6,q59a,q59b,q59c,q59d,q59e,ax80,aq82,fq82,hr83,hr84,ax80,aq85,fq85,Zgx,ax95,p96,up96]<;>rfl))
      ·cases hh
       try simp only[aR,seval,hr1,hr4,hr6,er6,q59a,q59b,q59c,q59d,q59e,Ze]
       refine kW ?_
       refine⟨rfl,⟨v9e,?_,?_⟩⟩
       all_goals first|rfl|(simp only[aR,seval,hr1,hr4,hr6,er6,q59a,q59b,q59c,q59d,q59e,Ze]<;>rfl)
     ·rintro x t H e hx
      obtain⟨l9ex,rfl⟩:∃z,z=o78:=⟨_,rfl⟩
      dsimp only at hx hh
      obtain⟨rfl,⟨v9ex,Zex⟩⟩:=hx
      cases hh
      try simp only[aR,seval,hr1,hr4,hr6,er6,q59a,q59b,q59c,q59d,q59e,Zex]
 ·clear hh
  have hh:=ho2
  try simp only[aR,seval,hr1]
  refine sp bd hh (fun _ hh =>?_) (fun _ hh =>?_)
  ·cases hh
   try simp only[aR,seval,hr1]
   rw[au]
   refine⟨_,rfl,?_⟩
   refine⟨0,?_,?_,?_,?_⟩
   all_goals first|rfl|(simp only[aR,seval,hr1]<;>rfl)
  ·obtain⟨r98,hr98,hh⟩:=ah hh
   cases hh
   try simp only[aR,seval,hr1,hr98]
   rw[au]
   refine⟨_,rfl,?_⟩
   refine⟨0,?_,?_,?_,?_⟩
   all_goals first|rfl|(simp only[aR,seval,hr1,hr98]<;>rfl)
theorem tn:bY Try.prog 13 nQ:=bY.of (mode := .clean) tok KP mixed Try.func13 (by kernel_rfl) ⟨by kernel_rfl,by kernel_rfl⟩ (fun _=>ad4 (by kernel_rfl)) (fun x r h=>OZ x.1 x.2 r h)
noncomputable def pz:=gf (iQ (cW eM) (fP (cW eM))) (fun x:an×an=>gW x.1 x.2) (fun r:Bool =>.clean (.bool r))
theorem vu (p0_0:Int) (p0_1:(List Int)) (p1_0:Int) (p1_1:(List Int)):pz none [.agg [.int .i64 p0_0,.sl false false p0_1.length (ae (eI .i64) p0_1)],.agg [.int .i64 p1_0,.sl false false p1_1.length (ae (eI .i64) p1_1)]]=(gW (an.mk p0_0 p0_1) (an.mk p1_0 p1_1)).map fun r:Bool=>(.clean (.bool r),none):=aW _ _ _ ((an.mk p0_0 p0_1),(an.mk p1_0 p1_1))
theorem DY (p0:an) (p1:an) (r:Bool) (hh:gW p0 p1=some r):a8 .clean tab a6 FU Try.f53 none [.agg [.int .i64 p0.ag,.sl false false p0.aa.length (ae (eI .i64) p0.aa)],.agg [.int .i64 p1.ag,.sl false false p1.aa.length (ae (eI .i64) p1.aa)]]=some (.clean (.bool r),none):=by
 refine aC rfl Try.ntmps53 Try.results53 ?_
 unfold gW at hh
 try simp only[w,seval]
 obtain⟨o1,ho1,hh⟩:=ah hh
 refine bJ 0 (fun s t H e=>match s with|s19j1=>∃v2j1:Nat,∃v3j1:Nat,t 2=.ptr 2 v2j1 0∧t 3=.ptr 3 v3j1 0∧t 19=.bool s19j1∧H 2=some ⟨v2j1,39,[.int .i64 p0.ag,.sl false false p0.aa.length (ae (eI .i64) p0.aa)],false,false,false⟩∧H 3=some ⟨v3j1,39,[.int .i64 p1.ag,.sl false false p1.aa.length (ae (eI .i64) p1.aa)],false,false,false⟩) (fun s=>s=o1) ?_ ?_
 ·rintro s19j1 t H e ⟨v2j1,v3j1,Zj1⟩ rfl
  try dsimp only at hh
  try simp only[w,seval,Zj1]
  refine sp aq hh (fun _ hh =>?_) (fun _ hh =>?_)
  ·cases hh
   try simp only[w,seval,Zj1]
  ·try simp only[w,seval,Zj1]
   obtain⟨o7,ho7,hh⟩:=ah hh
   refine aB (fun s t H e=>match s with|s5b=>∃v2b:Nat,∃v3b:Nat,t 2=.ptr 2 v2b 0∧t 3=.ptr 3 v3b 0∧t 5=.int .i64 s5b∧H 2=some ⟨v2b,39,[.int .i64 p0.ag,.sl false false p0.aa.length (ae (eI .i64) p0.aa)],false,false,false⟩∧H 3=some ⟨v3b,39,[.int .i64 p1.ag,.sl false false p1.aa.length (ae (eI .i64) p1.aa)],false,false,false⟩) (fun o x t H e=>match o with|(.inl _)=>x=.exit 0|(.inr r)=>x=.ret∧jv .clean tab none [.tmp 4] ⟨t,EH H,e⟩=some (.clean (.bool r),none)) ho7 ?_ ?_ ?_
   ·refine⟨v2j1,v3j1,?_,?_,?_,?_,?_⟩
    all_goals first|rfl|(simp only[w,seval,Zj1]<;>rfl)
   ·rintro s5b t H e ⟨v2b,v3b,Zb⟩ c hh
    simp only[lH]at hh
    try simp only[w,seval,Zb]
    refine sp aq hh (fun _ hh =>?_) (fun _ hh =>?_)
    ·obtain⟨x9,hx9,hh⟩:=ah hh
     have ax9:=bG (eI .i64) hx9
     simp only[bB]at ax9
     obtain⟨x10,hx10,hh⟩:=ah hh
     have ax10:=bG (eI .i64) hx10
     simp only[bB]at ax10
     try simp only[w,seval,Zb,ax9,ax10]
     refine bf (by kernel_rfl) ?_
     try simp only[w,seval,Zb,ax9,ax10]
     refine sp aq hh (fun _ hh =>?_) (fun _ hh =>?_)
     ·cases hh
      try simp only[w,seval,Zb,ax9,ax10]
      refine DR ⟨rfl,?_⟩
      try simp only[w,seval,Zb,ax9,ax10]
     ·cases hh
      try simp only[w,seval,Zb,ax9,ax10]
      refine jN ?_
      refine⟨v2b,v3b,?_,?_,?_,?_,?_⟩
      all_goals first|rfl|(simp only[w,seval,Zb,ax9,ax10]<;>rfl)
    ·cases hh
     try simp only[w,seval,Zb]
     refine kW ?_
     exact rfl
   ·rintro x t H e hx
    rcases o7 with _|rb
    ·dsimp only at hx hh
     subst hx
     cases hh
     try simp only[w,seval]
    ·dsimp only at hx hh
     obtain⟨rfl,hE⟩:=hx
     cases hh
     try simp only[bO,bI,b6,eJ,eF,dE,dF]
     exact hE
 ·clear hh
  have hh:=ho1
  try simp only[w,seval]
  refine sp bd hh (fun _ hh =>?_) (fun _ hh =>?_)
  ·cases hh
   try simp only[w,seval]
   rw[au]
   refine⟨_,rfl,?_⟩
   refine⟨0,0,?_,?_,?_,?_,?_⟩
   all_goals first|rfl|(simp only[w,seval]<;>rfl)
  ·cases hh
   try simp only[w,seval]
   rw[au]
   refine⟨_,rfl,?_⟩
   refine⟨0,0,?_,?_,?_,?_,?_⟩
   all_goals first|rfl|(simp only[w,seval]<;>rfl)
theorem CN:bY Try.prog 53 pz:=bY.of (mode := .clean) tok bD.none mixed Try.func53 (by kernel_rfl) ⟨by kernel_rfl,by kernel_rfl⟩ (fun _=>ad4 (by kernel_rfl)) (fun x r h=>DY x.1 x.2 r h)
noncomputable def qf:=gf (iQ (cW av) (fP (cW av))) (fun x:al×al=>j0 x.1 x.2) (fun r:Bool =>.clean (.bool r))
theorem rq (p0_0:Int) (p0_1:(List Int)) (p0_2:Int) (p0_3:(List Int)) (p1_0:Int) (p1_1:(List Int)) (p1_2:Int) (p1_3:(List Int)):qf none [.agg [.int .i64 p0_0,.sl false false p0_1.length (ae (eI .i64) p0_1),.int .i64 p0_2,.sl false false p0_3.length (ae (eI .i64) p0_3)],.agg [.int .i64 p1_0,.sl false false p1_1.length (ae (eI .i64) p1_1),.int .i64 p1_2,.sl false false p1_3.length (ae (eI .i64) p1_3)]]=(j0 (al.mk (an.mk p0_0 p0_1) (an.mk p0_2 p0_3)) (al.mk (an.mk p1_0 p1_1) (an.mk p1_2 p1_3))).map fun r:Bool=>(.clean (.bool r),none):=aW _ _ _ ((al.mk (an.mk p0_0 p0_1) (an.mk p0_2 p0_3)),(al.mk (an.mk p1_0 p1_1) (an.mk p1_2 p1_3)))
noncomputable def qV:Env:=(Am.ext a6 53 false pz)
theorem KN:bD Try.prog qV:=(bD.none.add CN false)
theorem wo:type_of% (ai @w<|ai @vu<|@qV.eq_1):=⟨@w,@vu,@qV.eq_1⟩
theorem OX (p0:al) (p1:al) (r:Bool) (hh:j0 p0 p1=some r):a8 .clean tab qV FU Try.f23 none [.agg [.int .i64 p0.aH.ag,.sl false false p0.aH.aa.length (ae (eI .i64) p0.aH.aa),.int .i64 p0.aK.ag,.sl false false p0.aK.aa.length (ae (eI .i64) p0.aK.aa)],.agg [.int .i64 p1.aH.ag,.sl false false p1.aH.aa.length (ae (eI .i64) p1.aH.aa),.int .i64 p1.aK.ag,.sl false false p1.aK.aa.length (ae (eI .i64) p1.aK.aa)]]=some (.clean (.bool r),none):=by
 refine aC rfl Try.ntmps23 Try.results23 ?_
 unfold j0 at hh
 obtain⟨r1,hr1,hh⟩:=ah hh
 try simp only[wo,seval,hr1]
 refine sp dW hh (fun _ hh =>?_) (fun _ hh =>?_)
 ·obtain⟨r3,hr3,hh⟩:=ah hh
  cases hh
  try simp only[wo,seval,hr1,hr3]
 ·cases hh
  try simp only[wo,seval,hr1]
theorem zC:bY Try.prog 23 qf:=bY.of (mode := .clean) tok KN mixed Try.func23 (by kernel_rfl) ⟨by kernel_rfl,by kernel_rfl⟩ (fun _=>ad4 (by kernel_rfl)) (fun x r h=>OX x.1 x.2 r h)
noncomputable def vJ:=gf (iQ (mB av) (fP (mB av))) (fun x:(List al)×(List al)=>tu x.1 x.2) (fun r:Bool =>.clean (.bool r))
theorem CZ (p0:(List al)) (p1:(List al)):vJ none [.sl false false p0.length (ae av p0),.sl false false p1.length (ae av p1)]=(tu p0 p1).map fun r:Bool=>(.clean (.bool r),none):=aW _ _ _ (p0,p1)
noncomputable def qW:Env:=(Am.ext a6 23 false qf)
theorem KO:bD Try.prog qW:=(bD.none.add zC false)
theorem er:type_of% (ai @w<|ai @rq<|@qW.eq_1):=⟨@w,@rq,@qW.eq_1⟩
theorem OY (p0:(List al)) (p1:(List al)) (r:Bool) (hh:tu p0 p1=some r):a8 .clean tab qW FU Try.f16 none [.sl false false p0.length (ae av p0),.sl false false p1.length (ae av p1)]=some (.clean (.bool r),none):=by
 refine aC rfl Try.ntmps16 Try.results16 ?_
 unfold tu at hh
 try simp only[er,seval]
 refine sp aq hh (fun _ hh =>?_) (fun _ hh =>?_)
 ·cases hh
  try simp only[er,seval]
 ·try simp only[er,seval]
  obtain⟨o7,ho7,hh⟩:=ah hh
  refine aB (fun s t H e=>match s with|s5a=>t 0=.sl false false p0.length (ae av p0)∧t 1=.sl false false p1.length (ae av p1)∧t 5=.int .i64 s5a) (fun o x t H e=>match o with|(.inl _)=>x=.exit 0|(.inr r)=>x=.ret∧jv .clean tab none [.tmp 4] ⟨t,EH H,e⟩=some (.clean (.bool r),none)) ho7 ?_ ?_ ?_
  ·refine⟨?_,?_,?_⟩
   all_goals first|rfl|(simp only[er,seval]<;>rfl)
  ·rintro s5a t H e Za c hh
   simp only[zP]at hh
   try simp only[er,seval,Za]
   refine sp aq hh (fun _ hh =>?_) (fun _ hh =>?_)
   ·obtain⟨x9,hx9,hh⟩:=ah hh
    have ax9:=bG av hx9
    simp only[bB]at ax9
    obtain⟨x10,hx10,hh⟩:=ah hh
    have ax10:=bG av hx10
    simp only[bB]at ax10
    obtain⟨r11,hr11,hh⟩:=ah hh
    try simp only[er,seval,Za,ax9,ax10,hr11]
    refine bf (by kernel_rfl) ?_
    try simp only[er,seval,Za,ax9,ax10,hr11]
    refine sp aq hh (fun _ hh =>?_) (fun _ hh =>?_)
    ·cases hh
     try simp only[er,seval,Za,ax9,ax10,hr11]
     refine DR ⟨rfl,?_⟩
     try simp only[er,seval,Za,ax9,ax10,hr11]
    ·cases hh
     try simp only[er,seval,Za,ax9,ax10,hr11]
     refine jN ?_
     refine⟨?_,?_,?_⟩
     all_goals first|rfl|(simp only[er,seval,Za,ax9,ax10,hr11]<;>rfl)
   ·cases hh
    try simp only[er,seval,Za]
    refine kW ?_
    exact rfl
  ·rintro x t H e hx
   rcases o7 with _|ra
   ·dsimp only at hx hh
    subst hx
    cases hh
    try simp only[er,seval]
   ·dsimp only at hx hh
    obtain⟨rfl,hE⟩:=hx
    cases hh
    try simp only[bO,bI,b6,eJ,eF,dE,dF]
    exact hE
theorem MB:bY Try.prog 16 vJ:=bY.of (mode := .clean) tok KO mixed Try.func16 (by kernel_rfl) ⟨by kernel_rfl,by kernel_rfl⟩ (fun _=>ad4 (by kernel_rfl)) (fun x r h=>OY x.1 x.2 r h)
noncomputable def pr:=gf (iQ (cW eM) (fP (cW eM))) (fun x:an×an=>iV x.1 x.2) (fun r:Int =>.clean (.int .i64 r))
theorem vp (p0_0:Int) (p0_1:(List Int)) (p1_0:Int) (p1_1:(List Int)):pr none [.agg [.int .i64 p0_0,.sl false false p0_1.length (ae (eI .i64) p0_1)],.agg [.int .i64 p1_0,.sl false false p1_1.length (ae (eI .i64) p1_1)]]=(iV (an.mk p0_0 p0_1) (an.mk p1_0 p1_1)).map fun r:Int=>(.clean (.int .i64 r),none):=aW _ _ _ ((an.mk p0_0 p0_1),(an.mk p1_0 p1_1))
noncomputable def ml:Env:=(Am.ext (Am.ext (Am.ext a6 50 false eC) 66 false im) 78 false jP)
theorem B2:bD Try.prog ml:=(((bD.none.add fe false).add lD false).add ot false)
theorem cV:type_of% (ai @w<|ai @cd<|ai @fj<|ai @iA<|@ml.eq_1):=⟨@w,@cd,@fj,@iA,@ml.eq_1⟩
theorem DS (p0:an) (p1:an) (r:Int) (hh:iV p0 p1=some r):a8 .clean tab ml FU Try.f54 none [.agg [.int .i64 p0.ag,.sl false false p0.aa.length (ae (eI .i64) p0.aa)],.agg [.int .i64 p1.ag,.sl false false p1.aa.length (ae (eI .i64) p1.aa)]]=some (.clean (.int .i64 r),none):=by
 refine aC rfl Try.ntmps54 Try.results54 ?_
 unfold iV at hh
 obtain⟨r1,hr1,hh⟩:=ah hh
 try simp only[cV,seval,hr1]
 obtain⟨o2,ho2,hh⟩:=ah hh
 refine bJ 0 (fun s t H e=>match s with|s12j1=>∃v2j1:Nat,∃v3j1:Nat,t 2=.ptr 2 v2j1 0∧t 3=.ptr 3 v3j1 0∧t 12=.bool s12j1∧H 2=some ⟨v2j1,39,[.int .i64 p0.ag,.sl false false p0.aa.length (ae (eI .i64) p0.aa)],false,false,false⟩∧H 3=some ⟨v3j1,39,[.int .i64 p1.ag,.sl false false p1.aa.length (ae (eI .i64) p1.aa)],false,false,false⟩) (fun s=>s=o2) ?_ ?_
 ·rintro s12j1 t H e ⟨v2j1,v3j1,Zj1⟩ rfl
  try dsimp only at hh
  try simp only[cV,seval,hr1,Zj1]
  refine sp aq hh (fun _ hh =>?_) (fun _ hh =>?_)
  ·cases hh
   try simp only[cV,seval,hr1,Zj1]
  ·try simp only[cV,seval,hr1,Zj1]
   refine sp aq hh (fun _ hh =>?_) (fun _ hh =>?_)
   ·obtain⟨r5,hr5,hh⟩:=ah hh
    cases hh
    try simp only[cV,seval,hr1,Zj1,hr5]
   ·obtain⟨r6,hr6,hh⟩:=ah hh
    try simp only[cV,seval,hr1,Zj1,hr6]
    refine bf (by kernel_rfl) ?_
    cases hh
    try simp only[cV,seval,hr1,Zj1,hr6]
 ·clear hh
  have hh:=ho2
  try simp only[cV,seval,hr1]
  refine sp bd hh (fun _ hh =>?_) (fun _ hh =>?_)
  ·cases hh
   try simp only[cV,seval,hr1]
   rw[au]
   refine⟨_,rfl,?_⟩
   refine⟨0,0,?_,?_,?_,?_,?_⟩
   all_goals first|rfl|(simp only[cV,seval,hr1]<;>rfl)
  ·obtain⟨r8,hr8,hh⟩:=ah hh
   cases hh
   try simp only[cV,seval,hr1,hr8]
   rw[au]
   refine⟨_,rfl,?_⟩
   refine⟨0,0,?_,?_,?_,?_,?_⟩
   all_goals first|rfl|(simp only[cV,seval,hr1,hr8]<;>rfl)
theorem CD:bY Try.prog 54 pr:=bY.of (mode := .clean) tok B2 mixed Try.func54 (by kernel_rfl) ⟨by kernel_rfl,by kernel_rfl⟩ (fun _=>ad4 (by kernel_rfl)) (fun x r h=>DS x.1 x.2 r h)
noncomputable def kX:=gf (iQ (cW av) (fP (cW av))) (fun x:al×al=>fW x.1 x.2) (fun r:Int =>.clean (.int .i64 r))
theorem lF (p0_0:Int) (p0_1:(List Int)) (p0_2:Int) (p0_3:(List Int)) (p1_0:Int) (p1_1:(List Int)) (p1_2:Int) (p1_3:(List Int)):kX none [.agg [.int .i64 p0_0,.sl false false p0_1.length (ae (eI .i64) p0_1),.int .i64 p0_2,.sl false false p0_3.length (ae (eI .i64) p0_3)],.agg [.int .i64 p1_0,.sl false false p1_1.length (ae (eI .i64) p1_1),.int .i64 p1_2,.sl false false p1_3.length (ae (eI .i64) p1_3)]]=(fW (al.mk (an.mk p0_0 p0_1) (an.mk p0_2 p0_3)) (al.mk (an.mk p1_0 p1_1) (an.mk p1_2 p1_3))).map fun r:Int=>(.clean (.int .i64 r),none):=aW _ _ _ ((al.mk (an.mk p0_0 p0_1) (an.mk p0_2 p0_3)),(al.mk (an.mk p1_0 p1_1) (an.mk p1_2 p1_3)))
noncomputable def lr:Env:=(Am.ext (Am.ext (Am.ext a6 22 false dP) 48 false jo) 54 false pr)
theorem Af:bD Try.prog lr:=(((bD.none.add ey false).add mu false).add CD false)
theorem dq:type_of% (ai @w<|ai @bR<|ai @gh<|ai @vp<|@lr.eq_1):=⟨@w,@bR,@gh,@vp,@lr.eq_1⟩
theorem Cp (p0:al) (p1:al) (r:Int) (hh:fW p0 p1=some r):a8 .clean tab lr FU Try.f24 none [.agg [.int .i64 p0.aH.ag,.sl false false p0.aH.aa.length (ae (eI .i64) p0.aH.aa),.int .i64 p0.aK.ag,.sl false false p0.aK.aa.length (ae (eI .i64) p0.aK.aa)],.agg [.int .i64 p1.aH.ag,.sl false false p1.aH.aa.length (ae (eI .i64) p1.aH.aa),.int .i64 p1.aK.ag,.sl false false p1.aK.aa.length (ae (eI .i64) p1.aK.aa)]]=some (.clean (.int .i64 r),none):=by
 refine aC rfl Try.ntmps24 Try.results24 ?_
 unfold fW at hh
 obtain⟨r1,hr1,hh⟩:=ah hh
 try simp only[dq,seval,hr1]
 obtain⟨o2,ho2,hh⟩:=ah hh
 refine bJ 0 (fun s t H e=>match s with|s12j1=>∃v2j1:Nat,∃v3j1:Nat,t 2=.ptr 2 v2j1 0∧t 3=.ptr 3 v3j1 0∧t 12=.bool s12j1∧H 2=some ⟨v2j1,41,[.int .i64 p0.aH.ag,.sl false false p0.aH.aa.length (ae (eI .i64) p0.aH.aa),.int .i64 p0.aK.ag,.sl false false p0.aK.aa.length (ae (eI .i64) p0.aK.aa)],false,false,false⟩∧H 3=some ⟨v3j1,41,[.int .i64 p1.aH.ag,.sl false false p1.aH.aa.length (ae (eI .i64) p1.aH.aa),.int .i64 p1.aK.ag,.sl false false p1.aK.aa.length (ae (eI .i64) p1.aK.aa)],false,false,false⟩) (fun s=>s=o2) ?_ ?_
 ·rintro s12j1 t H e ⟨v2j1,v3j1,Zj1⟩ rfl
  try dsimp only at hh
  try simp only[dq,seval,hr1,Zj1]
  refine sp aq hh (fun _ hh =>?_) (fun _ hh =>?_)
  ·cases hh
   try simp only[dq,seval,hr1,Zj1]
  ·obtain⟨r4,hr4,hh⟩:=ah hh
   obtain⟨r5,hr5,hh⟩:=ah hh
   obtain⟨r6,hr6,hh⟩:=ah hh
   try simp only[dq,seval,hr1,Zj1,hr4,hr5,hr6]
   refine bf (by kernel_rfl) ?_
   cases hh
   try simp only[dq,seval,hr1,Zj1,hr4,hr5,hr6]
 ·clear hh
  have hh:=ho2
  try simp only[dq,seval,hr1]
  refine sp bd hh (fun _ hh =>?_) (fun _ hh =>?_)
  ·cases hh
   try simp only[dq,seval,hr1]
   rw[au]
   refine⟨_,rfl,?_⟩
   refine⟨0,0,?_,?_,?_,?_,?_⟩
   all_goals first|rfl|(simp only[dq,seval,hr1]<;>rfl)
  ·obtain⟨r8,hr8,hh⟩:=ah hh
   cases hh
   try simp only[dq,seval,hr1,hr8]
   rw[au]
   refine⟨_,rfl,?_⟩
   refine⟨0,0,?_,?_,?_,?_,?_⟩
   all_goals first|rfl|(simp only[dq,seval,hr1,hr8]<;>rfl)
theorem rR:bY Try.prog 24 kX:=bY.of (mode := .clean) tok Af mixed Try.func24 (by kernel_rfl) ⟨by kernel_rfl,by kernel_rfl⟩ (fun _=>ad4 (by kernel_rfl)) (fun x r h=>Cp x.1 x.2 r h)
noncomputable def mg:=gf (iQ (cW m5) (iQ (mB av) (fP (mB av)))) (fun x:bW×(List al)×(List al)=>kP x.1 x.2.1 x.2.2) (fun r:Bool =>.clean (.bool r))
theorem jZ (p0_0:Int) (p0_1:(List di)) (p1:(List al)) (p2:(List al)):mg none [.agg [.int .i64 p0_0,.sl false false p0_1.length (ae a7 p0_1)],.sl false false p1.length (ae av p1),.sl false false p2.length (ae av p2)]=(kP (bW.mk p0_0 p0_1) p1 p2).map fun r:Bool=>(.clean (.bool r),none):=aW _ _ _ ((bW.mk p0_0 p0_1),p1,p2)
noncomputable def mr:Env:=(Am.ext (Am.ext (Am.ext (Am.ext (Am.ext a6 11 false mA) 24 false kX) 39 false j6) 40 false kZ) 43 false jq)
theorem B7:bD Try.prog mr:=(((((bD.none.add ri false).add rR false).add pQ false).add vZ false).add mv false)
theorem aS:type_of% (ai @w<|ai @kM<|ai @lF<|ai @ke<|ai @pg<|ai @gi<|@mr.eq_1):=⟨@w,@kM,@lF,@ke,@pg,@gi,@mr.eq_1⟩
end Go.Proofs.Ytchndpjlijbplaa.Am
