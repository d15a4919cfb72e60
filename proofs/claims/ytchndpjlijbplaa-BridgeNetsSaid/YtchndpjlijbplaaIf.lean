/- Part of a proof. -/
import Derived.Test.YtchndpjlijbplaaIe
set_option linter.unusedSimpArgs false
set_option linter.unusedVariables false
noncomputable section
namespace Go.Proofs.Ytchndpjlijbplaa.Am
open Go.RowKit Go.Proofs.Ytchndpjlijbplaa.P
set_option maxRecDepth 100000
set_option maxHeartbeats 4000000
theorem J1 (p0:de) (r:Bool) (hh:ll p0=some r):a6 .clean tab oI FU Try.f28 none [.agg [.int .i64 p0.aG,.sl false false p0.aw.length (ae ba p0.aw)]]=some (.clean (.bool r),none):=by
 apply aD rfl Try.ntmps28 Try.results28
 unfold ll at hh
 try simp only[bJ,seval]
 obtain⟨o7,ho7,hh⟩:=ag hh
 refine aB (fun s t H e=>match s with|s3a=>∃v1a:Nat,t 1=.ptr 1 v1a 0∧t 3=.int .i64 s3a∧H 1=some ⟨v1a,24,[.int .i64 p0.aG,.sl false false p0.aw.length (ae ba p0.aw)],false,false,false⟩) (fun o x t H e=>match o with|(.inl _)=>x=.exit 0∧∃v1ax:Nat,t 1=.ptr 1 v1ax 0∧H 1=some ⟨v1ax,24,[.int .i64 p0.aG,.sl false false p0.aw.length (ae ba p0.aw)],false,false,false⟩|(.inr r)=>x=.ret∧iP .clean tab none [.tmp 2] ⟨t,EH H,e⟩=some (.clean (.bool r),none)) ho7 ?_ ?_ ?_
 ·refine⟨0,?_,?_,?_⟩
  all_goals first|rfl|(simp only[bJ,seval]<;>rfl)
 ·rintro s3a t H e ⟨v1a,Za⟩ c hh
  simp only[nB]at hh
  try simp only[bJ,seval,Za]
  obtain⟨o8,ho8,hh⟩:=ag hh
  refine bP 0 (fun s t H e=>match s with|s12j3=>∃v1j3:Nat,t 1=.ptr 1 v1j3 0∧t 3=.int .i64 s3a∧t 12=.bool s12j3∧H 1=some ⟨v1j3,24,[.int .i64 p0.aG,.sl false false p0.aw.length (ae ba p0.aw)],false,false,false⟩) (fun s=>s=o8) ?_ ?_
  ·rintro s12j3 t H e ⟨v1j3,Zj3⟩ rfl
   try dsimp only at hh
   try simp only[bJ,seval,Zj3]
   apply sp au hh<;>intro _ hh
   ·obtain⟨x10,hx10,hh⟩:=ag hh
    have ax10:=bm ba hx10
    simp only[bo]at ax10
    obtain⟨r11,hr11,hh⟩:=ag hh
    try simp only[bJ,seval,Zj3,ax10,hr11]
    apply sp au hh<;>intro _ hh
    ·cases hh
     try simp only[bJ,seval,Zj3,ax10,hr11]
     refine BI ⟨rfl,?_⟩
     try simp only[bJ,seval,Zj3,ax10,hr11]
    ·cases hh
     try simp only[bJ,seval,Zj3,ax10,hr11]
     apply iC
     refine⟨v1j3,?_,?_,?_⟩
     all_goals first|rfl|(simp only[bJ,seval,Zj3,ax10,hr11]<;>rfl)
   ·cases hh
    try simp only[bJ,seval,Zj3]
    apply jP
    refine⟨rfl,⟨v1j3,?_,?_⟩⟩
    all_goals first|rfl|(simp only[bJ,seval,Zj3]<;>rfl)
  ·clear hh
   have hh:=ho8
   try simp only[bJ,seval,Za]
   apply sp dj hh<;>intro _ hh
   ·cases hh
    try simp only[bJ,seval,Za]
    rw[av]
    refine⟨_,rfl,?_⟩
    refine⟨v1a,?_,?_,?_,?_⟩
    all_goals first|rfl|(simp only[bJ,seval,Za]<;>rfl)
   ·cases hh
    try simp only[bJ,seval,Za]
    rw[av]
    refine⟨_,rfl,?_⟩
    refine⟨v1a,?_,?_,?_,?_⟩
    all_goals first|rfl|(simp only[bJ,seval,Za]<;>rfl)
 ·rintro x t H e hx
  rcases o7 with _|ra
  ·dsimp only at hx hh
   obtain⟨rfl,⟨v1ax,Zax⟩⟩:=hx
   try simp only[bJ,seval,Zax]
   apply sp bc hh<;>intro _ hh
   ·cases hh
    try simp only[bJ,seval,Zax]
   ·try simp only[bJ,seval,Zax]
    apply sp dj hh<;>intro _ hh
    ·cases hh
     try simp only[bJ,seval,Zax]
    ·cases hh
     try simp only[bJ,seval,Zax]
  ·dsimp only at hx hh
   obtain⟨rfl,hE⟩:=hx
   cases hh
   try simp only[bn,bg,bB,dn,dm,ct,cu]
   exact hE
theorem FY:bT Try.prog 28 rL:=bT.of (mode := .clean) tok FH mixed Try.func28 (by kernel_rfl) ⟨by kernel_rfl,by kernel_rfl⟩ (fun _=>agv (by kernel_rfl)) (fun x r h=>J1 x r h)
def zC:=fR (jE (lM an) (fH (aI .i64))) (fun x:(List al)×Int=>qB x.1 x.2) (fun r:Bool =>.clean (.bool r))
theorem Im (p0:(List al)) (p1:Int):zC none [.sl false false p0.length (ae an p0),.int .i64 p1]=(qB p0 p1).map fun r:Bool=>(.clean (.bool r),none):=aN _ _ _ (p0,p1)
def vQ:Env:=(Am.ext aY 21 false vf)
theorem Qv:bq Try.prog vQ:=(bq.none.add Ew false)
theorem dS:type_of% (ai @w<|ai @v5<|@vQ.eq_1):=⟨@w,@v5,@vQ.eq_1⟩
theorem Vi (p0:(List al)) (p1:Int) (r:Bool) (hh:qB p0 p1=some r):a6 .clean tab vQ FU Try.f10 none [.sl false false p0.length (ae an p0),.int .i64 p1]=some (.clean (.bool r),none):=by
 apply aD rfl Try.ntmps10 Try.results10
 unfold qB at hh
 try simp only[dS,seval]
 obtain⟨o7,ho7,hh⟩:=ag hh
 refine aB (fun s t H e=>match s with|s5a=>t 0=.sl false false p0.length (ae an p0)∧t 1=.int .i64 p1∧t 5=.int .i64 s5a) (fun o x t H e=>match o with|(.inl _)=>x=.exit 0∧t 0=.sl false false p0.length (ae an p0)|(.inr r)=>x=.ret∧iP .clean tab none [.tmp 4] ⟨t,EH H,e⟩=some (.clean (.bool r),none)) ho7 ?_ ?_ ?_
 ·refine⟨?_,?_,?_⟩
  all_goals first|rfl|(simp only[dS,seval]<;>rfl)
 ·rintro s5a t H e Za c hh
  simp only[sN]at hh
  try simp only[dS,seval,Za]
  obtain⟨o8,ho8,hh⟩:=ag hh
  refine bP 0 (fun s t H e=>match s with|s13j3=>t 0=.sl false false p0.length (ae an p0)∧t 1=.int .i64 p1∧t 5=.int .i64 s5a∧t 13=.bool s13j3) (fun s=>s=o8) ?_ ?_
  ·rintro s13j3 t H e Zj3 rfl
   try dsimp only at hh
   try simp only[dS,seval,Zj3]
   apply sp au hh<;>intro _ hh
   ·obtain⟨x10,hx10,hh⟩:=ag hh
    have ax10:=bm an hx10
    simp only[bo]at ax10
    obtain⟨r11,hr11,hh⟩:=ag hh
    try simp only[dS,seval,Zj3,ax10,hr11]
    apply sp au hh<;>intro _ hh
    ·cases hh
     try simp only[dS,seval,Zj3,ax10,hr11]
     refine BI ⟨rfl,?_⟩
     try simp only[dS,seval,Zj3,ax10,hr11]
    ·cases hh
     try simp only[dS,seval,Zj3,ax10,hr11]
     apply iC
     refine⟨?_,?_,?_⟩
     all_goals first|rfl|(simp only[dS,seval,Zj3,ax10,hr11]<;>rfl)
   ·cases hh
    try simp only[dS,seval,Zj3]
    apply jP
    refine⟨rfl,?_⟩
    all_goals first|rfl|(simp only[dS,seval,Zj3]<;>rfl)
  ·clear hh
   have hh:=ho8
   try simp only[dS,seval,Za]
   apply sp dj hh<;>intro _ hh
   ·cases hh
    try simp only[dS,seval,Za]
    rw[av]
    refine⟨_,rfl,?_⟩
    refine⟨?_,?_,?_,?_⟩
    all_goals first|rfl|(simp only[dS,seval,Za]<;>rfl)
   ·cases hh
    try simp only[dS,seval,Za]
    rw[av]
    refine⟨_,rfl,?_⟩
    refine⟨?_,?_,?_,?_⟩
    all_goals first|rfl|(simp only[dS,seval,Za]<;>rfl)
 ·rintro x t H e hx
  rcases o7 with _|ra
  ·dsimp only at hx hh
   obtain⟨rfl,Zax⟩:=hx
   cases hh
   try simp only[dS,seval,Zax]
  ·dsimp only at hx hh
   obtain⟨rfl,hE⟩:=hx
   cases hh
   try simp only[bn,bg,bB,dn,dm,ct,cu]
   exact hE
theorem Q7:bT Try.prog 10 zC:=bT.of (mode := .clean) tok Qv mixed Try.func10 (by kernel_rfl) ⟨by kernel_rfl,by kernel_rfl⟩ (fun _=>agv (by kernel_rfl)) (fun x r h=>Vi x.1 x.2 r h)
def rG:=fR (fH (lM (eI .i64))) (fun x:(List Int)=>rf x) (fun r:(List al) =>.clean (.sl false false r.length (ae an r)))
theorem m6 (p0:(List Int)):rG none [.sl false false p0.length (ae (eI .i64) p0)]=(rf p0).map fun r:(List al)=>(.clean (.sl false false r.length (ae an r)),none):=aN _ _ _ (p0)
def sn:Env:=(Am.ext aY 17 false zA)
theorem MJ:bq Try.prog sn:=(bq.none.add Q5 false)
theorem jZ:type_of% (ai @w<|ai @Ik<|@sn.eq_1):=⟨@w,@Ik,@sn.eq_1⟩
theorem QL (p0:(List Int)) (r:(List al)) (hh:rf p0=some r):a6 .clean tab sn FU Try.f59 none [.sl false false p0.length (ae (eI .i64) p0)]=some (.clean (.sl false false r.length (ae an r)),none):=by
 apply aD rfl Try.ntmps59 Try.results59
 unfold rf at hh
 try simp only[jZ,seval]
 obtain⟨o6,ho6,hh⟩:=ag hh
 refine aB (fun s t H e=>match s with|(s4a,l3a)=>∃v3a:Nat,t 0=.sl false false p0.length (ae (eI .i64) p0)∧t 3=.buf 3 v3a 4 0 (l3a).length∧t 4=.int .i64 s4a∧H 3=some ⟨v3a,41,ae an l3a,false,true,false⟩) (fun o x t H e=>match o with|l3ax=>x=.exit 0∧∃v3ax:Nat,t 3=.buf 3 v3ax 4 0 (l3ax).length∧H 3=some ⟨v3ax,41,ae an l3ax,false,true,false⟩) ho6 ?_ ?_ ?_
 ·refine⟨1,?_,?_,?_,?_⟩
  all_goals first|rfl|(simp only[jZ,seval]<;>rfl)
 ·rintro⟨s4a,l3a⟩ t H e ⟨v3a,Za⟩ c hh
  simp only[A3]at hh
  try simp only[jZ,seval,Za]
  apply sp au hh<;>intro _ hh
  ·obtain⟨x8,hx8,hh⟩:=ag hh
   have ax8:=bm (eI .i64) hx8
   simp only[bo]at ax8
   obtain⟨r9,hr9,hh⟩:=ag hh
   obtain⟨x10,hx10,hh⟩:=ag hh
   obtain⟨q11a,q11b,q11c,q11d⟩:=gI an hx10
   simp only[bo]at q11b
   cases hh
   try simp only[jZ,seval,Za,ax8,hr9,q11a,q11b,q11c,q11d]
   apply iC
   refine⟨e+1,?_,?_,?_,?_⟩
   all_goals first|rfl|(simp only[jZ,seval,Za,ax8,hr9,q11a,q11b,q11c,q11d]<;>rfl)
  ·cases hh
   try simp only[jZ,seval,Za]
   apply jP
   refine⟨rfl,⟨v3a,?_,?_⟩⟩
   all_goals first|rfl|(simp only[jZ,seval,Za]<;>rfl)
 ·rintro x t H e hx
  obtain⟨l3ax,rfl⟩:∃z,z=o6:=⟨_,rfl⟩
  dsimp only at hx hh
  obtain⟨rfl,⟨v3ax,Zax⟩⟩:=hx
  cases hh
  try simp only[jZ,seval,Zax]
theorem A8:bT Try.prog 59 rG:=bT.of (mode := .clean) tok MJ mixed Try.func59 (by kernel_rfl) ⟨by kernel_rfl,by kernel_rfl⟩ (fun _=>agv (by kernel_rfl)) (fun x r h=>QL x r h)
def lR:=fR (fH (aI .u64)) (fun x:Int=>jc x) (fun r:Int =>.clean (.int .i64 r))
theorem qt (p0:Int):lR none [.int .u64 p0]=(jc p0).map fun r:Int=>(.clean (.int .i64 r),none):=aN _ _ _ (p0)
theorem yD (p0:Int) (r:Int) (hh:jc p0=some r):a6 .clean tab aY FU Try.f113 none [.int .u64 p0]=some (.clean (.int .i64 r),none):=by
 apply aD rfl Try.ntmps113 Try.results113
 unfold jc at hh
 try simp only[w,seval,-Int.reduceToNat]
 obtain⟨o1,ho1,hh⟩:=ag hh
 refine je 0 (fun s t H e=>match s with|(s0j1,s2j1)=>t 0=.int .u64 s0j1∧t 2=.int .i64 s2j1) (fun s=>s=o1) ?_ ?_
 ·rintro⟨s0j1,s2j1⟩ t H e Zj1 rfl
  try dsimp only at hh
  try simp only[w,seval,-Int.reduceToNat,Zj1]
  obtain⟨o2,ho2,hh⟩:=ag hh
  refine je 0 (fun s t H e=>match s with|(s0j2,s2j2)=>t 0=.int .u64 s0j2∧t 2=.int .i64 s2j2) (fun s=>s=o2) ?_ ?_
  ·rintro⟨s0j2,s2j2⟩ t H e Zj2 rfl
   try dsimp only at hh
   try simp only[w,seval,-Int.reduceToNat,Zj2]
   apply sp au hh<;>intro _ hh
   ·obtain⟨x4,hx4,hh⟩:=ag hh
    have q5:=gQ hx4
    try simp only[w,seval,-Int.reduceToNat,Zj2,q5]
    obtain⟨x6,hx6,hh⟩:=ag hh
    obtain⟨q7a,q7b,q7c,q7d⟩:=TP hx6
    try simp only[w,seval,-Int.reduceToNat,Zj2,q5,q7a,q7d]
    erw [q7c]
    cases hh
    try simp only[w,seval,-Int.reduceToNat,Zj2,q5,q7a,q7d]
   ·try simp only[w,seval,-Int.reduceToNat,Zj2]
    obtain⟨x8,hx8,hh⟩:=ag hh
    obtain⟨q9a,q9b,q9c,q9d⟩:=TP hx8
    try simp only[w,seval,-Int.reduceToNat,Zj2,q9a,q9d]
    erw [q9c]
    cases hh
    try simp only[w,seval,-Int.reduceToNat,Zj2,q9a,q9d]
  ·clear hh
   have hh:=ho2
   try simp only[w,seval,-Int.reduceToNat,Zj1]
   apply sp au hh<;>intro _ hh
   ·obtain⟨x11,hx11,hh⟩:=ag hh
    have q12:=gQ hx11
    cases hh
    try simp only[w,seval,-Int.reduceToNat,Zj1,q12]
    rw[av]
    refine⟨_,rfl,?_⟩
    refine⟨?_,?_⟩
    all_goals first|rfl|(simp only[w,seval,-Int.reduceToNat,Zj1,q12]<;>rfl)
   ·cases hh
    try simp only[w,seval,-Int.reduceToNat,Zj1]
    rw[av]
    refine⟨_,rfl,?_⟩
    refine⟨?_,?_⟩
    all_goals first|rfl|(simp only[w,seval,-Int.reduceToNat,Zj1]<;>rfl)
 ·clear hh
  have hh:=ho1
  try simp only[w,seval,-Int.reduceToNat]
  apply sp au hh<;>intro _ hh
  ·obtain⟨x14,hx14,hh⟩:=ag hh
   have q15:=gQ hx14
   cases hh
   try simp only[w,seval,-Int.reduceToNat,q15]
   rw[av]
   refine⟨_,rfl,?_⟩
   refine⟨?_,?_⟩
   all_goals first|rfl|(simp only[w,seval,-Int.reduceToNat,q15]<;>rfl)
  ·cases hh
   try simp only[w,seval,-Int.reduceToNat]
   rw[av]
   refine⟨_,rfl,?_⟩
   refine⟨?_,?_⟩
   all_goals first|rfl|(simp only[w,seval,-Int.reduceToNat]<;>rfl)
theorem xx:bT Try.prog 113 lR:=bT.of (mode := .clean) tok bq.none mixed Try.func113 (by kernel_rfl) ⟨by kernel_rfl,by kernel_rfl⟩ (fun _=>agv (by kernel_rfl)) (fun x r h=>yD x r h)
def nW:=fR (fH (aI .u64)) (fun x:Int=>jl x) (fun r:Int =>.clean (.int .i64 r))
theorem tj (p0:Int):nW none [.int .u64 p0]=(jl p0).map fun r:Int=>(.clean (.int .i64 r),none):=aN _ _ _ (p0)
def kS:Env:=(Am.ext aY 113 false lR)
theorem zS:bq Try.prog kS:=(bq.none.add xx false)
theorem BU:type_of% (ai @w<|ai @qt<|@kS.eq_1):=⟨@w,@qt,@kS.eq_1⟩
theorem BK (p0:Int) (r:Int) (hh:jl p0=some r):a6 .clean tab kS FU Try.f94 none [.int .u64 p0]=some (.clean (.int .i64 r),none):=by
 apply aD rfl Try.ntmps94 Try.results94
 unfold jl at hh
 obtain⟨r1,hr1,hh⟩:=ag hh
 cases hh
 try simp only[BU,seval,hr1]
theorem z8:bT Try.prog 94 nW:=bT.of (mode := .clean) tok zS mixed Try.func94 (by kernel_rfl) ⟨by kernel_rfl,by kernel_rfl⟩ (fun _=>agv (by kernel_rfl)) (fun x r h=>BK x r h)
def lP:=fR (fH (lM an)) (fun x:(List al)=>fC x) (fun r:Bool =>.clean (.bool r))
theorem mu (p0:(List al)):lP none [.sl false false p0.length (ae an p0)]=(fC p0).map fun r:Bool=>(.clean (.bool r),none):=aN _ _ _ (p0)
def ma:Env:=(Am.ext aY 22 false ec)
theorem BE:bq Try.prog ma:=(bq.none.add eS false)
theorem dB:type_of% (ai @w<|ai @bV<|@ma.eq_1):=⟨@w,@bV,@ma.eq_1⟩
theorem D5 (p0:(List al)) (r:Bool) (hh:fC p0=some r):a6 .clean tab ma FU Try.f95 none [.sl false false p0.length (ae an p0)]=some (.clean (.bool r),none):=by
 apply aD rfl Try.ntmps95 Try.results95
 unfold fC at hh
 try simp only[dB,seval]
 obtain⟨o5,ho5,hh⟩:=ag hh
 refine aB (fun s t H e=>match s with|s7a=>t 5=.sl false false p0.length (ae an p0)∧t 6=.int .i64 (p0.length:Int)∧t 7=.int .i64 s7a) (fun o x t H e=>match o with|(.inl _)=>x=.exit 0|(.inr r)=>x=.ret∧iP .clean tab none [.tmp 2] ⟨t,EH H,e⟩=some (.clean (.bool r),none)) ho5 ?_ ?_ ?_
 ·refine⟨?_,?_,?_⟩
  all_goals first|rfl|(simp only[dB,seval]<;>rfl)
 ·rintro s7a t H e Za c hh
  simp only[kQ]at hh
  try simp only[dB,seval,Za]
  apply sp au hh<;>intro _ hh
  ·obtain⟨x7,hx7,hh⟩:=ag hh
   have ax7:=bm an hx7
   simp only[bo]at ax7
   obtain⟨r8,hr8,hh⟩:=ag hh
   try simp only[dB,seval,Za,ax7,hr8]
   apply sp au hh<;>intro _ hh
   ·cases hh
    try simp only[dB,seval,Za,ax7,hr8]
    refine BI ⟨rfl,?_⟩
    try simp only[dB,seval,Za,ax7,hr8]
   ·cases hh
    try simp only[dB,seval,Za,ax7,hr8]
    apply iC
    refine⟨?_,?_,?_⟩
    all_goals first|rfl|(simp only[dB,seval,Za,ax7,hr8]<;>rfl)
  ·cases hh
   try simp only[dB,seval,Za]
   apply jP
   exact rfl
 ·rintro x t H e hx
  rcases o5 with _|ra
  ·dsimp only at hx hh
   subst hx
   cases hh
   try simp only[dB,seval]
  ·dsimp only at hx hh
   obtain⟨rfl,hE⟩:=hx
   cases hh
   try simp only[bn,bg,bB,dn,dm,ct,cu]
   exact hE
theorem th:bT Try.prog 95 lP:=bT.of (mode := .clean) tok BE mixed Try.func95 (by kernel_rfl) ⟨by kernel_rfl,by kernel_rfl⟩ (fun _=>agv (by kernel_rfl)) (fun x r h=>D5 x r h)
def jG:=fR (fH (lM an)) (fun x:(List al)=>fB x) (fun r:Int×Bool =>.clean (.tup [.int .i64 r.1,.bool r.2]))
theorem iu (p0:(List al)):jG none [.sl false false p0.length (ae an p0)]=(fB p0).map fun r:Int×Bool=>(.clean (.tup [.int .i64 r.1,.bool r.2]),none):=aN _ _ _ (p0)
def l9:Env:=(Am.ext (Am.ext aY 94 false nW) 95 false lP)
theorem BD:bq Try.prog l9:=((bq.none.add z8 false).add th false)
theorem er:type_of% (ai @w<|ai @tj<|ai @mu<|@l9.eq_1):=⟨@w,@tj,@mu,@l9.eq_1⟩
theorem D4 (p0:(List al)) (r:Int×Bool) (hh:fB p0=some r):a6 .clean tab l9 FU Try.f62 none [.sl false false p0.length (ae an p0)]=some (.clean (.tup [.int .i64 r.1,.bool r.2]),none):=by
 apply aD rfl Try.ntmps62 Try.results62
 unfold fB at hh
 obtain⟨r1,hr1,hh⟩:=ag hh
 try simp only[er,seval,-Int.reduceToNat,hr1]
 apply sp bc hh<;>intro _ hh
 ·cases hh
  try simp only[er,seval,-Int.reduceToNat,hr1]
 ·try simp only[er,seval,-Int.reduceToNat,hr1]
  apply sp bc hh<;>intro _ hh
  ·cases hh
   try simp only[er,seval,-Int.reduceToNat,hr1]
  ·obtain⟨x4,hx4,hh⟩:=ag hh
   have q5:=km hx4
   try simp only[er,seval,-Int.reduceToNat,hr1,q5]
   apply sp bc hh<;>intro _ hh
   ·cases hh
    try simp only[er,seval,-Int.reduceToNat,hr1,q5]
   ·obtain⟨r7,hr7,hh⟩:=ag hh
    try simp only[er,seval,-Int.reduceToNat,hr1,q5,hr7]
    apply sp au hh<;>intro _ hh
    ·cases hh
     try simp only[er,seval,-Int.reduceToNat,hr1,q5,hr7]
    ·cases hh
     try simp only[er,seval,-Int.reduceToNat,hr1,q5,hr7]
theorem oa:bT Try.prog 62 jG:=bT.of (mode := .clean) tok BD mixed Try.func62 (by kernel_rfl) ⟨by kernel_rfl,by kernel_rfl⟩ (fun _=>agv (by kernel_rfl)) (fun x r h=>D4 x r h)
def lQ:=fR (jE (dk an) (fH (dk an))) (fun x:al×al=>fU x.1 x.2) (fun r:al =>.clean (.agg [.int .i64 r.aJ.ah,.sl false false r.aJ.aa.length (ae (eI .i64) r.aJ.aa),.int .i64 r.aL.ah,.sl false false r.aL.aa.length (ae (eI .i64) r.aL.aa)]))
theorem kh (p0_0:Int) (p0_1:(List Int)) (p0_2:Int) (p0_3:(List Int)) (p1_0:Int) (p1_1:(List Int)) (p1_2:Int) (p1_3:(List Int)):lQ none [.agg [.int .i64 p0_0,.sl false false p0_1.length (ae (eI .i64) p0_1),.int .i64 p0_2,.sl false false p0_3.length (ae (eI .i64) p0_3)],.agg [.int .i64 p1_0,.sl false false p1_1.length (ae (eI .i64) p1_1),.int .i64 p1_2,.sl false false p1_3.length (ae (eI .i64) p1_3)]]=(fU (al.mk (aq.mk p0_0 p0_1) (aq.mk p0_2 p0_3)) (al.mk (aq.mk p1_0 p1_1) (aq.mk p1_2 p1_3))).map fun r:al=>(.clean (.agg [.int .i64 r.aJ.ah,.sl false false r.aJ.aa.length (ae (eI .i64) r.aJ.aa),.int .i64 r.aL.ah,.sl false false r.aL.aa.length (ae (eI .i64) r.aL.aa)]),none):=aN _ _ _ ((al.mk (aq.mk p0_0 p0_1) (aq.mk p0_2 p0_3)),(al.mk (aq.mk p1_0 p1_1) (aq.mk p1_2 p1_3)))
def oD:Env:=(Am.ext aY 30 false mK)
theorem FC:bq Try.prog oD:=(bq.none.add qo false)
theorem KH:type_of% (ai @w<|ai @jT<|@oD.eq_1):=⟨@w,@jT,@oD.eq_1⟩
theorem JV (p0:al) (p1:al) (r:al) (hh:fU p0 p1=some r):a6 .clean tab oD FU Try.f63 none [.agg [.int .i64 p0.aJ.ah,.sl false false p0.aJ.aa.length (ae (eI .i64) p0.aJ.aa),.int .i64 p0.aL.ah,.sl false false p0.aL.aa.length (ae (eI .i64) p0.aL.aa)],.agg [.int .i64 p1.aJ.ah,.sl false false p1.aJ.aa.length (ae (eI .i64) p1.aJ.aa),.int .i64 p1.aL.ah,.sl false false p1.aL.aa.length (ae (eI .i64) p1.aL.aa)]]=some (.clean (.agg [.int .i64 r.aJ.ah,.sl false false r.aJ.aa.length (ae (eI .i64) r.aJ.aa),.int .i64 r.aL.ah,.sl false false r.aL.aa.length (ae (eI .i64) r.aL.aa)]),none):=by
 apply aD rfl Try.ntmps63 Try.results63
 unfold fU at hh
 obtain⟨r1,hr1,hh⟩:=ag hh
 cases hh
 try simp only[KH,seval,hr1]
theorem qN:bT Try.prog 63 lQ:=bT.of (mode := .clean) tok FC mixed Try.func63 (by kernel_rfl) ⟨by kernel_rfl,by kernel_rfl⟩ (fun _=>agv (by kernel_rfl)) (fun x r h=>JV x.1 x.2 r h)
def oo:=fR (jE (dk an) (fH (dk an))) (fun x:al×al=>iO x.1 x.2) (fun r:al =>.clean (.agg [.int .i64 r.aJ.ah,.sl false false r.aJ.aa.length (ae (eI .i64) r.aJ.aa),.int .i64 r.aL.ah,.sl false false r.aL.aa.length (ae (eI .i64) r.aL.aa)]))
theorem oO (p0_0:Int) (p0_1:(List Int)) (p0_2:Int) (p0_3:(List Int)) (p1_0:Int) (p1_1:(List Int)) (p1_2:Int) (p1_3:(List Int)):oo none [.agg [.int .i64 p0_0,.sl false false p0_1.length (ae (eI .i64) p0_1),.int .i64 p0_2,.sl false false p0_3.length (ae (eI .i64) p0_3)],.agg [.int .i64 p1_0,.sl false false p1_1.length (ae (eI .i64) p1_1),.int .i64 p1_2,.sl false false p1_3.length (ae (eI .i64) p1_3)]]=(iO (al.mk (aq.mk p0_0 p0_1) (aq.mk p0_2 p0_3)) (al.mk (aq.mk p1_0 p1_1) (aq.mk p1_2 p1_3))).map fun r:al=>(.clean (.agg [.int .i64 r.aJ.ah,.sl false false r.aJ.aa.length (ae (eI .i64) r.aJ.aa),.int .i64 r.aL.ah,.sl false false r.aL.aa.length (ae (eI .i64) r.aL.aa)]),none):=aN _ _ _ ((al.mk (aq.mk p0_0 p0_1) (aq.mk p0_2 p0_3)),(al.mk (aq.mk p1_0 p1_1) (aq.mk p1_2 p1_3)))
def oC:Env:=(Am.ext aY 18 false o0)
theorem FB:bq Try.prog oC:=(bq.none.add uK false)
theorem KG:type_of% (ai @w<|ai @m0<|@oC.eq_1):=⟨@w,@m0,@oC.eq_1⟩
theorem JU (p0:al) (p1:al) (r:al) (hh:iO p0 p1=some r):a6 .clean tab oC FU Try.f92 none [.agg [.int .i64 p0.aJ.ah,.sl false false p0.aJ.aa.length (ae (eI .i64) p0.aJ.aa),.int .i64 p0.aL.ah,.sl false false p0.aL.aa.length (ae (eI .i64) p0.aL.aa)],.agg [.int .i64 p1.aJ.ah,.sl false false p1.aJ.aa.length (ae (eI .i64) p1.aJ.aa),.int .i64 p1.aL.ah,.sl false false p1.aL.aa.length (ae (eI .i64) p1.aL.aa)]]=some (.clean (.agg [.int .i64 r.aJ.ah,.sl false false r.aJ.aa.length (ae (eI .i64) r.aJ.aa),.int .i64 r.aL.ah,.sl false false r.aL.aa.length (ae (eI .i64) r.aL.aa)]),none):=by
 apply aD rfl Try.ntmps92 Try.results92
 unfold iO at hh
 obtain⟨r1,hr1,hh⟩:=ag hh
 cases hh
 try simp only[KG,seval,hr1]
theorem wU:bT Try.prog 92 oo:=bT.of (mode := .clean) tok FB mixed Try.func92 (by kernel_rfl) ⟨by kernel_rfl,by kernel_rfl⟩ (fun _=>agv (by kernel_rfl)) (fun x r h=>JU x.1 x.2 r h)
def ic:=fR (fH (aI .u64)) (fun x:Int=>eH x) (fun r:Int =>.clean (.int .i64 r))
theorem lE (p0:Int):ic none [.int .u64 p0]=(eH p0).map fun r:Int=>(.clean (.int .i64 r),none):=aN _ _ _ (p0)
theorem rh (p0:Int) (r:Int) (hh:eH p0=some r):a6 .clean tab aY FU Try.f111 none [.int .u64 p0]=some (.clean (.int .i64 r),none):=by
 apply aD rfl Try.ntmps111 Try.results111
 unfold eH at hh
 obtain⟨x1,hx1,hh⟩:=ag hh
 have q2:=gQ hx1
 obtain⟨x3,hx3,hh⟩:=ag hh
 have q4:=gQ hx3
 obtain⟨x5,hx5,hh⟩:=ag hh
 have q6:=gQ hx5
 obtain⟨x7,hx7,hh⟩:=ag hh
 have q8:=gQ hx7
 obtain⟨x9,hx9,hh⟩:=ag hh
 have q10:=gQ hx9
 obtain⟨x11,hx11,hh⟩:=ag hh
 have q12:=gQ hx11
 cases hh
 try simp only[w,seval,-Int.reduceToNat,q2,q4,q6,q8,q10,q12]
theorem qO:bT Try.prog 111 ic:=bT.of (mode := .clean) tok bq.none mixed Try.func111 (by kernel_rfl) ⟨by kernel_rfl,by kernel_rfl⟩ (fun _=>agv (by kernel_rfl)) (fun x r h=>rh x r h)
def jt:=fR (fH (aI .u64)) (fun x:Int=>ey x) (fun r:Int =>.clean (.int .i64 r))
theorem mI (p0:Int):jt none [.int .u64 p0]=(ey p0).map fun r:Int=>(.clean (.int .i64 r),none):=aN _ _ _ (p0)
def gj:Env:=(Am.ext aY 111 false ic)
theorem sB:bq Try.prog gj:=(bq.none.add qO false)
theorem tL:type_of% (ai @w<|ai @lE<|@gj.eq_1):=⟨@w,@lE,@gj.eq_1⟩
theorem tF (p0:Int) (r:Int) (hh:ey p0=some r):a6 .clean tab gj FU Try.f93 none [.int .u64 p0]=some (.clean (.int .i64 r),none):=by
 apply aD rfl Try.ntmps93 Try.results93
 unfold ey at hh
 obtain⟨r1,hr1,hh⟩:=ag hh
 cases hh
 try simp only[tL,seval,hr1]
theorem sH:bT Try.prog 93 jt:=bT.of (mode := .clean) tok sB mixed Try.func93 (by kernel_rfl) ⟨by kernel_rfl,by kernel_rfl⟩ (fun _=>agv (by kernel_rfl)) (fun x r h=>tF x r h)
def fS:=fR (fH (lM an)) (fun x:(List al)=>df x) (fun r:(List al) =>.clean (.sl false false r.length (ae an r)))
theorem eN (p0:(List al)):fS none [.sl false false p0.length (ae an p0)]=(df p0).map fun r:(List al)=>(.clean (.sl false false r.length (ae an r)),none):=aN _ _ _ (p0)
def iQ:Env:=(Am.ext (Am.ext (Am.ext (Am.ext (Am.ext (Am.ext aY 44 false iN) 62 false jG) 63 false lQ) 71 false rE) 92 false oo) 93 false jt)
theorem wB:bq Try.prog iQ:=((((((bq.none.add jR false).add oa false).add qN false).add A7 false).add wU false).add sH false)
theorem aK:type_of% (ai @w<|ai @eo<|ai @iu<|ai @kh<|ai @sK<|ai @oO<|ai @mI<|@iQ.eq_1):=⟨@w,@eo,@iu,@kh,@sK,@oO,@mI,@iQ.eq_1⟩
theorem xv (p0:(List al)) (r:(List al)) (hh:df p0=some r):a6 .clean tab iQ FU Try.f61 none [.sl false false p0.length (ae an p0)]=some (.clean (.sl false false r.length (ae an r)),none):=by
 apply aD rfl Try.ntmps61 Try.results61
 unfold df at hh
 obtain⟨r1,hr1,hh⟩:=ag hh
 try simp only[aK,seval,-Int.reduceToNat,hr1]
 apply sp au hh<;>intro _ hh
 ·cases hh
  try simp only[aK,seval,-Int.reduceToNat,hr1]
 ·obtain⟨x3,hx3,hh⟩:=ag hh
  obtain⟨q4a,q4b,q4c,q4d,q4e⟩:=mk_one an hx3
  simp only[bo]at q4d
  obtain⟨r5,hr5,hh⟩:=ag hh
  obtain⟨x6,hx6,hh⟩:=ag hh
  have ax6:=bm an hx6
  simp only[bo]at ax6
  have p7:=dF an (x':=r5) (fo:=0) (cs:=[.int .i64 r5.aJ.ah,.sl false false r5.aJ.aa.length (ae (eI .i64) r5.aJ.aa),.int .i64 r5.aL.ah,.sl false false r5.aL.aa.length (ae (eI .i64) r5.aL.aa)]) hx6 rfl (agv rfl)
  simp only[bo,Nat.add_zero]at p7
  have up7:=p7
  simp only[putCells,List.length_cons,List.length_nil,afB,Nat.reduceAdd]at up7
  try simp only[aK,seval,-Int.reduceToNat,hr1,q4a,q4b,q4c,q4d,q4e,hr5,ax6,p7,up7]
  obtain⟨o32,ho32,hh⟩:=ag hh
  refine aB (fun s t H e=>match s with|(s6a,l5a)=>∃v5a:Nat,t 0=.sl false false p0.length (ae an p0)∧t 3=.int .i64 r1.1∧t 5=.buf 5 v5a 4 0 (l5a).length∧t 6=.int .i64 s6a∧H 5=some ⟨v5a,41,ae an l5a,false,true,false⟩) (fun o x t H e=>match o with|l5ax=>x=.exit 0∧∃v5ax:Nat,t 5=.buf 5 v5ax 4 0 (l5ax).length∧H 5=some ⟨v5ax,41,ae an l5ax,false,true,false⟩) ho32 ?_ ?_ ?_
  ·refine⟨3,?_,?_,?_,?_,?_⟩
   all_goals first|rfl|(simp only[aK,seval,-Int.reduceToNat,hr1,q4a,q4b,q4c,q4d,q4e,hr5,ax6,p7,up7]<;>rfl)
  ·rintro⟨s6a,l5a⟩ t H e ⟨v5a,Za⟩ c hh
   simp only[g9]at hh
   try simp only[aK,seval,-Int.reduceToNat,hr1,q4a,q4b,q4c,q4d,q4e,hr5,ax6,p7,up7,Za]
   apply sp au hh<;>intro _ hh
   ·obtain⟨x34,hx34,hh⟩:=ag hh
    have ax34:=bm an hx34
    simp only[bo]at ax34
    obtain⟨x35,hx35,hh⟩:=ag hh
    have ax35:=bm an hx35
    simp only[bo]at ax35
    obtain⟨r36,hr36,hh⟩:=ag hh
    try simp only[aK,seval,-Int.reduceToNat,hr1,q4a,q4b,q4c,q4d,q4e,hr5,ax6,p7,up7,Za,ax34,ax35,hr36]
    refine bF (by kernel_rfl) ?_
    try simp only[aK,seval,-Int.reduceToNat,hr1,q4a,q4b,q4c,q4d,q4e,hr5,ax6,p7,up7,Za,ax34,ax35,hr36]
    obtain⟨o44,ho44,hh⟩:=ag hh
    refine aB (fun s t H e=>match s with|(s37c,r7_0c,r7_1c,r7_2c,r7_3c)=>∃v5c:Nat,∃v7c:Nat,t 0=.sl false false p0.length (ae an p0)∧t 3=.int .i64 r1.1∧t 5=.buf 5 v5c 4 0 (l5a).length∧t 6=.int .i64 s6a∧t 7=.ptr 7 v7c 0∧t 36=.int .i64 r1.1∧t 37=.int .i64 s37c∧H 5=some ⟨v5c,41,ae an l5a,false,true,false⟩∧H 7=some ⟨v7c,41,[.int .i64 r7_0c,.sl false false r7_1c.length (ae (eI .i64) r7_1c),.int .i64 r7_2c,.sl false false r7_3c.length (ae (eI .i64) r7_3c)],false,false,false⟩) (fun o x t H e=>match o with|(r7_0cx,r7_1cx,r7_2cx,r7_3cx)=>x=.exit 2∧∃v5cx:Nat,∃v7cx:Nat,t 0=.sl false false p0.length (ae an p0)∧t 3=.int .i64 r1.1∧t 5=.buf 5 v5cx 4 0 (l5a).length∧t 6=.int .i64 s6a∧t 7=.ptr 7 v7cx 0∧H 5=some ⟨v5cx,41,ae an l5a,false,true,false⟩∧H 7=some ⟨v7cx,41,[.int .i64 r7_0cx,.sl false false r7_1cx.length (ae (eI .i64) r7_1cx),.int .i64 r7_2cx,.sl false false r7_3cx.length (ae (eI .i64) r7_3cx)],false,false,false⟩) ho44 ?_ ?_ ?_
    ·refine⟨v5a,e+1,?_,?_,?_,?_,?_,?_,?_,?_,?_⟩
     all_goals first|rfl|(simp only[aK,seval,-Int.reduceToNat,hr1,q4a,q4b,q4c,q4d,q4e,hr5,ax6,p7,up7,Za,ax34,ax35,hr36]<;>rfl)
    ·rintro⟨s37c,r7_0c,r7_1c,r7_2c,r7_3c⟩ t H e ⟨v5c,v7c,Zc⟩ c hh
     simp only[fv]at hh
     try simp only[aK,seval,-Int.reduceToNat,hr1,q4a,q4b,q4c,q4d,q4e,hr5,ax6,p7,up7,ax34,ax35,hr36,Zc]
     apply sp au hh<;>intro _ hh
     ·obtain⟨x46,hx46,hh⟩:=ag hh
      have q47:=km hx46
      try simp only[aK,seval,-Int.reduceToNat,hr1,q4a,q4b,q4c,q4d,q4e,hr5,ax6,p7,up7,ax34,ax35,hr36,Zc,q47]
      apply sp au hh<;>intro _ hh
      ·have q49:=km hx46
       obtain⟨x50,hx50,hh⟩:=ag hh
       have ax50:=bm an hx50
       simp only[bo]at ax50
       obtain⟨r51,hr51,hh⟩:=ag hh
       try simp only[aK,seval,-Int.reduceToNat,hr1,q4a,q4b,q4c,q4d,q4e,hr5,ax6,p7,up7,ax34,ax35,hr36,Zc,q47,q49,ax50,hr51]
       refine bF (by kernel_rfl) ?_
       cases hh
       try simp only[aK,seval,-Int.reduceToNat,hr1,q4a,q4b,q4c,q4d,q4e,hr5,ax6,p7,up7,ax34,ax35,hr36,Zc,q47,q49,ax50,hr51]
       apply iC
       refine⟨v5c,v7c,?_,?_,?_,?_,?_,?_,?_,?_,?_⟩
       all_goals first|rfl|(simp only[aK,seval,-Int.reduceToNat,hr1,q4a,q4b,q4c,q4d,q4e,hr5,ax6,p7,up7,ax34,ax35,hr36,Zc,q47,q49,ax50,hr51]<;>rfl)
      ·cases hh
       try simp only[aK,seval,-Int.reduceToNat,hr1,q4a,q4b,q4c,q4d,q4e,hr5,ax6,p7,up7,ax34,ax35,hr36,Zc,q47]
       apply iC
       refine⟨v5c,v7c,?_,?_,?_,?_,?_,?_,?_,?_,?_⟩
       all_goals first|rfl|(simp only[aK,seval,-Int.reduceToNat,hr1,q4a,q4b,q4c,q4d,q4e,hr5,ax6,p7,up7,ax34,ax35,hr36,Zc,q47]<;>rfl)
     ·cases hh
      try simp only[aK,seval,-Int.reduceToNat,hr1,q4a,q4b,q4c,q4d,q4e,hr5,ax6,p7,up7,ax34,ax35,hr36,Zc]
      apply jP
      refine⟨rfl,⟨v5c,v7c,?_,?_,?_,?_,?_,?_,?_⟩⟩
      all_goals first|rfl|(simp only[aK,seval,-Int.reduceToNat,hr1,q4a,q4b,q4c,q4d,q4e,hr5,ax6,p7,up7,ax34,ax35,hr36,Zc]<;>rfl)
    ·rintro x t H e hx
     rcases o44 with⟨r7_0cx,r7_1cx,r7_2cx,r7_3cx⟩
     dsimp only at hx hh
     obtain⟨rfl,⟨v5cx,v7cx,Zcx⟩⟩:=hx
     obtain⟨r52,hr52,hh⟩:=ag hh
     obtain⟨r53,hr53,hh⟩:=ag hh
     obtain⟨r54,hr54,hh⟩:=ag hh
     obtain⟨x55,hx55,hh⟩:=ag hh
     have ax55:=bm an hx55
     simp only[bo]at ax55
     have p56:=dF an (x':=r54.1) (fo:=0) (cs:=[.int .i64 r54.1.aJ.ah,.sl false false r54.1.aJ.aa.length (ae (eI .i64) r54.1.aJ.aa),.int .i64 r54.1.aL.ah,.sl false false r54.1.aL.aa.length (ae (eI .i64) r54.1.aL.aa)]) hx55 rfl (agv rfl)
     simp only[bo,Nat.add_zero]at p56
     have up56:=p56
     simp only[putCells,List.length_cons,List.length_nil,afB,Nat.reduceAdd]at up56
     try simp only[aK,seval,-Int.reduceToNat,hr1,q4a,q4b,q4c,q4d,q4e,hr5,ax6,p7,up7,ax34,ax35,hr36,Zcx,hr52,hr53,hr54,ax55,p56,up56]
     refine bF (by kernel_rfl) ?_
     cases hh
     try simp only[aK,seval,-Int.reduceToNat,hr1,q4a,q4b,q4c,q4d,q4e,hr5,ax6,p7,up7,ax34,ax35,hr36,Zcx,hr52,hr53,hr54,ax55,p56,up56]
     apply iC
     refine⟨v5cx,?_,?_,?_,?_,?_⟩
     all_goals first|rfl|(simp only[aK,seval,-Int.reduceToNat,hr1,q4a,q4b,q4c,q4d,q4e,hr5,ax6,p7,up7,ax34,ax35,hr36,Zcx,hr52,hr53,hr54,ax55,p56,up56]<;>rfl)
   ·cases hh
    try simp only[aK,seval,-Int.reduceToNat,hr1,q4a,q4b,q4c,q4d,q4e,hr5,ax6,p7,up7,Za]
    apply jP
    refine⟨rfl,⟨v5a,?_,?_⟩⟩
    all_goals first|rfl|(simp only[aK,seval,-Int.reduceToNat,hr1,q4a,q4b,q4c,q4d,q4e,hr5,ax6,p7,up7,Za]<;>rfl)
  ·rintro x t H e hx
   obtain⟨l5ax,rfl⟩:∃z,z=o32:=⟨_,rfl⟩
   dsimp only at hx hh
   obtain⟨rfl,⟨v5ax,Zax⟩⟩:=hx
   cases hh
   try simp only[aK,seval,-Int.reduceToNat,hr1,q4a,q4b,q4c,q4d,q4e,hr5,ax6,p7,up7,Zax]
theorem kz:bT Try.prog 61 fS:=bT.of (mode := .clean) tok wB mixed Try.func61 (by kernel_rfl) ⟨by kernel_rfl,by kernel_rfl⟩ (fun _=>agv (by kernel_rfl)) (fun x r h=>xv x r h)
def iV:=fR (fH (lM an)) (fun x:(List al)=>eQ x) (fun r:(List al)×Int =>.clean (.tup [.sl false false r.1.length (ae an r.1),.int .i64 r.2]))
theorem gF (p0:(List al)):iV none [.sl false false p0.length (ae an p0)]=(eQ p0).map fun r:(List al)×Int=>(.clean (.tup [.sl false false r.1.length (ae an r.1),.int .i64 r.2]),none):=aN _ _ _ (p0)
def kR:Env:=(Am.ext (Am.ext (Am.ext aY 61 false fS) 62 false jG) 63 false lQ)
theorem zR:bq Try.prog kR:=(((bq.none.add kz false).add oa false).add qN false)
theorem cC:type_of% (ai @w<|ai @eN<|ai @iu<|ai @kh<|@kR.eq_1):=⟨@w,@eN,@iu,@kh,@kR.eq_1⟩
theorem BJ (p0:(List al)) (r:(List al)×Int) (hh:eQ p0=some r):a6 .clean tab kR FU Try.f29 none [.sl false false p0.length (ae an p0)]=some (.clean (.tup [.sl false false r.1.length (ae an r.1),.int .i64 r.2]),none):=by
 apply aD rfl Try.ntmps29 Try.results29
 unfold eQ at hh
 obtain⟨r1,hr1,hh⟩:=ag hh
 try simp only[cC,seval,-Int.reduceToNat,hr1]
 apply sp au hh<;>intro _ hh
 ·cases hh
  try simp only[cC,seval,-Int.reduceToNat,hr1]
 ·obtain⟨r3,hr3,hh⟩:=ag hh
  try simp only[cC,seval,-Int.reduceToNat,hr1,hr3]
  obtain⟨o12,ho12,hh⟩:=ag hh
  refine aB (fun s t H e=>match s with|(s23a,l8a)=>∃v8a:Nat,t 6=.sl false false r3.length (ae an r3)∧t 7=.int .i64 (IntKind.i64.wrap ((p0.length:Int)-1))∧t 8=.buf 8 v8a 4 0 (l8a).length∧t 22=.int .i64 r1.1∧t 23=.int .i64 s23a∧H 8=some ⟨v8a,41,ae an l8a,false,true,false⟩) (fun o x t H e=>match o with|l8ax=>x=.exit 0∧∃v8ax:Nat,t 8=.buf 8 v8ax 4 0 (l8ax).length∧H 8=some ⟨v8ax,41,ae an l8ax,false,true,false⟩) ho12 ?_ ?_ ?_
  ·refine⟨5,?_,?_,?_,?_,?_,?_⟩
   all_goals first|rfl|(simp only[cC,seval,-Int.reduceToNat,hr1,hr3]<;>rfl)
  ·rintro⟨s23a,l8a⟩ t H e ⟨v8a,Za⟩ c hh
   simp only[j2]at hh
   try simp only[cC,seval,-Int.reduceToNat,hr1,hr3,Za]
   apply sp au hh<;>intro _ hh
   ·obtain⟨x14,hx14,hh⟩:=ag hh
    have ax14:=bm an hx14
    simp only[bo]at ax14
    obtain⟨x15,hx15,hh⟩:=ag hh
    have q16:=km hx15
    obtain⟨x17,hx17,hh⟩:=ag hh
    have ax17:=bm an hx17
    simp only[bo]at ax17
    obtain⟨r18,hr18,hh⟩:=ag hh
    obtain⟨x19,hx19,hh⟩:=ag hh
    obtain⟨q20a,q20b,q20c,q20d⟩:=gI an hx19
    simp only[bo]at q20b
    try simp only[cC,seval,-Int.reduceToNat,hr1,hr3,Za,ax14,q16,ax17,hr18,q20a,q20b,q20c,q20d]
    refine bF (by kernel_rfl) ?_
    cases hh
    try simp only[cC,seval,-Int.reduceToNat,hr1,hr3,Za,ax14,q16,ax17,hr18,q20a,q20b,q20c,q20d]
    apply iC
    refine⟨e+1+1,?_,?_,?_,?_,?_,?_⟩
    all_goals first|rfl|(simp only[cC,seval,-Int.reduceToNat,hr1,hr3,Za,ax14,q16,ax17,hr18,q20a,q20b,q20c,q20d]<;>rfl)
   ·cases hh
    try simp only[cC,seval,-Int.reduceToNat,hr1,hr3,Za]
    apply jP
    refine⟨rfl,⟨v8a,?_,?_⟩⟩
    all_goals first|rfl|(simp only[cC,seval,-Int.reduceToNat,hr1,hr3,Za]<;>rfl)
  ·rintro x t H e hx
   obtain⟨l8ax,rfl⟩:∃z,z=o12:=⟨_,rfl⟩
   dsimp only at hx hh
   obtain⟨rfl,⟨v8ax,Zax⟩⟩:=hx
   cases hh
   try simp only[cC,seval,-Int.reduceToNat,hr1,hr3,Zax]
theorem mZ:bT Try.prog 29 iV:=bT.of (mode := .clean) tok zR mixed Try.func29 (by kernel_rfl) ⟨by kernel_rfl,by kernel_rfl⟩ (fun _=>agv (by kernel_rfl)) (fun x r h=>BJ x r h)
def rF:=fR (fH (lM (eI .i64))) (fun x:(List Int)=>mV x) (fun r:(List al) =>.clean (.sl false false r.length (ae an r)))
theorem yQ (p0:(List Int)):rF none [.sl false false p0.length (ae (eI .i64) p0)]=(mV p0).map fun r:(List al)=>(.clean (.sl false false r.length (ae an r)),none):=aN _ _ _ (p0)
def oG:Env:=(Am.ext aY 46 false xP)
theorem FF:bq Try.prog oG:=(bq.none.add H4 false)
theorem gS:type_of% (ai @w<|ai @yT<|@oG.eq_1):=⟨@w,@yT,@oG.eq_1⟩
theorem JY (p0:(List Int)) (r:(List al)) (hh:mV p0=some r):a6 .clean tab oG FU Try.f90 none [.sl false false p0.length (ae (eI .i64) p0)]=some (.clean (.sl false false r.length (ae an r)),none):=by
 apply aD rfl Try.ntmps90 Try.results90
 unfold mV at hh
 try simp only[gS,seval]
 obtain⟨o6,ho6,hh⟩:=ag hh
 refine aB (fun s t H e=>match s with|(s4a,l3a)=>∃v3a:Nat,t 0=.sl false false p0.length (ae (eI .i64) p0)∧t 3=.buf 3 v3a 4 0 (l3a).length∧t 4=.int .i64 s4a∧H 3=some ⟨v3a,41,ae an l3a,false,true,false⟩) (fun o x t H e=>match o with|l3ax=>x=.exit 0∧∃v3ax:Nat,t 3=.buf 3 v3ax 4 0 (l3ax).length∧H 3=some ⟨v3ax,41,ae an l3ax,false,true,false⟩) ho6 ?_ ?_ ?_
 ·refine⟨1,?_,?_,?_,?_⟩
  all_goals first|rfl|(simp only[gS,seval]<;>rfl)
 ·rintro⟨s4a,l3a⟩ t H e ⟨v3a,Za⟩ c hh
  simp only[wT]at hh
  try simp only[gS,seval,Za]
  apply sp au hh<;>intro _ hh
  ·obtain⟨x8,hx8,hh⟩:=ag hh
   have ax8:=bm (eI .i64) hx8
   simp only[bo]at ax8
   obtain⟨r9,hr9,hh⟩:=ag hh
   obtain⟨x10,hx10,hh⟩:=ag hh
   obtain⟨q11a,q11b,q11c,q11d⟩:=gI an hx10
   simp only[bo]at q11b
   cases hh
   try simp only[gS,seval,Za,ax8,hr9,q11a,q11b,q11c,q11d]
   apply iC
   refine⟨e+1+1,?_,?_,?_,?_⟩
   all_goals first|rfl|(simp only[gS,seval,Za,ax8,hr9,q11a,q11b,q11c,q11d]<;>rfl)
  ·cases hh
   try simp only[gS,seval,Za]
   apply jP
   refine⟨rfl,⟨v3a,?_,?_⟩⟩
   all_goals first|rfl|(simp only[gS,seval,Za]<;>rfl)
 ·rintro x t H e hx
  obtain⟨l3ax,rfl⟩:∃z,z=o6:=⟨_,rfl⟩
  dsimp only at hx hh
  obtain⟨rfl,⟨v3ax,Zax⟩⟩:=hx
  cases hh
  try simp only[gS,seval,Zax]
theorem FV:bT Try.prog 90 rF:=bT.of (mode := .clean) tok FF mixed Try.func90 (by kernel_rfl) ⟨by kernel_rfl,by kernel_rfl⟩ (fun _=>agv (by kernel_rfl)) (fun x r h=>JY x r h)
def pe:=fR (jE (lM an) (fH (lM an))) (fun x:(List al)×(List al)=>kj x.1 x.2) (fun r:Bool =>.clean (.bool r))
theorem uQ (p0:(List al)) (p1:(List al)):pe none [.sl false false p0.length (ae an p0),.sl false false p1.length (ae an p1)]=(kj p0 p1).map fun r:Bool=>(.clean (.bool r),none):=aN _ _ _ (p0,p1)
def me:Env:=(Am.ext aY 23 false rK)
theorem BH:bq Try.prog me:=(bq.none.add Ba false)
theorem cn:type_of% (ai @w<|ai @sM<|@me.eq_1):=⟨@w,@sM,@me.eq_1⟩
theorem D7 (p0:(List al)) (p1:(List al)) (r:Bool) (hh:kj p0 p1=some r):a6 .clean tab me FU Try.f89 none [.sl false false p0.length (ae an p0),.sl false false p1.length (ae an p1)]=some (.clean (.bool r),none):=by
 apply aD rfl Try.ntmps89 Try.results89
 unfold kj at hh
 try simp only[cn,seval]
 apply sp au hh<;>intro _ hh
 ·cases hh
  try simp only[cn,seval]
 ·try simp only[cn,seval]
  obtain⟨o7,ho7,hh⟩:=ag hh
  refine aB (fun s t H e=>match s with|s5a=>t 0=.sl false false p0.length (ae an p0)∧t 1=.sl false false p1.length (ae an p1)∧t 5=.int .i64 s5a) (fun o x t H e=>match o with|(.inl _)=>x=.exit 0|(.inr r)=>x=.ret∧iP .clean tab none [.tmp 4] ⟨t,EH H,e⟩=some (.clean (.bool r),none)) ho7 ?_ ?_ ?_
  ·refine⟨?_,?_,?_⟩
   all_goals first|rfl|(simp only[cn,seval]<;>rfl)
  ·rintro s5a t H e Za c hh
   simp only[tn]at hh
   try simp only[cn,seval,Za]
   apply sp au hh<;>intro _ hh
   ·obtain⟨x9,hx9,hh⟩:=ag hh
    have ax9:=bm an hx9
    simp only[bo]at ax9
    obtain⟨x10,hx10,hh⟩:=ag hh
    have ax10:=bm an hx10
    simp only[bo]at ax10
    obtain⟨r11,hr11,hh⟩:=ag hh
    try simp only[cn,seval,Za,ax9,ax10,hr11]
    refine bF (by kernel_rfl) ?_
    try simp only[cn,seval,Za,ax9,ax10,hr11]
    apply sp au hh<;>intro _ hh
    ·cases hh
     try simp only[cn,seval,Za,ax9,ax10,hr11]
     refine BI ⟨rfl,?_⟩
     try simp only[cn,seval,Za,ax9,ax10,hr11]
    ·cases hh
     try simp only[cn,seval,Za,ax9,ax10,hr11]
     apply iC
     refine⟨?_,?_,?_⟩
     all_goals first|rfl|(simp only[cn,seval,Za,ax9,ax10,hr11]<;>rfl)
   ·cases hh
    try simp only[cn,seval,Za]
    apply jP
    exact rfl
  ·rintro x t H e hx
   rcases o7 with _|ra
   ·dsimp only at hx hh
    subst hx
    cases hh
    try simp only[cn,seval]
   ·dsimp only at hx hh
    obtain⟨rfl,hE⟩:=hx
    cases hh
    try simp only[bn,bg,bB,dn,dm,ct,cu]
    exact hE
theorem BP:bT Try.prog 89 pe:=bT.of (mode := .clean) tok BH mixed Try.func89 (by kernel_rfl) ⟨by kernel_rfl,by kernel_rfl⟩ (fun _=>agv (by kernel_rfl)) (fun x r h=>D7 x.1 x.2 r h)
def oZ:=fR (jE (lM an) (jE (lM an) (fH (lM an)))) (fun x:(List al)×(List al)×(List al)=>lV x.1 x.2.1 x.2.2) (fun r:Bool =>.clean (.bool r))
theorem uN (p0:(List al)) (p1:(List al)) (p2:(List al)):oZ none [.sl false false p0.length (ae an p0),.sl false false p1.length (ae an p1),.sl false false p2.length (ae an p2)]=(lV p0 p1 p2).map fun r:Bool=>(.clean (.bool r),none):=aN _ _ _ (p0,p1,p2)
def l8:Env:=(Am.ext (Am.ext (Am.ext (Am.ext (Am.ext (Am.ext (Am.ext aY 20 false jH) 24 false pb) 44 false iN) 62 false jG) 63 false lQ) 92 false oo) 95 false lP)
theorem BC:bq Try.prog l8:=(((((((bq.none.add mq false).add BO false).add jR false).add oa false).add qN false).add wU false).add th false)
theorem ax:type_of% (ai @w<|ai @fN<|ai @uO<|ai @eo<|ai @iu<|ai @kh<|ai @oO<|ai @mu<|@l8.eq_1):=⟨@w,@fN,@uO,@eo,@iu,@kh,@oO,@mu,@l8.eq_1⟩
theorem D3 (p0:(List al)) (p1:(List al)) (p2:(List al)) (r:Bool) (hh:lV p0 p1 p2=some r):a6 .clean tab l8 FU Try.f91 none [.sl false false p0.length (ae an p0),.sl false false p1.length (ae an p1),.sl false false p2.length (ae an p2)]=some (.clean (.bool r),none):=by
 apply aD rfl Try.ntmps91 Try.results91
 unfold lV at hh
 obtain⟨r1,hr1,hh⟩:=ag hh
 try simp only[ax,seval,-Int.reduceToNat,hr1]
 obtain⟨o2,ho2,hh⟩:=ag hh
 refine bP 0 (fun s t H e=>match s with|s51j1=>t 0=.sl false false p0.length (ae an p0)∧t 1=.sl false false p1.length (ae an p1)∧t 2=.sl false false p2.length (ae an p2)∧t 7=.int .i64 r1.1∧t 51=.bool s51j1) (fun s=>s=o2) ?_ ?_
 ·rintro s51j1 t H e Zj1 rfl
  try dsimp only at hh
  try simp only[ax,seval,-Int.reduceToNat,hr1,Zj1]
  apply sp au hh<;>intro _ hh
  ·cases hh
   try simp only[ax,seval,-Int.reduceToNat,hr1,Zj1]
  ·try simp only[ax,seval,-Int.reduceToNat,hr1,Zj1]
   obtain⟨o30,ho30,hh⟩:=ag hh
   refine aB (fun s t H e=>match s with|s9b=>t 0=.sl false false p0.length (ae an p0)∧t 1=.sl false false p1.length (ae an p1)∧t 2=.sl false false p2.length (ae an p2)∧t 7=.int .i64 r1.1∧t 9=.int .i64 s9b) (fun o x t H e=>match o with|(.inl _)=>x=.exit 0∧t 0=.sl false false p0.length (ae an p0)∧t 1=.sl false false p1.length (ae an p1)∧t 2=.sl false false p2.length (ae an p2)|(.inr r)=>x=.ret∧iP .clean tab none [.tmp 6] ⟨t,EH H,e⟩=some (.clean (.bool r),none)) ho30 ?_ ?_ ?_
   ·refine⟨?_,?_,?_,?_,?_⟩
    all_goals first|rfl|(simp only[ax,seval,-Int.reduceToNat,hr1,Zj1]<;>rfl)
   ·rintro s9b t H e Zb c hh
    simp only[sZ]at hh
    try simp only[ax,seval,-Int.reduceToNat,hr1,Zb]
    apply sp au hh<;>intro _ hh
    ·obtain⟨r32,hr32,hh⟩:=ag hh
     try simp only[ax,seval,-Int.reduceToNat,hr1,Zb,hr32]
     obtain⟨o42,ho42,hh⟩:=ag hh
     refine aB (fun s t H e=>match s with|(s60d,r10_0d,r10_1d,r10_2d,r10_3d)=>∃v10d:Nat,t 0=.sl false false p0.length (ae an p0)∧t 1=.sl false false p1.length (ae an p1)∧t 2=.sl false false p2.length (ae an p2)∧t 7=.int .i64 r1.1∧t 9=.int .i64 s9b∧t 10=.ptr 10 v10d 0∧t 59=.int .i64 r1.1∧t 60=.int .i64 s60d∧H 10=some ⟨v10d,41,[.int .i64 r10_0d,.sl false false r10_1d.length (ae (eI .i64) r10_1d),.int .i64 r10_2d,.sl false false r10_3d.length (ae (eI .i64) r10_3d)],false,false,false⟩) (fun o x t H e=>match o with|(r10_0dx,r10_1dx,r10_2dx,r10_3dx)=>x=.exit 2∧∃v10dx:Nat,t 0=.sl false false p0.length (ae an p0)∧t 1=.sl false false p1.length (ae an p1)∧t 2=.sl false false p2.length (ae an p2)∧t 7=.int .i64 r1.1∧t 9=.int .i64 s9b∧t 10=.ptr 10 v10dx 0∧H 10=some ⟨v10dx,41,[.int .i64 r10_0dx,.sl false false r10_1dx.length (ae (eI .i64) r10_1dx),.int .i64 r10_2dx,.sl false false r10_3dx.length (ae (eI .i64) r10_3dx)],false,false,false⟩) ho42 ?_ ?_ ?_
     ·refine⟨e+1,?_,?_,?_,?_,?_,?_,?_,?_,?_⟩
      all_goals first|rfl|(simp only[ax,seval,-Int.reduceToNat,hr1,Zb,hr32]<;>rfl)
     ·rintro⟨s60d,r10_0d,r10_1d,r10_2d,r10_3d⟩ t H e ⟨v10d,Zd⟩ c hh
      simp only[s4]at hh
      try simp only[ax,seval,-Int.reduceToNat,hr1,hr32,Zd]
      apply sp au hh<;>intro _ hh
      ·obtain⟨x44,hx44,hh⟩:=ag hh
       have q45:=km hx44
       try simp only[ax,seval,-Int.reduceToNat,hr1,hr32,Zd,q45]
       apply sp au hh<;>intro _ hh
       ·obtain⟨x47,hx47,hh⟩:=ag hh
        have ax47:=bm an hx47
        simp only[bo]at ax47
        have q48:=km hx44
        obtain⟨x49,hx49,hh⟩:=ag hh
        have ax49:=bm an hx49
        simp only[bo]at ax49
        obtain⟨r50,hr50,hh⟩:=ag hh
        obtain⟨r51,hr51,hh⟩:=ag hh
        try simp only[ax,seval,-Int.reduceToNat,hr1,hr32,Zd,q45,ax47,q48,ax49,hr50,hr51]
        refine bF (by kernel_rfl) ?_
        cases hh
        try simp only[ax,seval,-Int.reduceToNat,hr1,hr32,Zd,q45,ax47,q48,ax49,hr50,hr51]
        apply iC
        refine⟨v10d,?_,?_,?_,?_,?_,?_,?_,?_,?_⟩
        all_goals first|rfl|(simp only[ax,seval,-Int.reduceToNat,hr1,hr32,Zd,q45,ax47,q48,ax49,hr50,hr51]<;>rfl)
       ·cases hh
        try simp only[ax,seval,-Int.reduceToNat,hr1,hr32,Zd,q45]
        apply iC
        refine⟨v10d,?_,?_,?_,?_,?_,?_,?_,?_,?_⟩
        all_goals first|rfl|(simp only[ax,seval,-Int.reduceToNat,hr1,hr32,Zd,q45]<;>rfl)
      ·cases hh
       try simp only[ax,seval,-Int.reduceToNat,hr1,hr32,Zd]
       apply jP
       refine⟨rfl,⟨v10d,?_,?_,?_,?_,?_,?_,?_⟩⟩
       all_goals first|rfl|(simp only[ax,seval,-Int.reduceToNat,hr1,hr32,Zd]<;>rfl)
     ·rintro x t H e hx
      rcases o42 with⟨r10_0dx,r10_1dx,r10_2dx,r10_3dx⟩
      dsimp only at hx hh
      obtain⟨rfl,⟨v10dx,Zdx⟩⟩:=hx
      obtain⟨x52,hx52,hh⟩:=ag hh
      have ax52:=bm an hx52
      simp only[bo]at ax52
      obtain⟨x53,hx53,hh⟩:=ag hh
      have ax53:=bm an hx53
      simp only[bo]at ax53
      obtain⟨r54,hr54,hh⟩:=ag hh
      obtain⟨r55,hr55,hh⟩:=ag hh
      try simp only[ax,seval,-Int.reduceToNat,hr1,hr32,Zdx,ax52,ax53,hr54,hr55]
      refine bF (by kernel_rfl) ?_
      try simp only[ax,seval,-Int.reduceToNat,hr1,hr32,Zdx,ax52,ax53,hr54,hr55]
      apply sp au hh<;>intro _ hh
      ·cases hh
       try simp only[ax,seval,-Int.reduceToNat,hr1,hr32,Zdx,ax52,ax53,hr54,hr55]
       refine BI ⟨rfl,?_⟩
       try simp only[ax,seval,-Int.reduceToNat,hr1,hr32,Zdx,ax52,ax53,hr54,hr55]
      ·cases hh
       try simp only[ax,seval,-Int.reduceToNat,hr1,hr32,Zdx,ax52,ax53,hr54,hr55]
       apply iC
       refine⟨?_,?_,?_,?_,?_⟩
       all_goals first|rfl|(simp only[ax,seval,-Int.reduceToNat,hr1,hr32,Zdx,ax52,ax53,hr54,hr55]<;>rfl)
    ·cases hh
     try simp only[ax,seval,-Int.reduceToNat,hr1,Zb]
     apply jP
     refine⟨rfl,⟨?_,?_,?_⟩⟩
     all_goals first|rfl|(simp only[ax,seval,-Int.reduceToNat,hr1,Zb]<;>rfl)
   ·rintro x t H e hx
    rcases o30 with _|rb
    ·dsimp only at hx hh
     obtain⟨rfl,Zbx⟩:=hx
     try simp only[ax,seval,-Int.reduceToNat,hr1,Zbx]
     obtain⟨o66,ho66,hh⟩:=ag hh
     refine aB (fun s t H e=>match s with|s99e=>t 2=.sl false false p2.length (ae an p2)∧t 12=.int .i64 (IntKind.i64.wrap ((p0.length:Int)-1))∧t 97=.sl false false p1.length (ae an p1)∧t 98=.int .i64 (p1.length:Int)∧t 99=.int .i64 s99e) (fun o x t H e=>match o with|(.inl _)=>x=.exit 4|(.inr r)=>x=.ret∧iP .clean tab none [.tmp 6] ⟨t,EH H,e⟩=some (.clean (.bool r),none)) ho66 ?_ ?_ ?_
     ·refine⟨?_,?_,?_,?_,?_⟩
      all_goals first|rfl|(simp only[ax,seval,-Int.reduceToNat,hr1,Zbx]<;>rfl)
     ·rintro s99e t H e Ze c hh
      simp only[s5]at hh
      try simp only[ax,seval,-Int.reduceToNat,hr1,Ze]
      apply sp au hh<;>intro _ hh
      ·obtain⟨x68,hx68,hh⟩:=ag hh
       have ax68:=bm an hx68
       simp only[bo]at ax68
       obtain⟨x69,hx69,hh⟩:=ag hh
       have ax69:=bm an hx69
       simp only[bo]at ax69
       obtain⟨x70,hx70,hh⟩:=ag hh
       have q71:=km hx70
       obtain⟨x72,hx72,hh⟩:=ag hh
       have ax72:=bm an hx72
       simp only[bo]at ax72
       obtain⟨r73,hr73,hh⟩:=ag hh
       obtain⟨r74,hr74,hh⟩:=ag hh
       try simp only[ax,seval,-Int.reduceToNat,hr1,Ze,ax68,ax69,q71,ax72,hr73,hr74]
       refine bF (by kernel_rfl) ?_
       try simp only[ax,seval,-Int.reduceToNat,hr1,Ze,ax68,ax69,q71,ax72,hr73,hr74]
       apply sp au hh<;>intro _ hh
       ·cases hh
        try simp only[ax,seval,-Int.reduceToNat,hr1,Ze,ax68,ax69,q71,ax72,hr73,hr74]
        refine BI ⟨rfl,?_⟩
        try simp only[ax,seval,-Int.reduceToNat,hr1,Ze,ax68,ax69,q71,ax72,hr73,hr74]
       ·cases hh
        try simp only[ax,seval,-Int.reduceToNat,hr1,Ze,ax68,ax69,q71,ax72,hr73,hr74]
        apply iC
        refine⟨?_,?_,?_,?_,?_⟩
        all_goals first|rfl|(simp only[ax,seval,-Int.reduceToNat,hr1,Ze,ax68,ax69,q71,ax72,hr73,hr74]<;>rfl)
      ·cases hh
       try simp only[ax,seval,-Int.reduceToNat,hr1,Ze]
       apply jP
       exact rfl
     ·rintro x t H e hx
      rcases o66 with _|re
      ·dsimp only at hx hh
       subst hx
       cases hh
       try simp only[ax,seval,-Int.reduceToNat,hr1]
      ·dsimp only at hx hh
       obtain⟨rfl,hE⟩:=hx
       cases hh
       try simp only[bn,bg,bB,dn,dm,ct,cu]
       exact hE
    ·dsimp only at hx hh
     obtain⟨rfl,hE⟩:=hx
     cases hh
     try simp only[bn,bg,bB,dn,dm,ct,cu]
     exact hE
 ·clear hh
  have hh:=ho2
  try simp only[ax,seval,-Int.reduceToNat,hr1]
  apply sp bc hh<;>intro _ hh
  ·cases hh
   try simp only[ax,seval,-Int.reduceToNat,hr1]
   rw[av]
   refine⟨_,rfl,?_⟩
   refine⟨?_,?_,?_,?_,?_⟩
   all_goals first|rfl|(simp only[ax,seval,-Int.reduceToNat,hr1]<;>rfl)
  ·try simp only[ax,seval,-Int.reduceToNat,hr1]
   apply sp bc hh<;>intro _ hh
   ·cases hh
    try simp only[ax,seval,-Int.reduceToNat,hr1]
    rw[av]
    refine⟨_,rfl,?_⟩
    refine⟨?_,?_,?_,?_,?_⟩
    all_goals first|rfl|(simp only[ax,seval,-Int.reduceToNat,hr1]<;>rfl)
   ·try simp only[ax,seval,-Int.reduceToNat,hr1]
    apply sp bc hh<;>intro _ hh
    ·cases hh
     try simp only[ax,seval,-Int.reduceToNat,hr1]
     rw[av]
     refine⟨_,rfl,?_⟩
     refine⟨?_,?_,?_,?_,?_⟩
     all_goals first|rfl|(simp only[ax,seval,-Int.reduceToNat,hr1]<;>rfl)
    ·obtain⟨r79,hr79,hh⟩:=ag hh
     try simp only[ax,seval,-Int.reduceToNat,hr1,hr79]
     apply sp bc hh<;>intro _ hh
     ·cases hh
      try simp only[ax,seval,-Int.reduceToNat,hr1,hr79]
      rw[av]
      refine⟨_,rfl,?_⟩
      refine⟨?_,?_,?_,?_,?_⟩
      all_goals first|rfl|(simp only[ax,seval,-Int.reduceToNat,hr1,hr79]<;>rfl)
     ·obtain⟨r81,hr81,hh⟩:=ag hh
      try simp only[ax,seval,-Int.reduceToNat,hr1,hr79,hr81]
      apply sp bc hh<;>intro _ hh
      ·cases hh
       try simp only[ax,seval,-Int.reduceToNat,hr1,hr79,hr81]
       rw[av]
       refine⟨_,rfl,?_⟩
       refine⟨?_,?_,?_,?_,?_⟩
       all_goals first|rfl|(simp only[ax,seval,-Int.reduceToNat,hr1,hr79,hr81]<;>rfl)
      ·obtain⟨x83,hx83,hh⟩:=ag hh
       have ax83:=bm an hx83
       simp only[bo]at ax83
       obtain⟨r84,hr84,hh⟩:=ag hh
       cases hh
       try simp only[ax,seval,-Int.reduceToNat,hr1,hr79,hr81,ax83,hr84]
       rw[av]
       refine⟨_,rfl,?_⟩
       refine⟨?_,?_,?_,?_,?_⟩
       all_goals first|rfl|(simp only[ax,seval,-Int.reduceToNat,hr1,hr79,hr81,ax83,hr84]<;>rfl)
theorem BN:bT Try.prog 91 oZ:=bT.of (mode := .clean) tok BC mixed Try.func91 (by kernel_rfl) ⟨by kernel_rfl,by kernel_rfl⟩ (fun _=>agv (by kernel_rfl)) (fun x r h=>D3 x.1 x.2.1 x.2.2 r h)
def xa:=fR (jE (lM (eI .i64)) (jE (lM (eI .i64)) (fH (lM (eI .i64))))) (fun x:(List Int)×(List Int)×(List Int)=>nJ x.1 x.2.1 x.2.2) (fun r:Bool =>.clean (.bool r))
theorem m7 (p0:(List Int)) (p1:(List Int)) (p2:(List Int)):xa none [.sl false false p0.length (ae (eI .i64) p0),.sl false false p1.length (ae (eI .i64) p1),.sl false false p2.length (ae (eI .i64) p2)]=(nJ p0 p1 p2).map fun r:Bool=>(.clean (.bool r),none):=aN _ _ _ (p0,p1,p2)
def so:Env:=(Am.ext (Am.ext (Am.ext (Am.ext (Am.ext (Am.ext aY 29 false iV) 59 false rG) 61 false fS) 89 false pe) 90 false rF) 91 false oZ)
theorem MK:bq Try.prog so:=((((((bq.none.add mZ false).add A8 false).add kz false).add BP false).add FV false).add BN false)
theorem lq:type_of% (ai @w<|ai @gF<|ai @m6<|ai @eN<|ai @uQ<|ai @yQ<|ai @uN<|@so.eq_1):=⟨@w,@gF,@m6,@eN,@uQ,@yQ,@uN,@so.eq_1⟩
theorem QM (p0:(List Int)) (p1:(List Int)) (p2:(List Int)) (r:Bool) (hh:nJ p0 p1 p2=some r):a6 .clean tab so FU Try.f60 none [.sl false false p0.length (ae (eI .i64) p0),.sl false false p1.length (ae (eI .i64) p1),.sl false false p2.length (ae (eI .i64) p2)]=some (.clean (.bool r),none):=by
 apply aD rfl Try.ntmps60 Try.results60
 unfold nJ at hh
 obtain⟨r1,hr1,hh⟩:=ag hh
 obtain⟨r2,hr2,hh⟩:=ag hh
 obtain⟨r3,hr3,hh⟩:=ag hh
 try simp only[lq,seval,hr1,hr2,hr3]
 apply sp dj hh<;>intro _ hh
 ·obtain⟨r5,hr5,hh⟩:=ag hh
  obtain⟨r6,hr6,hh⟩:=ag hh
  try simp only[lq,seval,hr1,hr2,hr3,hr5,hr6]
  apply sp dj hh<;>intro _ hh
  ·obtain⟨r8,hr8,hh⟩:=ag hh
   obtain⟨r9,hr9,hh⟩:=ag hh
   try simp only[lq,seval,hr1,hr2,hr3,hr5,hr6,hr8,hr9]
   apply sp dj hh<;>intro _ hh
   ·obtain⟨r11,hr11,hh⟩:=ag hh
    cases hh
    try simp only[lq,seval,hr1,hr2,hr3,hr5,hr6,hr8,hr9,hr11]
   ·cases hh
    try simp only[lq,seval,hr1,hr2,hr3,hr5,hr6,hr8,hr9]
  ·cases hh
   try simp only[lq,seval,hr1,hr2,hr3,hr5,hr6]
 ·cases hh
  try simp only[lq,seval,hr1,hr2,hr3]
theorem Ow:bT Try.prog 60 xa:=bT.of (mode := .clean) tok MK mixed Try.func60 (by kernel_rfl) ⟨by kernel_rfl,by kernel_rfl⟩ (fun _=>agv (by kernel_rfl)) (fun x r h=>QM x.1 x.2.1 x.2.2 r h)
def tQ:=fR (as0) (fun x:Unit=>oR) (fun r:Bool =>.clean (.bool r))
theorem Bf:tQ none []=(oR).map fun r:Bool=>(.clean (.bool r),none):=aN _ _ _ ()
def qf:Env:=(Am.ext (Am.ext (Am.ext (Am.ext aY 29 false iV) 59 false rG) 60 false xa) 61 false fS)
theorem JF:bq Try.prog qf:=((((bq.none.add mZ false).add A8 false).add Ow false).add kz false)
theorem cJ:type_of% (ai @w<|ai @gF<|ai @m6<|ai @m7<|ai @eN<|@qf.eq_1):=⟨@w,@gF,@m6,@m7,@eN,@qf.eq_1⟩
theorem NO (r:Bool) (hh:oR=some r):a6 .clean tab qf FU Try.f27 none []=some (.clean (.bool r),none):=by
 apply aD rfl Try.ntmps27 Try.results27
 unfold oR at hh
 have i1:=m6 ([1,2,3])
 simp only[a7,bo,List.length_cons,List.length_nil,afB,Nat.reduceAdd,agN]at i1
 obtain⟨r2,hr2,hh⟩:=ag hh
 obtain⟨r3,hr3,hh⟩:=ag hh
 have i4:=m7 ([10]) ([]) ([0])
 simp only[a7,bo,List.length_cons,List.length_nil,afB,Nat.reduceAdd,agN]at i4
 obtain⟨r5,hr5,hh⟩:=ag hh
 try simp only[cJ,seval,i1,hr2,hr3,i4,hr5]
 obtain⟨o6,ho6,hh⟩:=ag hh
 refine bP 0 (fun s t H e=>match s with|s3j1=>t 2=.int .i64 r3.2∧t 3=.bool s3j1) (fun s=>s=o6) ?_ ?_
 ·rintro s3j1 t H e Zj1 rfl
  try dsimp only at hh
  try simp only[cJ,seval,i1,hr2,hr3,i4,hr5,Zj1]
  apply sp dj hh<;>intro _ hh
  ·have i8:=m7 ([0,0,0,6]) ([6,6]) ([0,0,0,6])
   simp only[a7,bo,List.length_cons,List.length_nil,afB,Nat.reduceAdd,agN]at i8
   obtain⟨r9,hr9,hh⟩:=ag hh
   try simp only[cJ,seval,i1,hr2,hr3,i4,hr5,Zj1,i8,hr9]
   apply sp dj hh<;>intro _ hh
   ·try simp only[cJ,seval,i1,hr2,hr3,i4,hr5,Zj1,i8,hr9]
    apply sp dj hh<;>intro _ hh
    ·have i12:=m6 ([1,2,3])
     simp only[a7,bo,List.length_cons,List.length_nil,afB,Nat.reduceAdd,agN]at i12
     obtain⟨r13,hr13,hh⟩:=ag hh
     cases hh
     try simp only[cJ,seval,i1,hr2,hr3,i4,hr5,Zj1,i8,hr9,i12,hr13]
    ·cases hh
     try simp only[cJ,seval,i1,hr2,hr3,i4,hr5,Zj1,i8,hr9]
   ·cases hh
    try simp only[cJ,seval,i1,hr2,hr3,i4,hr5,Zj1,i8,hr9]
  ·cases hh
   try simp only[cJ,seval,i1,hr2,hr3,i4,hr5,Zj1]
 ·clear hh
  have hh:=ho6
  try simp only[cJ,seval,i1,hr2,hr3,i4,hr5]
  apply sp dj hh<;>intro _ hh
  ·have i15:=m7 ([10,13]) ([6]) ([0,6])
   simp only[a7,bo,List.length_cons,List.length_nil,afB,Nat.reduceAdd,agN]at i15
   obtain⟨r16,hr16,hh⟩:=ag hh
   try simp only[cJ,seval,i1,hr2,hr3,i4,hr5,i15,hr16]
   apply sp dj hh<;>intro _ hh
   ·have i18:=m7 ([10,13,12,18]) ([9,7]) ([0,6,4,13])
    simp only[a7,bo,List.length_cons,List.length_nil,afB,Nat.reduceAdd,agN]at i18
    obtain⟨r19,hr19,hh⟩:=ag hh
    cases hh
    try simp only[cJ,seval,i1,hr2,hr3,i4,hr5,i15,hr16,i18,hr19]
    rw[av]
    refine⟨_,rfl,?_⟩
    refine⟨?_,?_⟩
    all_goals first|rfl|(simp only[cJ,seval,i1,hr2,hr3,i4,hr5,i15,hr16,i18,hr19]<;>rfl)
   ·cases hh
    try simp only[cJ,seval,i1,hr2,hr3,i4,hr5,i15,hr16]
    rw[av]
    refine⟨_,rfl,?_⟩
    refine⟨?_,?_⟩
    all_goals first|rfl|(simp only[cJ,seval,i1,hr2,hr3,i4,hr5,i15,hr16]<;>rfl)
  ·cases hh
   try simp only[cJ,seval,i1,hr2,hr3,i4,hr5]
   rw[av]
   refine⟨_,rfl,?_⟩
   refine⟨?_,?_⟩
   all_goals first|rfl|(simp only[cJ,seval,i1,hr2,hr3,i4,hr5]<;>rfl)
theorem Kc:bT Try.prog 27 tQ:=bT.of (mode := .clean) tok JF mixed Try.func27 (by kernel_rfl) ⟨by kernel_rfl,by kernel_rfl⟩ (fun _=>agv (by kernel_rfl)) (fun x r h=>NO  r h)
def zu:=fR (jE (dk td) (jE (lM an) (jE (aI .u8) (jE (lM (eI .u8)) (fH (lM an)))))) (fun x:de×(List al)×Int×(List Int)×(List al)=>fW x.1 x.2.1 x.2.2.1 x.2.2.2.1 x.2.2.2.2) (fun r:Bool =>.clean (.bool r))
def j8:Env:=(Am.ext (Am.ext (Am.ext (Am.ext (Am.ext (Am.ext (Am.ext (Am.ext aY 10 false zC) 13 false xd) 20 false jH) 23 false rK) 27 false tQ) 28 false rL) 29 false iV) 30 false mK)
theorem yv:bq Try.prog j8:=((((((((bq.none.add Q7 false).add Oz false).add mq false).add Ba false).add Kc false).add FY false).add mZ false).add qo false)
theorem ak:type_of% (ai @w<|ai @Im<|ai @EK<|ai @fN<|ai @sM<|ai @Bf<|ai @yU<|ai @gF<|ai @jT<|@j8.eq_1):=⟨@w,@Im,@EK,@fN,@sM,@Bf,@yU,@gF,@jT,@j8.eq_1⟩
theorem zW (p0:de) (p1:(List al)) (p2:Int) (p3:(List Int)) (p4:(List al)) (r:Bool) (hh:fW p0 p1 p2 p3 p4=some r):a6 .clean tab j8 FU Try.f7 none [.agg [.int .i64 p0.aG,.sl false false p0.aw.length (ae ba p0.aw)],.sl false false p1.length (ae an p1),.int .u8 p2,.sl false false p3.length (ae (eI .u8) p3),.sl false false p4.length (ae an p4)]=some (.clean (.bool r),none):=by
 apply aD rfl Try.ntmps7 Try.results7
 unfold fW at hh
 obtain⟨r1,hr1,hh⟩:=ag hh
 obtain⟨r2,hr2,hh⟩:=ag hh
 try simp only[ak,seval,-Int.reduceToNat,hr1,hr2]
 obtain⟨o3,ho3,hh⟩:=ag hh
 refine bP 0 (fun s t H e=>match s with|s59j1=>∃v5j1:Nat,t 1=.sl false false p1.length (ae an p1)∧t 2=.int .u8 p2∧t 3=.sl false false p3.length (ae (eI .u8) p3)∧t 4=.sl false false p4.length (ae an p4)∧t 5=.ptr 5 v5j1 0∧t 11=.bool r1∧t 59=.bool s59j1∧H 5=some ⟨v5j1,24,[.int .i64 p0.aG,.sl false false p0.aw.length (ae ba p0.aw)],false,false,false⟩) (fun s=>s=o3) ?_ ?_
 ·rintro s59j1 t H e ⟨v5j1,Zj1⟩ rfl
  try dsimp only at hh
  try simp only[ak,seval,-Int.reduceToNat,hr1,hr2,Zj1]
  apply sp au hh<;>intro _ hh
  ·cases hh
   try simp only[ak,seval,-Int.reduceToNat,hr1,hr2,Zj1]
  ·obtain⟨x5,hx5,hh⟩:=ag hh
   have q6:=nw hx5
   try simp only[ak,seval,-Int.reduceToNat,hr1,hr2,Zj1,q6]
   obtain⟨o25,ho25,hh⟩:=ag hh
   refine aB (fun s t H e=>match s with|s13b=>∃v5b:Nat,t 1=.sl false false p1.length (ae an p1)∧t 3=.sl false false p3.length (ae (eI .u8) p3)∧t 4=.sl false false p4.length (ae an p4)∧t 5=.ptr 5 v5b 0∧t 11=.bool r1∧t 12=.int .i64 x5∧t 13=.int .i64 s13b∧H 5=some ⟨v5b,24,[.int .i64 p0.aG,.sl false false p0.aw.length (ae ba p0.aw)],false,false,false⟩) (fun o x t H e=>match o with|(.inl _)=>x=.exit 0∧∃v5bx:Nat,t 1=.sl false false p1.length (ae an p1)∧t 3=.sl false false p3.length (ae (eI .u8) p3)∧t 4=.sl false false p4.length (ae an p4)∧t 5=.ptr 5 v5bx 0∧t 11=.bool r1∧t 12=.int .i64 x5∧H 5=some ⟨v5bx,24,[.int .i64 p0.aG,.sl false false p0.aw.length (ae ba p0.aw)],false,false,false⟩|(.inr r)=>x=.ret∧iP .clean tab none [.tmp 10] ⟨t,EH H,e⟩=some (.clean (.bool r),none)) ho25 ?_ ?_ ?_
   ·refine⟨v5j1,?_,?_,?_,?_,?_,?_,?_,?_⟩
    all_goals first|rfl|(simp only[ak,seval,-Int.reduceToNat,hr1,hr2,Zj1,q6]<;>rfl)
   ·rintro s13b t H e ⟨v5b,Zb⟩ c hh
    simp only[ej]at hh
    try simp only[ak,seval,-Int.reduceToNat,hr1,hr2,q6,Zb]
    apply sp au hh<;>intro _ hh
    ·try simp only[ak,seval,-Int.reduceToNat,hr1,hr2,q6,Zb]
     obtain⟨o35,ho35,hh⟩:=ag hh
     refine aB (fun s t H e=>match s with|s14d=>∃v5d:Nat,t 1=.sl false false p1.length (ae an p1)∧t 3=.sl false false p3.length (ae (eI .u8) p3)∧t 4=.sl false false p4.length (ae an p4)∧t 5=.ptr 5 v5d 0∧t 11=.bool r1∧t 12=.int .i64 x5∧t 13=.int .i64 s13b∧t 14=.int .i64 s14d∧H 5=some ⟨v5d,24,[.int .i64 p0.aG,.sl false false p0.aw.length (ae ba p0.aw)],false,false,false⟩) (fun o x t H e=>match o with|(.inl _)=>x=.exit 2∧∃v5dx:Nat,t 1=.sl false false p1.length (ae an p1)∧t 3=.sl false false p3.length (ae (eI .u8) p3)∧t 4=.sl false false p4.length (ae an p4)∧t 5=.ptr 5 v5dx 0∧t 11=.bool r1∧t 12=.int .i64 x5∧t 13=.int .i64 s13b∧H 5=some ⟨v5dx,24,[.int .i64 p0.aG,.sl false false p0.aw.length (ae ba p0.aw)],false,false,false⟩|(.inr r)=>x=.ret∧iP .clean tab none [.tmp 10] ⟨t,EH H,e⟩=some (.clean (.bool r),none)) ho35 ?_ ?_ ?_
     ·refine⟨v5b,?_,?_,?_,?_,?_,?_,?_,?_,?_⟩
      all_goals first|rfl|(simp only[ak,seval,-Int.reduceToNat,hr1,hr2,q6,Zb]<;>rfl)
     ·rintro s14d t H e ⟨v5d,Zd⟩ c hh
      simp only[fe]at hh
      try simp only[ak,seval,-Int.reduceToNat,hr1,hr2,q6,Zd]
      apply sp au hh<;>intro _ hh
      ·obtain⟨x37,hx37,hh⟩:=ag hh
       have ax37:=bm (eI .u8) hx37
       simp only[bo]at ax37
       obtain⟨x38,hx38,hh⟩:=ag hh
       have q39:=nw hx38
       obtain⟨x40,hx40,hh⟩:=ag hh
       have ax40:=bm (eI .u8) hx40
       simp only[bo]at ax40
       obtain⟨x41,hx41,hh⟩:=ag hh
       have q42:=nw hx41
       try simp only[ak,seval,-Int.reduceToNat,hr1,hr2,q6,Zd,ax37,q39,ax40,q42]
       refine bF (by kernel_rfl) ?_
       try simp only[ak,seval,-Int.reduceToNat,hr1,hr2,q6,Zd,ax37,q39,ax40,q42]
       apply sp au hh<;>intro _ hh
       ·cases hh
        try simp only[ak,seval,-Int.reduceToNat,hr1,hr2,q6,Zd,ax37,q39,ax40,q42]
        refine BI ⟨rfl,?_⟩
        try simp only[ak,seval,-Int.reduceToNat,hr1,hr2,q6,Zd,ax37,q39,ax40,q42]
       ·cases hh
        try simp only[ak,seval,-Int.reduceToNat,hr1,hr2,q6,Zd,ax37,q39,ax40,q42]
        apply iC
        refine⟨v5d,?_,?_,?_,?_,?_,?_,?_,?_,?_⟩
        all_goals first|rfl|(simp only[ak,seval,-Int.reduceToNat,hr1,hr2,q6,Zd,ax37,q39,ax40,q42]<;>rfl)
      ·cases hh
       try simp only[ak,seval,-Int.reduceToNat,hr1,hr2,q6,Zd]
       apply jP
       refine⟨rfl,⟨v5d,?_,?_,?_,?_,?_,?_,?_,?_⟩⟩
       all_goals first|rfl|(simp only[ak,seval,-Int.reduceToNat,hr1,hr2,q6,Zd]<;>rfl)
     ·rintro x t H e hx
      rcases o35 with _|rd
      ·dsimp only at hx hh
       obtain⟨rfl,⟨v5dx,Zdx⟩⟩:=hx
       cases hh
       try simp only[ak,seval,-Int.reduceToNat,hr1,hr2,q6,Zdx]
       apply iC
       refine⟨v5dx,?_,?_,?_,?_,?_,?_,?_,?_⟩
       all_goals first|rfl|(simp only[ak,seval,-Int.reduceToNat,hr1,hr2,q6,Zdx]<;>rfl)
      ·dsimp only at hx hh
       obtain⟨rfl,hE⟩:=hx
       cases hh
       try simp only[bn,bg,bB,dn,dm,ct,cu]
       apply BI
       first|exact⟨rfl,hE⟩|(simp only[ak,seval,-Int.reduceToNat]at hE;exact⟨rfl,hE⟩)
    ·cases hh
     try simp only[ak,seval,-Int.reduceToNat,hr1,hr2,q6,Zb]
     apply jP
     refine⟨rfl,⟨v5b,?_,?_,?_,?_,?_,?_,?_⟩⟩
     all_goals first|rfl|(simp only[ak,seval,-Int.reduceToNat,hr1,hr2,q6,Zb]<;>rfl)
   ·rintro x t H e hx
    rcases o25 with _|rb
    ·dsimp only at hx hh
     obtain⟨rfl,⟨v5bx,Zbx⟩⟩:=hx
     try simp only[ak,seval,-Int.reduceToNat,hr1,hr2,q6,Zbx]
     obtain⟨o76,ho76,hh⟩:=ag hh
     refine aB (fun s t H e=>match s with|(s16e,l15e)=>∃v5e:Nat,∃v15e:Nat,t 1=.sl false false p1.length (ae an p1)∧t 3=.sl false false p3.length (ae (eI .u8) p3)∧t 4=.sl false false p4.length (ae an p4)∧t 5=.ptr 5 v5e 0∧t 11=.bool r1∧t 12=.int .i64 x5∧t 15=.buf 15 v15e 4 0 (l15e).length∧t 16=.int .i64 s16e∧H 5=some ⟨v5e,24,[.int .i64 p0.aG,.sl false false p0.aw.length (ae ba p0.aw)],false,false,false⟩∧H 15=some ⟨v15e,41,ae an l15e,false,true,false⟩) (fun o x t H e=>match o with|(.inl l15ex)=>x=.exit 4∧∃v5ex:Nat,∃v15ex:Nat,t 1=.sl false false p1.length (ae an p1)∧t 3=.sl false false p3.length (ae (eI .u8) p3)∧t 5=.ptr 5 v5ex 0∧t 11=.bool r1∧t 12=.int .i64 x5∧t 15=.buf 15 v15ex 4 0 (l15ex).length∧H 5=some ⟨v5ex,24,[.int .i64 p0.aG,.sl false false p0.aw.length (ae ba p0.aw)],false,false,false⟩∧H 15=some ⟨v15ex,41,ae an l15ex,false,true,false⟩|(.inr r)=>x=.ret∧iP .clean tab none [.tmp 10] ⟨t,EH H,e⟩=some (.clean (.bool r),none)) ho76 ?_ ?_ ?_
     ·refine⟨v5bx,e,?_,?_,?_,?_,?_,?_,?_,?_,?_,?_⟩
      all_goals first|rfl|(simp only[ak,seval,-Int.reduceToNat,hr1,hr2,q6,Zbx]<;>rfl)
     ·rintro⟨s16e,l15e⟩ t H e ⟨v5e,v15e,Ze⟩ c hh
      simp only[dt]at hh
      obtain⟨x77,hx77,hh⟩:=ag hh
      have q78:=km hx77
      try simp only[ak,seval,-Int.reduceToNat,hr1,hr2,q6,Ze,q78]
      apply sp au hh<;>intro _ hh
      ·obtain⟨x80,hx80,hh⟩:=ag hh
       obtain⟨q81a,q81b,q81c⟩:=xT hx80
       replace q81a:=q81a.symm
       subst q81a
       try simp only[ak,seval,-Int.reduceToNat,hr1,hr2,q6,Ze,q78,q81b,q81c]
       obtain⟨o92,ho92,hh⟩:=ag hh
       refine aB (fun s t H e=>match s with|(s18g,l17g)=>∃v5g:Nat,∃v15g:Nat,∃v17g:Nat,t 1=.sl false false p1.length (ae an p1)∧t 3=.sl false false p3.length (ae (eI .u8) p3)∧t 4=.sl false false p4.length (ae an p4)∧t 5=.ptr 5 v5g 0∧t 11=.bool r1∧t 12=.int .i64 x5∧t 15=.buf 15 v15g 4 0 (l15e).length∧t 16=.int .i64 s16e∧t 17=.buf 17 v17g 4 0 (l17g).length∧t 18=.int .i64 s18g∧H 5=some ⟨v5g,24,[.int .i64 p0.aG,.sl false false p0.aw.length (ae ba p0.aw)],false,false,false⟩∧H 15=some ⟨v15g,41,ae an l15e,false,true,false⟩∧H 17=some ⟨v17g,41,ae an l17g,false,true,false⟩) (fun o x t H e=>match o with|l17gx=>x=.exit 6∧∃v5gx:Nat,∃v15gx:Nat,∃v17gx:Nat,t 1=.sl false false p1.length (ae an p1)∧t 3=.sl false false p3.length (ae (eI .u8) p3)∧t 4=.sl false false p4.length (ae an p4)∧t 5=.ptr 5 v5gx 0∧t 11=.bool r1∧t 12=.int .i64 x5∧t 15=.buf 15 v15gx 4 0 (l15e).length∧t 16=.int .i64 s16e∧t 17=.buf 17 v17gx 4 0 (l17gx).length∧H 5=some ⟨v5gx,24,[.int .i64 p0.aG,.sl false false p0.aw.length (ae ba p0.aw)],false,false,false⟩∧H 15=some ⟨v15gx,41,ae an l15e,false,true,false⟩∧H 17=some ⟨v17gx,41,ae an l17gx,false,true,false⟩) ho92 ?_ ?_ ?_
       ·refine⟨v5e,v15e,e+1,?_,?_,?_,?_,?_,?_,?_,?_,?_,?_,?_,?_,?_⟩
        all_goals first|rfl|(simp only[ak,seval,-Int.reduceToNat,hr1,hr2,q6,Ze,q78,q81b,q81c]<;>rfl)
       ·rintro⟨s18g,l17g⟩ t H e ⟨v5g,v15g,v17g,Zg⟩ c hh
        simp only[du]at hh
        try simp only[ak,seval,-Int.reduceToNat,hr1,hr2,q6,q78,q81b,q81c,Zg]
        apply sp au hh<;>intro _ hh
        ·obtain⟨x94,hx94,hh⟩:=ag hh
         have q95:=gQ hx94
         try simp only[ak,seval,-Int.reduceToNat,hr1,hr2,q6,q78,q81b,q81c,Zg,q95]
         apply sp au hh<;>intro _ hh
         ·obtain⟨x97,hx97,hh⟩:=ag hh
          have ax97:=bm (eI .u8) hx97
          simp only[bo]at ax97
          obtain⟨x98,hx98,hh⟩:=ag hh
          have q99:=nw hx98
          obtain⟨x100,hx100,hh⟩:=ag hh
          have ax100:=bm an hx100
          simp only[bo]at ax100
          obtain⟨x101,hx101,hh⟩:=ag hh
          have ax101:=bm an hx101
          simp only[bo]at ax101
          have p102:=dF an (x':=x100) (fo:=0) (cs:=[.int .i64 x100.aJ.ah,.sl false false x100.aJ.aa.length (ae (eI .i64) x100.aJ.aa),.int .i64 x100.aL.ah,.sl false false x100.aL.aa.length (ae (eI .i64) x100.aL.aa)]) hx101 rfl (agv rfl)
          simp only[bo,Nat.add_zero]at p102
          have up102:=p102
          simp only[putCells,List.length_cons,List.length_nil,afB,Nat.reduceAdd]at up102
          try simp only[ak,seval,-Int.reduceToNat,hr1,hr2,q6,q78,q81b,q81c,Zg,q95,ax97,q99,ax100,ax101,p102,up102]
          refine bF (by kernel_rfl) ?_
          cases hh
          try simp only[ak,seval,-Int.reduceToNat,hr1,hr2,q6,q78,q81b,q81c,Zg,q95,ax97,q99,ax100,ax101,p102,up102]
          apply iC
          refine⟨v5g,v15g,v17g,?_,?_,?_,?_,?_,?_,?_,?_,?_,?_,?_,?_,?_⟩
          all_goals first|rfl|(simp only[ak,seval,-Int.reduceToNat,hr1,hr2,q6,q78,q81b,q81c,Zg,q95,ax97,q99,ax100,ax101,p102,up102]<;>rfl)
         ·cases hh
          try simp only[ak,seval,-Int.reduceToNat,hr1,hr2,q6,q78,q81b,q81c,Zg,q95]
          apply iC
          refine⟨v5g,v15g,v17g,?_,?_,?_,?_,?_,?_,?_,?_,?_,?_,?_,?_,?_⟩
          all_goals first|rfl|(simp only[ak,seval,-Int.reduceToNat,hr1,hr2,q6,q78,q81b,q81c,Zg,q95]<;>rfl)
        ·cases hh
         try simp only[ak,seval,-Int.reduceToNat,hr1,hr2,q6,q78,q81b,q81c,Zg]
         apply jP
         refine⟨rfl,⟨v5g,v15g,v17g,?_,?_,?_,?_,?_,?_,?_,?_,?_,?_,?_,?_⟩⟩
         all_goals first|rfl|(simp only[ak,seval,-Int.reduceToNat,hr1,hr2,q6,q78,q81b,q81c,Zg]<;>rfl)
       ·rintro x t H e hx
        obtain⟨l17gx,rfl⟩:∃z,z=o92:=⟨_,rfl⟩
        dsimp only at hx hh
        obtain⟨rfl,⟨v5gx,v15gx,v17gx,Zgx⟩⟩:=hx
        obtain⟨r103,hr103,hh⟩:=ag hh
        try simp only[ak,seval,-Int.reduceToNat,hr1,hr2,q6,q78,q81b,q81c,Zgx,hr103]
        apply sp au hh<;>intro _ hh
        ·cases hh
         try simp only[ak,seval,-Int.reduceToNat,hr1,hr2,q6,q78,q81b,q81c,Zgx,hr103]
         refine BI ⟨rfl,?_⟩
         try simp only[ak,seval,-Int.reduceToNat,hr1,hr2,q6,q78,q81b,q81c,Zgx,hr103]
        ·try simp only[ak,seval,-Int.reduceToNat,hr1,hr2,q6,q78,q81b,q81c,Zgx,hr103]
         apply sp au hh<;>intro _ hh
         ·cases hh
          try simp only[ak,seval,-Int.reduceToNat,hr1,hr2,q6,q78,q81b,q81c,Zgx,hr103]
          refine BI ⟨rfl,?_⟩
          try simp only[ak,seval,-Int.reduceToNat,hr1,hr2,q6,q78,q81b,q81c,Zgx,hr103]
         ·obtain⟨x106,hx106,hh⟩:=ag hh
          have ax106:=bm an hx106
          simp only[bo]at ax106
          obtain⟨x107,hx107,hh⟩:=ag hh
          obtain⟨q108a,q108b,q108c,q108d⟩:=gI an hx107
          simp only[bo]at q108b
          cases hh
          try simp only[ak,seval,-Int.reduceToNat,hr1,hr2,q6,q78,q81b,q81c,Zgx,hr103,ax106,q108a,q108b,q108c,q108d]
          apply iC
          refine⟨v5gx,e+1+1+1,?_,?_,?_,?_,?_,?_,?_,?_,?_,?_⟩
          all_goals first|rfl|(simp only[ak,seval,-Int.reduceToNat,hr1,hr2,q6,q78,q81b,q81c,Zgx,hr103,ax106,q108a,q108b,q108c,q108d]<;>rfl)
      ·cases hh
       try simp only[ak,seval,-Int.reduceToNat,hr1,hr2,q6,Ze,q78]
       apply jP
       refine⟨rfl,⟨v5e,v15e,?_,?_,?_,?_,?_,?_,?_,?_⟩⟩
       all_goals first|rfl|(simp only[ak,seval,-Int.reduceToNat,hr1,hr2,q6,Ze,q78]<;>rfl)
     ·rintro x t H e hx
      rcases o76 with l15ex|re
      ·dsimp only at hx hh
       obtain⟨rfl,⟨v5ex,v15ex,Zex⟩⟩:=hx
       obtain⟨r109,hr109,hh⟩:=ag hh
       try simp only[ak,seval,-Int.reduceToNat,hr1,hr2,q6,Zex,hr109]
       obtain⟨o110,ho110,hh⟩:=ag hh
       refine bP 0 (fun s t H e=>match s with|s165j8=>∃v5j8:Nat,∃v15j8:Nat,t 1=.sl false false p1.length (ae an p1)∧t 3=.sl false false p3.length (ae (eI .u8) p3)∧t 5=.ptr 5 v5j8 0∧t 11=.bool r1∧t 12=.int .i64 x5∧t 15=.buf 15 v15j8 4 0 (l15ex).length∧t 21=.sl false false r109.1.length (ae an r109.1)∧t 165=.bool s165j8∧H 5=some ⟨v5j8,24,[.int .i64 p0.aG,.sl false false p0.aw.length (ae ba p0.aw)],false,false,false⟩∧H 15=some ⟨v15j8,41,ae an l15ex,true,true,false⟩) (fun s=>s=o110) ?_ ?_
       ·rintro s165j8 t H e ⟨v5j8,v15j8,Zj8⟩ rfl
        try dsimp only at hh
        try simp only[ak,seval,-Int.reduceToNat,hr1,hr2,q6,hr109,Zj8]
        apply sp au hh<;>intro _ hh
        ·cases hh
         try simp only[ak,seval,-Int.reduceToNat,hr1,hr2,q6,hr109,Zj8]
        ·try simp only[ak,seval,-Int.reduceToNat,hr1,hr2,q6,hr109,Zj8]
         obtain⟨o161,ho161,hh⟩:=ag hh
         refine aB (fun s t H e=>match s with|s23i=>∃v5i:Nat,∃v15i:Nat,t 1=.sl false false p1.length (ae an p1)∧t 3=.sl false false p3.length (ae (eI .u8) p3)∧t 5=.ptr 5 v5i 0∧t 11=.bool r1∧t 12=.int .i64 x5∧t 15=.buf 15 v15i 4 0 (l15ex).length∧t 21=.sl false false r109.1.length (ae an r109.1)∧t 23=.int .i64 s23i∧H 5=some ⟨v5i,24,[.int .i64 p0.aG,.sl false false p0.aw.length (ae ba p0.aw)],false,false,false⟩∧H 15=some ⟨v15i,41,ae an l15ex,true,true,false⟩) (fun o x t H e=>match o with|(.inl _)=>x=.exit 8∧t 11=.bool r1|(.inr r)=>x=.ret∧iP .clean tab none [.tmp 10] ⟨t,EH H,e⟩=some (.clean (.bool r),none)) ho161 ?_ ?_ ?_
         ·refine⟨v5j8,v15j8,?_,?_,?_,?_,?_,?_,?_,?_,?_,?_⟩
          all_goals first|rfl|(simp only[ak,seval,-Int.reduceToNat,hr1,hr2,q6,hr109,Zj8]<;>rfl)
         ·rintro s23i t H e ⟨v5i,v15i,Zi⟩ c hh
          simp only[jA]at hh
          try simp only[ak,seval,-Int.reduceToNat,hr1,hr2,q6,hr109,Zi]
          apply sp au hh<;>intro _ hh
          ·obtain⟨x163,hx163,hh⟩:=ag hh
           have q164:=km hx163
           obtain⟨x165,hx165,hh⟩:=ag hh
           have ax165:=bm an hx165
           simp only[bo]at ax165
           obtain⟨x166,hx166,hh⟩:=ag hh
           have ax166:=bm an hx166
           simp only[bo]at ax166
           obtain⟨r167,hr167,hh⟩:=ag hh
           try simp only[ak,seval,-Int.reduceToNat,hr1,hr2,q6,hr109,Zi,q164,ax165,ax166,hr167]
           refine bF (by kernel_rfl) ?_
           obtain⟨x168,hx168,hh⟩:=ag hh
           have ax168:=bm an hx168
           simp only[bo]at ax168
           obtain⟨r169,hr169,hh⟩:=ag hh
           try simp only[ak,seval,-Int.reduceToNat,hr1,hr2,q6,hr109,Zi,q164,ax165,ax166,hr167,ax168,hr169]
           refine bF (by kernel_rfl) ?_
           try simp only[ak,seval,-Int.reduceToNat,hr1,hr2,q6,hr109,Zi,q164,ax165,ax166,hr167,ax168,hr169]
           apply sp au hh<;>intro _ hh
           ·cases hh
            try simp only[ak,seval,-Int.reduceToNat,hr1,hr2,q6,hr109,Zi,q164,ax165,ax166,hr167,ax168,hr169]
            refine BI ⟨rfl,?_⟩
            try simp only[ak,seval,-Int.reduceToNat,hr1,hr2,q6,hr109,Zi,q164,ax165,ax166,hr167,ax168,hr169]
           ·obtain⟨x171,hx171,hh⟩:=ag hh
            obtain⟨q172a,q172b,q172c,q172d,q172e⟩:=mk_one lY hx171
            simp only[bo]at q172d
            obtain⟨x173,hx173,hh⟩:=ag hh
            have ax173:=bm (eI .u8) hx173
            simp only[bo]at ax173
            obtain⟨x174,hx174,hh⟩:=ag hh
            have q175:=nw hx174
            obtain⟨x176,hx176,hh⟩:=ag hh
            have ax176:=bm lY hx176
            simp only[bo]at ax176
            have p177:=dF lY (x':=true) (fo:=0) (cs:=[.bool true]) hx176 rfl (agv rfl)
            simp only[bo,Nat.add_zero]at p177
            have up177:=p177
            simp only[putCells,List.length_cons,List.length_nil,afB,Nat.reduceAdd]at up177
            try simp only[ak,seval,-Int.reduceToNat,hr1,hr2,q6,hr109,Zi,q164,ax165,ax166,hr167,ax168,hr169,q172a,q172b,q172c,q172d,q172e,ax173,q175,ax176,p177,up177]
            obtain⟨o192,ho192,hh⟩:=ag hh
            refine aB (fun s t H e=>match s with|(s27m,l26m)=>∃v5m:Nat,∃v15m:Nat,∃v26m:Nat,t 1=.sl false false p1.length (ae an p1)∧t 3=.sl false false p3.length (ae (eI .u8) p3)∧t 5=.ptr 5 v5m 0∧t 11=.bool r1∧t 12=.int .i64 x5∧t 15=.buf 15 v15m 4 0 (l15ex).length∧t 21=.sl false false r109.1.length (ae an r109.1)∧t 23=.int .i64 s23i∧t 26=.buf 26 v26m 1 0 (l26m).length∧t 27=.int .i64 s27m∧H 5=some ⟨v5m,24,[.int .i64 p0.aG,.sl false false p0.aw.length (ae ba p0.aw)],false,false,false⟩∧H 15=some ⟨v15m,41,ae an l15ex,true,true,false⟩∧H 26=some ⟨v26m,4,ae lY l26m,false,true,false⟩) (fun o x t H e=>match o with|l26mx=>x=.exit 10∧∃v5mx:Nat,∃v15mx:Nat,∃v26mx:Nat,t 1=.sl false false p1.length (ae an p1)∧t 3=.sl false false p3.length (ae (eI .u8) p3)∧t 5=.ptr 5 v5mx 0∧t 11=.bool r1∧t 12=.int .i64 x5∧t 15=.buf 15 v15mx 4 0 (l15ex).length∧t 21=.sl false false r109.1.length (ae an r109.1)∧t 23=.int .i64 s23i∧t 26=.buf 26 v26mx 1 0 (l26mx).length∧H 5=some ⟨v5mx,24,[.int .i64 p0.aG,.sl false false p0.aw.length (ae ba p0.aw)],false,false,false⟩∧H 15=some ⟨v15mx,41,ae an l15ex,true,true,false⟩∧H 26=some ⟨v26mx,4,ae lY l26mx,false,true,false⟩) ho192 ?_ ?_ ?_
            ·refine⟨v5i,v15i,e+1+1+1,?_,?_,?_,?_,?_,?_,?_,?_,?_,?_,?_,?_,?_⟩
             all_goals first|rfl|(simp only[ak,seval,-Int.reduceToNat,hr1,hr2,q6,hr109,Zi,q164,ax165,ax166,hr167,ax168,hr169,q172a,q172b,q172c,q172d,q172e,ax173,q175,ax176,p177,up177]<;>rfl)
            ·rintro⟨s27m,l26m⟩ t H e ⟨v5m,v15m,v26m,Zm⟩ c hh
             simp only[iR]at hh
             try simp only[ak,seval,-Int.reduceToNat,hr1,hr2,q6,hr109,q164,ax165,ax166,hr167,ax168,hr169,q172a,q172b,q172c,q172d,q172e,ax173,q175,ax176,p177,up177,Zm]
             apply sp au hh<;>intro _ hh
             ·try simp only[ak,seval,-Int.reduceToNat,hr1,hr2,q6,hr109,q164,ax165,ax166,hr167,ax168,hr169,q172a,q172b,q172c,q172d,q172e,ax173,q175,ax176,p177,up177,Zm]
              obtain⟨o200,ho200,hh⟩:=ag hh
              refine aB (fun s t H e=>match s with|(s28o,l26o)=>∃v5o:Nat,∃v15o:Nat,∃v26o:Nat,t 1=.sl false false p1.length (ae an p1)∧t 3=.sl false false p3.length (ae (eI .u8) p3)∧t 5=.ptr 5 v5o 0∧t 11=.bool r1∧t 12=.int .i64 x5∧t 15=.buf 15 v15o 4 0 (l15ex).length∧t 21=.sl false false r109.1.length (ae an r109.1)∧t 23=.int .i64 s23i∧t 26=.buf 26 v26o 1 0 (l26o).length∧t 27=.int .i64 s27m∧t 28=.int .i64 s28o∧H 5=some ⟨v5o,24,[.int .i64 p0.aG,.sl false false p0.aw.length (ae ba p0.aw)],false,false,false⟩∧H 15=some ⟨v15o,41,ae an l15ex,true,true,false⟩∧H 26=some ⟨v26o,4,ae lY l26o,false,true,false⟩) (fun o x t H e=>match o with|l26ox=>x=.exit 12∧∃v5ox:Nat,∃v15ox:Nat,∃v26ox:Nat,t 1=.sl false false p1.length (ae an p1)∧t 3=.sl false false p3.length (ae (eI .u8) p3)∧t 5=.ptr 5 v5ox 0∧t 11=.bool r1∧t 12=.int .i64 x5∧t 15=.buf 15 v15ox 4 0 (l15ex).length∧t 21=.sl false false r109.1.length (ae an r109.1)∧t 23=.int .i64 s23i∧t 26=.buf 26 v26ox 1 0 (l26ox).length∧t 27=.int .i64 s27m∧H 5=some ⟨v5ox,24,[.int .i64 p0.aG,.sl false false p0.aw.length (ae ba p0.aw)],false,false,false⟩∧H 15=some ⟨v15ox,41,ae an l15ex,true,true,false⟩∧H 26=some ⟨v26ox,4,ae lY l26ox,false,true,false⟩) ho200 ?_ ?_ ?_
              ·refine⟨v5m,v15m,v26m,?_,?_,?_,?_,?_,?_,?_,?_,?_,?_,?_,?_,?_,?_⟩
               all_goals first|rfl|(simp only[ak,seval,-Int.reduceToNat,hr1,hr2,q6,hr109,q164,ax165,ax166,hr167,ax168,hr169,q172a,q172b,q172c,q172d,q172e,ax173,q175,ax176,p177,up177,Zm]<;>rfl)
              ·rintro⟨s28o,l26o⟩ t H e ⟨v5o,v15o,v26o,Zo⟩ c hh
               simp only[pH]at hh
               try simp only[ak,seval,-Int.reduceToNat,hr1,hr2,q6,hr109,q164,ax165,ax166,hr167,ax168,hr169,q172a,q172b,q172c,q172d,q172e,ax173,q175,ax176,p177,up177,Zo]
               apply sp au hh<;>intro _ hh
               ·obtain⟨x202,hx202,hh⟩:=ag hh
                have ax202:=bm ba hx202
                simp only[bo]at ax202
                obtain⟨x203,hx203,hh⟩:=ag hh
                have ax203:=bm lY hx203
                simp only[bo]at ax203
                try simp only[ak,seval,-Int.reduceToNat,hr1,hr2,q6,hr109,q164,ax165,ax166,hr167,ax168,hr169,q172a,q172b,q172c,q172d,q172e,ax173,q175,ax176,p177,up177,Zo,ax202,ax203]
                apply sp au hh<;>intro _ hh
                ·have ax202:=bm ba hx202
                 simp only[bo]at ax202
                 obtain⟨x205,hx205,hh⟩:=ag hh
                 have ax205:=bm lY hx205
                 simp only[bo]at ax205
                 have p206:=dF lY (x':=true) (fo:=0) (cs:=[.bool true]) hx205 rfl (agv rfl)
                 simp only[bo,Nat.add_zero]at p206
                 have up206:=p206
                 simp only[putCells,List.length_cons,List.length_nil,afB,Nat.reduceAdd]at up206
                 cases hh
                 try simp only[ak,seval,-Int.reduceToNat,hr1,hr2,q6,hr109,q164,ax165,ax166,hr167,ax168,hr169,q172a,q172b,q172c,q172d,q172e,ax173,q175,ax176,p177,up177,Zo,ax202,ax203,ax202,ax205,p206,up206]
                 apply iC
                 refine⟨v5o,v15o,v26o,?_,?_,?_,?_,?_,?_,?_,?_,?_,?_,?_,?_,?_,?_⟩
                 all_goals first|rfl|(simp only[ak,seval,-Int.reduceToNat,hr1,hr2,q6,hr109,q164,ax165,ax166,hr167,ax168,hr169,q172a,q172b,q172c,q172d,q172e,ax173,q175,ax176,p177,up177,Zo,ax202,ax203,ax202,ax205,p206,up206]<;>rfl)
                ·cases hh
                 try simp only[ak,seval,-Int.reduceToNat,hr1,hr2,q6,hr109,q164,ax165,ax166,hr167,ax168,hr169,q172a,q172b,q172c,q172d,q172e,ax173,q175,ax176,p177,up177,Zo,ax202,ax203]
                 apply iC
                 refine⟨v5o,v15o,v26o,?_,?_,?_,?_,?_,?_,?_,?_,?_,?_,?_,?_,?_,?_⟩
                 all_goals first|rfl|(simp only[ak,seval,-Int.reduceToNat,hr1,hr2,q6,hr109,q164,ax165,ax166,hr167,ax168,hr169,q172a,q172b,q172c,q172d,q172e,ax173,q175,ax176,p177,up177,Zo,ax202,ax203]<;>rfl)
               ·cases hh
                try simp only[ak,seval,-Int.reduceToNat,hr1,hr2,q6,hr109,q164,ax165,ax166,hr167,ax168,hr169,q172a,q172b,q172c,q172d,q172e,ax173,q175,ax176,p177,up177,Zo]
                apply jP
                refine⟨rfl,⟨v5o,v15o,v26o,?_,?_,?_,?_,?_,?_,?_,?_,?_,?_,?_,?_,?_⟩⟩
                all_goals first|rfl|(simp only[ak,seval,-Int.reduceToNat,hr1,hr2,q6,hr109,q164,ax165,ax166,hr167,ax168,hr169,q172a,q172b,q172c,q172d,q172e,ax173,q175,ax176,p177,up177,Zo]<;>rfl)
              ·rintro x t H e hx
               obtain⟨l26ox,rfl⟩:∃z,z=o200:=⟨_,rfl⟩
               dsimp only at hx hh
               obtain⟨rfl,⟨v5ox,v15ox,v26ox,Zox⟩⟩:=hx
               cases hh
               try simp only[ak,seval,-Int.reduceToNat,hr1,hr2,q6,hr109,q164,ax165,ax166,hr167,ax168,hr169,q172a,q172b,q172c,q172d,q172e,ax173,q175,ax176,p177,up177,Zox]
               apply iC
               refine⟨v5ox,v15ox,v26ox,?_,?_,?_,?_,?_,?_,?_,?_,?_,?_,?_,?_,?_⟩
               all_goals first|rfl|(simp only[ak,seval,-Int.reduceToNat,hr1,hr2,q6,hr109,q164,ax165,ax166,hr167,ax168,hr169,q172a,q172b,q172c,q172d,q172e,ax173,q175,ax176,p177,up177,Zox]<;>rfl)
             ·cases hh
              try simp only[ak,seval,-Int.reduceToNat,hr1,hr2,q6,hr109,q164,ax165,ax166,hr167,ax168,hr169,q172a,q172b,q172c,q172d,q172e,ax173,q175,ax176,p177,up177,Zm]
              apply jP
              refine⟨rfl,⟨v5m,v15m,v26m,?_,?_,?_,?_,?_,?_,?_,?_,?_,?_,?_,?_⟩⟩
              all_goals first|rfl|(simp only[ak,seval,-Int.reduceToNat,hr1,hr2,q6,hr109,q164,ax165,ax166,hr167,ax168,hr169,q172a,q172b,q172c,q172d,q172e,ax173,q175,ax176,p177,up177,Zm]<;>rfl)
            ·rintro x t H e hx
             obtain⟨l26mx,rfl⟩:∃z,z=o192:=⟨_,rfl⟩
             dsimp only at hx hh
             obtain⟨rfl,⟨v5mx,v15mx,v26mx,Zmx⟩⟩:=hx
             obtain⟨x207,hx207,hh⟩:=ag hh
             have ax207:=bm lY hx207
             simp only[bo]at ax207
             try simp only[ak,seval,-Int.reduceToNat,hr1,hr2,q6,hr109,q164,ax165,ax166,hr167,ax168,hr169,q172a,q172b,q172c,q172d,q172e,ax173,q175,ax176,p177,up177,Zmx,ax207]
             apply sp dj hh<;>intro _ hh
             ·have ax168:=bm an hx168
              simp only[bo]at ax168
              obtain⟨r209,hr209,hh⟩:=ag hh
              try simp only[ak,seval,-Int.reduceToNat,hr1,hr2,q6,hr109,q164,ax165,ax166,hr167,ax168,hr169,q172a,q172b,q172c,q172d,q172e,ax173,q175,ax176,p177,up177,Zmx,ax207,ax168,hr209]
              apply sp au hh<;>intro _ hh
              ·cases hh
               try simp only[ak,seval,-Int.reduceToNat,hr1,hr2,q6,hr109,q164,ax165,ax166,hr167,ax168,hr169,q172a,q172b,q172c,q172d,q172e,ax173,q175,ax176,p177,up177,Zmx,ax207,ax168,hr209]
               refine BI ⟨rfl,?_⟩
               try simp only[ak,seval,-Int.reduceToNat,hr1,hr2,q6,hr109,q164,ax165,ax166,hr167,ax168,hr169,q172a,q172b,q172c,q172d,q172e,ax173,q175,ax176,p177,up177,Zmx,ax207,ax168,hr209]
              ·cases hh
               try simp only[ak,seval,-Int.reduceToNat,hr1,hr2,q6,hr109,q164,ax165,ax166,hr167,ax168,hr169,q172a,q172b,q172c,q172d,q172e,ax173,q175,ax176,p177,up177,Zmx,ax207,ax168,hr209]
               apply iC
               refine⟨v5mx,v15mx,?_,?_,?_,?_,?_,?_,?_,?_,?_,?_⟩
               all_goals first|rfl|(simp only[ak,seval,-Int.reduceToNat,hr1,hr2,q6,hr109,q164,ax165,ax166,hr167,ax168,hr169,q172a,q172b,q172c,q172d,q172e,ax173,q175,ax176,p177,up177,Zmx,ax207,ax168,hr209]<;>rfl)
             ·cases hh
              try simp only[ak,seval,-Int.reduceToNat,hr1,hr2,q6,hr109,q164,ax165,ax166,hr167,ax168,hr169,q172a,q172b,q172c,q172d,q172e,ax173,q175,ax176,p177,up177,Zmx,ax207]
              apply iC
              refine⟨v5mx,v15mx,?_,?_,?_,?_,?_,?_,?_,?_,?_,?_⟩
              all_goals first|rfl|(simp only[ak,seval,-Int.reduceToNat,hr1,hr2,q6,hr109,q164,ax165,ax166,hr167,ax168,hr169,q172a,q172b,q172c,q172d,q172e,ax173,q175,ax176,p177,up177,Zmx,ax207]<;>rfl)
          ·cases hh
           try simp only[ak,seval,-Int.reduceToNat,hr1,hr2,q6,hr109,Zi]
           apply jP
           refine⟨rfl,?_⟩
           all_goals first|rfl|(simp only[ak,seval,-Int.reduceToNat,hr1,hr2,q6,hr109,Zi]<;>rfl)
         ·rintro x t H e hx
          rcases o161 with _|ri
          ·dsimp only at hx hh
           obtain⟨rfl,Zix⟩:=hx
           cases hh
           try simp only[ak,seval,-Int.reduceToNat,hr1,hr2,q6,hr109,Zix]
          ·dsimp only at hx hh
           obtain⟨rfl,hE⟩:=hx
           cases hh
           try simp only[bn,bg,bB,dn,dm,ct,cu]
           exact hE
       ·clear hh
        have hh:=ho110
        try simp only[ak,seval,-Int.reduceToNat,hr1,hr2,q6,Zex,hr109]
        apply sp bc hh<;>intro _ hh
        ·cases hh
         try simp only[ak,seval,-Int.reduceToNat,hr1,hr2,q6,Zex,hr109]
         rw[av]
         refine⟨_,rfl,?_⟩
         refine⟨v5ex,v15ex,?_,?_,?_,?_,?_,?_,?_,?_,?_,?_⟩
         all_goals first|rfl|(simp only[ak,seval,-Int.reduceToNat,hr1,hr2,q6,Zex,hr109]<;>rfl)
        ·cases hh
         try simp only[ak,seval,-Int.reduceToNat,hr1,hr2,q6,Zex,hr109]
         rw[av]
         refine⟨_,rfl,?_⟩
         refine⟨v5ex,v15ex,?_,?_,?_,?_,?_,?_,?_,?_,?_,?_⟩
         all_goals first|rfl|(simp only[ak,seval,-Int.reduceToNat,hr1,hr2,q6,Zex,hr109]<;>rfl)
      ·dsimp only at hx hh
       obtain⟨rfl,hE⟩:=hx
       cases hh
       try simp only[bn,bg,bB,dn,dm,ct,cu]
       exact hE
    ·dsimp only at hx hh
     obtain⟨rfl,hE⟩:=hx
     cases hh
     try simp only[bn,bg,bB,dn,dm,ct,cu]
     exact hE
 ·clear hh
  have hh:=ho3
  try simp only[ak,seval,-Int.reduceToNat,hr1,hr2]
  apply sp bc hh<;>intro _ hh
  ·cases hh
   try simp only[ak,seval,-Int.reduceToNat,hr1,hr2]
   rw[av]
   refine⟨_,rfl,?_⟩
   refine⟨0,?_,?_,?_,?_,?_,?_,?_,?_⟩
   all_goals first|rfl|(simp only[ak,seval,-Int.reduceToNat,hr1,hr2]<;>rfl)
  ·obtain⟨r213,hr213,hh⟩:=ag hh
   try simp only[ak,seval,-Int.reduceToNat,hr1,hr2,hr213]
   apply sp bc hh<;>intro _ hh
   ·cases hh
    try simp only[ak,seval,-Int.reduceToNat,hr1,hr2,hr213]
    rw[av]
    refine⟨_,rfl,?_⟩
    refine⟨0,?_,?_,?_,?_,?_,?_,?_,?_⟩
    all_goals first|rfl|(simp only[ak,seval,-Int.reduceToNat,hr1,hr2,hr213]<;>rfl)
   ·try simp only[ak,seval,-Int.reduceToNat,hr1,hr2,hr213]
    apply sp bc hh<;>intro _ hh
    ·cases hh
     try simp only[ak,seval,-Int.reduceToNat,hr1,hr2,hr213]
     rw[av]
     refine⟨_,rfl,?_⟩
     refine⟨0,?_,?_,?_,?_,?_,?_,?_,?_⟩
     all_goals first|rfl|(simp only[ak,seval,-Int.reduceToNat,hr1,hr2,hr213]<;>rfl)
    ·try simp only[ak,seval,-Int.reduceToNat,hr1,hr2,hr213]
     apply sp bc hh<;>intro _ hh
     ·cases hh
      try simp only[ak,seval,-Int.reduceToNat,hr1,hr2,hr213]
      rw[av]
      refine⟨_,rfl,?_⟩
      refine⟨0,?_,?_,?_,?_,?_,?_,?_,?_⟩
      all_goals first|rfl|(simp only[ak,seval,-Int.reduceToNat,hr1,hr2,hr213]<;>rfl)
     ·try simp only[ak,seval,-Int.reduceToNat,hr1,hr2,hr213]
      apply sp bc hh<;>intro _ hh
      ·cases hh
       try simp only[ak,seval,-Int.reduceToNat,hr1,hr2,hr213]
       rw[av]
       refine⟨_,rfl,?_⟩
       refine⟨0,?_,?_,?_,?_,?_,?_,?_,?_⟩
       all_goals first|rfl|(simp only[ak,seval,-Int.reduceToNat,hr1,hr2,hr213]<;>rfl)
      ·obtain⟨r218,hr218,hh⟩:=ag hh
       cases hh
       try simp only[ak,seval,-Int.reduceToNat,hr1,hr2,hr213,hr218]
       rw[av]
       refine⟨_,rfl,?_⟩
       refine⟨0,?_,?_,?_,?_,?_,?_,?_,?_⟩
       all_goals first|rfl|(simp only[ak,seval,-Int.reduceToNat,hr1,hr2,hr213,hr218]<;>rfl)
theorem yL:bT Try.prog 7 zu:=bT.of (mode := .clean) tok yv mixed Try.func7 (by kernel_rfl) ⟨by kernel_rfl,by kernel_rfl⟩ (fun _=>agv (by kernel_rfl)) (fun x r h=>zW x.1 x.2.1 x.2.2.1 x.2.2.2.1 x.2.2.2.2 r h)
end Go.Proofs.Ytchndpjlijbplaa.Am
namespace Go.Proofs.Ytchndpjlijbplaa.Am
open Go.ChangeShapes Go.WideShapes Go.ChangeAt Go.RowKit Go.Proofs.Ytchndpjlijbplaa.P
set_option maxRecDepth 100000
theorem Try.own:ownKnob Try.prog.godebug=none:=by kernel_rfl
theorem Try.laidOut:laidOutB Try.prog=true:=by kernel_rfl
theorem XY (n:Nat):KK tab (n+1) 3 (eI .i64) (fun x=>(Lit.int .i64 x).wf=true):=opI Uc rfl rfl
theorem acS (n:Nat):KK tab (n+2) 33 (Md (eI .i64)) (fun x=>(x.length*8<=140737488351232∧∀y∈x,(Lit.int .i64 y).wf=true)):=Z0 Kw rfl rfl (by rw[Uc];rfl) (XY n)
def J9 (x:aq):Prop:=(Lit.int .i64 x.ah).wf=true∧((x.aa.length*8<=140737488351232∧∀y∈x.aa,(Lit.int .i64 y).wf=true))
theorem aa5 (n:Nat):KK tab (n+3) 39 fb (fun x=>J9 x):=opS (g:=fun y=>aq.mk y.1 y.2) Rp rfl rfl (fun _=>rfl) (XX (XY (n+1)) rfl (ZZ (acS n)))
def mn (x:al):Prop:=J9 x.aJ∧(J9 x.aL)
theorem aa6 (n:Nat):KK tab (n+4) 41 an (fun x=>mn x):=opS (g:=fun y=>al.mk y.1 y.2) Kx rfl rfl (fun _=>rfl) (XX (aa5 n) rfl (ZZ (aa5 n)))
def El (x:fa):Prop:=(Lit.int .i64 x.dq).wf=true∧((Lit.int .i64 x.lJ).wf=true∧(mn x.bR))
theorem acT (n:Nat):KK tab (n+5) 46 ba (fun x=>El x):=opS (g:=fun y=>fa.mk y.1 y.2.1 y.2.2) Ky rfl rfl (fun _=>rfl) (XX (XY (n+3)) rfl (XX (XY (n+3)) rfl (ZZ (aa6 n))))
theorem acQ (n:Nat):KK tab (n+6) 22 (Md ba) (fun x=>(x.length*80<=140737488351232∧∀y∈x,El y)):=Z0 Ro rfl rfl (by rw[Ky];rfl) (acT n)
def B3 (x:de):Prop:=(Lit.int .i64 x.aG).wf=true∧((x.aw.length*80<=140737488351232∧∀y∈x.aw,El y))
theorem acR (n:Nat):KK tab (n+7) 24 td (fun x=>B3 x):=opS (g:=fun y=>de.mk y.1 y.2) Kv rfl rfl (fun _=>rfl) (XX (XY (n+5)) rfl (ZZ (acQ n)))
theorem aa4 (n:Nat):KK tab (n+5) 25 (Md an) (fun x=>(x.length*64<=140737488351232∧∀y∈x,mn y)):=Z0 Fa rfl rfl (by rw[Kx];rfl) (aa6 n)
theorem ad8 (n:Nat):KK tab (n+1) 5 (eI .u8) (fun x=>(Lit.int .u8 x).wf=true):=opI Pq rfl rfl
theorem acU (n:Nat):KK tab (n+2) 55 (Md (eI .u8)) (fun x=>(x.length*1<=140737488351232∧∀y∈x,(Lit.int .u8 y).wf=true)):=Z0 Kz rfl rfl (by rw[Pq];rfl) (ad8 n)
theorem uM:V0 tab 8 [24,25,5,55,25] (jE (dk td) (jE (lM an) (jE (aI .u8) (jE (lM (eI .u8)) (fH (lM an)))))) (fun x=>B3 x.1∧((x.2.1.length*64<=140737488351232∧∀y∈x.2.1,mn y)∧((Lit.int .u8 x.2.2.1).wf=true∧((x.2.2.2.1.length*1<=140737488351232∧∀y∈x.2.2.2.1,(Lit.int .u8 y).wf=true)∧((x.2.2.2.2.length*64<=140737488351232∧∀y∈x.2.2.2.2,mn y)))))):=(ZV (oaS Kv rfl (acR 1)) (ZV (abT Fa rfl (aa4 3)) (ZV (oaI Pq rfl) (ZV (abT Kz rfl (acU 6)) (ad7 (abT Fa rfl (aa4 3)))))))
theorem tE (law:∀(a0:de) (a1:(List al)) (a2:Int) (a3:(List Int)) (a4:(List al)),(B3 a0)->((a1.length*64<=140737488351232∧∀y∈a1,mn y))->((Lit.int .u8 a2).wf=true)->((a3.length*1<=140737488351232∧∀y∈a3,(Lit.int .u8 y).wf=true))->((a4.length*64<=140737488351232∧∀y∈a4,mn y))->P.fW a0 a1 a2 a3 a4=some true) (os:Os) (started:os.Started) (H:Type) (enc:TypeId×Value->H) :
  ReturnsInHanded {} Try.checked os 7 .any (Rows.bridgeNetsSpec.pre6 enc Try.prog Try.f7 Rows.bridgeNetsRow.domain false) (Rows.bridgeNetsSpec.post enc Try.prog Try.f7 false true false false):=by
 refine Rg (C:=Try.checked) (T:=tab) (tb:=4) (n:=8) tok Try.own started (by kernel_rfl) Try.func7
  (ChangeSpec.witness6 (enc:=enc) (C:=Try.checked) false ⟨#[],#[.agg #[.int .i64 0,.slice none 0 0],.slice none 0 0,.int .u8 0,.slice none 0 0,.slice none 0 0],[]⟩ 8 (by kernel_rfl) (by kernel_rfl) (by kernel_rfl) (by kernel_rfl)) Try.laidOut (by kernel_rfl) rfl (by kernel_rfl) rfl (fun ds hds =>?_) (fun ar hl hs =>?_)
 ·rw[Try.params7]at hds
  match ds,hds with
  | [d0,d1,d2,d3,d4],_=>exact⟨rfl,rfl,rfl⟩
 ·rw[Try.params7]at hl hs
  exact abK uM yL (fun x hx=>law x.1 x.2.1 x.2.2.1 x.2.2.2.1 x.2.2.2.2 hx.1 hx.2.1 hx.2.2.1 hx.2.2.2.1 hx.2.2.2.2) ar hl hs
theorem uA (law:∀(a0:de) (a1:(List al)) (a2:Int) (a3:(List Int)) (a4:(List al)),(B3 a0)->((a1.length*64<=140737488351232∧∀y∈a1,mn y))->((Lit.int .u8 a2).wf=true)->((a3.length*1<=140737488351232∧∀y∈a3,(Lit.int .u8 y).wf=true))->((a4.length*64<=140737488351232∧∀y∈a4,mn y))->P.fW a0 a1 a2 a3 a4=some true):Rows.BridgeNetsSaid :=
 OpenClaim.holds_of_wide 7 Try.f7 rfl rfl rfl rfl rfl rfl rfl ⟨rfl,rfl,rfl,rfl,rfl⟩ rfl rfl rfl rfl rfl (by kernel_rfl) Try.func7 (by kernel_rfl)
  (of_decide_eq_true (by kernel_rfl)) (by unfold Func.isWrapper;first|(rw[if_pos (by decide +kernel)];kernel_rfl)|(rw[if_neg (by decide +kernel)];exact⟨rfl,rfl⟩))
  (fun os started H enc _=>tE law os started H enc)
end Go.Proofs.Ytchndpjlijbplaa.Am
namespace Go.Proofs.Ytchndpjlijbplaa.P
open Go.RowKit
def bd (n:Nat):List Int:=if h:n=0 then [] else ((n % 1048576:Nat):Int)::bd (n / 1048576)
termination_by n
decreasing_by omega
def dv:List Int->Int
 | []=>0
 | d::l=>d+1048576*dv l
def Dg (l:List Int):Prop:=∀d∈l,0<=d∧d<1048576
def pw (i:Nat):Int:=1048576 ^ i
theorem sJ:pw 0=1:=rfl
theorem nA (i:Nat):pw (i+1)=1048576*pw i:=by unfold pw;rw[Int.pow_succ,agQ]
theorem pN (i:Nat):0<pw i:=by unfold pw;exact Int.pow_pos (by decide)
theorem Kl (i j:Nat):pw (i+j)=pw i*pw j:=by unfold pw;rw[Int.pow_add]
theorem sI {i j:Nat} (h:i<=j):pw i<=pw j:=by
 obtain⟨k,rfl⟩:=Nat.le.dest h
 rw[Kl]
 have h1:=pN i
 have h2:=pN k
 calc pw i=pw i*1:=by rw[agR]
  _<=pw i*pw k:=agS (by omega) (by omega)
theorem cR:bd 0=[]:=by rw[bd];rfl
theorem nH {n:Nat} (h:n≠0):bd n=((n % 1048576:Nat):Int)::bd (n / 1048576):=by rw[bd,dif_neg h]
theorem ue {n:Nat} : bd n=[]↔n=0:=by
 constructor
 ·intro h
  rcases ae6 n with h0|h0
  ·exact h0
  ·rw[nH (by omega)]at h;cases h
 ·rintro rfl;exact cR
theorem bU:∀n:Nat,dv (bd n)=n:=by
 intro n
 induction n using Nat.strongRecOn with
 | _ n ih =>
  rcases ae6 n with h0|h0
  ·subst h0;rw[cR];rfl
  ·rw[nH (by omega),dv,ih (n / 1048576) (by omega)]
   omega
theorem dU:∀n:Nat,Dg (bd n):=by
 intro n
 induction n using Nat.strongRecOn with
 | _ n ih =>
  rcases ae6 n with h0|h0
  ·subst h0;rw[cR];intro d hd;cases hd
  ·rw[nH (by omega)]
   intro d hd
   rcases aeV.1 hd with rfl|hd
   ·omega
   ·exact ih (n / 1048576) (by omega) d hd
theorem Dg.nil:Dg []:=fun d hd=>by cases hd
theorem Dg.cons {d:Int} {l:List Int} (h:Dg (d::l)):(0<=d∧d<1048576)∧Dg l:=⟨h d agd,fun x hx=>h x (age _ hx)⟩
theorem Dg.mk {d:Int} {l:List Int} (h:0<=d∧d<1048576) (hl:Dg l):Dg (d::l):=fun x hx=>by
 rcases aeV.1 hx with rfl|hx
 ·exact h
 ·exact hl x hx
theorem Dg.append {l m:List Int} (h:Dg l) (hm:Dg m):Dg (l++m):=fun x hx=>(afV.1 hx).elim (h x) (hm x)
theorem Dg.take {l:List Int} (h:Dg l) (n:Nat):Dg (l.take n):=fun x hx=>h x (afy hx)
theorem Dg.drop {l:List Int} (h:Dg l) (n:Nat):Dg (l.drop n):=fun x hx=>h x (afw hx)
theorem Dg.rep (n:Nat):Dg (List.replicate n 0):=fun x hx=>by rw[(List.mem_replicate.1 hx).2];omega
theorem Dg.set {l:List Int} (h:Dg l) (i:Nat) {x:Int} (hx:0<=x∧x<1048576):Dg (l.set i x):=fun y hy=>by
 rcases List.mem_or_eq_of_mem_set hy with hy|rfl
 ·exact h y hy
 ·exact hx
theorem Dg.get {l:List Int} (h:Dg l) {i:Nat} (hi:i<l.length):0<=l[i]∧l[i]<1048576:=h _ (ae0 hi)
theorem cS:∀ {l:List Int},Dg l->0<=dv l
 | [],_=>Int.le_refl _
 | d::l,h=>by
  have h1:=h.cons
  have:=cS h1.2
  simp only[dv]
  omega
theorem p8:∀ {l:List Int},Dg l->dv l<pw l.length
 | [],_=>by simp[dv,sJ]
 | d::l,h=>by
  have h1:=h.cons
  have:=p8 h1.2
  simp only[dv,List.length_cons,nA]
  omega
theorem j4:∀l m:List Int,dv (l++m)=dv l+pw l.length*dv m
 | [],m=>by simp[dv,sJ]
 | d::l,m=>by
  rw[agE,dv,dv,j4 l m,afe,nA,agT,agU]
  omega
theorem De:∀n:Nat,dv (List.replicate n 0)=0
 | 0=>rfl
 | n+1=>by rw[afH,dv,De n];rfl
theorem j5 {l:List Int} {i:Nat} (h:i<l.length):dv (l.take (i+1))=dv (l.take i)+pw i*l[i]:=by
 have e:l.take (i+1)=l.take i++[l[i]]:=by rw[List.take_add_one];simp[h]
 rw[e,j4,ae7,afS (by omega)]
 simp[dv]
theorem jJ (l:List Int) {i:Nat} (h:i<=l.length):dv l=dv (l.take i)+pw i*dv (l.drop i):=by
 have:=j4 (l.take i) (l.drop i)
 rw[agA,ae7,afS h]at this
 exact this
theorem uk {l:List Int} {i:Nat} (h:i<l.length) (x:Int):dv (l.set i x)=dv l+pw i*(x-l[i]):=by
 induction l generalizing i with
 | nil=>simp at h
 | cons d l ih =>
  cases i with
  | zero=>simp only[List.set_cons_zero,dv,sJ,List.getElem_cons_zero];omega
  | succ i =>
   have:=ih (i:=i) (by simpa using h)
   simp only[List.set_cons_succ,dv,this,nA,List.getElem_cons_succ,agT,agU]
   omega
theorem BZ:∀ {l:List Int},Dg l->(∀h:l≠[],l.getLast h≠0)->bd (dv l).toNat=l
 | [],_,_=>by simp[dv,cR]
 | d::l,h,hl=>by
  have h1:=h.cons
  have h2:=cS h1.2
  have hne:(dv (d::l)).toNat≠0:=by
   simp only[dv]
   intro h0
   have hd:d=0:=by omega
   have hv:dv l=0:=by omega
   cases l with
   | nil=>exact hl (by simp) (by simpa using hd)
   | cons e m =>
    have ih:=BZ h1.2 (fun hh=>by have:=hl (by simp);simpa using this)
    rw[hv]at ih
    simp[cR]at ih
  rw[nH hne]
  have e1:(dv (d::l)).toNat % 1048576=d.toNat:=by simp only[dv];omega
  have e2:(dv (d::l)).toNat / 1048576=(dv l).toNat:=by simp only[dv];omega
  rw[e1,e2]
  have hd:(d.toNat:Int)=d:=by omega
  rw[hd]
  cases l with
  | nil=>simp[dv,cR]
  | cons e m=>rw[BZ h1.2 (fun hh=>by have:=hl (by simp);simpa using this)]
theorem Uy:∀(n:Nat) (h:bd n≠[]),(bd n).getLast h≠0:=by
 intro n
 induction n using Nat.strongRecOn with
 | _ n ih =>
  intro h
  have hn:n≠0:=fun h0=>h (ue.2 h0)
  have e:=nH hn
  by_cases hq:n / 1048576=0
  ·have:bd n=[((n % 1048576:Nat):Int)]:=by rw[e,hq,cR]
   simp only[this,List.getLast_singleton]
   omega
  ·have hne:bd (n / 1048576)≠[]:=fun h0=>hq (ue.1 h0)
   have:=ih (n / 1048576) (by omega) hne
   simp only[e]
   rw[List.getLast_cons hne]
   exact this
theorem WO {a b:Nat} (h:bd a=bd b):a=b:=by
 have:=congrArg dv h
 rw[bU,bU]at this
 omega
theorem ly {n k:Nat} (h:(n:Int)<pw k):(bd n).length<=k:=by
 induction k generalizing n with
 | zero =>
  rw[sJ]at h
  have:n=0:=by omega
  rw[this,cR];simp
 | succ k ih =>
  by_cases h0:n=0
  ·rw[h0,cR];simp
  ·rw[nH h0,afe]
   rw[nA]at h
   have:=ih (n:=n / 1048576) (by omega)
   omega
theorem jQ (n:Nat):(n:Int)<pw (bd n).length:=by
 have:=p8 (dU n)
 rwa [bU]at this
theorem xY {n:Nat} (h:n≠0):pw ((bd n).length-1)<=n∧0<(bd n).length:=by
 induction n using Nat.strongRecOn with
 | _ n ih =>
  rw[nH h,afe]
  refine⟨?_,by omega⟩
  by_cases hq:n / 1048576=0
  ·rw[hq,cR];simp[sJ];omega
  ·obtain⟨h1,h2⟩:=ih (n / 1048576) (by omega) hq
   have:(bd (n / 1048576)).length+1-1=((bd (n / 1048576)).length-1)+1:=by omega
   rw[this,nA]
   omega
theorem tU {x:Int} (h1 : -9223372036854775808<=x) (h2:x<9223372036854775808):cV .and .i64 x 1048575=x % 1048576:=by
 unfold cV
 simp only
 have e1:(BitVec.ofInt IntKind.i64.bits x &&& BitVec.ofInt IntKind.i64.bits 1048575).toNat=((x % 18446744073709551616).toNat) % 1048576:=by
  rw[BitVec.toNat_and,BitVec.toNat_ofInt,BitVec.toNat_ofInt]
  have e:((1048575:Int) % ((2 ^ IntKind.i64.bits:Nat):Int)).toNat=2 ^ 20-1:=by decide
  rw[e,agV]
  rfl
 rw[e1,wrap64 (by omega) (by omega)]
 omega
theorem Zn {x:Int} (h1 : -9223372036854775808<=x) (h2:x<9223372036854775808):cV .and .i64 x 1=x % 2:=by
 unfold cV
 simp only
 have e1:(BitVec.ofInt IntKind.i64.bits x &&& BitVec.ofInt IntKind.i64.bits 1).toNat=((x % 18446744073709551616).toNat) % 2:=by
  rw[BitVec.toNat_and,BitVec.toNat_ofInt,BitVec.toNat_ofInt]
  have e:((1:Int) % ((2 ^ IntKind.i64.bits:Nat):Int)).toNat=2 ^ 1-1:=by decide
  rw[e,agV]
  rfl
 rw[e1,wrap64 (by omega) (by omega)]
 omega
theorem O3 (x:Int):nc .i64 x 20=some (x / 1048576):=by
 unfold nc
 rw[if_neg (by decide)]
 have e:(2:Int) ^ (min (Int.toNat 20) IntKind.i64.bits)=1048576:=by decide
 rw[e,agW _ (by decide)]
theorem Yb {x:Int} (h0:0<=x) (h:x<8796093022208):tK .i64 x 20=some (1048576*x):=by
 unfold tK
 rw[if_neg (by decide)]
 have e:(2:Int) ^ (min (Int.toNat 20) IntKind.i64.bits)=1048576:=by decide
 rw[e,wrap64 (by omega) (by omega),agQ]
theorem Q8 {x y:Int} (h0:0<=x) (h:x<8796093022208) (hy:0<=y∧y<1048576):cV .or .i64 (1048576*x) y=1048576*x+y:=by
 unfold cV
 simp only
 have e1:(BitVec.ofInt IntKind.i64.bits (1048576*x) ||| BitVec.ofInt IntKind.i64.bits y).toNat=1048576*x.toNat+y.toNat:=by
  rw[BitVec.toNat_or,BitVec.toNat_ofInt,BitVec.toNat_ofInt]
  have e:((2 ^ IntKind.i64.bits:Nat):Int)=18446744073709551616:=by decide
  rw[e]
  have e2:((1048576*x) % 18446744073709551616).toNat=x.toNat <<< 20:=by rw[Nat.shiftLeft_eq];omega
  have e3:(y % 18446744073709551616).toNat=y.toNat:=by omega
  rw[e2,e3,<- Nat.shiftLeft_add_eq_or_of_lt (by omega),Nat.shiftLeft_eq]
  omega
 rw[e1,wrap64 (by omega) (by omega)]
 omega
theorem mk0 {n:Nat} (h:n<=17592186044416):B1 8 (n:Int) (n:Int) (0:Int)=some (List.replicate n 0):=by
 unfold B1
 rw[if_pos]
 ·simp
 ·have:(17592186044416:Int)<=maxLen:=by decide
  refine⟨by omega,by omega,by omega,?_⟩
  simp only[Int.toNat_natCast]
  omega
theorem KV {l m:List Int} (h:l.length+m.length<=17592186044416):iB 8 l m=some (l++m):=by
 unfold iB
 have:(17592186044416:Nat)<=maxLen:=by decide
 rw[if_pos ⟨by omega,by omega⟩]
theorem cP {σ ρ:Type} {body:σ->Option (σ⊕ρ)} (I:Nat->σ->Prop) (n:Nat) (Q:ρ->Prop) {s:σ} (hI:I 0 s) (hn:n+1<FU)
  (hstep:∀i s,i<=n->I i s->(i<n∧∃s',body s=some (.inl s')∧I (i+1) s')∨(∃r,body s=some (.inr r)∧Q r)):∃r,aO body s=some r∧Q r:=by
 have key:∀(k i:Nat) (s:σ),i<=n->n-i<k->I i s->∃r,oe body k s=some r∧Q r:=by
  intro k
  induction k with
  | zero=>intro i s _ h;omega
  | succ k ih =>
   intro i s hi hk hI
   rcases hstep i s hi hI with⟨hlt,s',h1,h2⟩|⟨r,h1,h2⟩
   ·obtain⟨r,h3,h4⟩:=ih (i+1) s' (by omega) (by omega) h2
    exact⟨r,by simp only[oe,h1];exact h3,h4⟩
   ·exact⟨r,by simp only[oe,h1],h2⟩
 exact key FU 0 s (aeP _) (by omega) hI
theorem Z5 (i:Nat) (x:Int):pw (i+1)*x=pw i*(1048576*x):=by rw[nA,agQ 1048576 (pw i),agU]
theorem Ad (i:Nat) (t:Int):pw i*(t % 1048576)+pw (i+1)*(t / 1048576)=pw i*t:=by
 rw[Z5,<- agT]
 congr 1
 omega
theorem ku {n:Nat} (h:n<=17592186044416):n+1<FU:=by unfold FU;omega
abbrev Fit (l:List Int):Prop:=l.length<=17592186044416
theorem j0 {x:Int} (h : -4611686018427387904<=x∧x<=4611686018427387904):IntKind.i64.wrap x=x:=wrap64 (by omega) (by omega)
theorem uJ {α:Type} (o:Option α):(o.bind fun r=>some r)=o:=by cases o<;>rfl
theorem VB {l:List Int} (hl:Fit l):∃r,aO (nE l) (l.length:Int)=some r∧∃k:Nat,r=k∧k<=l.length∧(∀j (hj:j<l.length),k<=j->l[j]=0)∧(∀h:0<k,∀hk:k-1<l.length,l[k-1]≠0):=by
 unfold Fit at hl
 refine cP (I:=fun i s=>s=((l.length-i:Nat):Int)∧(∀j (hj:j<l.length),l.length-i<=j->l[j]=0)) l.length _ ⟨rfl,fun j hj h=>by omega⟩ (ku hl) ?_
 rintro i s hi ⟨rfl,hz⟩
 generalize hk:l.length-i=k at *
 simp only[nE]
 by_cases h0:0<k
 ·have hk1:k-1<l.length:=by omega
  have e:IntKind.i64.wrap ((k:Int)-1)=((k-1:Nat):Int):=by rw[j0 (by omega)];omega
  rw[if_pos (by simp;omega),e,cy hk1,agi]
  by_cases hx:l[k-1]=0
  ·left
   refine⟨by omega,_,by rw[if_pos (by simpa using hx)],by rw[show l.length-(i+1)=k-1 by omega],fun j hj h =>?_⟩
   by_cases hj':j=k-1
   ·subst hj';exact hx
   ·exact hz j hj (by omega)
  ·right
   exact⟨_,by rw[if_neg (by simpa using hx)],k,rfl,by omega,hz,fun _ _=>hx⟩
 ·right
  exact⟨_,by rw[if_neg (by simp;omega)],k,rfl,by omega,hz,fun h=>absurd h h0⟩
theorem W3 {l:List Int} {k:Nat} (hz:∀j (hj:j<l.length),k<=j->l[j]=0):dv (l.drop k)=0:=by
 have:l.drop k=List.replicate (l.drop k).length 0:=by
  refine List.eq_replicate_of_mem fun x hx =>?_
  obtain⟨i,hi,rfl⟩:=List.mem_iff_getElem.1 hx
  rw[List.getElem_drop]
  exact hz _ _ (by omega)
 rw[this,De]
theorem zg {l:List Int} (hl:Fit l) (hd:Dg l):dO l=some (bd (dv l).toNat):=by
 obtain⟨r,h1,k,rfl,hk,hz,hlast⟩:=VB hl
 unfold dO
 rw[h1,agi,aac hk,agi]
 congr 1
 have h2:dv l=dv (l.take k):=by rw[jJ l hk,W3 hz];omega
 rw[h2]
 refine (BZ (hd.take k) fun hne =>?_).symm
 have hk0:0<k:=by
  rcases ae6 k with h|h
  ·subst h;simp at hne
  ·exact h
 have:=hlast hk0 (by omega)
 rw[List.getLast_eq_getElem]
 simp only[ae7,List.getElem_take,afS hk]
 exact this
theorem B8 {l:List Int} {n:Nat} (hl:Fit l) (hd:Dg l) (hn:dv l=n):dO l=some (bd n):=by
 rw[zg hl hd,hn];rfl
def gd (l:List Int) (i:Nat):Int:=if h:i<l.length then l[i] else 0
theorem S4 {l:List Int} (h:Dg l) (i:Nat):0<=gd l i∧gd l i<1048576:=by
 unfold gd
 split
 ·exact h.get _
 ·omega
theorem yu {l:List Int} (i:Nat):dv (l.take (i+1))=dv (l.take i)+pw i*gd l i:=by
 unfold gd
 split
 ·exact j5 _
 ·rw[af6 (by omega),af6 (by omega)];simp
theorem DG {l:List Int} {i:Nat} (h:l.length<=i):dv (l.take i)=dv l:=by rw[af6 h]
theorem V9 {a b:List Int} (ha:Dg a) (hb:Dg b) (hf:a.length<17592186044416) (hab:b.length<=a.length) :
  ∃r,aO (pj a b) (0,0,List.replicate (a.length+1) 0)=some r∧r.2.length=a.length+1∧Dg r.2∧(∀j (hj:j<r.2.length),a.length<=j->r.2[j]=0)∧(0<=r.1∧r.1<=1)∧dv r.2+pw a.length*r.1=dv a+dv b:=by
 refine cP (I:=fun i s=>s.2.1=(i:Int)∧s.2.2.length=a.length+1∧Dg s.2.2∧(∀j (hj:j<s.2.2.length),i<=j->s.2.2[j]=0)∧(0<=s.1∧s.1<=1)∧dv s.2.2+pw i*s.1=dv (a.take i)+dv (b.take i))
  a.length _ ⟨rfl,by simp,Dg.rep _,fun j hj _=>by simp,by simp,by simp[De,dv]⟩ (ku (by omega)) ?_
 rintro i ⟨c,s,l⟩ hi ⟨h1,hl,hd,hz,hc,he⟩
 simp only at h1 hl hd hz hc he
 subst h1
 simp only[pj]
 by_cases hlt:i<a.length
 ·left
  rw[if_pos (by simpa using hlt),cy hlt,agi]
  have ga:=ha.get hlt
  have gb:=S4 hb i
  have hT:(if decide ((i:Int)<(b.length:Int))=true then (P.idx b (i:Int)).bind fun x22=>some (IntKind.i64.wrap ((IntKind.i64.wrap (c+a[i]))+x22)) else some (IntKind.i64.wrap (c+a[i])))=some (c+a[i]+gd b i):=by
   by_cases hib:i<b.length
   ·rw[if_pos (by simpa using hib),cy hib,agi]
    have:gd b i=b[i]:=by unfold gd;rw[dif_pos hib]
    rw[this]at gb ⊢
    rw[j0 (x:=c+a[i]) (by omega),j0 (by omega)]
   ·rw[if_neg (by simpa using hib)]
    have:gd b i=0:=by unfold gd;rw[dif_neg hib]
    rw[this,j0 (by omega)];simp
  rw[hT,agi,cy (by omega),agi,O3,agi,tU (by omega) (by omega)]
  have hli:l[i]=0:=hz i (by omega) (aeO _)
  have e1:IntKind.i64.wrap ((i:Int)+1)=((i+1:Nat):Int):=by rw[j0 (by omega)];omega
  refine⟨hlt,_,rfl,e1,by simpa using hl,hd.set _ (by omega),fun j hj hij =>?_,by simp only;omega,?_⟩
  ·simp only[Int.toNat_natCast]at hj ⊢
   rw[agX (by omega)]
   exact hz j (by simpa using hj) (by omega)
  ·simp only[Int.toNat_natCast]
   rw[uk (by omega),hli,yu,yu]
   have hga:gd a i=a[i]:=by unfold gd;rw[dif_pos hlt]
   rw[hga]
   have hp:=Ad i (c+a[i]+gd b i)
   rw[agT,agT]at hp
   rw[Int.sub_zero]
   omega
 ·right
  have hia:i=a.length:=by omega
  subst hia
  refine⟨_,by rw[if_neg (by simp)],hl,hd,fun j hj h=>hz j hj h,hc,?_⟩
  rw[he,DG (aeO _),DG hab]
theorem add_eq {a b:List Int} (ha:Dg a) (hb:Dg b) (hfa:a.length<17592186044416) (hfb:b.length<17592186044416):p5 a b=some (bd (dv a+dv b).toNat):=by
 have main:∀ {a b:List Int},Dg a->Dg b->a.length<17592186044416->b.length<=a.length ->
   ((B1 8 (IntKind.i64.wrap ((a.length:Int)+1)) (IntKind.i64.wrap ((a.length:Int)+1)) 0).bind fun x2 =>
    (aO (pj a b) (0,0,x2)).bind fun q=>match q with
    | (s6bx,l5bx) =>
     (P.idx l5bx (a.length:Int)).bind fun x23 =>
     (dO (l5bx.set ((a.length:Int)).toNat s6bx)).bind fun r26 =>
     some r26)=some (bd (dv a+dv b).toNat):=by
  intro a b ha hb hfa hab
  have e:IntKind.i64.wrap ((a.length:Int)+1)=((a.length+1:Nat):Int):=by rw[j0 (by omega)];omega
  rw[e,mk0 (by omega),agi]
  obtain⟨⟨c,l⟩,h1,h2,h3,h4,h5,h6⟩:=V9 ha hb hfa hab
  rw[h1]
  simp only[Option.bind_some]at h2 h3 h4 h5 h6 ⊢
  have hlt:a.length<l.length:=by omega
  rw[cy hlt,agi,afM,uJ]
  have hv:dv (l.set a.length c)=dv a+dv b:=by
   rw[uk hlt,h4 _ hlt (aeO _),Int.sub_zero,h6]
  rw[zg (by simp[Fit];omega) (h3.set _ (by omega)),hv]
 unfold p5
 by_cases h:a.length<b.length
 ·rw[if_pos (by simpa using h),agi,Int.add_comm]
  exact main hb ha hfb (by omega)
 ·rw[if_neg (by simpa using h),agi]
  exact main ha hb hfa (by omega)
theorem ub {l:List Int} (h:Fit l):cz l=some l:=by
 unfold cz
 rw[KV (by simpa using h),agu]
theorem Xm {l:List Int} {i:Nat} (h:i<l.length):gd l i=l[i]:=by unfold gd;rw[dif_pos h]
theorem Xl {l:List Int} {i:Nat} (h:l.length<=i):gd l i=0:=by unfold gd;rw[dif_neg (by omega)]
theorem Yr {a b:List Int} (ha:Dg a) (hb:Dg b) (hf:Fit a) (hab:b.length<=a.length) (hle:dv b<=dv a) :
  ∃l,aO (rY b a) (0,0,a)=some l∧l.length=a.length∧Dg l∧dv l=dv a-dv b:=by
 unfold Fit at hf
 refine cP (I:=fun i s=>s.2.1=(i:Int)∧s.2.2.length=a.length∧Dg s.2.2∧(∀j (hj:j<s.2.2.length) (hj':j<a.length),i<=j->s.2.2[j]=a[j])∧(0<=s.1∧s.1<=1)∧dv s.2.2+dv (b.take i)=dv a+pw i*s.1)
  a.length _ ⟨rfl,rfl,ha,fun j hj _ _=>rfl,by simp,by simp[dv]⟩ (ku (by omega)) ?_
 rintro i ⟨c,s,l⟩ hi ⟨h1,hl,hd,hz,hc,he⟩
 simp only at h1 hl hd hz hc he
 subst h1
 simp only[rY]
 by_cases hlt:i<a.length
 ·left
  have hli:i<l.length:=by omega
  rw[if_pos (by simpa using hlt),cy hli,agi,hz i hli hlt (aeO _)]
  have ga:=ha.get hlt
  have gb:=S4 hb i
  have hT:(if decide ((i:Int)<(b.length:Int))=true then (P.idx b (i:Int)).bind fun x18=>some (IntKind.i64.wrap ((IntKind.i64.wrap (a[i]-c))-x18)) else some (IntKind.i64.wrap (a[i]-c)))=some (a[i]-c-gd b i):=by
   by_cases hib:i<b.length
   ·rw[if_pos (by simpa using hib),cy hib,agi]
    rw[Xm hib]at gb ⊢
    rw[j0 (x:=a[i]-c) (by omega),j0 (by omega)]
   ·rw[if_neg (by simpa using hib),Xl (by omega),j0 (by omega)];simp
  rw[hT,agi,O3,agi,tU (by omega) (by omega),Zn (by omega) (by omega)]
  have e1:IntKind.i64.wrap ((i:Int)+1)=((i+1:Nat):Int):=by rw[j0 (by omega)];omega
  refine⟨hlt,_,rfl,e1,by simpa using hl,hd.set _ (by omega),fun j hj hj' hij =>?_,by simp only;omega,?_⟩
  ·simp only[Int.toNat_natCast]at hj ⊢
   rw[agX (by omega)]
   exact hz j (by simpa using hj) hj' (by omega)
  ·simp only[Int.toNat_natCast]
   rw[uk hli,hz i hli hlt (aeO _),yu]
   have hp:=Ad i (a[i]-c-gd b i)
   have hb2:(a[i]-c-gd b i) / 1048576 % 2 = - ((a[i]-c-gd b i) / 1048576):=by omega
   rw[hb2,Int.mul_neg]
   rw[agY,agY]at hp
   rw[agY]
   omega
 ·right
  have hia:i=a.length:=by omega
  subst hia
  refine⟨l,by rw[if_neg (by simp)],hl,hd,?_⟩
  rw[DG hab]at he
  have h1:=p8 hd
  rw[hl]at h1
  have hc0:c=0:=by
   rcases (show c=0∨c=1 by omega) with h|h
   ·exact h
   ·subst h;omega
  subst hc0
  omega
theorem sub_eq {a b:List Int} (ha:Dg a) (hb:Dg b) (hf:Fit a) (hab:b.length<=a.length) (hle:dv b<=dv a):oA a b=some (bd (dv a-dv b).toNat):=by
 obtain⟨l,h1,h2,h3,h4⟩:=Yr ha hb hf hab hle
 unfold oA
 rw[ub hf,agi,h1,agi,uJ,zg (by unfold Fit at *;omega) h3,h4]
theorem nh {l:List Int} {i:Nat} (h:i<l.length):dv (l.drop i)=l[i]+1048576*dv (l.drop (i+1)):=by
 rw[agI h,dv]
theorem acy {x d:Int} (h:0<=x) (hd:0<d) (hx:x<4611686018427387904):CZ .i64 x d=some (x / d):=by
 unfold CZ
 rw[if_neg (by omega),Int.tdiv_eq_ediv_of_nonneg h,j0]
 have:=agZ h (Int.le_of_lt hd)
 have:=Int.ediv_le_self d h
 omega
theorem abR {x d:Int} (h:0<=x) (hd:0<d):uI .i64 x d=some (x % d):=by
 unfold uI
 rw[if_neg (by omega),Int.tmod_eq_emod_of_nonneg h]
theorem Rk {a:List Int} {d:Int} (ha:Dg a) (hd:0<d∧d<=1048576) (hf:Fit a) :
  ∃r,aO (ox a d) (0,IntKind.i64.wrap ((a.length:Int)-1),List.replicate a.length 0)=some r∧r.2.length=a.length∧Dg r.2∧(0<=r.1∧r.1<d)∧dv a=d*dv r.2+r.1:=by
 unfold Fit at hf
 have e0:IntKind.i64.wrap ((a.length:Int)-1)=(a.length:Int)-1:=j0 (by omega)
 rw[e0]
 refine cP (I:=fun i s=>s.2.1=((a.length-i:Nat):Int)-1∧s.2.2.length=a.length∧Dg s.2.2∧(0<=s.1∧s.1<d)∧dv (a.drop (a.length-i))=d*dv (s.2.2.drop (a.length-i))+s.1)
  a.length _ ⟨rfl,by simp,Dg.rep _,by simp;omega,by simp[dv]⟩ (ku (by omega)) ?_
 rintro i ⟨r,s,l⟩ hi ⟨h1,hl,hg,hr,he⟩
 simp only at h1 hl hg hr he
 subst h1
 generalize hk:a.length-i=k at *
 simp only[ox]
 by_cases h0:0<k
 ·left
  have hk1:k-1<a.length:=by omega
  have hk2:k-1<l.length:=by omega
  have ek:((k:Int)-1)=((k-1:Nat):Int):=by omega
  have ga:=ha.get hk1
  rw[ek,if_pos (by simp),Yb (by omega) (by omega),agi,cy hk1,agi,Q8 (by omega) (by omega) ga,acy (by omega) hd.1 (by omega),agi,cy hk2,agi,abR (by omega) hd.1,agi]
  have e1:IntKind.i64.wrap (((k-1:Nat):Int)-1)=((k-1:Nat):Int)-1:=j0 (by omega)
  have hx0:0<=1048576*r+a[k-1]:=by omega
  have hq0:0<=(1048576*r+a[k-1]) / d:=agZ hx0 (by omega)
  have hq1:(1048576*r+a[k-1]) / d<1048576:=by
   apply ag0 hd.1
   have:1048576*r<=1048576*(d-1):=agS (by omega) (by omega)
   omega
  have hm0:=Int.emod_nonneg (1048576*r+a[k-1]) (show d≠0 by omega)
  have hm1:=ag1 (1048576*r+a[k-1]) hd.1
  refine⟨by omega,_,rfl,by rw[e1,show a.length-(i+1)=k-1 by omega],by simpa using hl,hg.set _ ⟨hq0,hq1⟩,⟨hm0,hm1⟩,?_⟩
  simp only[Int.toNat_natCast]
  rw[show a.length-(i+1)=k-1 by omega,nh hk1,nh (l:=l.set (k-1) _) (i:=k-1) (by simpa using hk2),show k-1+1=k by omega,List.getElem_set_self,List.drop_set_of_lt (by omega),he]
  have:=ag2 (1048576*r+a[k-1]) d
  rw[agT,agT]
  have e3:d*(1048576*dv (l.drop k))=1048576*(d*dv (l.drop k)):=by rw[<- agU,agQ d,agU]
  rw[e3]
  omega
 ·right
  have:k=0:=by omega
  subst this
  refine⟨(r,l),by rw[if_neg (by simp)],hl,hg,hr,?_⟩
  simpa using he
theorem O2 {a:List Int} {d:Int} (ha:Dg a) (hd:0<d∧d<=1048576) (hf:Fit a):lx a d=some (bd (dv a / d).toNat,dv a % d):=by
 obtain⟨⟨r,l⟩,h1,h2,h3,h4,h5⟩:=Rk ha hd hf
 unfold lx
 rw[mk0 hf,agi,h1,agi]
 simp only at h2 h3 h4 h5 ⊢
 rw[zg (by unfold Fit at *;omega) h3,agi]
 have e1:dv a / d=dv l:=by
  rw[h5,agQ,Int.add_comm,Int.add_mul_ediv_right _ _ (by omega),Int.ediv_eq_zero_of_lt h4.1 h4.2];omega
 have e2:dv a % d=r:=by
  rw[h5,agQ,Int.add_comm,Int.add_mul_emod_self_right]
  exact Int.emod_eq_of_lt h4.1 h4.2
 rw[e1,e2]
theorem Vm {b l0:List Int} {x:Int} {i n:Nat} (hb:Dg b) (hx:0<=x∧x<1048576) (h0:Dg l0) (hn:l0.length=n) (hi:i+b.length<n) (hf:n<=17592186044416) (hz:∀j (hj:j<l0.length),i+b.length<=j->l0[j]=0) :
  ∃r,aO (rX b (i:Int) x) (0,0,l0)=some r∧r.2.length=n∧Dg r.2∧(0<=r.1∧r.1<1048576)∧(∀j (hj:j<r.2.length),i+b.length<=j->r.2[j]=0)∧dv r.2+pw (i+b.length)*r.1=dv l0+pw i*(x*dv b):=by
 refine cP (I:=fun k s=>s.2.1=(k:Int)∧s.2.2.length=n∧Dg s.2.2∧(0<=s.1∧s.1<1048576)∧(∀j (hj:j<s.2.2.length),i+b.length<=j->s.2.2[j]=0)∧dv s.2.2+pw (i+k)*s.1=dv l0+pw i*(x*dv (b.take k)))
  b.length _ ⟨rfl,hn,h0,by simp,hz,by simp[dv]⟩ (ku (by omega)) ?_
 rintro k ⟨c,s,l⟩ hk ⟨h1,hl,hd,hc,hz,he⟩
 simp only at h1 hl hd hc hz he
 subst h1
 simp only[rX]
 by_cases hlt:k<b.length
 ·left
  have hik:i+k<l.length:=by omega
  have ei:IntKind.i64.wrap ((i:Int)+(k:Int))=((i+k:Nat):Int):=by rw[j0 (by omega)];omega
  have gb:=hb.get hlt
  have gl:=hd.get hik
  have hm0:0<=x*b[k]:=ag3 hx.1 gb.1
  have hm1:x*b[k]<=1048575*1048575:=Int.mul_le_mul (by omega) (by omega) gb.1 (by omega)
  rw[if_pos (by simpa using hlt),cy hlt,agi,ei,cy hik,agi,j0 (x:=x*b[k]) (by omega),j0 (x:=l[i+k]+x*b[k]) (by omega),j0 (x:=l[i+k]+x*b[k]+c) (by omega),O3,agi,tU (by omega) (by omega)]
  have e1:IntKind.i64.wrap ((k:Int)+1)=((k+1:Nat):Int):=by rw[j0 (by omega)];omega
  refine⟨hlt,_,rfl,e1,by simpa using hl,hd.set _ (by omega),by simp only;omega,fun j hj hij =>?_,?_⟩
  ·simp only[Int.toNat_natCast]at hj ⊢
   rw[agX (by omega)]
   exact hz j (by simpa using hj) hij
  ·simp only[Int.toNat_natCast]
   rw[uk hik,j5 hlt]
   have hp:=Ad (i+k) (l[i+k]+x*b[k]+c)
   rw[agT (pw (i+k)),agT (pw (i+k))]at hp
   have e2:pw i*(x*(dv (b.take k)+pw k*b[k]))=pw i*(x*dv (b.take k))+pw (i+k)*(x*b[k]):=by
    rw[agT,agT,Kl]
    congr 1
    rw[ag4 x,<- agU]
   rw[e2,agY,show i+(k+1)=i+k+1 by omega]
   omega
 ·right
  have hkb:k=b.length:=by omega
  subst hkb
  refine⟨(c,l),by rw[if_neg (by simp)],hl,hd,hc,hz,?_⟩
  rw[he,agO]
theorem Vl {a b:List Int} (ha:Dg a) (hb:Dg b) (hf:a.length+b.length<=17592186044416) :
  ∃l,aO (rW a b) (0,List.replicate (a.length+b.length) 0)=some l∧l.length=a.length+b.length∧Dg l∧dv l=dv a*dv b:=by
 refine cP (I:=fun i s=>s.1=(i:Int)∧s.2.length=a.length+b.length∧Dg s.2∧(∀j (hj:j<s.2.length),i+b.length<=j->s.2[j]=0)∧dv s.2=dv (a.take i)*dv b)
  a.length _ ⟨rfl,by simp,Dg.rep _,fun j hj _=>by simp,by simp[dv,De]⟩ (ku (by omega)) ?_
 rintro i ⟨s,l⟩ hi ⟨h1,hl,hd,hz,he⟩
 simp only at h1 hl hd hz he
 subst h1
 simp only[rW]
 by_cases hlt:i<a.length
 ·left
  have ga:=ha.get hlt
  obtain⟨⟨c,m⟩,g1,g2,g3,g4,g5,g6⟩:=Vm (i:=i) (n:=a.length+b.length) hb ga hd hl (by omega) hf hz
  rw[if_pos (by simpa using hlt),cy hlt,agi,g1,agi]
  simp only at g2 g3 g4 g5 g6 ⊢
  have ei:IntKind.i64.wrap ((i:Int)+(b.length:Int))=((i+b.length:Nat):Int):=by rw[j0 (by omega)];omega
  have hib:i+b.length<m.length:=by omega
  rw[ei,cy hib,agi,g5 _ hib (aeO _),Int.zero_add,j0 (x:=c) (by omega)]
  have e1:IntKind.i64.wrap ((i:Int)+1)=((i+1:Nat):Int):=by rw[j0 (by omega)];omega
  refine⟨hlt,_,rfl,e1,by simpa using g2,g3.set _ g4,fun j hj hij =>?_,?_⟩
  ·simp only[Int.toNat_natCast]at hj ⊢
   rw[agX (by omega)]
   exact g5 j (by simpa using hj) (by omega)
  ·simp only[Int.toNat_natCast]
   rw[uk hib,g5 _ hib (aeO _),Int.sub_zero,g6,he,j5 hlt,ag5,agU]
 ·right
  have hia:i=a.length:=by omega
  subst hia
  refine⟨l,by rw[if_neg (by simp)],hl,hd,?_⟩
  rw[he,agO]
theorem mul_eq {a b:List Int} (ha:Dg a) (hb:Dg b) (hf:a.length+b.length<=17592186044416):ow a b=some (bd (dv a*dv b).toNat):=by
 obtain⟨l,h1,h2,h3,h4⟩:=Vl ha hb hf
 unfold ow
 have e:IntKind.i64.wrap ((a.length:Int)+(b.length:Int))=((a.length+b.length:Nat):Int):=by rw[j0 (by omega)];omega
 rw[e,mk0 hf,agi,h1,agi,uJ,zg (by unfold Fit;omega) h3,h4]
def n5 (x y:Int):Int:=if x<y then -1 else if y<x then 1 else 0
theorem CV (x y:Int):eC x y=some (n5 x y):=by
 unfold eC mQ n5
 simp only[bne_self_eq_false,Option.bind_some,afo,if_false,decide_eq_true_eq]
 split
 ·rfl
 ·split<;>rfl
theorem LP {a b:List Int} (ha:Dg a) (hb:Dg b) (hf:Fit a) (hl:a.length=b.length):eW a b=some (n5 (dv a) (dv b)):=by
 unfold Fit at hf
 unfold eW
 rw[if_neg (by simp;omega)]
 have e0:IntKind.i64.wrap ((a.length:Int)-1)=(a.length:Int)-1:=j0 (by omega)
 rw[e0]
 have key:∃r,aO (lU a b) ((a.length:Int)-1)=some r∧(match r with | .inl _=>n5 (dv a) (dv b)=0 | .inr x=>x=n5 (dv a) (dv b)):=by
  refine cP (I:=fun i s=>s=((a.length-i:Nat):Int)-1∧a.drop (a.length-i)=b.drop (a.length-i)) a.length _ ⟨rfl,?_⟩ (ku hf) ?_
  ·rw[agx (by omega),agx (by omega)]
  rintro i s hi ⟨rfl,he⟩
  generalize hk:a.length-i=k at *
  simp only[lU]
  by_cases h0:0<k
  ·have h1:k-1<a.length:=by omega
   have h2:k-1<b.length:=by omega
   have ek:((k:Int)-1)=((k-1:Nat):Int):=by omega
   rw[ek,if_pos (by simp),cy h1,agi,cy h2,agi]
   by_cases hx:a[k-1]=b[k-1]
   ·left
    rw[if_neg (by simpa using hx)]
    refine⟨by omega,_,rfl,by rw[j0 (by omega)];omega,?_⟩
    rw[show a.length-(i+1)=k-1 by omega,agI h1,agI h2,hx,show k-1+1=k by omega,he]
   ·right
    rw[if_pos (by simpa using hx),CV,agi]
    refine⟨_,rfl,?_⟩
    simp only
    have ea:=jJ a (i:=k) (by omega)
    have eb:=jJ b (i:=k) (by omega)
    have ta:=j5 h1
    have tb:=j5 h2
    rw[show k-1+1=k by omega]at ta tb
    have la:=p8 (ha.take (k-1))
    have lb:=p8 (hb.take (k-1))
    rw[ae7,afS (by omega)]at la lb
    have na:=cS (ha.take (k-1))
    have nb:=cS (hb.take (k-1))
    have hp:=pN (k-1)
    rw[ta]at ea
    rw[tb]at eb
    rw[he]at ea
    unfold n5
    rcases Int.lt_or_gt_of_ne hx with hlt|hlt
    ·have:pw (k-1)*a[k-1]+pw (k-1)<=pw (k-1)*b[k-1]:=by
      have:pw (k-1)*(a[k-1]+1)<=pw (k-1)*b[k-1]:=agS (by omega) (by omega)
      rwa [agT,agR]at this
     rw[if_pos hlt,if_pos (by omega)]
    ·have:pw (k-1)*b[k-1]+pw (k-1)<=pw (k-1)*a[k-1]:=by
      have:pw (k-1)*(b[k-1]+1)<=pw (k-1)*a[k-1]:=agS (by omega) (by omega)
      rwa [agT,agR]at this
     rw[if_neg (by omega),if_pos hlt,if_neg (by omega),if_pos (by omega)]
  ·right
   have:k=0:=by omega
   subst this
   refine⟨.inl (),by rw[if_neg (by simp)],?_⟩
   simp only[af7]at he
   simp[he,n5]
 obtain⟨r,h1,h2⟩:=key
 rw[h1,agi]
 cases r with
 | inl u=>simp only at h2 ⊢;rw[h2]
 | inr x=>simp only at h2 ⊢;rw[h2]
theorem ud {m n:Nat} (h:(bd m).length<(bd n).length):m<n:=by
 have h1:=jQ m
 have hn:n≠0:=fun h0=>by subst h0;rw[cR]at h;simp at h
 have h2:=xY hn
 have h3:=sI (i:=(bd m).length) (j:=(bd n).length-1) (by omega)
 omega
theorem eR {m n:Nat} (h:m<=n):(bd m).length<=(bd n).length:=by
 rcases afz (bd n).length (bd m).length with h1|h1
 ·have:=ud h1;omega
 ·exact h1
theorem CW {m n:Nat} (hm:Fit (bd m)) (hn:Fit (bd n)):eW (bd m) (bd n)=some (n5 m n):=by
 by_cases hl:(bd m).length=(bd n).length
 ·rw[LP (dU m) (dU n) hm hl,bU,bU]
 ·unfold eW
  rw[if_pos (by simp;omega),CV,uJ]
  unfold n5
  rcases Nat.lt_or_gt_of_ne hl with h|h
  ·have:=ud h
   rw[if_pos (by omega),if_pos (by omega)]
  ·have:=ud h
   rw[if_neg (by omega),if_pos (by omega),if_neg (by omega),if_pos (by omega)]
theorem Kq {u v:List Int} {g:Int} (hu:Dg u) (hv:Dg v) (hg:0<=g∧g<=1048576) (hf:Fit u) (hl:v.length<=u.length) :
  ∃r,aO (kN u v g) (0,0,u)=some r∧r.2.length=u.length∧Dg r.2∧(0<=r.1∧r.1<=1048576)∧dv r.2+g*dv v=dv u+pw u.length*r.1:=by
 unfold Fit at hf
 refine cP (I:=fun i s=>s.2.1=(i:Int)∧s.2.2.length=u.length∧Dg s.2.2∧(∀j (hj:j<s.2.2.length) (hj':j<u.length),i<=j->s.2.2[j]=u[j])∧(0<=s.1∧s.1<=1048576)∧dv s.2.2+g*dv (v.take i)=dv u+pw i*s.1)
  u.length _ ⟨rfl,rfl,hu,fun j hj _ _=>rfl,by simp,by simp[dv]⟩ (ku (by omega)) ?_
 rintro i ⟨c,s,l⟩ hi ⟨h1,hll,hd,hz,hc,he⟩
 simp only at h1 hll hd hz hc he
 subst h1
 simp only[kN]
 by_cases hlt:i<u.length
 ·left
  have hli:i<l.length:=by omega
  rw[if_pos (by simpa using hlt),cy hli,agi,hz i hli hlt (aeO _)]
  have ga:=hu.get hlt
  have gb:=S4 hv i
  have hm0:0<=g*gd v i:=ag3 hg.1 gb.1
  have hm1:g*gd v i<=1048576*1048575:=Int.mul_le_mul (by omega) (by omega) gb.1 (by omega)
  have hT:(if decide ((i:Int)<(v.length:Int))=true then (P.idx v (i:Int)).bind fun x17=>some (IntKind.i64.wrap ((IntKind.i64.wrap (u[i]-c))-(IntKind.i64.wrap (g*x17)))) else some (IntKind.i64.wrap (u[i]-c)))=some (u[i]-c-g*gd v i):=by
   by_cases hib:i<v.length
   ·rw[if_pos (by simpa using hib),cy hib,agi]
    rw[Xm hib]at gb hm0 hm1 ⊢
    rw[j0 (x:=u[i]-c) (by omega),j0 (x:=g*v[i]) (by omega),j0 (by omega)]
   ·rw[if_neg (by simpa using hib),Xl (by omega),j0 (by omega)];simp
  rw[hT,agi,O3,agi,tU (by omega) (by omega),j0 (x:=0-_) (by omega)]
  have e1:IntKind.i64.wrap ((i:Int)+1)=((i+1:Nat):Int):=by rw[j0 (by omega)];omega
  refine⟨hlt,_,rfl,e1,by simpa using hll,hd.set _ (by omega),fun j hj hj' hij =>?_,by simp only;omega,?_⟩
  ·simp only[Int.toNat_natCast]at hj ⊢
   rw[agX (by omega)]
   exact hz j (by simpa using hj) hj' (by omega)
  ·simp only[Int.toNat_natCast]
   rw[uk hli,hz i hli hlt (aeO _),yu]
   have hp:=Ad i (u[i]-c-g*gd v i)
   rw[agY (pw i),agY (pw i)]at hp
   have e2:g*(dv (v.take i)+pw i*gd v i)=g*dv (v.take i)+pw i*(g*gd v i):=by rw[agT,ag4]
   rw[e2,agY (pw i),agY (pw (i+1)),ag6]
   omega
 ·right
  have hia:i=u.length:=by omega
  subst hia
  refine⟨(c,l),by rw[if_neg (by simp)],hll,hd,hc,?_⟩
  rw[DG hl]at he
  exact he
theorem Kr {u v:List Int} (hu:Dg u) (hv:Dg v) (hf:Fit u) (hl:v.length<=u.length) :
  ∃l,aO (kO v u) (0,0,u)=some l∧l.length=u.length∧Dg l∧∃c,0<=c∧dv l+pw u.length*c=dv u+dv v:=by
 unfold Fit at hf
 refine cP (I:=fun i s=>s.2.1=(i:Int)∧s.2.2.length=u.length∧Dg s.2.2∧(∀j (hj:j<s.2.2.length) (hj':j<u.length),i<=j->s.2.2[j]=u[j])∧(0<=s.1∧s.1<=1)∧dv s.2.2+pw i*s.1=dv u+dv (v.take i))
  u.length _ ⟨rfl,rfl,hu,fun j hj _ _=>rfl,by simp,by simp[dv]⟩ (ku (by omega)) ?_
 rintro i ⟨c,s,l⟩ hi ⟨h1,hll,hd,hz,hc,he⟩
 simp only at h1 hll hd hz hc he
 subst h1
 simp only[kO]
 by_cases hlt:i<u.length
 ·left
  have hli:i<l.length:=by omega
  rw[if_pos (by simpa using hlt),cy hli,agi,hz i hli hlt (aeO _)]
  have ga:=hu.get hlt
  have gb:=S4 hv i
  have hT:(if decide ((i:Int)<(v.length:Int))=true then (P.idx v (i:Int)).bind fun x35=>some (IntKind.i64.wrap ((IntKind.i64.wrap (c+u[i]))+x35)) else some (IntKind.i64.wrap (c+u[i])))=some (c+u[i]+gd v i):=by
   by_cases hib:i<v.length
   ·rw[if_pos (by simpa using hib),cy hib,agi]
    rw[Xm hib]at gb ⊢
    rw[j0 (x:=c+u[i]) (by omega),j0 (by omega)]
   ·rw[if_neg (by simpa using hib),Xl (by omega),j0 (by omega)];simp
  rw[hT,agi,O3,agi,tU (by omega) (by omega)]
  have e1:IntKind.i64.wrap ((i:Int)+1)=((i+1:Nat):Int):=by rw[j0 (by omega)];omega
  refine⟨hlt,_,rfl,e1,by simpa using hll,hd.set _ (by omega),fun j hj hj' hij =>?_,by simp only;omega,?_⟩
  ·simp only[Int.toNat_natCast]at hj ⊢
   rw[agX (by omega)]
   exact hz j (by simpa using hj) hj' (by omega)
  ·simp only[Int.toNat_natCast]
   rw[uk hli,hz i hli hlt (aeO _),yu]
   have hp:=Ad i (c+u[i]+gd v i)
   rw[agT (pw i),agT (pw i)]at hp
   rw[agY (pw i)]
   omega
 ·right
  have hia:i=u.length:=by omega
  subst hia
  refine⟨l,by rw[if_neg (by simp)],hll,hd,c,hc.1,?_⟩
  rw[DG hl]at he
  exact he
theorem Vw {u v:List Int} {g:Int} (hu:Dg u) (hv:Dg v) (hf:Fit u) (hl:v.length<=u.length) (hV:0<dv v) (hg0:dv u / dv v<=g) (hg1:g<=dv u / dv v+1) (hgB:g<=1048576) :
  ∃l,fA u v g=some (l,dv u / dv v)∧l.length=u.length∧Dg l∧dv l=dv u % dv v:=by
 have hq0:0<=dv u / dv v:=agZ (cS hu) (by omega)
 obtain⟨⟨c,l⟩,h1,h2,h3,h4,h5⟩:=Kq hu hv ⟨by omega,hgB⟩ hf hl
 simp only at h2 h3 h4 h5
 have hm:=ag2 (dv u) (dv v)
 have hm0:=Int.emod_nonneg (dv u) (show dv v≠0 by omega)
 have hm1:=ag1 (dv u) hV
 have hll:=p8 h3
 have hl0:=cS h3
 rw[h2]at hll
 have hp:=pN u.length
 have hvl:dv v<pw u.length:=Int.lt_of_lt_of_le (p8 hv) (sI hl)
 unfold fA pk
 rw[h1,agi]
 simp only
 rcases (show g=dv u / dv v∨g=dv u / dv v+1 by omega) with hg|hg
 ·have hgv:g*dv v=dv v*(dv u / dv v):=by rw[hg,agQ]
  have hc0:c=0:=by
   rcases (show c=0∨1<=c by omega) with h|h
   ·exact h
   ·have:pw u.length*1<=pw u.length*c:=agS h (by omega)
    omega
  subst hc0
  rw[if_pos (by simp),agi,if_pos (by simpa using h2)]
  exact⟨l,by rw[hg],h2,h3,by rw[ag6]at h5;omega⟩
 ·have hgv:g*dv v=dv v*(dv u / dv v)+dv v:=by rw[hg,ag5,ag7,agQ]
  have hc0:c≠0:=by
   intro h
   subst h
   rw[ag6]at h5
   omega
  obtain⟨m,g1,g2,g3,d,g4,g5⟩:=Kr h3 hv (by unfold Fit at *;omega) (by omega)
  rw[if_neg (by simpa using hc0),g1,agi,agi,if_pos (by simp;omega)]
  refine⟨m,by rw[j0 (by omega),hg];simp,by omega,g3,?_⟩
  rw[h2]at g5
  have hml:=p8 g3
  have hm0':=cS g3
  rw[g2,h2]at hml
  have hcd:c=d:=by
   rcases Int.lt_trichotomy c d with h|h|h
   ·have:pw u.length*(c+1)<=pw u.length*d:=agS (by omega) (by omega)
    rw[agT,agR]at this
    omega
   ·exact h
   ·have:pw u.length*(d+1)<=pw u.length*c:=agS (by omega) (by omega)
    rw[agT,agR]at this
    omega
  subst hcd
  omega
theorem Qw {v u:List Int} {s13:Int} {v1 v2 w2 T V W:Int} {n:Nat} (hn:2<=n) (hlen:v.length=n) (hfv:n<=17592186044416) (i:Nat) (hs:s13=i) (hfi:i+n<=17592186044416)
  (hv2:P.idx v (((n-2:Nat)):Int)=some v2) (hw2:P.idx u (((i+n-2:Nat)):Int)=some w2)
  (b1:524288<=v1∧v1<1048576) (b2:0<=v2∧v2<1048576) (bw:0<=w2∧w2<1048576) (hT0:0<=T) (hT1:T<1048576*1048576)
  (hV:pw (n-2)*(v1*1048576+v2)<=V∧V<pw (n-2)*(v1*1048576+v2+1)) (hW:pw (n-2)*(T*1048576+w2)<=W∧W<pw (n-2)*(T*1048576+w2+1)) (hWV:W<1048576*V) :
  ∃g,aO (rV v s13 u v1) (T / v1,T % v1)=some g∧W / V<=g∧g<=W / V+1∧g<=1048576:=by
 subst hs
 have hp:=pN (n-2)
 have hVp:0<V:=by
  have:pw (n-2)*1<=pw (n-2)*(v1*1048576+v2):=agS (by omega) (by omega)
  omega
 have hW0:0<=W:=by
  have:0<=pw (n-2)*(T*1048576+w2):=ag3 (by omega) (by omega)
  omega
 have hq0:0<=W / V:=agZ hW0 (by omega)
 have hqB:W / V<1048576:=ag0 hVp hWV
 have hm:=ag2 T v1
 have hm0:=Int.emod_nonneg T (show v1≠0 by omega)
 have hm1:=ag1 T (show 0<v1 by omega)
 have hd0:0<=T / v1:=agZ hT0 (by omega)
 have hd1:T / v1<=2097152:=by
  have:T / v1<2097153:=ag0 (by omega) (by
   have:2097153*524288<=2097153*v1:=agS b1.1 (by omega)
   omega)
  omega
 have hge:∀g r:Int,g*v1+r=T->W / V<=g->g*v2>r*1048576+w2->W / V<=g-1:=by
  intro g r h1 h2 h3
  have h4:W<g*V:=by
   have e1:g*(v1*1048576+v2)>=T*1048576+w2+1:=by
    rw[<- h1]
    have:g*(v1*1048576+v2)=g*v1*1048576+g*v2:=by rw[agT,agU]
    rw[this,ag5]
    omega
   have e2:pw (n-2)*(T*1048576+w2+1)<=pw (n-2)*(g*(v1*1048576+v2)):=agS e1 (by omega)
   have e3:g*(pw (n-2)*(v1*1048576+v2))<=g*V:=agS hV.1 (by omega)
   have e4:pw (n-2)*(g*(v1*1048576+v2))=g*(pw (n-2)*(v1*1048576+v2)):=ag4 _ _ _
   omega
  have:=ag0 hVp h4
  omega
 have hle:∀g r:Int,g*v1+r=T->0<=g->g<=1048576->g*v2<=r*1048576+w2->g<=W / V+1:=by
  intro g r h1 h0 hB h3
  have e1:g*(v1*1048576+v2)<=T*1048576+w2:=by
   rw[<- h1]
   have:g*(v1*1048576+v2)=g*v1*1048576+g*v2:=by rw[agT,agU]
   rw[this,ag5]
   omega
  have e2:g*V<=W+V:=by
   have f1:g*V<=g*(pw (n-2)*(v1*1048576+v2+1)):=agS (by omega) h0
   have f2:g*(pw (n-2)*(v1*1048576+v2+1))=pw (n-2)*(g*(v1*1048576+v2))+pw (n-2)*g:=by
    rw[ag4,agT g,agR,agT]
   have f3:pw (n-2)*(g*(v1*1048576+v2))<=pw (n-2)*(T*1048576+w2):=agS e1 (by omega)
   have f4:pw (n-2)*g<=pw (n-2)*(v1*1048576+v2):=agS (by omega) (by omega)
   omega
  have e3:(g-1)*V<=W:=by rw[Int.sub_mul,ag7];omega
  have:=Int.le_ediv_of_mul_le hVp e3
  omega
 have hbase:W / V<=T / v1:=by
  have e1:W<(T / v1+1)*V:=by
   have f1:T+1<=(T / v1+1)*v1:=by
    have:(T / v1+1)*v1=v1*(T / v1)+v1:=by rw[ag5,ag7,agQ]
    omega
   have f2:T*1048576+w2+1<=(T / v1+1)*(v1*1048576+v2):=by
    have g1:(T+1)*1048576<=(T / v1+1)*v1*1048576:=ag8 f1 (by omega)
    have g2:0<=(T / v1+1)*v2:=ag3 (by omega) b2.1
    rw[agT,<- agU]
    omega
   have f3:pw (n-2)*(T*1048576+w2+1)<=pw (n-2)*((T / v1+1)*(v1*1048576+v2)):=agS f2 (by omega)
   have f4:(T / v1+1)*(pw (n-2)*(v1*1048576+v2))<=(T / v1+1)*V:=agS hV.1 (by omega)
   have f5:pw (n-2)*((T / v1+1)*(v1*1048576+v2))=(T / v1+1)*(pw (n-2)*(v1*1048576+v2)):=ag4 _ _ _
   omega
  have:=ag0 hVp e1
  omega
 refine yC (I:=fun (s:Int×Int)=>s.1*v1+s.2=T∧W / V<=s.1∧s.1<=2097152∧0<=s.2) (μ:=fun (s:Int×Int)=>s.1.toNat) _ ⟨?_,hbase,hd1,hm0⟩ (by unfold FU;omega) ?_
 ·show T / v1*v1+T % v1=T
  rw[agQ];exact hm
 rintro⟨g,r⟩ ⟨h1,h2,h3,h4⟩
 simp only at h1 h2 h3 h4
 have hgv:0<=g*v1:=ag3 (by omega) (by omega)
 simp only[rV]
 have el:IntKind.i64.wrap ((v.length:Int)-2)=((n-2:Nat):Int):=by rw[hlen,j0 (by omega)];omega
 have ei:IntKind.i64.wrap ((IntKind.i64.wrap ((i:Int)+(v.length:Int)))-2)=((i+n-2:Nat):Int):=by rw[hlen,j0 (x:=(i:Int)+n) (by omega),j0 (by omega)];omega
 rw[el,ei]
 have hstep:W / V<=g-1->∃s':Int×Int,(some (Sum.inl (IntKind.i64.wrap (g-1),IntKind.i64.wrap (r+v1))):Option ((Int×Int)⊕Int))=some (.inl s')∧(s'.1*v1+s'.2=T∧W / V<=s'.1∧s'.1<=2097152∧0<=s'.2)∧s'.1.toNat<g.toNat:=by
  intro hlt
  refine⟨_,rfl,?_⟩
  rw[j0 (x:=g-1) (by omega),j0 (x:=r+v1) (by omega)]
  simp only
  refine⟨⟨by rw[Int.sub_mul,ag7];omega,hlt,by omega,by omega⟩,by omega⟩
 by_cases hgB:g>=1048576
 ·rw[if_pos (by simpa using hgB),agi,if_pos rfl]
  exact .inl (hstep (by omega))
 ·rw[if_neg (by simpa using hgB)]
  by_cases hr:r<1048576
  ·have hgv2:0<=g*v2:=ag3 (by omega) b2.1
   have hgv2':g*v2<=1048576*1048576:=Int.mul_le_mul (by omega) (by omega) b2.1 (by omega)
   rw[if_pos (by simpa using hr),hv2,agi,Yb h4 (by omega),agi,hw2,agi,j0 (x:=g*v2) (by omega),Q8 h4 (by omega) bw,agi]
   by_cases ht:g*v2>1048576*r+w2
   ·rw[if_pos (by simpa using ht)]
    exact .inl (hstep (hge g r h1 h2 (by omega)))
   ·rw[if_neg (by simpa using ht)]
    exact .inr ⟨g,rfl,h2,hle g r h1 (by omega) (by omega) (by omega),by omega⟩
  ·rw[if_neg (by simpa using hr),agi,if_neg (by simp)]
   refine .inr ⟨g,rfl,h2,hle g r h1 (by omega) (by omega) ?_,by omega⟩
   have:g*v2<=1048575*1048575:=Int.mul_le_mul (by omega) (by omega) b2.1 (by omega)
   have:1048576*1048576<=r*1048576:=ag8 (by omega) (by omega)
   omega
theorem ab2 {α:Type} {l:List α} {a b:Nat} (h:a<=b) (hb:b<=l.length):BT l (a:Int) (b:Int)=some ((l.drop a).take (b-a)):=by
 unfold BT
 rw[if_pos ⟨by omega,by omega,by omega⟩]
 simp
theorem ZB {l:List Int} {n:Nat} (hl:l.length=n) (hn:2<=n) (hd:Dg l) :
  pw (n-2)*((l[n-1]'(by omega))*1048576+l[n-2]'(by omega))<=dv l∧dv l<pw (n-2)*((l[n-1]'(by omega))*1048576+l[n-2]'(by omega)+1):=by
 have e:=jJ l (i:=n-2) (by omega)
 rw[nh (by omega),nh (i:=n-2+1) (by omega),agx (by omega)]at e
 have e1:l[n-2+1]'(by omega)=l[n-1]'(by omega):=by congr 1;omega
 rw[e1]at e
 have h1:=cS (hd.take (n-2))
 have h2:=p8 (hd.take (n-2))
 rw[ae7,afS (by omega)]at h2
 simp only[dv]at e
 have e2:l[n-2]'(by omega)+1048576*(l[n-1]'(by omega)+1048576*0)=(l[n-1]'(by omega))*1048576+l[n-2]'(by omega):=by omega
 rw[e2]at e
 rw[agT (pw (n-2)) _ 1,agR]
 omega
theorem ZC {l:List Int} {n:Nat} (hl:l.length=n+1) (hn:2<=n) (hd:Dg l) :
  pw (n-2)*((1048576*(l[n]'(by omega))+l[n-1]'(by omega))*1048576+l[n-2]'(by omega))<=dv l∧dv l<pw (n-2)*((1048576*(l[n]'(by omega))+l[n-1]'(by omega))*1048576+l[n-2]'(by omega)+1):=by
 have e:=jJ l (i:=n-2) (by omega)
 rw[nh (by omega),nh (i:=n-2+1) (by omega),nh (i:=n-2+1+1) (by omega),agx (by omega)]at e
 have e1:l[n-2+1]'(by omega)=l[n-1]'(by omega):=by congr 1;omega
 have e3:l[n-2+1+1]'(by omega)=l[n]'(by omega):=by congr 1;omega
 rw[e1,e3]at e
 have h1:=cS (hd.take (n-2))
 have h2:=p8 (hd.take (n-2))
 rw[ae7,afS (by omega)]at h2
 simp only[dv]at e
 have e2:l[n-2]'(by omega)+1048576*(l[n-1]'(by omega)+1048576*(l[n]'(by omega)+1048576*0))=(1048576*(l[n]'(by omega))+l[n-1]'(by omega))*1048576+l[n-2]'(by omega):=by omega
 rw[e2]at e
 rw[agT (pw (n-2)) _ 1,agR]
 omega
theorem WR {v u0:List Int} {n m:Nat} (hv:Dg v) (hvl:v.length=n) (hn:2<=n) (hv1:524288<=v[n-1]'(by omega)) (hu:Dg u0) (hul:u0.length=m+n) (hf:m+n<=17592186044416) (hdr:dv (u0.drop m)<dv v) :
  ∃r,aO (rU v) ((m:Int)-1,u0,List.replicate m 0)=some r∧r.1.length=m+n∧Dg r.1∧r.2.length=m∧Dg r.2∧dv r.1+dv v*dv r.2=dv u0∧dv r.1<dv v:=by
 have hvn:=p8 hv
 rw[hvl]at hvn
 refine cP (I:=fun i s=>s.1=((m-i:Nat):Int)-1∧s.2.1.length=m+n∧Dg s.2.1∧s.2.2.length=m∧Dg s.2.2∧(∀j (hj:j<s.2.2.length),j<m-i->s.2.2[j]=0)∧dv s.2.1+dv v*dv s.2.2=dv u0∧dv (s.2.1.drop (m-i))<dv v)
  m _ ⟨rfl,hul,hu,by simp,Dg.rep _,fun j hj _=>by simp,by simp[De],hdr⟩ (ku (by omega)) ?_
 rintro i ⟨s,u,q⟩ hi ⟨h1,hl,hd,hql,hqd,hz,he,hdr⟩
 simp only at h1 hl hd hql hqd hz he hdr
 subst h1
 generalize hk:m-i=k at *
 simp only[rU]
 by_cases h0:0<k
 ·left
  have ek:((k:Int)-1)=((k-1:Nat):Int):=by omega
  rw[ek,if_pos (by simp)]
  have e1:IntKind.i64.wrap (((k-1:Nat):Int)+(v.length:Int))=((k-1+n:Nat):Int):=by rw[hvl,j0 (by omega)];omega
  have e2:IntKind.i64.wrap (((k-1+n:Nat):Int)-1)=((k-1+n-1:Nat):Int):=by rw[j0 (by omega)];omega
  have e3:IntKind.i64.wrap ((v.length:Int)-1)=((n-1:Nat):Int):=by rw[hvl,j0 (by omega)];omega
  have e4:IntKind.i64.wrap (((k-1+n:Nat):Int)+1)=((k-1+n+1:Nat):Int):=by rw[j0 (by omega)];omega
  have e5:IntKind.i64.wrap (((k-1:Nat):Int)-1)=((k-1:Nat):Int)-1:=j0 (by omega)
  rw[e1,e2,e3,e4,e5]
  have i1:k-1+n<u.length:=by omega
  have i2:k-1+n-1<u.length:=by omega
  have i3:k-1+n-2<u.length:=by omega
  have iv:n-1<v.length:=by omega
  have iv2:n-2<v.length:=by omega
  have g1:=hd.get i1
  have g2:=hd.get i2
  have g3:=hd.get i3
  have gv:=hv.get iv
  have gv2:=hv.get iv2
  rw[cy i1,agi,Yb g1.1 (by omega),agi,cy i2,agi,cy iv,agi,Q8 g1.1 (by omega) g2,acy (by omega) (by omega) (by omega),agi,abR (by omega) (by omega),agi,ab2 (by omega) (by omega),show k-1+n+1-(k-1)=n+1 by omega]
  generalize hw:(u.drop (k-1)).take (n+1)=w
  have hwl:w.length=n+1:=by rw[<- hw,ae7,ae8];omega
  have hwd:Dg w:=by rw[<- hw];exact (hd.drop _).take _
  have hwg:∀j (hj:j<n+1),w[j]'(by omega)=u[k-1+j]'(by omega):=by
   intro j hj
   subst hw
   rw[List.getElem_take,List.getElem_drop]
  have hup:dv (u.drop (k+n))=0:=by
   have s1:=jJ (u.drop k) (i:=n) (by rw[ae8];omega)
   rw[agz]at s1
   have n1:=cS ((hd.drop k).take n)
   have n2:=cS (hd.drop (k+n))
   have hp:=pN n
   rcases (show dv (u.drop (k+n))=0∨1<=dv (u.drop (k+n)) by omega) with h|h
   ·exact h
   ·have:pw n*1<=pw n*dv (u.drop (k+n)):=agS h (by omega)
    omega
  have hW:dv w=dv (u.drop (k-1)):=by
   have s1:=jJ (u.drop (k-1)) (i:=n+1) (by rw[ae8];omega)
   rw[agz,show k-1+(n+1)=k+n by omega,hup,hw]at s1
   omega
  have hWk:dv w=u[k-1]+1048576*dv (u.drop k):=by
   rw[hW,nh (by omega),show k-1+1=k by omega]
  have gk:=hd.get (show k-1<u.length by omega)
  have hWV:dv w<1048576*dv v:=by omega
  have t2:=ZB hvl hn hv
  have t3:=ZC hwl hn hwd
  rw[hwg n (by omega),hwg (n-1) (by omega),hwg (n-2) (by omega)]at t3
  have a1:u[k-1+(n-1)]'(by omega)=u[k-1+n-1]'(by omega):=by congr 1;omega
  have a2:u[k-1+(n-2)]'(by omega)=u[k-1+n-2]'(by omega):=by congr 1;omega
  rw[a1,a2]at t3
  obtain⟨g,q1,q2,q3,q4⟩:=Qw (s13:=((k-1:Nat):Int)) hn hvl (by omega) (k-1) rfl (by omega) (cy iv2) (cy i3) ⟨hv1,gv.2⟩ gv2 g3 (T:=1048576*u[k-1+n]+u[k-1+n-1]) (by omega) (by omega) t2 t3 hWV
  rw[q1,agi,agi]
  have hVp:0<dv v:=by
   have:=cS hwd
   omega
  obtain⟨l,r1,r2,r3,r4⟩:=Vw hwd hv (by unfold Fit;omega) (by omega) hVp q2 q3 q4
  have iq:k-1<q.length:=by omega
  rw[r1,agi,cy iq,agi]
  simp only
  have hq0:0<=dv w / dv v:=agZ (cS hwd) (by omega)
  have hqB:dv w / dv v<1048576:=ag0 hVp hWV
  have hmod:=ag1 (dv w) hVp
  simp only[Int.toNat_natCast]
  have hdl:dv (l++u.drop (k-1+n+1))=dv w % dv v:=by
   rw[j4,show k-1+n+1=k+n by omega,hup,r4];omega
  have hut:(u.take (k-1)).length=k-1:=by rw[ae7];omega
  have hdu:dv (u.take (k-1)++(l++u.drop (k-1+n+1)))=dv (u.take (k-1))+pw (k-1)*(dv w % dv v):=by rw[j4,hut,hdl]
  refine⟨by omega,_,rfl,by rw[show m-(i+1)=k-1 by omega],?_,(hd.take _).append (r3.append (hd.drop _)),by simpa using hql,hqd.set _ ⟨hq0,hqB⟩,fun j hj hjk =>?_,?_,?_⟩
  ·simp only[afP,ae7,ae8];omega
  ·rw[agX (by omega)]
   exact hz j (by simpa using hj) (by omega)
  ·rw[hdu,uk iq,hz _ iq (by omega),Int.sub_zero,agT]
   have s2:=jJ u (i:=k-1) (by omega)
   rw[<- hW]at s2
   have hm:=ag2 (dv w) (dv v)
   have:pw (k-1)*dv w=dv v*(pw (k-1)*(dv w / dv v))+pw (k-1)*(dv w % dv v):=by
    rw[ag4,<- agT,hm]
   omega
  ·rw[show m-(i+1)=k-1 by omega,agw,hut,afR,af7,agx (by omega),agu,hdl]
   exact hmod
 ·right
  have:k=0:=by omega
  subst this
  refine⟨(u,q),by rw[if_neg (by simp)],hl,hd,hql,hqd,he,?_⟩
  simpa using hdr
theorem Rj {v:List Int} {t:Int} {n:Nat} (hl:v.length=n) (hn:0<n) (hf:n<=17592186044416) (ht:v[n-1]'(by omega)=t) (h1:1<=t) (h2:t<1048576) :
  ∃s,aO (rT v) 1=some s∧∃j:Nat,s=2 ^ j∧j<=19∧524288<=t*s∧t*s<1048576:=by
 refine cP (I:=fun i s=>s=2 ^ i∧t*s<1048576) 20 _ ⟨rfl,by omega⟩ (by unfold FU;omega) ?_
 rintro i s hi ⟨rfl,hb⟩
 have hp:(0:Int)<2 ^ i:=Int.pow_pos (by decide)
 have hpt:(2:Int) ^ i<=t*2 ^ i:=by
  have:1*(2:Int) ^ i<=t*2 ^ i:=ag8 h1 (by omega)
  omega
 have hi20:i<=19:=by
  rcases afz 19 i with h|h
  ·have hx:i=20:=by omega
   subst hx
   omega
  ·exact h
 simp only[rT]
 have e:IntKind.i64.wrap ((v.length:Int)-1)=((n-1:Nat):Int):=by rw[hl,j0 (by omega)];omega
 rw[e,cy (by omega),agi,ht,j0 (x:=t*2 ^ i) (by omega)]
 by_cases h:t*2 ^ i<524288
 ·left
  rw[if_pos (by simpa using h)]
  refine⟨by omega,_,rfl,by rw[j0 (by omega),Int.pow_succ],?_⟩
  rw[j0 (by omega),<- agU]
  omega
 ·right
  rw[if_neg (by simpa using h)]
  exact⟨_,rfl,i,rfl,hi20,by omega,hb⟩
theorem div_eq {m n:Nat} (hn:n≠0) (hfm:(bd m).length<=17592186043904) (hfn:(bd n).length<=17592186043904):p6 (bd m) (bd n)=some (bd (m / n),bd (m % n)):=by
 unfold p6
 rw[CW (by unfold Fit;omega) (by unfold Fit;omega),agi]
 by_cases hlt:m<n
 ·have:n5 (m:Int) n<0:=by unfold n5;rw[if_pos (by omega)];decide
  rw[if_pos (by simpa using this),ub (by unfold Fit;omega),agi,Nat.div_eq_of_lt hlt,afI hlt,cR]
 have:¬n5 (m:Int) n<0:=by unfold n5;rw[if_neg (by omega)];split<;>decide
 rw[if_neg (by simpa using this)]
 obtain⟨hp1,hp2⟩:=xY hn
 have hnl:=jQ n
 by_cases h1:(bd n).length=1
 ·rw[if_pos (by simp;omega)]
  have hnB:(n:Int)<1048576:=by rw[h1]at hnl;simpa [pw] using hnl
  have e:bd n=[(n:Int)]:=by
   rw[nH hn,Nat.div_eq_of_lt (by omega),cR,afI (by omega)]
  have ei:P.idx (bd n) 0=some (n:Int):=by rw[e];rfl
  rw[ei,agi,O2 (dU m) ⟨by omega,by omega⟩ (by unfold Fit;omega),agi,bU]
  have hm1:(m:Int) % n=((m % n:Nat):Int):=(Int.natCast_emod m n).symm
  have hm2:((m:Int) / n).toNat=m / n:=by
   rw[<- Int.natCast_ediv];rfl
  have hml:m % n<n:=Nat.mod_lt _ (by omega)
  simp only[hm1,hm2]
  rw[B8 (n:=m % n) (by simp[Fit]) (Dg.mk (by omega) Dg.nil) (by simp[dv]),agi]
 ·rw[if_neg (by simp;omega)]
  generalize hN:(bd n).length=N at *
  have hN2:2<=N:=by omega
  have hdn:=dU n
  have gt:=hdn.get (show N-1<(bd n).length by omega)
  generalize ht:(bd n)[N-1]'(by omega)=t at gt
  have hsp:=jJ (bd n) (i:=N-1) (by omega)
  rw[bU,nh (by omega),agx (by omega),ht]at hsp
  simp only[dv,ag6,Int.add_zero]at hsp
  have lo0:=cS (hdn.take (N-1))
  have lo1:=p8 (hdn.take (N-1))
  rw[ae7,afS (by omega)]at lo1
  have hpw:=pN (N-1)
  have ht1:1<=t:=by
   rcases (show t=0∨1<=t by omega) with h|h
   ·subst h;omega
   ·exact h
  obtain⟨s,hs1,j,hs2,hj,hs3,hs4⟩:=Rj hN (by omega) (by omega) ht ht1 gt.2
  have hj2:(2:Int) ^ j<=524288:=by
   have:∀j:Nat,j<=19->(2:Int) ^ j<=524288:=by decide
   exact this j hj
  have hj1:(0:Int)<2 ^ j:=Int.pow_pos (by decide)
  have hts:(t+1)*s<=1048576:=by
   have h20:(1048576:Int)=2 ^ (20-j)*2 ^ j:=by rw[<- Int.pow_add,Nat.sub_add_cancel (by omega)];rfl
   rw[h20]at hs4 ⊢
   rw[hs2]at hs4 ⊢
   have:t<2 ^ (20-j):=Int.lt_of_mul_lt_mul_right hs4 (by omega)
   exact ag8 (by omega) (by omega)
  rw[<- hs2]at hj1 hj2
  obtain⟨S,rfl⟩:∃S:Nat,s=S:=⟨s.toNat,by omega⟩
  have hSd:Dg [(S:Int)]:=Dg.mk (by omega) Dg.nil
  have hdvS:dv [(S:Int)]=S:=by simp[dv]
  rw[hs1,agi,mul_eq (dU m) hSd (by simp;omega),agi,bU,hdvS]
  have em:((m:Int)*S).toNat=m*S:=by rw[<- afL];rfl
  have en:((n:Int)*S).toNat=n*S:=by rw[<- afL];rfl
  rw[em]
  have hmS:(bd (m*S)).length<=(bd m).length+1:=by
   apply ly
   rw[nA,afL]
   have a1:=jQ m
   have:(m:Int)*S<=m*1048576:=agS (by omega) (by omega)
   omega
  have hU:∃u,((if ((((bd (m*S)++[0]).length:Int))==((bd m).length:Int))=true then (iB 8 (bd (m*S)++[0]) [0]).bind fun x98=>some x98 else some (bd (m*S)++[0]))=some u)∧Dg u∧dv u=(m*S:Nat)∧dv u<pw (u.length-1)∧(bd (m*S)).length+1<=u.length∧u.length<=(bd m).length+3:=by
   have d1:Dg (bd (m*S)++[0]):=(dU _).append (Dg.mk (by omega) Dg.nil)
   have v1:dv (bd (m*S)++[0])=(m*S:Nat):=by rw[j4,bU];simp[dv]
   have v2:=jQ (m*S)
   split
   ·rw[KV (by simp;omega),agi]
    refine⟨_,rfl,d1.append (Dg.mk (by omega) Dg.nil),by rw[j4,v1];simp[dv],?_,by simp,by simp;omega⟩
    rw[j4,v1]
    simp only[dv,afP,List.length_cons,List.length_nil]
    have:=sI (i:=(bd (m*S)).length) (j:=(bd (m*S)).length+1) (by omega)
    rw[show (bd (m*S)).length+(0+1)+(0+1)-1=(bd (m*S)).length+1 by omega]
    omega
   ·refine⟨_,rfl,d1,v1,?_,by simp,by simp;omega⟩
    rw[v1]
    simpa using v2
  obtain⟨u,hu1,hu2,hu3,hu4,hu5,hu6⟩:=hU
  rw[KV (by simp;omega),agi,mul_eq (dU n) hSd (by simp;omega),agi,bU,hdvS,en,hu1,agi]
  have hVlo:524288*pw (N-1)<=((n*S:Nat):Int):=by
   rw[afL,hsp,ag5]
   have a1:0<=dv ((bd n).take (N-1))*S:=ag3 lo0 (by omega)
   have a2:pw (N-1)*524288<=pw (N-1)*(t*S):=agS hs3 (by omega)
   rw[agU]
   omega
  have hVhi:((n*S:Nat):Int)<pw N:=by
   have a0:pw N=1048576*pw (N-1):=by rw[<- nA];congr 1;omega
   rw[a0,afL,hsp]
   have a1:(dv ((bd n).take (N-1))+pw (N-1)*t+1)*S<=(pw (N-1)*(t+1))*S:=ag8 (by rw[agT];omega) (by omega)
   have a2:pw (N-1)*((t+1)*S)<=pw (N-1)*1048576:=agS hts (by omega)
   rw[agU]at a1
   rw[ag5 _ 1,ag7]at a1
   omega
  have hVN:(bd (n*S)).length=N:=by
   have a1:=ly hVhi
   rcases afz (bd (n*S)).length N with h|h
   ·have a2:=jQ (n*S)
    have a3:=sI (i:=(bd (n*S)).length) (j:=N-1) (by omega)
    omega
   ·omega
  have hV1:524288<=(bd (n*S))[N-1]'(by omega):=by
   have a1:=jJ (bd (n*S)) (i:=N-1) (by omega)
   rw[bU,nh (by omega),agx (by omega)]at a1
   simp only[dv,ag6,Int.add_zero]at a1
   have a2:=p8 ((dU (n*S)).take (N-1))
   rw[ae7,afS (by omega)]at a2
   have a3:pw (N-1)*524288<pw (N-1)*((bd (n*S))[N-1]'(by omega)+1):=by rw[agT];omega
   have:=Int.lt_of_mul_lt_mul_left a3 (by omega)
   omega
  have hlen:N+1<=u.length:=by
   have:n*S<=m*S:=afA _ (by omega)
   have:=eR this
   omega
  obtain⟨M,hM⟩:∃M,u.length=M+N:=⟨u.length-N,by omega⟩
  have e1:IntKind.i64.wrap ((u.length:Int)-((bd (n*S)).length:Int))=(M:Int):=by rw[hVN,hM,j0 (by omega)];omega
  rw[e1,mk0 (by omega),agi,List.length_replicate,j0 (x:=(M:Int)-1) (by omega)]
  have hdr:dv (u.drop M)<dv (bd (n*S)):=by
   rw[bU]
   have a1:=jJ u (i:=M) (by omega)
   have a2:=cS (hu2.take M)
   have a3:pw M*dv (u.drop M)<pw M*pw (N-1):=by
    rw[<- Kl,show M+(N-1)=u.length-1 by omega]
    omega
   have:=Int.lt_of_mul_lt_mul_left a3 (by have:=pN M;omega)
   omega
  obtain⟨⟨U,Q⟩,r1,r2,r3,r4,r5,r6,r7⟩:=WR (dU (n*S)) hVN hN2 hV1 hu2 hM (by omega) hdr
  simp only at r2 r3 r4 r5 r6 r7
  rw[r1,agi]
  simp only
  rw[bU,hu3]at r6
  rw[bU]at r7
  have hU0:=cS r3
  have hQ0:=cS r5
  have hS:0<S:=by omega
  have hnS:0<n*S:=Nat.mul_pos (by omega) hS
  obtain⟨U',hU'⟩:∃k:Nat,dv U=k:=⟨(dv U).toNat,by omega⟩
  obtain⟨Q',hQ'⟩:∃k:Nat,dv Q=k:=⟨(dv Q).toNat,by omega⟩
  rw[hU',hQ']at r6
  rw[hU']at r7
  have hnat:U'+n*S*Q'=m*S:=by
   have:((U'+n*S*Q':Nat):Int)=((m*S:Nat):Int):=by rw[Int.natCast_add,afL (n*S) Q'];exact r6
   omega
  have hUlt:U'<n*S:=by omega
  have hQe:Q'=m / n:=by
   have:m*S / (n*S)=Q':=by
    rw[<- hnat,Nat.add_mul_div_left _ _ hnS,Nat.div_eq_of_lt hUlt,afB]
   rw[<- this,Nat.mul_div_mul_right _ _ hS]
  have hUe:U'=(m % n)*S:=by
   have:m*S % (n*S)=U':=by rw[<- hnat,Nat.add_mul_mod_self_left,afI hUlt]
   rw[<- this,Nat.mul_mod_mul_right]
  rw[B8 (n:=U') (by unfold Fit;omega) r3 hU',agi]
  have hUlen:(bd U').length<=N:=ly (by omega)
  rw[O2 (dU U') ⟨by omega,by omega⟩ (by unfold Fit;omega),agi,B8 (n:=Q') (by unfold Fit;omega) r5 hQ',agi,bU,hQe,hUe]
  have:((((m % n)*S:Nat):Int) / (S:Int)).toNat=m % n:=by
   rw[afL,Int.mul_ediv_cancel _ (by omega)];rfl
  rw[this]
def hY (x:Int):aq:=aq.mk x.sign (bd x.natAbs)
def Ln (x:Int):Nat:=(bd x.natAbs).length
def eF:Nat:=4398046511104
def rM:Nat:=17592186043904
theorem xQ {n:Nat} (h:n<=eF):n<=rM:=aeQ h (by decide)
theorem N2:hY 0=aq.mk 0 []:=by unfold hY;rw[show (0:Int).natAbs=0 from rfl,cR];rfl
theorem Tq {x y:Int} (h:hY x=hY y):x=y:=by
 unfold hY at h
 simp only[aq.mk.injEq]at h
 have:=WO h.2
 have h1:=Int.sign_mul_natAbs x
 have h2:=Int.sign_mul_natAbs y
 rw[<- h1,<- h2,h.1,this]
theorem VY {x:Int} {k:Nat} (h:(x.natAbs:Int)<pw k):Ln x<=k:=ly h
theorem Tn (x:Int):(x.natAbs:Int)<pw (Ln x):=jQ _
theorem RX {x y:Int} (h:x.natAbs<=y.natAbs):Ln x<=Ln y:=eR h
theorem PD (x:Int):Ln (-x)=Ln x:=by unfold Ln;rw[Int.natAbs_neg]
theorem PC (x y:Int):Ln (x+y)<=max (Ln x) (Ln y)+1:=by
 apply VY
 have h1:=Tn x
 have h2:=Tn y
 have h3:=sI (i:=Ln x) (j:=max (Ln x) (Ln y)) (by omega)
 have h4:=sI (i:=Ln y) (j:=max (Ln x) (Ln y)) (by omega)
 have h5:=Int.natAbs_add_le x y
 rw[nA]
 omega
theorem kZ (x y:Int):Ln (x*y)<=Ln x+Ln y:=by
 apply VY
 have h1:=Tn x
 have h2:=Tn y
 rw[ag9,afL,Kl]
 have hx:=pN (Ln x)
 calc (x.natAbs:Int)*y.natAbs<=pw (Ln x)*y.natAbs:=ag8 (by omega) (by omega)
  _<pw (Ln x)*pw (Ln y):=Int.mul_lt_mul_of_pos_left h2 hx
theorem KP {x:Int} (h:x.natAbs<1048576):Ln x<=1:=VY (by rw[nA,sJ];omega)
instance (l:List Int):Decidable (Dg l):=by unfold Dg;infer_instance
def okB (b:aq):Bool:=decide (Dg b.aa)&&(match b.aa.getLast? with|none=>b.ah==0|some d=>(b.ah==1||b.ah == -1)&&d != 0)
theorem yK {b:aq} : okB b=true↔∃x,b=hY x:=by
 obtain⟨s,l⟩:=b
 unfold okB
 simp only[afp,decide_eq_true_eq]
 constructor
 ·rintro⟨hd,h⟩
  cases hl:l.getLast? with
  | none =>
   rw[hl]at h
   have:l=[]:=List.getLast?_eq_none_iff.1 hl
   subst this
   exact⟨0,by rw[N2];simpa using h⟩
  | some d =>
   rw[hl]at h
   simp only[afp,agj,beq_iff_eq,bne_iff_ne]at h
   have hne:l≠[]:=by intro h0;subst h0;simp at hl
   have hlast:∀h:l≠[],l.getLast h≠0:=by
    intro h'
    rw[aha h']at hl
    cases hl
    exact h.2
   have e:=BZ hd hlast
   have h0:(dv l).toNat≠0:=by
    intro h0
    rw[h0,cR]at e
    exact hne e.symm
   have hn:=cS hd
   refine⟨s*dv l,?_⟩
   unfold hY
   rcases h.1 with rfl|rfl
   ·rw[ag7,ahb (by omega)]
    have:(dv l).natAbs=(dv l).toNat:=by omega
    rw[this,e]
   ·rw[Int.neg_mul,ag7,Int.sign_neg,ahb (by omega)]
    have:(-dv l).natAbs=(dv l).toNat:=by omega
    rw[this,e]
 ·rintro⟨x,hx⟩
  unfold hY at hx
  simp only[aq.mk.injEq]at hx
  obtain⟨rfl,rfl⟩:=hx
  refine⟨dU _,?_⟩
  by_cases h0:x=0
  ·subst h0;simp[cR]
  ·have hne:bd x.natAbs≠[]:=fun h=>h0 (by have:=ue.1 h;omega)
   rw[aha hne]
   have h1:=Uy _ hne
   simp only[afp,agj,beq_iff_eq,bne_iff_ne]
   refine⟨?_,h1⟩
   rcases Int.lt_trichotomy x 0 with h|h|h
   ·right;exact ahc h
   ·exact absurd h h0
   ·left;exact ahb h
theorem QV (x:Int):okB (hY x)=true:=yK.2 ⟨x,rfl⟩
theorem ES {b:aq} (hf:Fit b.aa):cl b=some (okB b):=by
 obtain⟨s,l⟩:=b
 simp only[Fit]at hf
 have key:∃r,aO (ov ⟨s,l⟩) 0=some r∧(match r with | .inl _=>Dg l | .inr x=>x=false∧¬Dg l):=by
  refine cP (I:=fun i s=>s=(i:Int)∧Dg (l.take i)) l.length _ ⟨rfl,by simpa using Dg.nil⟩ (ku hf) ?_
  rintro i s hi ⟨rfl,hd⟩
  simp only[ov]
  by_cases hlt:i<l.length
  ·rw[if_pos (by simpa using hlt),cy hlt,agi]
   by_cases h1:l[i]<0
   ·right
    exact⟨.inr false,by rw[if_pos (by simpa using h1)],rfl,fun hh=>by have:=hh.get hlt;omega⟩
   ·by_cases h2:l[i]>1048575
    ·right
     exact⟨.inr false,by rw[if_neg (by simpa using h1),if_pos (by simpa using h2)],rfl,fun hh=>by have:=hh.get hlt;omega⟩
    ·left
     refine⟨hlt,_,by rw[if_neg (by simpa using h1),if_neg (by simpa using h2)],by rw[j0 (by omega)];omega,?_⟩
     have e:l.take (i+1)=l.take i++[l[i]]:=by rw[List.take_add_one];simp[hlt]
     rw[e]
     exact hd.append (Dg.mk (by omega) Dg.nil)
  ·right
   have:i=l.length:=by omega
   subst this
   rw[agO]at hd
   exact⟨.inl (),by rw[if_neg (by simp)],hd⟩
 obtain⟨r,h1,h2⟩:=key
 unfold cl okB
 rw[h1,agi]
 cases r with
 | inr x =>
  obtain⟨rfl,h⟩:=h2
  simp[h]
 | inl u =>
  simp only at h2 ⊢
  simp only[h2,decide_true,af9]
  by_cases h0:l=[]
  ·subst h0;simp
  ·have hp:0<l.length:=agC.2 h0
   have e:IntKind.i64.wrap ((l.length:Int)-1)=((l.length-1:Nat):Int):=by rw[j0 (by omega)];omega
   rw[if_neg (by simpa using h0),e,cy (by omega),aha h0,List.getLast_eq_getElem]
   simp only[Option.bind_some]
   by_cases hs:s=1
   ·subst hs;simp
   ·rw[if_neg (by simpa using hs)]
    by_cases hs':s = -1
    ·subst hs';simp
    ·rw[if_neg (by simpa using hs')]
     simp[hs,hs']
theorem jd {x:Int} (h:Ln x<=17592186044416):cl (hY x)=some true:=by
 rw[ES (show Fit (hY x).aa from h),QV]
theorem wh {s:Int} {l:List Int} (x:Int) (hf:Fit l) (hd:Dg l) (hv:dv l=x.natAbs) (hs:x≠0->s=x.sign):cv s l=some (hY x):=by
 unfold cv
 rw[B8 hf hd hv,agi]
 by_cases h0:x=0
 ·subst h0
  rw[show (0:Int).natAbs=0 from rfl,cR,N2];rfl
 ·have:bd x.natAbs≠[]:=fun h=>h0 (by have:=ue.1 h;omega)
  rw[if_neg (by simpa using this),hs h0];rfl
theorem lW (b:aq):dN true b=some (b,0):=rfl
theorem wg (x:Int):x.sign = -1∨x.sign=0∨x.sign=1:=by
 rcases Int.lt_trichotomy x 0 with h|h|h
 ·left;exact ahc h
 ·subst h;right;left;rfl
 ·right;right;exact ahb h
theorem PE {x:Int} (h:Ln x<=eF):ng (hY x)=some (hY (-x)):=by
 unfold ng
 have hL:eF=4398046511104:=rfl
 rw[jd (by omega),agi]
 simp only[af8,afo,if_false]
 have hf:Fit (hY x).aa:=by unfold Fit;show Ln x<=_;omega
 rw[ub hf,agi,wh (-x) hf (dU _) (by show dv (bd _)=_;rw[bU,Int.natAbs_neg]),agi]
 intro h0
 show IntKind.i64.wrap (0-x.sign)=_
 rw[j0 (by have:=wg x;omega),Int.sign_neg,Int.zero_sub]
theorem aat (s t:Int):uc [s,t]=some (if s≠0 then s else t):=by
 have key:∃r,aO (vt [s,t]) 0=some r∧(match r with | .inl _=>s=0∧t=0 | .inr x=>x=if s≠0 then s else t):=by
  refine cP (I:=fun i j=>j=(i:Int)∧(1<=i->s=0)∧(2<=i->t=0)) 2 _ ⟨rfl,by omega,by omega⟩ (by unfold FU;omega) ?_
  rintro i j hi ⟨rfl,h1,h2⟩
  simp only[vt]
  rcases (show i=0∨i=1∨i=2 by omega) with rfl|rfl|rfl
  ·rw[if_pos (by simp)]
   show _∨∃r,((some s).bind _=_)∧_
   rw[show P.idx [s,t] ((0:Nat):Int)=some s from rfl,agi]
   by_cases hs:s=0
   ·left;exact⟨by omega,_,by rw[if_neg (by simpa using hs)],by rw[j0 (by omega)];rfl,fun _=>hs,by omega⟩
   ·right;exact⟨_,by rw[if_pos (by simpa using hs)],by simp[hs]⟩
  ·have hs:=h1 (by omega)
   rw[if_pos (by simp),show P.idx [s,t] ((1:Nat):Int)=some t from rfl,agi]
   by_cases ht:t=0
   ·left;exact⟨by omega,_,by rw[if_neg (by simpa using ht)],by rw[j0 (by omega)];rfl,fun _=>hs,fun _=>ht⟩
   ·right;exact⟨_,by rw[if_pos (by simpa using ht)],by simp[hs]⟩
  ·right
   exact⟨.inl (),by rw[if_neg (by simp)],h1 (by omega),h2 (by omega)⟩
 obtain⟨r,h1,h2⟩:=key
 unfold uc
 rw[h1,agi]
 cases r with
 | inl u=>simp only at h2 ⊢;rw[if_neg (by simp[h2.1]),h2.2]
 | inr x=>simp only at h2 ⊢;rw[h2]
theorem nT (x:Int):x.sign=1∧x=x.natAbs∧0<x∨x.sign = -1∧x = -x.natAbs∧x<0∨x.sign=0∧x=0:=by
 rcases Int.lt_trichotomy x 0 with h|h|h
 ·right;left;exact⟨ahc h,by omega,h⟩
 ·subst h;right;right;exact⟨rfl,rfl⟩
 ·left;exact⟨ahb h,by omega,h⟩
theorem oX {x:Int} {s:Int} {n:Nat} (hn:n=x.natAbs) (hs:x≠0->s=x.sign) (hL:n≠0->(bd n).length<=17592186044416):cv s (bd n)=some (hY x):=by
 subst hn
 refine wh x ?_ (dU _) (bU _) hs
 unfold Fit
 by_cases h:x.natAbs=0
 ·rw[h,cR];simp
 ·exact hL h
theorem abk {x y:Int} (hx:Ln x<=eF) (hy:Ln y<=eF):rP (hY x) (hY y)=some (hY (x+y),0):=by
 have hL:eF=4398046511104:=rfl
 have hLa:=PC x y
 unfold rP
 rw[jd (by omega),agi]
 simp only[af8,afo,if_false]
 rw[jd (by omega),agi,agi]
 simp only[af8,afo,if_false]
 show (if decide (IntKind.i64.wrap (x.sign*y.sign)>=0)=true then _ else _)=_
 have hxd:(hY x).aa=bd x.natAbs:=rfl
 have hyd:(hY y).aa=bd y.natAbs:=rfl
 have hxs:(hY x).ah=x.sign:=rfl
 have hys:(hY y).ah=y.sign:=rfl
 rw[hxd,hyd,hxs,hys]
 have fx:(bd x.natAbs).length<=4398046511104:=by show Ln x<=_;omega
 have fy:(bd y.natAbs).length<=4398046511104:=by show Ln y<=_;omega
 have sx:=nT x
 have sy:=nT y
 have hw:IntKind.i64.wrap (x.sign*y.sign)=x.sign*y.sign:=by
  apply j0
  rcases wg x with h|h|h<;>rcases wg y with g|g|g<;>rw[h,g]<;>decide
 rw[hw]
 by_cases hs:x.sign*y.sign>=0
 ·rw[if_pos (by simpa using hs),aat,agi,add_eq (dU _) (dU _) (by omega) (by omega),agi,bU,bU]
  have hn:((x.natAbs:Int)+y.natAbs).toNat=(x+y).natAbs:=by
   rcases sx with⟨a,b,c⟩|⟨a,b,c⟩|⟨a,b⟩<;>rcases sy with⟨a',b',c'⟩|⟨a',b',c'⟩|⟨a',b'⟩<;>first|omega|(rw[a,a']at hs;exact absurd hs (by decide))
  rw[hn,oX (x:=x+y) rfl ?_ (fun _=>by show Ln (x+y)<=_;omega),agi,lW,agi]
  intro h0
  rcases sx with⟨a,b,c⟩|⟨a,b,c⟩|⟨a,b⟩<;>rcases sy with⟨a',b',c'⟩|⟨a',b',c'⟩|⟨a',b'⟩<;>(try (rw[a,a']at hs;exact absurd hs (by decide)))<;>rw[a,a']
  ·rw[if_pos (by decide),ahb (by omega)]
  ·rw[if_pos (by decide),ahb (by omega)]
  ·rw[if_pos (by decide),ahc (by omega)]
  ·rw[if_pos (by decide),ahc (by omega)]
  ·rw[if_neg (by decide),ahb (by omega)]
  ·rw[if_neg (by decide),ahc (by omega)]
  ·omega
 ·rw[if_neg (by simpa using hs),CW (by unfold Fit;omega) (by unfold Fit;omega),agi]
  have hsg:x.sign=1∧y.sign = -1∧0<x∧y<0∨x.sign = -1∧y.sign=1∧x<0∧0<y:=by
   rcases sx with⟨a,b,c⟩|⟨a,b,c⟩|⟨a,b⟩<;>rcases sy with⟨a',b',c'⟩|⟨a',b',c'⟩|⟨a',b'⟩<;>first|exact .inl ⟨a,a',c,c'⟩|exact .inr ⟨a,a',c,c'⟩|(rw[a,a']at hs;exact absurd (by decide) hs)
  by_cases hlt:x.natAbs<y.natAbs
  ·have:n5 (x.natAbs:Int) y.natAbs<0:=by unfold n5;rw[if_pos (by omega)];decide
   rw[if_pos (by simpa using this),sub_eq (dU _) (dU _) (by unfold Fit;omega) (eR (by omega)) (by rw[bU,bU];omega),agi,bU,bU]
   rw[oX (x:=x+y) (by omega) ?_ (fun _=>by rw[show ((y.natAbs:Int)-x.natAbs).toNat=(x+y).natAbs by omega];show Ln (x+y)<=_;omega),agi,lW,agi]
   intro h0
   rcases hsg with⟨a,a',b,b'⟩|⟨a,a',b,b'⟩
   ·rw[a',ahc (by omega)]
   ·rw[a',ahb (by omega)]
  ·have:¬n5 (x.natAbs:Int) y.natAbs<0:=by unfold n5;rw[if_neg (by omega)];split<;>decide
   rw[if_neg (by simpa using this),sub_eq (dU _) (dU _) (by unfold Fit;omega) (eR (by omega)) (by rw[bU,bU];omega),agi,bU,bU]
   rw[oX (x:=x+y) (by omega) ?_ (fun _=>by rw[show ((x.natAbs:Int)-y.natAbs).toNat=(x+y).natAbs by omega];show Ln (x+y)<=_;omega),agi,lW,agi]
   intro h0
   rcases hsg with⟨a,a',b,b'⟩|⟨a,a',b,b'⟩
   ·rw[a,ahb (by omega)]
   ·rw[a,ahc (by omega)]
theorem abm {x y:Int} (hx:Ln x<=eF) (hy:Ln y<=eF):rS (hY x) (hY y)=some (hY (x*y),0):=by
 have hL:eF=4398046511104:=rfl
 have hLa:=kZ x y
 unfold rS
 rw[jd (by omega),agi]
 simp only[af8,afo,if_false]
 rw[jd (by omega),agi,agi]
 simp only[af8,afo,if_false]
 have hxd:(hY x).aa=bd x.natAbs:=rfl
 have hyd:(hY y).aa=bd y.natAbs:=rfl
 have hxs:(hY x).ah=x.sign:=rfl
 have hys:(hY y).ah=y.sign:=rfl
 rw[hxd,hyd,hxs,hys]
 have fx:(bd x.natAbs).length<=4398046511104:=by show Ln x<=_;omega
 have fy:(bd y.natAbs).length<=4398046511104:=by show Ln y<=_;omega
 have hw:IntKind.i64.wrap (x.sign*y.sign)=(x*y).sign:=by
  rw[Int.sign_mul]
  apply j0
  rcases wg x with h|h|h<;>rcases wg y with g|g|g<;>rw[h,g]<;>decide
 rw[hw,mul_eq (dU _) (dU _) (by omega),agi,bU,bU]
 have hn:((x.natAbs:Int)*y.natAbs).toNat=(x*y).natAbs:=by rw[ag9,<- afL];rfl
 rw[hn,oX (x:=x*y) rfl (fun _=>rfl) (fun _=>by show Ln (x*y)<=_;omega),agi,lW,agi]
theorem pS {x y:Int} (hx:Ln x<=eF) (hy:Ln y<=eF):b6 (hY x) (hY y)=some (hY (x*y)):=by
 unfold b6
 rw[abm hx hy];rfl
theorem VP {x y:Int} (hx:Ln x<=eF) (hy:Ln y<=eF) (h0:0<y) (hd:y∣x):nf (hY x) (hY y)=some (hY (x / y),hY 0,0):=by
 have hL:eF=4398046511104:=rfl
 unfold nf
 rw[jd (by omega),agi]
 simp only[af8,afo,if_false]
 rw[jd (by omega),agi,agi]
 simp only[af8,afo,if_false]
 have hxd:(hY x).aa=bd x.natAbs:=rfl
 have hyd:(hY y).aa=bd y.natAbs:=rfl
 have hxs:(hY x).ah=x.sign:=rfl
 have hys:(hY y).ah=1:=ahb h0
 rw[hxd,hyd,hxs,hys]
 have fx:(bd x.natAbs).length<=4398046511104:=by show Ln x<=_;omega
 have fy:(bd y.natAbs).length<=4398046511104:=by show Ln y<=_;omega
 have fq:=eR (Nat.div_le_self x.natAbs y.natAbs)
 obtain⟨z,rfl⟩:=hd
 have hyz:y*z / y=z:=Int.mul_ediv_cancel_left _ (by omega)
 have hn:(y*z).natAbs=y.natAbs*z.natAbs:=ag9 _ _
 have hq:(y*z).natAbs / y.natAbs=z.natAbs:=by rw[hn,Nat.mul_div_cancel_left _ (by omega)]
 have hr:(y*z).natAbs % y.natAbs=0:=by rw[hn,Nat.mul_mod_right]
 have hsg:(y*z).sign=z.sign:=by rw[Int.sign_mul,ahb h0,ag7]
 rw[if_neg (by decide),div_eq (by omega) (by omega) (by omega),agi,agR,hsg,j0 (x:=z.sign) (by have:=wg z;omega),hyz,hq,hr,cR]
 rw[hq]at fq
 have hT:(if decide (z.sign<0)=true then some (decide ((([]:List Int).length:Int)>0)) else some false)=some false:=by split<;>rfl
 simp only[hT,Option.bind_some,afo,if_false]
 rw[oX (x:=z) rfl (fun _=>rfl) (fun _=>by omega),agi]
 have:cv z.sign []=some (hY 0):=wh 0 (by simp[Fit]) Dg.nil rfl (fun h=>absurd rfl h)
 rw[this,agi]
def lg (n:Nat):Nat:=if n=0 then 0 else n.log2+1
theorem acN {r x:Nat} (h:2*r<x):lg r<lg x:=by
 unfold lg
 rw[if_neg (show x≠0 by omega)]
 by_cases h0:r=0
 ·rw[if_pos h0];omega
 ·rw[if_neg h0]
  have h1:=Nat.log2_self_le h0
  have h2:=@Nat.lt_log2_self x
  have:2 ^ (r.log2+1)<2 ^ (x.log2+1):=by rw[Nat.pow_succ];omega
  have:=(Nat.pow_lt_pow_iff_right (by decide:1<2)).1 this
  omega
theorem aaW {n k:Nat} (h:(n:Int)<pw k):lg n<=20*k:=by
 unfold lg
 by_cases h0:n=0
 ·rw[if_pos h0];omega
 ·rw[if_neg h0]
  have:n<2 ^ (20*k):=by
   have:pw k=((2 ^ (20*k):Nat):Int):=by
    unfold pw
    rw[Nat.pow_mul,Int.natCast_pow];rfl
   omega
  have:=(Nat.log2_lt h0).2 this
  omega
theorem Xk {a b:Nat} (ha:(bd a).length<=rM) (hb:(bd b).length<=rM):aO pg (bd a,bd b)=some (bd (Nat.gcd a b)):=by
 have hL:rM=17592186043904:=rfl
 have key:∃r,aO pg (bd a,bd b)=some r∧r=bd (Nat.gcd a b):=by
  have la:=aaW (jQ a)
  have lb:=aaW (jQ b)
  let val:List Int->Nat:=fun l=>(dv l).toNat
  have hval:∀n,val (bd n)=n:=fun n=>by show (dv (bd n)).toNat=n;rw[bU];rfl
  refine yC (I:=fun (s:List Int×List Int)=>∃x y,s=(bd x,bd y)∧Nat.gcd x y=Nat.gcd a b∧(bd x).length<=rM∧(bd y).length<=rM)
   (μ:=fun (s:List Int×List Int)=>lg (val s.1)+lg (val s.2)+(if val s.1<val s.2 then 1 else 0)) _ ⟨a,b,rfl,rfl,ha,hb⟩ (by simp only[hval];unfold FU;split<;>omega) ?_
  rintro _ ⟨x,y,rfl,hg,hx,hy⟩
  simp only[pg]
  by_cases h0:y=0
  ·right
   subst h0
   refine⟨_,by rw[cR,if_neg (by simp)],?_⟩
   rw[<- hg,Nat.gcd_zero_right]
  ·left
   have hne:0<(bd y).length:=agC.2 (fun h=>h0 (ue.1 h))
   rw[if_pos (by simpa using hne),div_eq h0 (by omega) (by omega),agi]
   have hlt:=Nat.mod_lt x (Nat.pos_of_ne_zero h0)
   refine⟨_,rfl,⟨y,x % y,rfl,?_,hy,?_⟩,?_⟩
   ·rw[<- hg,Nat.gcd_comm y,<- Nat.gcd_rec,Nat.gcd_comm]
   ·have:=eR (Nat.mod_le x y);omega
   ·simp only[hval]
    rw[if_neg (by omega)]
    by_cases hxy:x<y
    ·rw[if_pos hxy,afI hxy];omega
    ·rw[if_neg hxy]
     have:lg (x % y)<lg x:=by
      apply acN
      have h1:=Nat.div_add_mod x y
      have h2:1<=x / y:=(Nat.one_le_div_iff (by omega)).2 (by omega)
      have h3:y*1<=y*(x / y):=Nat.mul_le_mul_left _ h2
      omega
     omega
 obtain⟨r,h1,rfl⟩:=key
 exact h1
theorem VR {x y:Int} (hx:Ln x<=rM) (hy:Ln y<=rM):ou (hY x) (hY y)=some (hY (Int.gcd x y),0):=by
 have hL:rM=17592186043904:=rfl
 unfold ou
 rw[jd (by omega),agi]
 simp only[af8,afo,if_false]
 rw[jd (by omega),agi,agi]
 simp only[af8,afo,if_false]
 have hxd:(hY x).aa=bd x.natAbs:=rfl
 have hyd:(hY y).aa=bd y.natAbs:=rfl
 rw[hxd,hyd]
 have fx:(bd x.natAbs).length<=17592186043904:=by show Ln x<=_;omega
 have fy:(bd y.natAbs).length<=17592186043904:=by show Ln y<=_;omega
 have fg:(bd (Nat.gcd x.natAbs y.natAbs)).length<=17592186043904:=by
  by_cases h:y.natAbs=0
  ·rw[h,Nat.gcd_zero_right];exact fx
  ·have:=eR (Nat.gcd_le_right x.natAbs (Nat.pos_of_ne_zero h));omega
 rw[ub (by unfold Fit;omega),agi,Xk (by omega) (by omega),agi,ub (by unfold Fit;omega),agi]
 have hgn:Nat.gcd x.natAbs y.natAbs=((Int.gcd x y:Nat):Int).natAbs:=rfl
 rw[oX (x:=(Int.gcd x y:Int)) hgn ?_ (fun _=>by omega),agi,lW,agi]
 intro h
 rw[ahb (by omega)]
theorem Uj (x:Int):IntKind.u64.wrap x=x % 18446744073709551616:=by
 unfold IntKind.wrap
 simp only[IntKind.bits,IntKind.signed,agL,afo,if_false]
 rfl
theorem wu {x:Int} (h:0<=x∧x<18446744073709551616):IntKind.u64.wrap x=x:=by rw[Uj];omega
theorem Un {x:Int} (h:0<=x∧x<18446744073709551616):cV .and .u64 x 1048575=x % 1048576:=by
 unfold cV
 simp only
 have e1:(BitVec.ofInt IntKind.u64.bits x &&& BitVec.ofInt IntKind.u64.bits 1048575).toNat=((x % 18446744073709551616).toNat) % 1048576:=by
  rw[BitVec.toNat_and,BitVec.toNat_ofInt,BitVec.toNat_ofInt]
  have e:((1048575:Int) % ((2 ^ IntKind.u64.bits:Nat):Int)).toNat=2 ^ 20-1:=by decide
  rw[e,agV]
  rfl
 rw[e1,wu (by omega)]
 omega
theorem ab0 (x:Int):nc .u64 x 20=some (x / 1048576):=by
 unfold nc
 rw[if_neg (by decide)]
 have e:(2:Int) ^ (min (Int.toNat 20) IntKind.u64.bits)=1048576:=by decide
 rw[e,agW _ (by decide)]
theorem pw4:pw 4=1208925819614629174706176:=by decide
theorem ZX {n:Nat} (hn:n<18446744073709551616):∃l,aO vo ((n:Int),[])=some l∧Dg l∧dv l=n∧l.length<=5:=by
 refine yC (I:=fun (s:Int×List Int)=>0<=s.1∧Dg s.2∧dv s.2+pw s.2.length*s.1=n∧s.2.length<=5∧(s.1=0∨s.2.length<5)) (μ:=fun (s:Int×List Int)=>s.1.toNat) _ ⟨by simp,Dg.nil,by simp[dv,sJ],by simp,by simp⟩ (by simp only[Int.toNat_natCast];unfold FU;omega) ?_
 rintro⟨u,l⟩ ⟨h1,hd,h2,h3,h5⟩
 simp only at h1 hd h2 h3 h5
 have hp:=pN l.length
 have hdl:=cS hd
 have hu:u<=n:=by
  have:1*u<=pw l.length*u:=ag8 (by omega) h1
  omega
 simp only[vo]
 by_cases h0:u>0
 ·left
  have hl5:l.length<5:=by omega
  have hl4:l.length<4:=by
   rcases afz l.length 4 with h|h
   ·exact h
   ·have h4:l.length=4:=by omega
    rw[h4,pw4]at h2
    omega
  have hw:IntKind.i64.wrap (u % 1048576)=u % 1048576:=j0 (by omega)
  rw[if_pos (by simpa using h0),Un ⟨h1,by omega⟩,hw,KV (by simp;omega),agi,ab0,agi]
  refine⟨_,rfl,⟨by simp only;omega,hd.append (Dg.mk (by omega) Dg.nil),?_,by simp;omega,by right;simp;omega⟩,by simp only;omega⟩
  simp only[j4,dv,afP,List.length_cons,List.length_nil,ag6,Int.add_zero,afB]
  have:=Ad l.length u
  omega
 ·right
  have:u=0:=by omega
  subst this
  refine⟨l,by rw[if_neg (by simp)],hd,?_,h3⟩
  rw[ag6]at h2
  omega
theorem aas {x:Int} (h : -9223372036854775808<=x∧x<9223372036854775808):tV x=some (hY x):=by
 have hT:(if decide (x<0)=true then some ((-1:Int),IntKind.u64.wrap (0-(IntKind.u64.wrap x))) else some (1,IntKind.u64.wrap x))=some (if x<0 then -1 else 1,((x.natAbs:Nat):Int)):=by
  by_cases hx:x<0
  ·rw[if_pos (by simpa using hx),if_pos hx,Uj,Uj]
   congr 2
   omega
  ·rw[if_neg (by simpa using hx),if_neg hx,Uj]
   congr 2
   omega
 obtain⟨l,h1,h2,h3,h4⟩:=ZX (n:=x.natAbs) (by omega)
 unfold tV
 rw[hT,agi]
 simp only
 rw[h1,agi,uJ]
 refine wh x (by unfold Fit;omega) h2 h3 (fun h0 =>?_)
 split
 ·rw[ahc (by omega)]
 ·rw[ahb (by omega)]
theorem aeb {d:Int} {i:Nat} (hi:i<=3) (hd:0<=d∧d<1048576) (h8:i=3->d<=8):tK .u64 (IntKind.u64.wrap d) (IntKind.i64.wrap (20*(i:Int)))=some (pw i*d):=by
 rw[wu (by omega),j0 (by omega)]
 unfold tK
 rw[if_neg (by omega)]
 have e:(2:Int) ^ (min (20*(i:Int)).toNat IntKind.u64.bits)=pw i:=by
  have:∀i:Nat,i<=3->(2:Int) ^ (min (20*(i:Int)).toNat IntKind.u64.bits)=pw i:=by decide
  exact this i hi
 rw[e,wu,agQ]
 rcases (show i=0∨i=1∨i=2∨i=3 by omega) with rfl|rfl|rfl|rfl
 ·rw[show pw 0=1 by decide];omega
 ·rw[show pw 1=1048576 by decide];omega
 ·rw[show pw 2=1099511627776 by decide];omega
 ·rw[show pw 3=1152921504606846976 by decide];have:=h8 rfl;omega
theorem acV {u d:Int} {i:Nat} (hi:i<=3) (hu:0<=u∧u<pw i) (hd:0<=d∧pw i*d<9223372036854775809):cV .or .u64 u (pw i*d)=u+pw i*d:=by
 have hp:=pN i
 have hpd:0<=pw i*d:=ag3 (by omega) hd.1
 have hpw:pw i=((2 ^ (20*i):Nat):Int):=by unfold pw;rw[Nat.pow_mul,Int.natCast_pow];rfl
 have hp3:pw i<=1152921504606846976:=by
  have:=sI hi
  rwa [show pw 3=1152921504606846976 by decide]at this
 unfold cV
 simp only
 have e1:(BitVec.ofInt IntKind.u64.bits u ||| BitVec.ofInt IntKind.u64.bits (pw i*d)).toNat=(u+pw i*d).toNat:=by
  rw[BitVec.toNat_or,BitVec.toNat_ofInt,BitVec.toNat_ofInt]
  have e:((2 ^ IntKind.u64.bits:Nat):Int)=18446744073709551616:=by decide
  rw[e]
  have e2:(u % 18446744073709551616).toNat=u.toNat:=by omega
  have e3:((pw i*d) % 18446744073709551616).toNat=d.toNat <<< (20*i):=by
   rw[Nat.shiftLeft_eq,Int.emod_eq_of_lt hpd (by omega),hpw]
   have:d=(d.toNat:Int):=by omega
   rw[this,<- afL,afM,afM,afK]
  rw[e2,e3,Nat.or_comm,<- Nat.shiftLeft_add_eq_or_of_lt (by omega),Nat.shiftLeft_eq]
  have:pw i*d=((d.toNat*2 ^ (20*i):Nat):Int):=by
   rw[hpw,afL,agQ]
   congr 1
   omega
  omega
 rw[e1,wu (by omega)]
 omega
theorem abU {g:Nat} (h:(bd g).length<=rM):pE (hY g)=some (decide (g=1)):=by
 have hL:rM=17592186043904:=rfl
 have hgd:(hY (g:Int)).aa=bd g:=rfl
 have hLn:Ln (g:Int)=(bd g).length:=rfl
 unfold pE
 have hsmall:g=1->(bd g).length<=4:=by
  rintro rfl
  exact aeQ (ly (k:=1) (by decide)) (by decide)
 suffices hI:∃r,rQ (hY g)=some r∧((if r.2=true then some (r.1==1) else some false)=some (decide (g=1))) by
  obtain⟨r,h1,h2⟩:=hI
  rw[h1,agi,h2]
 unfold rQ
 rw[jd (by rw[hLn];omega),agi]
 simp only[af8,afo,if_false,Option.bind_some,hgd]
 by_cases h4:(bd g).length>4
 ·rw[if_pos (by simp;omega)]
  refine⟨_,rfl,?_⟩
  have:g≠1:=fun hh=>by have:=hsmall hh;omega
  simp[this]
 rw[if_neg (by simp;omega)]
 have key:∃r,aO (rR (hY g)) (0,0)=some r∧(match r with | .inl u=>u=(g:Int) | .inr x=>x=(0,false)∧g≠1):=by
  refine cP (I:=fun i s=>s.2=(i:Int)∧s.1=dv ((bd g).take i)) (bd g).length _ ⟨rfl,rfl⟩ (ku (by omega)) ?_
  rintro i ⟨u,s⟩ hi ⟨h1,h2⟩
  simp only at h1 h2
  subst h1 h2
  simp only[rR,hgd]
  have hdg:=(dU g).take i
  have hu0:=cS hdg
  have hu1:=p8 hdg
  rw[ae7,afS hi]at hu1
  by_cases hlt:i<(bd g).length
  ·have gd:=(dU g).get hlt
   rw[if_pos (by simpa using hlt),cy hlt,agi]
   have hT:(if ((i:Int)==3)=true then some (decide ((bd g)[i]>8)) else some false)=some (decide (i=3∧(bd g)[i]>8)):=by
    by_cases h3:i=3
    ·subst h3;simp
    ·rw[if_neg (by simp;omega)];simp[h3]
   rw[hT,agi]
   by_cases h8:i=3∧(bd g)[i]>8
   ·right
    rw[if_pos (by simpa using h8)]
    refine⟨.inr (0,false),rfl,rfl,?_⟩
    rintro rfl
    have:=ly (n:=1) (k:=1) (by decide)
    omega
   ·left
    rw[if_neg (by simpa using h8),aeb (by omega) gd (by omega),agi]
    have hb:pw i*(bd g)[i]<9223372036854775809:=by
     rcases (show i=0∨i=1∨i=2∨i=3 by omega) with h|h|h|h
     ·have:pw i=1:=by rw[h];decide
      rw[this];omega
     ·have:pw i=1048576:=by rw[h];decide
      rw[this];omega
     ·have:pw i=1099511627776:=by rw[h];decide
      rw[this];omega
     ·have:pw i=1152921504606846976:=by rw[h];decide
      rw[this];omega
    rw[acV (by omega) ⟨hu0,hu1⟩ ⟨gd.1,hb⟩]
    exact⟨hlt,_,rfl,by rw[j0 (by omega)];omega,by rw[j5 hlt]⟩
  ·right
   have:i=(bd g).length:=by omega
   subst this
   exact⟨.inl (dv ((bd g).take (bd g).length)),by rw[if_neg (by simp)],by rw[agO,bU]⟩
 obtain⟨r,h1,h2⟩:=key
 rw[h1,agi]
 cases r with
 | inr x=>obtain⟨rfl,h⟩:=h2;exact⟨_,rfl,by simp[h]⟩
 | inl u =>
  simp only at h2
  subst h2
  have hs:(hY (g:Int)).ah=(g:Int).sign:=rfl
  have hs0:¬(g:Int).sign<0:=by have:=nT (g:Int);omega
  simp only[hs]
  rw[if_neg (by simp),agi,if_neg (by simp),if_pos (by simp)]
  by_cases hg:(g:Int)<9223372036854775808
  ·rw[if_pos (by simpa using hg)]
   refine⟨_,rfl,?_⟩
   simp only[if_true]
   rw[wrap64 (by omega) hg]
   congr 1
   by_cases h:g=1
   ·subst h;rfl
   ·have:¬((g:Int)=1):=by omega
    simp[h,this]
  ·rw[if_neg (by simpa using hg)]
   have:g≠1:=by omega
   exact⟨_,rfl,by simp[this]⟩
def bL (q:Rat):al:=al.mk (hY q.num) (hY q.den)
def LF (q:Rat):Nat:=max (Ln q.num) (Ln q.den)
theorem vT {p q:Rat} (h:bL p=bL q):p=q:=by
 unfold bL at h
 simp only[al.mk.injEq]at h
 have h1:=Tq h.1
 have h2:=Tq h.2
 exact Rat.ext h1 (by omega)
def okF (f:al):Bool:=okB f.aJ&&okB f.aL&&(f.aL.ah==1)&&decide (Nat.gcd (dv f.aJ.aa).toNat (dv f.aL.aa).toNat=1)
theorem B2 {f:al} : okF f=true↔∃q,f=bL q:=by
 obtain⟨p,q⟩:=f
 unfold okF
 simp only[afp,beq_iff_eq,decide_eq_true_eq]
 constructor
 ·rintro⟨⟨⟨h1,h2⟩,h3⟩,h4⟩
  obtain⟨x,rfl⟩:=yK.1 h1
  obtain⟨y,rfl⟩:=yK.1 h2
  have hy:0<y:=by
   have:y.sign=1:=h3
   rcases nT y with⟨a,b,c⟩|⟨a,b,c⟩|⟨a,b⟩<;>omega
  have h5:(dv (hY x).aa).toNat=x.natAbs:=by show (dv (bd _)).toNat=_;rw[bU];rfl
  have h6:(dv (hY y).aa).toNat=y.natAbs:=by show (dv (bd _)).toNat=_;rw[bU];rfl
  rw[h5,h6]at h4
  refine⟨⟨x,y.natAbs,by omega,h4⟩,?_⟩
  unfold bL
  simp only
  congr 2
  omega
 ·rintro⟨q,hq⟩
  unfold bL at hq
  simp only[al.mk.injEq]at hq
  obtain⟨rfl,rfl⟩:=hq
  have hd:=q.den_pos
  refine⟨⟨⟨QV _,QV _⟩,ahb (by omega)⟩,?_⟩
  have h5:(dv (hY q.num).aa).toNat=q.num.natAbs:=by show (dv (bd _)).toNat=_;rw[bU];rfl
  have h6:(dv (hY (q.den:Int)).aa).toNat=q.den:=by show (dv (bd _)).toNat=_;rw[bU];rfl
  rw[h5,h6]
  exact q.reduced
theorem QW (q:Rat):okF (bL q)=true:=B2.2 ⟨q,rfl⟩
def Zj (f:al):Prop:=f.aJ.aa.length<=rM∧f.aL.aa.length<=rM
theorem Zk {q:Rat} (h:LF q<=eF):Zj (bL q):=by
 unfold LF at h
 exact⟨xQ (show Ln q.num<=_ by omega),xQ (show Ln q.den<=_ by omega)⟩
theorem Cp {f:al} (hf:Zj f):bZ f=some (okF f):=by
 have hL:rM=17592186043904:=rfl
 obtain⟨p,q⟩:=f
 simp only[Zj]at hf
 unfold bZ okF
 rw[ES (show Fit p.aa by unfold Fit;omega),agi]
 by_cases h1:okB p=true
 ·simp only[h1,af8,afo,if_false,af9]
  rw[ES (show Fit q.aa by unfold Fit;omega),agi]
  by_cases h2:okB q=true
  ·simp only[h2,af8,afo,if_false,af9,Option.bind_some]
   by_cases h3:q.ah=1
   ·rw[if_neg (by simp[h3])]
    obtain⟨x,rfl⟩:=yK.1 h1
    obtain⟨y,rfl⟩:=yK.1 h2
    rw[VR hf.1 hf.2,agi]
    simp only[beq_self_eq_true,if_true]
    have h5:(dv (hY x).aa).toNat=x.natAbs:=by show (dv (bd _)).toNat=_;rw[bU];rfl
    have h6:(dv (hY y).aa).toNat=y.natAbs:=by show (dv (bd _)).toNat=_;rw[bU];rfl
    rw[abU,agi,h5,h6]
    ·rw[h3];rfl
    ·have hy:0<y.natAbs:=by
      have:y.sign=1:=h3
      rcases nT y with⟨a,b,c⟩|⟨a,b,c⟩|⟨a,b⟩<;>omega
     have:=eR (Nat.gcd_le_right x.natAbs hy)
     have h7:(bd y.natAbs).length<=rM:=hf.2
     show (bd (Nat.gcd x.natAbs y.natAbs)).length<=_
     omega
   ·rw[if_pos (by simpa using h3)]
    simp[h3]
  ·simp only[h2,agM,if_true,Option.bind_some,agL]
 ·simp only[h1,agM,if_true,Option.bind_some,agL]
theorem kE {q:Rat} (h:LF q<=eF):bZ (bL q)=some true:=by rw[Cp (Zk h),QW]
theorem PF {p q:Int} (hp:Ln p<=eF) (hq:Ln q<=eF) (h0:q≠0):l7 (hY p) (hY q)=some (bL (Rat.divInt p q),0):=by
 have hL:eF=4398046511104:=rfl
 have main:∀ {p q:Int},Ln p<=eF->Ln q<=eF->0<q ->
   ((ou (hY p) (hY q)).bind fun r6=>(nf (hY p) r6.1).bind fun r7=>(nf (hY q) r6.1).bind fun r8=>some ((al.mk r7.1 r8.1),(0:Int)))=some (bL (Rat.divInt p q),0):=by
  intro p q hp hq h0
  have hg:0<Int.gcd p q:=Int.gcd_pos_of_ne_zero_right _ (by omega)
  have hgl:Ln (Int.gcd p q:Int)<=eF:=by
   have:=eR (Nat.gcd_le_right p.natAbs (show 0<q.natAbs by omega))
   show (bd (Nat.gcd p.natAbs q.natAbs)).length<=_
   have h7:(bd q.natAbs).length<=eF:=hq
   omega
  rw[VR (xQ hp) (xQ hq),agi]
  simp only
  rw[VP hp hgl (by omega) (Int.gcd_dvd_left ..),agi,VP hq hgl (by omega) (Int.gcd_dvd_right ..),agi]
  have hd:((q.natAbs / Int.gcd p q:Nat):Int)=q / (Int.gcd p q:Int):=by
   rw[Int.natCast_ediv]
   congr 1
   omega
  unfold bL
  rw[Rat.num_divInt,Rat.den_divInt,if_neg (by omega),ahb h0,ag7,Int.gcd_comm q p,hd]
 unfold l7
 rw[jd (by omega),agi]
 simp only[af8,afo,if_false]
 rw[jd (by omega),agi,agi]
 simp only[af8,afo,if_false]
 have hqs:(hY q).ah=q.sign:=rfl
 rw[hqs]
 rcases nT q with⟨a,b,c⟩|⟨a,b,c⟩|⟨a,b⟩
 ·rw[if_neg (by rw[a];decide),if_neg (by rw[a];decide),agi]
  exact main hp hq c
 ·rw[if_neg (by rw[a];decide),if_pos (by rw[a];decide),PE hp,agi,PE hq,agi,agi]
  have:=main (p := -p) (q := -q) (by rw[PD];exact hp) (by rw[PD];exact hq) (by omega)
  rw[Rat.neg_divInt_neg]at this
  exact this
 ·exact absurd b h0
theorem mM (q:Rat):Ln q.num<=LF q:=by unfold LF;omega
theorem nY (q:Rat):Ln q.den<=LF q:=by unfold LF;omega
theorem zD {p q:Int} (h0:q≠0):LF (Rat.divInt p q)<=max (Ln p) (Ln q):=by
 have hg:0<Int.gcd q p:=Int.gcd_pos_of_ne_zero_left _ h0
 have h1:Ln (Rat.divInt p q).num<=Ln p:=by
  apply RX
  rw[Rat.num_divInt]
  obtain⟨z,hz⟩:(Int.gcd q p:Int)∣q.sign*p:=Int.dvd_mul_of_dvd_right (Int.gcd_dvd_right ..)
  rw[hz,Int.mul_ediv_cancel_left _ (by omega)]
  have h2:(q.sign*p).natAbs=p.natAbs:=by
   rw[ag9]
   have:q.sign.natAbs=1:=by
    rcases nT q with⟨a,b,c⟩|⟨a,b,c⟩|⟨a,b⟩
    ·rw[a];rfl
    ·rw[a];rfl
    ·exact absurd b h0
   rw[this,Nat.one_mul]
  rw[<- h2,hz,ag9]
  exact Nat.le_mul_of_pos_left _ (by omega)
 have h2:Ln ((Rat.divInt p q).den:Int)<=Ln q:=by
  apply RX
  rw[Rat.den_divInt,if_neg h0]
  exact Nat.div_le_self _ _
 unfold LF
 omega
theorem VO {a b:Rat} (h:LF a+LF b+1<=eF):l6 (bL a) (bL b)=some (bL (a+b),0):=by
 have n1:=mM a
 have n2:=mM b
 have d1:=nY a
 have d2:=nY b
 have m1:=kZ a.num b.den
 have m2:=kZ b.num a.den
 have m3:=kZ a.den b.den
 have m4:=PC (a.num*b.den) (b.num*a.den)
 unfold l6
 rw[kE (by omega),agi]
 simp only[af8,afo,if_false]
 rw[kE (by omega),agi,agi]
 simp only[af8,afo,if_false]
 show (b6 (hY a.num) (hY b.den)).bind _=_
 rw[pS (by omega) (by omega),agi]
 show (b6 (hY b.num) (hY a.den)).bind _=_
 rw[pS (by omega) (by omega),agi,abk (by omega) (by omega),agi]
 show (b6 (hY a.den) (hY b.den)).bind _=_
 have hden:(a.den:Int)*b.den≠0:=by
  rw[<- afL]
  have:=Nat.mul_pos a.den_pos b.den_pos
  omega
 rw[pS (by omega) (by omega),agi,PF (by omega) (by omega) hden,agi]
 rw[Rat.add_def',<- Rat.divInt_ofNat,afL]
theorem Ce (a b:Rat):LF (a+b)<=LF a+LF b+1:=by
 have n1:=mM a
 have n2:=mM b
 have d1:=nY a
 have d2:=nY b
 have m1:=kZ a.num b.den
 have m2:=kZ b.num a.den
 have m3:=kZ a.den b.den
 have m4:=PC (a.num*b.den) (b.num*a.den)
 have hden:(a.den:Int)*b.den≠0:=by
  rw[<- afL]
  have:=Nat.mul_pos a.den_pos b.den_pos
  omega
 rw[Rat.add_def',<- Rat.divInt_ofNat,afL]
 have:=zD (p:=a.num*b.den+b.num*a.den) hden
 omega
theorem VV (a:Rat):LF (-a)=LF a:=by unfold LF;rw[Rat.neg_num,Rat.neg_den,PD]
theorem zE (a b:Rat):LF (a-b)<=LF a+LF b+1:=by
 rw[Rat.sub_eq_add_neg]
 have:=Ce a (-b)
 rw[VV]at this
 exact this
theorem R1 {a b:Rat} (h:LF a+LF b+1<=eF):kG (bL a) (bL b)=some (bL (a-b),0):=by
 unfold kG
 rw[kE (by omega),agi]
 simp only[af8,afo,if_false]
 rw[kE (by omega),agi,agi]
 simp only[af8,afo,if_false]
 show (ng (hY b.num)).bind _=_
 have n2:=mM b
 rw[PE (by omega),agi]
 have e:al.mk (hY (-b.num)) (bL b).aL=bL (-b):=by unfold bL;rw[Rat.neg_num,Rat.neg_den]
 rw[e,VO (by rw[VV];exact h),agi,Rat.sub_eq_add_neg]
theorem aci {a b:Rat} (h:LF a+LF b<=eF):pD (bL a) (bL b)=some (bL (a*b),0):=by
 have n1:=mM a
 have n2:=mM b
 have d1:=nY a
 have d2:=nY b
 have m1:=kZ a.num b.num
 have m3:=kZ a.den b.den
 unfold pD
 rw[kE (by omega),agi]
 simp only[af8,afo,if_false]
 rw[kE (by omega),agi,agi]
 simp only[af8,afo,if_false]
 show (b6 (hY a.num) (hY b.num)).bind _=_
 rw[pS (by omega) (by omega),agi]
 show (b6 (hY a.den) (hY b.den)).bind _=_
 have hden:(a.den:Int)*b.den≠0:=by
  rw[<- afL]
  have:=Nat.mul_pos a.den_pos b.den_pos
  omega
 rw[pS (by omega) (by omega),agi,PF (by omega) (by omega) hden,agi]
 rw[Rat.mul_def',<- Rat.divInt_ofNat,afL]
theorem Cg (a b:Rat):LF (a*b)<=LF a+LF b:=by
 have n1:=mM a
 have n2:=mM b
 have d1:=nY a
 have d2:=nY b
 have m1:=kZ a.num b.num
 have m3:=kZ a.den b.den
 have hden:(a.den:Int)*b.den≠0:=by
  rw[<- afL]
  have:=Nat.mul_pos a.den_pos b.den_pos
  omega
 rw[Rat.mul_def',<- Rat.divInt_ofNat,afL]
 have:=zD (p:=a.num*b.num) hden
 omega
theorem C0 (a b:Rat):a / b=Rat.divInt (a.num*b.den) (a.den*b.num):=by
 rw[Rat.div_def,Rat.inv_def]
 conv=>lhs;rw[<- Rat.num_divInt_den a]
 rw[Rat.divInt_mul_divInt]
theorem aap {a b:Rat} (h:LF a+LF b<=eF) (h0:b≠0):jL (bL a) (bL b)=some (bL (a / b),0):=by
 have n1:=mM a
 have n2:=mM b
 have d1:=nY a
 have d2:=nY b
 have m1:=kZ a.num b.den
 have m3:=kZ a.den b.num
 have hb:b.num≠0:=fun hh=>h0 (Rat.num_eq_zero.1 hh)
 unfold jL
 rw[kE (by omega),agi]
 simp only[af8,afo,if_false]
 rw[kE (by omega),agi,agi]
 simp only[af8,afo,if_false]
 have hs:(bL b).aJ.ah=b.num.sign:=rfl
 have hs':b.num.sign≠0:=by rcases nT b.num with⟨a,b,c⟩|⟨a,b,c⟩|⟨a,b⟩<;>omega
 rw[hs,if_neg (by simpa using hs')]
 show (b6 (hY a.num) (hY b.den)).bind _=_
 rw[pS (by omega) (by omega),agi]
 show (b6 (hY a.den) (hY b.num)).bind _=_
 have hden:(a.den:Int)*b.num≠0:=Int.mul_ne_zero (by have:=a.den_pos;omega) hb
 rw[pS (by omega) (by omega),agi,PF (by omega) (by omega) hden,agi,C0]
theorem VU {a b:Rat} (h0:b≠0):LF (a / b)<=LF a+LF b:=by
 have n1:=mM a
 have n2:=mM b
 have d1:=nY a
 have d2:=nY b
 have m1:=kZ a.num b.den
 have m3:=kZ a.den b.num
 have hb:b.num≠0:=fun hh=>h0 (Rat.num_eq_zero.1 hh)
 have hden:(a.den:Int)*b.num≠0:=Int.mul_ne_zero (by have:=a.den_pos;omega) hb
 rw[C0]
 have:=zD (p:=a.num*b.den) hden
 omega
theorem RU {n:Int} (h : -9223372036854775808<=n∧n<9223372036854775808):fw n=some (bL n):=by
 unfold fw
 rw[aas h,agi,aas (by decide),agi]
 unfold bL
 rw[Rat.num_intCast,Rat.den_intCast]
 rfl
theorem Cf {n:Int} (h:n.natAbs<1048576):LF (n:Rat)<=1:=by
 unfold LF
 rw[Rat.num_intCast,Rat.den_intCast]
 have h1:=KP h
 have h2:=KP (x:=((1:Nat):Int)) (by decide)
 omega
theorem Jd {a:Rat} (h:LF a<=eF):gD (bL a)=some a.num.sign:=by
 unfold gD
 rw[kE h,agi]
 rfl
instance:DecidableEq aq:=fun a b=>decidable_of_iff (a.ah=b.ah∧a.aa=b.aa) (by cases a;cases b;simp)
instance:DecidableEq al:=fun a b=>decidable_of_iff (a.aJ=b.aJ∧a.aL=b.aL) (by cases a;cases b;simp)
theorem Vv {b c:aq} (hf:Fit b.aa) (hl:b.aa.length=c.aa.length):∃r,aO (my b c) 0=some r∧(match r with | .inl _=>b.aa=c.aa | .inr x=>x=false∧b.aa≠c.aa):=by
 refine cP (I:=fun i s=>s=(i:Int)∧b.aa.take i=c.aa.take i) b.aa.length _ ⟨rfl,by simp⟩ (ku hf) ?_
 unfold Fit at hf
 rintro i s hi ⟨rfl,he⟩
 simp only[my]
 by_cases hlt:i<b.aa.length
 ·rw[if_pos (by simpa using hlt),cy hlt,agi,cy (by omega),agi]
  by_cases hx:b.aa[i]=c.aa[i]
  ·left
   rw[if_neg (by simpa using hx)]
   refine⟨hlt,_,rfl,by rw[j0 (by omega)];omega,?_⟩
   rw[List.take_add_one,List.take_add_one,he]
   simp[hlt,show i<c.aa.length by omega,hx]
  ·right
   rw[if_pos (by simpa using hx)]
   refine⟨.inr false,rfl,rfl,fun h=>hx ?_⟩
   simp[h]
 ·right
  have:i=b.aa.length:=by omega
  subst this
  refine⟨.inl (),by rw[if_neg (by simp)],?_⟩
  rw[agO,af6 (by omega)]at he
  exact he
theorem TN {b c:aq} (hf:Fit b.aa):iL b c=some (decide (b=c)):=by
 have hiff:b=c↔b.ah=c.ah∧b.aa=c.aa:=by cases b;cases c;simp
 unfold iL
 by_cases h1:b.ah=c.ah
 ·rw[if_neg (by simpa using h1),agi]
  by_cases h2:b.aa.length=c.aa.length
  ·rw[if_neg (by simp;omega)]
   obtain⟨r,h3,h4⟩:=Vv hf h2
   rw[h3,agi]
   cases r with
   | inl u=>simp only at h4 ⊢;simp[hiff,h1,h4]
   | inr x=>simp only at h4 ⊢;simp[hiff,h1,h4.1,h4.2]
  ·rw[if_pos (by simp;omega)]
   have:b≠c:=fun h=>h2 (by rw[h])
   simp[this]
 ·rw[if_pos (by simpa using h1),agi,if_pos rfl]
  have:b≠c:=fun h=>h1 (by rw[h])
  simp[this]
theorem ac0 {f g:al} (hp:Fit f.aJ.aa) (hq:Fit f.aL.aa):mw f g=some (decide (f=g)):=by
 have hiff:f=g↔f.aJ=g.aJ∧f.aL=g.aL:=by cases f;cases g;simp
 unfold mw
 rw[TN hp,agi]
 by_cases h:f.aJ=g.aJ
 ·rw[if_pos (by simpa using h),TN hq,agi];simp[hiff,h]
 ·rw[if_neg (by simpa using h)];simp[hiff,h]
theorem acC (f:al) (n:Int):qA f n=some (decide ((f.aJ.aa.length:Int)<=n∧(f.aL.aa.length:Int)<=n)):=by
 unfold qA
 by_cases h:(f.aJ.aa.length:Int)<=n
 ·rw[if_pos (by simpa using h)];simp[h]
 ·rw[if_neg (by simpa using h)];simp[h]
theorem Xw {σ ρ:Type} {body:σ->Option (σ⊕ρ)} {n:Nat} {s s':σ} (h:body s=some (.inl s')):oe body (n+1) s=oe body n s':=by simp only[oe,h]
theorem DU {σ ρ:Type} {body:σ->Option (σ⊕ρ)} {n:Nat} {s:σ} {r:ρ} (h:body s=some (.inr r)):oe body (n+1) s=some r:=by simp only[oe,h]
theorem bX {i:Nat} (h:i<4611686018427387904):IntKind.i64.wrap ((i:Int)+1)=((i+1:Nat):Int):=by rw[wrap64 (by omega) (by omega)];omega
theorem bG {α:Type} {l:List α} {i:Nat} {x:α} (h:l[i]? = some x):P.idx l (i:Int)=some x:=M5 (by omega) (by simpa using h)
theorem bW {α:Type} {l:List α} {i:Nat} {x:α} (h:l[i]? = some x):i<l.length:=(afh.1 h).1
theorem drop_cons {α:Type} {l rest:List α} {i:Nat} {x:α} (h:l.drop i=x::rest):i<l.length∧l[i]? = some x∧l.drop (i+1)=rest:=by
 have hi:i<l.length:=by
  rcases afz i l.length with h1|h1
  ·exact h1
  ·rw[agx h1]at h;cases h
 rw[agI hi]at h
 simp only[afc]at h
 exact⟨hi,by rw[ae1 hi,h.1],h.2⟩
def fl {α ρ:Type} (st:Nat->α->Option ρ):Nat->List α->Option ρ
 | _,[]=>none
 | i,x::l=>match st i x with|some r=>some r|none=>fl st (i+1) l
theorem gK {α ρ:Type} {st:Nat->α->Option ρ} : ∀ {l:List α} {i:Nat},fl st i l=none↔∀(j:Nat) x,l[j]? = some x->st (i+j) x=none
 | [],i=>by simp[fl]
 | x::l,i=>by
  simp only[fl]
  constructor
  ·intro h j y hj
   cases hs:st i x with
   | some r=>rw[hs]at h;cases h
   | none =>
    rw[hs]at h
    cases j with
    | zero=>simp only[List.getElem?_cons_zero,aeX]at hj;subst hj;exact hs
    | succ j =>
     have:=gK.1 h j y (by simpa using hj)
     rw[<- this];congr 1;omega
  ·intro h
   have h0:=h 0 x rfl
   simp only[Nat.add_zero]at h0
   rw[h0]
   refine gK.2 fun j y hj =>?_
   have:=h (j+1) y (by simpa using hj)
   rw[<- this];congr 1;omega
theorem iG {α ρ:Type} {st:Nat->α->Option ρ} {r:ρ} : ∀ {l:List α} {i:Nat},fl st i l=some r->∃(j:Nat) (x:α),l[j]? = some x∧st (i+j) x=some r∧∀(k:Nat) y,k<j->l[k]? = some y->st (i+k) y=none
 | [],i,h=>by cases h
 | x::l,i,h=>by
  simp only[fl]at h
  cases hs:st i x with
  | some r' =>
   rw[hs]at h
   exact⟨0,x,rfl,by rw[afn,hs];exact h,fun k y hk=>by omega⟩
  | none =>
   rw[hs]at h
   obtain⟨j,y,h1,h2,h3⟩:=iG h
   refine⟨j+1,y,by simpa using h1,by rw[<- h2];congr 1;omega,fun k z hk hz =>?_⟩
   cases k with
   | zero=>simp only[List.getElem?_cons_zero,aeX]at hz;subst hz;exact hs
   | succ k =>
    have:=h3 k z (by omega) (by simpa using hz)
    rw[<- this];congr 1;omega
theorem y9 {α ρ:Type} (l:List α) {body:Int->Option (Int⊕(Unit⊕ρ))} (st:Nat->α->Option ρ) (hlen:l.length<4611686018427387904)
  (hb:∀(i:Nat) x,l[i]? = some x->body (i:Int)=some (match st i x with|none =>.inl ((i+1:Nat):Int)|some r =>.inr (.inr r))) (he:body (l.length:Int)=some (.inr (.inl ()))) :
  aO body 0=some (match fl st 0 l with|none =>.inl ()|some r =>.inr r):=by
 have key:∀(rest:List α) (i fuel:Nat),i<=l.length->l.drop i=rest->rest.length<fuel->oe body fuel (i:Int)=some (match fl st i rest with|none =>.inl ()|some r =>.inr r):=by
  intro rest
  induction rest with
  | nil =>
   intro i fuel hi hd hf
   obtain⟨f,rfl⟩:∃f,fuel=f+1:=⟨fuel-1,by simp at hf;omega⟩
   have hle:l.length<=i:=by
    have:=congrArg List.length hd
    simp at this
    omega
   have:i=l.length:=by omega
   subst this
   rw[DU he]
   rfl
  | cons x rest ih =>
   intro i fuel hi hd hf
   obtain⟨f,rfl⟩:∃f,fuel=f+1:=⟨fuel-1,by simp at hf;omega⟩
   obtain⟨h1,h2,h3⟩:=drop_cons hd
   have:=hb i x h2
   cases hs:st i x with
   | some r =>
    rw[hs]at this
    rw[DU this]
    simp only[fl,hs]
   | none =>
    rw[hs]at this
    rw[Xw this,ih (i+1) f h1 h3 (by simp at hf;omega)]
    simp only[fl,hs]
 exact key l 0 FU (aeP _) rfl (by have:FU=1000000000000000000000000:=rfl;omega)
theorem yo {α σ ρ:Type} {body:Int×σ->Option ((Int×σ)⊕ρ)} (l:List α) (hl:l.length<=17592186044416) (inv:Nat->σ->Prop) (Q:ρ->Prop) {s0:σ} (h0:inv 0 s0)
  (hstep:∀(i:Nat) x s,l[i]? = some x->inv i s->∃s',body ((i:Int),s)=some (.inl (((i+1:Nat):Int),s'))∧inv (i+1) s')
  (hend:∀s,inv l.length s->∃r,body ((l.length:Int),s)=some (.inr r)∧Q r):∃r,aO body ((0:Int),s0)=some r∧Q r:=by
 refine cP (fun i s=>s.1=(i:Int)∧inv i s.2) l.length Q ⟨rfl,h0⟩ (ku hl) ?_
 rintro i ⟨k,s⟩ hi ⟨rfl,hI⟩
 rcases afz i l.length with h|h
 ·obtain⟨s',h1,h2⟩:=hstep i _ s (ae1 h) hI
  exact .inl ⟨h,_,h1,rfl,h2⟩
 ·have:i=l.length:=by omega
  subst this
  exact .inr (hend s hI)
theorem bK {α:Type} {N j:Nat} (f:Nat->α) (h:j<N):((List.range N).map f)[j]? = some (f j):=by simp[h]
theorem Ag {α:Type} {N:Nat} (f:Nat->α):((List.range N).map f).length=N:=by simp
theorem eM {α:Type} {l:List α} {N:Nat} {f:Nat->α} (hl:l.length=N) (h:∀j,j<N->l[j]? = some (f j)):l=(List.range N).map f:=by
 apply agP
 intro j
 by_cases hj:j<N
 ·rw[h j hj,bK f hj]
 ·rw[agk (by omega),agk (by simp;omega)]
theorem fQ {α:Type} {N i:Nat} (f:Nat->α) (v:α):((List.range N).map f).set i v=(List.range N).map fun j=>if j=i then v else f j:=by
 refine eM (by simp) fun j hj =>?_
 rw[List.getElem?_set]
 by_cases h:i=j
 ·subst h
  rw[if_pos rfl,if_pos (by simpa using hj)]
  simp
 ·rw[if_neg h,bK f hj,if_neg (fun e=>h e.symm)]
theorem xt {α β:Type} {mk:β->α} {R:β->Prop} : ∀ {l:List α},(∀x∈l,∃y,x=mk y∧R y)->∃ys:List β,l=ys.map mk∧∀y∈ys,R y
 | [],_=>⟨[],rfl,fun _ h=>by cases h⟩
 | x::l,h=>by
  obtain⟨y,h1,h2⟩:=h x (agd ..)
  obtain⟨ys,h3,h4⟩:=xt (l:=l) fun z hz=>h z (age _ hz)
  refine⟨y::ys,by rw[aeU,<- h1,<- h3],fun z hz =>?_⟩
  rcases aeV.1 hz with rfl|hz
  ·exact h2
  ·exact h4 z hz
theorem Kf {α:Type} {R:α->α->Prop} (ht:∀a b c,R a b->R b c->R a c) {l:List α} (h:∀(i:Nat) a b,l[i]? = some a->l[i+1]? = some b->R a b):l.Pairwise R:=by
 rw[List.pairwise_iff_getElem]
 intro i j hi hj hij
 obtain⟨d,rfl⟩:∃d,j=i+1+d:=⟨j-(i+1),by omega⟩
 clear hij
 induction d with
 | zero=>exact h i _ _ (ae1 hi) (ae1 hj)
 | succ d ih=>exact ht _ _ _ (ih (by omega)) (h (i+1+d) _ _ (ae1 (by omega)) (ae1 hj))
abbrev Tk:=Nat×Nat×Rat
def uH (t:Tk):fa:=fa.mk (t.1:Int) (t.2.1:Int) (bL t.2.2)
def lN (N:Nat) (tk:List Tk):de:=de.mk (N:Int) (tk.map uH)
theorem ZT {a b:Tk} (h:uH a=uH b):a=b:=by
 unfold uH at h
 injection h with h1 h2 h3
 exact Prod.ext (by omega) (Prod.ext (by omega) (vT h3))
theorem Ts {N M:Nat} {a b:List Tk} (h:lN N a=lN M b):N=M∧a=b:=by
 unfold lN at h
 injection h with h1 h2
 refine⟨by omega,?_⟩
 exact List.map_inj_right (f:=uH) (fun x y h=>ZT h) |>.1 h2
def tH:List Tk->Nat->Rat
 | [],_=>0
 | t::l,p=>(if t.1=p then t.2.2 else 0)+tH l p
theorem OE (a b:List Tk) (p:Nat):tH (a++b) p=tH a p+tH b p:=by
 induction a with
 | nil=>rw[agu,tH,Rat.zero_add]
 | cons t a ih=>rw[agE,tH,tH,ih];grind
def dX (tk:List Tk) (p:Nat):Rat:=1-tH tk p
theorem DY {tk:List Tk} {i:Nat} {t:Tk} (h:tk[i]? = some t) (p:Nat):dX (tk.take (i+1)) p=dX (tk.take i) p-(if t.1=p then t.2.2 else 0):=by
 obtain⟨hi,he⟩:=afh.1 h
 unfold dX
 rw[ahi hi,OE,he]
 simp only[tH]
 grind
theorem Jc {tk:List Tk} {K:Nat} (hs:∀t∈tk,LF t.2.2<=K) (p:Nat):∀i,i<=tk.length->LF (dX (tk.take i) p)<=1+i*(K+1)
 | 0,_=>by
  have:dX (tk.take 0) p=((1:Int):Rat):=by unfold dX;rw[agJ,tH];grind
  rw[this]
  exact aeQ (Cf (n:=1) (by decide)) (by omega)
 | i+1,h=>by
  have ih:=Jc hs p i (by omega)
  have hg:tk[i]? = some tk[i]:=ae1 (by omega)
  rw[DY hg]
  have hk:=hs _ (ae0 (show i<tk.length by omega))
  rw[afJ]
  split
  ·have:=zE (dX (tk.take i) p) tk[i].2.2
   omega
  ·rw[show ∀x:Rat,x-0=x by intro x;grind]
   omega
theorem KO {tk:List Tk} {K:Nat} (hs:∀t∈tk,LF t.2.2<=K) (p:Nat):LF (dX tk p)<=1+tk.length*(K+1):=by
 have:=Jc hs p tk.length (aeO _)
 rwa [agO]at this
theorem Eb {α:Type} {N B:Nat} (z:α) (h:N*B<=140737488355328) (h2:N<=2000):B1 B (N:Int) (N:Int) z=some (List.replicate N z):=by
 unfold B1
 have:(2000:Nat)<=maxLen:=by decide
 rw[if_pos ⟨by omega,by omega,by omega,by simpa using h⟩]
 simp
theorem abJ:fw 1=some (bL 1):=RU (n:=1) (by decide)
theorem Ns {N K:Nat} {tk:List Tk} (hN:N<=2000) (hlen:tk.length<=8000) (hf:∀t∈tk,t.1<N) (hK:K<=1000000) (hs:∀t∈tk,LF t.2.2<=K) :
  lC (lN N tk)=some ((List.range N).map fun p=>bL (dX tk p)):=by
 unfold lC lN
 simp only
 rw[Eb _ (by omega) hN,agi]
 have h1:∃r,aO (mi (List.replicate N (al.mk (aq.mk 0 []) (aq.mk 0 [])))) ((0:Int),List.replicate N (al.mk (aq.mk 0 []) (aq.mk 0 [])))=some r∧r=(List.range N).map fun p=>bL (dX (tk.take 0) p):=by
  refine yo (List.replicate N (al.mk (aq.mk 0 []) (aq.mk 0 []))) (by simp;omega) (fun i l=>l.length=N∧∀j,j<i->l[j]? = some (bL 1)) _ ⟨by simp,fun j hj=>by omega⟩ ?_ ?_
  ·rintro i x l hx ⟨hl,hI⟩
   have hi:i<N:=by have:=bW hx;simpa using this
   have hg:l[i]? = some l[i]:=ae1 (by omega)
   refine⟨l.set i (bL 1),?_,by simpa using hl,fun j hj =>?_⟩
   ·simp only[mi]
    rw[if_pos (by simp;omega),abJ,agi,bG hg,agi,bX (by omega),afM]
   ·rw[List.getElem?_set]
    by_cases h:i=j
    ·rw[if_pos h,if_pos (by omega)]
    ·rw[if_neg h];exact hI j (by omega)
  ·rintro l ⟨hl,hI⟩
   refine⟨l,?_,?_⟩
   ·simp only[mi];rw[if_neg (by simp)]
   ·rw[List.length_replicate]at hI
    refine eM hl fun j hj =>?_
    rw[hI j hj,agJ]
    congr 2
    unfold dX tH;grind
 obtain⟨r,h1,rfl⟩:=h1
 rw[h1,agi]
 have h2:∃r,aO (mj (de.mk (N:Int) (tk.map uH))) ((0:Int),(List.range N).map fun p=>bL (dX (tk.take 0) p))=some r∧r=(List.range N).map fun p=>bL (dX tk p):=by
  refine yo tk (by omega) (fun i l=>l=(List.range N).map fun p=>bL (dX (tk.take i) p)) _ rfl ?_ ?_
  ·rintro i t _ ht rfl
   have hi:=bW ht
   have hm:=afg ht
   have hfr:=hf t hm
   have hg:(tk.map uH)[i]? = some (uH t):=by rw[aeL,ht];rfl
   refine⟨_,?_,rfl⟩
   simp only[mj]
   have hLF:=Jc hs t.1 i (by omega)
   have hkt:=hs t hm
   have hmul:i*(K+1)<=8000*1000001:=ahj (by omega) (by omega)
   rw[if_pos (by simp;omega),bG hg,agi]
   simp only[uH]
   rw[bG (bK _ hfr),agi,R1 (by unfold eF;omega),agi,bX (by omega),afM,fQ]
   congr 3
   refine congrArg (fun f=>(List.range N).map f) (funext fun p =>?_)
   rw[DY ht]
   by_cases h:p=t.1
   ·subst h;rw[if_pos rfl,if_pos rfl]
   ·rw[if_neg h,if_neg (fun e=>h e.symm)]
    congr 1;grind
  ·rintro _ rfl
   refine⟨_,?_,rfl⟩
   simp only[mj]
   rw[if_neg (by simp),agO]
 obtain⟨r,h2,rfl⟩:=h2
 rw[h2,agi]
def Zf (a b:Tk):Prop:=a.1<b.1∨(a.1=b.1∧a.2.1<b.2.1)
theorem U1 (a b c:Tk) (h:Zf a b) (k:Zf b c):Zf a c:=by unfold Zf at *;omega
structure jI (N:Nat) (tk:List Tk):Prop where
 ports:N<=2000
 takes:tk.length<=8000
 ok:∀t∈tk,t.1<N∧t.2.1<N∧0<t.2.2
 sorted:tk.Pairwise Zf
 leak:∀p,p<N->0<=dX tk p
theorem Ar (a b c:Int):gU a b c=some (decide (b<=a∧a<=c)):=by
 unfold gU
 by_cases h1:a>=b<;>by_cases h2:a<=c<;>simp[h1,h2]
theorem Us (a b:fa):∃c,lh a b=some c∧(c<0↔(a.dq<b.dq∨(a.dq=b.dq∧a.lJ<b.lJ))):=by
 unfold lh
 rw[CV,agi,CV,agi,aat,agi]
 refine⟨_,rfl,?_⟩
 unfold n5
 split<;>split<;>(try split)<;>(try split)<;>simp at *<;>omega
theorem B5 {q:Rat} : q.num.sign<0↔q<0:=by
 rw[Int.sign_neg_iff,<- Rat.not_le,<- Rat.num_nonneg]
 omega
theorem O1 {q:Rat} : q.num.sign=0↔q=0:=by
 rw[Int.sign_eq_zero_iff_zero,Rat.num_eq_zero]
theorem B6 {q:Rat} : 0<q.num.sign↔0<q:=by
 constructor
 ·intro h
  have h1:¬q<0:=fun h'=>by have:=B5.2 h';omega
  have h2:q≠0:=fun h'=>by have:=O1.2 h';omega
  grind
 ·intro h
  have h1:¬q.num.sign<0:=fun h'=>by have:=B5.1 h';grind
  have h2:q.num.sign≠0:=fun h'=>by have:=O1.1 h';grind
  omega
theorem BV {q:Rat} {k:Nat} (h1:(bL q).aJ.aa.length<=k) (h2:(bL q).aL.aa.length<=k):LF q<=k:=by
 unfold LF Ln
 exact Nat.max_le.2 ⟨h1,h2⟩
theorem BY {q:Rat} {k:Nat} (h:LF q<=k):(bL q).aJ.aa.length<=k∧(bL q).aL.aa.length<=k:=by
 unfold LF Ln at h
 exact Nat.max_le.1 h
theorem CX {l:List Rat} (hl:l.length<=17592186044416) (hs:∀q∈l,LF q<=eF):bt (l.map bL)=some (decide (∃q∈l,q<0)):=by
 unfold bt b7
 rw[y9 l (fun i q=>if q<0 then some (i:Int) else none) (by omega) (fun i q hq =>?_) (by simp only[cW];rw[if_neg (by simp)])]
 ·rw[agi]
  cases hf:fl (fun i (q:Rat)=>if q<0 then some (i:Int) else none) 0 l with
  | none =>
   simp only
   rw[agi,decide_eq_false (by decide),decide_eq_false]
   rintro⟨q,hq,hn⟩
   obtain⟨j,hj⟩:=afa hq
   have:=gK.1 hf j q hj
   rw[if_pos hn]at this
   cases this
  | some r =>
   obtain⟨j,q,h1,h2,_⟩:=iG hf
   by_cases hn:q<0
   ·rw[if_pos hn]at h2
    cases h2
    simp only
    rw[agi,decide_eq_true (by omega),decide_eq_true ⟨q,afg h1,hn⟩]
   ·rw[if_neg hn]at h2;cases h2
 ·have hi:=bW hq
  simp only[cW,lB]
  rw[if_pos (by simp;omega),bG (x:=bL q) (by rw[aeL,hq];rfl),agi,Jd (hs q (afg hq)),agi,agi]
  by_cases hn:q<0
  ·rw[decide_eq_true (B5.2 hn),if_pos hn];rfl
  ·rw[decide_eq_false (fun h=>hn (B5.1 h)),if_neg hn,bX (by omega)];rfl
def Vo (N:Nat) (x:fa):Bool:=decide (0<=x.dq∧x.dq<=(N:Int)-1)&&decide (0<=x.lJ∧x.lJ<=(N:Int)-1)&&okF x.bR&&decide (0<x.bR.aJ.ah)
def Ur (a b:fa):Prop:=a.dq<b.dq∨(a.dq=b.dq∧a.lJ<b.lJ)
instance (a b:fa):Decidable (Ur a b):=by unfold Ur;infer_instance
def DM (N:Nat) (l:List fa) (i:Nat) (x:fa):Bool:=Vo N x&&(decide (i=0)||(match l[i-1]? with|some y=>decide (Ur y x)|none=>false))
theorem Ot {N:Nat} {x:fa} : Vo N x=true↔∃t:Tk,x=uH t∧t.1<N∧t.2.1<N∧0<t.2.2:=by
 unfold Vo
 simp only[afp,decide_eq_true_eq]
 constructor
 ·rintro⟨⟨⟨h1,h2⟩,h3⟩,h4⟩
  obtain⟨q,hq⟩:=B2.1 h3
  refine⟨(x.dq.toNat,x.lJ.toNat,q),?_,by simp only;omega,by simp only;omega,?_⟩
  ·unfold uH
   cases x
   simp only at *
   rw[<- hq,Int.toNat_of_nonneg h1.1,Int.toNat_of_nonneg h2.1]
  ·rw[hq]at h4
   exact B6.1 h4
 ·rintro⟨t,rfl,h1,h2,h3⟩
  exact⟨⟨⟨by simp only[uH];omega,by simp only[uH];omega⟩,QW _⟩,B6.2 h3⟩
theorem Sl {a b:Tk} : Ur (uH a) (uH b)↔Zf a b:=by
 unfold Ur Zf uH
 simp only
 omega
theorem Iu {n:de} {K:Nat} (hK:K<=1000000) (hs:∀t∈n.aw,t.bR.aJ.aa.length<=K∧t.bR.aL.aa.length<=K) :
  ∃b,lA n=some b∧(b=true↔∃N tk,n=lN N tk∧jI N tk):=by
 unfold lA
 rw[Ar,agi]
 by_cases hN:0<=n.aG∧n.aG<=2000
 rotate_left
 ·rw[decide_eq_false hN]
  refine⟨false,by simp,?_⟩
  simp only[afo,false_iff]
  rintro⟨N,tk,rfl,h⟩
  have:=h.ports
  simp only[lN]at hN
  omega
 rw[decide_eq_true hN]
 simp only[af8,afo,if_false,Option.bind_some]
 by_cases hL:(n.aw.length:Int)>8000
 ·rw[decide_eq_true hL]
  refine⟨false,by simp,?_⟩
  simp only[afo,false_iff]
  rintro⟨N,tk,rfl,h⟩
  have:=h.takes
  simp only[lN,afi]at hL
  omega
 rw[decide_eq_false hL]
 simp only[afo,if_false]
 obtain⟨N,hNe⟩:∃N:Nat,n.aG=(N:Int):=⟨n.aG.toNat,by omega⟩
 have hwr:IntKind.i64.wrap (n.aG-1)=(N:Int)-1:=by rw[hNe,wrap64 (by omega) (by omega)]
 have hK2:K<=rM:=aeQ hK (by unfold rM;omega)
 have hscan:=y9 n.aw (body:=mh n) (fun i x=>if DM N n.aw i x=true then none else some false) (by omega) (fun i x hx=>by
  have hi:=bW hx
  obtain⟨hs1,hs2⟩:=hs x (afg hx)
  simp only[mh]
  rw[if_pos (by simp;omega),bG hx,agi,Ar,agi,hwr]
  have hcond:(if (!decide (0<=x.dq∧x.dq<=(N:Int)-1))=true then some true
   else (gU x.lJ 0 ((N:Int)-1)).bind fun r30 =>
    if (!r30)=true then some true
    else (bZ x.bR).bind fun r32=>if (!r32)=true then some true else (gD x.bR).bind fun r34=>some (decide (r34<=0)))=some (!Vo N x):=by
   unfold Vo
   by_cases c1:0<=x.dq∧x.dq<=(N:Int)-1
   rotate_left
   ·rw[decide_eq_false c1];simp
   rw[decide_eq_true c1,Ar,agi]
   by_cases c2:0<=x.lJ∧x.lJ<=(N:Int)-1
   rotate_left
   ·rw[decide_eq_false c2];simp
   rw[decide_eq_true c2,Cp ⟨by omega,by omega⟩,agi]
   cases hq:okF x.bR with
   | false=>simp
   | true =>
    obtain⟨q,hq⟩:=B2.1 hq
    rw[hq]at hs1 hs2 ⊢
    have hLF:=BV hs1 hs2
    rw[Jd (by unfold eF;omega),agi]
    have:(bL q).aJ.ah=q.num.sign:=rfl
    rw[this]
    by_cases c3:q.num.sign<=0
    ·rw[decide_eq_true c3,decide_eq_false (show ¬0<q.num.sign by omega)];simp
    ·rw[decide_eq_false c3,decide_eq_true (show 0<q.num.sign by omega)];simp
  rw[hcond,agi]
  unfold DM
  cases hok:Vo N x with
  | false=>simp
  | true =>
   simp only[af8,afo,if_false,af9]
   cases i with
   | zero=>rw[if_neg (by simp),bX (by omega)];simp
   | succ i =>
    rw[if_pos (by simp)]
    have hg:n.aw[i]? = some n.aw[i]:=ae1 (by omega)
    have e1:IntKind.i64.wrap (((i+1:Nat):Int)-1)=(i:Int):=by rw[wrap64 (by omega) (by omega)];omega
    obtain⟨c,hc1,hc2⟩:=Us n.aw[i] x
    rw[e1,bG hg,agi,hc1,agi,agy,hg]
    simp only[Nat.add_eq_zero_iff,Nat.one_ne_zero,and_false,decide_false,Bool.false_or]
    by_cases hb:Ur n.aw[i] x
    ·rw[if_neg (by simp;exact hc2.2 hb),decide_eq_true hb,bX (by omega)];rfl
    ·rw[if_pos (by simp only[decide_eq_true_eq];have:¬c<0:=fun h=>hb (hc2.1 h);omega),decide_eq_false hb];rfl) (by
  unfold mh
  rw[if_neg (by simp)])
 rw[hscan,agi]
 cases hfs:fl (fun i x=>if DM N n.aw i x=true then none else some false) 0 n.aw with
 | some r =>
  obtain⟨j,x,h1,h2,_⟩:=iG hfs
  simp only[afB]at h2
  split at h2
  ·cases h2
  rename_i hbad
  cases h2
  refine⟨false,rfl,?_⟩
  simp only[afo,false_iff]
  rintro⟨M,tk,rfl,hR⟩
  apply hbad
  simp only[lN]at h1 hNe ⊢
  obtain rfl:M=N:=by omega
  rw[aeL,aeM]at h1
  obtain⟨t,ht,rfl⟩:=h1
  have hm:=afg ht
  unfold DM
  rw[Ot.2 ⟨t,rfl,hR.ok t hm⟩,af9]
  cases j with
  | zero=>simp
  | succ j =>
   have hjl:=bW ht
   have hg:tk[j]? = some tk[j]:=ae1 (by omega)
   rw[agy,aeL,hg]
   simp only[Option.map_some]
   rw[decide_eq_true (Sl.2 ?_),Bool.or_true]
   have:=List.pairwise_iff_getElem.1 hR.sorted j (j+1) (by omega) hjl (by omega)
   rwa [(afh.1 ht).2]at this
 | none =>
  have hall:=gK.1 hfs
  simp only[afB]at hall
  have hgood:∀(j:Nat) x,n.aw[j]? = some x->DM N n.aw j x=true:=fun j x hj=>by
   have:=hall j x hj
   split at this
   ·assumption
   ·cases this
  obtain⟨tk,htk,htk2⟩:=xt (mk:=uH) (R:=fun t=>t.1<N∧t.2.1<N∧0<t.2.2) (l:=n.aw) fun x hx=>by
   obtain⟨j,hj⟩:=afa hx
   have:=hgood j x hj
   unfold DM at this
   rw[afp]at this
   exact Ot.1 this.1
  have hn:n=lN N tk:=by
   unfold lN
   rw[<- hNe,<- htk]
  have hsort:tk.Pairwise Zf:=Kf U1 fun i a b ha hb=>by
   have:=hgood (i+1) (uH b) (by rw[htk,aeL,hb];rfl)
   unfold DM at this
   rw[afp,agy,htk,aeL,ha]at this
   simpa [Sl] using this.2
  have hLF:∀t∈tk,LF t.2.2<=K:=fun t ht=>by
   have:=hs (uH t) (by rw[htk];exact List.mem_map_of_mem ht)
   exact BV this.1 this.2
  have hlen:tk.length<=8000:=by
   have:=congrArg List.length htk
   rw[afi]at this
   omega
  have hN2:N<=2000:=by omega
  simp only
  rw[hn,Ns hN2 hlen (fun t ht=>(htk2 t ht).1) hK hLF,agi]
  have hmap:((List.range N).map fun p=>bL (dX tk p))=((List.range N).map fun p=>dX tk p).map bL:=by rw[List.map_map];rfl
  rw[hmap,CX (by simp;omega) (fun q hq=>by
   obtain⟨p,_,rfl⟩:=aeN.1 hq
   have:=KO hLF p
   have h2:tk.length*(K+1)<=8000*1000001:=ahj hlen (by omega)
   unfold eF;omega),agi]
  refine⟨_,rfl,?_⟩
  simp only[afq,decide_eq_false_iff_not]
  constructor
  ·intro hno
   refine⟨N,tk,rfl,⟨hN2,hlen,htk2,hsort,fun p hp =>?_⟩⟩
   by_cases h0:dX tk p<0
   ·exact absurd ⟨_,aeN.2 ⟨p,agq.2 hp,rfl⟩,h0⟩ hno
   ·grind
  ·rintro⟨M,tk',he,hR⟩ ⟨q,hq,hneg⟩
   obtain⟨rfl,rfl⟩:=Ts he
   obtain⟨p,hp,rfl⟩:=aeN.1 hq
   have:=hR.leak p (agq.1 hp)
   grind
theorem yH:∀(N:Nat) (l:List Nat),l.Nodup->(∀x∈l,x<N)->l.length<=N
 | 0,l,_,h=>by
  cases l with
  | nil=>simp
  | cons x l=>exact absurd (h x (agd ..)) (by omega)
 | N+1,l,hn,h=>by
  have h1:=yH N (l.erase N) (hn.erase N) fun x hx=>by
   have h2:=h x (List.mem_of_mem_erase hx)
   have h3:x≠N:=fun e=>by subst e;exact (List.Nodup.mem_erase_iff hn).1 hx |>.1 rfl
   omega
  rw[List.length_erase]at h1
  split at h1<;>omega
def kb (l:List Nat):List Int:=l.map fun (p:Nat)=>(p:Int)
theorem XO {l:List Nat} {i p:Nat} (h:l[i]? = some p):(kb l)[i]? = some (p:Int):=by unfold kb;rw[aeL,h];rfl
theorem nN (l:List Nat):(kb l).length=l.length:=afi ..
def kF (tk:List Tk) (p:Nat):List Nat:=(tk.filter fun t=>decide (t.2.1=p)).map fun t=>t.1
theorem HJ {tk:List Tk} {p q:Nat} : q∈kF tk p↔∃t∈tk,t.1=q∧t.2.1=p:=by
 unfold kF
 simp only[aeN,agm,decide_eq_true_eq]
 constructor
 ·rintro⟨t,⟨h1,h2⟩,h3⟩;exact⟨t,h1,h3,h2⟩
 ·rintro⟨t,h1,h3,h2⟩;exact⟨t,⟨h1,h2⟩,h3⟩
theorem Gj (tk:List Tk) (p:Nat):(kF tk p).length<=tk.length:=by
 unfold kF
 rw[afi]
 exact ahk ..
theorem PS {tk:List Tk} {i:Nat} {t:Tk} (h:tk[i]? = some t) (p:Nat):kF (tk.take (i+1)) p=if t.2.1=p then kF (tk.take i) p++[t.1] else kF (tk.take i) p:=by
 obtain⟨hi,he⟩:=afh.1 h
 unfold kF
 rw[ahi hi,ahl,aga,he]
 by_cases hc:t.2.1=p
 ·rw[if_pos hc,ahm (by simpa using hc)];rfl
 ·rw[if_neg hc,ahn (by simpa using hc)];simp
structure mO (N:Nat) (tk:List Tk) (r:Nat->Int):Prop where
 ge:∀p,p<N -> -1<=r p
 zero:∀p,p<N->(r p=0↔0<dX tk p)
 down:∀p,p<N->0<r p->∃t∈tk,t.1=p∧r t.2.1=r p-1
 near:∀t∈tk,0<=r t.2.1->0<=r t.1∧r t.1<=r t.2.1+1
 le:∀p,p<N->r p<=2000
structure BF (N:Nat) (tk:List Tk) (r:Nat->Int) (D Q:List Nat) (h m:Int):Prop where
 nodup:(D++Q).Nodup
 lt:∀p∈D++Q,p<N
 rk:∀p,p<N->(0<=r p↔p∈D++Q)
 ge:∀p,p<N -> -1<=r p
 zero:∀p,p<N->(r p=0↔0<dX tk p)
 down:∀p,p<N->0<r p->∃t∈tk,t.1=p∧r t.2.1=r p-1
 near:∀t∈tk,t.2.1∈D->0<=r t.1∧r t.1<=r t.2.1+1
 mono:Q.Pairwise fun a b=>r a<=r b
 top:∀p∈D++Q,r p<=h+1
 low:∀q∈Q,h<=r q
 bnd:∀p,p<N->r p<=m
def VH (r:Nat->Int) (q:Nat) (v:Int):Nat->Int:=fun x=>if x=q then v else r x
theorem kn (r:Nat->Int) (q:Nat) (v:Int):VH r q v q=v:=if_pos rfl
theorem ia {r:Nat->Int} {q x:Nat} (v:Int) (h:x≠q):VH r q v x=r x:=if_neg h
theorem BF.pop {N:Nat} {tk:List Tk} {r:Nat->Int} {D Q:List Nat} {p:Nat} {h m:Int} (hB:BF N tk r D (p::Q) h m):BF N tk r D (p::Q) (r p) (m+1)∧0<=r p∧p<N∧r p<=m where
 left:={
  nodup:=hB.nodup,lt:=hB.lt,rk:=hB.rk,ge:=hB.ge,zero:=hB.zero,down:=hB.down,near:=hB.near,mono:=hB.mono
  top:=fun x hx=>by
   have h1:=hB.top x hx
   have h2:=hB.low p (agd ..)
   omega
  low:=fun q hq=>by
   rcases aeV.1 hq with rfl|hq
   ·exact Int.le_refl _
   ·exact (agn.1 hB.mono).1 q hq
  bnd:=fun x hx=>by have:=hB.bnd x hx;omega }
 right:=by
  have hm:p∈D++p::Q:=ae3 _ (agd ..)
  have hp:=hB.lt p hm
  exact⟨(hB.rk p hp).2 hm,hp,hB.bnd p hp⟩
theorem BF.push {N:Nat} {tk:List Tk} {r:Nat->Int} {D Q:List Nat} {p q:Nat} {m:Int} (hB:BF N tk r D (p::Q) (r p) m) (hp0:0<=r p) (hm:r p+1<=m) (hq:q<N) (hr:r q = -1) (ht:∃t∈tk,t.1=q∧t.2.1=p) :
  BF N tk (VH r q (r p+1)) D (p::(Q++[q])) (r p) m∧VH r q (r p+1) p=r p:=by
 have hqn:q∉D++p::Q:=fun h=>by have:=(hB.rk q hq).2 h;omega
 have hap:∀x,x∈D++p::(Q++[q])↔x∈D++p::Q∨x=q:=fun x=>by
  simp only[afV,aeV,aho,or_false]
  constructor
  ·rintro (h|h|h|h)<;>simp[h]
  ·rintro ((h|h|h)|h)<;>simp[h]
 have hne:∀x,x∈D++p::Q->x≠q:=fun x hx e=>hqn (e ▸ hx)
 have hpm:p∈D++p::Q:=ae3 _ (agd ..)
 have hpq:p≠q:=hne p hpm
 refine⟨?_,ia _ hpq⟩
 constructor
 ·have:D++p::(Q++[q])=(D++p::Q)++[q]:=by simp
  rw[this,List.nodup_append]
  refine⟨hB.nodup,by simp,fun a ha b hb =>?_⟩
  simp only[aeV,aho,or_false]at hb
  subst hb
  exact hne a ha
 ·intro x hx
  rcases (hap x).1 hx with h|rfl
  ·exact hB.lt x h
  ·exact hq
 ·intro x hx
  rw[hap]
  by_cases h:x=q
  ·subst h;rw[kn];exact⟨fun _ =>.inr rfl,fun _=>by omega⟩
  ·rw[ia _ h,hB.rk x hx];exact⟨.inl,fun k=>k.elim id fun e=>absurd e h⟩
 ·intro x hx
  by_cases h:x=q
  ·subst h;rw[kn];omega
  ·rw[ia _ h];exact hB.ge x hx
 ·intro x hx
  by_cases h:x=q
  ·subst h
   rw[kn]
   have:=hB.zero x hx
   constructor
   ·intro h;omega
   ·intro h;have:=this.2 h;omega
  ·rw[ia _ h];exact hB.zero x hx
 ·intro x hx h0
  by_cases h:x=q
  ·subst h
   obtain⟨t,h1,h2,h3⟩:=ht
   refine⟨t,h1,h2,?_⟩
   rw[h3,ia _ hpq,kn]
   omega
  ·rw[ia _ h]at h0 ⊢
   obtain⟨t,h1,h2,h3⟩:=hB.down x hx h0
   refine⟨t,h1,h2,?_⟩
   rw[ia _ (fun e=>by rw[e,hr]at h3;omega)]
   exact h3
 ·intro t ht' hD
  obtain⟨h1,h2⟩:=hB.near t ht' hD
  have e1:t.2.1≠q:=hne _ (ae2 _ hD)
  have e2:t.1≠q:=fun e=>by rw[e]at h1;omega
  rw[ia _ e1,ia _ e2]
  exact⟨h1,h2⟩
 ·have h1:=hB.mono
  have:p::(Q++[q])=(p::Q)++[q]:=by simp
  rw[this,ago]
  refine⟨h1.imp_of_mem fun {a b} ha hb h =>?_,by simp,fun a ha b hb =>?_⟩
  ·rw[ia _ (hne a (ae3 _ ha)),ia _ (hne b (ae3 _ hb))]
   exact h
  ·simp only[aeV,aho,or_false]at hb
   subst hb
   rw[ia _ (hne a (ae3 _ ha)),kn]
   exact hB.top a (ae3 _ ha)
 ·intro x hx
  rcases (hap x).1 hx with h|rfl
  ·rw[ia _ (hne x h)];exact hB.top x h
  ·rw[kn];exact Int.le_refl _
 ·intro x hx
  by_cases h:x=q
  ·subst h;rw[kn];omega
  ·rw[ia _ h]
   apply hB.low x
   simp only[aeV,afV,aho,or_false]at hx ⊢
   rcases hx with h1|h1|h1
   ·exact .inl h1
   ·exact .inr h1
   ·exact absurd h1 h
 ·intro x hx
  by_cases h:x=q
  ·subst h;rw[kn];exact hm
  ·rw[ia _ h];exact hB.bnd x hx
theorem BF.finish {N:Nat} {tk:List Tk} {r:Nat->Int} {D Q:List Nat} {p:Nat} {h m:Int} (hB:BF N tk r D (p::Q) h m) (hn:∀q∈kF tk p,0<=r q∧r q<=r p+1):BF N tk r (D++[p]) Q h m:=by
 have e:(D++[p])++Q=D++p::Q:=by simp
 exact {
  nodup:=by rw[e];exact hB.nodup
  lt:=by rw[e];exact hB.lt
  rk:=by rw[e];exact hB.rk
  ge:=hB.ge,zero:=hB.zero,down:=hB.down
  near:=fun t ht hD=>by
   rcases afV.1 hD with h1|h1
   ·exact hB.near t ht h1
   ·simp only[aeV,aho,or_false]at h1
    rw[h1]
    exact hn t.1 (HJ.2 ⟨t,ht,rfl,h1⟩)
  mono:=(agn.1 hB.mono).2
  top:=by rw[e];exact hB.top
  low:=fun q hq=>hB.low q (age _ hq)
  bnd:=hB.bnd }
theorem BF.acY {N:Nat} {tk:List Tk} {r:Nat->Int} {D:List Nat} {h m:Int} (hB:BF N tk r D [] h m) (ht:∀t∈tk,t.1<N∧t.2.1<N) (hm:m<=2000):mO N tk r where
 ge:=hB.ge
 zero:=hB.zero
 down:=hB.down
 near t h1 h2:=hB.near t h1 (by have:=(hB.rk t.2.1 (ht t h1).2).1 h2;simpa using this)
 le p hp:=by have:=hB.bnd p hp;omega
theorem Yg {α:Type} (a:α) (l:List α):BT (a::l) 1 ((a::l).length:Int)=some l:=by
 unfold BT
 rw[if_pos ⟨by omega,by simp;omega,by omega⟩]
 simp
variable {N:Nat} {tk:List Tk}
theorem Rd {r:Nat->Int} {D Q:List Nat} {p:Nat} {m:Int} (hB:BF N tk r D (p::Q) (r p) m) (hp:p<N) (hp0:0<=r p) (hm:r p+1<=m) (hm2:m<=2001) (htk:∀t∈tk,t.1<N∧t.2.1<N) (hlen:tk.length<=8000) (hN:N<=2000) :
  ∃r' Q',aO (kg (p:Int) (kb (kF tk p))) ((0:Int),(List.range N).map r,kb Q)=some ((List.range N).map r',kb Q')∧BF N tk r' (D++[p]) Q' (r p) m:=by
 have hbl:=Gj tk p
 have key:=fun hs he=>yo (body:=kg (p:Int) (kb (kF tk p))) (kF tk p) (by omega) (fun i (s:List Int×List Int)=>∃r' Q',s=((List.range N).map r',kb Q')∧BF N tk r' D (p::Q') (r p) m∧r' p=r p∧∀q∈(kF tk p).take i,0<=r' q∧r' q<=r p+1)
  (fun x=>∃r' Q',x=((List.range N).map r',kb Q')∧BF N tk r' (D++[p]) Q' (r p) m) (s0:=((List.range N).map r,kb Q)) ⟨r,Q,rfl,hB,rfl,fun q hq=>by simp at hq⟩ hs he
 refine (key ?_ ?_).elim fun x ⟨h1,r',Q',hx,h2⟩=>⟨r',Q',hx ▸ h1,h2⟩
 ·rintro i q _ hq ⟨r',Q',rfl,hB',hrp,hnear⟩
  have hi:=bW hq
  have hqm:=afg hq
  obtain⟨t,ht1,ht2,ht3⟩:=HJ.1 hqm
  have hqN:q<N:=by rw[<- ht2];exact (htk t ht1).1
  have htake:(kF tk p).take (i+1)=(kF tk p).take i++[q]:=by
   rw[ahi hi,(afh.1 hq).2]
  have hQl:Q'.length<=N:=by
   have h1:=yH N (D++p::Q') hB'.nodup hB'.lt
   simp only[afP,List.length_cons]at h1
   omega
  simp only[kg]
  rw[if_pos (by rw[nN];simp;omega),bG (XO hq),agi,bG (bK r' hqN),agi]
  by_cases hc:r' q = -1
  ·rw[if_pos (by rw[hc];rfl),bG (bK r' hp),agi,hrp,KV (by rw[nN];simp;omega),agi,bX (by omega),afM,fQ]
   have hw:IntKind.i64.wrap (r p+1)=r p+1:=wrap64 (by omega) (by omega)
   rw[hw]
   have hB2:=hB'
   rw[<- hrp]at hB2
   obtain⟨h1,h2⟩:=hB2.push (by omega) (by omega) hqN hc ⟨t,ht1,ht2,ht3⟩
   rw[hrp]at h1 h2
   refine⟨_,rfl,VH r' q (r p+1),Q'++[q],?_,h1,h2,fun x hx =>?_⟩
   ·unfold kb VH;simp
   ·rw[htake]at hx
    rcases afV.1 hx with hx|hx
    ·have:=hnear x hx
     by_cases hxq:x=q
     ·subst hxq;rw[hc]at this;omega
     ·rw[ia _ hxq];exact this
    ·simp only[aeV,aho,or_false]at hx
     subst hx
     rw[kn];omega
  ·rw[if_neg (by simpa using hc),bX (by omega)]
   refine⟨_,rfl,r',Q',rfl,hB',hrp,fun x hx =>?_⟩
   rw[htake]at hx
   rcases afV.1 hx with hx|hx
   ·exact hnear x hx
   ·simp only[aeV,aho,or_false]at hx
    subst hx
    have h0:0<=r' x:=by have:=hB'.ge x hqN;omega
    exact⟨h0,hB'.top x ((hB'.rk x hqN).1 h0)⟩
 ·rintro _ ⟨r',Q',rfl,hB',hrp,hnear⟩
  refine⟨_,?_,r',Q',rfl,hB'.finish fun q hq =>?_⟩
  ·simp only[kg]
   rw[if_neg (by rw[nN];simp)]
  ·rw[agO]at hnear
   rw[hrp]
   exact hnear q hq
theorem Re {r:Nat->Int} {Q:List Nat} (hB:BF N tk r [] Q 0 0) (htk:∀t∈tk,t.1<N∧t.2.1<N) (hlen:tk.length<=8000) (hN:N<=2000) :
  ∃r',aO (kf ((List.range N).map fun p=>kb (kF tk p))) ((List.range N).map r,kb Q)=some ((List.range N).map r')∧mO N tk r':=by
 have key:=fun hs=>cP (body:=kf ((List.range N).map fun p=>kb (kF tk p))) (fun i (s:List Int×List Int)=>∃r' D Q' h,s=((List.range N).map r',kb Q')∧D.length=i∧BF N tk r' D Q' h (i:Int)) N
  (fun x=>∃r',x=(List.range N).map r'∧mO N tk r') (s:=((List.range N).map r,kb Q)) ⟨r,[],Q,0,rfl,rfl,hB⟩ (ku (by omega)) hs
 refine (key ?_).elim fun x ⟨h1,r',hx,h2⟩=>⟨r',hx ▸ h1,h2⟩
 ·rintro i _ hi ⟨r',D,Q',h,rfl,hD,hB'⟩
  cases Q' with
  | nil =>
   refine .inr ⟨_,?_,r',rfl,hB'.acY htk (by omega)⟩
   simp only[kf,kb,afC]
   rw[if_neg (by simp)]
  | cons p Q' =>
   obtain⟨hB2,hp0,hp,hpm⟩:=hB'.pop
   have hiN:i<N:=by
    have h1:=yH N (D++p::Q') hB'.nodup hB'.lt
    simp only[afP,List.length_cons]at h1
    omega
   obtain⟨r2,Q2,h1,h2⟩:=Rd hB2 hp hp0 (by omega) (by omega) htk hlen hN
   refine .inl ⟨hiN,((List.range N).map r2,kb Q2),?_,r2,D++[p],Q2,r' p,rfl,by simp[hD],by simpa using h2⟩
   simp only[kf]
   have e1:kb (p::Q')=(p:Int)::kb Q':=rfl
   rw[e1,if_pos (by simp),idx_zero' ,agi,Yg,agi,bG (bK (fun p=>kb (kF tk p)) hp),agi,h1,agi]
where
 idx_zero':∀ {α:Type} {a:α} {l:List α},P.idx (a::l) 0=some a:=fun {_ a l}=>bG (l:=a::l) (i:=0) rfl
theorem Uq {L:Nat} (htk:∀t∈tk,t.1<N∧t.2.1<N) (hlen:tk.length<=8000) :
  aO (kd (lN N tk)) ((0:Int),List.replicate N ([]:List Int))=some ((List.range N).map fun p=>kb (kF tk p)):=by
 unfold lN
 have key:=fun hs he=>yo (body:=kd (de.mk (N:Int) (tk.map uH))) tk (by omega) (fun i l=>l=(List.range N).map fun p=>kb (kF (tk.take i) p)) (fun l=>l=(List.range N).map fun p=>kb (kF tk p)) (s0:=List.replicate N ([]:List Int))
  (eM (by simp) fun j hj=>by rw[ahp,if_pos hj,List.take_zero];rfl) hs he
 refine (key ?_ ?_).elim fun x ⟨h1,hx⟩=>hx ▸ h1
 ·rintro i t _ ht rfl
  have hi:=bW ht
  have hto:=(htk t (afg ht)).2
  have hg:(tk.map uH)[i]? = some (uH t):=by rw[aeL,ht];rfl
  have hbl:=Gj (tk.take i) t.2.1
  rw[ae7]at hbl
  refine⟨_,?_,rfl⟩
  simp only[kd]
  rw[if_pos (by simp;omega),bG hg,agi]
  simp only[uH]
  rw[bG (bK _ hto),agi,KV (by rw[nN];simp;omega),agi,bX (by omega),afM,fQ]
  congr 3
  refine congrArg (fun f=>(List.range N).map f) (funext fun p =>?_)
  rw[PS ht]
  by_cases h:p=t.2.1
  ·subst h;rw[if_pos rfl,if_pos rfl];unfold kb;simp
  ·rw[if_neg h,if_neg (fun e=>h e.symm)]
 ·rintro _ rfl
  refine⟨_,?_,rfl⟩
  simp only[kd]
  rw[if_neg (by simp),agO]
def Bm (tk:List Tk) (p:Nat):Int:=if 0<dX tk p then 0 else -1
def mv (tk:List Tk) (n:Nat):List Nat:=(List.range n).filter fun p=>decide (0<dX tk p)
theorem OK (tk:List Tk) (n:Nat):mv tk (n+1)=if 0<dX tk n then mv tk n++[n] else mv tk n:=by
 unfold mv
 rw[List.range_succ,ahl]
 by_cases h:0<dX tk n
 ·rw[if_pos h,ahm (by simpa using h)];rfl
 ·rw[if_neg h,ahn (by simpa using h)];simp
theorem UT {K:Nat} (hN:N<=2000) (hlen:tk.length<=8000) (hK:K<=1000000) (hs:∀t∈tk,LF t.2.2<=K) :
  aO (ke ((List.range N).map fun p=>bL (dX tk p))) ((0:Int),List.replicate N (0:Int),([]:List Int))=some ((List.range N).map (Bm tk),kb (mv tk N)):=by
 have key:=fun hs he=>yo (body:=ke ((List.range N).map fun p=>bL (dX tk p))) (List.range N) (by simp;omega) (fun i (s:List Int×List Int)=>s=((List.range N).map (fun p=>if p<i then Bm tk p else 0),kb (mv tk i))) (fun s=>s=((List.range N).map (Bm tk),kb (mv tk N))) (s0:=(List.replicate N (0:Int),([]:List Int)))
  (by rw[show mv tk 0=[] from rfl];refine Prod.ext ?_ rfl;exact eM (by simp) fun j hj=>by rw[ahp,if_pos hj,if_neg (by omega)]) hs he
 refine (key ?_ ?_).elim fun x ⟨h1,hx⟩=>hx ▸ h1
 ·rintro i x _ hx rfl
  have hi:i<N:=by have:=bW hx;simpa using this
  have hLF:=KO hs i
  have h2:tk.length*(K+1)<=8000*1000001:=ahj hlen (by omega)
  have hql:(mv tk i).length<=i:=by unfold mv;have:=ahk (fun p=>decide (0<dX tk p)) (List.range i);simpa using this
  refine⟨_,?_,rfl⟩
  simp only[ke]
  rw[if_pos (by simp;omega),bG (bK (fun p=>bL (dX tk p)) hi),agi,bG (bK _ hi),agi,Jd (by unfold eF;omega),agi,afM,fQ,fQ,bX (by omega),OK]
  by_cases hl:0<dX tk i
  ·rw[if_pos (by simpa using B6.2 hl),bG (bK _ hi),agi,KV (by rw[nN];simp;omega),agi,if_pos hl]
   refine congrArg some (congrArg Sum.inl (congrArg (Prod.mk _) (Prod.ext ?_ ?_)))
   ·refine congrArg (fun f=>(List.range N).map f) (funext fun p =>?_)
    by_cases h:p=i
    ·subst h;rw[if_pos rfl,if_pos (by omega)];unfold Bm;rw[if_pos hl]
    ·rw[if_neg h,if_neg h]
     by_cases h3:p<i
     ·rw[if_pos h3,if_pos (by omega)]
     ·rw[if_neg h3,if_neg (by omega)]
   ·unfold kb;simp
  ·rw[if_neg (by simpa using fun h=>hl (B6.1 h)),if_neg hl]
   refine congrArg some (congrArg Sum.inl (congrArg (Prod.mk _) (Prod.ext ?_ rfl)))
   refine congrArg (fun f=>(List.range N).map f) (funext fun p =>?_)
   by_cases h:p=i
   ·subst h;rw[if_pos rfl,if_pos (by omega)];unfold Bm;rw[if_neg hl]
   ·rw[if_neg h]
    by_cases h3:p<i
    ·rw[if_pos h3,if_pos (by omega)]
    ·rw[if_neg h3,if_neg (by omega)]
 ·rintro _ rfl
  refine⟨_,?_,rfl⟩
  simp only[ke]
  rw[if_neg (by simp),afj]
  refine congrArg some (congrArg Sum.inr (Prod.ext ?_ rfl))
  refine eM (by simp) fun j hj =>?_
  rw[bK _ hj,if_pos hj]
theorem ZI (N:Nat) (tk:List Tk):BF N tk (Bm tk) [] (mv tk N) 0 0:=by
 have hm:∀p,p∈mv tk N↔p<N∧0<dX tk p:=fun p=>by unfold mv;simp[agm]
 have h0:∀p,0<dX tk p->Bm tk p=0:=fun p h=>if_pos h
 have h1:∀p,¬0<dX tk p->Bm tk p = -1:=fun p h=>if_neg h
 constructor
 ·rw[agu];unfold mv;exact List.nodup_range.filter _
 ·intro p hp;rw[agu]at hp;exact ((hm p).1 hp).1
 ·intro p hp
  rw[agu,hm]
  by_cases h:0<dX tk p
  ·rw[h0 p h];simp[hp,h]
  ·rw[h1 p h];simp[h]
 ·intro p hp
  by_cases h:0<dX tk p
  ·rw[h0 p h];omega
  ·rw[h1 p h];omega
 ·intro p hp
  by_cases h:0<dX tk p
  ·rw[h0 p h];simp[h]
  ·rw[h1 p h];simp[h]
 ·intro p hp hpos
  by_cases h:0<dX tk p
  ·rw[h0 p h]at hpos;omega
  ·rw[h1 p h]at hpos;omega
 ·intro t _ h;simp at h
 ·refine List.Pairwise.imp_of_mem (R:=fun _ _=>True) (fun {a b} ha hb _ =>?_) (List.pairwise_of_forall (fun _ _=>trivial))
  rw[h0 a ((hm a).1 ha).2,h0 b ((hm b).1 hb).2]
  exact Int.le_refl _
 ·intro p hp
  rw[agu]at hp
  rw[h0 p ((hm p).1 hp).2];omega
 ·intro q hq;rw[h0 q ((hm q).1 hq).2];omega
 ·intro p hp
  by_cases h:0<dX tk p
  ·rw[h0 p h];omega
  ·rw[h1 p h];omega
theorem X6 {K:Nat} (hR:jI N tk) (hK:K<=1000000) (hs:∀t∈tk,LF t.2.2<=K):∃r,kc (lN N tk)=some ((List.range N).map r)∧mO N tk r:=by
 have hN:=hR.ports
 have hlen:=hR.takes
 have htk:∀t∈tk,t.1<N∧t.2.1<N:=fun t ht=>⟨(hR.ok t ht).1,(hR.ok t ht).2.1⟩
 obtain⟨b,hb1,hb2⟩:=Iu (n:=lN N tk) hK (fun t ht=>by
  simp only[lN,aeN]at ht
  obtain⟨t',h1,rfl⟩:=ht
  exact BY (hs t' h1))
 obtain rfl:b=true:=hb2.2 ⟨N,tk,rfl,hR⟩
 obtain⟨r',h1,h2⟩:=Re (ZI N tk) htk hlen hN
 refine⟨r',?_,h2⟩
 unfold kc
 rw[hb1,agi]
 simp only[af8,afo,if_false]
 have e1:(lN N tk).aG=(N:Int):=rfl
 rw[e1,Eb _ (by omega) hN,agi,Uq (L:=0) htk hlen,agi,Eb _ (by omega) hN,agi,Ns hN hlen (fun t ht=>(htk t ht).1) hK hs,agi,UT hN hlen hK hs,agi]
 simp only
 rw[h1,agi]
def oh (N:Nat) (r:Nat->Int):List Nat:=(List.range N).filter fun p=>decide (r p = -1)
theorem RD (n:Nat) (r:Nat->Int):oh (n+1) r=if r n = -1 then oh n r++[n] else oh n r:=by
 unfold oh
 rw[List.range_succ,ahl]
 by_cases h:r n = -1
 ·rw[if_pos h,ahm (by simpa using h)];rfl
 ·rw[if_neg h,ahn (by simpa using h)];simp
theorem RE {r:Nat->Int} (hN:N<=2000) (h:kc (lN N tk)=some ((List.range N).map r)):iI (lN N tk)=some (kb (oh N r)):=by
 unfold iI
 rw[h,agi]
 have key:=fun hs he=>yo (body:=im ((List.range N).map r)) (List.range N) (by simp;omega) (fun i l=>l=kb (oh i r)) (fun l=>l=kb (oh N r)) (s0:=([]:List Int)) rfl hs he
 have h2:aO (im ((List.range N).map r)) ((0:Int),[])=some (kb (oh N r)):=by
  refine (key ?_ ?_).elim fun x ⟨h1,hx⟩=>hx ▸ h1
  ·rintro i x _ hx rfl
   have hi:i<N:=by have:=bW hx;simpa using this
   have hql:(oh i r).length<=i:=by unfold oh;have:=ahk (fun p=>decide (r p = -1)) (List.range i);simpa using this
   refine⟨_,?_,rfl⟩
   simp only[im]
   rw[if_pos (by simp;omega),bG (bK r hi),agi,bX (by omega),RD]
   by_cases hc:r i = -1
   ·rw[if_pos (by rw[hc];rfl),KV (by rw[nN];simp;omega),agi,if_pos hc]
    unfold kb;simp
   ·rw[if_neg (by simpa using hc),if_neg hc]
  ·rintro _ rfl
   refine⟨_,?_,rfl⟩
   simp only[im]
   rw[if_neg (by simp),afj]
 rw[h2,agi]
end Go.Proofs.Ytchndpjlijbplaa.P
namespace Go.Proofs.Ytchndpjlijbplaa.P
open Go.RowKit
def sm:Nat->(Nat->Rat)->Rat
 | 0,_=>0
 | n+1,f=>sm n f+f n
theorem za {n:Nat} {f g:Nat->Rat} (h:∀i,i<n->f i=g i):sm n f=sm n g:=by
 induction n with
 | zero=>rfl
 | succ n ih=>rw[sm,sm,ih fun i hi=>h i (by omega),h n (by omega)]
theorem Yh (n:Nat) (f g:Nat->Rat):sm n (fun i=>f i+g i)=sm n f+sm n g:=by
 induction n with
 | zero=>simp only[sm];grind
 | succ n ih=>simp only[sm];rw[ih];grind
theorem Yi (n:Nat) (f g:Nat->Rat):sm n (fun i=>f i-g i)=sm n f-sm n g:=by
 induction n with
 | zero=>simp only[sm];grind
 | succ n ih=>simp only[sm];rw[ih];grind
theorem Al {n:Nat} {f:Nat->Rat} (h:∀i,i<n->0<=f i):0<=sm n f:=by
 induction n with
 | zero=>simp only[sm];grind
 | succ n ih =>
  have h1:=ih fun i hi=>h i (by omega)
  have h2:=h n (by omega)
  simp only[sm];grind
theorem TR {n:Nat} {f:Nat->Rat} (h:∀i,i<n->0<=f i) (hs:sm n f<=0):∀i,i<n->f i=0:=by
 induction n with
 | zero=>intro i hi;omega
 | succ n ih =>
  have h1:=Al (n:=n) fun i hi=>h i (by omega)
  have h2:=h n (by omega)
  simp only[sm]at hs
  intro i hi
  by_cases hin:i=n
  ·subst hin;grind
  ·exact ih (fun j hj=>h j (by omega)) (by grind) i (by omega)
theorem aad (n:Nat):sm n (fun _=>0)=0:=by
 induction n with
 | zero=>rfl
 | succ n ih=>simp only[sm];rw[ih];grind
theorem IE {n t:Nat} (v:Rat) (h:t<n):sm n (fun p=>if t=p then v else 0)=v:=by
 induction n with
 | zero=>omega
 | succ n ih =>
  simp only[sm]
  by_cases hn:t=n
  ·subst hn
   rw[za (g:=fun _=>0) fun i hi=>if_neg (by omega),aad,if_pos rfl];grind
  ·rw[ih (by omega),if_neg hn];grind
def mU:List Tk->(Nat->Rat)->Nat->Rat
 | [],_,_=>0
 | t::l,x,p=>(if t.2.1=p then t.2.2*x t.1 else 0)+mU l x p
theorem Hy {x y:Nat->Rat} {p:Nat} : ∀ {l:List Tk},(∀t∈l,t.2.1=p->x t.1=y t.1)->mU l x p=mU l y p
 | [],_=>rfl
 | t::l,h=>by
  simp only[mU]
  rw[Hy (l:=l) fun t ht=>h t (age _ ht)]
  by_cases hp:t.2.1=p
  ·rw[if_pos hp,if_pos hp,h t (agd ..) hp]
  ·rw[if_neg hp,if_neg hp]
theorem Ta (l:List Tk) (x y:Nat->Rat) (p:Nat):mU l (fun j=>x j+y j) p=mU l x p+mU l y p:=by
 induction l with
 | nil=>simp only[mU];grind
 | cons t l ih=>simp only[mU];rw[ih];split<;>grind
theorem JN (l:List Tk) (x y:Nat->Rat) (p:Nat):mU l (fun j=>x j-y j) p=mU l x p-mU l y p:=by
 induction l with
 | nil=>simp only[mU];grind
 | cons t l ih=>simp only[mU];rw[ih];split<;>grind
theorem JM (l:List Tk) (c:Rat) (x:Nat->Rat) (p:Nat):mU l (fun j=>c*x j) p=c*mU l x p:=by
 induction l with
 | nil=>simp only[mU];grind
 | cons t l ih=>simp only[mU];rw[ih];split<;>grind
theorem yz {x y:Nat->Rat} {p:Nat} : ∀ {l:List Tk},(∀t∈l,0<=t.2.2)->(∀t∈l,t.2.1=p->x t.1<=y t.1)->mU l x p<=mU l y p
 | [],_,_=>by simp only[mU];grind
 | t::l,h0,h=>by
  simp only[mU]
  have ih:=yz (l:=l) (fun t ht=>h0 t (age _ ht)) fun t ht=>h t (age _ ht)
  have ht:=h0 t (agd ..)
  by_cases hp:t.2.1=p
  ·rw[if_pos hp,if_pos hp]
   have:=Rat.mul_le_mul_of_nonneg_left (h t (agd ..) hp) ht
   grind
  ·rw[if_neg hp,if_neg hp];grind
theorem DS {x:Nat->Rat} {p:Nat} {l:List Tk} (h0:∀t∈l,0<=t.2.2) (h:∀t∈l,t.2.1=p->0<=x t.1):0<=mU l x p:=by
 have:=yz (x:=fun _=>0) (y:=x) (p:=p) h0 h
 have h2:mU l (fun _=>0) p=0:=by
  have:=JM l 0 (fun _=>0) p
  have e:(fun j:Nat=>(0:Rat)*(fun _=>0) j)=fun _=>0:=by funext j;grind
  rw[e]at this
  rw[this];grind
 grind
theorem Xr {x:Nat->Rat} {p:Nat} : ∀ {l:List Tk},(∀t∈l,0<=t.2.2)->(∀t∈l,t.2.1=p->0<=x t.1)->∀t∈l,t.2.1=p->t.2.2*x t.1<=mU l x p
 | [],_,_,t,ht,_=>by cases ht
 | t::l,h0,h,u,hu,hp=>by
  simp only[mU]
  have h1:=DS (x:=x) (p:=p) (l:=l) (fun t ht=>h0 t (age _ ht)) fun t ht=>h t (age _ ht)
  rcases aeV.1 hu with rfl|hu
  ·rw[if_pos hp];grind
  ·have ih:=Xr (x:=x) (p:=p) (l:=l) (fun t ht=>h0 t (age _ ht)) (fun t ht=>h t (age _ ht)) u hu hp
   by_cases hq:t.2.1=p
   ·rw[if_pos hq]
    have:=ahq (h0 t (agd ..)) (h t (agd ..) hq)
    grind
   ·rw[if_neg hq];grind
theorem Tb {N:Nat} (x:Nat->Rat):∀ {l:List Tk},(∀t∈l,t.1<N∧t.2.1<N)->sm N (fun p=>mU l x p)=sm N (fun q=>tH l q*x q)
 | [],_=>by simp only[mU,tH];exact za fun i _=>by grind
 | t::l,h=>by
  simp only[mU,tH]
  obtain⟨h1,h2⟩:=h t (agd ..)
  rw[Yh,IE _ h2,Tb x fun t ht=>h t (age _ ht)]
  have:sm N (fun q=>((if t.1=q then t.2.2 else 0)+tH l q)*x q)=sm N (fun q=>(if t.1=q then t.2.2*x t.1 else 0)+tH l q*x q):=za fun q _=>by
   by_cases hq:t.1=q
   ·rw[if_pos hq,if_pos hq,hq];grind
   ·rw[if_neg hq,if_neg hq];grind
  rw[this,Yh,IE _ h1]
def wz (x:Rat):Rat:=if 0<=x then x else -x
theorem tT (x:Rat):0<=wz x:=by unfold wz;split<;>grind
theorem R5 (x:Rat):x<=wz x ∧ -x<=wz x:=by unfold wz;split<;>grind
theorem PJ {x y:Rat} (h1:x<=y) (h2 : -x<=y):wz x<=y:=by unfold wz;split<;>grind
theorem F9 {x:Rat} (h:wz x=0):x=0:=by unfold wz at h;split at h<;>grind
theorem S9 {l:List Tk} (h0:∀t∈l,0<=t.2.2) (x:Nat->Rat) (p:Nat):wz (mU l x p)<=mU l (fun j=>wz (x j)) p:=by
 refine PJ (yz h0 fun t _ _=>(R5 _).1) ?_
 have h1:=JM l (-1) x p
 have h2 : -mU l x p=mU l (fun j => -1*x j) p:=by rw[h1];grind
 rw[h2]
 exact yz h0 fun t _ _=>by have:=(R5 (x t.1)).2;grind
variable {N:Nat} {tk:List Tk} {r:Nat->Int}
theorem jI.pos (hR:jI N tk):∀t∈tk,0<=t.2.2:=fun t ht=>by have:=(hR.ok t ht).2.2;grind
theorem jI.rng (hR:jI N tk):∀t∈tk,t.1<N∧t.2.1<N:=fun t ht=>⟨(hR.ok t ht).1,(hR.ok t ht).2.1⟩
theorem xL (hR:jI N tk) (hr:mO N tk r) (h0:∀p,p<N->0<=r p) {y:Nat->Rat} (hy:∀p,p<N->0<=y p) (hle:∀p,p<N->y p<=mU tk y p):∀p,p<N->y p=0:=by
 have hs:=Tb y hR.rng
 have hl0:∀p,p<N->0<=dX tk p*y p:=fun p hp=>ahq (hR.leak p hp) (hy p hp)
 have hd0:∀p,p<N->0<=mU tk y p-y p:=fun p hp=>by have:=hle p hp;grind
 have e1:sm N (fun p=>dX tk p*y p)=sm N y-sm N (fun q=>tH tk q*y q):=by
  rw[<- Yi]
  exact za fun p _=>by unfold dX;grind
 have e2:sm N (fun p=>mU tk y p-y p)=sm N (fun q=>tH tk q*y q)-sm N y:=by rw[Yi,hs]
 have n1:=Al hl0
 have n2:=Al hd0
 have z1:=TR hl0 (by grind)
 have z2:=TR hd0 (by grind)
 have key:∀(k:Nat) p,p<N->r p=(k:Int)->y p=0:=by
  intro k
  induction k with
  | zero =>
   intro p hp hk
   have hl:=(hr.zero p hp).1 hk
   have:=z1 p hp
   rcases Rat.mul_eq_zero.1 this with h|h
   ·grind
   ·exact h
  | succ k ih =>
   intro p hp hk
   obtain⟨t,ht,rfl,ht2⟩:=hr.down p hp (by omega)
   have hto:=(hR.rng t ht).2
   have hq:=ih t.2.1 hto (by omega)
   have e:=z2 t.2.1 hto
   have hge:=Xr (x:=y) (p:=t.2.1) hR.pos (fun u hu _=>hy _ (hR.rng u hu).1) t ht rfl
   have hpos:=(hR.ok t ht).2.2
   have hy1:=hy t.1 hp
   have h3:t.2.2*y t.1<=0:=by grind
   have h4:=ahq (show 0<=t.2.2 by grind) hy1
   rcases Rat.mul_eq_zero.1 (show t.2.2*y t.1=0 by grind) with h|h
   ·grind
   ·exact h
 intro p hp
 have:=h0 p hp
 exact key (r p).toNat p hp (by omega)
def Ul (N:Nat) (tk:List Tk) (d x:Nat->Rat):Prop:=∀p,p<N->x p=d p+mU tk x p
theorem Rl (hR:jI N tk) (hr:mO N tk r) (h0:∀p,p<N->0<=r p) {d x y:Nat->Rat} (hx:Ul N tk d x) (hy:Ul N tk d y):∀p,p<N->x p=y p:=by
 intro p hp
 have:=xL hR hr h0 (y:=fun j=>wz (x j-y j)) (fun _ _=>tT _) (fun q hq=>by
  have h1:=S9 hR.pos (fun j=>x j-y j) q
  rw[JN]at h1
  have e:x q-y q=mU tk x q-mU tk y q:=by have:=hx q hq;have:=hy q hq;grind
  try simp only
  rw[e];exact h1) p hp
 have:=F9 this
 grind
theorem aaf (hR:jI N tk) (hr:mO N tk r) (h0:∀p,p<N->0<=r p) {d d' x x':Nat->Rat} (hx:Ul N tk d x) (hx':Ul N tk d' x') (S:Nat->Prop) (hS:∀t∈tk,S t.1->S t.2.1) (hd:∀p,p<N->¬S p->d p=d' p) :
  ∀p,p<N->¬S p->x p=x' p:=by
 intro p hp hn
 open Classical in
 have:=xL hR hr h0 (y:=fun j=>if S j then 0 else wz (x j-x' j)) (fun j _=>by
  try simp only
  split
  ·grind
  ·exact tT _) (fun q hq=>by
  have hz:0<=mU tk (fun j=>if S j then 0 else wz (x j-x' j)) q:=DS hR.pos fun t _ _=>by
   try simp only
   split
   ·grind
   ·exact tT _
  try simp only
  split
  ·exact hz
  ·rename_i hq2
   have h1:=S9 hR.pos (fun j=>x j-x' j) q
   rw[JN]at h1
   have e:x q-x' q=mU tk x q-mU tk x' q:=by have:=hx q hq;have:=hx' q hq;have:=hd q hq hq2;grind
   rw[e]
   rwa [Hy (l:=tk) (p:=q) (x:=fun j=>wz (x j-x' j)) (y:=fun j=>if S j then 0 else wz (x j-x' j)) fun t ht htq=>by
    try simp only
    rw[if_neg fun hs=>hq2 (htq ▸ hS t ht hs)]]at h1) p hp
 try simp only at this
 rw[if_neg hn]at this
 have:=F9 this
 grind
end Go.Proofs.Ytchndpjlijbplaa.P
namespace Go.Proofs.Ytchndpjlijbplaa.P
open Go.RowKit
abbrev Tm:=Nat×Rat
def jF (t:Tm):dH:=dH.mk (t.1:Int) (bL t.2)
structure QE where
 D:Rat
 T:List Tm
def mkEq (e:QE):az:=az.mk (bL e.D) (e.T.map jF)
def cG:List Tm->(Nat->Rat)->Rat
 | [],_=>0
 | t::l,x=>t.2*x t.1+cG l x
theorem nK (a b:List Tm) (x:Nat->Rat):cG (a++b) x=cG a x+cG b x:=by
 induction a with
 | nil=>simp only[List.nil_append,cG];grind
 | cons t a ih=>simp only[List.cons_append,cG];rw[ih];grind
abbrev iD (T:List Tm):Prop:=T.Pairwise fun a b=>a.1<b.1
def kI (T:List Tm) (k:Nat):List Tm:=T.filter fun t=>decide (t.1<k)
def zo (T:List Tm) (k:Nat):List Tm:=T.filter fun t=>decide (k<t.1)
def ef:List Tm->Nat->Option Rat
 | [],_=>none
 | t::l,k=>if t.1=k then some t.2 else ef l k
theorem J4 {T:List Tm} {k:Nat} {t:Tm} : t∈kI T k↔t∈T∧t.1<k:=by unfold kI;simp[agm]
theorem D9 {T:List Tm} {k:Nat} {t:Tm} : t∈zo T k↔t∈T∧k<t.1:=by unfold zo;simp[agm]
theorem QB {T:List Tm} {k:Nat} (h:∀t∈T,k<=t.1):kI T k=[]:=by
 unfold kI
 rw[List.filter_eq_nil_iff]
 intro t ht
 have:=h t ht
 simp;omega
theorem Xo {T:List Tm} {k:Nat} (h:∀t∈T,k<t.1):zo T k=T:=by
 unfold zo
 rw[List.filter_eq_self]
 intro t ht
 simpa using h t ht
theorem Ux {T:List Tm} {k:Nat} (h:∀t∈T,t.1≠k):ef T k=none:=by
 induction T with
 | nil=>rfl
 | cons t T ih=>rw[ef,if_neg (h t (agd ..)),ih fun u hu=>h u (age _ hu)]
theorem wk {k:Nat} : ∀ {T:List Tm},iD T->(ef T k=none∧T=kI T k++zo T k)∨∃c,ef T k=some c∧T=kI T k++(k,c)::zo T k
 | [],_ =>.inl ⟨rfl,rfl⟩
 | t::T,h=>by
  obtain⟨h1,h2⟩:=agn.1 h
  rcases ahr t.1 k with hk|hk|hk
  ·have e1:kI (t::T) k=t::kI T k:=ahm (by simpa using hk)
   have e2:zo (t::T) k=zo T k:=ahn (by simp;omega)
   have e3:ef (t::T) k=ef T k:=by rw[ef,if_neg (by omega)]
   rw[e1,e2,e3]
   rcases wk (k:=k) h2 with⟨g1,g2⟩|⟨c,g1,g2⟩
   ·exact .inl ⟨g1,by rw[agE,<- g2]⟩
   ·exact .inr ⟨c,g1,by rw[agE,<- g2]⟩
  ·subst hk
   have e1:kI (t::T) t.1=[]:=QB fun u hu=>by
    rcases aeV.1 hu with rfl|hu
    ·exact aeO _
    ·have:=h1 u hu;omega
   have e2:zo (t::T) t.1=T:=by
    rw[show zo (t::T) t.1=zo T t.1 from ahn (by simp),Xo h1]
   refine .inr ⟨t.2,by rw[ef,if_pos rfl],?_⟩
   rw[e1,e2];rfl
  ·have e1:kI (t::T) k=[]:=QB fun u hu=>by
    rcases aeV.1 hu with rfl|hu
    ·omega
    ·have:=h1 u hu;omega
   have e2:zo (t::T) k=t::T:=Xo fun u hu=>by
    rcases aeV.1 hu with rfl|hu
    ·exact hk
    ·have:=h1 u hu;omega
   refine .inl ⟨Ux fun u hu =>?_,by rw[e1,e2];rfl⟩
   rcases aeV.1 hu with rfl|hu
   ·omega
   ·have:=h1 u hu;omega
def jv (T:List Tm) (k:Nat):List Tm:=kI T k++zo T k
def JP (T:List Tm) (k:Nat) (a:Rat):List Tm:=kI T k++(k,a)::zo T k
def Cr (T:List Tm) (k:Nat) (v:Rat):List Tm:=JP T k ((ef T k).getD 0+v)
theorem iS {T:List Tm} {k:Nat} {t:Tm} : t∈jv T k↔t∈T∧t.1≠k:=by
 unfold jv
 rw[afV,J4,D9]
 constructor
 ·rintro (⟨h1,h2⟩|⟨h1,h2⟩)<;>exact⟨h1,by omega⟩
 ·rintro⟨h1,h2⟩
  rcases afz t.1 k with h|h
  ·exact .inl ⟨h1,h⟩
  ·exact .inr ⟨h1,by omega⟩
theorem J3 {T:List Tm} {k:Nat} {a:Rat} {t:Tm} : t∈JP T k a↔t=(k,a)∨t∈jv T k:=by
 unfold JP jv
 simp only[afV,aeV]
 constructor
 ·rintro (h|h|h)<;>simp[h]
 ·rintro (h|h|h)<;>simp[h]
theorem E4 {T:List Tm} (h:iD T) (k:Nat):iD (jv T k):=by
 unfold jv
 rw[iD,ago]
 refine⟨h.filter _,h.filter _,fun a ha b hb =>?_⟩
 have:=(J4.1 ha).2
 have:=(D9.1 hb).2
 omega
theorem Yk {T:List Tm} (h:iD T) (k:Nat) (a:Rat):iD (JP T k a):=by
 unfold JP
 rw[iD,ago,agn]
 refine⟨h.filter _,⟨fun b hb=>(D9.1 hb).2,h.filter _⟩,fun x hx b hb =>?_⟩
 have h1:=(J4.1 hx).2
 rcases aeV.1 hb with rfl|hb
 ·exact h1
 ·have:=(D9.1 hb).2;omega
theorem vS {T:List Tm} (h:iD T) (k:Nat) (x:Nat->Rat):cG T x=cG (jv T k) x+(ef T k).getD 0*x k:=by
 rcases wk (k:=k) h with⟨g1,g2⟩|⟨c,g1,g2⟩
 ·rw[g1];unfold jv;rw[<- g2];simp only[Option.getD_none];grind
 ·have e:cG T x=cG (kI T k++(k,c)::zo T k) x:=by rw[<- g2]
  rw[e,g1]
  unfold jv
  rw[nK,nK]
  simp only[cG,Option.getD_some]
  grind
theorem ZO {T:List Tm} (k:Nat) (a:Rat) (x:Nat->Rat):cG (JP T k a) x=cG (jv T k) x+a*x k:=by
 unfold JP jv
 rw[nK,nK]
 simp only[cG]
 grind
theorem ZM {T:List Tm} (h:iD T) (k:Nat) (v:Rat) (x:Nat->Rat):cG (Cr T k v) x=cG T x+v*x k:=by
 unfold Cr
 rw[ZO,vS h k x]
 grind
theorem nG {T:List Tm} {k:Nat} {c:Rat} (h:ef T k=some c):(k,c)∈T:=by
 induction T with
 | nil=>cases h
 | cons t T ih =>
  rw[ef]at h
  split at h
  ·rename_i hk
   cases h
   rw[<- hk]
   exact agd ..
  ·exact age _ (ih h)
theorem HE {x y:Nat->Rat} : ∀ {T:List Tm},(∀t∈T,x t.1=y t.1)->cG T x=cG T y
 | [],_=>rfl
 | t::T,h=>by rw[cG,cG,h t (agd ..),HE fun u hu=>h u (age _ hu)]
theorem sD {x:Nat->Rat} : ∀ {T:List Tm},(∀t∈T,0<=t.2)->(∀t∈T,0<=x t.1)->0<=cG T x
 | [],_,_=>by simp only[cG];grind
 | t::T,h,hx=>by
  have h1:=ahq (h t (agd ..)) (hx t (agd ..))
  have h2:=sD (T:=T) (fun u hu=>h u (age _ hu)) fun u hu=>hx u (age _ hu)
  simp only[cG];grind
theorem ZN (T:List Tm) (c:Rat) (x:Nat->Rat):cG (T.map fun t=>(t.1,t.2 / c)) x=cG T x / c:=by
 induction T with
 | nil=>simp only[afC,cG];grind
 | cons t T ih=>simp only[aeU,cG];rw[ih];grind
structure R3 (N K:Nat) (T:List Tm):Prop where
 sorted:iD T
 lt:∀t∈T,t.1<N
 sz:∀t∈T,LF t.2<=K
theorem R3.len {N K:Nat} {T:List Tm} (h:R3 N K T):T.length<=N:=by
 have h1:=yH N (T.map (·.1)) (by
  rw[List.Nodup,List.pairwise_map]
  exact h.sorted.imp fun h=>by omega) (fun x hx=>by
  obtain⟨t,ht,rfl⟩:=aeN.1 hx
  exact h.lt t ht)
 simpa using h1
theorem R3.rem {N K:Nat} {T:List Tm} (h:R3 N K T) (k:Nat):R3 N K (jv T k):=⟨E4 h.sorted k,fun t ht=>h.lt t (iS.1 ht).1,fun t ht=>h.sz t (iS.1 ht).1⟩
theorem R3.mono {N K K':Nat} {T:List Tm} (h:R3 N K T) (hk:K<=K'):R3 N K' T:=⟨h.sorted,h.lt,fun t ht=>aeQ (h.sz t ht) hk⟩
theorem ac2 (x:Int):nc .u64 x 1=some (x / 2):=by
 unfold nc
 rw[if_neg (by decide)]
 have e:(2:Int) ^ (min (Int.toNat 1) IntKind.u64.bits)=2:=by decide
 rw[e,agW _ (by decide)]
theorem aaZ {k:Nat} : ∀ {T:List Tm},iD T->∀(i:Nat) t,T[i]? = some t->(t.1<k↔i<(kI T k).length)
 | [],_,i,t,h=>by simp at h
 | a::T,hs,i,t,h=>by
  obtain⟨h1,h2⟩:=agn.1 hs
  by_cases ha:a.1<k
  ·have e1:kI (a::T) k=a::kI T k:=ahm (by simpa using ha)
   rw[e1,afe]
   cases i with
   | zero=>simp only[List.getElem?_cons_zero,aeX]at h;subst h;simp[ha]
   | succ i =>
    have:=aaZ (k:=k) h2 i t (by simpa using h)
    omega
  ·have e1:kI (a::T) k=[]:=QB fun u hu=>by
    rcases aeV.1 hu with rfl|hu
    ·omega
    ·have:=h1 u hu;omega
   rw[e1]
   have:¬t.1<k:=by
    rcases aeV.1 (afg h) with rfl|hu
    ·exact ha
    ·have:=h1 t hu;omega
   simp[this]
theorem DB (t:Tm) (k:Nat):cj (jF t) (k:Int)=some (n5 (t.1:Int) (k:Int)):=by
 unfold cj
 rw[CV];rfl
theorem LM {a b:Int} : n5 a b<0↔a<b:=by unfold n5;split<;>(try split)<;>simp at *<;>omega
theorem GI {a b:Int} : n5 a b=0↔a=b:=by unfold n5;split<;>(try split)<;>simp at *<;>omega
theorem PU {T:List Tm} (hs:iD T) (hl:T.length<=2000) (k:Nat) :
  aS (T.map jF) (k:Int)=some (((kI T k).length:Int),(ef T k).isSome):=by
 have hlo:(kI T k).length<=T.length:=ahk ..
 have key:=fun hst=>yC (body:=bC (T.map jF) (k:Int)) (I:=fun (s:Int×Int)=>∃lo hi:Nat,s=((lo:Int),(hi:Int))∧lo<=(kI T k).length∧(kI T k).length<=hi∧hi<=T.length) (μ:=fun (s:Int×Int)=>(s.2-s.1).toNat)
  (fun r=>r=((kI T k).length:Int)) (s:=(0,((T.map jF).length:Int))) ⟨0,T.length,by simp,by omega,hlo,aeO _⟩ (by simp only[afi];unfold FU;omega) hst
 obtain⟨r,h1,rfl⟩:=key (by
  rintro _ ⟨lo,hi,rfl,h1,h2,h3⟩
  simp only[bC]
  by_cases hc:lo<hi
  ·have hm:(lo+hi) / 2<T.length:=by omega
   have hg:(T.map jF)[(lo+hi) / 2]? = some (jF T[(lo+hi) / 2]):=by rw[aeL,ae1 hm];rfl
   have hlt:=aaZ (k:=k) hs ((lo+hi) / 2) _ (ae1 hm)
   have e1:IntKind.i64.wrap ((lo:Int)+hi)=(lo:Int)+hi:=wrap64 (by omega) (by omega)
   have e2:IntKind.u64.wrap ((lo:Int)+hi)=(lo:Int)+hi:=wu (by omega)
   have e3:IntKind.i64.wrap (((lo:Int)+hi) / 2)=(((lo+hi) / 2:Nat):Int):=by rw[wrap64 (by omega) (by omega)];omega
   rw[if_pos (by simpa using hc),e1,e2,ac2,agi,e3,bG hg,agi,DB,agi]
   refine .inl ?_
   by_cases hk:T[(lo+hi) / 2].1<k
   ·rw[if_pos (by simp only[decide_eq_true_eq];exact LM.2 (by omega)),bX (by omega)]
    refine⟨_,rfl,⟨(lo+hi) / 2+1,hi,rfl,by have:=hlt.1 hk;omega,h2,h3⟩,?_⟩
    simp only;omega
   ·rw[if_neg (by simp only[decide_eq_true_eq];intro h;exact hk (by have:=LM.1 h;omega))]
    refine⟨_,rfl,⟨lo,(lo+hi) / 2,rfl,h1,by have:¬(lo+hi) / 2<(kI T k).length:=fun h=>hk (hlt.2 h);omega,by omega⟩,?_⟩
    simp only;omega
  ·rw[if_neg (by simpa using hc)]
   exact .inr ⟨_,rfl,by omega⟩)
 unfold aS
 rw[h1,agi]
 rcases wk (k:=k) hs with⟨g1,g2⟩|⟨c,g1,g2⟩
 ·rw[g1]
  by_cases hlt:(kI T k).length<T.length
  ·have hg:(T.map jF)[(kI T k).length]? = some (jF T[(kI T k).length]):=by rw[aeL,ae1 hlt];rfl
   rw[if_pos (by simpa using hlt),bG hg,agi,DB,agi]
   have hne:T[(kI T k).length].1≠k:=by
    have hm:T[(kI T k).length]∈kI T k++zo T k:=by rw[<- g2];exact ae0 hlt
    rcases afV.1 hm with h|h
    ·have:=(J4.1 h).2;omega
    ·have:=(D9.1 h).2;omega
   have:n5 (T[(kI T k).length].1:Int) (k:Int)≠0:=fun h=>hne (by have:=GI.1 h;omega)
   simp[this]
  ·rw[if_neg (by simpa using hlt)];rfl
 ·rw[g1]
  have hgT:T[(kI T k).length]? = some (k,c):=by
   have:(kI T k++(k,c)::zo T k)[(kI T k).length]? = some (k,c):=by simp
   rwa [<- g2]at this
  have hlt:=bW hgT
  have hg:(T.map jF)[(kI T k).length]? = some (jF (k,c)):=by rw[aeL,hgT];rfl
  rw[if_pos (by simpa using hlt),bG hg,agi,DB,agi]
  have:n5 ((k,c).1:Int) (k:Int)=0:=GI.2 rfl
  rw[this];rfl
theorem find_eq {e:QE} (hs:iD e.T) (hl:e.T.length<=2000) (k:Nat):ck (mkEq e) (k:Int)=some (mkEq e,((kI e.T k).length:Int),(ef e.T k).isSome):=by
 unfold ck mkEq
 rw[PU hs hl,agi]
theorem EC {a x y:Rat} (h:LF a+(LF x+LF y)+1<=eF):gg (bL a) (bL x) (bL y)=some (bL (a+x*y)):=by
 unfold gg
 have:=Cg x y
 rw[aci (by omega),agi]
 simp only
 rw[VO (by omega),agi]
theorem acF:fw 0=some (bL 0):=RU (n:=0) (by decide)
theorem PB:LF 1<=1:=Cf (n:=1) (by decide)
theorem VW:LF 0<=1:=Cf (n:=0) (by decide)
def acp (e:QE) (k:Nat) (v:Rat):QE:=⟨e.D,Cr e.T k v⟩
end Go.Proofs.Ytchndpjlijbplaa.P
