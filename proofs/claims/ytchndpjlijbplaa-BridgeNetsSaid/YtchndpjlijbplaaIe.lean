/- Part of a proof. -/
import Derived.Test.YtchndpjlijbplaaId
set_option linter.unusedSimpArgs false
set_option linter.unusedVariables false
noncomputable section
namespace Go.Proofs.Ytchndpjlijbplaa.Am
open Go.RowKit Go.Proofs.Ytchndpjlijbplaa.P
set_option maxRecDepth 100000
set_option maxHeartbeats 4000000
theorem Ih (p0_0:Int) (p0_1:(List Int)) (p1_0:Int) (p1_1:(List Int)):zw none [.agg [.int .i64 p0_0,.sl false false p0_1.length (ae (eI .i64) p0_1)],.agg [.int .i64 p1_0,.sl false false p1_1.length (ae (eI .i64) p1_1)]]=(v7 (aq.mk p0_0 p0_1) (aq.mk p1_0 p1_1)).map fun r:aq×aq×Int=>(.clean (.tup [.agg [.int .i64 r.1.ah,.sl false false r.1.aa.length (ae (eI .i64) r.1.aa)],.agg [.int .i64 r.2.1.ah,.sl false false r.2.1.aa.length (ae (eI .i64) r.2.1.aa)],.int .i64 r.2.2]),none):=aN _ _ _ ((aq.mk p0_0 p0_1),(aq.mk p1_0 p1_1))
def vL:Env:=(Am.ext (Am.ext (Am.ext (Am.ext (Am.ext aY 55 false lr) 85 false rJ) 86 false mL) 108 false pZ) 116 false xc)
theorem Qq:bq Try.prog vL:=(((((bq.none.add oM false).add A9 false).add qp false).add yO false).add Oy false)
theorem cI:type_of% (ai @w<|ai @iJ<|ai @sL<|ai @jU<|ai @qw<|ai @xC<|@vL.eq_1):=⟨@w,@iJ,@sL,@jU,@qw,@xC,@vL.eq_1⟩
theorem Vc (p0:aq) (p1:aq) (r:aq×aq×Int) (hh:v7 p0 p1=some r):a6 .clean tab vL FU Try.f101 none [.agg [.int .i64 p0.ah,.sl false false p0.aa.length (ae (eI .i64) p0.aa)],.agg [.int .i64 p1.ah,.sl false false p1.aa.length (ae (eI .i64) p1.aa)]]=some (.clean (.tup [.agg [.int .i64 r.1.ah,.sl false false r.1.aa.length (ae (eI .i64) r.1.aa)],.agg [.int .i64 r.2.1.ah,.sl false false r.2.1.aa.length (ae (eI .i64) r.2.1.aa)],.int .i64 r.2.2]),none):=by
 apply aD rfl Try.ntmps101 Try.results101
 unfold v7 at hh
 obtain⟨r1,hr1,hh⟩:=ag hh
 try simp only[cI,seval,hr1]
 obtain⟨o2,ho2,hh⟩:=ag hh
 refine bP 0 (fun s t H e=>match s with|s16j1=>∃v2j1:Nat,∃v3j1:Nat,∃v4j1:Nat,∃v5j1:Nat,t 2=.ptr 2 v2j1 0∧t 3=.ptr 3 v3j1 0∧t 4=.ptr 4 v4j1 0∧t 5=.ptr 5 v5j1 0∧t 16=.bool s16j1∧H 2=some ⟨v2j1,39,[.int .i64 p0.ah,.sl false false p0.aa.length (ae (eI .i64) p0.aa)],false,false,false⟩∧H 3=some ⟨v3j1,39,[.int .i64 p1.ah,.sl false false p1.aa.length (ae (eI .i64) p1.aa)],false,false,false⟩∧H 4=some ⟨v4j1,39,[.int .i64 0,.sl true true 0 []],false,false,false⟩∧H 5=some ⟨v5j1,39,[.int .i64 0,.sl true true 0 []],false,false,false⟩) (fun s=>s=o2) ?_ ?_
 ·rintro s16j1 t H e ⟨v2j1,v3j1,v4j1,v5j1,Zj1⟩ rfl
  try dsimp only at hh
  try simp only[cI,seval,hr1,Zj1]
  apply sp au hh<;>intro _ hh
  ·cases hh
   try simp only[cI,seval,hr1,Zj1]
  ·try simp only[cI,seval,hr1,Zj1]
   apply sp au hh<;>intro _ hh
   ·cases hh
    try simp only[cI,seval,hr1,Zj1]
   ·obtain⟨r5,hr5,hh⟩:=ag hh
    try simp only[cI,seval,hr1,Zj1,hr5]
    obtain⟨o6,ho6,hh⟩:=ag hh
    refine bP 0 (fun s t H e=>match s with|s42j2=>∃v2j2:Nat,∃v3j2:Nat,∃v4j2:Nat,∃v5j2:Nat,t 2=.ptr 2 v2j2 0∧t 3=.ptr 3 v3j2 0∧t 4=.ptr 4 v4j2 0∧t 5=.ptr 5 v5j2 0∧t 7=.sl false false r5.1.length (ae (eI .i64) r5.1)∧t 8=.sl false false r5.2.length (ae (eI .i64) r5.2)∧t 42=.bool s42j2∧H 2=some ⟨v2j2,39,[.int .i64 p0.ah,.sl false false p0.aa.length (ae (eI .i64) p0.aa)],false,false,false⟩∧H 3=some ⟨v3j2,39,[.int .i64 p1.ah,.sl false false p1.aa.length (ae (eI .i64) p1.aa)],false,false,false⟩∧H 4=some ⟨v4j2,39,[.int .i64 0,.sl true true 0 []],false,false,false⟩∧H 5=some ⟨v5j2,39,[.int .i64 0,.sl true true 0 []],false,false,false⟩) (fun s=>s=o6) ?_ ?_
    ·rintro s42j2 t H e ⟨v2j2,v3j2,v4j2,v5j2,Zj2⟩ rfl
     try dsimp only at hh
     try simp only[cI,seval,hr1,hr5,Zj2]
     apply sp au hh<;>intro _ hh
     ·obtain⟨r8,hr8,hh⟩:=ag hh
      obtain⟨r9,hr9,hh⟩:=ag hh
      try simp only[cI,seval,hr1,hr5,Zj2,hr8,hr9]
      refine bF (by kernel_rfl) ?_
      cases hh
      try simp only[cI,seval,hr1,hr5,Zj2,hr8,hr9]
     ·have i10:=xC r5.1 ([1])
      simp only[a7,bo,List.length_cons,List.length_nil,afB,Nat.reduceAdd,agN]at i10
      obtain⟨r11,hr11,hh⟩:=ag hh
      obtain⟨r12,hr12,hh⟩:=ag hh
      obtain⟨r13,hr13,hh⟩:=ag hh
      obtain⟨r14,hr14,hh⟩:=ag hh
      try simp only[cI,seval,hr1,hr5,Zj2,i10,hr11,hr12,hr13,hr14]
      refine bF (by kernel_rfl) ?_
      cases hh
      try simp only[cI,seval,hr1,hr5,Zj2,i10,hr11,hr12,hr13,hr14]
    ·clear hh
     have hh:=ho6
     try simp only[cI,seval,hr1,Zj1,hr5]
     apply sp bc hh<;>intro _ hh
     ·cases hh
      try simp only[cI,seval,hr1,Zj1,hr5]
      rw[av]
      refine⟨_,rfl,?_⟩
      refine⟨v2j1,v3j1,v4j1,v5j1,?_,?_,?_,?_,?_,?_,?_,?_,?_,?_,?_⟩
      all_goals first|rfl|(simp only[cI,seval,hr1,Zj1,hr5]<;>rfl)
     ·cases hh
      try simp only[cI,seval,hr1,Zj1,hr5]
      rw[av]
      refine⟨_,rfl,?_⟩
      refine⟨v2j1,v3j1,v4j1,v5j1,?_,?_,?_,?_,?_,?_,?_,?_,?_,?_,?_⟩
      all_goals first|rfl|(simp only[cI,seval,hr1,Zj1,hr5]<;>rfl)
 ·clear hh
  have hh:=ho2
  try simp only[cI,seval,hr1]
  apply sp bc hh<;>intro _ hh
  ·cases hh
   try simp only[cI,seval,hr1]
   rw[av]
   refine⟨_,rfl,?_⟩
   refine⟨0,0,0,0,?_,?_,?_,?_,?_,?_,?_,?_,?_⟩
   all_goals first|rfl|(simp only[cI,seval,hr1]<;>rfl)
  ·obtain⟨r17,hr17,hh⟩:=ag hh
   cases hh
   try simp only[cI,seval,hr1,hr17]
   rw[av]
   refine⟨_,rfl,?_⟩
   refine⟨0,0,0,0,?_,?_,?_,?_,?_,?_,?_,?_,?_⟩
   all_goals first|rfl|(simp only[cI,seval,hr1,hr17]<;>rfl)
theorem Q1:bT Try.prog 101 zw:=bT.of (mode := .clean) tok Qq mixed Try.func101 (by kernel_rfl) ⟨by kernel_rfl,by kernel_rfl⟩ (fun _=>agv (by kernel_rfl)) (fun x r h=>Vc x.1 x.2 r h)
def zB:=fR (jE (dk fb) (fH (dk fb))) (fun x:aq×aq=>y4 x.1 x.2) (fun r:al×Int =>.clean (.tup [.agg [.int .i64 r.1.aJ.ah,.sl false false r.1.aJ.aa.length (ae (eI .i64) r.1.aJ.aa),.int .i64 r.1.aL.ah,.sl false false r.1.aL.aa.length (ae (eI .i64) r.1.aL.aa)],.int .i64 r.2]))
theorem Il (p0_0:Int) (p0_1:(List Int)) (p1_0:Int) (p1_1:(List Int)):zB none [.agg [.int .i64 p0_0,.sl false false p0_1.length (ae (eI .i64) p0_1)],.agg [.int .i64 p1_0,.sl false false p1_1.length (ae (eI .i64) p1_1)]]=(y4 (aq.mk p0_0 p0_1) (aq.mk p1_0 p1_1)).map fun r:al×Int=>(.clean (.tup [.agg [.int .i64 r.1.aJ.ah,.sl false false r.1.aJ.aa.length (ae (eI .i64) r.1.aJ.aa),.int .i64 r.1.aL.ah,.sl false false r.1.aL.aa.length (ae (eI .i64) r.1.aL.aa)],.int .i64 r.2]),none):=aN _ _ _ ((aq.mk p0_0 p0_1),(aq.mk p1_0 p1_1))
def vP:Env:=(Am.ext (Am.ext (Am.ext (Am.ext aY 55 false lr) 56 false zx) 100 false zy) 101 false zw)
theorem Qu:bq Try.prog vP:=((((bq.none.add oM false).add Q3 false).add Q4 false).add Q1 false)
theorem dR:type_of% (ai @w<|ai @iJ<|ai @Ii<|ai @Ij<|ai @Ih<|@vP.eq_1):=⟨@w,@iJ,@Ii,@Ij,@Ih,@vP.eq_1⟩
theorem Vh (p0:aq) (p1:aq) (r:al×Int) (hh:y4 p0 p1=some r):a6 .clean tab vP FU Try.f74 none [.agg [.int .i64 p0.ah,.sl false false p0.aa.length (ae (eI .i64) p0.aa)],.agg [.int .i64 p1.ah,.sl false false p1.aa.length (ae (eI .i64) p1.aa)]]=some (.clean (.tup [.agg [.int .i64 r.1.aJ.ah,.sl false false r.1.aJ.aa.length (ae (eI .i64) r.1.aJ.aa),.int .i64 r.1.aL.ah,.sl false false r.1.aL.aa.length (ae (eI .i64) r.1.aL.aa)],.int .i64 r.2]),none):=by
 apply aD rfl Try.ntmps74 Try.results74
 unfold y4 at hh
 obtain⟨r1,hr1,hh⟩:=ag hh
 try simp only[dR,seval,hr1]
 obtain⟨o2,ho2,hh⟩:=ag hh
 refine bP 0 (fun s t H e=>match s with|s21j1=>∃v2j1:Nat,∃v3j1:Nat,∃v4j1:Nat,t 2=.ptr 2 v2j1 0∧t 3=.ptr 3 v3j1 0∧t 4=.ptr 4 v4j1 0∧t 21=.bool s21j1∧H 2=some ⟨v2j1,39,[.int .i64 p0.ah,.sl false false p0.aa.length (ae (eI .i64) p0.aa)],false,false,false⟩∧H 3=some ⟨v3j1,39,[.int .i64 p1.ah,.sl false false p1.aa.length (ae (eI .i64) p1.aa)],false,false,false⟩∧H 4=some ⟨v4j1,41,[.int .i64 0,.sl true true 0 [],.int .i64 0,.sl true true 0 []],false,false,false⟩) (fun s=>s=o2) ?_ ?_
 ·rintro s21j1 t H e ⟨v2j1,v3j1,v4j1,Zj1⟩ rfl
  try dsimp only at hh
  try simp only[dR,seval,hr1,Zj1]
  apply sp au hh<;>intro _ hh
  ·cases hh
   try simp only[dR,seval,hr1,Zj1]
  ·try simp only[dR,seval,hr1,Zj1]
   apply sp au hh<;>intro _ hh
   ·cases hh
    try simp only[dR,seval,hr1,Zj1]
   ·try simp only[dR,seval,hr1,Zj1]
    obtain⟨o5,ho5,hh⟩:=ag hh
    refine je 0 (fun s t H e=>match s with|(r2_0j2,r2_1j2,r3_0j2,r3_1j2)=>∃v2j2:Nat,∃v3j2:Nat,∃v4j2:Nat,t 2=.ptr 2 v2j2 0∧t 3=.ptr 3 v3j2 0∧t 4=.ptr 4 v4j2 0∧H 2=some ⟨v2j2,39,[.int .i64 r2_0j2,.sl false false r2_1j2.length (ae (eI .i64) r2_1j2)],false,false,false⟩∧H 3=some ⟨v3j2,39,[.int .i64 r3_0j2,.sl false false r3_1j2.length (ae (eI .i64) r3_1j2)],false,false,false⟩∧H 4=some ⟨v4j2,41,[.int .i64 0,.sl true true 0 [],.int .i64 0,.sl true true 0 []],false,false,false⟩) (fun s=>s=o5) ?_ ?_
    ·rintro⟨r2_0j2,r2_1j2,r3_0j2,r3_1j2⟩ t H e ⟨v2j2,v3j2,v4j2,Zj2⟩ rfl
     try dsimp only at hh
     obtain⟨r6,hr6,hh⟩:=ag hh
     obtain⟨r7,hr7,hh⟩:=ag hh
     obtain⟨r8,hr8,hh⟩:=ag hh
     cases hh
     try simp only[dR,seval,hr1,Zj2,hr6,hr7,hr8]
    ·clear hh
     have hh:=ho5
     try simp only[dR,seval,hr1,Zj1]
     apply sp au hh<;>intro _ hh
     ·obtain⟨r10,hr10,hh⟩:=ag hh
      obtain⟨r11,hr11,hh⟩:=ag hh
      cases hh
      try simp only[dR,seval,hr1,Zj1,hr10,hr11]
      rw[av]
      refine⟨_,rfl,?_⟩
      refine⟨v2j1,v3j1,v4j1,?_,?_,?_,?_,?_,?_⟩
      all_goals first|rfl|(simp only[dR,seval,hr1,Zj1,hr10,hr11]<;>rfl)
     ·cases hh
      try simp only[dR,seval,hr1,Zj1]
      rw[av]
      refine⟨_,rfl,?_⟩
      refine⟨v2j1,v3j1,v4j1,?_,?_,?_,?_,?_,?_⟩
      all_goals first|rfl|(simp only[dR,seval,hr1,Zj1]<;>rfl)
 ·clear hh
  have hh:=ho2
  try simp only[dR,seval,hr1]
  apply sp bc hh<;>intro _ hh
  ·cases hh
   try simp only[dR,seval,hr1]
   rw[av]
   refine⟨_,rfl,?_⟩
   refine⟨0,0,0,?_,?_,?_,?_,?_,?_,?_⟩
   all_goals first|rfl|(simp only[dR,seval,hr1]<;>rfl)
  ·obtain⟨r13,hr13,hh⟩:=ag hh
   cases hh
   try simp only[dR,seval,hr1,hr13]
   rw[av]
   refine⟨_,rfl,?_⟩
   refine⟨0,0,0,?_,?_,?_,?_,?_,?_,?_⟩
   all_goals first|rfl|(simp only[dR,seval,hr1,hr13]<;>rfl)
theorem Q6:bT Try.prog 74 zB:=bT.of (mode := .clean) tok Qu mixed Try.func74 (by kernel_rfl) ⟨by kernel_rfl,by kernel_rfl⟩ (fun _=>agv (by kernel_rfl)) (fun x r h=>Vh x.1 x.2 r h)
def xP:=fR (jE (aI .i64) (fH (aI .i64))) (fun x:Int×Int=>Af x.1 x.2) (fun r:al×Int =>.clean (.tup [.agg [.int .i64 r.1.aJ.ah,.sl false false r.1.aJ.aa.length (ae (eI .i64) r.1.aJ.aa),.int .i64 r.1.aL.ah,.sl false false r.1.aL.aa.length (ae (eI .i64) r.1.aL.aa)],.int .i64 r.2]))
theorem yT (p0:Int) (p1:Int):xP none [.int .i64 p0,.int .i64 p1]=(Af p0 p1).map fun r:al×Int=>(.clean (.tup [.agg [.int .i64 r.1.aJ.ah,.sl false false r.1.aJ.aa.length (ae (eI .i64) r.1.aJ.aa),.int .i64 r.1.aL.ah,.sl false false r.1.aL.aa.length (ae (eI .i64) r.1.aL.aa)],.int .i64 r.2]),none):=aN _ _ _ (p0,p1)
def yt:Env:=(Am.ext (Am.ext aY 58 false Cb) 74 false zB)
theorem US:bq Try.prog yt:=((bq.none.add Vr false).add Q6 false)
theorem Y8:type_of% (ai @w<|ai @OJ<|ai @Il<|@yt.eq_1):=⟨@w,@OJ,@Il,@yt.eq_1⟩
theorem XI (p0:Int) (p1:Int) (r:al×Int) (hh:Af p0 p1=some r):a6 .clean tab yt FU Try.f46 none [.int .i64 p0,.int .i64 p1]=some (.clean (.tup [.agg [.int .i64 r.1.aJ.ah,.sl false false r.1.aJ.aa.length (ae (eI .i64) r.1.aJ.aa),.int .i64 r.1.aL.ah,.sl false false r.1.aL.aa.length (ae (eI .i64) r.1.aL.aa)],.int .i64 r.2]),none):=by
 apply aD rfl Try.ntmps46 Try.results46
 unfold Af at hh
 obtain⟨r1,hr1,hh⟩:=ag hh
 obtain⟨r2,hr2,hh⟩:=ag hh
 obtain⟨r3,hr3,hh⟩:=ag hh
 cases hh
 try simp only[Y8,seval,hr1,hr2,hr3]
theorem H4:bT Try.prog 46 xP:=bT.of (mode := .clean) tok US mixed Try.func46 (by kernel_rfl) ⟨by kernel_rfl,by kernel_rfl⟩ (fun _=>agv (by kernel_rfl)) (fun x r h=>XI x.1 x.2 r h)
def zA:=fR (fH (aI .i64)) (fun x:Int=>y3 x) (fun r:al =>.clean (.agg [.int .i64 r.aJ.ah,.sl false false r.aJ.aa.length (ae (eI .i64) r.aJ.aa),.int .i64 r.aL.ah,.sl false false r.aL.aa.length (ae (eI .i64) r.aL.aa)]))
theorem Ik (p0:Int):zA none [.int .i64 p0]=(y3 p0).map fun r:al=>(.clean (.agg [.int .i64 r.aJ.ah,.sl false false r.aJ.aa.length (ae (eI .i64) r.aJ.aa),.int .i64 r.aL.ah,.sl false false r.aL.aa.length (ae (eI .i64) r.aL.aa)]),none):=aN _ _ _ (p0)
def vO:Env:=(Am.ext aY 46 false xP)
theorem Qt:bq Try.prog vO:=(bq.none.add H4 false)
theorem VL:type_of% (ai @w<|ai @yT<|@vO.eq_1):=⟨@w,@yT,@vO.eq_1⟩
theorem Vg (p0:Int) (r:al) (hh:y3 p0=some r):a6 .clean tab vO FU Try.f17 none [.int .i64 p0]=some (.clean (.agg [.int .i64 r.aJ.ah,.sl false false r.aJ.aa.length (ae (eI .i64) r.aJ.aa),.int .i64 r.aL.ah,.sl false false r.aL.aa.length (ae (eI .i64) r.aL.aa)]),none):=by
 apply aD rfl Try.ntmps17 Try.results17
 unfold y3 at hh
 obtain⟨r1,hr1,hh⟩:=ag hh
 cases hh
 try simp only[VL,seval,hr1]
theorem Q5:bT Try.prog 17 zA:=bT.of (mode := .clean) tok Qt mixed Try.func17 (by kernel_rfl) ⟨by kernel_rfl,by kernel_rfl⟩ (fun _=>agv (by kernel_rfl)) (fun x r h=>Vg x r h)
def rI:=fR (jE (aI .i64) (jE (aI .i64) (fH (aI .i64)))) (fun x:Int×Int×Int=>gU x.1 x.2.1 x.2.2) (fun r:Bool =>.clean (.bool r))
theorem yS (p0:Int) (p1:Int) (p2:Int):rI none [.int .i64 p0,.int .i64 p1,.int .i64 p2]=(gU p0 p1 p2).map fun r:Bool=>(.clean (.bool r),none):=aN _ _ _ (p0,p1,p2)
theorem J0 (p0:Int) (p1:Int) (p2:Int) (r:Bool) (hh:gU p0 p1 p2=some r):a6 .clean tab aY FU Try.f34 none [.int .i64 p0,.int .i64 p1,.int .i64 p2]=some (.clean (.bool r),none):=by
 apply aD rfl Try.ntmps34 Try.results34
 unfold gU at hh
 try simp only[w,seval]
 apply sp dj hh<;>intro _ hh
 ·cases hh
  try simp only[w,seval]
 ·cases hh
  try simp only[w,seval]
theorem FX:bT Try.prog 34 rI:=bT.of (mode := .clean) tok bq.none mixed Try.func34 (by kernel_rfl) ⟨by kernel_rfl,by kernel_rfl⟩ (fun _=>agv (by kernel_rfl)) (fun x r h=>J0 x.1 x.2.1 x.2.2 r h)
def eV:=fR (fH (dk fb)) (fun x:aq=>cl x) (fun r:Bool =>.clean (.bool r))
theorem ch (p0_0:Int) (p0_1:(List Int)):eV none [.agg [.int .i64 p0_0,.sl false false p0_1.length (ae (eI .i64) p0_1)]]=(cl (aq.mk p0_0 p0_1)).map fun r:Bool=>(.clean (.bool r),none):=aN _ _ _ ((aq.mk p0_0 p0_1))
theorem NJ (p0:aq) (r:Bool) (hh:cl p0=some r):a6 .clean tab aY FU Try.f50 none [.agg [.int .i64 p0.ah,.sl false false p0.aa.length (ae (eI .i64) p0.aa)]]=some (.clean (.bool r),none):=by
 apply aD rfl Try.ntmps50 Try.results50
 unfold cl at hh
 try simp only[w,seval]
 obtain⟨o5,ho5,hh⟩:=ag hh
 refine aB (fun s t H e=>match s with|s12a=>∃v1a:Nat,t 1=.ptr 1 v1a 0∧t 3=.int .i64 (p0.aa.length:Int)∧t 10=.sl false false p0.aa.length (ae (eI .i64) p0.aa)∧t 11=.int .i64 (p0.aa.length:Int)∧t 12=.int .i64 s12a∧H 1=some ⟨v1a,39,[.int .i64 p0.ah,.sl false false p0.aa.length (ae (eI .i64) p0.aa)],false,false,false⟩) (fun o x t H e=>match o with|(.inl _)=>x=.exit 0∧∃v1ax:Nat,t 1=.ptr 1 v1ax 0∧t 3=.int .i64 (p0.aa.length:Int)∧H 1=some ⟨v1ax,39,[.int .i64 p0.ah,.sl false false p0.aa.length (ae (eI .i64) p0.aa)],false,false,false⟩|(.inr r)=>x=.ret∧iP .clean tab none [.tmp 2] ⟨t,EH H,e⟩=some (.clean (.bool r),none)) ho5 ?_ ?_ ?_
 ·refine⟨0,?_,?_,?_,?_,?_,?_⟩
  all_goals first|rfl|(simp only[w,seval]<;>rfl)
 ·rintro s12a t H e ⟨v1a,Za⟩ c hh
  simp only[ov]at hh
  try simp only[w,seval,Za]
  apply sp au hh<;>intro _ hh
  ·obtain⟨x7,hx7,hh⟩:=ag hh
   have ax7:=bm (eI .i64) hx7
   simp only[bo]at ax7
   try simp only[w,seval,Za,ax7]
   apply sp bc hh<;>intro _ hh
   ·cases hh
    try simp only[w,seval,Za,ax7]
    refine BI ⟨rfl,?_⟩
    try simp only[w,seval,Za,ax7]
   ·try simp only[w,seval,Za,ax7]
    apply sp au hh<;>intro _ hh
    ·cases hh
     try simp only[w,seval,Za,ax7]
     refine BI ⟨rfl,?_⟩
     try simp only[w,seval,Za,ax7]
    ·cases hh
     try simp only[w,seval,Za,ax7]
     apply iC
     refine⟨v1a,?_,?_,?_,?_,?_,?_⟩
     all_goals first|rfl|(simp only[w,seval,Za,ax7]<;>rfl)
  ·cases hh
   try simp only[w,seval,Za]
   apply jP
   refine⟨rfl,⟨v1a,?_,?_,?_⟩⟩
   all_goals first|rfl|(simp only[w,seval,Za]<;>rfl)
 ·rintro x t H e hx
  rcases o5 with _|ra
  ·dsimp only at hx hh
   obtain⟨rfl,⟨v1ax,Zax⟩⟩:=hx
   try simp only[w,seval,Zax]
   apply sp au hh<;>intro _ hh
   ·cases hh
    try simp only[w,seval,Zax]
   ·try simp only[w,seval,Zax]
    apply sp bc hh<;>intro _ hh
    ·obtain⟨x12,hx12,hh⟩:=ag hh
     have ax12:=bm (eI .i64) hx12
     simp only[bo]at ax12
     cases hh
     try simp only[w,seval,Zax,ax12]
    ·try simp only[w,seval,Zax]
     apply sp dj hh<;>intro _ hh
     ·obtain⟨x14,hx14,hh⟩:=ag hh
      have ax14:=bm (eI .i64) hx14
      simp only[bo]at ax14
      cases hh
      try simp only[w,seval,Zax,ax14]
     ·cases hh
      try simp only[w,seval,Zax]
  ·dsimp only at hx hh
   obtain⟨rfl,hE⟩:=hx
   cases hh
   try simp only[bn,bg,bB,dn,dm,ct,cu]
   exact hE
theorem fG:bT Try.prog 50 eV:=bT.of (mode := .clean) tok bq.none mixed Try.func50 (by kernel_rfl) ⟨by kernel_rfl,by kernel_rfl⟩ (fun _=>agv (by kernel_rfl)) (fun x r h=>NJ x r h)
def kC:=fR (jE acm (fH (dk fb))) (fun x:Bool×aq=>dN x.1 x.2) (fun r:aq×Int =>.clean (.tup [.agg [.int .i64 r.1.ah,.sl false false r.1.aa.length (ae (eI .i64) r.1.aa)],.int .i64 r.2]))
theorem eT (p0:Bool) (p1_0:Int) (p1_1:(List Int)):kC none [.bool p0,.agg [.int .i64 p1_0,.sl false false p1_1.length (ae (eI .i64) p1_1)]]=(dN p0 (aq.mk p1_0 p1_1)).map fun r:aq×Int=>(.clean (.tup [.agg [.int .i64 r.1.ah,.sl false false r.1.aa.length (ae (eI .i64) r.1.aa)],.int .i64 r.2]),none):=aN _ _ _ (p0,(aq.mk p1_0 p1_1))
theorem FK (p0:Bool) (p1:aq) (r:aq×Int) (hh:dN p0 p1=some r):a6 .clean tab aY FU Try.f75 none [.bool p0,.agg [.int .i64 p1.ah,.sl false false p1.aa.length (ae (eI .i64) p1.aa)]]=some (.clean (.tup [.agg [.int .i64 r.1.ah,.sl false false r.1.aa.length (ae (eI .i64) r.1.aa)],.int .i64 r.2]),none):=by
 apply aD rfl Try.ntmps75 Try.results75
 unfold dN at hh
 try simp only[w,seval]
 apply sp au hh<;>intro _ hh
 ·cases hh
  try simp only[w,seval]
 ·cases hh
  try simp only[w,seval]
theorem pK:bT Try.prog 75 kC:=bT.of (mode := .clean) tok bq.none mixed Try.func75 (by kernel_rfl) ⟨by kernel_rfl,by kernel_rfl⟩ (fun _=>agv (by kernel_rfl)) (fun x r h=>FK x.1 x.2 r h)
theorem zX (r:(List Int)) (hh:cz []=some r):a6 (.fresh 3 1) tab aY FU Try.f82 none [.sl true true 0 []]=some (.fresh 3 1 r.length (ae (eI .i64) r),none):=by
 unfold cz at hh
 obtain⟨qa,qb,qc⟩:=xT hh
 subst qa
 apply aD rfl Try.ntmps82 Try.results82
 simp only[w,seval,Nat.lt_irrefl]
theorem zY (r:(List Int)) (hh:cz []=some r):a6 (.fresh 3 1) tab aY FU Try.f82 none [.sl true false 0 []]=some (.fresh 3 1 r.length (ae (eI .i64) r),none):=by
 unfold cz at hh
 obtain⟨qa,qb,qc⟩:=xT hh
 subst qa
 apply aD rfl Try.ntmps82 Try.results82
 simp only[w,seval,Nat.lt_irrefl]
theorem zZ (p0 r:(List Int)) (hp:0<p0.length) (hh:cz p0=some r):a6 (.fresh 3 1) tab aY FU Try.f82 none [.sl false false p0.length (ae (eI .i64) p0)]=some (.fresh 3 1 r.length (ae (eI .i64) r),none):=by
 unfold cz at hh
 have hz:¬p0.length=0:=by omega
 obtain⟨qa,qb,qc⟩:=xT hh
 subst qa
 apply aD rfl Try.ntmps82 Try.results82
 simp only[w,seval,hp,hz,qb,qc]
def ie:=fR (fH (lM (eI .i64))) (fun x:(List Int)=>cz x) (fun r:(List Int) =>.fresh 3 1 r.length (ae (eI .i64) r))
theorem eY (p0:(List Int)):ie none [.sl false false p0.length (ae (eI .i64) p0)]=(cz p0).map fun r:(List Int)=>(.fresh 3 1 r.length (ae (eI .i64) r),none):=aN _ _ _ p0
theorem kV:bT Try.prog 82 ie:=bT.acO (mode:=(.fresh 3 1)) tok bq.none mixed Try.func82 (by kernel_rfl) ⟨by kernel_rfl,by kernel_rfl⟩ (agv (by kernel_rfl)) zX zY zZ
def tP:=fR (fH (aI .i64)) (fun x:Int=>mQ x) (fun r:Bool =>.clean (.bool r))
theorem Be (p0:Int):tP none [.int .i64 p0]=(mQ p0).map fun r:Bool=>(.clean (.bool r),none):=aN _ _ _ (p0)
theorem NM (p0:Int) (r:Bool) (hh:mQ p0=some r):a6 .clean tab aY FU Try.f96 none [.int .i64 p0]=some (.clean (.bool r),none):=by
 apply aD rfl Try.ntmps96 Try.results96
 unfold mQ at hh
 cases hh
 try simp only[w,seval]
theorem Kb:bT Try.prog 96 tP:=bT.of (mode := .clean) tok bq.none mixed Try.func96 (by kernel_rfl) ⟨by kernel_rfl,by kernel_rfl⟩ (fun _=>agv (by kernel_rfl)) (fun x r h=>NM x r h)
def jg:=fR (jE (aI .i64) (fH (aI .i64))) (fun x:Int×Int=>eC x.1 x.2) (fun r:Int =>.clean (.int .i64 r))
theorem fM (p0:Int) (p1:Int):jg none [.int .i64 p0,.int .i64 p1]=(eC p0 p1).map fun r:Int=>(.clean (.int .i64 r),none):=aN _ _ _ (p0,p1)
def np:Env:=(Am.ext aY 96 false tP)
theorem DJ:bq Try.prog np:=(bq.none.add Kb false)
theorem dC:type_of% (ai @w<|ai @Be<|@np.eq_1):=⟨@w,@Be,@np.eq_1⟩
theorem FM (p0:Int) (p1:Int) (r:Int) (hh:eC p0 p1=some r):a6 .clean tab np FU Try.f66 none [.int .i64 p0,.int .i64 p1]=some (.clean (.int .i64 r),none):=by
 apply aD rfl Try.ntmps66 Try.results66
 unfold eC at hh
 obtain⟨r1,hr1,hh⟩:=ag hh
 obtain⟨r2,hr2,hh⟩:=ag hh
 try simp only[dC,seval,hr1,hr2]
 apply sp au hh<;>intro _ hh
 ·try simp only[dC,seval,hr1,hr2]
  apply sp au hh<;>intro _ hh
  ·cases hh
   try simp only[dC,seval,hr1,hr2]
  ·cases hh
   try simp only[dC,seval,hr1,hr2]
 ·try simp only[dC,seval,hr1,hr2]
  apply sp au hh<;>intro _ hh
  ·cases hh
   try simp only[dC,seval,hr1,hr2]
  ·try simp only[dC,seval,hr1,hr2]
   apply sp au hh<;>intro _ hh
   ·cases hh
    try simp only[dC,seval,hr1,hr2]
   ·try simp only[dC,seval,hr1,hr2]
    apply sp au hh<;>intro _ hh
    ·cases hh
     try simp only[dC,seval,hr1,hr2]
    ·cases hh
     try simp only[dC,seval,hr1,hr2]
theorem mo:bT Try.prog 66 jg:=bT.of (mode := .clean) tok DJ mixed Try.func66 (by kernel_rfl) ⟨by kernel_rfl,by kernel_rfl⟩ (fun _=>agv (by kernel_rfl)) (fun x r h=>FM x.1 x.2 r h)
def kD:=fR (jE (lM (eI .i64)) (fH (lM (eI .i64)))) (fun x:(List Int)×(List Int)=>eW x.1 x.2) (fun r:Int =>.clean (.int .i64 r))
theorem jn (p0:(List Int)) (p1:(List Int)):kD none [.sl false false p0.length (ae (eI .i64) p0),.sl false false p1.length (ae (eI .i64) p1)]=(eW p0 p1).map fun r:Int=>(.clean (.int .i64 r),none):=aN _ _ _ (p0,p1)
def nn:Env:=(Am.ext aY 66 false jg)
theorem DI:bq Try.prog nn:=(bq.none.add mo false)
theorem cq:type_of% (ai @w<|ai @fM<|@nn.eq_1):=⟨@w,@fM,@nn.eq_1⟩
theorem FL (p0:(List Int)) (p1:(List Int)) (r:Int) (hh:eW p0 p1=some r):a6 .clean tab nn FU Try.f78 none [.sl false false p0.length (ae (eI .i64) p0),.sl false false p1.length (ae (eI .i64) p1)]=some (.clean (.int .i64 r),none):=by
 apply aD rfl Try.ntmps78 Try.results78
 unfold eW at hh
 try simp only[cq,seval]
 apply sp au hh<;>intro _ hh
 ·obtain⟨r2,hr2,hh⟩:=ag hh
  cases hh
  try simp only[cq,seval,hr2]
 ·try simp only[cq,seval]
  obtain⟨o8,ho8,hh⟩:=ag hh
  refine aB (fun s t H e=>match s with|s5a=>t 0=.sl false false p0.length (ae (eI .i64) p0)∧t 1=.sl false false p1.length (ae (eI .i64) p1)∧t 5=.int .i64 s5a) (fun o x t H e=>match o with|(.inl _)=>x=.exit 0|(.inr r)=>x=.ret∧iP .clean tab none [.tmp 4] ⟨t,EH H,e⟩=some (.clean (.int .i64 r),none)) ho8 ?_ ?_ ?_
  ·refine⟨?_,?_,?_⟩
   all_goals first|rfl|(simp only[cq,seval]<;>rfl)
  ·rintro s5a t H e Za c hh
   simp only[lU]at hh
   try simp only[cq,seval,Za]
   apply sp au hh<;>intro _ hh
   ·obtain⟨x10,hx10,hh⟩:=ag hh
    have ax10:=bm (eI .i64) hx10
    simp only[bo]at ax10
    obtain⟨x11,hx11,hh⟩:=ag hh
    have ax11:=bm (eI .i64) hx11
    simp only[bo]at ax11
    try simp only[cq,seval,Za,ax10,ax11]
    refine bF (by kernel_rfl) ?_
    try simp only[cq,seval,Za,ax10,ax11]
    apply sp au hh<;>intro _ hh
    ·have ax10:=bm (eI .i64) hx10
     simp only[bo]at ax10
     have ax11:=bm (eI .i64) hx11
     simp only[bo]at ax11
     obtain⟨r13,hr13,hh⟩:=ag hh
     try simp only[cq,seval,Za,ax10,ax11,ax10,ax11,hr13]
     refine bF (by kernel_rfl) ?_
     cases hh
     try simp only[cq,seval,Za,ax10,ax11,ax10,ax11,hr13]
     refine BI ⟨rfl,?_⟩
     try simp only[cq,seval,Za,ax10,ax11,ax10,ax11,hr13]
    ·cases hh
     try simp only[cq,seval,Za,ax10,ax11]
     apply iC
     refine⟨?_,?_,?_⟩
     all_goals first|rfl|(simp only[cq,seval,Za,ax10,ax11]<;>rfl)
   ·cases hh
    try simp only[cq,seval,Za]
    apply jP
    exact rfl
  ·rintro x t H e hx
   rcases o8 with _|ra
   ·dsimp only at hx hh
    subst hx
    cases hh
    try simp only[cq,seval]
   ·dsimp only at hx hh
    obtain⟨rfl,hE⟩:=hx
    cases hh
    try simp only[bn,bg,bB,dn,dm,ct,cu]
    exact hE
theorem pL:bT Try.prog 78 kD:=bT.of (mode := .clean) tok DI mixed Try.func78 (by kernel_rfl) ⟨by kernel_rfl,by kernel_rfl⟩ (fun _=>agv (by kernel_rfl)) (fun x r h=>FL x.1 x.2 r h)
def kX:=fR (fH (lM (eI .i64))) (fun x:(List Int)=>dO x) (fun r:(List Int) =>.clean (.sl false false r.length (ae (eI .i64) r)))
theorem fp (p0:(List Int)):kX none [.sl false false p0.length (ae (eI .i64) p0)]=(dO p0).map fun r:(List Int)=>(.clean (.sl false false r.length (ae (eI .i64) r)),none):=aN _ _ _ (p0)
theorem QC (p0:(List Int)) (r:(List Int)) (hh:dO p0=some r):a6 .clean tab aY FU Try.f102 none [.sl false false p0.length (ae (eI .i64) p0)]=some (.clean (.sl false false r.length (ae (eI .i64) r)),none):=by
 apply aD rfl Try.ntmps102 Try.results102
 unfold dO at hh
 try simp only[w,seval]
 obtain⟨o4,ho4,hh⟩:=ag hh
 refine aB (fun s t H e=>match s with|s3a=>t 0=.sl false false p0.length (ae (eI .i64) p0)∧t 3=.int .i64 s3a) (fun o x t H e=>match o with|s3ax=>x=.exit 0∧t 0=.sl false false p0.length (ae (eI .i64) p0)∧t 3=.int .i64 s3ax) ho4 ?_ ?_ ?_
 ·refine⟨?_,?_⟩
  all_goals first|rfl|(simp only[w,seval]<;>rfl)
 ·rintro s3a t H e Za c hh
  simp only[nE]at hh
  try simp only[w,seval,Za]
  apply sp dj hh<;>intro _ hh
  ·obtain⟨x6,hx6,hh⟩:=ag hh
   have ax6:=bm (eI .i64) hx6
   simp only[bo]at ax6
   try simp only[w,seval,Za,ax6]
   apply sp au hh<;>intro _ hh
   ·cases hh
    try simp only[w,seval,Za,ax6]
    apply iC
    refine⟨?_,?_⟩
    all_goals first|rfl|(simp only[w,seval,Za,ax6]<;>rfl)
   ·cases hh
    try simp only[w,seval,Za,ax6]
    apply jP
    refine⟨rfl,⟨?_,?_⟩⟩
    all_goals first|rfl|(simp only[w,seval,Za,ax6]<;>rfl)
  ·cases hh
   try simp only[w,seval,Za]
   apply jP
   refine⟨rfl,⟨?_,?_⟩⟩
   all_goals first|rfl|(simp only[w,seval,Za]<;>rfl)
 ·rintro x t H e hx
  obtain⟨s3ax,rfl⟩:∃z,z=o4:=⟨_,rfl⟩
  dsimp only at hx hh
  obtain⟨rfl,Zax⟩:=hx
  obtain⟨x8,hx8,hh⟩:=ag hh
  obtain⟨q9a,q9b,q9c,q9d,q9e⟩:=Ks (eI .i64) hx8
  simp only[bo]at q9e
  cases hh
  try simp only[w,seval,Zax,q9a,q9b,q9c,q9d,q9e]
theorem nP:bT Try.prog 102 kX:=bT.of (mode := .clean) tok bq.none mixed Try.func102 (by kernel_rfl) ⟨by kernel_rfl,by kernel_rfl⟩ (fun _=>agv (by kernel_rfl)) (fun x r h=>QC x r h)
def rD:=mkE 3 (eI .i64) (as0) (fun (l:(List Int)) (x:Unit)=>dO l)
theorem Km (pre post:List D) (p0:(List Int)):rD (some (.buf 0 0 1 pre.length p0.length,⟨0,3,pre++(ae (eI .i64) p0++post),false,true,false⟩)) []=(dO p0).map fun r=>(.fresh 3 1 r.length (ae (eI .i64) r),none):=XJ _ _ _ _ pre post p0 ()
theorem JT (pre post:List D) (p0:(List Int)) (r:(List Int)) (hh:dO p0=some r):a6 (.fresh 3 1) tab aY FU Try.f102 (some (.buf 0 0 1 pre.length p0.length,⟨0,3,pre++(ae (eI .i64) p0++post),false,true,false⟩)) []=some (.fresh 3 1 r.length (ae (eI .i64) r),none):=by
 apply Fl rfl Try.ntmps102 Try.results102
 unfold dO at hh
 try simp only[w,seval]
 obtain⟨o4,ho4,hh⟩:=ag hh
 refine aB (fun s t H e=>match s with|s3a=>∃v0a:Nat,t 0=.buf 0 v0a 1 pre.length (p0).length∧t 3=.int .i64 s3a∧H 0=some ⟨v0a,3,pre++(ae (eI .i64) p0++post),false,true,false⟩) (fun o x t H e=>match o with|s3ax=>x=.exit 0∧∃v0ax:Nat,t 0=.buf 0 v0ax 1 pre.length (p0).length∧t 3=.int .i64 s3ax∧H 0=some ⟨v0ax,3,pre++(ae (eI .i64) p0++post),false,true,false⟩) ho4 ?_ ?_ ?_
 ·refine⟨0,?_,?_,?_⟩
  all_goals first|rfl|(simp only[w,seval]<;>rfl)
 ·rintro s3a t H e ⟨v0a,Za⟩ c hh
  simp only[nE]at hh
  try simp only[w,seval,Za]
  apply sp dj hh<;>intro _ hh
  ·obtain⟨x6,hx6,hh⟩:=ag hh
   have ax6:=M4 (pre:=pre) (post:=post) (eI .i64) hx6
   simp only[bo]at ax6
   try simp only[w,seval,Za,ax6]
   apply sp au hh<;>intro _ hh
   ·cases hh
    try simp only[w,seval,Za,ax6]
    apply iC
    refine⟨v0a,?_,?_,?_⟩
    all_goals first|rfl|(simp only[w,seval,Za,ax6]<;>rfl)
   ·cases hh
    try simp only[w,seval,Za,ax6]
    apply jP
    refine⟨rfl,⟨v0a,?_,?_,?_⟩⟩
    all_goals first|rfl|(simp only[w,seval,Za,ax6]<;>rfl)
  ·cases hh
   try simp only[w,seval,Za]
   apply jP
   refine⟨rfl,⟨v0a,?_,?_,?_⟩⟩
   all_goals first|rfl|(simp only[w,seval,Za]<;>rfl)
 ·rintro x t H e hx
  obtain⟨s3ax,rfl⟩:∃z,z=o4:=⟨_,rfl⟩
  dsimp only at hx hh
  obtain⟨rfl,⟨v0ax,Zax⟩⟩:=hx
  obtain⟨x8,hx8,hh⟩:=ag hh
  obtain⟨q9a,q9b,q9c,q9d,q9e⟩:=Ks (eI .i64) hx8
  simp only[bo]at q9e
  obtain⟨q9f,q9g⟩:=aab (pre:=pre) (post:=post) (eI .i64) hx8
  simp only[bo]at q9f q9g
  cases hh
  try simp only[w,seval,Zax,q9a,q9b,q9c,q9f,q9g,q9d]
theorem FT:bT Try.prog 102 rD:=bT.acK tok bq.none mixed Try.func102 (by kernel_rfl) ⟨by kernel_rfl,by kernel_rfl⟩ (fun _=>agv (by kernel_rfl)) (fun pre post l x r h=>JT pre post l r h)
def tO:=fR (jE (lM (eI .i64)) (fH (aI .i64))) (fun x:(List Int)×Int=>lx x.1 x.2) (fun r:(List Int)×Int =>.clean (.tup [.sl false false r.1.length (ae (eI .i64) r.1),.int .i64 r.2]))
theorem Bd (p0:(List Int)) (p1:Int):tO none [.sl false false p0.length (ae (eI .i64) p0),.int .i64 p1]=(lx p0 p1).map fun r:(List Int)×Int=>(.clean (.tup [.sl false false r.1.length (ae (eI .i64) r.1),.int .i64 r.2]),none):=aN _ _ _ (p0,p1)
def qd:Env:=(Am.ext aY 102 false kX)
theorem JD:bq Try.prog qd:=(bq.none.add nP false)
theorem iM:type_of% (ai @w<|ai @fp<|@qd.eq_1):=⟨@w,@fp,@qd.eq_1⟩
theorem NL (p0:(List Int)) (p1:Int) (r:(List Int)×Int) (hh:lx p0 p1=some r):a6 .clean tab qd FU Try.f104 none [.sl false false p0.length (ae (eI .i64) p0),.int .i64 p1]=some (.clean (.tup [.sl false false r.1.length (ae (eI .i64) r.1),.int .i64 r.2]),none):=by
 apply aD rfl Try.ntmps104 Try.results104
 unfold lx at hh
 obtain⟨x1,hx1,hh⟩:=ag hh
 obtain⟨q2a,q2b,q2c,q2d,q2e⟩:=mk_one (eI .i64) hx1
 simp only[bo]at q2d
 try simp only[iM,seval,-Int.reduceToNat,q2a,q2b,q2c,q2d,q2e]
 obtain⟨o13,ho13,hh⟩:=ag hh
 refine aB (fun s t H e=>match s with|(s7a,s8a,l6a)=>∃v6a:Nat,t 0=.sl false false p0.length (ae (eI .i64) p0)∧t 1=.int .i64 p1∧t 6=.buf 6 v6a 1 0 (l6a).length∧t 7=.int .i64 s7a∧t 8=.int .i64 s8a∧H 6=some ⟨v6a,3,ae (eI .i64) l6a,false,true,false⟩) (fun o x t H e=>match o with|(s7ax,l6ax)=>x=.exit 0∧∃v6ax:Nat,t 6=.buf 6 v6ax 1 0 (l6ax).length∧t 7=.int .i64 s7ax∧H 6=some ⟨v6ax,3,ae (eI .i64) l6ax,false,true,false⟩) ho13 ?_ ?_ ?_
 ·refine⟨1,?_,?_,?_,?_,?_,?_⟩
  all_goals first|rfl|(simp only[iM,seval,-Int.reduceToNat,q2a,q2b,q2c,q2d,q2e]<;>rfl)
 ·rintro⟨s7a,s8a,l6a⟩ t H e ⟨v6a,Za⟩ c hh
  simp only[ox]at hh
  try simp only[iM,seval,-Int.reduceToNat,q2a,q2b,q2c,q2d,q2e,Za]
  apply sp au hh<;>intro _ hh
  ·obtain⟨x15,hx15,hh⟩:=ag hh
   have q16:=km hx15
   obtain⟨x17,hx17,hh⟩:=ag hh
   have ax17:=bm (eI .i64) hx17
   simp only[bo]at ax17
   obtain⟨x18,hx18,hh⟩:=ag hh
   have q19:=sb hx18
   obtain⟨x20,hx20,hh⟩:=ag hh
   have ax20:=bm (eI .i64) hx20
   simp only[bo]at ax20
   have p21:=dF (eI .i64) (x':=x18) (fo:=0) (cs:=[.int .i64 x18]) hx20 rfl (agv rfl)
   simp only[bo,Nat.add_zero]at p21
   have up21:=p21
   simp only[putCells,List.length_cons,List.length_nil,afB,Nat.reduceAdd]at up21
   obtain⟨x22,hx22,hh⟩:=ag hh
   have q23:=nw hx22
   cases hh
   try simp only[iM,seval,-Int.reduceToNat,q2a,q2b,q2c,q2d,q2e,Za,q16,ax17,q19,ax20,p21,up21,q23]
   apply iC
   refine⟨v6a,?_,?_,?_,?_,?_,?_⟩
   all_goals first|rfl|(simp only[iM,seval,-Int.reduceToNat,q2a,q2b,q2c,q2d,q2e,Za,q16,ax17,q19,ax20,p21,up21,q23]<;>rfl)
  ·cases hh
   try simp only[iM,seval,-Int.reduceToNat,q2a,q2b,q2c,q2d,q2e,Za]
   apply jP
   refine⟨rfl,⟨v6a,?_,?_,?_⟩⟩
   all_goals first|rfl|(simp only[iM,seval,-Int.reduceToNat,q2a,q2b,q2c,q2d,q2e,Za]<;>rfl)
 ·rintro x t H e hx
  rcases o13 with⟨s7ax,l6ax⟩
  dsimp only at hx hh
  obtain⟨rfl,⟨v6ax,Zax⟩⟩:=hx
  obtain⟨r24,hr24,hh⟩:=ag hh
  cases hh
  try simp only[iM,seval,-Int.reduceToNat,q2a,q2b,q2c,q2d,q2e,Zax,hr24]
theorem Ka:bT Try.prog 104 tO:=bT.of (mode := .clean) tok JD mixed Try.func104 (by kernel_rfl) ⟨by kernel_rfl,by kernel_rfl⟩ (fun _=>agv (by kernel_rfl)) (fun x r h=>NL x.1 x.2 r h)
def vd:=fR (jE (lM (eI .i64)) (fH (lM (eI .i64)))) (fun x:(List Int)×(List Int)=>ow x.1 x.2) (fun r:(List Int) =>.fresh 3 1 r.length (ae (eI .i64) r))
theorem oT (p0:(List Int)) (p1:(List Int)):vd none [.sl false false p0.length (ae (eI .i64) p0),.sl false false p1.length (ae (eI .i64) p1)]=(ow p0 p1).map fun r:(List Int)=>(.fresh 3 1 r.length (ae (eI .i64) r),none):=aN _ _ _ (p0,p1)
def vJ:Env:=(Am.ext aY 102 true rD)
theorem Qo:bq Try.prog vJ:=(bq.none.add FT true)
theorem eO:type_of% (ai @w<|@vJ.eq_1):=⟨@w,@vJ.eq_1⟩
theorem Va (p0:(List Int)) (p1:(List Int)) (r:(List Int)) (hh:ow p0 p1=some r):a6 (.fresh 3 1) tab vJ FU Try.f103 none [.sl false false p0.length (ae (eI .i64) p0),.sl false false p1.length (ae (eI .i64) p1)]=some (.fresh 3 1 r.length (ae (eI .i64) r),none):=by
 apply aD rfl Try.ntmps103 Try.results103
 unfold ow at hh
 obtain⟨x1,hx1,hh⟩:=ag hh
 obtain⟨q2a,q2b,q2c,q2d,q2e⟩:=mk_one (eI .i64) hx1
 simp only[bo]at q2d
 try simp only[eO,seval,-Int.reduceToNat,q2a,q2b,q2c,q2d,q2e]
 obtain⟨o20,ho20,hh⟩:=ag hh
 refine aB (fun s t H e=>match s with|(s20a,l5a)=>∃v5a:Nat,t 1=.sl false false p1.length (ae (eI .i64) p1)∧t 5=.buf 5 v5a 1 0 (l5a).length∧t 18=.sl false false p0.length (ae (eI .i64) p0)∧t 19=.int .i64 (p0.length:Int)∧t 20=.int .i64 s20a∧H 5=some ⟨v5a,3,ae (eI .i64) l5a,false,true,false⟩) (fun o x t H e=>match o with|l5ax=>x=.exit 0∧∃v5ax:Nat,t 5=.buf 5 v5ax 1 0 (l5ax).length∧H 5=some ⟨v5ax,3,ae (eI .i64) l5ax,false,true,false⟩) ho20 ?_ ?_ ?_
 ·refine⟨1,?_,?_,?_,?_,?_,?_⟩
  all_goals first|rfl|(simp only[eO,seval,-Int.reduceToNat,q2a,q2b,q2c,q2d,q2e]<;>rfl)
 ·rintro⟨s20a,l5a⟩ t H e ⟨v5a,Za⟩ c hh
  simp only[rW]at hh
  try simp only[eO,seval,-Int.reduceToNat,q2a,q2b,q2c,q2d,q2e,Za]
  apply sp au hh<;>intro _ hh
  ·obtain⟨x22,hx22,hh⟩:=ag hh
   have ax22:=bm (eI .i64) hx22
   simp only[bo]at ax22
   try simp only[eO,seval,-Int.reduceToNat,q2a,q2b,q2c,q2d,q2e,Za,ax22]
   obtain⟨o29,ho29,hh⟩:=ag hh
   refine aB (fun s t H e=>match s with|(s8c,s27c,l5c)=>∃v5c:Nat,t 1=.sl false false p1.length (ae (eI .i64) p1)∧t 5=.buf 5 v5c 1 0 (l5c).length∧t 6=.int .i64 s20a∧t 7=.int .i64 x22∧t 8=.int .i64 s8c∧t 18=.sl false false p0.length (ae (eI .i64) p0)∧t 19=.int .i64 (p0.length:Int)∧t 20=.int .i64 s20a∧t 25=.sl false false p1.length (ae (eI .i64) p1)∧t 26=.int .i64 (p1.length:Int)∧t 27=.int .i64 s27c∧H 5=some ⟨v5c,3,ae (eI .i64) l5c,false,true,false⟩) (fun o x t H e=>match o with|(s8cx,l5cx)=>x=.exit 2∧∃v5cx:Nat,t 1=.sl false false p1.length (ae (eI .i64) p1)∧t 5=.buf 5 v5cx 1 0 (l5cx).length∧t 6=.int .i64 s20a∧t 8=.int .i64 s8cx∧t 18=.sl false false p0.length (ae (eI .i64) p0)∧t 19=.int .i64 (p0.length:Int)∧t 20=.int .i64 s20a∧H 5=some ⟨v5cx,3,ae (eI .i64) l5cx,false,true,false⟩) ho29 ?_ ?_ ?_
   ·refine⟨v5a,?_,?_,?_,?_,?_,?_,?_,?_,?_,?_,?_,?_⟩
    all_goals first|rfl|(simp only[eO,seval,-Int.reduceToNat,q2a,q2b,q2c,q2d,q2e,Za,ax22]<;>rfl)
   ·rintro⟨s8c,s27c,l5c⟩ t H e ⟨v5c,Zc⟩ c hh
    simp only[rX]at hh
    try simp only[eO,seval,-Int.reduceToNat,q2a,q2b,q2c,q2d,q2e,ax22,Zc]
    apply sp au hh<;>intro _ hh
    ·obtain⟨x31,hx31,hh⟩:=ag hh
     have ax31:=bm (eI .i64) hx31
     simp only[bo]at ax31
     obtain⟨x32,hx32,hh⟩:=ag hh
     have ax32:=bm (eI .i64) hx32
     simp only[bo]at ax32
     obtain⟨x33,hx33,hh⟩:=ag hh
     have q34:=gQ hx33
     have ax32:=bm (eI .i64) hx32
     simp only[bo]at ax32
     have p35:=dF (eI .i64) (x':=cV .and .i64 (IntKind.i64.wrap ((IntKind.i64.wrap (x32+(IntKind.i64.wrap (x22*x31))))+s8c)) 1048575) (fo:=0) (cs:=[.int .i64 (cV .and .i64 (IntKind.i64.wrap ((IntKind.i64.wrap (x32+(IntKind.i64.wrap (x22*x31))))+s8c)) 1048575)]) hx32 rfl (agv rfl)
     simp only[bo,Nat.add_zero]at p35
     have up35:=p35
     simp only[putCells,List.length_cons,List.length_nil,afB,Nat.reduceAdd]at up35
     cases hh
     try simp only[eO,seval,-Int.reduceToNat,q2a,q2b,q2c,q2d,q2e,ax22,Zc,ax31,ax32,q34,ax32,p35,up35]
     apply iC
     refine⟨v5c,?_,?_,?_,?_,?_,?_,?_,?_,?_,?_,?_,?_⟩
     all_goals first|rfl|(simp only[eO,seval,-Int.reduceToNat,q2a,q2b,q2c,q2d,q2e,ax22,Zc,ax31,ax32,q34,ax32,p35,up35]<;>rfl)
    ·cases hh
     try simp only[eO,seval,-Int.reduceToNat,q2a,q2b,q2c,q2d,q2e,ax22,Zc]
     apply jP
     refine⟨rfl,⟨v5c,?_,?_,?_,?_,?_,?_,?_,?_⟩⟩
     all_goals first|rfl|(simp only[eO,seval,-Int.reduceToNat,q2a,q2b,q2c,q2d,q2e,ax22,Zc]<;>rfl)
   ·rintro x t H e hx
    rcases o29 with⟨s8cx,l5cx⟩
    dsimp only at hx hh
    obtain⟨rfl,⟨v5cx,Zcx⟩⟩:=hx
    obtain⟨x36,hx36,hh⟩:=ag hh
    have ax36:=bm (eI .i64) hx36
    simp only[bo]at ax36
    have ax36:=bm (eI .i64) hx36
    simp only[bo]at ax36
    have p37:=dF (eI .i64) (x':=IntKind.i64.wrap (x36+s8cx)) (fo:=0) (cs:=[.int .i64 (IntKind.i64.wrap (x36+s8cx))]) hx36 rfl (agv rfl)
    simp only[bo,Nat.add_zero]at p37
    have up37:=p37
    simp only[putCells,List.length_cons,List.length_nil,afB,Nat.reduceAdd]at up37
    cases hh
    try simp only[eO,seval,-Int.reduceToNat,q2a,q2b,q2c,q2d,q2e,ax22,Zcx,ax36,ax36,p37,up37]
    apply iC
    refine⟨v5cx,?_,?_,?_,?_,?_,?_⟩
    all_goals first|rfl|(simp only[eO,seval,-Int.reduceToNat,q2a,q2b,q2c,q2d,q2e,ax22,Zcx,ax36,ax36,p37,up37]<;>rfl)
  ·cases hh
   try simp only[eO,seval,-Int.reduceToNat,q2a,q2b,q2c,q2d,q2e,Za]
   apply jP
   refine⟨rfl,⟨v5a,?_,?_⟩⟩
   all_goals first|rfl|(simp only[eO,seval,-Int.reduceToNat,q2a,q2b,q2c,q2d,q2e,Za]<;>rfl)
 ·rintro x t H e hx
  obtain⟨l5ax,rfl⟩:∃z,z=o20:=⟨_,rfl⟩
  dsimp only at hx hh
  obtain⟨rfl,⟨v5ax,Zax⟩⟩:=hx
  have i38:=Km [] [] l5ax
  try simp only[List.nil_append,agD,List.length_nil,a7,agN,bo]at i38
  obtain⟨r39,hr39,hh⟩:=ag hh
  cases hh
  try simp only[eO,seval,-Int.reduceToNat,q2a,q2b,q2c,q2d,q2e,Zax,i38,hr39]
theorem Es:bT Try.prog 103 vd:=bT.of (mode:=(.fresh 3 1)) tok Qo mixed Try.func103 (by kernel_rfl) ⟨by kernel_rfl,by kernel_rfl⟩ (fun _=>agv (by kernel_rfl)) (fun x r h=>Va x.1 x.2 r h)
def oY:=mkW 3 (eI .i64) (jE (lM (eI .i64)) (fH (aI .i64))) (fun (l:(List Int)) (x:(List Int)×Int)=>fA l x.1 x.2) (fun r:Int =>.clean (.int .i64 r))
theorem EE (pre post:List D) (p0:(List Int)) (p1:(List Int)) (p2:Int):oY (some (.buf 0 0 1 pre.length p0.length,⟨0,3,pre++(ae (eI .i64) p0++post),false,true,false⟩)) [.sl false false p1.length (ae (eI .i64) p1),.int .i64 p2]=(fA p0 p1 p2).map fun r=>(.clean (.int .i64 r.2),some ⟨0,3,pre++(ae (eI .i64) r.1++post),false,true,false⟩):=abP _ _ _ _ _ pre post p0 (p1,p2)
theorem D2 (pre post:List D) (p0:(List Int)) (p1:(List Int)) (p2:Int) (r:(List Int)×(Int)) (hh:fA p0 p1 p2=some r):a6 .clean tab aY FU Try.f105 (some (.buf 0 0 1 pre.length p0.length,⟨0,3,pre++(ae (eI .i64) p0++post),false,true,false⟩)) [.sl false false p1.length (ae (eI .i64) p1),.int .i64 p2]=some (.clean (.int .i64 r.2),some ⟨0,3,pre++(ae (eI .i64) r.1++post),false,true,false⟩):=by
 apply Fl rfl Try.ntmps105 Try.results105
 unfold fA at hh
 obtain⟨rw,hrw,hh⟩:=ag hh
 split at hh
 rotate_left
 ·cases hh
 cases hh
 rename_i hlen
 replace hh:=hrw
 unfold pk at hh
 try simp only[w,seval,-Int.reduceToNat]
 obtain⟨o9,ho9,hh⟩:=ag hh
 refine aB (fun s t H e=>match s with|(s7a,s14a,l0a)=>t 0=.buf 0 0 1 pre.length (l0a).length∧t 1=.sl false false p1.length (ae (eI .i64) p1)∧t 2=.int .i64 p2∧t 7=.int .i64 s7a∧t 13=.int .i64 ((p0).length:Int)∧t 14=.int .i64 s14a∧H 0=some ⟨0,3,pre++(ae (eI .i64) l0a++post),false,true,false⟩) (fun o x t H e=>match o with|(s7ax,l0ax)=>x=.exit 0∧t 0=.buf 0 0 1 pre.length (l0ax).length∧t 1=.sl false false p1.length (ae (eI .i64) p1)∧t 2=.int .i64 p2∧t 7=.int .i64 s7ax∧H 0=some ⟨0,3,pre++(ae (eI .i64) l0ax++post),false,true,false⟩) ho9 ?_ ?_ ?_
 ·refine⟨?_,?_,?_,?_,?_,?_,?_⟩
  all_goals first|rfl|(simp only[w,seval,-Int.reduceToNat]<;>rfl)
 ·rintro⟨s7a,s14a,l0a⟩ t H e Za c hh
  simp only[kN]at hh
  try simp only[w,seval,-Int.reduceToNat,Za]
  apply sp au hh<;>intro _ hh
  ·obtain⟨x11,hx11,hh⟩:=ag hh
   have ax11:=M4 (pre:=pre) (post:=post) (eI .i64) hx11
   simp only[bo]at ax11
   try simp only[w,seval,-Int.reduceToNat,Za,ax11]
   obtain⟨o12,ho12,hh⟩:=ag hh
   refine je 0 (fun s t H e=>match s with|s9j3=>t 0=.buf 0 0 1 pre.length (l0a).length∧t 1=.sl false false p1.length (ae (eI .i64) p1)∧t 2=.int .i64 p2∧t 8=.int .i64 s14a∧t 9=.int .i64 s9j3∧t 13=.int .i64 ((p0).length:Int)∧t 14=.int .i64 s14a∧H 0=some ⟨0,3,pre++(ae (eI .i64) l0a++post),false,true,false⟩) (fun s=>s=o12) ?_ ?_
   ·rintro s9j3 t H e Zj3 rfl
    try dsimp only at hh
    have ax11:=M4 (pre:=pre) (post:=post) (eI .i64) hx11
    simp only[bo]at ax11
    have p13:=OH (pre:=pre) (post:=post) (eI .i64) (y':=cV .and .i64 s9j3 1048575) hx11
    simp only[bo]at p13
    have up13:=p13
    simp only[putCells,List.length_cons,List.length_nil,afB,Nat.reduceAdd]at up13
    obtain⟨x14,hx14,hh⟩:=ag hh
    have q15:=gQ hx14
    cases hh
    try simp only[w,seval,-Int.reduceToNat,ax11,Zj3,ax11,p13,up13,q15]
    apply iC
    refine⟨?_,?_,?_,?_,?_,?_,?_⟩
    all_goals first|rfl|(simp only[w,seval,-Int.reduceToNat,ax11,Zj3,ax11,p13,up13,q15]<;>rfl)
   ·clear hh
    have hh:=ho12
    try simp only[w,seval,-Int.reduceToNat,Za,ax11]
    apply sp au hh<;>intro _ hh
    ·obtain⟨x17,hx17,hh⟩:=ag hh
     have ax17:=bm (eI .i64) hx17
     simp only[bo]at ax17
     cases hh
     try simp only[w,seval,-Int.reduceToNat,Za,ax11,ax17]
     rw[av]
     refine⟨_,rfl,?_⟩
     refine⟨?_,?_,?_,?_,?_,?_,?_,?_⟩
     all_goals first|rfl|(simp only[w,seval,-Int.reduceToNat,Za,ax11,ax17]<;>rfl)
    ·cases hh
     try simp only[w,seval,-Int.reduceToNat,Za,ax11]
     rw[av]
     refine⟨_,rfl,?_⟩
     refine⟨?_,?_,?_,?_,?_,?_,?_,?_⟩
     all_goals first|rfl|(simp only[w,seval,-Int.reduceToNat,Za,ax11]<;>rfl)
  ·cases hh
   try simp only[w,seval,-Int.reduceToNat,Za]
   apply jP
   refine⟨rfl,⟨?_,?_,?_,?_,?_⟩⟩
   all_goals first|rfl|(simp only[w,seval,-Int.reduceToNat,Za]<;>rfl)
 ·rintro x t H e hx
  rcases o9 with⟨s7ax,l0ax⟩
  dsimp only at hx hh
  obtain⟨rfl,Zax⟩:=hx
  try simp only[w,seval,-Int.reduceToNat,Zax]
  apply sp au hh<;>intro _ hh
  ·cases hh
   try simp only[w,seval,-Int.reduceToNat,Zax]
  ·try simp only[w,seval,-Int.reduceToNat,Zax]
   obtain⟨o27,ho27,hh⟩:=ag hh
   refine aB (fun s t H e=>match s with|(s10d,s49d,l0d)=>t 0=.buf 0 0 1 pre.length (l0d).length∧t 1=.sl false false p1.length (ae (eI .i64) p1)∧t 2=.int .i64 p2∧t 10=.int .i64 s10d∧t 48=.int .i64 ((l0ax).length:Int)∧t 49=.int .i64 s49d∧H 0=some ⟨0,3,pre++(ae (eI .i64) l0d++post),false,true,false⟩) (fun o x t H e=>match o with|l0dx=>x=.exit 2∧t 0=.buf 0 0 1 pre.length (l0dx).length∧t 2=.int .i64 p2∧H 0=some ⟨0,3,pre++(ae (eI .i64) l0dx++post),false,true,false⟩) ho27 ?_ ?_ ?_
   ·refine⟨?_,?_,?_,?_,?_,?_,?_⟩
    all_goals first|rfl|(simp only[w,seval,-Int.reduceToNat,Zax]<;>rfl)
   ·rintro⟨s10d,s49d,l0d⟩ t H e Zd c hh
    simp only[kO]at hh
    try simp only[w,seval,-Int.reduceToNat,Zd]
    apply sp au hh<;>intro _ hh
    ·obtain⟨x29,hx29,hh⟩:=ag hh
     have ax29:=M4 (pre:=pre) (post:=post) (eI .i64) hx29
     simp only[bo]at ax29
     try simp only[w,seval,-Int.reduceToNat,Zd,ax29]
     obtain⟨o30,ho30,hh⟩:=ag hh
     refine je 0 (fun s t H e=>match s with|s10j6=>t 0=.buf 0 0 1 pre.length (l0d).length∧t 1=.sl false false p1.length (ae (eI .i64) p1)∧t 2=.int .i64 p2∧t 10=.int .i64 s10j6∧t 11=.int .i64 s49d∧t 48=.int .i64 ((l0ax).length:Int)∧t 49=.int .i64 s49d∧H 0=some ⟨0,3,pre++(ae (eI .i64) l0d++post),false,true,false⟩) (fun s=>s=o30) ?_ ?_
     ·rintro s10j6 t H e Zj6 rfl
      try dsimp only at hh
      have ax29:=M4 (pre:=pre) (post:=post) (eI .i64) hx29
      simp only[bo]at ax29
      have p31:=OH (pre:=pre) (post:=post) (eI .i64) (y':=cV .and .i64 s10j6 1048575) hx29
      simp only[bo]at p31
      have up31:=p31
      simp only[putCells,List.length_cons,List.length_nil,afB,Nat.reduceAdd]at up31
      obtain⟨x32,hx32,hh⟩:=ag hh
      have q33:=gQ hx32
      cases hh
      try simp only[w,seval,-Int.reduceToNat,ax29,Zj6,ax29,p31,up31,q33]
      apply iC
      refine⟨?_,?_,?_,?_,?_,?_,?_⟩
      all_goals first|rfl|(simp only[w,seval,-Int.reduceToNat,ax29,Zj6,ax29,p31,up31,q33]<;>rfl)
     ·clear hh
      have hh:=ho30
      try simp only[w,seval,-Int.reduceToNat,Zd,ax29]
      apply sp au hh<;>intro _ hh
      ·obtain⟨x35,hx35,hh⟩:=ag hh
       have ax35:=bm (eI .i64) hx35
       simp only[bo]at ax35
       cases hh
       try simp only[w,seval,-Int.reduceToNat,Zd,ax29,ax35]
       rw[av]
       refine⟨_,rfl,?_⟩
       refine⟨?_,?_,?_,?_,?_,?_,?_,?_⟩
       all_goals first|rfl|(simp only[w,seval,-Int.reduceToNat,Zd,ax29,ax35]<;>rfl)
      ·cases hh
       try simp only[w,seval,-Int.reduceToNat,Zd,ax29]
       rw[av]
       refine⟨_,rfl,?_⟩
       refine⟨?_,?_,?_,?_,?_,?_,?_,?_⟩
       all_goals first|rfl|(simp only[w,seval,-Int.reduceToNat,Zd,ax29]<;>rfl)
    ·cases hh
     try simp only[w,seval,-Int.reduceToNat,Zd]
     apply jP
     refine⟨rfl,⟨?_,?_,?_⟩⟩
     all_goals first|rfl|(simp only[w,seval,-Int.reduceToNat,Zd]<;>rfl)
   ·rintro x t H e hx
    obtain⟨l0dx,rfl⟩:∃z,z=o27:=⟨_,rfl⟩
    dsimp only at hx hh
    obtain⟨rfl,Zdx⟩:=hx
    cases hh
    try simp only[w,seval,-Int.reduceToNat,Zdx]
theorem BM:bT Try.prog 105 oY:=bT.acL (mode := .clean) tok bq.none mixed Try.func105 (by kernel_rfl) ⟨by kernel_rfl,by kernel_rfl⟩ (fun _=>agv (by kernel_rfl)) (fun pre post l x l' r h=>D2 pre post l x.1 x.2 (l',r) h)
def va:=fR (jE (lM (eI .i64)) (fH (lM (eI .i64)))) (fun x:(List Int)×(List Int)=>p6 x.1 x.2) (fun r:(List Int)×(List Int) =>.clean (.tup [.sl false false r.1.length (ae (eI .i64) r.1),.sl false false r.2.length (ae (eI .i64) r.2)]))
theorem vY (p0:(List Int)) (p1:(List Int)):va none [.sl false false p0.length (ae (eI .i64) p0),.sl false false p1.length (ae (eI .i64) p1)]=(p6 p0 p1).map fun r:(List Int)×(List Int)=>(.clean (.tup [.sl false false r.1.length (ae (eI .i64) r.1),.sl false false r.2.length (ae (eI .i64) r.2)]),none):=aN _ _ _ (p0,p1)
def vI:Env:=(Am.ext (Am.ext (Am.ext (Am.ext (Am.ext (Am.ext aY 78 false kD) 82 false ie) 102 false kX) 103 false vd) 104 false tO) 105 true oY)
theorem Qn:bq Try.prog vI:=((((((bq.none.add pL false).add kV false).add nP false).add Es false).add Ka false).add BM true)
theorem aV:type_of% (ai @w<|ai @jn<|ai @eY<|ai @fp<|ai @oT<|ai @Bd<|@vI.eq_1):=⟨@w,@jn,@eY,@fp,@oT,@Bd,@vI.eq_1⟩
theorem U9 (p0:(List Int)) (p1:(List Int)) (r:(List Int)×(List Int)) (hh:p6 p0 p1=some r):a6 .clean tab vI FU Try.f83 none [.sl false false p0.length (ae (eI .i64) p0),.sl false false p1.length (ae (eI .i64) p1)]=some (.clean (.tup [.sl false false r.1.length (ae (eI .i64) r.1),.sl false false r.2.length (ae (eI .i64) r.2)]),none):=by
 apply aD rfl Try.ntmps83 Try.results83
 unfold p6 at hh
 obtain⟨r1,hr1,hh⟩:=ag hh
 try simp only[aV,seval,-Int.reduceToNat,hr1]
 apply sp au hh<;>intro _ hh
 ·obtain⟨r3,hr3,hh⟩:=ag hh
  cases hh
  try simp only[aV,seval,-Int.reduceToNat,hr1,hr3]
 ·try simp only[aV,seval,-Int.reduceToNat,hr1]
  apply sp au hh<;>intro _ hh
  ·obtain⟨x5,hx5,hh⟩:=ag hh
   have ax5:=bm (eI .i64) hx5
   simp only[bo]at ax5
   obtain⟨r6,hr6,hh⟩:=ag hh
   have i7:=fp ([r6.2])
   simp only[a7,bo,List.length_cons,List.length_nil,afB,Nat.reduceAdd,agN]at i7
   obtain⟨r8,hr8,hh⟩:=ag hh
   cases hh
   try simp only[aV,seval,-Int.reduceToNat,hr1,ax5,hr6,i7,hr8]
  ·try simp only[aV,seval,-Int.reduceToNat,hr1]
   obtain⟨o11,ho11,hh⟩:=ag hh
   refine aB (fun s t H e=>match s with|s8a=>t 0=.sl false false p0.length (ae (eI .i64) p0)∧t 1=.sl false false p1.length (ae (eI .i64) p1)∧t 8=.int .i64 s8a) (fun o x t H e=>match o with|s8ax=>x=.exit 0∧t 0=.sl false false p0.length (ae (eI .i64) p0)∧t 1=.sl false false p1.length (ae (eI .i64) p1)∧t 8=.int .i64 s8ax) ho11 ?_ ?_ ?_
   ·refine⟨?_,?_,?_⟩
    all_goals first|rfl|(simp only[aV,seval,-Int.reduceToNat,hr1]<;>rfl)
   ·rintro s8a t H e Za c hh
    simp only[rT]at hh
    obtain⟨x12,hx12,hh⟩:=ag hh
    have ax12:=bm (eI .i64) hx12
    simp only[bo]at ax12
    try simp only[aV,seval,-Int.reduceToNat,hr1,Za,ax12]
    apply sp au hh<;>intro _ hh
    ·cases hh
     try simp only[aV,seval,-Int.reduceToNat,hr1,Za,ax12]
     apply iC
     refine⟨?_,?_,?_⟩
     all_goals first|rfl|(simp only[aV,seval,-Int.reduceToNat,hr1,Za,ax12]<;>rfl)
    ·cases hh
     try simp only[aV,seval,-Int.reduceToNat,hr1,Za,ax12]
     apply jP
     refine⟨rfl,⟨?_,?_,?_⟩⟩
     all_goals first|rfl|(simp only[aV,seval,-Int.reduceToNat,hr1,Za,ax12]<;>rfl)
   ·rintro x t H e hx
    obtain⟨s8ax,rfl⟩:∃z,z=o11:=⟨_,rfl⟩
    dsimp only at hx hh
    obtain⟨rfl,Zax⟩:=hx
    have i14:=oT p0 ([s8ax])
    simp only[a7,bo,List.length_cons,List.length_nil,afB,Nat.reduceAdd,agN]at i14
    obtain⟨r15,hr15,hh⟩:=ag hh
    obtain⟨x16,hx16,hh⟩:=ag hh
    obtain⟨q17a,q17b,q17c,q17d⟩:=gI (eI .i64) hx16
    simp only[bo]at q17b
    have i18:=oT p1 ([s8ax])
    simp only[a7,bo,List.length_cons,List.length_nil,afB,Nat.reduceAdd,agN]at i18
    obtain⟨r19,hr19,hh⟩:=ag hh
    try simp only[aV,seval,-Int.reduceToNat,hr1,Zax,i14,hr15,q17a,q17b,q17c,q17d,i18,hr19]
    obtain⟨o20,ho20,hh⟩:=ag hh
    refine je 0 (fun s t H e=>match s with|l9j2=>∃v9j2:Nat,∃v10j2:Nat,t 8=.int .i64 s8ax∧t 9=.buf 9 v9j2 1 0 (l9j2).length∧t 10=.buf 10 v10j2 1 0 (r19).length∧H 9=some ⟨v9j2,3,ae (eI .i64) l9j2,false,true,false⟩∧H 10=some ⟨v10j2,3,ae (eI .i64) r19,false,true,false⟩) (fun s=>s=o20) ?_ ?_
    ·rintro l9j2 t H e ⟨v9j2,v10j2,Zj2⟩ rfl
     try dsimp only at hh
     obtain⟨x21,hx21,hh⟩:=ag hh
     obtain⟨q22a,q22b,q22c,q22d,q22e⟩:=mk_one (eI .i64) hx21
     simp only[bo]at q22d
     try simp only[aV,seval,-Int.reduceToNat,hr1,i14,hr15,q17a,q17b,q17c,q17d,i18,hr19,Zj2,q22a,q22b,q22c,q22d,q22e]
     obtain⟨o58,ho58,hh⟩:=ag hh
     refine aB (fun s t H e=>match s with|(s13c,l9c,l12c)=>∃v9c:Nat,∃v10c:Nat,∃v12c:Nat,∃z10c:Bool,t 8=.int .i64 s8ax∧t 9=.buf 9 v9c 1 0 (l9c).length∧t 10=.buf 10 v10c 1 0 (r19).length∧t 11=.int .i64 ((r19).length:Int)∧t 12=.buf 12 v12c 1 0 (l12c).length∧t 13=.int .i64 s13c∧H 9=some ⟨v9c,3,ae (eI .i64) l9c,false,true,false⟩∧H 10=some ⟨v10c,3,ae (eI .i64) r19,z10c,true,false⟩∧H 12=some ⟨v12c,3,ae (eI .i64) l12c,false,true,false⟩) (fun o x t H e=>match o with|(l9cx,l12cx)=>x=.exit 2∧∃v9cx:Nat,∃v12cx:Nat,t 8=.int .i64 s8ax∧t 9=.buf 9 v9cx 1 0 (l9cx).length∧t 12=.buf 12 v12cx 1 0 (l12cx).length∧H 9=some ⟨v9cx,3,ae (eI .i64) l9cx,false,true,false⟩∧H 12=some ⟨v12cx,3,ae (eI .i64) l12cx,false,true,false⟩) ho58 ?_ ?_ ?_
     ·refine⟨v9j2,v10j2,e+1,false,?_,?_,?_,?_,?_,?_,?_,?_,?_⟩
      all_goals first|rfl|(simp only[aV,seval,-Int.reduceToNat,hr1,i14,hr15,q17a,q17b,q17c,q17d,i18,hr19,Zj2,q22a,q22b,q22c,q22d,q22e]<;>rfl)
     ·rintro⟨s13c,l9c,l12c⟩ t H e ⟨v9c,v10c,v12c,z10c,Zc⟩ c hh
      simp only[rU]at hh
      try simp only[aV,seval,-Int.reduceToNat,hr1,i14,hr15,q17a,q17b,q17c,q17d,i18,hr19,q22a,q22b,q22c,q22d,q22e,Zc]
      apply sp au hh<;>intro _ hh
      ·obtain⟨x60,hx60,hh⟩:=ag hh
       have ax60:=bm (eI .i64) hx60
       simp only[bo]at ax60
       obtain⟨x61,hx61,hh⟩:=ag hh
       have q62:=km hx61
       obtain⟨x63,hx63,hh⟩:=ag hh
       have ax63:=bm (eI .i64) hx63
       simp only[bo]at ax63
       try simp only[aV,seval,-Int.reduceToNat,hr1,i14,hr15,q17a,q17b,q17c,q17d,i18,hr19,q22a,q22b,q22c,q22d,q22e,Zc,ax60,q62,ax63]
       refine bF (by kernel_rfl) ?_
       obtain⟨x64,hx64,hh⟩:=ag hh
       have ax64:=bm (eI .i64) hx64
       simp only[bo]at ax64
       obtain⟨x65,hx65,hh⟩:=ag hh
       have q66:=sb hx65
       have ax64:=bm (eI .i64) hx64
       simp only[bo]at ax64
       obtain⟨x67,hx67,hh⟩:=ag hh
       have q68:=nw hx67
       try simp only[aV,seval,-Int.reduceToNat,hr1,i14,hr15,q17a,q17b,q17c,q17d,i18,hr19,q22a,q22b,q22c,q22d,q22e,Zc,ax60,q62,ax63,ax64,q66,ax64,q68]
       refine bF (by kernel_rfl) ?_
       try simp only[aV,seval,-Int.reduceToNat,hr1,i14,hr15,q17a,q17b,q17c,q17d,i18,hr19,q22a,q22b,q22c,q22d,q22e,Zc,ax60,q62,ax63,ax64,q66,ax64,q68]
       obtain⟨o78,ho78,hh⟩:=ag hh
       refine aB (fun s t H e=>match s with|(s15g,s16g)=>∃v9g:Nat,∃v10g:Nat,∃v12g:Nat,∃z10g:Bool,t 8=.int .i64 s8ax∧t 9=.buf 9 v9g 1 0 (l9c).length∧t 10=.buf 10 v10g 1 0 (r19).length∧t 11=.int .i64 ((r19).length:Int)∧t 12=.buf 12 v12g 1 0 (l12c).length∧t 13=.int .i64 s13c∧t 15=.int .i64 s15g∧t 16=.int .i64 s16g∧H 9=some ⟨v9g,3,ae (eI .i64) l9c,false,true,false⟩∧H 10=some ⟨v10g,3,ae (eI .i64) r19,z10g,true,false⟩∧H 12=some ⟨v12g,3,ae (eI .i64) l12c,false,true,false⟩) (fun o x t H e=>match o with|s15gx=>x=.exit 4∧∃v9gx:Nat,∃v10gx:Nat,∃v12gx:Nat,∃z10gx:Bool,t 8=.int .i64 s8ax∧t 9=.buf 9 v9gx 1 0 (l9c).length∧t 10=.buf 10 v10gx 1 0 (r19).length∧t 11=.int .i64 ((r19).length:Int)∧t 12=.buf 12 v12gx 1 0 (l12c).length∧t 13=.int .i64 s13c∧t 15=.int .i64 s15gx∧H 9=some ⟨v9gx,3,ae (eI .i64) l9c,false,true,false⟩∧H 10=some ⟨v10gx,3,ae (eI .i64) r19,z10gx,true,false⟩∧H 12=some ⟨v12gx,3,ae (eI .i64) l12c,false,true,false⟩) ho78 ?_ ?_ ?_
       ·refine⟨v9c,v10c,v12c,z10c,?_,?_,?_,?_,?_,?_,?_,?_,?_,?_,?_⟩
        all_goals first|rfl|(simp only[aV,seval,-Int.reduceToNat,hr1,i14,hr15,q17a,q17b,q17c,q17d,i18,hr19,q22a,q22b,q22c,q22d,q22e,Zc,ax60,q62,ax63,ax64,q66,ax64,q68]<;>rfl)
       ·rintro⟨s15g,s16g⟩ t H e ⟨v9g,v10g,v12g,z10g,Zg⟩ c hh
        simp only[rV]at hh
        try simp only[aV,seval,-Int.reduceToNat,hr1,i14,hr15,q17a,q17b,q17c,q17d,i18,hr19,q22a,q22b,q22c,q22d,q22e,ax60,q62,ax63,ax64,q66,ax64,q68,Zg]
        obtain⟨o79,ho79,hh⟩:=ag hh
        refine YW 0 (fun s t H e=>match s with|s137j9=>∃v9j9:Nat,∃v10j9:Nat,∃v12j9:Nat,∃z10j9:Bool,t 8=.int .i64 s8ax∧t 9=.buf 9 v9j9 1 0 (l9c).length∧t 10=.buf 10 v10j9 1 0 (r19).length∧t 11=.int .i64 ((r19).length:Int)∧t 12=.buf 12 v12j9 1 0 (l12c).length∧t 13=.int .i64 s13c∧t 15=.int .i64 s15g∧t 16=.int .i64 s16g∧t 137=.bool s137j9∧H 9=some ⟨v9j9,3,ae (eI .i64) l9c,false,true,false⟩∧H 10=some ⟨v10j9,3,ae (eI .i64) r19,z10j9,true,false⟩∧H 12=some ⟨v12j9,3,ae (eI .i64) l12c,false,true,false⟩) (fun s=>s=o79) ?_ ?_
        ·rintro s137j9 t H e ⟨v9j9,v10j9,v12j9,z10j9,Zj9⟩ rfl
         try dsimp only at hh
         try simp only[aV,seval,-Int.reduceToNat,hr1,i14,hr15,q17a,q17b,q17c,q17d,i18,hr19,q22a,q22b,q22c,q22d,q22e,ax60,q62,ax63,ax64,q66,ax64,q68,Zj9]
         apply sp au hh<;>intro _ hh
         ·have ax64:=bm (eI .i64) hx64
          simp only[bo]at ax64
          cases hh
          try simp only[aV,seval,-Int.reduceToNat,hr1,i14,hr15,q17a,q17b,q17c,q17d,i18,hr19,q22a,q22b,q22c,q22d,q22e,ax60,q62,ax63,ax64,q66,ax64,q68,Zj9,ax64]
          apply iC
          refine⟨v9j9,v10j9,v12j9,z10j9,?_,?_,?_,?_,?_,?_,?_,?_,?_,?_,?_⟩
          all_goals first|rfl|(simp only[aV,seval,-Int.reduceToNat,hr1,i14,hr15,q17a,q17b,q17c,q17d,i18,hr19,q22a,q22b,q22c,q22d,q22e,ax60,q62,ax63,ax64,q66,ax64,q68,Zj9,ax64]<;>rfl)
         ·cases hh
          try simp only[aV,seval,-Int.reduceToNat,hr1,i14,hr15,q17a,q17b,q17c,q17d,i18,hr19,q22a,q22b,q22c,q22d,q22e,ax60,q62,ax63,ax64,q66,ax64,q68,Zj9]
          apply jP
          refine⟨rfl,⟨v9j9,v10j9,v12j9,z10j9,?_,?_,?_,?_,?_,?_,?_,?_,?_,?_⟩⟩
          all_goals first|rfl|(simp only[aV,seval,-Int.reduceToNat,hr1,i14,hr15,q17a,q17b,q17c,q17d,i18,hr19,q22a,q22b,q22c,q22d,q22e,ax60,q62,ax63,ax64,q66,ax64,q68,Zj9]<;>rfl)
        ·clear hh
         have hh:=ho79
         try simp only[aV,seval,-Int.reduceToNat,hr1,i14,hr15,q17a,q17b,q17c,q17d,i18,hr19,q22a,q22b,q22c,q22d,q22e,ax60,q62,ax63,ax64,q66,ax64,q68,Zg]
         apply sp YV hh<;>intro _ hh
         ·try simp only[aV,seval,-Int.reduceToNat,hr1,i14,hr15,q17a,q17b,q17c,q17d,i18,hr19,q22a,q22b,q22c,q22d,q22e,ax60,q62,ax63,ax64,q66,ax64,q68,Zg]
          refine bF (by kernel_rfl) ?_
          cases hh
          try simp only[aV,seval,-Int.reduceToNat,hr1,i14,hr15,q17a,q17b,q17c,q17d,i18,hr19,q22a,q22b,q22c,q22d,q22e,ax60,q62,ax63,ax64,q66,ax64,q68,Zg]
          rw[av]
          refine⟨_,rfl,?_⟩
          refine⟨v9g,v10g,v12g,z10g,?_,?_,?_,?_,?_,?_,?_,?_,?_,?_,?_,?_⟩
          all_goals first|rfl|(simp only[aV,seval,-Int.reduceToNat,hr1,i14,hr15,q17a,q17b,q17c,q17d,i18,hr19,q22a,q22b,q22c,q22d,q22e,ax60,q62,ax63,ax64,q66,ax64,q68,Zg]<;>rfl)
         ·try simp only[aV,seval,-Int.reduceToNat,hr1,i14,hr15,q17a,q17b,q17c,q17d,i18,hr19,q22a,q22b,q22c,q22d,q22e,ax60,q62,ax63,ax64,q66,ax64,q68,Zg]
          apply sp Uf hh<;>intro _ hh
          ·obtain⟨x83,hx83,hh⟩:=ag hh
           have ax83:=bm (eI .i64) hx83
           simp only[bo]at ax83
           obtain⟨x84,hx84,hh⟩:=ag hh
           have q85:=km hx84
           obtain⟨x86,hx86,hh⟩:=ag hh
           have ax86:=bm (eI .i64) hx86
           simp only[bo]at ax86
           try simp only[aV,seval,-Int.reduceToNat,hr1,i14,hr15,q17a,q17b,q17c,q17d,i18,hr19,q22a,q22b,q22c,q22d,q22e,ax60,q62,ax63,ax64,q66,ax64,q68,Zg,ax83,q85,ax86]
           refine bF (by kernel_rfl) ?_
           cases hh
           try simp only[aV,seval,-Int.reduceToNat,hr1,i14,hr15,q17a,q17b,q17c,q17d,i18,hr19,q22a,q22b,q22c,q22d,q22e,ax60,q62,ax63,ax64,q66,ax64,q68,Zg,ax83,q85,ax86]
           rw[av]
           refine⟨_,rfl,?_⟩
           refine⟨v9g,v10g,v12g,z10g,?_,?_,?_,?_,?_,?_,?_,?_,?_,?_,?_,?_⟩
           all_goals first|rfl|(simp only[aV,seval,-Int.reduceToNat,hr1,i14,hr15,q17a,q17b,q17c,q17d,i18,hr19,q22a,q22b,q22c,q22d,q22e,ax60,q62,ax63,ax64,q66,ax64,q68,Zg,ax83,q85,ax86]<;>rfl)
          ·try simp only[aV,seval,-Int.reduceToNat,hr1,i14,hr15,q17a,q17b,q17c,q17d,i18,hr19,q22a,q22b,q22c,q22d,q22e,ax60,q62,ax63,ax64,q66,ax64,q68,Zg]
           refine bF (by kernel_rfl) ?_
           cases hh
           try simp only[aV,seval,-Int.reduceToNat,hr1,i14,hr15,q17a,q17b,q17c,q17d,i18,hr19,q22a,q22b,q22c,q22d,q22e,ax60,q62,ax63,ax64,q66,ax64,q68,Zg]
           rw[av]
           refine⟨_,rfl,?_⟩
           refine⟨v9g,v10g,v12g,z10g,?_,?_,?_,?_,?_,?_,?_,?_,?_,?_,?_,?_⟩
           all_goals first|rfl|(simp only[aV,seval,-Int.reduceToNat,hr1,i14,hr15,q17a,q17b,q17c,q17d,i18,hr19,q22a,q22b,q22c,q22d,q22e,ax60,q62,ax63,ax64,q66,ax64,q68,Zg]<;>rfl)
       ·rintro x t H e hx
        obtain⟨s15gx,rfl⟩:∃z,z=o78:=⟨_,rfl⟩
        dsimp only at hx hh
        obtain⟨rfl,⟨v9gx,v10gx,v12gx,z10gx,Zgx⟩⟩:=hx
        obtain⟨x87,hx87,hh⟩:=ag hh
        obtain⟨q88a,q88b,q88c,q88d,q88e⟩:=ab3 (eI .i64) hx87
        simp only[bo]at q88e
        have i89:=EE (ae (eI .i64) (l9c.take (s13c).toNat)) (ae (eI .i64) (l9c.drop (IntKind.i64.wrap ((IntKind.i64.wrap (s13c+((r19).length:Int)))+1)).toNat)) x87 r19 s15gx
        simp only[aam,aan (eI .i64) hx87,aao (eI .i64) hx87,abi hx87,bo,Int.toNat_zero,agB,Nat.sub_zero]at i89
        obtain⟨r90,hr90,hh⟩:=ag hh
        have q91l:=zV hr90
        have q91m:=Y1 hx87 q91l
        obtain⟨x92,hx92,hh⟩:=ag hh
        have ax92:=bm (eI .i64) hx92
        simp only[bo]at ax92
        have p93:=dF (eI .i64) (x':=r90.2) (fo:=0) (cs:=[.int .i64 r90.2]) hx92 rfl (agv rfl)
        simp only[bo,Nat.add_zero]at p93
        have up93:=p93
        simp only[putCells,List.length_cons,List.length_nil,afB,Nat.reduceAdd]at up93
        cases hh
        try simp only[aV,seval,-Int.reduceToNat,hr1,i14,hr15,q17a,q17b,q17c,q17d,i18,hr19,q22a,q22b,q22c,q22d,q22e,ax60,q62,ax63,ax64,q66,ax64,q68,Zgx,q88a,q88b,q88c,q88e,i89,hr90,q91m,ax92,p93,up93]
        apply iC
        refine⟨v9gx,v10gx,v12gx,true,?_,?_,?_,?_,?_,?_,?_,?_,?_⟩
        all_goals first|rfl|(simp only[aV,seval,-Int.reduceToNat,hr1,i14,hr15,q17a,q17b,q17c,q17d,i18,hr19,q22a,q22b,q22c,q22d,q22e,ax60,q62,ax63,ax64,q66,ax64,q68,Zgx,q88a,q88b,q88c,q88e,i89,hr90,q91m,ax92,p93,up93]<;>rfl)
      ·cases hh
       try simp only[aV,seval,-Int.reduceToNat,hr1,i14,hr15,q17a,q17b,q17c,q17d,i18,hr19,q22a,q22b,q22c,q22d,q22e,Zc]
       apply jP
       refine⟨rfl,⟨v9c,v12c,?_,?_,?_,?_,?_⟩⟩
       all_goals first|rfl|(simp only[aV,seval,-Int.reduceToNat,hr1,i14,hr15,q17a,q17b,q17c,q17d,i18,hr19,q22a,q22b,q22c,q22d,q22e,Zc]<;>rfl)
     ·rintro x t H e hx
      rcases o58 with⟨l9cx,l12cx⟩
      dsimp only at hx hh
      obtain⟨rfl,⟨v9cx,v12cx,Zcx⟩⟩:=hx
      obtain⟨r94,hr94,hh⟩:=ag hh
      obtain⟨r95,hr95,hh⟩:=ag hh
      obtain⟨r96,hr96,hh⟩:=ag hh
      cases hh
      try simp only[aV,seval,-Int.reduceToNat,hr1,i14,hr15,q17a,q17b,q17c,q17d,i18,hr19,q22a,q22b,q22c,q22d,q22e,Zcx,hr94,hr95,hr96]
    ·clear hh
     have hh:=ho20
     try simp only[aV,seval,-Int.reduceToNat,hr1,Zax,i14,hr15,q17a,q17b,q17c,q17d,i18,hr19]
     apply sp au hh<;>intro _ hh
     ·obtain⟨x98,hx98,hh⟩:=ag hh
      obtain⟨q99a,q99b,q99c,q99d⟩:=gI (eI .i64) hx98
      simp only[bo]at q99b
      cases hh
      try simp only[aV,seval,-Int.reduceToNat,hr1,Zax,i14,hr15,q17a,q17b,q17c,q17d,i18,hr19,q99a,q99b,q99c,q99d]
      rw[av]
      refine⟨_,rfl,?_⟩
      refine⟨e+1+1,e,?_,?_,?_,?_,?_⟩
      all_goals first|rfl|(simp only[aV,seval,-Int.reduceToNat,hr1,Zax,i14,hr15,q17a,q17b,q17c,q17d,i18,hr19,q99a,q99b,q99c,q99d]<;>rfl)
     ·cases hh
      try simp only[aV,seval,-Int.reduceToNat,hr1,Zax,i14,hr15,q17a,q17b,q17c,q17d,i18,hr19]
      rw[av]
      refine⟨_,rfl,?_⟩
      refine⟨e,e,?_,?_,?_,?_,?_⟩
      all_goals first|rfl|(simp only[aV,seval,-Int.reduceToNat,hr1,Zax,i14,hr15,q17a,q17b,q17c,q17d,i18,hr19]<;>rfl)
theorem Er:bT Try.prog 83 va:=bT.of (mode := .clean) tok Qn mixed Try.func83 (by kernel_rfl) ⟨by kernel_rfl,by kernel_rfl⟩ (fun _=>agv (by kernel_rfl)) (fun x r h=>U9 x.1 x.2 r h)
def gH:=fR (jE (aI .i64) (fH (lM (eI .i64)))) (fun x:Int×(List Int)=>cv x.1 x.2) (fun r:aq =>.clean (.agg [.int .i64 r.ah,.sl false false r.aa.length (ae (eI .i64) r.aa)]))
theorem dG (p0:Int) (p1:(List Int)):gH none [.int .i64 p0,.sl false false p1.length (ae (eI .i64) p1)]=(cv p0 p1).map fun r:aq=>(.clean (.agg [.int .i64 r.ah,.sl false false r.aa.length (ae (eI .i64) r.aa)]),none):=aN _ _ _ (p0,p1)
def oB:Env:=(Am.ext aY 102 false kX)
theorem FA:bq Try.prog oB:=(bq.none.add nP false)
theorem sX:type_of% (ai @w<|ai @fp<|@oB.eq_1):=⟨@w,@fp,@oB.eq_1⟩
theorem JS (p0:Int) (p1:(List Int)) (r:aq) (hh:cv p0 p1=some r):a6 .clean tab oB FU Try.f76 none [.int .i64 p0,.sl false false p1.length (ae (eI .i64) p1)]=some (.clean (.agg [.int .i64 r.ah,.sl false false r.aa.length (ae (eI .i64) r.aa)]),none):=by
 apply aD rfl Try.ntmps76 Try.results76
 unfold cv at hh
 obtain⟨r1,hr1,hh⟩:=ag hh
 try simp only[sX,seval,hr1]
 apply sp au hh<;>intro _ hh
 ·cases hh
  try simp only[sX,seval,hr1]
 ·cases hh
  try simp only[sX,seval,hr1]
theorem jm:bT Try.prog 76 gH:=bT.of (mode := .clean) tok FA mixed Try.func76 (by kernel_rfl) ⟨by kernel_rfl,by kernel_rfl⟩ (fun _=>agv (by kernel_rfl)) (fun x r h=>JS x.1 x.2 r h)
def u6:=fR (jE (dk fb) (fH (dk fb))) (fun x:aq×aq=>ou x.1 x.2) (fun r:aq×Int =>.clean (.tup [.agg [.int .i64 r.1.ah,.sl false false r.1.aa.length (ae (eI .i64) r.1.aa)],.int .i64 r.2]))
theorem vW (p0_0:Int) (p0_1:(List Int)) (p1_0:Int) (p1_1:(List Int)):u6 none [.agg [.int .i64 p0_0,.sl false false p0_1.length (ae (eI .i64) p0_1)],.agg [.int .i64 p1_0,.sl false false p1_1.length (ae (eI .i64) p1_1)]]=(ou (aq.mk p0_0 p0_1) (aq.mk p1_0 p1_1)).map fun r:aq×Int=>(.clean (.tup [.agg [.int .i64 r.1.ah,.sl false false r.1.aa.length (ae (eI .i64) r.1.aa)],.int .i64 r.2]),none):=aN _ _ _ ((aq.mk p0_0 p0_1),(aq.mk p1_0 p1_1))
def vD:Env:=(Am.keep 6 (Am.ext (Am.ext (Am.ext (Am.ext (Am.ext aY 50 false eV) 75 false kC) 76 false gH) 82 false ie) 83 false va))
theorem Qi:bq Try.prog vD:=(bq.keep (((((bq.none.add fG false).add pK false).add jm false).add kV false).add Er false) 6)
theorem dQ:type_of% (ai @w<|ai @ch<|ai @eT<|ai @dG<|ai @eY<|ai @vY<|@vD.eq_1):=⟨@w,@ch,@eT,@dG,@eY,@vY,@vD.eq_1⟩
theorem U4 (p0:aq) (p1:aq) (r:aq×Int) (hh:ou p0 p1=some r):a6 .clean tab vD FU Try.f51 none [.agg [.int .i64 p0.ah,.sl false false p0.aa.length (ae (eI .i64) p0.aa)],.agg [.int .i64 p1.ah,.sl false false p1.aa.length (ae (eI .i64) p1.aa)]]=some (.clean (.tup [.agg [.int .i64 r.1.ah,.sl false false r.1.aa.length (ae (eI .i64) r.1.aa)],.int .i64 r.2]),none):=by
 apply aD rfl Try.ntmps51 Try.results51
 unfold ou at hh
 obtain⟨r1,hr1,hh⟩:=ag hh
 try simp only[dQ,seval,hr1]
 obtain⟨o2,ho2,hh⟩:=ag hh
 refine bP 0 (fun s t H e=>match s with|s17j1=>∃v2j1:Nat,∃v3j1:Nat,∃v4j1:Nat,t 2=.ptr 2 v2j1 0∧t 3=.ptr 3 v3j1 0∧t 4=.ptr 4 v4j1 0∧t 17=.bool s17j1∧H 2=some ⟨v2j1,39,[.int .i64 p0.ah,.sl false false p0.aa.length (ae (eI .i64) p0.aa)],false,false,false⟩∧H 3=some ⟨v3j1,39,[.int .i64 p1.ah,.sl false false p1.aa.length (ae (eI .i64) p1.aa)],false,false,false⟩∧H 4=some ⟨v4j1,39,[.int .i64 0,.sl true true 0 []],false,false,false⟩) (fun s=>s=o2) ?_ ?_
 ·rintro s17j1 t H e ⟨v2j1,v3j1,v4j1,Zj1⟩ rfl
  try dsimp only at hh
  try simp only[dQ,seval,hr1,Zj1]
  apply sp au hh<;>intro _ hh
  ·have i4:=eT false 0 ([])
   simp only[a7,bo,List.length_cons,List.length_nil,afB,Nat.reduceAdd,agN]at i4
   obtain⟨r5,hr5,hh⟩:=ag hh
   cases hh
   try simp only[dQ,seval,hr1,Zj1,i4,hr5]
  ·obtain⟨r6,hr6,hh⟩:=ag hh
   try simp only[dQ,seval,hr1,Zj1,hr6]
   refine bF (by kernel_rfl) ?_
   try simp only[dQ,seval,hr1,Zj1,hr6]
   obtain⟨o9,ho9,hh⟩:=ag hh
   refine aB (fun s t H e=>match s with|(s6b,s7b)=>∃v4b:Nat,t 4=.ptr 4 v4b 0∧t 6=.sl false false s6b.length (ae (eI .i64) s6b)∧t 7=.sl false false s7b.length (ae (eI .i64) s7b)∧H 4=some ⟨v4b,39,[.int .i64 0,.sl true true 0 []],false,false,false⟩) (fun o x t H e=>match o with|s6bx=>x=.exit 0∧∃v4bx:Nat,t 4=.ptr 4 v4bx 0∧t 6=.sl false false s6bx.length (ae (eI .i64) s6bx)∧H 4=some ⟨v4bx,39,[.int .i64 0,.sl true true 0 []],false,false,false⟩) ho9 ?_ ?_ ?_
   ·refine⟨v4j1,?_,?_,?_,?_⟩
    all_goals first|rfl|(simp only[dQ,seval,hr1,Zj1,hr6]<;>rfl)
   ·rintro⟨s6b,s7b⟩ t H e ⟨v4b,Zb⟩ c hh
    simp only[pg]at hh
    try simp only[dQ,seval,hr1,hr6,Zb]
    apply sp au hh<;>intro _ hh
    ·obtain⟨r11,hr11,hh⟩:=ag hh
     cases hh
     try simp only[dQ,seval,hr1,hr6,Zb,hr11]
     apply iC
     refine⟨v4b,?_,?_,?_,?_⟩
     all_goals first|rfl|(simp only[dQ,seval,hr1,hr6,Zb,hr11]<;>rfl)
    ·cases hh
     try simp only[dQ,seval,hr1,hr6,Zb]
     apply jP
     refine⟨rfl,⟨v4b,?_,?_,?_⟩⟩
     all_goals first|rfl|(simp only[dQ,seval,hr1,hr6,Zb]<;>rfl)
   ·rintro x t H e hx
    obtain⟨s6bx,rfl⟩:∃z,z=o9:=⟨_,rfl⟩
    dsimp only at hx hh
    obtain⟨rfl,⟨v4bx,Zbx⟩⟩:=hx
    obtain⟨r12,hr12,hh⟩:=ag hh
    obtain⟨r13,hr13,hh⟩:=ag hh
    obtain⟨r14,hr14,hh⟩:=ag hh
    cases hh
    try simp only[dQ,seval,hr1,hr6,Zbx,hr12,hr13,hr14]
 ·clear hh
  have hh:=ho2
  try simp only[dQ,seval,hr1]
  apply sp bc hh<;>intro _ hh
  ·cases hh
   try simp only[dQ,seval,hr1]
   rw[av]
   refine⟨_,rfl,?_⟩
   refine⟨0,0,0,?_,?_,?_,?_,?_,?_,?_⟩
   all_goals first|rfl|(simp only[dQ,seval,hr1]<;>rfl)
  ·obtain⟨r16,hr16,hh⟩:=ag hh
   cases hh
   try simp only[dQ,seval,hr1,hr16]
   rw[av]
   refine⟨_,rfl,?_⟩
   refine⟨0,0,0,?_,?_,?_,?_,?_,?_,?_⟩
   all_goals first|rfl|(simp only[dQ,seval,hr1,hr16]<;>rfl)
theorem En:bT Try.prog 51 u6:=bT.of (mode := .clean) tok Qi mixed Try.func51 (by kernel_rfl) ⟨by kernel_rfl,by kernel_rfl⟩ (fun _=>agv (by kernel_rfl)) (fun x r h=>U4 x.1 x.2 r h)
def zr:=fR (fH (dk fb)) (fun x:aq=>rQ x) (fun r:Int×Bool =>.clean (.tup [.int .i64 r.1,.bool r.2]))
theorem Ie (p0_0:Int) (p0_1:(List Int)):zr none [.agg [.int .i64 p0_0,.sl false false p0_1.length (ae (eI .i64) p0_1)]]=(rQ (aq.mk p0_0 p0_1)).map fun r:Int×Bool=>(.clean (.tup [.int .i64 r.1,.bool r.2]),none):=aN _ _ _ ((aq.mk p0_0 p0_1))
def vE:Env:=(Am.ext aY 50 false eV)
theorem Qj:bq Try.prog vE:=(bq.none.add fG false)
theorem bh:type_of% (ai @w<|ai @ch<|@vE.eq_1):=⟨@w,@ch,@vE.eq_1⟩
theorem U5 (p0:aq) (r:Int×Bool) (hh:rQ p0=some r):a6 .clean tab vE FU Try.f84 none [.agg [.int .i64 p0.ah,.sl false false p0.aa.length (ae (eI .i64) p0.aa)]]=some (.clean (.tup [.int .i64 r.1,.bool r.2]),none):=by
 apply aD rfl Try.ntmps84 Try.results84
 unfold rQ at hh
 obtain⟨r1,hr1,hh⟩:=ag hh
 try simp only[bh,seval,-Int.reduceToNat,hr1]
 obtain⟨o2,ho2,hh⟩:=ag hh
 refine bP 0 (fun s t H e=>match s with|s15j1=>∃v1j1:Nat,t 1=.ptr 1 v1j1 0∧t 15=.bool s15j1∧H 1=some ⟨v1j1,39,[.int .i64 p0.ah,.sl false false p0.aa.length (ae (eI .i64) p0.aa)],false,false,false⟩) (fun s=>s=o2) ?_ ?_
 ·rintro s15j1 t H e ⟨v1j1,Zj1⟩ rfl
  try dsimp only at hh
  try simp only[bh,seval,-Int.reduceToNat,hr1,Zj1]
  apply sp au hh<;>intro _ hh
  ·cases hh
   try simp only[bh,seval,-Int.reduceToNat,hr1,Zj1]
  ·try simp only[bh,seval,-Int.reduceToNat,hr1,Zj1]
   obtain⟨o11,ho11,hh⟩:=ag hh
   refine aB (fun s t H e=>match s with|(s4b,s19b)=>∃v1b:Nat,t 1=.ptr 1 v1b 0∧t 4=.int .u64 s4b∧t 17=.sl false false p0.aa.length (ae (eI .i64) p0.aa)∧t 18=.int .i64 (p0.aa.length:Int)∧t 19=.int .i64 s19b∧H 1=some ⟨v1b,39,[.int .i64 p0.ah,.sl false false p0.aa.length (ae (eI .i64) p0.aa)],false,false,false⟩) (fun o x t H e=>match o with|(.inl s4bx)=>x=.exit 0∧∃v1bx:Nat,t 1=.ptr 1 v1bx 0∧t 4=.int .u64 s4bx∧H 1=some ⟨v1bx,39,[.int .i64 p0.ah,.sl false false p0.aa.length (ae (eI .i64) p0.aa)],false,false,false⟩|(.inr r)=>x=.ret∧iP .clean tab none [.tmp 2,.tmp 3] ⟨t,EH H,e⟩=some (.clean (.tup [.int .i64 r.1,.bool r.2]),none)) ho11 ?_ ?_ ?_
   ·refine⟨v1j1,?_,?_,?_,?_,?_,?_⟩
    all_goals first|rfl|(simp only[bh,seval,-Int.reduceToNat,hr1,Zj1]<;>rfl)
   ·rintro⟨s4b,s19b⟩ t H e ⟨v1b,Zb⟩ c hh
    simp only[rR]at hh
    try simp only[bh,seval,-Int.reduceToNat,hr1,Zb]
    apply sp au hh<;>intro _ hh
    ·obtain⟨x13,hx13,hh⟩:=ag hh
     have ax13:=bm (eI .i64) hx13
     simp only[bo]at ax13
     try simp only[bh,seval,-Int.reduceToNat,hr1,Zb,ax13]
     obtain⟨o14,ho14,hh⟩:=ag hh
     refine bP 0 (fun s t H e=>match s with|s29j4=>∃v1j4:Nat,t 1=.ptr 1 v1j4 0∧t 4=.int .u64 s4b∧t 5=.int .i64 s19b∧t 6=.int .i64 x13∧t 17=.sl false false p0.aa.length (ae (eI .i64) p0.aa)∧t 18=.int .i64 (p0.aa.length:Int)∧t 19=.int .i64 s19b∧t 29=.bool s29j4∧H 1=some ⟨v1j4,39,[.int .i64 p0.ah,.sl false false p0.aa.length (ae (eI .i64) p0.aa)],false,false,false⟩) (fun s=>s=o14) ?_ ?_
     ·rintro s29j4 t H e ⟨v1j4,Zj4⟩ rfl
      try dsimp only at hh
      try simp only[bh,seval,-Int.reduceToNat,hr1,ax13,Zj4]
      apply sp au hh<;>intro _ hh
      ·cases hh
       try simp only[bh,seval,-Int.reduceToNat,hr1,ax13,Zj4]
       refine BI ⟨rfl,?_⟩
       try simp only[bh,seval,-Int.reduceToNat,hr1,ax13,Zj4]
      ·obtain⟨x16,hx16,hh⟩:=ag hh
       have q17:=km hx16
       cases hh
       try simp only[bh,seval,-Int.reduceToNat,hr1,ax13,Zj4,q17]
       apply iC
       refine⟨v1j4,?_,?_,?_,?_,?_,?_⟩
       all_goals first|rfl|(simp only[bh,seval,-Int.reduceToNat,hr1,ax13,Zj4,q17]<;>rfl)
     ·clear hh
      have hh:=ho14
      try simp only[bh,seval,-Int.reduceToNat,hr1,Zb,ax13]
      apply sp dj hh<;>intro _ hh
      ·cases hh
       try simp only[bh,seval,-Int.reduceToNat,hr1,Zb,ax13]
       rw[av]
       refine⟨_,rfl,?_⟩
       refine⟨v1b,?_,?_,?_,?_,?_,?_,?_,?_,?_⟩
       all_goals first|rfl|(simp only[bh,seval,-Int.reduceToNat,hr1,Zb,ax13]<;>rfl)
      ·cases hh
       try simp only[bh,seval,-Int.reduceToNat,hr1,Zb,ax13]
       rw[av]
       refine⟨_,rfl,?_⟩
       refine⟨v1b,?_,?_,?_,?_,?_,?_,?_,?_,?_⟩
       all_goals first|rfl|(simp only[bh,seval,-Int.reduceToNat,hr1,Zb,ax13]<;>rfl)
    ·cases hh
     try simp only[bh,seval,-Int.reduceToNat,hr1,Zb]
     apply jP
     refine⟨rfl,⟨v1b,?_,?_,?_⟩⟩
     all_goals first|rfl|(simp only[bh,seval,-Int.reduceToNat,hr1,Zb]<;>rfl)
   ·rintro x t H e hx
    rcases o11 with s4bx|rb
    ·dsimp only at hx hh
     obtain⟨rfl,⟨v1bx,Zbx⟩⟩:=hx
     try simp only[bh,seval,-Int.reduceToNat,hr1,Zbx]
     obtain⟨o19,ho19,hh⟩:=ag hh
     refine bP 0 (fun s t H e=>match s with|s38j5=>∃v1j5:Nat,t 1=.ptr 1 v1j5 0∧t 4=.int .u64 s4bx∧t 38=.bool s38j5∧H 1=some ⟨v1j5,39,[.int .i64 p0.ah,.sl false false p0.aa.length (ae (eI .i64) p0.aa)],false,false,false⟩) (fun s=>s=o19) ?_ ?_
     ·rintro s38j5 t H e ⟨v1j5,Zj5⟩ rfl
      try dsimp only at hh
      try simp only[bh,seval,-Int.reduceToNat,hr1,Zj5]
      apply sp au hh<;>intro _ hh
      ·cases hh
       try simp only[bh,seval,-Int.reduceToNat,hr1,Zj5]
      ·try simp only[bh,seval,-Int.reduceToNat,hr1,Zj5]
       apply sp dj hh<;>intro _ hh
       ·try simp only[bh,seval,-Int.reduceToNat,hr1,Zj5]
        apply sp au hh<;>intro _ hh
        ·cases hh
         try simp only[bh,seval,-Int.reduceToNat,hr1,Zj5]
        ·cases hh
         try simp only[bh,seval,-Int.reduceToNat,hr1,Zj5]
       ·cases hh
        try simp only[bh,seval,-Int.reduceToNat,hr1,Zj5]
     ·clear hh
      have hh:=ho19
      try simp only[bh,seval,-Int.reduceToNat,hr1,Zbx]
      apply sp dj hh<;>intro _ hh
      ·cases hh
       try simp only[bh,seval,-Int.reduceToNat,hr1,Zbx]
       rw[av]
       refine⟨_,rfl,?_⟩
       refine⟨v1bx,?_,?_,?_,?_⟩
       all_goals first|rfl|(simp only[bh,seval,-Int.reduceToNat,hr1,Zbx]<;>rfl)
      ·cases hh
       try simp only[bh,seval,-Int.reduceToNat,hr1,Zbx]
       rw[av]
       refine⟨_,rfl,?_⟩
       refine⟨v1bx,?_,?_,?_,?_⟩
       all_goals first|rfl|(simp only[bh,seval,-Int.reduceToNat,hr1,Zbx]<;>rfl)
    ·dsimp only at hx hh
     obtain⟨rfl,hE⟩:=hx
     cases hh
     try simp only[bn,bg,bB,dn,dm,ct,cu]
     exact hE
 ·clear hh
  have hh:=ho2
  try simp only[bh,seval,-Int.reduceToNat,hr1]
  apply sp bc hh<;>intro _ hh
  ·cases hh
   try simp only[bh,seval,-Int.reduceToNat,hr1]
   rw[av]
   refine⟨_,rfl,?_⟩
   refine⟨0,?_,?_,?_⟩
   all_goals first|rfl|(simp only[bh,seval,-Int.reduceToNat,hr1]<;>rfl)
  ·cases hh
   try simp only[bh,seval,-Int.reduceToNat,hr1]
   rw[av]
   refine⟨_,rfl,?_⟩
   refine⟨0,?_,?_,?_⟩
   all_goals first|rfl|(simp only[bh,seval,-Int.reduceToNat,hr1]<;>rfl)
theorem QZ:bT Try.prog 84 zr:=bT.of (mode := .clean) tok Qj mixed Try.func84 (by kernel_rfl) ⟨by kernel_rfl,by kernel_rfl⟩ (fun _=>agv (by kernel_rfl)) (fun x r h=>U5 x r h)
def w9:=fR (fH (dk fb)) (fun x:aq=>pE x) (fun r:Bool =>.clean (.bool r))
theorem EI (p0_0:Int) (p0_1:(List Int)):w9 none [.agg [.int .i64 p0_0,.sl false false p0_1.length (ae (eI .i64) p0_1)]]=(pE (aq.mk p0_0 p0_1)).map fun r:Bool=>(.clean (.bool r),none):=aN _ _ _ ((aq.mk p0_0 p0_1))
def sk:Env:=(Am.ext aY 84 false zr)
theorem MI:bq Try.prog sk:=(bq.none.add QZ false)
theorem xI:type_of% (ai @w<|ai @Ie<|@sk.eq_1):=⟨@w,@Ie,@sk.eq_1⟩
theorem QK (p0:aq) (r:Bool) (hh:pE p0=some r):a6 .clean tab sk FU Try.f52 none [.agg [.int .i64 p0.ah,.sl false false p0.aa.length (ae (eI .i64) p0.aa)]]=some (.clean (.bool r),none):=by
 apply aD rfl Try.ntmps52 Try.results52
 unfold pE at hh
 obtain⟨r1,hr1,hh⟩:=ag hh
 try simp only[xI,seval,hr1]
 apply sp dj hh<;>intro _ hh
 ·cases hh
  try simp only[xI,seval,hr1]
 ·cases hh
  try simp only[xI,seval,hr1]
theorem Ov:bT Try.prog 52 w9:=bT.of (mode := .clean) tok MI mixed Try.func52 (by kernel_rfl) ⟨by kernel_rfl,by kernel_rfl⟩ (fun _=>agv (by kernel_rfl)) (fun x r h=>QK x r h)
def ec:=fR (fH (dk an)) (fun x:al=>bZ x) (fun r:Bool =>.clean (.bool r))
theorem bV (p0_0:Int) (p0_1:(List Int)) (p0_2:Int) (p0_3:(List Int)):ec none [.agg [.int .i64 p0_0,.sl false false p0_1.length (ae (eI .i64) p0_1),.int .i64 p0_2,.sl false false p0_3.length (ae (eI .i64) p0_3)]]=(bZ (al.mk (aq.mk p0_0 p0_1) (aq.mk p0_2 p0_3))).map fun r:Bool=>(.clean (.bool r),none):=aN _ _ _ ((al.mk (aq.mk p0_0 p0_1) (aq.mk p0_2 p0_3)))
def oE:Env:=(Am.ext (Am.ext (Am.ext aY 50 false eV) 51 false u6) 52 false w9)
theorem FD:bq Try.prog oE:=(((bq.none.add fG false).add En false).add Ov false)
theorem cQ:type_of% (ai @w<|ai @ch<|ai @vW<|ai @EI<|@oE.eq_1):=⟨@w,@ch,@vW,@EI,@oE.eq_1⟩
theorem JW (p0:al) (r:Bool) (hh:bZ p0=some r):a6 .clean tab oE FU Try.f22 none [.agg [.int .i64 p0.aJ.ah,.sl false false p0.aJ.aa.length (ae (eI .i64) p0.aJ.aa),.int .i64 p0.aL.ah,.sl false false p0.aL.aa.length (ae (eI .i64) p0.aL.aa)]]=some (.clean (.bool r),none):=by
 apply aD rfl Try.ntmps22 Try.results22
 unfold bZ at hh
 obtain⟨r1,hr1,hh⟩:=ag hh
 try simp only[cQ,seval,hr1]
 obtain⟨o2,ho2,hh⟩:=ag hh
 refine bP 0 (fun s t H e=>match s with|s20j1=>∃v1j1:Nat,t 1=.ptr 1 v1j1 0∧t 20=.bool s20j1∧H 1=some ⟨v1j1,41,[.int .i64 p0.aJ.ah,.sl false false p0.aJ.aa.length (ae (eI .i64) p0.aJ.aa),.int .i64 p0.aL.ah,.sl false false p0.aL.aa.length (ae (eI .i64) p0.aL.aa)],false,false,false⟩) (fun s=>s=o2) ?_ ?_
 ·rintro s20j1 t H e ⟨v1j1,Zj1⟩ rfl
  try dsimp only at hh
  try simp only[cQ,seval,hr1,Zj1]
  apply sp au hh<;>intro _ hh
  ·cases hh
   try simp only[cQ,seval,hr1,Zj1]
  ·obtain⟨r4,hr4,hh⟩:=ag hh
   try simp only[cQ,seval,hr1,Zj1,hr4]
   apply sp dj hh<;>intro _ hh
   ·obtain⟨r6,hr6,hh⟩:=ag hh
    cases hh
    try simp only[cQ,seval,hr1,Zj1,hr4,hr6]
   ·cases hh
    try simp only[cQ,seval,hr1,Zj1,hr4]
 ·clear hh
  have hh:=ho2
  try simp only[cQ,seval,hr1]
  apply sp bc hh<;>intro _ hh
  ·cases hh
   try simp only[cQ,seval,hr1]
   rw[av]
   refine⟨_,rfl,?_⟩
   refine⟨0,?_,?_,?_⟩
   all_goals first|rfl|(simp only[cQ,seval,hr1]<;>rfl)
  ·obtain⟨r8,hr8,hh⟩:=ag hh
   try simp only[cQ,seval,hr1,hr8]
   apply sp bc hh<;>intro _ hh
   ·cases hh
    try simp only[cQ,seval,hr1,hr8]
    rw[av]
    refine⟨_,rfl,?_⟩
    refine⟨0,?_,?_,?_⟩
    all_goals first|rfl|(simp only[cQ,seval,hr1,hr8]<;>rfl)
   ·cases hh
    try simp only[cQ,seval,hr1,hr8]
    rw[av]
    refine⟨_,rfl,?_⟩
    refine⟨0,?_,?_,?_⟩
    all_goals first|rfl|(simp only[cQ,seval,hr1,hr8]<;>rfl)
theorem eS:bT Try.prog 22 ec:=bT.of (mode := .clean) tok FD mixed Try.func22 (by kernel_rfl) ⟨by kernel_rfl,by kernel_rfl⟩ (fun _=>agv (by kernel_rfl)) (fun x r h=>JW x r h)
def jH:=fR (fH (dk an)) (fun x:al=>gD x) (fun r:Int =>.clean (.int .i64 r))
theorem fN (p0_0:Int) (p0_1:(List Int)) (p0_2:Int) (p0_3:(List Int)):jH none [.agg [.int .i64 p0_0,.sl false false p0_1.length (ae (eI .i64) p0_1),.int .i64 p0_2,.sl false false p0_3.length (ae (eI .i64) p0_3)]]=(gD (al.mk (aq.mk p0_0 p0_1) (aq.mk p0_2 p0_3))).map fun r:Int=>(.clean (.int .i64 r),none):=aN _ _ _ ((al.mk (aq.mk p0_0 p0_1) (aq.mk p0_2 p0_3)))
def qe:Env:=(Am.ext aY 22 false ec)
theorem JE:bq Try.prog qe:=(bq.none.add eS false)
theorem u3:type_of% (ai @w<|ai @bV<|@qe.eq_1):=⟨@w,@bV,@qe.eq_1⟩
theorem NN (p0:al) (r:Int) (hh:gD p0=some r):a6 .clean tab qe FU Try.f20 none [.agg [.int .i64 p0.aJ.ah,.sl false false p0.aJ.aa.length (ae (eI .i64) p0.aJ.aa),.int .i64 p0.aL.ah,.sl false false p0.aL.aa.length (ae (eI .i64) p0.aL.aa)]]=some (.clean (.int .i64 r),none):=by
 apply aD rfl Try.ntmps20 Try.results20
 unfold gD at hh
 obtain⟨r1,hr1,hh⟩:=ag hh
 try simp only[u3,seval,hr1]
 apply sp au hh<;>intro _ hh
 ·cases hh
  try simp only[u3,seval,hr1]
 ·cases hh
  try simp only[u3,seval,hr1]
theorem mq:bT Try.prog 20 jH:=bT.of (mode := .clean) tok JE mixed Try.func20 (by kernel_rfl) ⟨by kernel_rfl,by kernel_rfl⟩ (fun _=>agv (by kernel_rfl)) (fun x r h=>NN x r h)
def xO:=fR (fH (lM (eI .i64))) (fun x:(List Int)=>uc x) (fun r:Int =>.clean (.int .i64 r))
theorem rq (p0:(List Int)):xO none [.sl false false p0.length (ae (eI .i64) p0)]=(uc p0).map fun r:Int=>(.clean (.int .i64 r),none):=aN _ _ _ (p0)
theorem XG (p0:(List Int)) (r:Int) (hh:uc p0=some r):a6 .clean tab aY FU Try.f65 none [.sl false false p0.length (ae (eI .i64) p0)]=some (.clean (.int .i64 r),none):=by
 apply aD rfl Try.ntmps65 Try.results65
 unfold uc at hh
 try simp only[w,seval]
 obtain⟨o4,ho4,hh⟩:=ag hh
 refine aB (fun s t H e=>match s with|s8a=>t 3=.int .i64 0∧t 6=.sl false false p0.length (ae (eI .i64) p0)∧t 7=.int .i64 (p0.length:Int)∧t 8=.int .i64 s8a) (fun o x t H e=>match o with|(.inl _)=>x=.exit 0∧t 3=.int .i64 0|(.inr r)=>x=.ret∧iP .clean tab none [.tmp 2] ⟨t,EH H,e⟩=some (.clean (.int .i64 r),none)) ho4 ?_ ?_ ?_
 ·refine⟨?_,?_,?_,?_⟩
  all_goals first|rfl|(simp only[w,seval]<;>rfl)
 ·rintro s8a t H e Za c hh
  simp only[vt]at hh
  try simp only[w,seval,Za]
  apply sp au hh<;>intro _ hh
  ·obtain⟨x6,hx6,hh⟩:=ag hh
   have ax6:=bm (eI .i64) hx6
   simp only[bo]at ax6
   try simp only[w,seval,Za,ax6]
   apply sp au hh<;>intro _ hh
   ·cases hh
    try simp only[w,seval,Za,ax6]
    refine BI ⟨rfl,?_⟩
    try simp only[w,seval,Za,ax6]
   ·cases hh
    try simp only[w,seval,Za,ax6]
    apply iC
    refine⟨?_,?_,?_,?_⟩
    all_goals first|rfl|(simp only[w,seval,Za,ax6]<;>rfl)
  ·cases hh
   try simp only[w,seval,Za]
   apply jP
   refine⟨rfl,?_⟩
   all_goals first|rfl|(simp only[w,seval,Za]<;>rfl)
 ·rintro x t H e hx
  rcases o4 with _|ra
  ·dsimp only at hx hh
   obtain⟨rfl,Zax⟩:=hx
   cases hh
   try simp only[w,seval,Zax]
  ·dsimp only at hx hh
   obtain⟨rfl,hE⟩:=hx
   cases hh
   try simp only[bn,bg,bB,dn,dm,ct,cu]
   exact hE
theorem H3:bT Try.prog 65 xO:=bT.of (mode := .clean) tok bq.none mixed Try.func65 (by kernel_rfl) ⟨by kernel_rfl,by kernel_rfl⟩ (fun _=>agv (by kernel_rfl)) (fun x r h=>XG x r h)
def rH:=fR (jE (dk ba) (fH (dk ba))) (fun x:fa×fa=>lh x.1 x.2) (fun r:Int =>.clean (.int .i64 r))
theorem yR (p0_0:Int) (p0_1:Int) (p0_2:Int) (p0_3:(List Int)) (p0_4:Int) (p0_5:(List Int)) (p1_0:Int) (p1_1:Int) (p1_2:Int) (p1_3:(List Int)) (p1_4:Int) (p1_5:(List Int)):rH none [.agg [.int .i64 p0_0,.int .i64 p0_1,.int .i64 p0_2,.sl false false p0_3.length (ae (eI .i64) p0_3),.int .i64 p0_4,.sl false false p0_5.length (ae (eI .i64) p0_5)],.agg [.int .i64 p1_0,.int .i64 p1_1,.int .i64 p1_2,.sl false false p1_3.length (ae (eI .i64) p1_3),.int .i64 p1_4,.sl false false p1_5.length (ae (eI .i64) p1_5)]]=(lh (fa.mk p0_0 p0_1 (al.mk (aq.mk p0_2 p0_3) (aq.mk p0_4 p0_5))) (fa.mk p1_0 p1_1 (al.mk (aq.mk p1_2 p1_3) (aq.mk p1_4 p1_5)))).map fun r:Int=>(.clean (.int .i64 r),none):=aN _ _ _ ((fa.mk p0_0 p0_1 (al.mk (aq.mk p0_2 p0_3) (aq.mk p0_4 p0_5))),(fa.mk p1_0 p1_1 (al.mk (aq.mk p1_2 p1_3) (aq.mk p1_4 p1_5))))
def oH:Env:=(Am.ext (Am.ext aY 65 false xO) 66 false jg)
theorem FG:bq Try.prog oH:=((bq.none.add H3 false).add mo false)
theorem zm:type_of% (ai @w<|ai @rq<|ai @fM<|@oH.eq_1):=⟨@w,@rq,@fM,@oH.eq_1⟩
theorem JZ (p0:fa) (p1:fa) (r:Int) (hh:lh p0 p1=some r):a6 .clean tab oH FU Try.f35 none [.agg [.int .i64 p0.dq,.int .i64 p0.lJ,.int .i64 p0.bR.aJ.ah,.sl false false p0.bR.aJ.aa.length (ae (eI .i64) p0.bR.aJ.aa),.int .i64 p0.bR.aL.ah,.sl false false p0.bR.aL.aa.length (ae (eI .i64) p0.bR.aL.aa)],.agg [.int .i64 p1.dq,.int .i64 p1.lJ,.int .i64 p1.bR.aJ.ah,.sl false false p1.bR.aJ.aa.length (ae (eI .i64) p1.bR.aJ.aa),.int .i64 p1.bR.aL.ah,.sl false false p1.bR.aL.aa.length (ae (eI .i64) p1.bR.aL.aa)]]=some (.clean (.int .i64 r),none):=by
 apply aD rfl Try.ntmps35 Try.results35
 unfold lh at hh
 obtain⟨r1,hr1,hh⟩:=ag hh
 obtain⟨r2,hr2,hh⟩:=ag hh
 have i3:=rq ([r1,r2])
 simp only[a7,bo,List.length_cons,List.length_nil,afB,Nat.reduceAdd,agN]at i3
 obtain⟨r4,hr4,hh⟩:=ag hh
 try simp only[zm,seval,hr1,hr2,i3,hr4]
 refine bF (by kernel_rfl) ?_
 cases hh
 try simp only[zm,seval,hr1,hr2,i3,hr4]
theorem FW:bT Try.prog 35 rH:=bT.of (mode := .clean) tok FG mixed Try.func35 (by kernel_rfl) ⟨by kernel_rfl,by kernel_rfl⟩ (fun _=>agv (by kernel_rfl)) (fun x r h=>JZ x.1 x.2 r h)
def Ca:=fR (fH (aI .i64)) (fun x:Int=>tV x) (fun r:aq =>.clean (.agg [.int .i64 r.ah,.sl false false r.aa.length (ae (eI .i64) r.aa)]))
theorem OI (p0:Int):Ca none [.int .i64 p0]=(tV p0).map fun r:aq=>(.clean (.agg [.int .i64 r.ah,.sl false false r.aa.length (ae (eI .i64) r.aa)]),none):=aN _ _ _ (p0)
def yp:Env:=(Am.ext aY 76 false gH)
theorem UQ:bq Try.prog yp:=(bq.none.add jm false)
theorem gR:type_of% (ai @w<|ai @dG<|@yp.eq_1):=⟨@w,@dG,@yp.eq_1⟩
theorem XF (p0:Int) (r:aq) (hh:tV p0=some r):a6 .clean tab yp FU Try.f73 none [.int .i64 p0]=some (.clean (.agg [.int .i64 r.ah,.sl false false r.aa.length (ae (eI .i64) r.aa)]),none):=by
 apply aD rfl Try.ntmps73 Try.results73
 unfold tV at hh
 try simp only[gR,seval,-Int.reduceToNat]
 obtain⟨o1,ho1,hh⟩:=ag hh
 refine je 0 (fun s t H e=>match s with|(s3j1,s4j1)=>∃v2j1:Nat,t 2=.ptr 2 v2j1 0∧t 3=.int .i64 s3j1∧t 4=.int .u64 s4j1∧H 2=some ⟨v2j1,39,[.int .i64 0,.sl true true 0 []],false,false,false⟩) (fun s=>s=o1) ?_ ?_
 ·rintro⟨s3j1,s4j1⟩ t H e ⟨v2j1,Zj1⟩ rfl
  try dsimp only at hh
  try simp only[gR,seval,-Int.reduceToNat,Zj1]
  obtain⟨o7,ho7,hh⟩:=ag hh
  refine aB (fun s t H e=>match s with|(s4b,l5b)=>∃v2b:Nat,∃v5b:Nat,t 2=.ptr 2 v2b 0∧t 3=.int .i64 s3j1∧t 4=.int .u64 s4b∧t 5=.buf 5 v5b 1 0 (l5b).length∧H 2=some ⟨v2b,39,[.int .i64 0,.sl true true 0 []],false,false,false⟩∧H 5=some ⟨v5b,3,ae (eI .i64) l5b,false,true,false⟩) (fun o x t H e=>match o with|l5bx=>x=.exit 0∧∃v2bx:Nat,∃v5bx:Nat,t 2=.ptr 2 v2bx 0∧t 3=.int .i64 s3j1∧t 5=.buf 5 v5bx 1 0 (l5bx).length∧H 2=some ⟨v2bx,39,[.int .i64 0,.sl true true 0 []],false,false,false⟩∧H 5=some ⟨v5bx,3,ae (eI .i64) l5bx,false,true,false⟩) ho7 ?_ ?_ ?_
  ·refine⟨v2j1,e,?_,?_,?_,?_,?_,?_⟩
   all_goals first|rfl|(simp only[gR,seval,-Int.reduceToNat,Zj1]<;>rfl)
  ·rintro⟨s4b,l5b⟩ t H e ⟨v2b,v5b,Zb⟩ c hh
   simp only[vo]at hh
   try simp only[gR,seval,-Int.reduceToNat,Zb]
   apply sp au hh<;>intro _ hh
   ·obtain⟨x9,hx9,hh⟩:=ag hh
    obtain⟨q10a,q10b,q10c,q10d⟩:=gI (eI .i64) hx9
    simp only[bo]at q10b
    obtain⟨x11,hx11,hh⟩:=ag hh
    have q12:=gQ hx11
    cases hh
    try simp only[gR,seval,-Int.reduceToNat,Zb,q10a,q10b,q10c,q10d,q12]
    apply iC
    refine⟨v2b,e+1,?_,?_,?_,?_,?_,?_⟩
    all_goals first|rfl|(simp only[gR,seval,-Int.reduceToNat,Zb,q10a,q10b,q10c,q10d,q12]<;>rfl)
   ·cases hh
    try simp only[gR,seval,-Int.reduceToNat,Zb]
    apply jP
    refine⟨rfl,⟨v2b,v5b,?_,?_,?_,?_,?_⟩⟩
    all_goals first|rfl|(simp only[gR,seval,-Int.reduceToNat,Zb]<;>rfl)
  ·rintro x t H e hx
   obtain⟨l5bx,rfl⟩:∃z,z=o7:=⟨_,rfl⟩
   dsimp only at hx hh
   obtain⟨rfl,⟨v2bx,v5bx,Zbx⟩⟩:=hx
   obtain⟨r13,hr13,hh⟩:=ag hh
   cases hh
   try simp only[gR,seval,-Int.reduceToNat,Zbx,hr13]
 ·clear hh
  have hh:=ho1
  try simp only[gR,seval,-Int.reduceToNat]
  apply sp au hh<;>intro _ hh
  ·cases hh
   try simp only[gR,seval,-Int.reduceToNat]
   rw[av]
   refine⟨_,rfl,?_⟩
   refine⟨0,?_,?_,?_,?_⟩
   all_goals first|rfl|(simp only[gR,seval,-Int.reduceToNat]<;>rfl)
  ·cases hh
   try simp only[gR,seval,-Int.reduceToNat]
   rw[av]
   refine⟨_,rfl,?_⟩
   refine⟨0,?_,?_,?_,?_⟩
   all_goals first|rfl|(simp only[gR,seval,-Int.reduceToNat]<;>rfl)
theorem Vp:bT Try.prog 73 Ca:=bT.of (mode := .clean) tok UQ mixed Try.func73 (by kernel_rfl) ⟨by kernel_rfl,by kernel_rfl⟩ (fun _=>agv (by kernel_rfl)) (fun x r h=>XF x r h)
def iN:=fR (fH (aI .i64)) (fun x:Int=>fw x) (fun r:al =>.clean (.agg [.int .i64 r.aJ.ah,.sl false false r.aJ.aa.length (ae (eI .i64) r.aJ.aa),.int .i64 r.aL.ah,.sl false false r.aL.aa.length (ae (eI .i64) r.aL.aa)]))
theorem eo (p0:Int):iN none [.int .i64 p0]=(fw p0).map fun r:al=>(.clean (.agg [.int .i64 r.aJ.ah,.sl false false r.aJ.aa.length (ae (eI .i64) r.aJ.aa),.int .i64 r.aL.ah,.sl false false r.aL.aa.length (ae (eI .i64) r.aL.aa)]),none):=aN _ _ _ (p0)
def sg:Env:=(Am.ext aY 73 false Ca)
theorem ME:bq Try.prog sg:=(bq.none.add Vp false)
theorem RQ:type_of% (ai @w<|ai @OI<|@sg.eq_1):=⟨@w,@OI,@sg.eq_1⟩
theorem QG (p0:Int) (r:al) (hh:fw p0=some r):a6 .clean tab sg FU Try.f44 none [.int .i64 p0]=some (.clean (.agg [.int .i64 r.aJ.ah,.sl false false r.aJ.aa.length (ae (eI .i64) r.aJ.aa),.int .i64 r.aL.ah,.sl false false r.aL.aa.length (ae (eI .i64) r.aL.aa)]),none):=by
 apply aD rfl Try.ntmps44 Try.results44
 unfold fw at hh
 obtain⟨r1,hr1,hh⟩:=ag hh
 obtain⟨r2,hr2,hh⟩:=ag hh
 cases hh
 try simp only[RQ,seval,hr1,hr2]
theorem jR:bT Try.prog 44 iN:=bT.of (mode := .clean) tok ME mixed Try.func44 (by kernel_rfl) ⟨by kernel_rfl,by kernel_rfl⟩ (fun _=>agv (by kernel_rfl)) (fun x r h=>QG x r h)
def u7:=fR (fH (dk fb)) (fun x:aq=>ng x) (fun r:aq =>.clean (.agg [.int .i64 r.ah,.sl false false r.aa.length (ae (eI .i64) r.aa)]))
theorem vX (p0_0:Int) (p0_1:(List Int)):u7 none [.agg [.int .i64 p0_0,.sl false false p0_1.length (ae (eI .i64) p0_1)]]=(ng (aq.mk p0_0 p0_1)).map fun r:aq=>(.clean (.agg [.int .i64 r.ah,.sl false false r.aa.length (ae (eI .i64) r.aa)]),none):=aN _ _ _ ((aq.mk p0_0 p0_1))
def vG:Env:=(Am.ext (Am.ext (Am.ext aY 50 false eV) 76 false gH) 82 false ie)
theorem Ql:bq Try.prog vG:=(((bq.none.add fG false).add jm false).add kV false)
theorem wy:type_of% (ai @w<|ai @ch<|ai @dG<|ai @eY<|@vG.eq_1):=⟨@w,@ch,@dG,@eY,@vG.eq_1⟩
theorem U7 (p0:aq) (r:aq) (hh:ng p0=some r):a6 .clean tab vG FU Try.f64 none [.agg [.int .i64 p0.ah,.sl false false p0.aa.length (ae (eI .i64) p0.aa)]]=some (.clean (.agg [.int .i64 r.ah,.sl false false r.aa.length (ae (eI .i64) r.aa)]),none):=by
 apply aD rfl Try.ntmps64 Try.results64
 unfold ng at hh
 obtain⟨r1,hr1,hh⟩:=ag hh
 try simp only[wy,seval,hr1]
 apply sp au hh<;>intro _ hh
 ·cases hh
  try simp only[wy,seval,hr1]
 ·obtain⟨r3,hr3,hh⟩:=ag hh
  obtain⟨r4,hr4,hh⟩:=ag hh
  try simp only[wy,seval,hr1,hr3,hr4]
  refine bF (by kernel_rfl) ?_
  cases hh
  try simp only[wy,seval,hr1,hr3,hr4]
theorem Eo:bT Try.prog 64 u7:=bT.of (mode := .clean) tok Ql mixed Try.func64 (by kernel_rfl) ⟨by kernel_rfl,by kernel_rfl⟩ (fun _=>agv (by kernel_rfl)) (fun x r h=>U7 x r h)
def zt:=fR (jE (dk fb) (fH (dk fb))) (fun x:aq×aq=>rS x.1 x.2) (fun r:aq×Int =>.clean (.tup [.agg [.int .i64 r.1.ah,.sl false false r.1.aa.length (ae (eI .i64) r.1.aa)],.int .i64 r.2]))
theorem Ig (p0_0:Int) (p0_1:(List Int)) (p1_0:Int) (p1_1:(List Int)):zt none [.agg [.int .i64 p0_0,.sl false false p0_1.length (ae (eI .i64) p0_1)],.agg [.int .i64 p1_0,.sl false false p1_1.length (ae (eI .i64) p1_1)]]=(rS (aq.mk p0_0 p0_1) (aq.mk p1_0 p1_1)).map fun r:aq×Int=>(.clean (.tup [.agg [.int .i64 r.1.ah,.sl false false r.1.aa.length (ae (eI .i64) r.1.aa)],.int .i64 r.2]),none):=aN _ _ _ ((aq.mk p0_0 p0_1),(aq.mk p1_0 p1_1))
def vF:Env:=(Am.ext (Am.ext (Am.ext (Am.ext aY 50 false eV) 75 false kC) 76 false gH) 103 false vd)
theorem Qk:bq Try.prog vF:=((((bq.none.add fG false).add pK false).add jm false).add Es false)
theorem jq:type_of% (ai @w<|ai @ch<|ai @eT<|ai @dG<|ai @oT<|@vF.eq_1):=⟨@w,@ch,@eT,@dG,@oT,@vF.eq_1⟩
theorem U6 (p0:aq) (p1:aq) (r:aq×Int) (hh:rS p0 p1=some r):a6 .clean tab vF FU Try.f80 none [.agg [.int .i64 p0.ah,.sl false false p0.aa.length (ae (eI .i64) p0.aa)],.agg [.int .i64 p1.ah,.sl false false p1.aa.length (ae (eI .i64) p1.aa)]]=some (.clean (.tup [.agg [.int .i64 r.1.ah,.sl false false r.1.aa.length (ae (eI .i64) r.1.aa)],.int .i64 r.2]),none):=by
 apply aD rfl Try.ntmps80 Try.results80
 unfold rS at hh
 obtain⟨r1,hr1,hh⟩:=ag hh
 try simp only[jq,seval,hr1]
 obtain⟨o2,ho2,hh⟩:=ag hh
 refine bP 0 (fun s t H e=>match s with|s13j1=>∃v2j1:Nat,∃v3j1:Nat,∃v4j1:Nat,t 2=.ptr 2 v2j1 0∧t 3=.ptr 3 v3j1 0∧t 4=.ptr 4 v4j1 0∧t 13=.bool s13j1∧H 2=some ⟨v2j1,39,[.int .i64 p0.ah,.sl false false p0.aa.length (ae (eI .i64) p0.aa)],false,false,false⟩∧H 3=some ⟨v3j1,39,[.int .i64 p1.ah,.sl false false p1.aa.length (ae (eI .i64) p1.aa)],false,false,false⟩∧H 4=some ⟨v4j1,39,[.int .i64 0,.sl true true 0 []],false,false,false⟩) (fun s=>s=o2) ?_ ?_
 ·rintro s13j1 t H e ⟨v2j1,v3j1,v4j1,Zj1⟩ rfl
  try dsimp only at hh
  try simp only[jq,seval,hr1,Zj1]
  apply sp au hh<;>intro _ hh
  ·have i4:=eT false 0 ([])
   simp only[a7,bo,List.length_cons,List.length_nil,afB,Nat.reduceAdd,agN]at i4
   obtain⟨r5,hr5,hh⟩:=ag hh
   cases hh
   try simp only[jq,seval,hr1,Zj1,i4,hr5]
  ·obtain⟨r6,hr6,hh⟩:=ag hh
   obtain⟨r7,hr7,hh⟩:=ag hh
   obtain⟨r8,hr8,hh⟩:=ag hh
   try simp only[jq,seval,hr1,Zj1,hr6,hr7,hr8]
   refine bF (by kernel_rfl) ?_
   cases hh
   try simp only[jq,seval,hr1,Zj1,hr6,hr7,hr8]
 ·clear hh
  have hh:=ho2
  try simp only[jq,seval,hr1]
  apply sp bc hh<;>intro _ hh
  ·cases hh
   try simp only[jq,seval,hr1]
   rw[av]
   refine⟨_,rfl,?_⟩
   refine⟨0,0,0,?_,?_,?_,?_,?_,?_,?_⟩
   all_goals first|rfl|(simp only[jq,seval,hr1]<;>rfl)
  ·obtain⟨r10,hr10,hh⟩:=ag hh
   cases hh
   try simp only[jq,seval,hr1,hr10]
   rw[av]
   refine⟨_,rfl,?_⟩
   refine⟨0,0,0,?_,?_,?_,?_,?_,?_,?_⟩
   all_goals first|rfl|(simp only[jq,seval,hr1,hr10]<;>rfl)
theorem Q0:bT Try.prog 80 zt:=bT.of (mode := .clean) tok Qk mixed Try.func80 (by kernel_rfl) ⟨by kernel_rfl,by kernel_rfl⟩ (fun _=>agv (by kernel_rfl)) (fun x r h=>U6 x.1 x.2 r h)
def j1:=fR (jE (dk fb) (fH (dk fb))) (fun x:aq×aq=>b6 x.1 x.2) (fun r:aq =>.clean (.agg [.int .i64 r.ah,.sl false false r.aa.length (ae (eI .i64) r.aa)]))
theorem gP (p0_0:Int) (p0_1:(List Int)) (p1_0:Int) (p1_1:(List Int)):j1 none [.agg [.int .i64 p0_0,.sl false false p0_1.length (ae (eI .i64) p0_1)],.agg [.int .i64 p1_0,.sl false false p1_1.length (ae (eI .i64) p1_1)]]=(b6 (aq.mk p0_0 p0_1) (aq.mk p1_0 p1_1)).map fun r:aq=>(.clean (.agg [.int .i64 r.ah,.sl false false r.aa.length (ae (eI .i64) r.aa)]),none):=aN _ _ _ ((aq.mk p0_0 p0_1),(aq.mk p1_0 p1_1))
def oF:Env:=(Am.ext aY 80 false zt)
theorem FE:bq Try.prog oF:=(bq.none.add Q0 false)
theorem KI:type_of% (ai @w<|ai @Ig<|@oF.eq_1):=⟨@w,@Ig,@oF.eq_1⟩
theorem JX (p0:aq) (p1:aq) (r:aq) (hh:b6 p0 p1=some r):a6 .clean tab oF FU Try.f48 none [.agg [.int .i64 p0.ah,.sl false false p0.aa.length (ae (eI .i64) p0.aa)],.agg [.int .i64 p1.ah,.sl false false p1.aa.length (ae (eI .i64) p1.aa)]]=some (.clean (.agg [.int .i64 r.ah,.sl false false r.aa.length (ae (eI .i64) r.aa)]),none):=by
 apply aD rfl Try.ntmps48 Try.results48
 unfold b6 at hh
 obtain⟨r1,hr1,hh⟩:=ag hh
 cases hh
 try simp only[KI,seval,hr1]
theorem ny:bT Try.prog 48 j1:=bT.of (mode := .clean) tok FE mixed Try.func48 (by kernel_rfl) ⟨by kernel_rfl,by kernel_rfl⟩ (fun _=>agv (by kernel_rfl)) (fun x r h=>JX x.1 x.2 r h)
def u9:=fR (jE (lM (eI .i64)) (fH (lM (eI .i64)))) (fun x:(List Int)×(List Int)=>p5 x.1 x.2) (fun r:(List Int) =>.clean (.sl false false r.length (ae (eI .i64) r)))
theorem rp (p0:(List Int)) (p1:(List Int)):u9 none [.sl false false p0.length (ae (eI .i64) p0),.sl false false p1.length (ae (eI .i64) p1)]=(p5 p0 p1).map fun r:(List Int)=>(.clean (.sl false false r.length (ae (eI .i64) r)),none):=aN _ _ _ (p0,p1)
def vH:Env:=(Am.ext aY 102 false kX)
theorem Qm:bq Try.prog vH:=(bq.none.add nP false)
theorem cU:type_of% (ai @w<|ai @fp<|@vH.eq_1):=⟨@w,@fp,@vH.eq_1⟩
theorem U8 (p0:(List Int)) (p1:(List Int)) (r:(List Int)) (hh:p5 p0 p1=some r):a6 .clean tab vH FU Try.f77 none [.sl false false p0.length (ae (eI .i64) p0),.sl false false p1.length (ae (eI .i64) p1)]=some (.clean (.sl false false r.length (ae (eI .i64) r)),none):=by
 apply aD rfl Try.ntmps77 Try.results77
 unfold p5 at hh
 try simp only[cU,seval,-Int.reduceToNat]
 obtain⟨o1,ho1,hh⟩:=ag hh
 refine je 0 (fun s t H e=>match s with|(s0j1,s1j1)=>t 0=.sl false false s0j1.length (ae (eI .i64) s0j1)∧t 1=.sl false false s1j1.length (ae (eI .i64) s1j1)) (fun s=>s=o1) ?_ ?_
 ·rintro⟨s0j1,s1j1⟩ t H e Zj1 rfl
  try dsimp only at hh
  obtain⟨x2,hx2,hh⟩:=ag hh
  obtain⟨q3a,q3b,q3c,q3d,q3e⟩:=mk_one (eI .i64) hx2
  simp only[bo]at q3d
  try simp only[cU,seval,-Int.reduceToNat,Zj1,q3a,q3b,q3c,q3d,q3e]
  obtain⟨o13,ho13,hh⟩:=ag hh
  refine aB (fun s t H e=>match s with|(s6b,s22b,l5b)=>∃v5b:Nat,t 0=.sl false false s0j1.length (ae (eI .i64) s0j1)∧t 1=.sl false false s1j1.length (ae (eI .i64) s1j1)∧t 5=.buf 5 v5b 1 0 (l5b).length∧t 6=.int .i64 s6b∧t 20=.sl false false s0j1.length (ae (eI .i64) s0j1)∧t 21=.int .i64 (s0j1.length:Int)∧t 22=.int .i64 s22b∧H 5=some ⟨v5b,3,ae (eI .i64) l5b,false,true,false⟩) (fun o x t H e=>match o with|(s6bx,l5bx)=>x=.exit 0∧∃v5bx:Nat,t 0=.sl false false s0j1.length (ae (eI .i64) s0j1)∧t 5=.buf 5 v5bx 1 0 (l5bx).length∧t 6=.int .i64 s6bx∧H 5=some ⟨v5bx,3,ae (eI .i64) l5bx,false,true,false⟩) ho13 ?_ ?_ ?_
  ·refine⟨e,?_,?_,?_,?_,?_,?_,?_,?_⟩
   all_goals first|rfl|(simp only[cU,seval,-Int.reduceToNat,Zj1,q3a,q3b,q3c,q3d,q3e]<;>rfl)
  ·rintro⟨s6b,s22b,l5b⟩ t H e ⟨v5b,Zb⟩ c hh
   simp only[pj]at hh
   try simp only[cU,seval,-Int.reduceToNat,q3a,q3b,q3c,q3d,q3e,Zb]
   apply sp au hh<;>intro _ hh
   ·obtain⟨x15,hx15,hh⟩:=ag hh
    have ax15:=bm (eI .i64) hx15
    simp only[bo]at ax15
    try simp only[cU,seval,-Int.reduceToNat,q3a,q3b,q3c,q3d,q3e,Zb,ax15]
    obtain⟨o16,ho16,hh⟩:=ag hh
    refine je 0 (fun s t H e=>match s with|s6j4=>∃v5j4:Nat,t 0=.sl false false s0j1.length (ae (eI .i64) s0j1)∧t 1=.sl false false s1j1.length (ae (eI .i64) s1j1)∧t 5=.buf 5 v5j4 1 0 (l5b).length∧t 6=.int .i64 s6j4∧t 7=.int .i64 s22b∧t 20=.sl false false s0j1.length (ae (eI .i64) s0j1)∧t 21=.int .i64 (s0j1.length:Int)∧t 22=.int .i64 s22b∧H 5=some ⟨v5j4,3,ae (eI .i64) l5b,false,true,false⟩) (fun s=>s=o16) ?_ ?_
    ·rintro s6j4 t H e ⟨v5j4,Zj4⟩ rfl
     try dsimp only at hh
     obtain⟨x17,hx17,hh⟩:=ag hh
     have ax17:=bm (eI .i64) hx17
     simp only[bo]at ax17
     have p18:=dF (eI .i64) (x':=cV .and .i64 s6j4 1048575) (fo:=0) (cs:=[.int .i64 (cV .and .i64 s6j4 1048575)]) hx17 rfl (agv rfl)
     simp only[bo,Nat.add_zero]at p18
     have up18:=p18
     simp only[putCells,List.length_cons,List.length_nil,afB,Nat.reduceAdd]at up18
     obtain⟨x19,hx19,hh⟩:=ag hh
     have q20:=gQ hx19
     cases hh
     try simp only[cU,seval,-Int.reduceToNat,q3a,q3b,q3c,q3d,q3e,ax15,Zj4,ax17,p18,up18,q20]
     apply iC
     refine⟨v5j4,?_,?_,?_,?_,?_,?_,?_,?_⟩
     all_goals first|rfl|(simp only[cU,seval,-Int.reduceToNat,q3a,q3b,q3c,q3d,q3e,ax15,Zj4,ax17,p18,up18,q20]<;>rfl)
    ·clear hh
     have hh:=ho16
     try simp only[cU,seval,-Int.reduceToNat,q3a,q3b,q3c,q3d,q3e,Zb,ax15]
     apply sp au hh<;>intro _ hh
     ·obtain⟨x22,hx22,hh⟩:=ag hh
      have ax22:=bm (eI .i64) hx22
      simp only[bo]at ax22
      cases hh
      try simp only[cU,seval,-Int.reduceToNat,q3a,q3b,q3c,q3d,q3e,Zb,ax15,ax22]
      rw[av]
      refine⟨_,rfl,?_⟩
      refine⟨v5b,?_,?_,?_,?_,?_,?_,?_,?_,?_⟩
      all_goals first|rfl|(simp only[cU,seval,-Int.reduceToNat,q3a,q3b,q3c,q3d,q3e,Zb,ax15,ax22]<;>rfl)
     ·cases hh
      try simp only[cU,seval,-Int.reduceToNat,q3a,q3b,q3c,q3d,q3e,Zb,ax15]
      rw[av]
      refine⟨_,rfl,?_⟩
      refine⟨v5b,?_,?_,?_,?_,?_,?_,?_,?_,?_⟩
      all_goals first|rfl|(simp only[cU,seval,-Int.reduceToNat,q3a,q3b,q3c,q3d,q3e,Zb,ax15]<;>rfl)
   ·cases hh
    try simp only[cU,seval,-Int.reduceToNat,q3a,q3b,q3c,q3d,q3e,Zb]
    apply jP
    refine⟨rfl,⟨v5b,?_,?_,?_,?_⟩⟩
    all_goals first|rfl|(simp only[cU,seval,-Int.reduceToNat,q3a,q3b,q3c,q3d,q3e,Zb]<;>rfl)
  ·rintro x t H e hx
   rcases o13 with⟨s6bx,l5bx⟩
   dsimp only at hx hh
   obtain⟨rfl,⟨v5bx,Zbx⟩⟩:=hx
   obtain⟨x23,hx23,hh⟩:=ag hh
   have ax23:=bm (eI .i64) hx23
   simp only[bo]at ax23
   have p24:=dF (eI .i64) (x':=s6bx) (fo:=0) (cs:=[.int .i64 s6bx]) hx23 rfl (agv rfl)
   simp only[bo,Nat.add_zero]at p24
   have up24:=p24
   simp only[putCells,List.length_cons,List.length_nil,afB,Nat.reduceAdd]at up24
   have i25:=fp (l5bx.set ((s0j1.length:Int)).toNat s6bx)
   simp only[a7,bo,List.length_cons,List.length_nil,afB,Nat.reduceAdd,agN]at i25
   obtain⟨r26,hr26,hh⟩:=ag hh
   cases hh
   try simp only[cU,seval,-Int.reduceToNat,q3a,q3b,q3c,q3d,q3e,Zbx,ax23,p24,up24,i25,hr26]
 ·clear hh
  have hh:=ho1
  try simp only[cU,seval,-Int.reduceToNat]
  apply sp au hh<;>intro _ hh
  ·cases hh
   try simp only[cU,seval,-Int.reduceToNat]
   rw[av]
   refine⟨_,rfl,?_⟩
   refine⟨?_,?_⟩
   all_goals first|rfl|(simp only[cU,seval,-Int.reduceToNat]<;>rfl)
  ·cases hh
   try simp only[cU,seval,-Int.reduceToNat]
   rw[av]
   refine⟨_,rfl,?_⟩
   refine⟨?_,?_⟩
   all_goals first|rfl|(simp only[cU,seval,-Int.reduceToNat]<;>rfl)
theorem Ep:bT Try.prog 77 u9:=bT.of (mode := .clean) tok Qm mixed Try.func77 (by kernel_rfl) ⟨by kernel_rfl,by kernel_rfl⟩ (fun _=>agv (by kernel_rfl)) (fun x r h=>U8 x.1 x.2 r h)
def ve:=fR (jE (lM (eI .i64)) (fH (lM (eI .i64)))) (fun x:(List Int)×(List Int)=>oA x.1 x.2) (fun r:(List Int) =>.clean (.sl false false r.length (ae (eI .i64) r)))
theorem vZ (p0:(List Int)) (p1:(List Int)):ve none [.sl false false p0.length (ae (eI .i64) p0),.sl false false p1.length (ae (eI .i64) p1)]=(oA p0 p1).map fun r:(List Int)=>(.clean (.sl false false r.length (ae (eI .i64) r)),none):=aN _ _ _ (p0,p1)
def vK:Env:=(Am.ext (Am.ext aY 82 false ie) 102 false kX)
theorem Qp:bq Try.prog vK:=((bq.none.add kV false).add nP false)
theorem fh:type_of% (ai @w<|ai @eY<|ai @fp<|@vK.eq_1):=⟨@w,@eY,@fp,@vK.eq_1⟩
theorem Vb (p0:(List Int)) (p1:(List Int)) (r:(List Int)) (hh:oA p0 p1=some r):a6 .clean tab vK FU Try.f79 none [.sl false false p0.length (ae (eI .i64) p0),.sl false false p1.length (ae (eI .i64) p1)]=some (.clean (.sl false false r.length (ae (eI .i64) r)),none):=by
 apply aD rfl Try.ntmps79 Try.results79
 unfold oA at hh
 obtain⟨r1,hr1,hh⟩:=ag hh
 try simp only[fh,seval,-Int.reduceToNat,hr1]
 obtain⟨o10,ho10,hh⟩:=ag hh
 refine aB (fun s t H e=>match s with|(s6a,s13a,l5a)=>∃v5a:Nat,t 1=.sl false false p1.length (ae (eI .i64) p1)∧t 5=.buf 5 v5a 1 0 (l5a).length∧t 6=.int .i64 s6a∧t 12=.int .i64 ((r1).length:Int)∧t 13=.int .i64 s13a∧H 5=some ⟨v5a,3,ae (eI .i64) l5a,false,true,false⟩) (fun o x t H e=>match o with|l5ax=>x=.exit 0∧∃v5ax:Nat,t 5=.buf 5 v5ax 1 0 (l5ax).length∧H 5=some ⟨v5ax,3,ae (eI .i64) l5ax,false,true,false⟩) ho10 ?_ ?_ ?_
 ·refine⟨1,?_,?_,?_,?_,?_,?_⟩
  all_goals first|rfl|(simp only[fh,seval,-Int.reduceToNat,hr1]<;>rfl)
 ·rintro⟨s6a,s13a,l5a⟩ t H e ⟨v5a,Za⟩ c hh
  simp only[rY]at hh
  try simp only[fh,seval,-Int.reduceToNat,hr1,Za]
  apply sp au hh<;>intro _ hh
  ·obtain⟨x12,hx12,hh⟩:=ag hh
   have ax12:=bm (eI .i64) hx12
   simp only[bo]at ax12
   try simp only[fh,seval,-Int.reduceToNat,hr1,Za,ax12]
   obtain⟨o13,ho13,hh⟩:=ag hh
   refine je 0 (fun s t H e=>match s with|s8j3=>∃v5j3:Nat,t 1=.sl false false p1.length (ae (eI .i64) p1)∧t 5=.buf 5 v5j3 1 0 (l5a).length∧t 7=.int .i64 s13a∧t 8=.int .i64 s8j3∧t 12=.int .i64 ((r1).length:Int)∧t 13=.int .i64 s13a∧H 5=some ⟨v5j3,3,ae (eI .i64) l5a,false,true,false⟩) (fun s=>s=o13) ?_ ?_
   ·rintro s8j3 t H e ⟨v5j3,Zj3⟩ rfl
    try dsimp only at hh
    obtain⟨x14,hx14,hh⟩:=ag hh
    have q15:=gQ hx14
    have ax12:=bm (eI .i64) hx12
    simp only[bo]at ax12
    have p16:=dF (eI .i64) (x':=cV .and .i64 s8j3 1048575) (fo:=0) (cs:=[.int .i64 (cV .and .i64 s8j3 1048575)]) hx12 rfl (agv rfl)
    simp only[bo,Nat.add_zero]at p16
    have up16:=p16
    simp only[putCells,List.length_cons,List.length_nil,afB,Nat.reduceAdd]at up16
    cases hh
    try simp only[fh,seval,-Int.reduceToNat,hr1,ax12,Zj3,q15,ax12,p16,up16]
    apply iC
    refine⟨v5j3,?_,?_,?_,?_,?_,?_⟩
    all_goals first|rfl|(simp only[fh,seval,-Int.reduceToNat,hr1,ax12,Zj3,q15,ax12,p16,up16]<;>rfl)
   ·clear hh
    have hh:=ho13
    try simp only[fh,seval,-Int.reduceToNat,hr1,Za,ax12]
    apply sp au hh<;>intro _ hh
    ·obtain⟨x18,hx18,hh⟩:=ag hh
     have ax18:=bm (eI .i64) hx18
     simp only[bo]at ax18
     cases hh
     try simp only[fh,seval,-Int.reduceToNat,hr1,Za,ax12,ax18]
     rw[av]
     refine⟨_,rfl,?_⟩
     refine⟨v5a,?_,?_,?_,?_,?_,?_,?_⟩
     all_goals first|rfl|(simp only[fh,seval,-Int.reduceToNat,hr1,Za,ax12,ax18]<;>rfl)
    ·cases hh
     try simp only[fh,seval,-Int.reduceToNat,hr1,Za,ax12]
     rw[av]
     refine⟨_,rfl,?_⟩
     refine⟨v5a,?_,?_,?_,?_,?_,?_,?_⟩
     all_goals first|rfl|(simp only[fh,seval,-Int.reduceToNat,hr1,Za,ax12]<;>rfl)
  ·cases hh
   try simp only[fh,seval,-Int.reduceToNat,hr1,Za]
   apply jP
   refine⟨rfl,⟨v5a,?_,?_⟩⟩
   all_goals first|rfl|(simp only[fh,seval,-Int.reduceToNat,hr1,Za]<;>rfl)
 ·rintro x t H e hx
  obtain⟨l5ax,rfl⟩:∃z,z=o10:=⟨_,rfl⟩
  dsimp only at hx hh
  obtain⟨rfl,⟨v5ax,Zax⟩⟩:=hx
  obtain⟨r19,hr19,hh⟩:=ag hh
  cases hh
  try simp only[fh,seval,-Int.reduceToNat,hr1,Zax,hr19]
theorem Et:bT Try.prog 79 ve:=bT.of (mode := .clean) tok Qp mixed Try.func79 (by kernel_rfl) ⟨by kernel_rfl,by kernel_rfl⟩ (fun _=>agv (by kernel_rfl)) (fun x r h=>Vb x.1 x.2 r h)
def zp:=fR (jE (dk fb) (fH (dk fb))) (fun x:aq×aq=>rP x.1 x.2) (fun r:aq×Int =>.clean (.tup [.agg [.int .i64 r.1.ah,.sl false false r.1.aa.length (ae (eI .i64) r.1.aa)],.int .i64 r.2]))
theorem Ib (p0_0:Int) (p0_1:(List Int)) (p1_0:Int) (p1_1:(List Int)):zp none [.agg [.int .i64 p0_0,.sl false false p0_1.length (ae (eI .i64) p0_1)],.agg [.int .i64 p1_0,.sl false false p1_1.length (ae (eI .i64) p1_1)]]=(rP (aq.mk p0_0 p0_1) (aq.mk p1_0 p1_1)).map fun r:aq×Int=>(.clean (.tup [.agg [.int .i64 r.1.ah,.sl false false r.1.aa.length (ae (eI .i64) r.1.aa)],.int .i64 r.2]),none):=aN _ _ _ ((aq.mk p0_0 p0_1),(aq.mk p1_0 p1_1))
def vB:Env:=(Am.ext (Am.ext (Am.ext (Am.ext (Am.ext (Am.ext (Am.ext aY 50 false eV) 65 false xO) 75 false kC) 76 false gH) 77 false u9) 78 false kD) 79 false ve)
theorem Qg:bq Try.prog vB:=(((((((bq.none.add fG false).add H3 false).add pK false).add jm false).add Ep false).add pL false).add Et false)
theorem eA:type_of% (ai @w<|ai @ch<|ai @rq<|ai @eT<|ai @dG<|ai @rp<|ai @jn<|ai @vZ<|@vB.eq_1):=⟨@w,@ch,@rq,@eT,@dG,@rp,@jn,@vZ,@vB.eq_1⟩
theorem U2 (p0:aq) (p1:aq) (r:aq×Int) (hh:rP p0 p1=some r):a6 .clean tab vB FU Try.f47 none [.agg [.int .i64 p0.ah,.sl false false p0.aa.length (ae (eI .i64) p0.aa)],.agg [.int .i64 p1.ah,.sl false false p1.aa.length (ae (eI .i64) p1.aa)]]=some (.clean (.tup [.agg [.int .i64 r.1.ah,.sl false false r.1.aa.length (ae (eI .i64) r.1.aa)],.int .i64 r.2]),none):=by
 apply aD rfl Try.ntmps47 Try.results47
 unfold rP at hh
 obtain⟨r1,hr1,hh⟩:=ag hh
 try simp only[eA,seval,hr1]
 obtain⟨o2,ho2,hh⟩:=ag hh
 refine bP 0 (fun s t H e=>match s with|s13j1=>∃v2j1:Nat,∃v3j1:Nat,∃v4j1:Nat,t 2=.ptr 2 v2j1 0∧t 3=.ptr 3 v3j1 0∧t 4=.ptr 4 v4j1 0∧t 13=.bool s13j1∧H 2=some ⟨v2j1,39,[.int .i64 p0.ah,.sl false false p0.aa.length (ae (eI .i64) p0.aa)],false,false,false⟩∧H 3=some ⟨v3j1,39,[.int .i64 p1.ah,.sl false false p1.aa.length (ae (eI .i64) p1.aa)],false,false,false⟩∧H 4=some ⟨v4j1,39,[.int .i64 0,.sl true true 0 []],false,false,false⟩) (fun s=>s=o2) ?_ ?_
 ·rintro s13j1 t H e ⟨v2j1,v3j1,v4j1,Zj1⟩ rfl
  try dsimp only at hh
  try simp only[eA,seval,hr1,Zj1]
  apply sp au hh<;>intro _ hh
  ·have i4:=eT false 0 ([])
   simp only[a7,bo,List.length_cons,List.length_nil,afB,Nat.reduceAdd,agN]at i4
   obtain⟨r5,hr5,hh⟩:=ag hh
   cases hh
   try simp only[eA,seval,hr1,Zj1,i4,hr5]
  ·try simp only[eA,seval,hr1,Zj1]
   apply sp au hh<;>intro _ hh
   ·have i7:=rq ([p0.ah,p1.ah])
    simp only[a7,bo,List.length_cons,List.length_nil,afB,Nat.reduceAdd,agN]at i7
    obtain⟨r8,hr8,hh⟩:=ag hh
    obtain⟨r9,hr9,hh⟩:=ag hh
    obtain⟨r10,hr10,hh⟩:=ag hh
    obtain⟨r11,hr11,hh⟩:=ag hh
    try simp only[eA,seval,hr1,Zj1,i7,hr8,hr9,hr10,hr11]
    refine bF (by kernel_rfl) ?_
    cases hh
    try simp only[eA,seval,hr1,Zj1,i7,hr8,hr9,hr10,hr11]
   ·obtain⟨r12,hr12,hh⟩:=ag hh
    try simp only[eA,seval,hr1,Zj1,hr12]
    apply sp au hh<;>intro _ hh
    ·obtain⟨r14,hr14,hh⟩:=ag hh
     obtain⟨r15,hr15,hh⟩:=ag hh
     obtain⟨r16,hr16,hh⟩:=ag hh
     try simp only[eA,seval,hr1,Zj1,hr12,hr14,hr15,hr16]
     refine bF (by kernel_rfl) ?_
     cases hh
     try simp only[eA,seval,hr1,Zj1,hr12,hr14,hr15,hr16]
    ·obtain⟨r17,hr17,hh⟩:=ag hh
     obtain⟨r18,hr18,hh⟩:=ag hh
     obtain⟨r19,hr19,hh⟩:=ag hh
     try simp only[eA,seval,hr1,Zj1,hr12,hr17,hr18,hr19]
     refine bF (by kernel_rfl) ?_
     cases hh
     try simp only[eA,seval,hr1,Zj1,hr12,hr17,hr18,hr19]
 ·clear hh
  have hh:=ho2
  try simp only[eA,seval,hr1]
  apply sp bc hh<;>intro _ hh
  ·cases hh
   try simp only[eA,seval,hr1]
   rw[av]
   refine⟨_,rfl,?_⟩
   refine⟨0,0,0,?_,?_,?_,?_,?_,?_,?_⟩
   all_goals first|rfl|(simp only[eA,seval,hr1]<;>rfl)
  ·obtain⟨r21,hr21,hh⟩:=ag hh
   cases hh
   try simp only[eA,seval,hr1,hr21]
   rw[av]
   refine⟨_,rfl,?_⟩
   refine⟨0,0,0,?_,?_,?_,?_,?_,?_,?_⟩
   all_goals first|rfl|(simp only[eA,seval,hr1,hr21]<;>rfl)
theorem QX:bT Try.prog 47 zp:=bT.of (mode := .clean) tok Qg mixed Try.func47 (by kernel_rfl) ⟨by kernel_rfl,by kernel_rfl⟩ (fun _=>agv (by kernel_rfl)) (fun x r h=>U2 x.1 x.2 r h)
def zq:=fR (jE (dk fb) (fH (dk fb))) (fun x:aq×aq=>nf x.1 x.2) (fun r:aq×aq×Int =>.clean (.tup [.agg [.int .i64 r.1.ah,.sl false false r.1.aa.length (ae (eI .i64) r.1.aa)],.agg [.int .i64 r.2.1.ah,.sl false false r.2.1.aa.length (ae (eI .i64) r.2.1.aa)],.int .i64 r.2.2]))
theorem Ic (p0_0:Int) (p0_1:(List Int)) (p1_0:Int) (p1_1:(List Int)):zq none [.agg [.int .i64 p0_0,.sl false false p0_1.length (ae (eI .i64) p0_1)],.agg [.int .i64 p1_0,.sl false false p1_1.length (ae (eI .i64) p1_1)]]=(nf (aq.mk p0_0 p0_1) (aq.mk p1_0 p1_1)).map fun r:aq×aq×Int=>(.clean (.tup [.agg [.int .i64 r.1.ah,.sl false false r.1.aa.length (ae (eI .i64) r.1.aa)],.agg [.int .i64 r.2.1.ah,.sl false false r.2.1.aa.length (ae (eI .i64) r.2.1.aa)],.int .i64 r.2.2]),none):=aN _ _ _ ((aq.mk p0_0 p0_1),(aq.mk p1_0 p1_1))
def vC:Env:=(Am.ext (Am.ext (Am.ext (Am.ext (Am.ext aY 50 false eV) 76 false gH) 77 false u9) 79 false ve) 83 false va)
theorem Qh:bq Try.prog vC:=(((((bq.none.add fG false).add jm false).add Ep false).add Et false).add Er false)
theorem cH:type_of% (ai @w<|ai @ch<|ai @dG<|ai @rp<|ai @vZ<|ai @vY<|@vC.eq_1):=⟨@w,@ch,@dG,@rp,@vZ,@vY,@vC.eq_1⟩
theorem U3 (p0:aq) (p1:aq) (r:aq×aq×Int) (hh:nf p0 p1=some r):a6 .clean tab vC FU Try.f81 none [.agg [.int .i64 p0.ah,.sl false false p0.aa.length (ae (eI .i64) p0.aa)],.agg [.int .i64 p1.ah,.sl false false p1.aa.length (ae (eI .i64) p1.aa)]]=some (.clean (.tup [.agg [.int .i64 r.1.ah,.sl false false r.1.aa.length (ae (eI .i64) r.1.aa)],.agg [.int .i64 r.2.1.ah,.sl false false r.2.1.aa.length (ae (eI .i64) r.2.1.aa)],.int .i64 r.2.2]),none):=by
 apply aD rfl Try.ntmps81 Try.results81
 unfold nf at hh
 obtain⟨r1,hr1,hh⟩:=ag hh
 try simp only[cH,seval,hr1]
 obtain⟨o2,ho2,hh⟩:=ag hh
 refine bP 0 (fun s t H e=>match s with|s9j1=>∃v2j1:Nat,∃v3j1:Nat,∃v4j1:Nat,∃v5j1:Nat,t 2=.ptr 2 v2j1 0∧t 3=.ptr 3 v3j1 0∧t 4=.ptr 4 v4j1 0∧t 5=.ptr 5 v5j1 0∧t 9=.bool s9j1∧H 2=some ⟨v2j1,39,[.int .i64 p0.ah,.sl false false p0.aa.length (ae (eI .i64) p0.aa)],false,false,false⟩∧H 3=some ⟨v3j1,39,[.int .i64 p1.ah,.sl false false p1.aa.length (ae (eI .i64) p1.aa)],false,false,false⟩∧H 4=some ⟨v4j1,39,[.int .i64 0,.sl true true 0 []],false,false,false⟩∧H 5=some ⟨v5j1,39,[.int .i64 0,.sl true true 0 []],false,false,false⟩) (fun s=>s=o2) ?_ ?_
 ·rintro s9j1 t H e ⟨v2j1,v3j1,v4j1,v5j1,Zj1⟩ rfl
  try dsimp only at hh
  try simp only[cH,seval,hr1,Zj1]
  apply sp au hh<;>intro _ hh
  ·cases hh
   try simp only[cH,seval,hr1,Zj1]
  ·try simp only[cH,seval,hr1,Zj1]
   apply sp au hh<;>intro _ hh
   ·cases hh
    try simp only[cH,seval,hr1,Zj1]
   ·obtain⟨r5,hr5,hh⟩:=ag hh
    try simp only[cH,seval,hr1,Zj1,hr5]
    obtain⟨o6,ho6,hh⟩:=ag hh
    refine bP 0 (fun s t H e=>match s with|s44j2=>∃v2j2:Nat,∃v3j2:Nat,∃v4j2:Nat,∃v5j2:Nat,t 2=.ptr 2 v2j2 0∧t 3=.ptr 3 v3j2 0∧t 4=.ptr 4 v4j2 0∧t 5=.ptr 5 v5j2 0∧t 7=.sl false false r5.1.length (ae (eI .i64) r5.1)∧t 8=.sl false false r5.2.length (ae (eI .i64) r5.2)∧t 44=.bool s44j2∧H 2=some ⟨v2j2,39,[.int .i64 p0.ah,.sl false false p0.aa.length (ae (eI .i64) p0.aa)],false,false,false⟩∧H 3=some ⟨v3j2,39,[.int .i64 p1.ah,.sl false false p1.aa.length (ae (eI .i64) p1.aa)],false,false,false⟩∧H 4=some ⟨v4j2,39,[.int .i64 0,.sl true true 0 []],false,false,false⟩∧H 5=some ⟨v5j2,39,[.int .i64 0,.sl true true 0 []],false,false,false⟩) (fun s=>s=o6) ?_ ?_
    ·rintro s44j2 t H e ⟨v2j2,v3j2,v4j2,v5j2,Zj2⟩ rfl
     try dsimp only at hh
     try simp only[cH,seval,hr1,hr5,Zj2]
     apply sp au hh<;>intro _ hh
     ·have i8:=rp r5.1 ([1])
      simp only[a7,bo,List.length_cons,List.length_nil,afB,Nat.reduceAdd,agN]at i8
      obtain⟨r9,hr9,hh⟩:=ag hh
      obtain⟨r10,hr10,hh⟩:=ag hh
      obtain⟨r11,hr11,hh⟩:=ag hh
      obtain⟨r12,hr12,hh⟩:=ag hh
      try simp only[cH,seval,hr1,hr5,Zj2,i8,hr9,hr10,hr11,hr12]
      refine bF (by kernel_rfl) ?_
      cases hh
      try simp only[cH,seval,hr1,hr5,Zj2,i8,hr9,hr10,hr11,hr12]
     ·obtain⟨r13,hr13,hh⟩:=ag hh
      obtain⟨r14,hr14,hh⟩:=ag hh
      try simp only[cH,seval,hr1,hr5,Zj2,hr13,hr14]
      refine bF (by kernel_rfl) ?_
      cases hh
      try simp only[cH,seval,hr1,hr5,Zj2,hr13,hr14]
    ·clear hh
     have hh:=ho6
     try simp only[cH,seval,hr1,Zj1,hr5]
     apply sp dj hh<;>intro _ hh
     ·cases hh
      try simp only[cH,seval,hr1,Zj1,hr5]
      rw[av]
      refine⟨_,rfl,?_⟩
      refine⟨v2j1,v3j1,v4j1,v5j1,?_,?_,?_,?_,?_,?_,?_,?_,?_,?_,?_⟩
      all_goals first|rfl|(simp only[cH,seval,hr1,Zj1,hr5]<;>rfl)
     ·cases hh
      try simp only[cH,seval,hr1,Zj1,hr5]
      rw[av]
      refine⟨_,rfl,?_⟩
      refine⟨v2j1,v3j1,v4j1,v5j1,?_,?_,?_,?_,?_,?_,?_,?_,?_,?_,?_⟩
      all_goals first|rfl|(simp only[cH,seval,hr1,Zj1,hr5]<;>rfl)
 ·clear hh
  have hh:=ho2
  try simp only[cH,seval,hr1]
  apply sp bc hh<;>intro _ hh
  ·cases hh
   try simp only[cH,seval,hr1]
   rw[av]
   refine⟨_,rfl,?_⟩
   refine⟨0,0,0,0,?_,?_,?_,?_,?_,?_,?_,?_,?_⟩
   all_goals first|rfl|(simp only[cH,seval,hr1]<;>rfl)
  ·obtain⟨r17,hr17,hh⟩:=ag hh
   cases hh
   try simp only[cH,seval,hr1,hr17]
   rw[av]
   refine⟨_,rfl,?_⟩
   refine⟨0,0,0,0,?_,?_,?_,?_,?_,?_,?_,?_,?_⟩
   all_goals first|rfl|(simp only[cH,seval,hr1,hr17]<;>rfl)
theorem QY:bT Try.prog 81 zq:=bT.of (mode := .clean) tok Qh mixed Try.func81 (by kernel_rfl) ⟨by kernel_rfl,by kernel_rfl⟩ (fun _=>agv (by kernel_rfl)) (fun x r h=>U3 x.1 x.2 r h)
def pc:=fR (jE (dk fb) (fH (dk fb))) (fun x:aq×aq=>l7 x.1 x.2) (fun r:al×Int =>.clean (.tup [.agg [.int .i64 r.1.aJ.ah,.sl false false r.1.aJ.aa.length (ae (eI .i64) r.1.aJ.aa),.int .i64 r.1.aL.ah,.sl false false r.1.aL.aa.length (ae (eI .i64) r.1.aL.aa)],.int .i64 r.2]))
theorem m5 (p0_0:Int) (p0_1:(List Int)) (p1_0:Int) (p1_1:(List Int)):pc none [.agg [.int .i64 p0_0,.sl false false p0_1.length (ae (eI .i64) p0_1)],.agg [.int .i64 p1_0,.sl false false p1_1.length (ae (eI .i64) p1_1)]]=(l7 (aq.mk p0_0 p0_1) (aq.mk p1_0 p1_1)).map fun r:al×Int=>(.clean (.tup [.agg [.int .i64 r.1.aJ.ah,.sl false false r.1.aJ.aa.length (ae (eI .i64) r.1.aJ.aa),.int .i64 r.1.aL.ah,.sl false false r.1.aL.aa.length (ae (eI .i64) r.1.aL.aa)],.int .i64 r.2]),none):=aN _ _ _ ((aq.mk p0_0 p0_1),(aq.mk p1_0 p1_1))
def si:Env:=(Am.ext (Am.ext (Am.ext (Am.ext aY 50 false eV) 51 false u6) 64 false u7) 81 false zq)
theorem MG:bq Try.prog si:=((((bq.none.add fG false).add En false).add Eo false).add QY false)
theorem cM:type_of% (ai @w<|ai @ch<|ai @vW<|ai @vX<|ai @Ic<|@si.eq_1):=⟨@w,@ch,@vW,@vX,@Ic,@si.eq_1⟩
theorem QI (p0:aq) (p1:aq) (r:al×Int) (hh:l7 p0 p1=some r):a6 .clean tab si FU Try.f49 none [.agg [.int .i64 p0.ah,.sl false false p0.aa.length (ae (eI .i64) p0.aa)],.agg [.int .i64 p1.ah,.sl false false p1.aa.length (ae (eI .i64) p1.aa)]]=some (.clean (.tup [.agg [.int .i64 r.1.aJ.ah,.sl false false r.1.aJ.aa.length (ae (eI .i64) r.1.aJ.aa),.int .i64 r.1.aL.ah,.sl false false r.1.aL.aa.length (ae (eI .i64) r.1.aL.aa)],.int .i64 r.2]),none):=by
 apply aD rfl Try.ntmps49 Try.results49
 unfold l7 at hh
 obtain⟨r1,hr1,hh⟩:=ag hh
 try simp only[cM,seval,hr1]
 obtain⟨o2,ho2,hh⟩:=ag hh
 refine bP 0 (fun s t H e=>match s with|s14j1=>∃v2j1:Nat,∃v3j1:Nat,∃v4j1:Nat,t 2=.ptr 2 v2j1 0∧t 3=.ptr 3 v3j1 0∧t 4=.ptr 4 v4j1 0∧t 14=.bool s14j1∧H 2=some ⟨v2j1,39,[.int .i64 p0.ah,.sl false false p0.aa.length (ae (eI .i64) p0.aa)],false,false,false⟩∧H 3=some ⟨v3j1,39,[.int .i64 p1.ah,.sl false false p1.aa.length (ae (eI .i64) p1.aa)],false,false,false⟩∧H 4=some ⟨v4j1,41,[.int .i64 0,.sl true true 0 [],.int .i64 0,.sl true true 0 []],false,false,false⟩) (fun s=>s=o2) ?_ ?_
 ·rintro s14j1 t H e ⟨v2j1,v3j1,v4j1,Zj1⟩ rfl
  try dsimp only at hh
  try simp only[cM,seval,hr1,Zj1]
  apply sp au hh<;>intro _ hh
  ·cases hh
   try simp only[cM,seval,hr1,Zj1]
  ·try simp only[cM,seval,hr1,Zj1]
   apply sp au hh<;>intro _ hh
   ·cases hh
    try simp only[cM,seval,hr1,Zj1]
   ·try simp only[cM,seval,hr1,Zj1]
    obtain⟨o5,ho5,hh⟩:=ag hh
    refine je 0 (fun s t H e=>match s with|(r2_0j2,r2_1j2,r3_0j2,r3_1j2)=>∃v2j2:Nat,∃v3j2:Nat,∃v4j2:Nat,t 2=.ptr 2 v2j2 0∧t 3=.ptr 3 v3j2 0∧t 4=.ptr 4 v4j2 0∧H 2=some ⟨v2j2,39,[.int .i64 r2_0j2,.sl false false r2_1j2.length (ae (eI .i64) r2_1j2)],false,false,false⟩∧H 3=some ⟨v3j2,39,[.int .i64 r3_0j2,.sl false false r3_1j2.length (ae (eI .i64) r3_1j2)],false,false,false⟩∧H 4=some ⟨v4j2,41,[.int .i64 0,.sl true true 0 [],.int .i64 0,.sl true true 0 []],false,false,false⟩) (fun s=>s=o5) ?_ ?_
    ·rintro⟨r2_0j2,r2_1j2,r3_0j2,r3_1j2⟩ t H e ⟨v2j2,v3j2,v4j2,Zj2⟩ rfl
     try dsimp only at hh
     obtain⟨r6,hr6,hh⟩:=ag hh
     obtain⟨r7,hr7,hh⟩:=ag hh
     obtain⟨r8,hr8,hh⟩:=ag hh
     cases hh
     try simp only[cM,seval,hr1,Zj2,hr6,hr7,hr8]
    ·clear hh
     have hh:=ho5
     try simp only[cM,seval,hr1,Zj1]
     apply sp au hh<;>intro _ hh
     ·obtain⟨r10,hr10,hh⟩:=ag hh
      obtain⟨r11,hr11,hh⟩:=ag hh
      try simp only[cM,seval,hr1,Zj1,hr10,hr11]
      refine bF (by kernel_rfl) ?_
      cases hh
      try simp only[cM,seval,hr1,Zj1,hr10,hr11]
      rw[av]
      refine⟨_,rfl,?_⟩
      refine⟨v2j1,v3j1,v4j1,?_,?_,?_,?_,?_,?_⟩
      all_goals first|rfl|(simp only[cM,seval,hr1,Zj1,hr10,hr11]<;>rfl)
     ·cases hh
      try simp only[cM,seval,hr1,Zj1]
      rw[av]
      refine⟨_,rfl,?_⟩
      refine⟨v2j1,v3j1,v4j1,?_,?_,?_,?_,?_,?_⟩
      all_goals first|rfl|(simp only[cM,seval,hr1,Zj1]<;>rfl)
 ·clear hh
  have hh:=ho2
  try simp only[cM,seval,hr1]
  apply sp bc hh<;>intro _ hh
  ·cases hh
   try simp only[cM,seval,hr1]
   rw[av]
   refine⟨_,rfl,?_⟩
   refine⟨0,0,0,?_,?_,?_,?_,?_,?_,?_⟩
   all_goals first|rfl|(simp only[cM,seval,hr1]<;>rfl)
  ·obtain⟨r13,hr13,hh⟩:=ag hh
   cases hh
   try simp only[cM,seval,hr1,hr13]
   rw[av]
   refine⟨_,rfl,?_⟩
   refine⟨0,0,0,?_,?_,?_,?_,?_,?_,?_⟩
   all_goals first|rfl|(simp only[cM,seval,hr1,hr13]<;>rfl)
theorem uL:bT Try.prog 49 pc:=bT.of (mode := .clean) tok MG mixed Try.func49 (by kernel_rfl) ⟨by kernel_rfl,by kernel_rfl⟩ (fun _=>agv (by kernel_rfl)) (fun x r h=>QI x.1 x.2 r h)
def o0:=fR (jE (dk an) (fH (dk an))) (fun x:al×al=>l6 x.1 x.2) (fun r:al×Int =>.clean (.tup [.agg [.int .i64 r.1.aJ.ah,.sl false false r.1.aJ.aa.length (ae (eI .i64) r.1.aJ.aa),.int .i64 r.1.aL.ah,.sl false false r.1.aL.aa.length (ae (eI .i64) r.1.aL.aa)],.int .i64 r.2]))
theorem m0 (p0_0:Int) (p0_1:(List Int)) (p0_2:Int) (p0_3:(List Int)) (p1_0:Int) (p1_1:(List Int)) (p1_2:Int) (p1_3:(List Int)):o0 none [.agg [.int .i64 p0_0,.sl false false p0_1.length (ae (eI .i64) p0_1),.int .i64 p0_2,.sl false false p0_3.length (ae (eI .i64) p0_3)],.agg [.int .i64 p1_0,.sl false false p1_1.length (ae (eI .i64) p1_1),.int .i64 p1_2,.sl false false p1_3.length (ae (eI .i64) p1_3)]]=(l6 (al.mk (aq.mk p0_0 p0_1) (aq.mk p0_2 p0_3)) (al.mk (aq.mk p1_0 p1_1) (aq.mk p1_2 p1_3))).map fun r:al×Int=>(.clean (.tup [.agg [.int .i64 r.1.aJ.ah,.sl false false r.1.aJ.aa.length (ae (eI .i64) r.1.aJ.aa),.int .i64 r.1.aL.ah,.sl false false r.1.aL.aa.length (ae (eI .i64) r.1.aL.aa)],.int .i64 r.2]),none):=aN _ _ _ ((al.mk (aq.mk p0_0 p0_1) (aq.mk p0_2 p0_3)),(al.mk (aq.mk p1_0 p1_1) (aq.mk p1_2 p1_3)))
def se:Env:=(Am.ext (Am.ext (Am.ext (Am.ext aY 22 false ec) 47 false zp) 48 false j1) 49 false pc)
theorem MC:bq Try.prog se:=((((bq.none.add eS false).add QX false).add ny false).add uL false)
theorem gi:type_of% (ai @w<|ai @bV<|ai @Ib<|ai @gP<|ai @m5<|@se.eq_1):=⟨@w,@bV,@Ib,@gP,@m5,@se.eq_1⟩
theorem QD (p0:al) (p1:al) (r:al×Int) (hh:l6 p0 p1=some r):a6 .clean tab se FU Try.f18 none [.agg [.int .i64 p0.aJ.ah,.sl false false p0.aJ.aa.length (ae (eI .i64) p0.aJ.aa),.int .i64 p0.aL.ah,.sl false false p0.aL.aa.length (ae (eI .i64) p0.aL.aa)],.agg [.int .i64 p1.aJ.ah,.sl false false p1.aJ.aa.length (ae (eI .i64) p1.aJ.aa),.int .i64 p1.aL.ah,.sl false false p1.aL.aa.length (ae (eI .i64) p1.aL.aa)]]=some (.clean (.tup [.agg [.int .i64 r.1.aJ.ah,.sl false false r.1.aJ.aa.length (ae (eI .i64) r.1.aJ.aa),.int .i64 r.1.aL.ah,.sl false false r.1.aL.aa.length (ae (eI .i64) r.1.aL.aa)],.int .i64 r.2]),none):=by
 apply aD rfl Try.ntmps18 Try.results18
 unfold l6 at hh
 obtain⟨r1,hr1,hh⟩:=ag hh
 try simp only[gi,seval,hr1]
 obtain⟨o2,ho2,hh⟩:=ag hh
 refine bP 0 (fun s t H e=>match s with|s15j1=>∃v2j1:Nat,∃v3j1:Nat,∃v4j1:Nat,t 2=.ptr 2 v2j1 0∧t 3=.ptr 3 v3j1 0∧t 4=.ptr 4 v4j1 0∧t 15=.bool s15j1∧H 2=some ⟨v2j1,41,[.int .i64 p0.aJ.ah,.sl false false p0.aJ.aa.length (ae (eI .i64) p0.aJ.aa),.int .i64 p0.aL.ah,.sl false false p0.aL.aa.length (ae (eI .i64) p0.aL.aa)],false,false,false⟩∧H 3=some ⟨v3j1,41,[.int .i64 p1.aJ.ah,.sl false false p1.aJ.aa.length (ae (eI .i64) p1.aJ.aa),.int .i64 p1.aL.ah,.sl false false p1.aL.aa.length (ae (eI .i64) p1.aL.aa)],false,false,false⟩∧H 4=some ⟨v4j1,41,[.int .i64 0,.sl true true 0 [],.int .i64 0,.sl true true 0 []],false,false,false⟩) (fun s=>s=o2) ?_ ?_
 ·rintro s15j1 t H e ⟨v2j1,v3j1,v4j1,Zj1⟩ rfl
  try dsimp only at hh
  try simp only[gi,seval,hr1,Zj1]
  apply sp au hh<;>intro _ hh
  ·cases hh
   try simp only[gi,seval,hr1,Zj1]
  ·obtain⟨r4,hr4,hh⟩:=ag hh
   obtain⟨r5,hr5,hh⟩:=ag hh
   obtain⟨r6,hr6,hh⟩:=ag hh
   try simp only[gi,seval,hr1,Zj1,hr4,hr5,hr6]
   refine bF (by kernel_rfl) ?_
   obtain⟨r7,hr7,hh⟩:=ag hh
   obtain⟨r8,hr8,hh⟩:=ag hh
   try simp only[gi,seval,hr1,Zj1,hr4,hr5,hr6,hr7,hr8]
   refine bF (by kernel_rfl) ?_
   cases hh
   try simp only[gi,seval,hr1,Zj1,hr4,hr5,hr6,hr7,hr8]
 ·clear hh
  have hh:=ho2
  try simp only[gi,seval,hr1]
  apply sp bc hh<;>intro _ hh
  ·cases hh
   try simp only[gi,seval,hr1]
   rw[av]
   refine⟨_,rfl,?_⟩
   refine⟨0,0,0,?_,?_,?_,?_,?_,?_,?_⟩
   all_goals first|rfl|(simp only[gi,seval,hr1]<;>rfl)
  ·obtain⟨r10,hr10,hh⟩:=ag hh
   cases hh
   try simp only[gi,seval,hr1,hr10]
   rw[av]
   refine⟨_,rfl,?_⟩
   refine⟨0,0,0,?_,?_,?_,?_,?_,?_,?_⟩
   all_goals first|rfl|(simp only[gi,seval,hr1,hr10]<;>rfl)
theorem uK:bT Try.prog 18 o0:=bT.of (mode := .clean) tok MC mixed Try.func18 (by kernel_rfl) ⟨by kernel_rfl,by kernel_rfl⟩ (fun _=>agv (by kernel_rfl)) (fun x r h=>QD x.1 x.2 r h)
def mK:=fR (jE (dk an) (fH (dk an))) (fun x:al×al=>kG x.1 x.2) (fun r:al×Int =>.clean (.tup [.agg [.int .i64 r.1.aJ.ah,.sl false false r.1.aJ.aa.length (ae (eI .i64) r.1.aJ.aa),.int .i64 r.1.aL.ah,.sl false false r.1.aL.aa.length (ae (eI .i64) r.1.aL.aa)],.int .i64 r.2]))
theorem jT (p0_0:Int) (p0_1:(List Int)) (p0_2:Int) (p0_3:(List Int)) (p1_0:Int) (p1_1:(List Int)) (p1_2:Int) (p1_3:(List Int)):mK none [.agg [.int .i64 p0_0,.sl false false p0_1.length (ae (eI .i64) p0_1),.int .i64 p0_2,.sl false false p0_3.length (ae (eI .i64) p0_3)],.agg [.int .i64 p1_0,.sl false false p1_1.length (ae (eI .i64) p1_1),.int .i64 p1_2,.sl false false p1_3.length (ae (eI .i64) p1_3)]]=(kG (al.mk (aq.mk p0_0 p0_1) (aq.mk p0_2 p0_3)) (al.mk (aq.mk p1_0 p1_1) (aq.mk p1_2 p1_3))).map fun r:al×Int=>(.clean (.tup [.agg [.int .i64 r.1.aJ.ah,.sl false false r.1.aJ.aa.length (ae (eI .i64) r.1.aJ.aa),.int .i64 r.1.aL.ah,.sl false false r.1.aL.aa.length (ae (eI .i64) r.1.aL.aa)],.int .i64 r.2]),none):=aN _ _ _ ((al.mk (aq.mk p0_0 p0_1) (aq.mk p0_2 p0_3)),(al.mk (aq.mk p1_0 p1_1) (aq.mk p1_2 p1_3)))
def sj:Env:=(Am.ext (Am.ext (Am.ext aY 18 false o0) 22 false ec) 64 false u7)
theorem MH:bq Try.prog sj:=(((bq.none.add uK false).add eS false).add Eo false)
theorem gX:type_of% (ai @w<|ai @m0<|ai @bV<|ai @vX<|@sj.eq_1):=⟨@w,@m0,@bV,@vX,@sj.eq_1⟩
theorem QJ (p0:al) (p1:al) (r:al×Int) (hh:kG p0 p1=some r):a6 .clean tab sj FU Try.f30 none [.agg [.int .i64 p0.aJ.ah,.sl false false p0.aJ.aa.length (ae (eI .i64) p0.aJ.aa),.int .i64 p0.aL.ah,.sl false false p0.aL.aa.length (ae (eI .i64) p0.aL.aa)],.agg [.int .i64 p1.aJ.ah,.sl false false p1.aJ.aa.length (ae (eI .i64) p1.aJ.aa),.int .i64 p1.aL.ah,.sl false false p1.aL.aa.length (ae (eI .i64) p1.aL.aa)]]=some (.clean (.tup [.agg [.int .i64 r.1.aJ.ah,.sl false false r.1.aJ.aa.length (ae (eI .i64) r.1.aJ.aa),.int .i64 r.1.aL.ah,.sl false false r.1.aL.aa.length (ae (eI .i64) r.1.aL.aa)],.int .i64 r.2]),none):=by
 apply aD rfl Try.ntmps30 Try.results30
 unfold kG at hh
 obtain⟨r1,hr1,hh⟩:=ag hh
 try simp only[gX,seval,hr1]
 obtain⟨o2,ho2,hh⟩:=ag hh
 refine bP 0 (fun s t H e=>match s with|s13j1=>∃v2j1:Nat,∃v3j1:Nat,∃v4j1:Nat,t 2=.ptr 2 v2j1 0∧t 3=.ptr 3 v3j1 0∧t 4=.ptr 4 v4j1 0∧t 13=.bool s13j1∧H 2=some ⟨v2j1,41,[.int .i64 p0.aJ.ah,.sl false false p0.aJ.aa.length (ae (eI .i64) p0.aJ.aa),.int .i64 p0.aL.ah,.sl false false p0.aL.aa.length (ae (eI .i64) p0.aL.aa)],false,false,false⟩∧H 3=some ⟨v3j1,41,[.int .i64 p1.aJ.ah,.sl false false p1.aJ.aa.length (ae (eI .i64) p1.aJ.aa),.int .i64 p1.aL.ah,.sl false false p1.aL.aa.length (ae (eI .i64) p1.aL.aa)],false,false,false⟩∧H 4=some ⟨v4j1,41,[.int .i64 0,.sl true true 0 [],.int .i64 0,.sl true true 0 []],false,false,false⟩) (fun s=>s=o2) ?_ ?_
 ·rintro s13j1 t H e ⟨v2j1,v3j1,v4j1,Zj1⟩ rfl
  try dsimp only at hh
  try simp only[gX,seval,hr1,Zj1]
  apply sp au hh<;>intro _ hh
  ·cases hh
   try simp only[gX,seval,hr1,Zj1]
  ·obtain⟨r4,hr4,hh⟩:=ag hh
   obtain⟨r5,hr5,hh⟩:=ag hh
   try simp only[gX,seval,hr1,Zj1,hr4,hr5]
   refine bF (by kernel_rfl) ?_
   cases hh
   try simp only[gX,seval,hr1,Zj1,hr4,hr5]
 ·clear hh
  have hh:=ho2
  try simp only[gX,seval,hr1]
  apply sp bc hh<;>intro _ hh
  ·cases hh
   try simp only[gX,seval,hr1]
   rw[av]
   refine⟨_,rfl,?_⟩
   refine⟨0,0,0,?_,?_,?_,?_,?_,?_,?_⟩
   all_goals first|rfl|(simp only[gX,seval,hr1]<;>rfl)
  ·obtain⟨r7,hr7,hh⟩:=ag hh
   cases hh
   try simp only[gX,seval,hr1,hr7]
   rw[av]
   refine⟨_,rfl,?_⟩
   refine⟨0,0,0,?_,?_,?_,?_,?_,?_,?_⟩
   all_goals first|rfl|(simp only[gX,seval,hr1,hr7]<;>rfl)
theorem qo:bT Try.prog 30 mK:=bT.of (mode := .clean) tok MH mixed Try.func30 (by kernel_rfl) ⟨by kernel_rfl,by kernel_rfl⟩ (fun _=>agv (by kernel_rfl)) (fun x r h=>QJ x.1 x.2 r h)
def pY:=fR (fH (dk td)) (fun x:de=>lC x) (fun r:(List al) =>.clean (.sl false false r.length (ae an r)))
theorem qv (p0_0:Int) (p0_1:(List fa)):pY none [.agg [.int .i64 p0_0,.sl false false p0_1.length (ae ba p0_1)]]=(lC (de.mk p0_0 p0_1)).map fun r:(List al)=>(.clean (.sl false false r.length (ae an r)),none):=aN _ _ _ ((de.mk p0_0 p0_1))
def qk:Env:=(Am.ext (Am.ext aY 30 false mK) 44 false iN)
theorem JI:bq Try.prog qk:=((bq.none.add qo false).add jR false)
theorem cK:type_of% (ai @w<|ai @jT<|ai @eo<|@qk.eq_1):=⟨@w,@jT,@eo,@qk.eq_1⟩
theorem NR (p0:de) (r:(List al)) (hh:lC p0=some r):a6 .clean tab qk FU Try.f37 none [.agg [.int .i64 p0.aG,.sl false false p0.aw.length (ae ba p0.aw)]]=some (.clean (.sl false false r.length (ae an r)),none):=by
 apply aD rfl Try.ntmps37 Try.results37
 unfold lC at hh
 obtain⟨x1,hx1,hh⟩:=ag hh
 obtain⟨q2a,q2b,q2c,q2d,q2e⟩:=mk_one an hx1
 simp only[bo]at q2d
 try simp only[cK,seval,q2a,q2b,q2c,q2d,q2e]
 obtain⟨o7,ho7,hh⟩:=ag hh
 refine aB (fun s t H e=>match s with|(s12a,l3a)=>∃v1a:Nat,∃v3a:Nat,t 1=.ptr 1 v1a 0∧t 3=.buf 3 v3a 4 0 (l3a).length∧t 11=.int .i64 ((x1).length:Int)∧t 12=.int .i64 s12a∧H 1=some ⟨v1a,24,[.int .i64 p0.aG,.sl false false p0.aw.length (ae ba p0.aw)],false,false,false⟩∧H 3=some ⟨v3a,41,ae an l3a,false,true,false⟩) (fun o x t H e=>match o with|l3ax=>x=.exit 0∧∃v1ax:Nat,∃v3ax:Nat,t 1=.ptr 1 v1ax 0∧t 3=.buf 3 v3ax 4 0 (l3ax).length∧H 1=some ⟨v1ax,24,[.int .i64 p0.aG,.sl false false p0.aw.length (ae ba p0.aw)],false,false,false⟩∧H 3=some ⟨v3ax,41,ae an l3ax,false,true,false⟩) ho7 ?_ ?_ ?_
 ·refine⟨0,1,?_,?_,?_,?_,?_,?_⟩
  all_goals first|rfl|(simp only[cK,seval,q2a,q2b,q2c,q2d,q2e]<;>rfl)
 ·rintro⟨s12a,l3a⟩ t H e ⟨v1a,v3a,Za⟩ c hh
  simp only[mi]at hh
  try simp only[cK,seval,q2a,q2b,q2c,q2d,q2e,Za]
  apply sp au hh<;>intro _ hh
  ·obtain⟨r9,hr9,hh⟩:=ag hh
   obtain⟨x10,hx10,hh⟩:=ag hh
   have ax10:=bm an hx10
   simp only[bo]at ax10
   have p11:=dF an (x':=r9) (fo:=0) (cs:=[.int .i64 r9.aJ.ah,.sl false false r9.aJ.aa.length (ae (eI .i64) r9.aJ.aa),.int .i64 r9.aL.ah,.sl false false r9.aL.aa.length (ae (eI .i64) r9.aL.aa)]) hx10 rfl (agv rfl)
   simp only[bo,Nat.add_zero]at p11
   have up11:=p11
   simp only[putCells,List.length_cons,List.length_nil,afB,Nat.reduceAdd]at up11
   cases hh
   try simp only[cK,seval,q2a,q2b,q2c,q2d,q2e,Za,hr9,ax10,p11,up11]
   apply iC
   refine⟨v1a,v3a,?_,?_,?_,?_,?_,?_⟩
   all_goals first|rfl|(simp only[cK,seval,q2a,q2b,q2c,q2d,q2e,Za,hr9,ax10,p11,up11]<;>rfl)
  ·cases hh
   try simp only[cK,seval,q2a,q2b,q2c,q2d,q2e,Za]
   apply jP
   refine⟨rfl,⟨v1a,v3a,?_,?_,?_,?_⟩⟩
   all_goals first|rfl|(simp only[cK,seval,q2a,q2b,q2c,q2d,q2e,Za]<;>rfl)
 ·rintro x t H e hx
  obtain⟨l3ax,rfl⟩:∃z,z=o7:=⟨_,rfl⟩
  dsimp only at hx hh
  obtain⟨rfl,⟨v1ax,v3ax,Zax⟩⟩:=hx
  try simp only[cK,seval,q2a,q2b,q2c,q2d,q2e,Zax]
  obtain⟨o17,ho17,hh⟩:=ag hh
  refine aB (fun s t H e=>match s with|(s23b,l3b)=>∃v3b:Nat,t 3=.buf 3 v3b 4 0 (l3b).length∧t 21=.sl false false p0.aw.length (ae ba p0.aw)∧t 22=.int .i64 (p0.aw.length:Int)∧t 23=.int .i64 s23b∧H 3=some ⟨v3b,41,ae an l3b,false,true,false⟩) (fun o x t H e=>match o with|l3bx=>x=.exit 2∧∃v3bx:Nat,t 3=.buf 3 v3bx 4 0 (l3bx).length∧H 3=some ⟨v3bx,41,ae an l3bx,false,true,false⟩) ho17 ?_ ?_ ?_
  ·refine⟨v3ax,?_,?_,?_,?_,?_⟩
   all_goals first|rfl|(simp only[cK,seval,q2a,q2b,q2c,q2d,q2e,Zax]<;>rfl)
  ·rintro⟨s23b,l3b⟩ t H e ⟨v3b,Zb⟩ c hh
   simp only[mj]at hh
   try simp only[cK,seval,q2a,q2b,q2c,q2d,q2e,Zb]
   apply sp au hh<;>intro _ hh
   ·obtain⟨x19,hx19,hh⟩:=ag hh
    have ax19:=bm ba hx19
    simp only[bo]at ax19
    obtain⟨x20,hx20,hh⟩:=ag hh
    have ax20:=bm an hx20
    simp only[bo]at ax20
    obtain⟨r21,hr21,hh⟩:=ag hh
    have ax20:=bm an hx20
    simp only[bo]at ax20
    have p22:=dF an (x':=r21.1) (fo:=0) (cs:=[.int .i64 r21.1.aJ.ah,.sl false false r21.1.aJ.aa.length (ae (eI .i64) r21.1.aJ.aa),.int .i64 r21.1.aL.ah,.sl false false r21.1.aL.aa.length (ae (eI .i64) r21.1.aL.aa)]) hx20 rfl (agv rfl)
    simp only[bo,Nat.add_zero]at p22
    have up22:=p22
    simp only[putCells,List.length_cons,List.length_nil,afB,Nat.reduceAdd]at up22
    try simp only[cK,seval,q2a,q2b,q2c,q2d,q2e,Zb,ax19,ax20,hr21,ax20,p22,up22]
    refine bF (by kernel_rfl) ?_
    cases hh
    try simp only[cK,seval,q2a,q2b,q2c,q2d,q2e,Zb,ax19,ax20,hr21,ax20,p22,up22]
    apply iC
    refine⟨v3b,?_,?_,?_,?_,?_⟩
    all_goals first|rfl|(simp only[cK,seval,q2a,q2b,q2c,q2d,q2e,Zb,ax19,ax20,hr21,ax20,p22,up22]<;>rfl)
   ·cases hh
    try simp only[cK,seval,q2a,q2b,q2c,q2d,q2e,Zb]
    apply jP
    refine⟨rfl,⟨v3b,?_,?_⟩⟩
    all_goals first|rfl|(simp only[cK,seval,q2a,q2b,q2c,q2d,q2e,Zb]<;>rfl)
  ·rintro x t H e hx
   obtain⟨l3bx,rfl⟩:∃z,z=o17:=⟨_,rfl⟩
   dsimp only at hx hh
   obtain⟨rfl,⟨v3bx,Zbx⟩⟩:=hx
   cases hh
   try simp only[cK,seval,q2a,q2b,q2c,q2d,q2e,Zbx]
theorem yN:bT Try.prog 37 pY:=bT.of (mode := .clean) tok JI mixed Try.func37 (by kernel_rfl) ⟨by kernel_rfl,by kernel_rfl⟩ (fun _=>agv (by kernel_rfl)) (fun x r h=>NR x r h)
def qH:=fR (fH (dk an)) (fun x:al=>lB x) (fun r:Bool =>.clean (.bool r))
theorem wW (p0_0:Int) (p0_1:(List Int)) (p0_2:Int) (p0_3:(List Int)):qH none [.agg [.int .i64 p0_0,.sl false false p0_1.length (ae (eI .i64) p0_1),.int .i64 p0_2,.sl false false p0_3.length (ae (eI .i64) p0_3)]]=(lB (al.mk (aq.mk p0_0 p0_1) (aq.mk p0_2 p0_3))).map fun r:Bool=>(.clean (.bool r),none):=aN _ _ _ ((al.mk (aq.mk p0_0 p0_1) (aq.mk p0_2 p0_3)))
def ns:Env:=(Am.ext aY 20 false jH)
theorem DK:bq Try.prog ns:=(bq.none.add mq false)
theorem F5:type_of% (ai @w<|ai @fN<|@ns.eq_1):=⟨@w,@fN,@ns.eq_1⟩
theorem FN (p0:al) (r:Bool) (hh:lB p0=some r):a6 .clean tab ns FU Try.f38 none [.agg [.int .i64 p0.aJ.ah,.sl false false p0.aJ.aa.length (ae (eI .i64) p0.aJ.aa),.int .i64 p0.aL.ah,.sl false false p0.aL.aa.length (ae (eI .i64) p0.aL.aa)]]=some (.clean (.bool r),none):=by
 apply aD rfl Try.ntmps38 Try.results38
 unfold lB at hh
 obtain⟨r1,hr1,hh⟩:=ag hh
 cases hh
 try simp only[F5,seval,hr1]
theorem Eu:bT Try.prog 38 qH:=bT.of (mode := .clean) tok DK mixed Try.func38 (by kernel_rfl) ⟨by kernel_rfl,by kernel_rfl⟩ (fun _=>agv (by kernel_rfl)) (fun x r h=>FN x r h)
def eL:=fR (jE (lM an) (fH (aFn 38))) (fun x:(List al)×Unit=>b7 x.1) (fun r:Int =>.clean (.int .i64 r))
theorem iw (p0:(List al)):eL none [.sl false false p0.length (ae an p0),.fn 38]=(b7 p0).map fun r:Int=>(.clean (.int .i64 r),none):=aN _ _ _ (p0,())
def di:Env:=(Am.ext aY 38 false qH)
theorem mD:bq Try.prog di:=(bq.none.add Eu false)
theorem a8:type_of% (ai @w<|ai @wW<|@di.eq_1):=⟨@w,@wW,@di.eq_1⟩
theorem mX (p0:(List al)) (r:Int) (hh:b7 p0=some r):a6 .clean tab di FU Try.f67 none [.sl false false p0.length (ae an p0),.fn 38]=some (.clean (.int .i64 r),none):=by
 apply aD rfl Try.ntmps67 Try.results67
 unfold b7 at hh
 try simp only[a8,seval]
 obtain⟨o5,ho5,hh⟩:=ag hh
 refine aB (fun s t H e=>match s with|s8a=>t 0=.sl false false p0.length (ae an p0)∧t 1=.fn 38∧t 7=.int .i64 (p0.length:Int)∧t 8=.int .i64 s8a) (fun o x t H e=>match o with|(.inl _)=>x=.exit 0|(.inr r)=>x=.ret∧iP .clean tab none [.tmp 4] ⟨t,EH H,e⟩=some (.clean (.int .i64 r),none)) ho5 ?_ ?_ ?_
 ·refine⟨?_,?_,?_,?_⟩
  all_goals first|rfl|(simp only[a8,seval]<;>rfl)
 ·rintro s8a t H e Za c hh
  simp only[cW]at hh
  try simp only[a8,seval,Za]
  apply sp au hh<;>intro _ hh
  ·obtain⟨x7,hx7,hh⟩:=ag hh
   have ax7:=bm an hx7
   simp only[bo]at ax7
   obtain⟨r8,hr8,hh⟩:=ag hh
   try simp only[a8,seval,Za,ax7,hr8]
   apply sp au hh<;>intro _ hh
   ·cases hh
    try simp only[a8,seval,Za,ax7,hr8]
    refine BI ⟨rfl,?_⟩
    try simp only[a8,seval,Za,ax7,hr8]
   ·cases hh
    try simp only[a8,seval,Za,ax7,hr8]
    apply iC
    refine⟨?_,?_,?_,?_⟩
    all_goals first|rfl|(simp only[a8,seval,Za,ax7,hr8]<;>rfl)
  ·cases hh
   try simp only[a8,seval,Za]
   apply jP
   exact rfl
 ·rintro x t H e hx
  rcases o5 with _|ra
  ·dsimp only at hx hh
   subst hx
   cases hh
   try simp only[a8,seval]
  ·dsimp only at hx hh
   obtain⟨rfl,hE⟩:=hx
   cases hh
   try simp only[bn,bg,bB,dn,dm,ct,cu]
   exact hE
theorem mE:bT Try.prog 67 eL:=bT.of (mode := .clean) tok mD mixed Try.func67 (by kernel_rfl) ⟨by kernel_rfl,by kernel_rfl⟩ (fun _=>agv (by kernel_rfl)) (fun x r h=>mX x.1 r h)
def dV:=fR (jE (lM an) (fH (aFn 38))) (fun x:(List al)×Unit=>bt x.1) (fun r:Bool =>.clean (.bool r))
theorem gx (p0:(List al)):dV none [.sl false false p0.length (ae an p0),.fn 38]=(bt p0).map fun r:Bool=>(.clean (.bool r),none):=aN _ _ _ (p0,())
def cD:Env:=(Am.ext aY 67 false eL)
theorem ld:bq Try.prog cD:=(bq.none.add mE false)
theorem lL:type_of% (ai @w<|ai @iw<|@cD.eq_1):=⟨@w,@iw,@cD.eq_1⟩
theorem lK (p0:(List al)) (r:Bool) (hh:bt p0=some r):a6 .clean tab cD FU Try.f36 none [.sl false false p0.length (ae an p0),.fn 38]=some (.clean (.bool r),none):=by
 apply aD rfl Try.ntmps36 Try.results36
 unfold bt at hh
 obtain⟨r1,hr1,hh⟩:=ag hh
 cases hh
 try simp only[lL,seval,hr1]
theorem lj:bT Try.prog 36 dV:=bT.of (mode := .clean) tok ld mixed Try.func36 (by kernel_rfl) ⟨by kernel_rfl,by kernel_rfl⟩ (fun _=>agv (by kernel_rfl)) (fun x r h=>lK x.1 r h)
def pX:=fR (fH (dk td)) (fun x:de=>lA x) (fun r:Bool =>.clean (.bool r))
theorem qu (p0_0:Int) (p0_1:(List fa)):pX none [.agg [.int .i64 p0_0,.sl false false p0_1.length (ae ba p0_1)]]=(lA (de.mk p0_0 p0_1)).map fun r:Bool=>(.clean (.bool r),none):=aN _ _ _ ((de.mk p0_0 p0_1))
def qh:Env:=(Am.ext (Am.ext (Am.ext (Am.ext (Am.ext (Am.ext aY 20 false jH) 22 false ec) 34 false rI) 35 false rH) 36 false dV) 37 false pY)
theorem JH:bq Try.prog qh:=((((((bq.none.add mq false).add eS false).add FX false).add FW false).add lj false).add yN false)
theorem aM:type_of% (ai @w<|ai @fN<|ai @bV<|ai @yS<|ai @yR<|ai @gx<|ai @qv<|@qh.eq_1):=⟨@w,@fN,@bV,@yS,@yR,@gx,@qv,@qh.eq_1⟩
theorem NQ (p0:de) (r:Bool) (hh:lA p0=some r):a6 .clean tab qh FU Try.f11 none [.agg [.int .i64 p0.aG,.sl false false p0.aw.length (ae ba p0.aw)]]=some (.clean (.bool r),none):=by
 apply aD rfl Try.ntmps11 Try.results11
 unfold lA at hh
 obtain⟨r1,hr1,hh⟩:=ag hh
 try simp only[aM,seval,hr1]
 obtain⟨o2,ho2,hh⟩:=ag hh
 refine bP 0 (fun s t H e=>match s with|s14j1=>∃v1j1:Nat,t 1=.ptr 1 v1j1 0∧t 14=.bool s14j1∧H 1=some ⟨v1j1,24,[.int .i64 p0.aG,.sl false false p0.aw.length (ae ba p0.aw)],false,false,false⟩) (fun s=>s=o2) ?_ ?_
 ·rintro s14j1 t H e ⟨v1j1,Zj1⟩ rfl
  try dsimp only at hh
  try simp only[aM,seval,hr1,Zj1]
  apply sp au hh<;>intro _ hh
  ·cases hh
   try simp only[aM,seval,hr1,Zj1]
  ·try simp only[aM,seval,hr1,Zj1]
   obtain⟨o19,ho19,hh⟩:=ag hh
   refine aB (fun s t H e=>match s with|s18b=>∃v1b:Nat,t 1=.ptr 1 v1b 0∧t 16=.sl false false p0.aw.length (ae ba p0.aw)∧t 17=.int .i64 (p0.aw.length:Int)∧t 18=.int .i64 s18b∧H 1=some ⟨v1b,24,[.int .i64 p0.aG,.sl false false p0.aw.length (ae ba p0.aw)],false,false,false⟩) (fun o x t H e=>match o with|(.inl _)=>x=.exit 0∧∃v1bx:Nat,t 1=.ptr 1 v1bx 0∧H 1=some ⟨v1bx,24,[.int .i64 p0.aG,.sl false false p0.aw.length (ae ba p0.aw)],false,false,false⟩|(.inr r)=>x=.ret∧iP .clean tab none [.tmp 2] ⟨t,EH H,e⟩=some (.clean (.bool r),none)) ho19 ?_ ?_ ?_
   ·refine⟨v1j1,?_,?_,?_,?_,?_⟩
    all_goals first|rfl|(simp only[aM,seval,hr1,Zj1]<;>rfl)
   ·rintro s18b t H e ⟨v1b,Zb⟩ c hh
    simp only[mh]at hh
    try simp only[aM,seval,hr1,Zb]
    apply sp au hh<;>intro _ hh
    ·obtain⟨x21,hx21,hh⟩:=ag hh
     have ax21:=bm ba hx21
     simp only[bo]at ax21
     obtain⟨r22,hr22,hh⟩:=ag hh
     try simp only[aM,seval,hr1,Zb,ax21,hr22]
     obtain⟨o23,ho23,hh⟩:=ag hh
     refine bP 0 (fun s t H e=>match s with|s50j4=>∃v1j4:Nat,∃v4j4:Nat,t 1=.ptr 1 v1j4 0∧t 3=.int .i64 s18b∧t 4=.ptr 4 v4j4 0∧t 16=.sl false false p0.aw.length (ae ba p0.aw)∧t 17=.int .i64 (p0.aw.length:Int)∧t 18=.int .i64 s18b∧t 50=.bool s50j4∧H 1=some ⟨v1j4,24,[.int .i64 p0.aG,.sl false false p0.aw.length (ae ba p0.aw)],false,false,false⟩∧H 4=some ⟨v4j4,46,[.int .i64 x21.dq,.int .i64 x21.lJ,.int .i64 x21.bR.aJ.ah,.sl false false x21.bR.aJ.aa.length (ae (eI .i64) x21.bR.aJ.aa),.int .i64 x21.bR.aL.ah,.sl false false x21.bR.aL.aa.length (ae (eI .i64) x21.bR.aL.aa)],false,false,false⟩) (fun s=>s=o23) ?_ ?_
     ·rintro s50j4 t H e ⟨v1j4,v4j4,Zj4⟩ rfl
      try dsimp only at hh
      try simp only[aM,seval,hr1,ax21,hr22,Zj4]
      apply sp au hh<;>intro _ hh
      ·cases hh
       try simp only[aM,seval,hr1,ax21,hr22,Zj4]
       refine BI ⟨rfl,?_⟩
       try simp only[aM,seval,hr1,ax21,hr22,Zj4]
      ·try simp only[aM,seval,hr1,ax21,hr22,Zj4]
       apply sp Uf hh<;>intro _ hh
       ·obtain⟨x26,hx26,hh⟩:=ag hh
        have ax26:=bm ba hx26
        simp only[bo]at ax26
        obtain⟨r27,hr27,hh⟩:=ag hh
        try simp only[aM,seval,hr1,ax21,hr22,Zj4,ax26,hr27]
        refine bF (by kernel_rfl) ?_
        try simp only[aM,seval,hr1,ax21,hr22,Zj4,ax26,hr27]
        apply sp au hh<;>intro _ hh
        ·cases hh
         try simp only[aM,seval,hr1,ax21,hr22,Zj4,ax26,hr27]
         refine BI ⟨rfl,?_⟩
         try simp only[aM,seval,hr1,ax21,hr22,Zj4,ax26,hr27]
        ·cases hh
         try simp only[aM,seval,hr1,ax21,hr22,Zj4,ax26,hr27]
         apply iC
         refine⟨v1j4,?_,?_,?_,?_,?_⟩
         all_goals first|rfl|(simp only[aM,seval,hr1,ax21,hr22,Zj4,ax26,hr27]<;>rfl)
       ·try simp only[aM,seval,hr1,ax21,hr22,Zj4]
        refine bF (by kernel_rfl) ?_
        cases hh
        try simp only[aM,seval,hr1,ax21,hr22,Zj4]
        apply iC
        refine⟨v1j4,?_,?_,?_,?_,?_⟩
        all_goals first|rfl|(simp only[aM,seval,hr1,ax21,hr22,Zj4]<;>rfl)
     ·clear hh
      have hh:=ho23
      try simp only[aM,seval,hr1,Zb,ax21,hr22]
      apply sp bc hh<;>intro _ hh
      ·cases hh
       try simp only[aM,seval,hr1,Zb,ax21,hr22]
       rw[av]
       refine⟨_,rfl,?_⟩
       refine⟨v1b,e+1,?_,?_,?_,?_,?_,?_,?_,?_,?_⟩
       all_goals first|rfl|(simp only[aM,seval,hr1,Zb,ax21,hr22]<;>rfl)
      ·obtain⟨r30,hr30,hh⟩:=ag hh
       try simp only[aM,seval,hr1,Zb,ax21,hr22,hr30]
       apply sp bc hh<;>intro _ hh
       ·cases hh
        try simp only[aM,seval,hr1,Zb,ax21,hr22,hr30]
        rw[av]
        refine⟨_,rfl,?_⟩
        refine⟨v1b,e+1,?_,?_,?_,?_,?_,?_,?_,?_,?_⟩
        all_goals first|rfl|(simp only[aM,seval,hr1,Zb,ax21,hr22,hr30]<;>rfl)
       ·obtain⟨r32,hr32,hh⟩:=ag hh
        try simp only[aM,seval,hr1,Zb,ax21,hr22,hr30,hr32]
        apply sp bc hh<;>intro _ hh
        ·cases hh
         try simp only[aM,seval,hr1,Zb,ax21,hr22,hr30,hr32]
         rw[av]
         refine⟨_,rfl,?_⟩
         refine⟨v1b,e+1,?_,?_,?_,?_,?_,?_,?_,?_,?_⟩
         all_goals first|rfl|(simp only[aM,seval,hr1,Zb,ax21,hr22,hr30,hr32]<;>rfl)
        ·obtain⟨r34,hr34,hh⟩:=ag hh
         cases hh
         try simp only[aM,seval,hr1,Zb,ax21,hr22,hr30,hr32,hr34]
         rw[av]
         refine⟨_,rfl,?_⟩
         refine⟨v1b,e+1,?_,?_,?_,?_,?_,?_,?_,?_,?_⟩
         all_goals first|rfl|(simp only[aM,seval,hr1,Zb,ax21,hr22,hr30,hr32,hr34]<;>rfl)
    ·cases hh
     try simp only[aM,seval,hr1,Zb]
     apply jP
     refine⟨rfl,⟨v1b,?_,?_⟩⟩
     all_goals first|rfl|(simp only[aM,seval,hr1,Zb]<;>rfl)
   ·rintro x t H e hx
    rcases o19 with _|rb
    ·dsimp only at hx hh
     obtain⟨rfl,⟨v1bx,Zbx⟩⟩:=hx
     obtain⟨r35,hr35,hh⟩:=ag hh
     obtain⟨r36,hr36,hh⟩:=ag hh
     cases hh
     try simp only[aM,seval,hr1,Zbx,hr35,hr36]
    ·dsimp only at hx hh
     obtain⟨rfl,hE⟩:=hx
     cases hh
     try simp only[bn,bg,bB,dn,dm,ct,cu]
     exact hE
 ·clear hh
  have hh:=ho2
  try simp only[aM,seval,hr1]
  apply sp bc hh<;>intro _ hh
  ·cases hh
   try simp only[aM,seval,hr1]
   rw[av]
   refine⟨_,rfl,?_⟩
   refine⟨0,?_,?_,?_⟩
   all_goals first|rfl|(simp only[aM,seval,hr1]<;>rfl)
  ·cases hh
   try simp only[aM,seval,hr1]
   rw[av]
   refine⟨_,rfl,?_⟩
   refine⟨0,?_,?_,?_⟩
   all_goals first|rfl|(simp only[aM,seval,hr1]<;>rfl)
theorem yM:bT Try.prog 11 pX:=bT.of (mode := .clean) tok JH mixed Try.func11 (by kernel_rfl) ⟨by kernel_rfl,by kernel_rfl⟩ (fun _=>agv (by kernel_rfl)) (fun x r h=>NQ x r h)
def lS:=fR (fH (dk an)) (fun x:al=>gG x) (fun r:Bool =>.clean (.bool r))
theorem qz (p0_0:Int) (p0_1:(List Int)) (p0_2:Int) (p0_3:(List Int)):lS none [.agg [.int .i64 p0_0,.sl false false p0_1.length (ae (eI .i64) p0_1),.int .i64 p0_2,.sl false false p0_3.length (ae (eI .i64) p0_3)]]=(gG (al.mk (aq.mk p0_0 p0_1) (aq.mk p0_2 p0_3))).map fun r:Bool=>(.clean (.bool r),none):=aN _ _ _ ((al.mk (aq.mk p0_0 p0_1) (aq.mk p0_2 p0_3)))
def jy:Env:=(Am.ext aY 22 false ec)
theorem xq:bq Try.prog jy:=(bq.none.add eS false)
theorem zn:type_of% (ai @w<|ai @bV<|@jy.eq_1):=⟨@w,@bV,@jy.eq_1⟩
theorem yE (p0:al) (r:Bool) (hh:gG p0=some r):a6 .clean tab jy FU Try.f68 none [.agg [.int .i64 p0.aJ.ah,.sl false false p0.aJ.aa.length (ae (eI .i64) p0.aJ.aa),.int .i64 p0.aL.ah,.sl false false p0.aL.aa.length (ae (eI .i64) p0.aL.aa)]]=some (.clean (.bool r),none):=by
 apply aD rfl Try.ntmps68 Try.results68
 unfold gG at hh
 obtain⟨r1,hr1,hh⟩:=ag hh
 cases hh
 try simp only[zn,seval,hr1]
theorem xy:bT Try.prog 68 lS:=bT.of (mode := .clean) tok xq mixed Try.func68 (by kernel_rfl) ⟨by kernel_rfl,by kernel_rfl⟩ (fun _=>agv (by kernel_rfl)) (fun x r h=>yE x r h)
def dI:=fR (jE (lM an) (fH (aFn 68))) (fun x:(List al)×Unit=>bN x.1) (fun r:Int =>.clean (.int .i64 r))
theorem fY (p0:(List al)):dI none [.sl false false p0.length (ae an p0),.fn 68]=(bN p0).map fun r:Int=>(.clean (.int .i64 r),none):=aN _ _ _ (p0,())
def cw:Env:=(Am.ext aY 68 false lS)
theorem kH:bq Try.prog cw:=(bq.none.add xy false)
theorem aP:type_of% (ai @w<|ai @qz<|@cw.eq_1):=⟨@w,@qz,@cw.eq_1⟩
theorem lf (p0:(List al)) (r:Int) (hh:bN p0=some r):a6 .clean tab cw FU Try.f67 none [.sl false false p0.length (ae an p0),.fn 68]=some (.clean (.int .i64 r),none):=by
 apply aD rfl Try.ntmps67 Try.results67
 unfold bN at hh
 try simp only[aP,seval]
 obtain⟨o5,ho5,hh⟩:=ag hh
 refine aB (fun s t H e=>match s with|s8a=>t 0=.sl false false p0.length (ae an p0)∧t 1=.fn 68∧t 7=.int .i64 (p0.length:Int)∧t 8=.int .i64 s8a) (fun o x t H e=>match o with|(.inl _)=>x=.exit 0|(.inr r)=>x=.ret∧iP .clean tab none [.tmp 4] ⟨t,EH H,e⟩=some (.clean (.int .i64 r),none)) ho5 ?_ ?_ ?_
 ·refine⟨?_,?_,?_,?_⟩
  all_goals first|rfl|(simp only[aP,seval]<;>rfl)
 ·rintro s8a t H e Za c hh
  simp only[cp]at hh
  try simp only[aP,seval,Za]
  apply sp au hh<;>intro _ hh
  ·obtain⟨x7,hx7,hh⟩:=ag hh
   have ax7:=bm an hx7
   simp only[bo]at ax7
   obtain⟨r8,hr8,hh⟩:=ag hh
   try simp only[aP,seval,Za,ax7,hr8]
   apply sp au hh<;>intro _ hh
   ·cases hh
    try simp only[aP,seval,Za,ax7,hr8]
    refine BI ⟨rfl,?_⟩
    try simp only[aP,seval,Za,ax7,hr8]
   ·cases hh
    try simp only[aP,seval,Za,ax7,hr8]
    apply iC
    refine⟨?_,?_,?_,?_⟩
    all_goals first|rfl|(simp only[aP,seval,Za,ax7,hr8]<;>rfl)
  ·cases hh
   try simp only[aP,seval,Za]
   apply jP
   exact rfl
 ·rintro x t H e hx
  rcases o5 with _|ra
  ·dsimp only at hx hh
   subst hx
   cases hh
   try simp only[aP,seval]
  ·dsimp only at hx hh
   obtain⟨rfl,hE⟩:=hx
   cases hh
   try simp only[bn,bg,bB,dn,dm,ct,cu]
   exact hE
theorem kK:bT Try.prog 67 dI:=bT.of (mode := .clean) tok kH mixed Try.func67 (by kernel_rfl) ⟨by kernel_rfl,by kernel_rfl⟩ (fun _=>agv (by kernel_rfl)) (fun x r h=>lf x.1 r h)
def db:=fR (jE (lM an) (fH (aFn 68))) (fun x:(List al)×Unit=>bx x.1) (fun r:Bool =>.clean (.bool r))
theorem ff (p0:(List al)):db none [.sl false false p0.length (ae an p0),.fn 68]=(bx p0).map fun r:Bool=>(.clean (.bool r),none):=aN _ _ _ (p0,())
def cf:Env:=(Am.ext aY 67 false dI)
theorem jM:bq Try.prog cf:=(bq.none.add kK false)
theorem ko:type_of% (ai @w<|ai @fY<|@cf.eq_1):=⟨@w,@fY,@cf.eq_1⟩
theorem ka (p0:(List al)) (r:Bool) (hh:bx p0=some r):a6 .clean tab cf FU Try.f36 none [.sl false false p0.length (ae an p0),.fn 68]=some (.clean (.bool r),none):=by
 apply aD rfl Try.ntmps36 Try.results36
 unfold bx at hh
 obtain⟨r1,hr1,hh⟩:=ag hh
 cases hh
 try simp only[ko,seval,hr1]
theorem jS:bT Try.prog 36 db:=bT.of (mode := .clean) tok jM mixed Try.func36 (by kernel_rfl) ⟨by kernel_rfl,by kernel_rfl⟩ (fun _=>agv (by kernel_rfl)) (fun x r h=>ka x.1 r h)
def nX:=fR (jE (lM an) (fH (aI .i64))) (fun x:(List al)×Int=>gV x.1 x.2) (fun r:Bool =>.clean (.bool r))
theorem tl (p0:(List al)) (p1:Int):nX none [.sl false false p0.length (ae an p0),.int .i64 p1]=(gV p0 p1).map fun r:Bool=>(.clean (.bool r),none):=aN _ _ _ (p0,p1)
def kT:Env:=(Am.ext aY 36 false db)
theorem zT:bq Try.prog kT:=(bq.none.add jS false)
theorem od:type_of% (ai @w<|ai @ff<|@kT.eq_1):=⟨@w,@ff,@kT.eq_1⟩
theorem BL (p0:(List al)) (p1:Int) (r:Bool) (hh:gV p0 p1=some r):a6 .clean tab kT FU Try.f39 none [.sl false false p0.length (ae an p0),.int .i64 p1]=some (.clean (.bool r),none):=by
 apply aD rfl Try.ntmps39 Try.results39
 unfold gV at hh
 try simp only[od,seval]
 apply sp dj hh<;>intro _ hh
 ·obtain⟨r2,hr2,hh⟩:=ag hh
  cases hh
  try simp only[od,seval,hr2]
 ·cases hh
  try simp only[od,seval]
theorem Aa:bT Try.prog 39 nX:=bT.of (mode := .clean) tok zT mixed Try.func39 (by kernel_rfl) ⟨by kernel_rfl,by kernel_rfl⟩ (fun _=>agv (by kernel_rfl)) (fun x r h=>BL x.1 x.2 r h)
def tR:=fR (fH (dk td)) (fun x:de=>kc x) (fun r:(List Int) =>.clean (.sl false false r.length (ae (eI .i64) r)))
theorem Bg (p0_0:Int) (p0_1:(List fa)):tR none [.agg [.int .i64 p0_0,.sl false false p0_1.length (ae ba p0_1)]]=(kc (de.mk p0_0 p0_1)).map fun r:(List Int)=>(.clean (.sl false false r.length (ae (eI .i64) r)),none):=aN _ _ _ ((de.mk p0_0 p0_1))
def qg:Env:=(Am.yJ 18 (3,1,0) (Am.ext (Am.ext (Am.ext aY 11 false pX) 20 false jH) 37 false pY))
theorem JG:bq Try.prog qg:=(bq.yJ (((bq.none.add yM false).add mq false).add yN false) 18 (3,1,0))
theorem aQ:type_of% (ai @w<|ai @qu<|ai @fN<|ai @qv<|@qg.eq_1):=⟨@w,@qu,@fN,@qv,@qg.eq_1⟩
theorem NP (p0:de) (r:(List Int)) (hh:kc p0=some r):a6 .clean tab qg FU Try.f45 none [.agg [.int .i64 p0.aG,.sl false false p0.aw.length (ae ba p0.aw)]]=some (.clean (.sl false false r.length (ae (eI .i64) r)),none):=by
 apply aD rfl Try.ntmps45 Try.results45
 unfold kc at hh
 obtain⟨r1,hr1,hh⟩:=ag hh
 try simp only[aQ,seval,-Int.reduceToNat,hr1]
 apply sp au hh<;>intro _ hh
 ·cases hh
  try simp only[aQ,seval,-Int.reduceToNat,hr1]
 ·obtain⟨x3,hx3,hh⟩:=ag hh
  have q4n:=Tt (E:=(Di (eI .i64))) (ty':=3) (s:=1) (f:=0) (k := .i64) Kw (by rfl) rfl rfl rfl rfl rfl hx3
  obtain⟨q4a,q4b,q4c,q4d,q4e⟩:=mk_one (Di (eI .i64)) hx3
  try simp only[aQ,seval,-Int.reduceToNat,hr1,q4n,q4a]
  obtain⟨o11,ho11,hh⟩:=ag hh
  refine aB (fun s t H e=>match s with|(s22a,l18a)=>∃v1a:Nat,∃v18a:Nat,∃vn18a:Nat,t 1=.ptr 1 v1a 0∧t 3=.buf 18 v18a 1 0 (l18a).length∧t 20=.sl false false p0.aw.length (ae ba p0.aw)∧t 21=.int .i64 (p0.aw.length:Int)∧t 22=.int .i64 s22a∧H 1=some ⟨v1a,24,[.int .i64 p0.aG,.sl false false p0.aw.length (ae ba p0.aw)],false,false,false⟩∧H 18=some ⟨v18a,33,[.nr 3 1 vn18a (ae (Di (eI .i64)) l18a)],false,true,true⟩∧vn18a<=4*e) (fun o x t H e=>match o with|l18ax=>x=.exit 0∧∃v1ax:Nat,∃v18ax:Nat,∃vn18ax:Nat,t 1=.ptr 1 v1ax 0∧t 3=.buf 18 v18ax 1 0 (l18ax).length∧H 1=some ⟨v1ax,24,[.int .i64 p0.aG,.sl false false p0.aw.length (ae ba p0.aw)],false,false,false⟩∧H 18=some ⟨v18ax,33,[.nr 3 1 vn18ax (ae (Di (eI .i64)) l18ax)],false,true,true⟩∧vn18ax<=4*e) ho11 ?_ ?_ ?_
  ·refine⟨0,2,4*(2)+2,?_,?_,?_,?_,?_,?_,?_,?_⟩
   all_goals (first|rfl|omega|(simp only[aQ,seval,-Int.reduceToNat,hr1,q4n,q4a]<;>rfl))
  ·rintro⟨s22a,l18a⟩ t H e ⟨v1a,v18a,vn18a,Za⟩ c hh
   simp only[kd]at hh
   try simp only[aQ,seval,-Int.reduceToNat,hr1,q4n,q4a,Za]
   apply sp au hh<;>intro _ hh
   ·obtain⟨x13,hx13,hh⟩:=ag hh
    have ax13:=bm ba hx13
    simp only[bo]at ax13
    obtain⟨x14,hx14,hh⟩:=ag hh
    have ax14:=bm (Di (eI .i64)) hx14
    simp only[bo]at ax14
    obtain⟨x15,hx15,hh⟩:=ag hh
    obtain⟨q16a,q16b,q16c,q16d⟩:=gI (eI .i64) hx15
    simp only[bo]at q16b
    have ax14:=bm (Di (eI .i64)) hx14
    simp only[bo]at ax14
    have p17:=OG (Di (eI .i64)) (x':=x15) 0 .und (.nx x15.length (ae (eI .i64) x15)) hx14 rfl (agv rfl)
    have lp17:=TF (Di (eI .i64)) 0 .und hx14 (agv rfl)
    simp only[bo,Nat.add_zero]at p17 lp17
    have up17:=p17
    simp only[putCells,List.length_cons,List.length_nil,afB,Nat.reduceAdd]at up17
    have ulp17:=lp17
    simp only[putCells,List.length_cons,List.length_nil,afB,Nat.reduceAdd]at ulp17
    have bp17:pU vn18a (e+1+1)=some (4*(e+1+1)+1):=j3 (by omega)
    try simp only[aQ,seval,-Int.reduceToNat,hr1,q4n,q4a,Za,ax13,ax14,q16a,q16b,q16c,q16d,ax14,p17,up17,lp17,ulp17,bp17]
    refine bF (by kernel_rfl) ?_
    cases hh
    try simp only[aQ,seval,-Int.reduceToNat,hr1,q4n,q4a,Za,ax13,ax14,q16a,q16b,q16c,q16d,ax14,p17,up17,lp17,ulp17,bp17]
    apply iC
    refine⟨v1a,v18a,4*(e+1+1)+1,?_,?_,?_,?_,?_,?_,?_,?_⟩
    all_goals (first|rfl|omega|(simp only[aQ,seval,-Int.reduceToNat,hr1,q4n,q4a,Za,ax13,ax14,q16a,q16b,q16c,q16d,ax14,p17,up17,lp17,ulp17,bp17]<;>rfl))
   ·cases hh
    try simp only[aQ,seval,-Int.reduceToNat,hr1,q4n,q4a,Za]
    apply jP
    refine⟨rfl,⟨v1a,v18a,vn18a,?_,?_,?_,?_,?_⟩⟩
    all_goals (first|rfl|omega|(simp only[aQ,seval,-Int.reduceToNat,hr1,q4n,q4a,Za]<;>rfl))
  ·rintro x t H e hx
   obtain⟨l18ax,rfl⟩:∃z,z=o11:=⟨_,rfl⟩
   dsimp only at hx hh
   obtain⟨rfl,⟨v1ax,v18ax,vn18ax,Zax⟩⟩:=hx
   obtain⟨x18,hx18,hh⟩:=ag hh
   obtain⟨q19a,q19b,q19c,q19d,q19e⟩:=mk_one (eI .i64) hx18
   simp only[bo]at q19d
   obtain⟨r20,hr20,hh⟩:=ag hh
   try simp only[aQ,seval,-Int.reduceToNat,hr1,q4n,q4a,Zax,q19a,q19b,q19c,q19d,q19e,hr20]
   obtain⟨o31,ho31,hh⟩:=ag hh
   refine aB (fun s t H e=>match s with|(s46b,l6b,l7b)=>∃v6b:Nat,∃v7b:Nat,∃v18b:Nat,∃vn18b:Nat,∃O7b:Nat,∃C7b:List D,t 3=.buf 18 v18b 1 0 (l18ax).length∧t 6=.buf 6 v6b 1 0 (l6b).length∧t 7=.buf 7 v7b 1 O7b (l7b).length∧t 44=.sl false false r20.length (ae an r20)∧t 45=.int .i64 (r20.length:Int)∧t 46=.int .i64 s46b∧H 6=some ⟨v6b,3,ae (eI .i64) l6b,false,true,false⟩∧H 7=some ⟨v7b,3,C7b,false,true,false⟩∧H 18=some ⟨v18b,33,[.nr 3 1 vn18b (ae (Di (eI .i64)) l18ax)],false,true,true⟩∧vn18b<=4*e∧tx (eI .i64) C7b O7b l7b) (fun o x t H e=>match o with|(l6bx,l7bx)=>x=.exit 2∧∃v6bx:Nat,∃v7bx:Nat,∃v18bx:Nat,∃vn18bx:Nat,∃O7bx:Nat,∃C7bx:List D,t 3=.buf 18 v18bx 1 0 (l18ax).length∧t 6=.buf 6 v6bx 1 0 (l6bx).length∧t 7=.buf 7 v7bx 1 O7bx (l7bx).length∧H 6=some ⟨v6bx,3,ae (eI .i64) l6bx,false,true,false⟩∧H 7=some ⟨v7bx,3,C7bx,false,true,false⟩∧H 18=some ⟨v18bx,33,[.nr 3 1 vn18bx (ae (Di (eI .i64)) l18ax)],false,true,true⟩∧vn18bx<=4*e∧tx (eI .i64) C7bx O7bx l7bx) ho31 ?_ ?_ ?_
   ·refine⟨e,e+1,v18ax,vn18ax,0,(ae (eI .i64) ([])),?_,?_,?_,?_,?_,?_,?_,?_,?_,?_,(tx.self (eI .i64) ([]))⟩
    all_goals (first|rfl|omega|(simp only[aQ,seval,-Int.reduceToNat,hr1,q4n,q4a,Zax,q19a,q19b,q19c,q19d,q19e,hr20]<;>rfl))
   ·rintro⟨s46b,l6b,l7b⟩ t H e ⟨v6b,v7b,v18b,vn18b,O7b,C7b,t3b,t6b,t7b,t44b,t45b,t46b,H6b,H7b,H18b,Hn18b,F7b⟩ c hh
    simp only[ke]at hh
    have f1F7b:=F7b.fit
    have f2F7b:=F7b.eq
    simp only[bo]at f1F7b f2F7b
    try simp only[aQ,seval,-Int.reduceToNat,hr1,q4n,q4a,q19a,q19b,q19c,q19d,q19e,hr20,t3b,t6b,t7b,t44b,t45b,t46b,H6b,H7b,H18b,Hn18b,f1F7b,f2F7b]
    apply sp au hh<;>intro _ hh
    ·obtain⟨x33,hx33,hh⟩:=ag hh
     have ax33:=bm an hx33
     simp only[bo]at ax33
     obtain⟨x34,hx34,hh⟩:=ag hh
     have ax34:=bm (eI .i64) hx34
     simp only[bo]at ax34
     have p35:=dF (eI .i64) (x':=(-1)) (fo:=0) (cs:=[.int .i64 (-1)]) hx34 rfl (agv rfl)
     simp only[bo,Nat.add_zero]at p35
     have up35:=p35
     simp only[putCells,List.length_cons,List.length_nil,afB,Nat.reduceAdd]at up35
     obtain⟨r36,hr36,hh⟩:=ag hh
     try simp only[aQ,seval,-Int.reduceToNat,hr1,q4n,q4a,q19a,q19b,q19c,q19d,q19e,hr20,t3b,t6b,t7b,t44b,t45b,t46b,H6b,H7b,H18b,Hn18b,f1F7b,f2F7b,ax33,ax34,p35,up35,hr36]
     apply sp au hh<;>intro _ hh
     ·obtain⟨x38,hx38,hh⟩:=ag hh
      have ax38:=bm (eI .i64) hx38
      simp only[bo,agN]at ax38
      have p39:=dF (eI .i64) (x':=0) (fo:=0) (cs:=[.int .i64 0]) hx38 rfl (agv rfl)
      simp only[bo,Nat.add_zero]at p39
      have up39:=p39
      simp only[putCells,List.length_cons,List.length_nil,afB,Nat.reduceAdd]at up39
      obtain⟨x40,hx40,hh⟩:=ag hh
      obtain⟨q41a,q41b,q41c,q41d⟩:=gI (eI .i64) hx40
      simp only[bo]at q41b
      cases hh
      try simp only[aQ,seval,-Int.reduceToNat,hr1,q4n,q4a,q19a,q19b,q19c,q19d,q19e,hr20,t3b,t6b,t7b,t44b,t45b,t46b,H6b,H7b,H18b,Hn18b,f1F7b,f2F7b,ax33,ax34,p35,up35,hr36,ax38,p39,up39,q41a,q41b,q41c,q41d]
      apply iC
      refine⟨v6b,e+1+1+1+1+1,v18b,vn18b,0,(ae (eI .i64) x40),?_,?_,?_,?_,?_,?_,?_,?_,?_,?_,(tx.self (eI .i64) x40)⟩
      all_goals (first|rfl|omega|(simp only[aQ,seval,-Int.reduceToNat,hr1,q4n,q4a,q19a,q19b,q19c,q19d,q19e,hr20,t3b,t6b,t7b,t44b,t45b,t46b,H6b,H7b,H18b,Hn18b,f1F7b,f2F7b,ax33,ax34,p35,up35,hr36,ax38,p39,up39,q41a,q41b,q41c,q41d]<;>rfl))
     ·cases hh
      try simp only[aQ,seval,-Int.reduceToNat,hr1,q4n,q4a,q19a,q19b,q19c,q19d,q19e,hr20,t3b,t6b,t7b,t44b,t45b,t46b,H6b,H7b,H18b,Hn18b,f1F7b,f2F7b,ax33,ax34,p35,up35,hr36]
      apply iC
      refine⟨v6b,v7b,v18b,vn18b,O7b,C7b,?_,?_,?_,?_,?_,?_,?_,?_,?_,?_,F7b⟩
      all_goals (first|rfl|omega|(simp only[aQ,seval,-Int.reduceToNat,hr1,q4n,q4a,q19a,q19b,q19c,q19d,q19e,hr20,t3b,t6b,t7b,t44b,t45b,t46b,H6b,H7b,H18b,Hn18b,f1F7b,f2F7b,ax33,ax34,p35,up35,hr36]<;>rfl))
    ·cases hh
     try simp only[aQ,seval,-Int.reduceToNat,hr1,q4n,q4a,q19a,q19b,q19c,q19d,q19e,hr20,t3b,t6b,t7b,t44b,t45b,t46b,H6b,H7b,H18b,Hn18b,f1F7b,f2F7b]
     apply jP
     refine⟨rfl,⟨v6b,v7b,v18b,vn18b,O7b,C7b,?_,?_,?_,?_,?_,?_,?_,F7b⟩⟩
     all_goals (first|rfl|omega|(simp only[aQ,seval,-Int.reduceToNat,hr1,q4n,q4a,q19a,q19b,q19c,q19d,q19e,hr20,t3b,t6b,t7b,t44b,t45b,t46b,H6b,H7b,H18b,Hn18b,f1F7b,f2F7b]<;>rfl))
   ·rintro x t H e hx
    rcases o31 with⟨l6bx,l7bx⟩
    dsimp only at hx hh
    obtain⟨rfl,⟨v6bx,v7bx,v18bx,vn18bx,O7bx,C7bx,t3bx,t6bx,t7bx,H6bx,H7bx,H18bx,Hn18bx,F7bx⟩⟩:=hx
    have f1F7bx:=F7bx.fit
    have f2F7bx:=F7bx.eq
    simp only[bo]at f1F7bx f2F7bx
    try simp only[aQ,seval,-Int.reduceToNat,hr1,q4n,q4a,q19a,q19b,q19c,q19d,q19e,hr20,t3bx,t6bx,t7bx,H6bx,H7bx,H18bx,Hn18bx,f1F7bx,f2F7bx]
    obtain⟨o64,ho64,hh⟩:=ag hh
    refine aB (fun s t H e=>match s with|(l6c,l7c)=>∃v6c:Nat,∃v7c:Nat,∃v18c:Nat,∃vn18c:Nat,∃O7c:Nat,∃C7c:List D,t 3=.buf 18 v18c 1 0 (l18ax).length∧t 6=.buf 6 v6c 1 0 (l6c).length∧t 7=.buf 7 v7c 1 O7c (l7c).length∧H 6=some ⟨v6c,3,ae (eI .i64) l6c,false,true,false⟩∧H 7=some ⟨v7c,3,C7c,false,true,false⟩∧H 18=some ⟨v18c,33,[.nr 3 1 vn18c (ae (Di (eI .i64)) l18ax)],false,true,true⟩∧vn18c<=4*e∧tx (eI .i64) C7c O7c l7c) (fun o x t H e=>match o with|l6cx=>x=.exit 4∧∃v6cx:Nat,t 6=.buf 6 v6cx 1 0 (l6cx).length∧H 6=some ⟨v6cx,3,ae (eI .i64) l6cx,false,true,false⟩) ho64 ?_ ?_ ?_
    ·refine⟨v6bx,v7bx,v18bx,vn18bx,O7bx,C7bx,?_,?_,?_,?_,?_,?_,?_,F7bx⟩
     all_goals (first|rfl|omega|(simp only[aQ,seval,-Int.reduceToNat,hr1,q4n,q4a,q19a,q19b,q19c,q19d,q19e,hr20,t3bx,t6bx,t7bx,H6bx,H7bx,H18bx,Hn18bx,f1F7bx,f2F7bx]<;>rfl))
    ·rintro⟨l6c,l7c⟩ t H e ⟨v6c,v7c,v18c,vn18c,O7c,C7c,t3c,t6c,t7c,H6c,H7c,H18c,Hn18c,F7c⟩ c hh
     simp only[kf]at hh
     have f1F7c:=F7c.fit
     have f2F7c:=F7c.eq
     simp only[bo]at f1F7c f2F7c
     try simp only[aQ,seval,-Int.reduceToNat,hr1,q4n,q4a,q19a,q19b,q19c,q19d,q19e,hr20,f1F7bx,f2F7bx,t3c,t6c,t7c,H6c,H7c,H18c,Hn18c,f1F7c,f2F7c]
     apply sp au hh<;>intro _ hh
     ·obtain⟨x66,hx66,hh⟩:=ag hh
      have bx66:=pG hx66
      obtain⟨fx66,restx66,ax66⟩:=F7c.idx hx66
      simp only[bo]at ax66 fx66
      obtain⟨x67,hx67,hh⟩:=ag hh
      obtain⟨q68a,q68b,q68c,q68d,q68e⟩:=Yf (eI .i64) hx67
      simp only[bo]at q68e
      have q68F:=tx.tail F7c hx67
      obtain⟨x69,hx69,hh⟩:=ag hh
      have ax69:=bm (Di (eI .i64)) hx69
      simp only[bo]at ax69
      try simp only[aQ,seval,-Int.reduceToNat,hr1,q4n,q4a,q19a,q19b,q19c,q19d,q19e,hr20,f1F7bx,f2F7bx,t3c,t6c,t7c,H6c,H7c,H18c,Hn18c,f1F7c,f2F7c,bx66,ax66,fx66,q68a,q68b,q68c,q68e,ax69]
      obtain⟨o78,ho78,hh⟩:=ag hh
      refine aB (fun s t H e=>match s with|(s78e,l6e,l7e)=>∃v6e:Nat,∃v7e:Nat,∃v18e:Nat,∃vn18e:Nat,∃O7e:Nat,∃C7e:List D,t 3=.buf 18 v18e 1 0 (l18ax).length∧t 6=.buf 6 v6e 1 0 (l6e).length∧t 7=.buf 7 v7e 1 O7e (l7e).length∧t 10=.int .i64 x66∧t 76=.buf (NK 18 ((x66:Int).toNat*1)) vn18e 1 0 (x69).length∧t 77=.int .i64 ((x69).length:Int)∧t 78=.int .i64 s78e∧H 6=some ⟨v6e,3,ae (eI .i64) l6e,false,true,false⟩∧H 7=some ⟨v7e,3,C7e,false,true,false⟩∧H 18=some ⟨v18e,33,[.nr 3 1 vn18e (ae (Di (eI .i64)) l18ax)],false,true,true⟩∧vn18e<=4*e∧tx (eI .i64) C7e O7e l7e) (fun o x t H e=>match o with|(l6ex,l7ex)=>x=.exit 6∧∃v6ex:Nat,∃v7ex:Nat,∃v18ex:Nat,∃vn18ex:Nat,∃O7ex:Nat,∃C7ex:List D,t 3=.buf 18 v18ex 1 0 (l18ax).length∧t 6=.buf 6 v6ex 1 0 (l6ex).length∧t 7=.buf 7 v7ex 1 O7ex (l7ex).length∧H 6=some ⟨v6ex,3,ae (eI .i64) l6ex,false,true,false⟩∧H 7=some ⟨v7ex,3,C7ex,false,true,false⟩∧H 18=some ⟨v18ex,33,[.nr 3 1 vn18ex (ae (Di (eI .i64)) l18ax)],false,true,true⟩∧vn18ex<=4*e∧tx (eI .i64) C7ex O7ex l7ex) ho78 ?_ ?_ ?_
      ·refine⟨v6c,e+1+1,v18c,vn18c,(O7c+(1:Int).toNat*1),(C7c),?_,?_,?_,?_,?_,?_,?_,?_,?_,?_,?_,q68F⟩
       all_goals (first|rfl|omega|(simp only[aQ,seval,-Int.reduceToNat,hr1,q4n,q4a,q19a,q19b,q19c,q19d,q19e,hr20,f1F7bx,f2F7bx,t3c,t6c,t7c,H6c,H7c,H18c,Hn18c,f1F7c,f2F7c,bx66,ax66,fx66,q68a,q68b,q68c,q68e,ax69,q68d]<;>rfl))
      ·rintro⟨s78e,l6e,l7e⟩ t H e ⟨v6e,v7e,v18e,vn18e,O7e,C7e,t3e,t6e,t7e,t10e,t76e,t77e,t78e,H6e,H7e,H18e,Hn18e,F7e⟩ c hh
       simp only[kg]at hh
       have f1F7e:=F7e.fit
       have f2F7e:=F7e.eq
       simp only[bo]at f1F7e f2F7e
       try simp only[aQ,seval,-Int.reduceToNat,hr1,q4n,q4a,q19a,q19b,q19c,q19d,q19e,hr20,f1F7bx,f2F7bx,f1F7c,f2F7c,bx66,ax66,fx66,q68a,q68b,q68c,q68e,ax69,q68d,t3e,t6e,t7e,t10e,t76e,t77e,t78e,H6e,H7e,H18e,Hn18e,f1F7e,f2F7e]
       apply sp au hh<;>intro _ hh
       ·obtain⟨x80,hx80,hh⟩:=ag hh
        have ax80:=bm (eI .i64) hx80
        simp only[bo]at ax80
        obtain⟨x81,hx81,hh⟩:=ag hh
        have ax81:=bm (eI .i64) hx81
        simp only[bo]at ax81
        try simp only[aQ,seval,-Int.reduceToNat,hr1,q4n,q4a,q19a,q19b,q19c,q19d,q19e,hr20,f1F7bx,f2F7bx,f1F7c,f2F7c,bx66,ax66,fx66,q68a,q68b,q68c,q68e,ax69,q68d,t3e,t6e,t7e,t10e,t76e,t77e,t78e,H6e,H7e,H18e,Hn18e,f1F7e,f2F7e,ax80,ax81]
        apply sp au hh<;>intro _ hh
        ·obtain⟨x83,hx83,hh⟩:=ag hh
         have ax83:=bm (eI .i64) hx83
         simp only[bo]at ax83
         have ax81:=bm (eI .i64) hx81
         simp only[bo]at ax81
         have p84:=dF (eI .i64) (x':=IntKind.i64.wrap (x83+1)) (fo:=0) (cs:=[.int .i64 (IntKind.i64.wrap (x83+1))]) hx81 rfl (agv rfl)
         simp only[bo,Nat.add_zero]at p84
         have up84:=p84
         simp only[putCells,List.length_cons,List.length_nil,afB,Nat.reduceAdd]at up84
         obtain⟨x85,hx85,hh⟩:=ag hh
         obtain⟨q86a,q86b,q86c,q86d⟩:=gI (eI .i64) hx85
         simp only[bo]at q86b
         cases hh
         try simp only[aQ,seval,-Int.reduceToNat,hr1,q4n,q4a,q19a,q19b,q19c,q19d,q19e,hr20,f1F7bx,f2F7bx,f1F7c,f2F7c,bx66,ax66,fx66,q68a,q68b,q68c,q68e,ax69,q68d,t3e,t6e,t7e,t10e,t76e,t77e,t78e,H6e,H7e,H18e,Hn18e,f1F7e,f2F7e,ax80,ax81,ax83,ax81,p84,up84,q86a,q86b,q86c,q86d]
         apply iC
         refine⟨v6e,e+1+1+1+1,v18e,vn18e,0,(ae (eI .i64) x85),?_,?_,?_,?_,?_,?_,?_,?_,?_,?_,?_,(tx.self (eI .i64) x85)⟩
         all_goals (first|rfl|omega|(simp only[aQ,seval,-Int.reduceToNat,hr1,q4n,q4a,q19a,q19b,q19c,q19d,q19e,hr20,f1F7bx,f2F7bx,f1F7c,f2F7c,bx66,ax66,fx66,q68a,q68b,q68c,q68e,ax69,q68d,t3e,t6e,t7e,t10e,t76e,t77e,t78e,H6e,H7e,H18e,Hn18e,f1F7e,f2F7e,ax80,ax81,ax83,ax81,p84,up84,q86a,q86b,q86c,q86d]<;>rfl))
        ·cases hh
         try simp only[aQ,seval,-Int.reduceToNat,hr1,q4n,q4a,q19a,q19b,q19c,q19d,q19e,hr20,f1F7bx,f2F7bx,f1F7c,f2F7c,bx66,ax66,fx66,q68a,q68b,q68c,q68e,ax69,q68d,t3e,t6e,t7e,t10e,t76e,t77e,t78e,H6e,H7e,H18e,Hn18e,f1F7e,f2F7e,ax80,ax81]
         apply iC
         refine⟨v6e,v7e,v18e,vn18e,O7e,C7e,?_,?_,?_,?_,?_,?_,?_,?_,?_,?_,?_,F7e⟩
         all_goals (first|rfl|omega|(simp only[aQ,seval,-Int.reduceToNat,hr1,q4n,q4a,q19a,q19b,q19c,q19d,q19e,hr20,f1F7bx,f2F7bx,f1F7c,f2F7c,bx66,ax66,fx66,q68a,q68b,q68c,q68e,ax69,q68d,t3e,t6e,t7e,t10e,t76e,t77e,t78e,H6e,H7e,H18e,Hn18e,f1F7e,f2F7e,ax80,ax81]<;>rfl))
       ·cases hh
        try simp only[aQ,seval,-Int.reduceToNat,hr1,q4n,q4a,q19a,q19b,q19c,q19d,q19e,hr20,f1F7bx,f2F7bx,f1F7c,f2F7c,bx66,ax66,fx66,q68a,q68b,q68c,q68e,ax69,q68d,t3e,t6e,t7e,t10e,t76e,t77e,t78e,H6e,H7e,H18e,Hn18e,f1F7e,f2F7e]
        apply jP
        refine⟨rfl,⟨v6e,v7e,v18e,vn18e,O7e,C7e,?_,?_,?_,?_,?_,?_,?_,F7e⟩⟩
        all_goals (first|rfl|omega|(simp only[aQ,seval,-Int.reduceToNat,hr1,q4n,q4a,q19a,q19b,q19c,q19d,q19e,hr20,f1F7bx,f2F7bx,f1F7c,f2F7c,bx66,ax66,fx66,q68a,q68b,q68c,q68e,ax69,q68d,t3e,t6e,t7e,t10e,t76e,t77e,t78e,H6e,H7e,H18e,Hn18e,f1F7e,f2F7e]<;>rfl))
      ·rintro x t H e hx
       rcases o78 with⟨l6ex,l7ex⟩
       dsimp only at hx hh
       obtain⟨rfl,⟨v6ex,v7ex,v18ex,vn18ex,O7ex,C7ex,t3ex,t6ex,t7ex,H6ex,H7ex,H18ex,Hn18ex,F7ex⟩⟩:=hx
       have f1F7ex:=F7ex.fit
       have f2F7ex:=F7ex.eq
       simp only[bo]at f1F7ex f2F7ex
       cases hh
       try simp only[aQ,seval,-Int.reduceToNat,hr1,q4n,q4a,q19a,q19b,q19c,q19d,q19e,hr20,f1F7bx,f2F7bx,f1F7c,f2F7c,bx66,ax66,fx66,q68a,q68b,q68c,q68e,ax69,q68d,q68d,t3ex,t6ex,t7ex,H6ex,H7ex,H18ex,Hn18ex,f1F7ex,f2F7ex]
       apply iC
       refine⟨v6ex,v7ex,v18ex,vn18ex,O7ex,C7ex,?_,?_,?_,?_,?_,?_,?_,F7ex⟩
       all_goals (first|rfl|omega|(simp only[aQ,seval,-Int.reduceToNat,hr1,q4n,q4a,q19a,q19b,q19c,q19d,q19e,hr20,f1F7bx,f2F7bx,f1F7c,f2F7c,bx66,ax66,fx66,q68a,q68b,q68c,q68e,ax69,q68d,q68d,t3ex,t6ex,t7ex,H6ex,H7ex,H18ex,Hn18ex,f1F7ex,f2F7ex]<;>rfl))
     ·cases hh
      try simp only[aQ,seval,-Int.reduceToNat,hr1,q4n,q4a,q19a,q19b,q19c,q19d,q19e,hr20,f1F7bx,f2F7bx,t3c,t6c,t7c,H6c,H7c,H18c,Hn18c,f1F7c,f2F7c]
      apply jP
      refine⟨rfl,⟨v6c,?_,?_⟩⟩
      all_goals first|rfl|(simp only[aQ,seval,-Int.reduceToNat,hr1,q4n,q4a,q19a,q19b,q19c,q19d,q19e,hr20,f1F7bx,f2F7bx,t3c,t6c,t7c,H6c,H7c,H18c,Hn18c,f1F7c,f2F7c]<;>rfl)
    ·rintro x t H e hx
     obtain⟨l6cx,rfl⟩:∃z,z=o64:=⟨_,rfl⟩
     dsimp only at hx hh
     obtain⟨rfl,⟨v6cx,Zcx⟩⟩:=hx
     cases hh
     try simp only[aQ,seval,-Int.reduceToNat,hr1,q4n,q4a,q19a,q19b,q19c,q19d,q19e,hr20,f1F7bx,f2F7bx,Zcx]
theorem Kd:bT Try.prog 45 tR:=bT.of (mode := .clean) tok JG mixed Try.func45 (by kernel_rfl) ⟨by kernel_rfl,by kernel_rfl⟩ (fun _=>agv (by kernel_rfl)) (fun x r h=>NP x r h)
def qI:=fR (fH (dk td)) (fun x:de=>iI x) (fun r:(List Int) =>.clean (.sl false false r.length (ae (eI .i64) r)))
theorem wX (p0_0:Int) (p0_1:(List fa)):qI none [.agg [.int .i64 p0_0,.sl false false p0_1.length (ae ba p0_1)]]=(iI (de.mk p0_0 p0_1)).map fun r:(List Int)=>(.clean (.sl false false r.length (ae (eI .i64) r)),none):=aN _ _ _ ((de.mk p0_0 p0_1))
def nt:Env:=(Am.ext aY 45 false tR)
theorem DL:bq Try.prog nt:=(bq.none.add Kd false)
theorem dE:type_of% (ai @w<|ai @Bg<|@nt.eq_1):=⟨@w,@Bg,@nt.eq_1⟩
theorem FO (p0:de) (r:(List Int)) (hh:iI p0=some r):a6 .clean tab nt FU Try.f14 none [.agg [.int .i64 p0.aG,.sl false false p0.aw.length (ae ba p0.aw)]]=some (.clean (.sl false false r.length (ae (eI .i64) r)),none):=by
 apply aD rfl Try.ntmps14 Try.results14
 unfold iI at hh
 obtain⟨r1,hr1,hh⟩:=ag hh
 try simp only[dE,seval,hr1]
 obtain⟨o7,ho7,hh⟩:=ag hh
 refine aB (fun s t H e=>match s with|(s9a,l3a)=>∃v3a:Nat,t 3=.buf 3 v3a 1 0 (l3a).length∧t 7=.sl false false r1.length (ae (eI .i64) r1)∧t 8=.int .i64 (r1.length:Int)∧t 9=.int .i64 s9a∧H 3=some ⟨v3a,3,ae (eI .i64) l3a,false,true,false⟩) (fun o x t H e=>match o with|l3ax=>x=.exit 0∧∃v3ax:Nat,t 3=.buf 3 v3ax 1 0 (l3ax).length∧H 3=some ⟨v3ax,3,ae (eI .i64) l3ax,false,true,false⟩) ho7 ?_ ?_ ?_
 ·refine⟨1,?_,?_,?_,?_,?_⟩
  all_goals first|rfl|(simp only[dE,seval,hr1]<;>rfl)
 ·rintro⟨s9a,l3a⟩ t H e ⟨v3a,Za⟩ c hh
  simp only[im]at hh
  try simp only[dE,seval,hr1,Za]
  apply sp au hh<;>intro _ hh
  ·obtain⟨x9,hx9,hh⟩:=ag hh
   have ax9:=bm (eI .i64) hx9
   simp only[bo]at ax9
   try simp only[dE,seval,hr1,Za,ax9]
   apply sp au hh<;>intro _ hh
   ·obtain⟨x11,hx11,hh⟩:=ag hh
    obtain⟨q12a,q12b,q12c,q12d⟩:=gI (eI .i64) hx11
    simp only[bo]at q12b
    cases hh
    try simp only[dE,seval,hr1,Za,ax9,q12a,q12b,q12c,q12d]
    apply iC
    refine⟨e+1+1+1,?_,?_,?_,?_,?_⟩
    all_goals first|rfl|(simp only[dE,seval,hr1,Za,ax9,q12a,q12b,q12c,q12d]<;>rfl)
   ·cases hh
    try simp only[dE,seval,hr1,Za,ax9]
    apply iC
    refine⟨v3a,?_,?_,?_,?_,?_⟩
    all_goals first|rfl|(simp only[dE,seval,hr1,Za,ax9]<;>rfl)
  ·cases hh
   try simp only[dE,seval,hr1,Za]
   apply jP
   refine⟨rfl,⟨v3a,?_,?_⟩⟩
   all_goals first|rfl|(simp only[dE,seval,hr1,Za]<;>rfl)
 ·rintro x t H e hx
  obtain⟨l3ax,rfl⟩:∃z,z=o7:=⟨_,rfl⟩
  dsimp only at hx hh
  obtain⟨rfl,⟨v3ax,Zax⟩⟩:=hx
  cases hh
  try simp only[dE,seval,hr1,Zax]
theorem Ev:bT Try.prog 14 qI:=bT.of (mode := .clean) tok DL mixed Try.func14 (by kernel_rfl) ⟨by kernel_rfl,by kernel_rfl⟩ (fun _=>agv (by kernel_rfl)) (fun x r h=>FO x r h)
def jz:Env:=(Am.yJ 11 (74,5,4) aY)
theorem xr:bq Try.prog jz:=(bq.yJ bq.none 11 (74,5,4))
theorem bl:type_of% (ai @w<|@jz.eq_1):=⟨@w,@jz.eq_1⟩
theorem yF (p0:de) (p1:(List al)) (r:(List az)) (hh:eD p0 p1=some r):xH tab jz FU Try.f40 [.agg [.int .i64 p0.aG,.sl false false p0.aw.length (ae ba p0.aw)],.sl false false p1.length (ae an p1)]=some (69,74,5,5,r.length,ae aF r):=by
 apply VI rfl Try.ntmps40 Try.results40
 unfold eD at hh
 obtain⟨x1,hx1,hh⟩:=ag hh
 have q2n:=Tt (E:=aF) (ty':=74) (s:=5) (f:=4) (k := .i64) Rq (by rfl) rfl rfl rfl rfl rfl hx1
 obtain⟨q2a,q2b,q2c,q2d,q2e⟩:=mk_one aF hx1
 try simp only[bl,seval,q2n,q2a]
 obtain⟨o8,ho8,hh⟩:=ag hh
 refine aB (fun s t H e=>match s with|(s14a,l11a)=>∃v2a:Nat,∃v11a:Nat,∃vn11a:Nat,t 1=.sl false false p1.length (ae an p1)∧t 2=.ptr 2 v2a 0∧t 5=.buf 11 v11a 5 0 (l11a).length∧t 13=.int .i64 ((x1).length:Int)∧t 14=.int .i64 s14a∧H 2=some ⟨v2a,24,[.int .i64 p0.aG,.sl false false p0.aw.length (ae ba p0.aw)],false,false,false⟩∧H 11=some ⟨v11a,69,[.nr 74 5 vn11a (ae aF l11a)],false,true,true⟩∧vn11a<=4*e) (fun o x t H e=>match o with|l11ax=>x=.exit 0∧∃v2ax:Nat,∃v11ax:Nat,∃vn11ax:Nat,t 2=.ptr 2 v2ax 0∧t 5=.buf 11 v11ax 5 0 (l11ax).length∧H 2=some ⟨v2ax,24,[.int .i64 p0.aG,.sl false false p0.aw.length (ae ba p0.aw)],false,false,false⟩∧H 11=some ⟨v11ax,69,[.nr 74 5 vn11ax (ae aF l11ax)],false,true,true⟩∧vn11ax<=4*e) ho8 ?_ ?_ ?_
 ·refine⟨0,1,4*(1)+2,?_,?_,?_,?_,?_,?_,?_,?_⟩
  all_goals (first|rfl|omega|(simp only[bl,seval,q2n,q2a]<;>rfl))
 ·rintro⟨s14a,l11a⟩ t H e ⟨v2a,v11a,vn11a,Za⟩ c hh
  simp only[fZ]at hh
  try simp only[bl,seval,q2n,q2a,Za]
  apply sp au hh<;>intro _ hh
  ·obtain⟨x10,hx10,hh⟩:=ag hh
   have ax10:=bm an hx10
   simp only[bo]at ax10
   obtain⟨x11,hx11,hh⟩:=ag hh
   have ax11:=bm aF hx11
   simp only[bo]at ax11
   have fq13:=iY aF 0 4 (agv rfl) hx11
   simp only[bo,Nat.add_zero]at fq13
   have p12:=dF aF (x':=(az.mk x10 x11.bA)) (fo:=0) (cs:=[.int .i64 x10.aJ.ah,.sl false false x10.aJ.aa.length (ae (eI .i64) x10.aJ.aa),.int .i64 x10.aL.ah,.sl false false x10.aL.aa.length (ae (eI .i64) x10.aL.aa)]) hx11 rfl (agv rfl)
   simp only[bo,Nat.add_zero]at p12
   have up12:=p12
   simp only[putCells,List.length_cons,List.length_nil,afB,Nat.reduceAdd]at up12
   cases hh
   try simp only[bl,seval,q2n,q2a,Za,ax10,ax11,fq13,p12,up12]
   apply iC
   refine⟨v2a,v11a,vn11a,?_,?_,?_,?_,?_,?_,?_,?_⟩
   all_goals (first|rfl|omega|(simp only[bl,seval,q2n,q2a,Za,ax10,ax11,fq13,p12,up12]<;>rfl))
  ·cases hh
   try simp only[bl,seval,q2n,q2a,Za]
   apply jP
   refine⟨rfl,⟨v2a,v11a,vn11a,?_,?_,?_,?_,?_⟩⟩
   all_goals (first|rfl|omega|(simp only[bl,seval,q2n,q2a,Za]<;>rfl))
 ·rintro x t H e hx
  obtain⟨l11ax,rfl⟩:∃z,z=o8:=⟨_,rfl⟩
  dsimp only at hx hh
  obtain⟨rfl,⟨v2ax,v11ax,vn11ax,Zax⟩⟩:=hx
  try simp only[bl,seval,q2n,q2a,Zax]
  obtain⟨o22,ho22,hh⟩:=ag hh
  refine aB (fun s t H e=>match s with|(s29b,l11b)=>∃v11b:Nat,∃vn11b:Nat,t 5=.buf 11 v11b 5 0 (l11b).length∧t 27=.sl false false p0.aw.length (ae ba p0.aw)∧t 28=.int .i64 (p0.aw.length:Int)∧t 29=.int .i64 s29b∧H 11=some ⟨v11b,69,[.nr 74 5 vn11b (ae aF l11b)],false,true,true⟩∧vn11b<=4*e) (fun o x t H e=>match o with|l11bx=>x=.exit 2∧∃v11bx:Nat,∃vn11bx:Nat,t 5=.buf 11 v11bx 5 0 (l11bx).length∧H 11=some ⟨v11bx,69,[.nr 74 5 vn11bx (ae aF l11bx)],false,true,true⟩∧vn11bx<=4*e) ho22 ?_ ?_ ?_
  ·refine⟨v11ax,vn11ax,?_,?_,?_,?_,?_,?_⟩
   all_goals (first|rfl|omega|(simp only[bl,seval,q2n,q2a,Zax]<;>rfl))
  ·rintro⟨s29b,l11b⟩ t H e ⟨v11b,vn11b,Zb⟩ c hh
   simp only[gf]at hh
   try simp only[bl,seval,q2n,q2a,Zb]
   apply sp au hh<;>intro _ hh
   ·obtain⟨x24,hx24,hh⟩:=ag hh
    have ax24:=bm ba hx24
    simp only[bo]at ax24
    obtain⟨x25,hx25,hh⟩:=ag hh
    have ax25:=bm aF hx25
    simp only[bo]at ax25
    have aq26:=jN aF 4 hx25
    have fq26:=iY aF 4 1 (agv rfl) hx25
    simp only[bo]at aq26 fq26
    obtain⟨x27,hx27,hh⟩:=ag hh
    obtain⟨q28a,q28b,q28c,q28d⟩:=gI bp hx27
    simp only[bo]at q28b
    have ax25:=bm aF hx25
    simp only[bo]at ax25
    have aq29:=jN aF 4 hx25
    have fq29:=iY aF 4 1 (agv rfl) hx25
    simp only[bo]at aq29 fq29
    have p30:=OG aF (x':=(az.mk x25.aX x27)) 4 .und (.nx x27.length (ae bp x27)) hx25 rfl (agv rfl)
    have lp30:=TF aF 4 .und hx25 (agv rfl)
    simp only[bo,Nat.add_zero]at p30 lp30
    have up30:=p30
    simp only[putCells,List.length_cons,List.length_nil,afB,Nat.reduceAdd]at up30
    have ulp30:=lp30
    simp only[putCells,List.length_cons,List.length_nil,afB,Nat.reduceAdd]at ulp30
    have bp30:pU vn11b (e+1+1)=some (4*(e+1+1)+1):=j3 (by omega)
    try simp only[bl,seval,q2n,q2a,Zb,ax24,ax25,aq26,fq26,q28a,q28b,q28c,q28d,ax25,aq29,fq29,p30,up30,lp30,ulp30,bp30]
    refine bF (by kernel_rfl) ?_
    cases hh
    try simp only[bl,seval,q2n,q2a,Zb,ax24,ax25,aq26,fq26,q28a,q28b,q28c,q28d,ax25,aq29,fq29,p30,up30,lp30,ulp30,bp30]
    apply iC
    refine⟨v11b,4*(e+1+1)+1,?_,?_,?_,?_,?_,?_⟩
    all_goals (first|rfl|omega|(simp only[bl,seval,q2n,q2a,Zb,ax24,ax25,aq26,fq26,q28a,q28b,q28c,q28d,ax25,aq29,fq29,p30,up30,lp30,ulp30,bp30]<;>rfl))
   ·cases hh
    try simp only[bl,seval,q2n,q2a,Zb]
    apply jP
    refine⟨rfl,⟨v11b,vn11b,?_,?_,?_⟩⟩
    all_goals (first|rfl|omega|(simp only[bl,seval,q2n,q2a,Zb]<;>rfl))
  ·rintro x t H e hx
   obtain⟨l11bx,rfl⟩:∃z,z=o22:=⟨_,rfl⟩
   dsimp only at hx hh
   obtain⟨rfl,⟨v11bx,vn11bx,Zbx⟩⟩:=hx
   cases hh
   try simp only[bl,seval,q2n,q2a,Zbx]
def kW:=bL (jE (dk td) (fH (lM an))) (fun x:de×(List al)=>eD x.1 x.2) (fun r:(List az)=>(69,74,5,5,r.length,ae aF r))
theorem pO (p0_0:Int) (p0_1:(List fa)) (p1:(List al)):kW [.agg [.int .i64 p0_0,.sl false false p0_1.length (ae ba p0_1)],.sl false false p1.length (ae an p1)]=(eD (de.mk p0_0 p0_1) p1).map fun r:(List az)=>(69,74,5,5,r.length,ae aF r):=abO _ _ _ ((de.mk p0_0 p0_1),p1)
theorem og:FOk Try.prog 40 kW:=FOk.of tok xr mixed Try.func40 (by kernel_rfl) ⟨by kernel_rfl,by kernel_rfl⟩ (fun _=>agv (by kernel_rfl)) (fun x r h=>yF x.1 x.2 r h)
def ig:=fR (jE (dk bp) (fH (aI .i64))) (fun x:dH×Int=>cj x.1 x.2) (fun r:Int =>.clean (.int .i64 r))
theorem lF (p0_0:Int) (p0_1:Int) (p0_2:(List Int)) (p0_3:Int) (p0_4:(List Int)) (p1:Int):ig none [.agg [.int .i64 p0_0,.int .i64 p0_1,.sl false false p0_2.length (ae (eI .i64) p0_2),.int .i64 p0_3,.sl false false p0_4.length (ae (eI .i64) p0_4)],.int .i64 p1]=(cj (dH.mk p0_0 (al.mk (aq.mk p0_1 p0_2) (aq.mk p0_3 p0_4))) p1).map fun r:Int=>(.clean (.int .i64 r),none):=aN _ _ _ ((dH.mk p0_0 (al.mk (aq.mk p0_1 p0_2) (aq.mk p0_3 p0_4))),p1)
def fc:Env:=(Am.ext aY 66 false jg)
theorem qL:bq Try.prog fc:=(bq.none.add mo false)
theorem rz:type_of% (ai @w<|ai @fM<|@fc.eq_1):=⟨@w,@fM,@fc.eq_1⟩
theorem rj (p0:dH) (p1:Int) (r:Int) (hh:cj p0 p1=some r):a6 .clean tab fc FU Try.f98 none [.agg [.int .i64 p0.l5,.int .i64 p0.dW.aJ.ah,.sl false false p0.dW.aJ.aa.length (ae (eI .i64) p0.dW.aJ.aa),.int .i64 p0.dW.aL.ah,.sl false false p0.dW.aL.aa.length (ae (eI .i64) p0.dW.aL.aa)],.int .i64 p1]=some (.clean (.int .i64 r),none):=by
 apply aD rfl Try.ntmps98 Try.results98
 unfold cj at hh
 obtain⟨r1,hr1,hh⟩:=ag hh
 cases hh
 try simp only[rz,seval,hr1]
theorem qP:bT Try.prog 98 ig:=bT.of (mode := .clean) tok qL mixed Try.func98 (by kernel_rfl) ⟨by kernel_rfl,by kernel_rfl⟩ (fun _=>agv (by kernel_rfl)) (fun x r h=>rj x.1 x.2 r h)
def b9:=fR (jE (lM bp) (jE (aI .i64) (fH (aFn 98)))) (fun x:(List dH)×Int×Unit=>aS x.1 x.2.1) (fun r:Int×Bool =>.clean (.tup [.int .i64 r.1,.bool r.2]))
theorem dw (p0:(List dH)) (p1:Int):b9 none [.sl false false p0.length (ae bp p0),.int .i64 p1,.fn 98]=(aS p0 p1).map fun r:Int×Bool=>(.clean (.tup [.int .i64 r.1,.bool r.2]),none):=aN _ _ _ (p0,p1,())
def bH:Env:=(Am.ext aY 98 false ig)
theorem gB:bq Try.prog bH:=(bq.none.add qP false)
theorem aA:type_of% (ai @w<|ai @lF<|@bH.eq_1):=⟨@w,@lF,@bH.eq_1⟩
theorem gN (p0:(List dH)) (p1:Int) (r:Int×Bool) (hh:aS p0 p1=some r):a6 .clean tab bH FU Try.f97 none [.sl false false p0.length (ae bp p0),.int .i64 p1,.fn 98]=some (.clean (.tup [.int .i64 r.1,.bool r.2]),none):=by
 apply aD rfl Try.ntmps97 Try.results97
 unfold aS at hh
 try simp only[aA,seval,-Int.reduceToNat]
 obtain⟨o7,ho7,hh⟩:=ag hh
 refine aB (fun s t H e=>match s with|(s9a,s10a)=>t 0=.sl false false p0.length (ae bp p0)∧t 1=.int .i64 p1∧t 2=.fn 98∧t 8=.int .i64 (p0.length:Int)∧t 9=.int .i64 s9a∧t 10=.int .i64 s10a) (fun o x t H e=>match o with|s9ax=>x=.exit 0∧t 0=.sl false false p0.length (ae bp p0)∧t 1=.int .i64 p1∧t 2=.fn 98∧t 8=.int .i64 (p0.length:Int)∧t 9=.int .i64 s9ax) ho7 ?_ ?_ ?_
 ·refine⟨?_,?_,?_,?_,?_,?_⟩
  all_goals first|rfl|(simp only[aA,seval,-Int.reduceToNat]<;>rfl)
 ·rintro⟨s9a,s10a⟩ t H e Za c hh
  simp only[bC]at hh
  try simp only[aA,seval,-Int.reduceToNat,Za]
  apply sp au hh<;>intro _ hh
  ·obtain⟨x9,hx9,hh⟩:=ag hh
   have q10:=gQ hx9
   obtain⟨x11,hx11,hh⟩:=ag hh
   have ax11:=bm bp hx11
   simp only[bo]at ax11
   obtain⟨r12,hr12,hh⟩:=ag hh
   try simp only[aA,seval,-Int.reduceToNat,Za,q10,ax11,hr12]
   apply sp au hh<;>intro _ hh
   ·cases hh
    try simp only[aA,seval,-Int.reduceToNat,Za,q10,ax11,hr12]
    apply iC
    refine⟨?_,?_,?_,?_,?_,?_⟩
    all_goals first|rfl|(simp only[aA,seval,-Int.reduceToNat,Za,q10,ax11,hr12]<;>rfl)
   ·cases hh
    try simp only[aA,seval,-Int.reduceToNat,Za,q10,ax11,hr12]
    apply iC
    refine⟨?_,?_,?_,?_,?_,?_⟩
    all_goals first|rfl|(simp only[aA,seval,-Int.reduceToNat,Za,q10,ax11,hr12]<;>rfl)
  ·cases hh
   try simp only[aA,seval,-Int.reduceToNat,Za]
   apply jP
   refine⟨rfl,⟨?_,?_,?_,?_,?_⟩⟩
   all_goals first|rfl|(simp only[aA,seval,-Int.reduceToNat,Za]<;>rfl)
 ·rintro x t H e hx
  obtain⟨s9ax,rfl⟩:∃z,z=o7:=⟨_,rfl⟩
  dsimp only at hx hh
  obtain⟨rfl,Zax⟩:=hx
  try simp only[aA,seval,-Int.reduceToNat,Zax]
  apply sp dj hh<;>intro _ hh
  ·obtain⟨x15,hx15,hh⟩:=ag hh
   have ax15:=bm bp hx15
   simp only[bo]at ax15
   obtain⟨r16,hr16,hh⟩:=ag hh
   cases hh
   try simp only[aA,seval,-Int.reduceToNat,Zax,ax15,hr16]
  ·cases hh
   try simp only[aA,seval,-Int.reduceToNat,Zax]
theorem gC:bT Try.prog 97 b9:=bT.of (mode := .clean) tok gB mixed Try.func97 (by kernel_rfl) ⟨by kernel_rfl,by kernel_rfl⟩ (fun _=>agv (by kernel_rfl)) (fun x r h=>gN x.1 x.2.1 r h)
def dZ:=FQ 69 74 5 aF (fH (aI .i64)) (fun (q:az) (x:Int)=>ck q x) (fun r:Int×Bool =>.tup [.int .i64 r.1,.bool r.2])
theorem iT (pre post:List D) (p0:az) (p1:Int):dZ 69 74 5 pre.length (pre++(aF.cells p0++post)) [.int .i64 p1]=(ck p0 p1).map fun r=>(.tup [.int .i64 r.2.1,.bool r.2.2],pre++(aF.cells r.1++post)):=J5 _ _ _ _ _ _ _ pre post p0 (p1)
def gm:Env:=(Am.ext aY 97 false b9)
theorem sC:bq Try.prog gm:=(bq.none.add gC false)
theorem tM:type_of% (ai @w<|ai @vnp<|ai @dw<|@gm.eq_1):=⟨@w,@vnp,@dw,@gm.eq_1⟩
theorem tG (pre post:List D) (p0:az) (p1:Int) (r:az×(Int×Bool)) (hh:ck p0 p1=some r):sV tab gm FU Try.f69 69 74 5 pre.length (pre++(aF.cells p0++post)) [.int .i64 p1]=some (.tup [.int .i64 r.2.1,.bool r.2.2],pre++(aF.cells r.1++post)):=by
 apply wm rfl Try.ntmps69 Try.results69
 rw[dr]
 unfold ck at hh
 obtain⟨r1,hr1,hh⟩:=ag hh
 cases hh
 try simp only[tM,seval,hr1]
theorem cT:Y9 Try.prog 69 dZ:=Y9.of tok sC mixed Try.func69 (by kernel_rfl) ⟨by kernel_rfl,by kernel_rfl⟩ (fun _=>agv (by kernel_rfl)) (fun pre post q x q' r h=>tG pre post q x (q',r) h)
def jw:=mkE 74 bp (jE (aI .i64) (fH (aI .i64))) (fun (l:(List dH)) (x:Int×Int)=>fP l x.1 x.2)
theorem qy (pre post:List D) (p0:(List dH)) (p1 p2:Int):jw (some (.buf 0 0 5 pre.length p0.length,⟨0,74,pre++(ae bp p0++post),false,true,false⟩)) [.int .i64 p1,.int .i64 p2]=(fP p0 p1 p2).map fun r=>(.fresh 74 5 r.length (ae bp r),none):=XJ _ _ _ _ pre post p0 (p1,p2)
theorem pM:bT Try.prog 70 jw:=Zy bp rfl
def rE:=fR (jE (dk an) (fH (dk an))) (fun x:al×al=>jL x.1 x.2) (fun r:al×Int =>.clean (.tup [.agg [.int .i64 r.1.aJ.ah,.sl false false r.1.aJ.aa.length (ae (eI .i64) r.1.aJ.aa),.int .i64 r.1.aL.ah,.sl false false r.1.aL.aa.length (ae (eI .i64) r.1.aL.aa)],.int .i64 r.2]))
theorem sK (p0_0:Int) (p0_1:(List Int)) (p0_2:Int) (p0_3:(List Int)) (p1_0:Int) (p1_1:(List Int)) (p1_2:Int) (p1_3:(List Int)):rE none [.agg [.int .i64 p0_0,.sl false false p0_1.length (ae (eI .i64) p0_1),.int .i64 p0_2,.sl false false p0_3.length (ae (eI .i64) p0_3)],.agg [.int .i64 p1_0,.sl false false p1_1.length (ae (eI .i64) p1_1),.int .i64 p1_2,.sl false false p1_3.length (ae (eI .i64) p1_3)]]=(jL (al.mk (aq.mk p0_0 p0_1) (aq.mk p0_2 p0_3)) (al.mk (aq.mk p1_0 p1_1) (aq.mk p1_2 p1_3))).map fun r:al×Int=>(.clean (.tup [.agg [.int .i64 r.1.aJ.ah,.sl false false r.1.aJ.aa.length (ae (eI .i64) r.1.aJ.aa),.int .i64 r.1.aL.ah,.sl false false r.1.aL.aa.length (ae (eI .i64) r.1.aL.aa)],.int .i64 r.2]),none):=aN _ _ _ ((al.mk (aq.mk p0_0 p0_1) (aq.mk p0_2 p0_3)),(al.mk (aq.mk p1_0 p1_1) (aq.mk p1_2 p1_3)))
def sf:Env:=(Am.ext (Am.ext (Am.ext aY 22 false ec) 48 false j1) 49 false pc)
theorem MD:bq Try.prog sf:=(((bq.none.add eS false).add ny false).add uL false)
theorem fu:type_of% (ai @w<|ai @bV<|ai @gP<|ai @m5<|@sf.eq_1):=⟨@w,@bV,@gP,@m5,@sf.eq_1⟩
theorem QF (p0:al) (p1:al) (r:al×Int) (hh:jL p0 p1=some r):a6 .clean tab sf FU Try.f71 none [.agg [.int .i64 p0.aJ.ah,.sl false false p0.aJ.aa.length (ae (eI .i64) p0.aJ.aa),.int .i64 p0.aL.ah,.sl false false p0.aL.aa.length (ae (eI .i64) p0.aL.aa)],.agg [.int .i64 p1.aJ.ah,.sl false false p1.aJ.aa.length (ae (eI .i64) p1.aJ.aa),.int .i64 p1.aL.ah,.sl false false p1.aL.aa.length (ae (eI .i64) p1.aL.aa)]]=some (.clean (.tup [.agg [.int .i64 r.1.aJ.ah,.sl false false r.1.aJ.aa.length (ae (eI .i64) r.1.aJ.aa),.int .i64 r.1.aL.ah,.sl false false r.1.aL.aa.length (ae (eI .i64) r.1.aL.aa)],.int .i64 r.2]),none):=by
 apply aD rfl Try.ntmps71 Try.results71
 unfold jL at hh
 obtain⟨r1,hr1,hh⟩:=ag hh
 try simp only[fu,seval,hr1]
 obtain⟨o2,ho2,hh⟩:=ag hh
 refine bP 0 (fun s t H e=>match s with|s6j1=>∃v2j1:Nat,∃v3j1:Nat,∃v4j1:Nat,t 2=.ptr 2 v2j1 0∧t 3=.ptr 3 v3j1 0∧t 4=.ptr 4 v4j1 0∧t 6=.bool s6j1∧H 2=some ⟨v2j1,41,[.int .i64 p0.aJ.ah,.sl false false p0.aJ.aa.length (ae (eI .i64) p0.aJ.aa),.int .i64 p0.aL.ah,.sl false false p0.aL.aa.length (ae (eI .i64) p0.aL.aa)],false,false,false⟩∧H 3=some ⟨v3j1,41,[.int .i64 p1.aJ.ah,.sl false false p1.aJ.aa.length (ae (eI .i64) p1.aJ.aa),.int .i64 p1.aL.ah,.sl false false p1.aL.aa.length (ae (eI .i64) p1.aL.aa)],false,false,false⟩∧H 4=some ⟨v4j1,41,[.int .i64 0,.sl true true 0 [],.int .i64 0,.sl true true 0 []],false,false,false⟩) (fun s=>s=o2) ?_ ?_
 ·rintro s6j1 t H e ⟨v2j1,v3j1,v4j1,Zj1⟩ rfl
  try dsimp only at hh
  try simp only[fu,seval,hr1,Zj1]
  apply sp au hh<;>intro _ hh
  ·cases hh
   try simp only[fu,seval,hr1,Zj1]
  ·try simp only[fu,seval,hr1,Zj1]
   apply sp au hh<;>intro _ hh
   ·cases hh
    try simp only[fu,seval,hr1,Zj1]
   ·obtain⟨r5,hr5,hh⟩:=ag hh
    obtain⟨r6,hr6,hh⟩:=ag hh
    obtain⟨r7,hr7,hh⟩:=ag hh
    try simp only[fu,seval,hr1,Zj1,hr5,hr6,hr7]
    refine bF (by kernel_rfl) ?_
    cases hh
    try simp only[fu,seval,hr1,Zj1,hr5,hr6,hr7]
 ·clear hh
  have hh:=ho2
  try simp only[fu,seval,hr1]
  apply sp bc hh<;>intro _ hh
  ·cases hh
   try simp only[fu,seval,hr1]
   rw[av]
   refine⟨_,rfl,?_⟩
   refine⟨0,0,0,?_,?_,?_,?_,?_,?_,?_⟩
   all_goals first|rfl|(simp only[fu,seval,hr1]<;>rfl)
  ·obtain⟨r9,hr9,hh⟩:=ag hh
   cases hh
   try simp only[fu,seval,hr1,hr9]
   rw[av]
   refine⟨_,rfl,?_⟩
   refine⟨0,0,0,?_,?_,?_,?_,?_,?_,?_⟩
   all_goals first|rfl|(simp only[fu,seval,hr1,hr9]<;>rfl)
theorem A7:bT Try.prog 71 rE:=bT.of (mode := .clean) tok MD mixed Try.func71 (by kernel_rfl) ⟨by kernel_rfl,by kernel_rfl⟩ (fun _=>agv (by kernel_rfl)) (fun x r h=>QF x.1 x.2 r h)
def ib:=FQ 69 74 5 aF (fH (aI .i64)) (fun (q:az) (x:Int)=>cY q x) (fun r:Unit =>.tup [])
def fE:Env:=(Am.ext (Am.ext (Am.oL 69 (0,dZ) (Am.ext (Am.ext aY 30 false mK) 44 false iN)) 70 true jw) 71 false rE)
theorem q9:bq Try.prog fE:=(((bq.oL ((bq.none.add qo false).add jR false) cT.callable cT.calls).add pM true).add A7 false)
theorem bf:type_of% (ai @w<|ai @vnp<|ai @vnl<|ai @jT<|ai @eo<|ai @sK<|@fE.eq_1):=⟨@w,@vnp,@vnl,@jT,@eo,@sK,@fE.eq_1⟩
theorem sF (pre post:List D) (p0:az) (p1:Int) (r:az×(Unit)) (hh:cY p0 p1=some r):sV tab fE FU Try.f41 69 74 5 pre.length (pre++(aF.cells p0++post)) [.int .i64 p1]=some (.tup [],pre++(aF.cells r.1++post)):=by
 apply wm rfl Try.ntmps41 Try.results41
 rw[dr]
 unfold cY at hh
 have i1:=iT pre post p0 p1
 simp only[bo]at i1
 obtain⟨r2,hr2,hh⟩:=ag hh
 have bp3:pU 0 (1)=some (4*(1)+1):=j3 (by omega)
 try simp only[bf,seval,i1,hr2,bp3]
 apply sp au hh<;>intro _ hh
 ·cases hh
  try simp only[bf,seval,i1,hr2,bp3]
 ·obtain⟨r5,hr5,hh⟩:=ag hh
  obtain⟨x6,hx6,hh⟩:=ag hh
  have ax6:=bm bp hx6
  simp only[bo]at ax6
  have aq7:=jN bp 1 hx6
  have fq7:=iY bp 1 4 (agv rfl) hx6
  simp only[bo]at aq7 fq7
  obtain⟨r8,hr8,hh⟩:=ag hh
  try simp only[bf,seval,i1,hr2,bp3,hr5,ax6,aq7,fq7,hr8]
  refine bF (by kernel_rfl) ?_
  have i9:=qy [] [] r2.1.bA r2.2.1 (IntKind.i64.wrap (r2.2.1+1))
  simp only[List.nil_append,agD,List.length_nil,bo]at i9
  obtain⟨r10,hr10,hh⟩:=ag hh
  have bp11:pU (4*(1)+1) (4)=some (4*(4)+1):=j3 (by omega)
  obtain⟨r12,hr12,hh⟩:=ag hh
  try simp only[bf,seval,i1,hr2,bp3,hr5,ax6,aq7,fq7,hr8,i9,hr10,bp11,hr12]
  refine bF (by kernel_rfl) ?_
  try simp only[bf,seval,i1,hr2,bp3,hr5,ax6,aq7,fq7,hr8,i9,hr10,bp11,hr12]
  obtain⟨o19,ho19,hh⟩:=ag hh
  refine aB (fun s t H e=>match s with|(s58a,r0_4a)=>∃v6a:Nat,∃vn0a:Nat,t 0=.ptr 0 0 pre.length∧t 6=.ptr 6 v6a 0∧t 57=.int .i64 ((r10).length:Int)∧t 58=.int .i64 s58a∧H 0=some ⟨0,69,[.nr 74 5 vn0a (pre++([.int .i64 r12.1.aJ.ah,.sl false false r12.1.aJ.aa.length (ae (eI .i64) r12.1.aJ.aa),.int .i64 r12.1.aL.ah,.sl false false r12.1.aL.aa.length (ae (eI .i64) r12.1.aL.aa),.nx (r0_4a).length (ae bp r0_4a)]++post))],false,true,true⟩∧H 6=some ⟨v6a,41,[.int .i64 r8.1.aJ.ah,.sl false false r8.1.aJ.aa.length (ae (eI .i64) r8.1.aJ.aa),.int .i64 r8.1.aL.ah,.sl false false r8.1.aL.aa.length (ae (eI .i64) r8.1.aL.aa)],false,false,false⟩∧vn0a<=4*e) (fun o x t H e=>match o with|r0_4ax=>x=.exit 0∧∃vn0ax:Nat,t 0=.ptr 0 0 pre.length∧H 0=some ⟨0,69,[.nr 74 5 vn0ax (pre++([.int .i64 r12.1.aJ.ah,.sl false false r12.1.aJ.aa.length (ae (eI .i64) r12.1.aJ.aa),.int .i64 r12.1.aL.ah,.sl false false r12.1.aL.aa.length (ae (eI .i64) r12.1.aL.aa),.nx (r0_4ax).length (ae bp r0_4ax)]++post))],false,true,true⟩∧vn0ax<=4*e) ho19 ?_ ?_ ?_
  ·refine⟨3,4*(4)+1,?_,?_,?_,?_,?_,?_,?_⟩
   all_goals (first|rfl|omega|(simp only[bf,seval,i1,hr2,bp3,hr5,ax6,aq7,fq7,hr8,i9,hr10,bp11,hr12]<;>rfl))
  ·rintro⟨s58a,r0_4a⟩ t H e ⟨v6a,vn0a,Za⟩ c hh
   simp only[dP]at hh
   try simp only[bf,seval,i1,hr2,bp3,hr5,ax6,aq7,fq7,hr8,i9,hr10,bp11,hr12,Za]
   apply sp au hh<;>intro _ hh
   ·obtain⟨x21,hx21,hh⟩:=ag hh
    have ax21:=bm bp hx21
    simp only[bo]at ax21
    have aq22:=jN bp 1 hx21
    have fq22:=iY bp 1 4 (agv rfl) hx21
    simp only[bo]at aq22 fq22
    obtain⟨r23,hr23,hh⟩:=ag hh
    have ax21:=bm bp hx21
    simp only[bo]at ax21
    have aq24:=jN bp 1 hx21
    have fq24:=iY bp 1 4 (agv rfl) hx21
    simp only[bo]at aq24 fq24
    have p25:=dF bp (x':=(dH.mk x21.l5 r23.1)) (fo:=1) (cs:=[.int .i64 r23.1.aJ.ah,.sl false false r23.1.aJ.aa.length (ae (eI .i64) r23.1.aJ.aa),.int .i64 r23.1.aL.ah,.sl false false r23.1.aL.aa.length (ae (eI .i64) r23.1.aL.aa)]) hx21 rfl (agv rfl)
    simp only[bo,Nat.add_zero]at p25
    have up25:=p25
    simp only[putCells,List.length_cons,List.length_nil,afB,Nat.reduceAdd]at up25
    try simp only[bf,seval,i1,hr2,bp3,hr5,ax6,aq7,fq7,hr8,i9,hr10,bp11,hr12,Za,ax21,aq22,fq22,hr23,ax21,aq24,fq24,p25,up25]
    refine bF (by kernel_rfl) ?_
    cases hh
    try simp only[bf,seval,i1,hr2,bp3,hr5,ax6,aq7,fq7,hr8,i9,hr10,bp11,hr12,Za,ax21,aq22,fq22,hr23,ax21,aq24,fq24,p25,up25]
    apply iC
    refine⟨v6a,vn0a,?_,?_,?_,?_,?_,?_,?_⟩
    all_goals (first|rfl|omega|(simp only[bf,seval,i1,hr2,bp3,hr5,ax6,aq7,fq7,hr8,i9,hr10,bp11,hr12,Za,ax21,aq22,fq22,hr23,ax21,aq24,fq24,p25,up25]<;>rfl))
   ·cases hh
    try simp only[bf,seval,i1,hr2,bp3,hr5,ax6,aq7,fq7,hr8,i9,hr10,bp11,hr12,Za]
    apply jP
    refine⟨rfl,⟨vn0a,?_,?_,?_⟩⟩
    all_goals (first|rfl|omega|(simp only[bf,seval,i1,hr2,bp3,hr5,ax6,aq7,fq7,hr8,i9,hr10,bp11,hr12,Za]<;>rfl))
  ·rintro x t H e hx
   obtain⟨r0_4ax,rfl⟩:∃z,z=o19:=⟨_,rfl⟩
   dsimp only at hx hh
   obtain⟨rfl,⟨vn0ax,Zax⟩⟩:=hx
   cases hh
   try simp only[bf,seval,i1,hr2,bp3,hr5,ax6,aq7,fq7,hr8,i9,hr10,bp11,hr12,Zax]
theorem kJ:Y9 Try.prog 41 ib:=Y9.of tok q9 mixed Try.func41 (by kernel_rfl) ⟨by kernel_rfl,by kernel_rfl⟩ (fun _=>agv (by kernel_rfl)) (fun pre post q x q' r h=>sF pre post q x (q',r) h)
def w8:=fR (jE (dk an) (fH (dk an))) (fun x:al×al=>pD x.1 x.2) (fun r:al×Int =>.clean (.tup [.agg [.int .i64 r.1.aJ.ah,.sl false false r.1.aJ.aa.length (ae (eI .i64) r.1.aJ.aa),.int .i64 r.1.aL.ah,.sl false false r.1.aL.aa.length (ae (eI .i64) r.1.aL.aa)],.int .i64 r.2]))
theorem EG (p0_0:Int) (p0_1:(List Int)) (p0_2:Int) (p0_3:(List Int)) (p1_0:Int) (p1_1:(List Int)) (p1_2:Int) (p1_3:(List Int)):w8 none [.agg [.int .i64 p0_0,.sl false false p0_1.length (ae (eI .i64) p0_1),.int .i64 p0_2,.sl false false p0_3.length (ae (eI .i64) p0_3)],.agg [.int .i64 p1_0,.sl false false p1_1.length (ae (eI .i64) p1_1),.int .i64 p1_2,.sl false false p1_3.length (ae (eI .i64) p1_3)]]=(pD (al.mk (aq.mk p0_0 p0_1) (aq.mk p0_2 p0_3)) (al.mk (aq.mk p1_0 p1_1) (aq.mk p1_2 p1_3))).map fun r:al×Int=>(.clean (.tup [.agg [.int .i64 r.1.aJ.ah,.sl false false r.1.aJ.aa.length (ae (eI .i64) r.1.aJ.aa),.int .i64 r.1.aL.ah,.sl false false r.1.aL.aa.length (ae (eI .i64) r.1.aL.aa)],.int .i64 r.2]),none):=aN _ _ _ ((al.mk (aq.mk p0_0 p0_1) (aq.mk p0_2 p0_3)),(al.mk (aq.mk p1_0 p1_1) (aq.mk p1_2 p1_3)))
def sh:Env:=(Am.ext (Am.ext (Am.ext aY 22 false ec) 48 false j1) 49 false pc)
theorem MF:bq Try.prog sh:=(((bq.none.add eS false).add ny false).add uL false)
theorem gW:type_of% (ai @w<|ai @bV<|ai @gP<|ai @m5<|@sh.eq_1):=⟨@w,@bV,@gP,@m5,@sh.eq_1⟩
theorem QH (p0:al) (p1:al) (r:al×Int) (hh:pD p0 p1=some r):a6 .clean tab sh FU Try.f19 none [.agg [.int .i64 p0.aJ.ah,.sl false false p0.aJ.aa.length (ae (eI .i64) p0.aJ.aa),.int .i64 p0.aL.ah,.sl false false p0.aL.aa.length (ae (eI .i64) p0.aL.aa)],.agg [.int .i64 p1.aJ.ah,.sl false false p1.aJ.aa.length (ae (eI .i64) p1.aJ.aa),.int .i64 p1.aL.ah,.sl false false p1.aL.aa.length (ae (eI .i64) p1.aL.aa)]]=some (.clean (.tup [.agg [.int .i64 r.1.aJ.ah,.sl false false r.1.aJ.aa.length (ae (eI .i64) r.1.aJ.aa),.int .i64 r.1.aL.ah,.sl false false r.1.aL.aa.length (ae (eI .i64) r.1.aL.aa)],.int .i64 r.2]),none):=by
 apply aD rfl Try.ntmps19 Try.results19
 unfold pD at hh
 obtain⟨r1,hr1,hh⟩:=ag hh
 try simp only[gW,seval,hr1]
 obtain⟨o2,ho2,hh⟩:=ag hh
 refine bP 0 (fun s t H e=>match s with|s13j1=>∃v2j1:Nat,∃v3j1:Nat,∃v4j1:Nat,t 2=.ptr 2 v2j1 0∧t 3=.ptr 3 v3j1 0∧t 4=.ptr 4 v4j1 0∧t 13=.bool s13j1∧H 2=some ⟨v2j1,41,[.int .i64 p0.aJ.ah,.sl false false p0.aJ.aa.length (ae (eI .i64) p0.aJ.aa),.int .i64 p0.aL.ah,.sl false false p0.aL.aa.length (ae (eI .i64) p0.aL.aa)],false,false,false⟩∧H 3=some ⟨v3j1,41,[.int .i64 p1.aJ.ah,.sl false false p1.aJ.aa.length (ae (eI .i64) p1.aJ.aa),.int .i64 p1.aL.ah,.sl false false p1.aL.aa.length (ae (eI .i64) p1.aL.aa)],false,false,false⟩∧H 4=some ⟨v4j1,41,[.int .i64 0,.sl true true 0 [],.int .i64 0,.sl true true 0 []],false,false,false⟩) (fun s=>s=o2) ?_ ?_
 ·rintro s13j1 t H e ⟨v2j1,v3j1,v4j1,Zj1⟩ rfl
  try dsimp only at hh
  try simp only[gW,seval,hr1,Zj1]
  apply sp au hh<;>intro _ hh
  ·cases hh
   try simp only[gW,seval,hr1,Zj1]
  ·obtain⟨r4,hr4,hh⟩:=ag hh
   obtain⟨r5,hr5,hh⟩:=ag hh
   obtain⟨r6,hr6,hh⟩:=ag hh
   try simp only[gW,seval,hr1,Zj1,hr4,hr5,hr6]
   refine bF (by kernel_rfl) ?_
   cases hh
   try simp only[gW,seval,hr1,Zj1,hr4,hr5,hr6]
 ·clear hh
  have hh:=ho2
  try simp only[gW,seval,hr1]
  apply sp bc hh<;>intro _ hh
  ·cases hh
   try simp only[gW,seval,hr1]
   rw[av]
   refine⟨_,rfl,?_⟩
   refine⟨0,0,0,?_,?_,?_,?_,?_,?_,?_⟩
   all_goals first|rfl|(simp only[gW,seval,hr1]<;>rfl)
  ·obtain⟨r8,hr8,hh⟩:=ag hh
   cases hh
   try simp only[gW,seval,hr1,hr8]
   rw[av]
   refine⟨_,rfl,?_⟩
   refine⟨0,0,0,?_,?_,?_,?_,?_,?_,?_⟩
   all_goals first|rfl|(simp only[gW,seval,hr1,hr8]<;>rfl)
theorem Ou:bT Try.prog 19 w8:=bT.of (mode := .clean) tok MF mixed Try.func19 (by kernel_rfl) ⟨by kernel_rfl,by kernel_rfl⟩ (fun _=>agv (by kernel_rfl)) (fun x r h=>QH x.1 x.2 r h)
def lT:=fR (jE (dk an) (jE (dk an) (fH (dk an)))) (fun x:al×al×al=>gg x.1 x.2.1 x.2.2) (fun r:al =>.clean (.agg [.int .i64 r.aJ.ah,.sl false false r.aJ.aa.length (ae (eI .i64) r.aJ.aa),.int .i64 r.aL.ah,.sl false false r.aL.aa.length (ae (eI .i64) r.aL.aa)]))
theorem ki (p0_0:Int) (p0_1:(List Int)) (p0_2:Int) (p0_3:(List Int)) (p1_0:Int) (p1_1:(List Int)) (p1_2:Int) (p1_3:(List Int)) (p2_0:Int) (p2_1:(List Int)) (p2_2:Int) (p2_3:(List Int)):lT none [.agg [.int .i64 p0_0,.sl false false p0_1.length (ae (eI .i64) p0_1),.int .i64 p0_2,.sl false false p0_3.length (ae (eI .i64) p0_3)],.agg [.int .i64 p1_0,.sl false false p1_1.length (ae (eI .i64) p1_1),.int .i64 p1_2,.sl false false p1_3.length (ae (eI .i64) p1_3)],.agg [.int .i64 p2_0,.sl false false p2_1.length (ae (eI .i64) p2_1),.int .i64 p2_2,.sl false false p2_3.length (ae (eI .i64) p2_3)]]=(gg (al.mk (aq.mk p0_0 p0_1) (aq.mk p0_2 p0_3)) (al.mk (aq.mk p1_0 p1_1) (aq.mk p1_2 p1_3)) (al.mk (aq.mk p2_0 p2_1) (aq.mk p2_2 p2_3))).map fun r:al=>(.clean (.agg [.int .i64 r.aJ.ah,.sl false false r.aJ.aa.length (ae (eI .i64) r.aJ.aa),.int .i64 r.aL.ah,.sl false false r.aL.aa.length (ae (eI .i64) r.aL.aa)]),none):=aN _ _ _ ((al.mk (aq.mk p0_0 p0_1) (aq.mk p0_2 p0_3)),(al.mk (aq.mk p1_0 p1_1) (aq.mk p1_2 p1_3)),(al.mk (aq.mk p2_0 p2_1) (aq.mk p2_2 p2_3)))
def oJ:Env:=(Am.ext (Am.ext aY 18 false o0) 19 false w8)
theorem FI:bq Try.prog oJ:=((bq.none.add uK false).add Ou false)
theorem KJ:type_of% (ai @w<|ai @m0<|ai @EG<|@oJ.eq_1):=⟨@w,@m0,@EG,@oJ.eq_1⟩
theorem J2 (p0:al) (p1:al) (p2:al) (r:al) (hh:gg p0 p1 p2=some r):a6 .clean tab oJ FU Try.f43 none [.agg [.int .i64 p0.aJ.ah,.sl false false p0.aJ.aa.length (ae (eI .i64) p0.aJ.aa),.int .i64 p0.aL.ah,.sl false false p0.aL.aa.length (ae (eI .i64) p0.aL.aa)],.agg [.int .i64 p1.aJ.ah,.sl false false p1.aJ.aa.length (ae (eI .i64) p1.aJ.aa),.int .i64 p1.aL.ah,.sl false false p1.aL.aa.length (ae (eI .i64) p1.aL.aa)],.agg [.int .i64 p2.aJ.ah,.sl false false p2.aJ.aa.length (ae (eI .i64) p2.aJ.aa),.int .i64 p2.aL.ah,.sl false false p2.aL.aa.length (ae (eI .i64) p2.aL.aa)]]=some (.clean (.agg [.int .i64 r.aJ.ah,.sl false false r.aJ.aa.length (ae (eI .i64) r.aJ.aa),.int .i64 r.aL.ah,.sl false false r.aL.aa.length (ae (eI .i64) r.aL.aa)]),none):=by
 apply aD rfl Try.ntmps43 Try.results43
 unfold gg at hh
 obtain⟨r1,hr1,hh⟩:=ag hh
 obtain⟨r2,hr2,hh⟩:=ag hh
 cases hh
 try simp only[KJ,seval,hr1,hr2]
theorem qQ:bT Try.prog 43 lT:=bT.of (mode := .clean) tok FI mixed Try.func43 (by kernel_rfl) ⟨by kernel_rfl,by kernel_rfl⟩ (fun _=>agv (by kernel_rfl)) (fun x r h=>J2 x.1 x.2.1 x.2.2 r h)
theorem abI:VT Try.prog 99 (74,5,72):=ZL
def jr:=FQ 69 74 5 aF (jE (aI .i64) (fH (dk an))) (fun (q:az) (x:Int×al)=>dJ q x.1 x.2) (fun r:Unit =>.tup [])
theorem tJ (pre post:List D) (p0:az) (p1:Int) (p2_0:Int) (p2_1:(List Int)) (p2_2:Int) (p2_3:(List Int)):jr 69 74 5 pre.length (pre++(aF.cells p0++post)) [.int .i64 p1,.agg [.int .i64 p2_0,.sl false false p2_1.length (ae (eI .i64) p2_1),.int .i64 p2_2,.sl false false p2_3.length (ae (eI .i64) p2_3)]]=(dJ p0 p1 (al.mk (aq.mk p2_0 p2_1) (aq.mk p2_2 p2_3))).map fun r=>(.tup [],pre++(aF.cells r.1++post)):=J5 _ _ _ _ _ _ _ pre post p0 (p1,(al.mk (aq.mk p2_0 p2_1) (aq.mk p2_2 p2_3)))
def gL:Env:=(Am.zU 99 (74,5,72) (Am.oL 69 (0,dZ) (Am.ext (Am.ext aY 43 false lT) 44 false iN)))
theorem tC:bq Try.prog gL:=(bq.zU (bq.oL ((bq.none.add qQ false).add jR false) cT.callable cT.calls) abI)
theorem eZ:type_of% (ai @w<|ai @vnp<|ai @vnl<|ai @ki<|ai @eo<|@gL.eq_1):=⟨@w,@vnp,@vnl,@ki,@eo,@gL.eq_1⟩
theorem uE (pre post:List D) (p0:az) (p1:Int) (p2:al) (r:az×(Unit)) (hh:dJ p0 p1 p2=some r):sV tab gL FU Try.f72 69 74 5 pre.length (pre++(aF.cells p0++post)) [.int .i64 p1,.agg [.int .i64 p2.aJ.ah,.sl false false p2.aJ.aa.length (ae (eI .i64) p2.aJ.aa),.int .i64 p2.aL.ah,.sl false false p2.aL.aa.length (ae (eI .i64) p2.aL.aa)]]=some (.tup [],pre++(aF.cells r.1++post)):=by
 apply wm rfl Try.ntmps72 Try.results72
 rw[dr]
 unfold dJ at hh
 have i1:=iT pre post p0 p1
 simp only[bo]at i1
 obtain⟨r2,hr2,hh⟩:=ag hh
 have bp3:pU 0 (2)=some (4*(2)+1):=j3 (by omega)
 try simp only[eZ,ne_eq,not_false_eq_true,seval,i1,hr2,bp3]
 apply sp au hh<;>intro _ hh
 ·obtain⟨x5,hx5,hh⟩:=ag hh
  have ax5:=bm bp hx5
  simp only[bo]at ax5
  have aq6:=jN bp 1 hx5
  have fq6:=iY bp 1 4 (agv rfl) hx5
  simp only[bo]at aq6 fq6
  obtain⟨r7,hr7,hh⟩:=ag hh
  obtain⟨r8,hr8,hh⟩:=ag hh
  have ax5:=bm bp hx5
  simp only[bo]at ax5
  have aq9:=jN bp 1 hx5
  have fq9:=iY bp 1 4 (agv rfl) hx5
  simp only[bo]at aq9 fq9
  have p10:=dF bp (x':=(dH.mk x5.l5 r8)) (fo:=1) (cs:=[.int .i64 r8.aJ.ah,.sl false false r8.aJ.aa.length (ae (eI .i64) r8.aJ.aa),.int .i64 r8.aL.ah,.sl false false r8.aL.aa.length (ae (eI .i64) r8.aL.aa)]) hx5 rfl (agv rfl)
  simp only[bo,Nat.add_zero]at p10
  have up10:=p10
  simp only[putCells,List.length_cons,List.length_nil,afB,Nat.reduceAdd]at up10
  try simp only[eZ,ne_eq,not_false_eq_true,seval,i1,hr2,bp3,ax5,aq6,fq6,hr7,hr8,ax5,aq9,fq9,p10,up10]
  refine bF (by kernel_rfl) ?_
  cases hh
  try simp only[eZ,ne_eq,not_false_eq_true,seval,i1,hr2,bp3,ax5,aq6,fq6,hr7,hr8,ax5,aq9,fq9,p10,up10]
 ·obtain⟨x11,hx11,hh⟩:=ag hh
  obtain⟨q12a,q12b,q12c,q12d,q12e⟩:=ZK bp hx11
  simp only[bo]at q12e
  have bp13:pU (4*(2)+1) (4)=some (4*(4)+1):=j3 (by omega)
  try simp only[eZ,ne_eq,not_false_eq_true,seval,i1,hr2,bp3,q12a,q12b,q12c,q12d,q12e,bp13]
  refine bF (by kernel_rfl) ?_
  cases hh
  try simp only[eZ,ne_eq,not_false_eq_true,seval,i1,hr2,bp3,q12a,q12b,q12c,q12d,q12e,bp13]
theorem ml:Y9 Try.prog 72 jr:=Y9.of tok tC mixed Try.func72 (by kernel_rfl) ⟨by kernel_rfl,by kernel_rfl⟩ (fun _=>agv (by kernel_rfl)) (fun pre post q x q' r h=>uE pre post q x.1 x.2 (q',r) h)
def js:=FQ 69 74 5 aF (jE (aI .i64) (fH (dk fj))) (fun (q:az) (x:Int×az)=>dK q x.1 x.2) (fun r:Unit =>.tup [])
def gM:Env:=(Am.oL 72 (0,jr) (Am.ext (Am.oL 69 (0,dZ) (Am.ext (Am.ext aY 43 false lT) 44 false iN)) 70 true jw))
theorem tD:bq Try.prog gM:=(bq.oL ((bq.oL ((bq.none.add qQ false).add jR false) cT.callable cT.calls).add pM true) ml.callable ml.calls)
theorem bs:type_of% (ai @w<|ai @vnp<|ai @vnl<|ai @ki<|ai @eo<|@gM.eq_1):=⟨@w,@vnp,@vnl,@ki,@eo,@gM.eq_1⟩
theorem uF (pre post:List D) (p0:az) (p1:Int) (p2:az) (r:az×(Unit)) (hh:dK p0 p1 p2=some r):sV tab gM FU Try.f42 69 74 5 pre.length (pre++(aF.cells p0++post)) [.int .i64 p1,.agg [.int .i64 p2.aX.aJ.ah,.sl false false p2.aX.aJ.aa.length (ae (eI .i64) p2.aX.aJ.aa),.int .i64 p2.aX.aL.ah,.sl false false p2.aX.aL.aa.length (ae (eI .i64) p2.aX.aL.aa),.sl false false p2.bA.length (ae bp p2.bA)]]=some (.tup [],pre++(aF.cells r.1++post)):=by
 apply wm rfl Try.ntmps42 Try.results42
 rw[dr]
 unfold dK at hh
 have i1:=iT pre post p0 p1
 simp only[bo]at i1
 obtain⟨r2,hr2,hh⟩:=ag hh
 have bp3:pU 0 (2)=some (4*(2)+1):=j3 (by omega)
 try simp only[bs,seval,i1,hr2,bp3]
 apply sp au hh<;>intro _ hh
 ·cases hh
  try simp only[bs,seval,i1,hr2,bp3]
 ·obtain⟨x5,hx5,hh⟩:=ag hh
  have ax5:=bm bp hx5
  simp only[bo]at ax5
  have aq6:=jN bp 1 hx5
  have fq6:=iY bp 1 4 (agv rfl) hx5
  simp only[bo]at aq6 fq6
  have i7:=qy [] [] r2.1.bA r2.2.1 (IntKind.i64.wrap (r2.2.1+1))
  simp only[List.nil_append,agD,List.length_nil,bo]at i7
  obtain⟨r8,hr8,hh⟩:=ag hh
  have bp9:pU (4*(2)+1) (5)=some (4*(5)+1):=j3 (by omega)
  obtain⟨r10,hr10,hh⟩:=ag hh
  try simp only[bs,seval,i1,hr2,bp3,ax5,aq6,fq6,i7,hr8,bp9,hr10]
  refine bF (by kernel_rfl) ?_
  try simp only[bs,seval,i1,hr2,bp3,ax5,aq6,fq6,i7,hr8,bp9,hr10]
  obtain⟨o18,ho18,hh⟩:=ag hh
  refine aB (fun s t H e=>match s with|(s52a,r0_0a,r0_1a,r0_2a,r0_3a,r0_4a)=>∃v8a:Nat,∃vn0a:Nat,t 0=.ptr 0 0 pre.length∧t 8=.ptr 8 v8a 0∧t 50=.sl false false p2.bA.length (ae bp p2.bA)∧t 51=.int .i64 (p2.bA.length:Int)∧t 52=.int .i64 s52a∧H 0=some ⟨0,69,[.nr 74 5 vn0a (pre++([.int .i64 r0_0a,.sl false false r0_1a.length (ae (eI .i64) r0_1a),.int .i64 r0_2a,.sl false false r0_3a.length (ae (eI .i64) r0_3a),.nx (r0_4a).length (ae bp r0_4a)]++post))],false,true,true⟩∧H 8=some ⟨v8a,41,[.int .i64 x5.dW.aJ.ah,.sl false false x5.dW.aJ.aa.length (ae (eI .i64) x5.dW.aJ.aa),.int .i64 x5.dW.aL.ah,.sl false false x5.dW.aL.aa.length (ae (eI .i64) x5.dW.aL.aa)],false,false,false⟩∧vn0a<=4*e) (fun o x t H e=>match o with|(r0_0ax,r0_1ax,r0_2ax,r0_3ax,r0_4ax)=>x=.exit 0∧∃vn0ax:Nat,t 0=.ptr 0 0 pre.length∧H 0=some ⟨0,69,[.nr 74 5 vn0ax (pre++([.int .i64 r0_0ax,.sl false false r0_1ax.length (ae (eI .i64) r0_1ax),.int .i64 r0_2ax,.sl false false r0_3ax.length (ae (eI .i64) r0_3ax),.nx (r0_4ax).length (ae bp r0_4ax)]++post))],false,true,true⟩∧vn0ax<=4*e) ho18 ?_ ?_ ?_
  ·refine⟨4,4*(5)+1,?_,?_,?_,?_,?_,?_,?_,?_⟩
   all_goals (first|rfl|omega|(simp only[bs,seval,i1,hr2,bp3,ax5,aq6,fq6,i7,hr8,bp9,hr10]<;>rfl))
  ·rintro⟨s52a,r0_0a,r0_1a,r0_2a,r0_3a,r0_4a⟩ t H e ⟨v8a,vn0a,Za⟩ c hh
   simp only[eJ]at hh
   try simp only[bs,seval,i1,hr2,bp3,ax5,aq6,fq6,i7,hr8,bp9,hr10,Za]
   apply sp au hh<;>intro _ hh
   ·obtain⟨x20,hx20,hh⟩:=ag hh
    have ax20:=bm bp hx20
    simp only[bo]at ax20
    obtain⟨r21,hr21,hh⟩:=ag hh
    obtain⟨r22,hr22,hh⟩:=ag hh
    have i23:=tJ pre post (az.mk (al.mk (aq.mk r0_0a r0_1a) (aq.mk r0_2a r0_3a)) r0_4a) x20.l5 r22.aJ.ah r22.aJ.aa r22.aL.ah r22.aL.aa
    simp only[bo]at i23
    obtain⟨r24,hr24,hh⟩:=ag hh
    have bp25:pU vn0a (e+1+1)=some (4*(e+1+1)+1):=j3 (by omega)
    try simp only[bs,seval,i1,hr2,bp3,ax5,aq6,fq6,i7,hr8,bp9,hr10,Za,ax20,hr21,hr22,i23,hr24,bp25]
    refine bF (by kernel_rfl) ?_
    cases hh
    try simp only[bs,seval,i1,hr2,bp3,ax5,aq6,fq6,i7,hr8,bp9,hr10,Za,ax20,hr21,hr22,i23,hr24,bp25]
    apply iC
    refine⟨v8a,4*(e+1+1)+1,?_,?_,?_,?_,?_,?_,?_,?_⟩
    all_goals (first|rfl|omega|(simp only[bs,seval,i1,hr2,bp3,ax5,aq6,fq6,i7,hr8,bp9,hr10,Za,ax20,hr21,hr22,i23,hr24,bp25]<;>rfl))
   ·cases hh
    try simp only[bs,seval,i1,hr2,bp3,ax5,aq6,fq6,i7,hr8,bp9,hr10,Za]
    apply jP
    refine⟨rfl,⟨vn0a,?_,?_,?_⟩⟩
    all_goals (first|rfl|omega|(simp only[bs,seval,i1,hr2,bp3,ax5,aq6,fq6,i7,hr8,bp9,hr10,Za]<;>rfl))
  ·rintro x t H e hx
   rcases o18 with⟨r0_0ax,r0_1ax,r0_2ax,r0_3ax,r0_4ax⟩
   dsimp only at hx hh
   obtain⟨rfl,⟨vn0ax,Zax⟩⟩:=hx
   cases hh
   try simp only[bs,seval,i1,hr2,bp3,ax5,aq6,fq6,i7,hr8,bp9,hr10,Zax]
theorem mm:Y9 Try.prog 42 js:=Y9.of tok tD mixed Try.func42 (by kernel_rfl) ⟨by kernel_rfl,by kernel_rfl⟩ (fun _=>agv (by kernel_rfl)) (fun pre post q x q' r h=>uF pre post q x.1 x.2 (q',r) h)
def xd:=fR (jE (dk td) (fH (lM an))) (fun x:de×(List al)=>iA x.1 x.2) (fun r:(List al)×Int =>.clean (.tup [.sl false false r.1.length (ae an r.1),.int .i64 r.2]))
theorem EK (p0_0:Int) (p0_1:(List fa)) (p1:(List al)):xd none [.agg [.int .i64 p0_0,.sl false false p0_1.length (ae ba p0_1)],.sl false false p1.length (ae an p1)]=(iA (de.mk p0_0 p0_1) p1).map fun r:(List al)×Int=>(.clean (.tup [.sl false false r.1.length (ae an r.1),.int .i64 r.2]),none):=aN _ _ _ ((de.mk p0_0 p0_1),p1)
theorem rn {C:List (Bool×az)} {i:Int} {p0:az} (h:P.idx C i=some (false,p0)) (p1:Int):ib 69 74 5 (i.toNat*aW.size) (ae aW C) [.int .i64 p1]=(cY p0 p1).map fun r=>(.tup [],ae aW (C.set i.toNat (false,r.1))):=Tr lZ h (p1)
theorem tI {C:List (Bool×az)} {i:Int} {p0:az} (h:P.idx C i=some (false,p0)) (p1:Int) (p2_0:Int) (p2_1:(List Int)) (p2_2:Int) (p2_3:(List Int)) (p2_4:(List dH)):js 69 74 5 (i.toNat*aW.size) (ae aW C) [.int .i64 p1,.agg [.int .i64 p2_0,.sl false false p2_1.length (ae (eI .i64) p2_1),.int .i64 p2_2,.sl false false p2_3.length (ae (eI .i64) p2_3),.sl false false p2_4.length (ae bp p2_4)]]=(dK p0 p1 (az.mk (al.mk (aq.mk p2_0 p2_1) (aq.mk p2_2 p2_3)) p2_4)).map fun r=>(.tup [],ae aW (C.set i.toNat (false,r.1))):=Tr lZ h (p1,(az.mk (al.mk (aq.mk p2_0 p2_1) (aq.mk p2_2 p2_3)) p2_4))
def sA:Env:=(Am.ext (Am.ext (Am.oL 42 (0,js) (Am.oL 41 (5,ib) (Am.yI 40 kW (Am.ext (Am.ext (Am.ext aY 11 false pX) 14 false qI) 39 false nX)))) 43 false lT) 44 false iN)
theorem MQ:bq Try.prog sA:=(((bq.oL (bq.oL (bq.yI (((bq.none.add yM false).add Ev false).add Aa false) og.callable og.calls) kJ.callable kJ.calls) mm.callable mm.calls).add qQ false).add jR false)
theorem aT:type_of% (ai @w<|ai @vnl<|ai @qu<|ai @wX<|ai @tl<|ai @pO<|ai @ki<|ai @eo<|@sA.eq_1):=⟨@w,@vnl,@qu,@wX,@tl,@pO,@ki,@eo,@sA.eq_1⟩
theorem QT (p0:de) (p1:(List al)) (r:(List al)×Int) (hh:iA p0 p1=some r):a6 .clean tab sA FU Try.f13 none [.agg [.int .i64 p0.aG,.sl false false p0.aw.length (ae ba p0.aw)],.sl false false p1.length (ae an p1)]=some (.clean (.tup [.sl false false r.1.length (ae an r.1),.int .i64 r.2]),none):=by
 apply aD rfl Try.ntmps13 Try.results13
 unfold iA at hh
 obtain⟨r1,hr1,hh⟩:=ag hh
 try simp only[aT,seval,hr1]
 obtain⟨o2,ho2,hh⟩:=ag hh
 refine bP 0 (fun s t H e=>match s with|s14j1=>∃v2j1:Nat,t 1=.sl false false p1.length (ae an p1)∧t 2=.ptr 2 v2j1 0∧t 14=.bool s14j1∧H 2=some ⟨v2j1,24,[.int .i64 p0.aG,.sl false false p0.aw.length (ae ba p0.aw)],false,false,false⟩) (fun s=>s=o2) ?_ ?_
 ·rintro s14j1 t H e ⟨v2j1,Zj1⟩ rfl
  try dsimp only at hh
  try simp only[aT,seval,hr1,Zj1]
  apply sp au hh<;>intro _ hh
  ·cases hh
   try simp only[aT,seval,hr1,Zj1]
  ·obtain⟨r4,hr4,hh⟩:=ag hh
   try simp only[aT,seval,hr1,Zj1,hr4]
   apply sp au hh<;>intro _ hh
   ·cases hh
    try simp only[aT,seval,hr1,Zj1,hr4]
   ·obtain⟨r6,hr6,hh⟩:=ag hh
    have er6:=Hm lZ r6
    try simp only[aT,seval,hr1,Zj1,hr4,hr6,er6]
    obtain⟨o32,ho32,hh⟩:=ag hh
    refine aB (fun s t H e=>match s with|(s35b,l32b)=>∃v2b:Nat,∃v32b:Nat,∃vn32b:Nat,t 2=.ptr 2 v2b 0∧t 6=.buf 32 v32b 5 0 (l32b).length∧t 34=.int .i64 ((r6).length:Int)∧t 35=.int .i64 s35b∧H 2=some ⟨v2b,24,[.int .i64 p0.aG,.sl false false p0.aw.length (ae ba p0.aw)],false,false,false⟩∧H 32=some ⟨v32b,69,[.nr 74 5 vn32b (ae aW l32b)],false,true,true⟩∧vn32b<=4*e) (fun o x t H e=>match o with|l32bx=>x=.exit 1∧∃v2bx:Nat,∃v32bx:Nat,∃vn32bx:Nat,t 2=.ptr 2 v2bx 0∧t 6=.buf 32 v32bx 5 0 (l32bx).length∧H 2=some ⟨v2bx,24,[.int .i64 p0.aG,.sl false false p0.aw.length (ae ba p0.aw)],false,false,false⟩∧H 32=some ⟨v32bx,69,[.nr 74 5 vn32bx (ae aW l32bx)],false,true,true⟩∧vn32bx<=4*e) ho32 ?_ ?_ ?_
    ·refine⟨v2j1,e+1,4*(e+1)+2,?_,?_,?_,?_,?_,?_,?_⟩
     all_goals (first|rfl|omega|(simp only[aT,seval,hr1,Zj1,hr4,hr6,er6]<;>rfl))
    ·rintro⟨s35b,l32b⟩ t H e ⟨v2b,v32b,vn32b,Zb⟩ c hh
     simp only[jX]at hh
     try simp only[aT,seval,hr1,hr4,hr6,er6,Zb]
     apply sp au hh<;>intro _ hh
     ·obtain⟨x34,hx34,hh⟩:=ag hh
      have ax34:=And.intro (pG hx34) (j9 aW hx34)
      simp only[bo]at ax34
      obtain⟨x35,hx35,hh⟩:=ag hh
      have gx35:P.idx l32b s35b=some (false,x35):=hx34.trans (congrArg some (OD hx35))
      have i36:=rn gx35 s35b
      simp only[bo]at i36
      obtain⟨r37,hr37,hh⟩:=ag hh
      have bp38:pU vn32b (e+1+1)=some (4*(e+1+1)+1):=j3 (by omega)
      have fp38:=acD lZ Dl Dn Dm gx35 r37.1
      rw[mR]at fp38
      try simp only[aT,seval,hr1,hr4,hr6,er6,Zb,ax34,i36,hr37,bp38,fp38]
      obtain⟨o48,ho48,hh⟩:=ag hh
      refine aB (fun s t H e=>match s with|(s8d,l32d)=>∃v2d:Nat,∃v32d:Nat,∃vn32d:Nat,t 2=.ptr 2 v2d 0∧t 6=.buf 32 v32d 5 0 (l32d).length∧t 7=.int .i64 s35b∧t 8=.int .i64 s8d∧t 34=.int .i64 ((r6).length:Int)∧t 35=.int .i64 s35b∧H 2=some ⟨v2d,24,[.int .i64 p0.aG,.sl false false p0.aw.length (ae ba p0.aw)],false,false,false⟩∧H 32=some ⟨v32d,69,[.nr 74 5 vn32d (ae aW l32d)],false,true,true⟩∧vn32d<=4*e) (fun o x t H e=>match o with|l32dx=>x=.exit 3∧∃v2dx:Nat,∃v32dx:Nat,∃vn32dx:Nat,t 2=.ptr 2 v2dx 0∧t 6=.buf 32 v32dx 5 0 (l32dx).length∧t 34=.int .i64 ((r6).length:Int)∧t 35=.int .i64 s35b∧H 2=some ⟨v2dx,24,[.int .i64 p0.aG,.sl false false p0.aw.length (ae ba p0.aw)],false,false,false⟩∧H 32=some ⟨v32dx,69,[.nr 74 5 vn32dx (ae aW l32dx)],false,true,true⟩∧vn32dx<=4*e) ho48 ?_ ?_ ?_
      ·refine⟨v2b,v32b,4*(e+1+1)+1,?_,?_,?_,?_,?_,?_,?_,?_,?_⟩
       all_goals (first|rfl|omega|(simp only[aT,seval,hr1,hr4,hr6,er6,Zb,ax34,i36,hr37,bp38,fp38]<;>rfl))
      ·rintro⟨s8d,l32d⟩ t H e ⟨v2d,v32d,vn32d,Zd⟩ c hh
       simp only[lG]at hh
       try simp only[aT,seval,hr1,hr4,hr6,er6,ax34,i36,hr37,bp38,fp38,Zd]
       apply sp au hh<;>intro _ hh
       ·obtain⟨x50,hx50,hh⟩:=ag hh
        have ax50:=And.intro (pG hx50) (j9 aW hx50)
        simp only[bo]at ax50
        obtain⟨x51,hx51,hh⟩:=ag hh
        have ax51:=And.intro (pG hx51) (j9 aW hx51)
        simp only[bo]at ax51
        obtain⟨x52,hx52,hh⟩:=ag hh
        have gx52:P.idx l32d s35b=some (true,x52):=hx51.trans (congrArg some (O5 hx52))
        have aq53:=jN aW 0 gx52
        have fq53:=iY aW 0 5 (agv rfl) gx52
        simp only[bo,Nat.add_zero]at aq53 fq53
        obtain⟨x54,hx54,hh⟩:=ag hh
        have gx54:P.idx l32d s8d=some (false,x54):=hx50.trans (congrArg some (OD hx54))
        have i55:=tI gx54 s35b x52.aX.aJ.ah x52.aX.aJ.aa x52.aX.aL.ah x52.aX.aL.aa x52.bA
        simp only[bo]at i55
        obtain⟨r56,hr56,hh⟩:=ag hh
        have bp57:pU vn32d (e+1)=some (4*(e+1)+1):=j3 (by omega)
        try simp only[aT,seval,hr1,hr4,hr6,er6,ax34,i36,hr37,bp38,fp38,Zd,ax50,ax51,aq53,fq53,i55,hr56,bp57]
        refine bF (by kernel_rfl) ?_
        cases hh
        try simp only[aT,seval,hr1,hr4,hr6,er6,ax34,i36,hr37,bp38,fp38,Zd,ax50,ax51,aq53,fq53,i55,hr56,bp57]
        apply iC
        refine⟨v2d,v32d,4*(e+1)+1,?_,?_,?_,?_,?_,?_,?_,?_,?_⟩
        all_goals (first|rfl|omega|(simp only[aT,seval,hr1,hr4,hr6,er6,ax34,i36,hr37,bp38,fp38,Zd,ax50,ax51,aq53,fq53,i55,hr56,bp57]<;>rfl))
       ·cases hh
        try simp only[aT,seval,hr1,hr4,hr6,er6,ax34,i36,hr37,bp38,fp38,Zd]
        apply jP
        refine⟨rfl,⟨v2d,v32d,vn32d,?_,?_,?_,?_,?_,?_,?_⟩⟩
        all_goals (first|rfl|omega|(simp only[aT,seval,hr1,hr4,hr6,er6,ax34,i36,hr37,bp38,fp38,Zd]<;>rfl))
      ·rintro x t H e hx
       obtain⟨l32dx,rfl⟩:∃z,z=o48:=⟨_,rfl⟩
       dsimp only at hx hh
       obtain⟨rfl,⟨v2dx,v32dx,vn32dx,Zdx⟩⟩:=hx
       cases hh
       try simp only[aT,seval,hr1,hr4,hr6,er6,ax34,i36,hr37,bp38,fp38,Zdx]
       apply iC
       refine⟨v2dx,v32dx,vn32dx,?_,?_,?_,?_,?_,?_,?_⟩
       all_goals (first|rfl|omega|(simp only[aT,seval,hr1,hr4,hr6,er6,ax34,i36,hr37,bp38,fp38,Zdx]<;>rfl))
     ·cases hh
      try simp only[aT,seval,hr1,hr4,hr6,er6,Zb]
      apply jP
      refine⟨rfl,⟨v2b,v32b,vn32b,?_,?_,?_,?_,?_⟩⟩
      all_goals (first|rfl|omega|(simp only[aT,seval,hr1,hr4,hr6,er6,Zb]<;>rfl))
    ·rintro x t H e hx
     obtain⟨l32bx,rfl⟩:∃z,z=o32:=⟨_,rfl⟩
     dsimp only at hx hh
     obtain⟨rfl,⟨v2bx,v32bx,vn32bx,Zbx⟩⟩:=hx
     obtain⟨x58,hx58,hh⟩:=ag hh
     obtain⟨q59a,q59b,q59c,q59d,q59e⟩:=mk_one an hx58
     simp only[bo]at q59d
     try simp only[aT,seval,hr1,hr4,hr6,er6,Zbx,q59a,q59b,q59c,q59d,q59e]
     obtain⟨o78,ho78,hh⟩:=ag hh
     refine aB (fun s t H e=>match s with|(s10e,l9e)=>∃v9e:Nat,∃v32e:Nat,∃vn32e:Nat,t 6=.buf 32 v32e 5 0 (l32bx).length∧t 9=.buf 9 v9e 4 0 (l9e).length∧t 10=.int .i64 s10e∧H 9=some ⟨v9e,41,ae an l9e,false,true,false⟩∧H 32=some ⟨v32e,69,[.nr 74 5 vn32e (ae aW l32bx)],false,true,true⟩∧vn32e<=4*e) (fun o x t H e=>match o with|l9ex=>x=.exit 5∧∃v9ex:Nat,t 9=.buf 9 v9ex 4 0 (l9ex).length∧H 9=some ⟨v9ex,41,ae an l9ex,false,true,false⟩) ho78 ?_ ?_ ?_
     ·refine⟨e,v32bx,vn32bx,?_,?_,?_,?_,?_,?_⟩
      all_goals (first|rfl|omega|(simp only[aT,seval,hr1,hr4,hr6,er6,Zbx,q59a,q59b,q59c,q59d,q59e]<;>rfl))
     ·rintro⟨s10e,l9e⟩ t H e ⟨v9e,v32e,vn32e,Ze⟩ c hh
      simp only[jY]at hh
      try simp only[aT,seval,hr1,hr4,hr6,er6,q59a,q59b,q59c,q59d,q59e,Ze]
      apply sp au hh<;>intro _ hh
      ·obtain⟨x80,hx80,hh⟩:=ag hh
       have ax80:=And.intro (pG hx80) (j9 aW hx80)
       simp only[bo]at ax80
       obtain⟨x81,hx81,hh⟩:=ag hh
       have gx81:P.idx l32bx s10e=some (true,x81):=hx80.trans (congrArg some (O5 hx81))
       have aq82:=jN aW 0 gx81
       have fq82:=iY aW 0 4 (agv rfl) gx81
       simp only[bo,Nat.add_zero]at aq82 fq82
       obtain⟨r83,hr83,hh⟩:=ag hh
       obtain⟨r84,hr84,hh⟩:=ag hh
       try simp only[aT,seval,hr1,hr4,hr6,er6,q59a,q59b,q59c,q59d,q59e,Ze,ax80,aq82,fq82,hr83,hr84]
       refine bF (by kernel_rfl) ?_
       have ax80:=And.intro (pG hx80) (j9 aW hx80)
       simp only[bo]at ax80
       have aq85:=jN aW 4 gx81
       have fq85:=iY aW 4 1 (agv rfl) gx81
       simp only[bo,Nat.add_zero]at aq85 fq85
       try simp only[aT,seval,hr1,hr4,hr6,er6,q59a,q59b,q59c,q59d,q59e,Ze,ax80,aq82,fq82,hr83,hr84,ax80,aq85,fq85]
       obtain⟨o90,ho90,hh⟩:=ag hh
       refine aB (fun s t H e=>match s with|(s85g,r11_0g,r11_1g,r11_2g,r11_3g)=>∃v9g:Nat,∃v11g:Nat,∃v32g:Nat,∃vn32g:Nat,t 6=.buf 32 v32g 5 0 (l32bx).length∧t 9=.buf 9 v9g 4 0 (l9e).length∧t 10=.int .i64 s10e∧t 11=.ptr 11 v11g 0∧t 83=.sl false false x81.bA.length (ae bp x81.bA)∧t 84=.int .i64 (x81.bA.length:Int)∧t 85=.int .i64 s85g∧H 9=some ⟨v9g,41,ae an l9e,false,true,false⟩∧H 11=some ⟨v11g,41,[.int .i64 r11_0g,.sl false false r11_1g.length (ae (eI .i64) r11_1g),.int .i64 r11_2g,.sl false false r11_3g.length (ae (eI .i64) r11_3g)],false,false,false⟩∧H 32=some ⟨v32g,69,[.nr 74 5 vn32g (ae aW l32bx)],false,true,true⟩∧vn32g<=4*e) (fun o x t H e=>match o with|(r11_0gx,r11_1gx,r11_2gx,r11_3gx)=>x=.exit 7∧∃v9gx:Nat,∃v11gx:Nat,∃v32gx:Nat,∃vn32gx:Nat,t 6=.buf 32 v32gx 5 0 (l32bx).length∧t 9=.buf 9 v9gx 4 0 (l9e).length∧t 10=.int .i64 s10e∧t 11=.ptr 11 v11gx 0∧H 9=some ⟨v9gx,41,ae an l9e,false,true,false⟩∧H 11=some ⟨v11gx,41,[.int .i64 r11_0gx,.sl false false r11_1gx.length (ae (eI .i64) r11_1gx),.int .i64 r11_2gx,.sl false false r11_3gx.length (ae (eI .i64) r11_3gx)],false,false,false⟩∧H 32=some ⟨v32gx,69,[.nr 74 5 vn32gx (ae aW l32bx)],false,true,true⟩∧vn32gx<=4*e) ho90 ?_ ?_ ?_
       ·refine⟨v9e,e+1,v32e,vn32e,?_,?_,?_,?_,?_,?_,?_,?_,?_,?_,?_⟩
        all_goals (first|rfl|omega|(simp only[aT,seval,hr1,hr4,hr6,er6,q59a,q59b,q59c,q59d,q59e,Ze,ax80,aq82,fq82,hr83,hr84,ax80,aq85,fq85]<;>rfl))
       ·rintro⟨s85g,r11_0g,r11_1g,r11_2g,r11_3g⟩ t H e ⟨v9g,v11g,v32g,vn32g,Zg⟩ c hh
        simp only[nU]at hh
        try simp only[aT,seval,hr1,hr4,hr6,er6,q59a,q59b,q59c,q59d,q59e,ax80,aq82,fq82,hr83,hr84,ax80,aq85,fq85,Zg]
        apply sp au hh<;>intro _ hh
        ·obtain⟨x92,hx92,hh⟩:=ag hh
         have ax92:=bm bp hx92
         simp only[bo]at ax92
         obtain⟨x93,hx93,hh⟩:=ag hh
         have ax93:=bm an hx93
         simp only[bo]at ax93
         obtain⟨r94,hr94,hh⟩:=ag hh
         try simp only[aT,seval,hr1,hr4,hr6,er6,q59a,q59b,q59c,q59d,q59e,ax80,aq82,fq82,hr83,hr84,ax80,aq85,fq85,Zg,ax92,ax93,hr94]
         refine bF (by kernel_rfl) ?_
         cases hh
         try simp only[aT,seval,hr1,hr4,hr6,er6,q59a,q59b,q59c,q59d,q59e,ax80,aq82,fq82,hr83,hr84,ax80,aq85,fq85,Zg,ax92,ax93,hr94]
         apply iC
         refine⟨v9g,v11g,v32g,vn32g,?_,?_,?_,?_,?_,?_,?_,?_,?_,?_,?_⟩
         all_goals (first|rfl|omega|(simp only[aT,seval,hr1,hr4,hr6,er6,q59a,q59b,q59c,q59d,q59e,ax80,aq82,fq82,hr83,hr84,ax80,aq85,fq85,Zg,ax92,ax93,hr94]<;>rfl))
        ·cases hh
         try simp only[aT,seval,hr1,hr4,hr6,er6,q59a,q59b,q59c,q59d,q59e,ax80,aq82,fq82,hr83,hr84,ax80,aq85,fq85,Zg]
         apply jP
         refine⟨rfl,⟨v9g,v11g,v32g,vn32g,?_,?_,?_,?_,?_,?_,?_,?_⟩⟩
         all_goals (first|rfl|omega|(simp only[aT,seval,hr1,hr4,hr6,er6,q59a,q59b,q59c,q59d,q59e,ax80,aq82,fq82,hr83,hr84,ax80,aq85,fq85,Zg]<;>rfl))
       ·rintro x t H e hx
        rcases o90 with⟨r11_0gx,r11_1gx,r11_2gx,r11_3gx⟩
        dsimp only at hx hh
        obtain⟨rfl,⟨v9gx,v11gx,v32gx,vn32gx,Zgx⟩⟩:=hx
        obtain⟨x95,hx95,hh⟩:=ag hh
        have ax95:=bm an hx95
        simp only[bo]at ax95
        have p96:=dF an (x':=(al.mk (aq.mk r11_0gx r11_1gx) (aq.mk r11_2gx r11_3gx))) (fo:=0) (cs:=[.int .i64 r11_0gx,.sl false false r11_1gx.length (ae (eI .i64) r11_1gx),.int .i64 r11_2gx,.sl false false r11_3gx.length (ae (eI .i64) r11_3gx)]) hx95 rfl (agv rfl)
        simp only[bo,Nat.add_zero]at p96
        have up96:=p96
        simp only[putCells,List.length_cons,List.length_nil,afB,Nat.reduceAdd]at up96
        cases hh
        try simp only[aT,seval,hr1,hr4,hr6,er6,q59a,q59b,q59c,q59d,q59e,ax80,aq82,fq82,hr83,hr84,ax80,aq85,fq85,Zgx,ax95,p96,up96]
        apply iC
        refine⟨v9gx,v32gx,vn32gx,?_,?_,?_,?_,?_,?_⟩
        all_goals (first|rfl|omega|(simp only[aT,seval,hr1,hr4,hr6,er6,q59a,q59b,q59c,q59d,q59e,ax80,aq82,fq82,hr83,hr84,ax80,aq85,fq85,Zgx,ax95,p96,up96]<;>rfl))
      ·cases hh
       try simp only[aT,seval,hr1,hr4,hr6,er6,q59a,q59b,q59c,q59d,q59e,Ze]
       apply jP
       refine⟨rfl,⟨v9e,?_,?_⟩⟩
       all_goals first|rfl|(simp only[aT,seval,hr1,hr4,hr6,er6,q59a,q59b,q59c,q59d,q59e,Ze]<;>rfl)
     ·rintro x t H e hx
      obtain⟨l9ex,rfl⟩:∃z,z=o78:=⟨_,rfl⟩
      dsimp only at hx hh
      obtain⟨rfl,⟨v9ex,Zex⟩⟩:=hx
      cases hh
      try simp only[aT,seval,hr1,hr4,hr6,er6,q59a,q59b,q59c,q59d,q59e,Zex]
 ·clear hh
  have hh:=ho2
  try simp only[aT,seval,hr1]
  apply sp bc hh<;>intro _ hh
  ·cases hh
   try simp only[aT,seval,hr1]
   rw[av]
   refine⟨_,rfl,?_⟩
   refine⟨0,?_,?_,?_,?_⟩
   all_goals first|rfl|(simp only[aT,seval,hr1]<;>rfl)
  ·obtain⟨r98,hr98,hh⟩:=ag hh
   cases hh
   try simp only[aT,seval,hr1,hr98]
   rw[av]
   refine⟨_,rfl,?_⟩
   refine⟨0,?_,?_,?_,?_⟩
   all_goals first|rfl|(simp only[aT,seval,hr1,hr98]<;>rfl)
theorem Oz:bT Try.prog 13 xd:=bT.of (mode := .clean) tok MQ mixed Try.func13 (by kernel_rfl) ⟨by kernel_rfl,by kernel_rfl⟩ (fun _=>agv (by kernel_rfl)) (fun x r h=>QT x.1 x.2 r h)
def qJ:=fR (jE (dk fb) (fH (dk fb))) (fun x:aq×aq=>iL x.1 x.2) (fun r:Bool =>.clean (.bool r))
theorem wY (p0_0:Int) (p0_1:(List Int)) (p1_0:Int) (p1_1:(List Int)):qJ none [.agg [.int .i64 p0_0,.sl false false p0_1.length (ae (eI .i64) p0_1)],.agg [.int .i64 p1_0,.sl false false p1_1.length (ae (eI .i64) p1_1)]]=(iL (aq.mk p0_0 p0_1) (aq.mk p1_0 p1_1)).map fun r:Bool=>(.clean (.bool r),none):=aN _ _ _ ((aq.mk p0_0 p0_1),(aq.mk p1_0 p1_1))
theorem FP (p0:aq) (p1:aq) (r:Bool) (hh:iL p0 p1=some r):a6 .clean tab aY FU Try.f53 none [.agg [.int .i64 p0.ah,.sl false false p0.aa.length (ae (eI .i64) p0.aa)],.agg [.int .i64 p1.ah,.sl false false p1.aa.length (ae (eI .i64) p1.aa)]]=some (.clean (.bool r),none):=by
 apply aD rfl Try.ntmps53 Try.results53
 unfold iL at hh
 try simp only[w,seval]
 obtain⟨o1,ho1,hh⟩:=ag hh
 refine bP 0 (fun s t H e=>match s with|s19j1=>∃v2j1:Nat,∃v3j1:Nat,t 2=.ptr 2 v2j1 0∧t 3=.ptr 3 v3j1 0∧t 19=.bool s19j1∧H 2=some ⟨v2j1,39,[.int .i64 p0.ah,.sl false false p0.aa.length (ae (eI .i64) p0.aa)],false,false,false⟩∧H 3=some ⟨v3j1,39,[.int .i64 p1.ah,.sl false false p1.aa.length (ae (eI .i64) p1.aa)],false,false,false⟩) (fun s=>s=o1) ?_ ?_
 ·rintro s19j1 t H e ⟨v2j1,v3j1,Zj1⟩ rfl
  try dsimp only at hh
  try simp only[w,seval,Zj1]
  apply sp au hh<;>intro _ hh
  ·cases hh
   try simp only[w,seval,Zj1]
  ·try simp only[w,seval,Zj1]
   obtain⟨o7,ho7,hh⟩:=ag hh
   refine aB (fun s t H e=>match s with|s5b=>∃v2b:Nat,∃v3b:Nat,t 2=.ptr 2 v2b 0∧t 3=.ptr 3 v3b 0∧t 5=.int .i64 s5b∧H 2=some ⟨v2b,39,[.int .i64 p0.ah,.sl false false p0.aa.length (ae (eI .i64) p0.aa)],false,false,false⟩∧H 3=some ⟨v3b,39,[.int .i64 p1.ah,.sl false false p1.aa.length (ae (eI .i64) p1.aa)],false,false,false⟩) (fun o x t H e=>match o with|(.inl _)=>x=.exit 0|(.inr r)=>x=.ret∧iP .clean tab none [.tmp 4] ⟨t,EH H,e⟩=some (.clean (.bool r),none)) ho7 ?_ ?_ ?_
   ·refine⟨v2j1,v3j1,?_,?_,?_,?_,?_⟩
    all_goals first|rfl|(simp only[w,seval,Zj1]<;>rfl)
   ·rintro s5b t H e ⟨v2b,v3b,Zb⟩ c hh
    simp only[my]at hh
    try simp only[w,seval,Zb]
    apply sp au hh<;>intro _ hh
    ·obtain⟨x9,hx9,hh⟩:=ag hh
     have ax9:=bm (eI .i64) hx9
     simp only[bo]at ax9
     obtain⟨x10,hx10,hh⟩:=ag hh
     have ax10:=bm (eI .i64) hx10
     simp only[bo]at ax10
     try simp only[w,seval,Zb,ax9,ax10]
     refine bF (by kernel_rfl) ?_
     try simp only[w,seval,Zb,ax9,ax10]
     apply sp au hh<;>intro _ hh
     ·cases hh
      try simp only[w,seval,Zb,ax9,ax10]
      refine BI ⟨rfl,?_⟩
      try simp only[w,seval,Zb,ax9,ax10]
     ·cases hh
      try simp only[w,seval,Zb,ax9,ax10]
      apply iC
      refine⟨v2b,v3b,?_,?_,?_,?_,?_⟩
      all_goals first|rfl|(simp only[w,seval,Zb,ax9,ax10]<;>rfl)
    ·cases hh
     try simp only[w,seval,Zb]
     apply jP
     exact rfl
   ·rintro x t H e hx
    rcases o7 with _|rb
    ·dsimp only at hx hh
     subst hx
     cases hh
     try simp only[w,seval]
    ·dsimp only at hx hh
     obtain⟨rfl,hE⟩:=hx
     cases hh
     try simp only[bn,bg,bB,dn,dm,ct,cu]
     exact hE
 ·clear hh
  have hh:=ho1
  try simp only[w,seval]
  apply sp bc hh<;>intro _ hh
  ·cases hh
   try simp only[w,seval]
   rw[av]
   refine⟨_,rfl,?_⟩
   refine⟨0,0,?_,?_,?_,?_,?_⟩
   all_goals first|rfl|(simp only[w,seval]<;>rfl)
  ·cases hh
   try simp only[w,seval]
   rw[av]
   refine⟨_,rfl,?_⟩
   refine⟨0,0,?_,?_,?_,?_,?_⟩
   all_goals first|rfl|(simp only[w,seval]<;>rfl)
theorem Ey:bT Try.prog 53 qJ:=bT.of (mode := .clean) tok bq.none mixed Try.func53 (by kernel_rfl) ⟨by kernel_rfl,by kernel_rfl⟩ (fun _=>agv (by kernel_rfl)) (fun x r h=>FP x.1 x.2 r h)
def rK:=fR (jE (dk an) (fH (dk an))) (fun x:al×al=>mw x.1 x.2) (fun r:Bool =>.clean (.bool r))
theorem sM (p0_0:Int) (p0_1:(List Int)) (p0_2:Int) (p0_3:(List Int)) (p1_0:Int) (p1_1:(List Int)) (p1_2:Int) (p1_3:(List Int)):rK none [.agg [.int .i64 p0_0,.sl false false p0_1.length (ae (eI .i64) p0_1),.int .i64 p0_2,.sl false false p0_3.length (ae (eI .i64) p0_3)],.agg [.int .i64 p1_0,.sl false false p1_1.length (ae (eI .i64) p1_1),.int .i64 p1_2,.sl false false p1_3.length (ae (eI .i64) p1_3)]]=(mw (al.mk (aq.mk p0_0 p0_1) (aq.mk p0_2 p0_3)) (al.mk (aq.mk p1_0 p1_1) (aq.mk p1_2 p1_3))).map fun r:Bool=>(.clean (.bool r),none):=aN _ _ _ ((al.mk (aq.mk p0_0 p0_1) (aq.mk p0_2 p0_3)),(al.mk (aq.mk p1_0 p1_1) (aq.mk p1_2 p1_3)))
def sw:Env:=(Am.ext aY 53 false qJ)
theorem MP:bq Try.prog sw:=(bq.none.add Ey false)
theorem xK:type_of% (ai @w<|ai @wY<|@sw.eq_1):=⟨@w,@wY,@sw.eq_1⟩
theorem QS (p0:al) (p1:al) (r:Bool) (hh:mw p0 p1=some r):a6 .clean tab sw FU Try.f23 none [.agg [.int .i64 p0.aJ.ah,.sl false false p0.aJ.aa.length (ae (eI .i64) p0.aJ.aa),.int .i64 p0.aL.ah,.sl false false p0.aL.aa.length (ae (eI .i64) p0.aL.aa)],.agg [.int .i64 p1.aJ.ah,.sl false false p1.aJ.aa.length (ae (eI .i64) p1.aJ.aa),.int .i64 p1.aL.ah,.sl false false p1.aL.aa.length (ae (eI .i64) p1.aL.aa)]]=some (.clean (.bool r),none):=by
 apply aD rfl Try.ntmps23 Try.results23
 unfold mw at hh
 obtain⟨r1,hr1,hh⟩:=ag hh
 try simp only[xK,seval,hr1]
 apply sp dj hh<;>intro _ hh
 ·obtain⟨r3,hr3,hh⟩:=ag hh
  cases hh
  try simp only[xK,seval,hr1,hr3]
 ·cases hh
  try simp only[xK,seval,hr1]
theorem Ba:bT Try.prog 23 rK:=bT.of (mode := .clean) tok MP mixed Try.func23 (by kernel_rfl) ⟨by kernel_rfl,by kernel_rfl⟩ (fun _=>agv (by kernel_rfl)) (fun x r h=>QS x.1 x.2 r h)
def qG:=fR (jE (dk fb) (fH (dk fb))) (fun x:aq×aq=>nD x.1 x.2) (fun r:Int =>.clean (.int .i64 r))
theorem wV (p0_0:Int) (p0_1:(List Int)) (p1_0:Int) (p1_1:(List Int)):qG none [.agg [.int .i64 p0_0,.sl false false p0_1.length (ae (eI .i64) p0_1)],.agg [.int .i64 p1_0,.sl false false p1_1.length (ae (eI .i64) p1_1)]]=(nD (aq.mk p0_0 p0_1) (aq.mk p1_0 p1_1)).map fun r:Int=>(.clean (.int .i64 r),none):=aN _ _ _ ((aq.mk p0_0 p0_1),(aq.mk p1_0 p1_1))
def nk:Env:=(Am.ext (Am.ext (Am.ext aY 50 false eV) 66 false jg) 78 false kD)
theorem DH:bq Try.prog nk:=(((bq.none.add fG false).add mo false).add pL false)
theorem da:type_of% (ai @w<|ai @ch<|ai @fM<|ai @jn<|@nk.eq_1):=⟨@w,@ch,@fM,@jn,@nk.eq_1⟩
theorem FJ (p0:aq) (p1:aq) (r:Int) (hh:nD p0 p1=some r):a6 .clean tab nk FU Try.f54 none [.agg [.int .i64 p0.ah,.sl false false p0.aa.length (ae (eI .i64) p0.aa)],.agg [.int .i64 p1.ah,.sl false false p1.aa.length (ae (eI .i64) p1.aa)]]=some (.clean (.int .i64 r),none):=by
 apply aD rfl Try.ntmps54 Try.results54
 unfold nD at hh
 obtain⟨r1,hr1,hh⟩:=ag hh
 try simp only[da,seval,hr1]
 obtain⟨o2,ho2,hh⟩:=ag hh
 refine bP 0 (fun s t H e=>match s with|s12j1=>∃v2j1:Nat,∃v3j1:Nat,t 2=.ptr 2 v2j1 0∧t 3=.ptr 3 v3j1 0∧t 12=.bool s12j1∧H 2=some ⟨v2j1,39,[.int .i64 p0.ah,.sl false false p0.aa.length (ae (eI .i64) p0.aa)],false,false,false⟩∧H 3=some ⟨v3j1,39,[.int .i64 p1.ah,.sl false false p1.aa.length (ae (eI .i64) p1.aa)],false,false,false⟩) (fun s=>s=o2) ?_ ?_
 ·rintro s12j1 t H e ⟨v2j1,v3j1,Zj1⟩ rfl
  try dsimp only at hh
  try simp only[da,seval,hr1,Zj1]
  apply sp au hh<;>intro _ hh
  ·cases hh
   try simp only[da,seval,hr1,Zj1]
  ·try simp only[da,seval,hr1,Zj1]
   apply sp au hh<;>intro _ hh
   ·obtain⟨r5,hr5,hh⟩:=ag hh
    cases hh
    try simp only[da,seval,hr1,Zj1,hr5]
   ·obtain⟨r6,hr6,hh⟩:=ag hh
    try simp only[da,seval,hr1,Zj1,hr6]
    refine bF (by kernel_rfl) ?_
    cases hh
    try simp only[da,seval,hr1,Zj1,hr6]
 ·clear hh
  have hh:=ho2
  try simp only[da,seval,hr1]
  apply sp bc hh<;>intro _ hh
  ·cases hh
   try simp only[da,seval,hr1]
   rw[av]
   refine⟨_,rfl,?_⟩
   refine⟨0,0,?_,?_,?_,?_,?_⟩
   all_goals first|rfl|(simp only[da,seval,hr1]<;>rfl)
  ·obtain⟨r8,hr8,hh⟩:=ag hh
   cases hh
   try simp only[da,seval,hr1,hr8]
   rw[av]
   refine⟨_,rfl,?_⟩
   refine⟨0,0,?_,?_,?_,?_,?_⟩
   all_goals first|rfl|(simp only[da,seval,hr1,hr8]<;>rfl)
theorem Em:bT Try.prog 54 qG:=bT.of (mode := .clean) tok DH mixed Try.func54 (by kernel_rfl) ⟨by kernel_rfl,by kernel_rfl⟩ (fun _=>agv (by kernel_rfl)) (fun x r h=>FJ x.1 x.2 r h)
def pb:=fR (jE (dk an) (fH (dk an))) (fun x:al×al=>j6 x.1 x.2) (fun r:Int =>.clean (.int .i64 r))
theorem uO (p0_0:Int) (p0_1:(List Int)) (p0_2:Int) (p0_3:(List Int)) (p1_0:Int) (p1_1:(List Int)) (p1_2:Int) (p1_3:(List Int)):pb none [.agg [.int .i64 p0_0,.sl false false p0_1.length (ae (eI .i64) p0_1),.int .i64 p0_2,.sl false false p0_3.length (ae (eI .i64) p0_3)],.agg [.int .i64 p1_0,.sl false false p1_1.length (ae (eI .i64) p1_1),.int .i64 p1_2,.sl false false p1_3.length (ae (eI .i64) p1_3)]]=(j6 (al.mk (aq.mk p0_0 p0_1) (aq.mk p0_2 p0_3)) (al.mk (aq.mk p1_0 p1_1) (aq.mk p1_2 p1_3))).map fun r:Int=>(.clean (.int .i64 r),none):=aN _ _ _ ((al.mk (aq.mk p0_0 p0_1) (aq.mk p0_2 p0_3)),(al.mk (aq.mk p1_0 p1_1) (aq.mk p1_2 p1_3)))
def mc:Env:=(Am.ext (Am.ext (Am.ext aY 22 false ec) 48 false j1) 54 false qG)
theorem BG:bq Try.prog mc:=(((bq.none.add eS false).add ny false).add Em false)
theorem dD:type_of% (ai @w<|ai @bV<|ai @gP<|ai @wV<|@mc.eq_1):=⟨@w,@bV,@gP,@wV,@mc.eq_1⟩
theorem D6 (p0:al) (p1:al) (r:Int) (hh:j6 p0 p1=some r):a6 .clean tab mc FU Try.f24 none [.agg [.int .i64 p0.aJ.ah,.sl false false p0.aJ.aa.length (ae (eI .i64) p0.aJ.aa),.int .i64 p0.aL.ah,.sl false false p0.aL.aa.length (ae (eI .i64) p0.aL.aa)],.agg [.int .i64 p1.aJ.ah,.sl false false p1.aJ.aa.length (ae (eI .i64) p1.aJ.aa),.int .i64 p1.aL.ah,.sl false false p1.aL.aa.length (ae (eI .i64) p1.aL.aa)]]=some (.clean (.int .i64 r),none):=by
 apply aD rfl Try.ntmps24 Try.results24
 unfold j6 at hh
 obtain⟨r1,hr1,hh⟩:=ag hh
 try simp only[dD,seval,hr1]
 obtain⟨o2,ho2,hh⟩:=ag hh
 refine bP 0 (fun s t H e=>match s with|s12j1=>∃v2j1:Nat,∃v3j1:Nat,t 2=.ptr 2 v2j1 0∧t 3=.ptr 3 v3j1 0∧t 12=.bool s12j1∧H 2=some ⟨v2j1,41,[.int .i64 p0.aJ.ah,.sl false false p0.aJ.aa.length (ae (eI .i64) p0.aJ.aa),.int .i64 p0.aL.ah,.sl false false p0.aL.aa.length (ae (eI .i64) p0.aL.aa)],false,false,false⟩∧H 3=some ⟨v3j1,41,[.int .i64 p1.aJ.ah,.sl false false p1.aJ.aa.length (ae (eI .i64) p1.aJ.aa),.int .i64 p1.aL.ah,.sl false false p1.aL.aa.length (ae (eI .i64) p1.aL.aa)],false,false,false⟩) (fun s=>s=o2) ?_ ?_
 ·rintro s12j1 t H e ⟨v2j1,v3j1,Zj1⟩ rfl
  try dsimp only at hh
  try simp only[dD,seval,hr1,Zj1]
  apply sp au hh<;>intro _ hh
  ·cases hh
   try simp only[dD,seval,hr1,Zj1]
  ·obtain⟨r4,hr4,hh⟩:=ag hh
   obtain⟨r5,hr5,hh⟩:=ag hh
   obtain⟨r6,hr6,hh⟩:=ag hh
   try simp only[dD,seval,hr1,Zj1,hr4,hr5,hr6]
   refine bF (by kernel_rfl) ?_
   cases hh
   try simp only[dD,seval,hr1,Zj1,hr4,hr5,hr6]
 ·clear hh
  have hh:=ho2
  try simp only[dD,seval,hr1]
  apply sp bc hh<;>intro _ hh
  ·cases hh
   try simp only[dD,seval,hr1]
   rw[av]
   refine⟨_,rfl,?_⟩
   refine⟨0,0,?_,?_,?_,?_,?_⟩
   all_goals first|rfl|(simp only[dD,seval,hr1]<;>rfl)
  ·obtain⟨r8,hr8,hh⟩:=ag hh
   cases hh
   try simp only[dD,seval,hr1,hr8]
   rw[av]
   refine⟨_,rfl,?_⟩
   refine⟨0,0,?_,?_,?_,?_,?_⟩
   all_goals first|rfl|(simp only[dD,seval,hr1,hr8]<;>rfl)
theorem BO:bT Try.prog 24 pb:=bT.of (mode := .clean) tok BG mixed Try.func24 (by kernel_rfl) ⟨by kernel_rfl,by kernel_rfl⟩ (fun _=>agv (by kernel_rfl)) (fun x r h=>D6 x.1 x.2 r h)
def vf:=fR (jE (dk an) (fH (aI .i64))) (fun x:al×Int=>qA x.1 x.2) (fun r:Bool =>.clean (.bool r))
theorem v5 (p0_0:Int) (p0_1:(List Int)) (p0_2:Int) (p0_3:(List Int)) (p1:Int):vf none [.agg [.int .i64 p0_0,.sl false false p0_1.length (ae (eI .i64) p0_1),.int .i64 p0_2,.sl false false p0_3.length (ae (eI .i64) p0_3)],.int .i64 p1]=(qA (al.mk (aq.mk p0_0 p0_1) (aq.mk p0_2 p0_3)) p1).map fun r:Bool=>(.clean (.bool r),none):=aN _ _ _ ((al.mk (aq.mk p0_0 p0_1) (aq.mk p0_2 p0_3)),p1)
theorem Vf (p0:al) (p1:Int) (r:Bool) (hh:qA p0 p1=some r):a6 .clean tab aY FU Try.f21 none [.agg [.int .i64 p0.aJ.ah,.sl false false p0.aJ.aa.length (ae (eI .i64) p0.aJ.aa),.int .i64 p0.aL.ah,.sl false false p0.aL.aa.length (ae (eI .i64) p0.aL.aa)],.int .i64 p1]=some (.clean (.bool r),none):=by
 apply aD rfl Try.ntmps21 Try.results21
 unfold qA at hh
 try simp only[w,seval]
 apply sp dj hh<;>intro _ hh
 ·cases hh
  try simp only[w,seval]
 ·cases hh
  try simp only[w,seval]
theorem Ew:bT Try.prog 21 vf:=bT.of (mode := .clean) tok bq.none mixed Try.func21 (by kernel_rfl) ⟨by kernel_rfl,by kernel_rfl⟩ (fun _=>agv (by kernel_rfl)) (fun x r h=>Vf x.1 x.2 r h)
def rL:=fR (fH (dk td)) (fun x:de=>ll x) (fun r:Bool =>.clean (.bool r))
theorem yU (p0_0:Int) (p0_1:(List fa)):rL none [.agg [.int .i64 p0_0,.sl false false p0_1.length (ae ba p0_1)]]=(ll (de.mk p0_0 p0_1)).map fun r:Bool=>(.clean (.bool r),none):=aN _ _ _ ((de.mk p0_0 p0_1))
def oI:Env:=(Am.ext aY 21 false vf)
theorem FH:bq Try.prog oI:=(bq.none.add Ew false)
theorem bJ:type_of% (ai @w<|ai @v5<|@oI.eq_1):=⟨@w,@v5,@oI.eq_1⟩
end Go.Proofs.Ytchndpjlijbplaa.Am
