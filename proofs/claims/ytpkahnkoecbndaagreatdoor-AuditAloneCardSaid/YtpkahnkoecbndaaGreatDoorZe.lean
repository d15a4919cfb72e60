/- Part of a proof, made small by a program (wip/mini.py). -/
import Derived.Test.YtpkahnkoecbndaaGreatDoorZd
namespace Go.Proofs.YtpkahnkoecbndaaGreatDoor.Am
open Go.RowKit Go.Proofs.YtpkahnkoecbndaaGreatDoor.P
set_option maxRecDepth 100000
set_option maxHeartbeats 4000000
set_option linter.unusedSimpArgs false
set_option linter.unusedVariables false
theorem JG (p0:aw) (r:Bool) (hh:eh p0=some r):aX .clean tab aB FU Tryz.f97 none [.agg [.int .i64 p0.ag,.sl false false p0.aa.length (ab (eI .i64) p0.aa)]]=some (.clean (.bool r),none):=by
 refine ay rfl Tryz.ntmps97 Tryz.results97 ?_
 unfold eh at hh
 try simp only [w,seval,-Int.reduceToNat]
 obtain ⟨o5,ho5,hh⟩:=ae hh
 refine aD (fun s t H e=>match s with | s12a=>∃ v1a:Nat,t 1 = .ptr 1 v1a 0∧t 3 = .int .i64 (p0.aa.length:Int)∧t 10 = .sl false false p0.aa.length (ab (eI .i64) p0.aa)∧t 11 = .int .i64 (p0.aa.length:Int)∧t 12 = .int .i64 s12a∧H 1=some ⟨v1a,49,[.int .i64 p0.ag,.sl false false p0.aa.length (ab (eI .i64) p0.aa)],false,false,false⟩) (fun o x t H e=>match o with | (.inl _)=>x = .exit 0∧∃ v1ax:Nat,t 1 = .ptr 1 v1ax 0∧t 3 = .int .i64 (p0.aa.length:Int)∧H 1=some ⟨v1ax,49,[.int .i64 p0.ag,.sl false false p0.aa.length (ab (eI .i64) p0.aa)],false,false,false⟩ | (.inr r)=>x = .ret∧gG .clean tab none [.tmp 2] ⟨t,H,e⟩=some (.clean (.bool r),none)) ho5 ?_ ?_ ?_
 ·
  refine ⟨0,?_,?_,?_,?_,?_,?_⟩
  all_goals (first | rfl | (simp only [w,seval,-Int.reduceToNat] <;> rfl))
 ·rintro s12a t H e ⟨v1a,t1a,t3a,t10a,t11a,t12a,H1a⟩ c hh
  simp only [mB] at hh
  try simp only [w,seval,-Int.reduceToNat,t1a,t3a,t10a,t11a,t12a,H1a]
  refine ai (fun hb6 => ?_) (fun hb6 => ?_)
  ·replace hh:=ak hb6 hh
   obtain ⟨x7,hx7,hh⟩:=ae hh
   have bx7:=aJ hx7
   have ax7:=aC (eI .i64) hx7
   have fx7:=aA (eI .i64) hx7
   simp only [cl] at ax7 fx7
   skip
   try simp only [w,seval,-Int.reduceToNat,t1a,t3a,t10a,t11a,t12a,H1a,bx7,ax7,fx7]
   refine bj (fun hb8 => ?_) (fun hb8 => ?_)
   ·replace hh:=ak hb8 hh
    cases hh
    try simp only [w,seval,-Int.reduceToNat,t1a,t3a,t10a,t11a,t12a,H1a,bx7,ax7,fx7]
    rw [dQ]
    refine ⟨_,rfl,?_⟩
    refine ⟨rfl,?_⟩
    try simp only [w,seval,-Int.reduceToNat,t1a,t3a,t10a,t11a,t12a,H1a,bx7,ax7,fx7]
   ·replace hh:=aj hb8 hh
    try simp only [w,seval,-Int.reduceToNat,t1a,t3a,t10a,t11a,t12a,H1a,bx7,ax7,fx7]
    refine ai (fun hb9 => ?_) (fun hb9 => ?_)
    ·replace hh:=ak hb9 hh
     cases hh
     try simp only [w,seval,-Int.reduceToNat,t1a,t3a,t10a,t11a,t12a,H1a,bx7,ax7,fx7]
     rw [dQ]
     refine ⟨_,rfl,?_⟩
     refine ⟨rfl,?_⟩
     try simp only [w,seval,-Int.reduceToNat,t1a,t3a,t10a,t11a,t12a,H1a,bx7,ax7,fx7]
    ·replace hh:=aj hb9 hh
     cases hh
     try simp only [w,seval,-Int.reduceToNat,t1a,t3a,t10a,t11a,t12a,H1a,bx7,ax7,fx7]
     rw [aK]
     refine ⟨_,rfl,?_⟩
     refine ⟨v1a,?_,?_,?_,?_,?_,?_⟩
     all_goals (first | rfl | (simp only [w,seval,-Int.reduceToNat,t1a,t3a,t10a,t11a,t12a,H1a,bx7,ax7,fx7] <;> rfl))
  ·replace hh:=aj hb6 hh
   cases hh
   try simp only [w,seval,-Int.reduceToNat,t1a,t3a,t10a,t11a,t12a,H1a]
   rw [bk]
   refine ⟨_,rfl,?_⟩
   refine ⟨rfl,⟨v1a,?_,?_,?_⟩⟩
   all_goals (first | rfl | (simp only [w,seval,-Int.reduceToNat,t1a,t3a,t10a,t11a,t12a,H1a] <;> rfl))
 ·rintro x t H e hx
  rcases o5 with _ | ra
  ·
   dsimp only at hx hh
   obtain ⟨rfl,⟨v1ax,t1ax,t3ax,H1ax⟩⟩:=hx
   try simp only [w,seval,-Int.reduceToNat,t1ax,t3ax,H1ax]
   refine ai (fun hb10 => ?_) (fun hb10 => ?_)
   ·replace hh:=ak hb10 hh
    cases hh
    try simp only [w,seval,-Int.reduceToNat,t1ax,t3ax,H1ax]
   ·replace hh:=aj hb10 hh
    try simp only [w,seval,-Int.reduceToNat,t1ax,t3ax,H1ax]
    refine bj (fun hb11 => ?_) (fun hb11 => ?_)
    ·replace hh:=ak hb11 hh
     obtain ⟨x12,hx12,hh⟩:=ae hh
     have bx12:=aJ hx12
     have ax12:=aC (eI .i64) hx12
     have fx12:=aA (eI .i64) hx12
     simp only [cl] at ax12 fx12
     skip
     cases hh
     try simp only [w,seval,-Int.reduceToNat,t1ax,t3ax,H1ax,bx12,ax12,fx12]
    ·replace hh:=aj hb11 hh
     try simp only [w,seval,-Int.reduceToNat,t1ax,t3ax,H1ax]
     refine bK (fun hb13 => ?_) (fun hb13 => ?_)
     ·replace hh:=ak hb13 hh
      obtain ⟨x14,hx14,hh⟩:=ae hh
      have bx14:=aJ hx14
      have ax14:=aC (eI .i64) hx14
      have fx14:=aA (eI .i64) hx14
      simp only [cl] at ax14 fx14
      skip
      cases hh
      try simp only [w,seval,-Int.reduceToNat,t1ax,t3ax,H1ax,bx14,ax14,fx14]
     ·replace hh:=aj hb13 hh
      cases hh
      try simp only [w,seval,-Int.reduceToNat,t1ax,t3ax,H1ax]
  ·
   dsimp only at hx hh
   obtain ⟨rfl,hE⟩:=hx
   cases hh
   try simp only [bo,bf,bG,cY,cX]
   exact hE
theorem kC:bW Tryz.prog 97 ep:=bW.of (mode := .clean) tok b7.none mixed Tryz.func97 (by kernel_rfl) ⟨by kernel_rfl,by kernel_rfl⟩ (fun _=>Nat.le_of_ble_eq_true (by kernel_rfl)) (fun x r h=>JG x r h)
noncomputable def ir:=eZ (eg VL (ef (dO ij))) (fun x:Bool×aw=>fU x.1 x.2) (fun r:aw×Int => .clean (.tup [.agg [.int .i64 r.1.ag,.sl false false r.1.aa.length (ab (eI .i64) r.1.aa)],.int .i64 r.2]))
theorem iD (p0:Bool) (p1_0:Int) (p1_1:(List Int)):ir none [.bool p0,.agg [.int .i64 p1_0,.sl false false p1_1.length (ab (eI .i64) p1_1)]]=(fU p0 (aw.mk p1_0 p1_1)).map fun r:aw×Int=>(.clean (.tup [.agg [.int .i64 r.1.ag,.sl false false r.1.aa.length (ab (eI .i64) r.1.aa)],.int .i64 r.2]),none):=aR _ _ _ (p0,(aw.mk p1_0 p1_1))
theorem Dy (p0:Bool) (p1:aw) (r:aw×Int) (hh:fU p0 p1=some r):aX .clean tab aB FU Tryz.f124 none [.bool p0,.agg [.int .i64 p1.ag,.sl false false p1.aa.length (ab (eI .i64) p1.aa)]]=some (.clean (.tup [.agg [.int .i64 r.1.ag,.sl false false r.1.aa.length (ab (eI .i64) r.1.aa)],.int .i64 r.2]),none):=by
 refine ay rfl Tryz.ntmps124 Tryz.results124 ?_
 unfold fU at hh
 try simp only [w,seval,-Int.reduceToNat]
 refine ai (fun hb1 => ?_) (fun hb1 => ?_)
 ·replace hh:=ak hb1 hh
  cases hh
  try simp only [w,seval,-Int.reduceToNat]
 ·replace hh:=aj hb1 hh
  cases hh
  try simp only [w,seval,-Int.reduceToNat]
theorem sI:bW Tryz.prog 124 ir:=bW.of (mode := .clean) tok b7.none mixed Tryz.func124 (by kernel_rfl) ⟨by kernel_rfl,by kernel_rfl⟩ (fun _=>Nat.le_of_ble_eq_true (by kernel_rfl)) (fun x r h=>Dy x.1 x.2 r h)
noncomputable def jZ:=eZ (ef (aI .i64)) (fun x:Int=>jl x) (fun r:Bool => .clean (.bool r))
theorem oh (p0:Int):jZ none [.int .i64 p0]=(jl p0).map fun r:Bool=>(.clean (.bool r),none):=aR _ _ _ (p0)
theorem JI (p0:Int) (r:Bool) (hh:jl p0=some r):aX .clean tab aB FU Tryz.f166 none [.int .i64 p0]=some (.clean (.bool r),none):=by
 refine ay rfl Tryz.ntmps166 Tryz.results166 ?_
 unfold jl at hh
 cases hh
 try simp only [w,seval,-Int.reduceToNat]
theorem wJ:bW Tryz.prog 166 jZ:=bW.of (mode := .clean) tok b7.none mixed Tryz.func166 (by kernel_rfl) ⟨by kernel_rfl,by kernel_rfl⟩ (fun _=>Nat.le_of_ble_eq_true (by kernel_rfl)) (fun x r h=>JI x r h)
noncomputable def iw:=eZ (eg (aI .i64) (ef (aI .i64))) (fun x:Int×Int=>fW x.1 x.2) (fun r:Int => .clean (.int .i64 r))
theorem lJ (p0:Int) (p1:Int):iw none [.int .i64 p0,.int .i64 p1]=(fW p0 p1).map fun r:Int=>(.clean (.int .i64 r),none):=aR _ _ _ (p0,p1)
noncomputable def oJ:Env:=(Am.ext aB 166 false jZ)
theorem BD:b7 Tryz.prog oJ:=(b7.none.add wJ false)
theorem so:oJ=(Am.ext aB 166 false jZ):=Eq.trans rfl rfl
theorem dz:type_of% (And.intro @w <| And.intro @oh <| @so):=And.intro @w <| And.intro @oh <| @so
theorem DA (p0:Int) (p1:Int) (r:Int) (hh:fW p0 p1=some r):aX .clean tab oJ FU Tryz.f128 none [.int .i64 p0,.int .i64 p1]=some (.clean (.int .i64 r),none):=by
 refine ay rfl Tryz.ntmps128 Tryz.results128 ?_
 unfold fW at hh
 obtain ⟨r1,hr1,hh⟩:=ae hh
 obtain ⟨r2,hr2,hh⟩:=ae hh
 try simp only [dz,seval,-Int.reduceToNat,hr1,hr2]
 refine ai (fun hb3 => ?_) (fun hb3 => ?_)
 ·replace hh:=ak hb3 hh
  try simp only [dz,seval,-Int.reduceToNat,hr1,hr2]
  refine ai (fun hb4 => ?_) (fun hb4 => ?_)
  ·replace hh:=ak hb4 hh
   cases hh
   try simp only [dz,seval,-Int.reduceToNat,hr1,hr2]
  ·replace hh:=aj hb4 hh
   cases hh
   try simp only [dz,seval,-Int.reduceToNat,hr1,hr2]
 ·replace hh:=aj hb3 hh
  try simp only [dz,seval,-Int.reduceToNat,hr1,hr2]
  refine ai (fun hb5 => ?_) (fun hb5 => ?_)
  ·replace hh:=ak hb5 hh
   cases hh
   try simp only [dz,seval,-Int.reduceToNat,hr1,hr2]
  ·replace hh:=aj hb5 hh
   try simp only [dz,seval,-Int.reduceToNat,hr1,hr2]
   refine ai (fun hb6 => ?_) (fun hb6 => ?_)
   ·replace hh:=ak hb6 hh
    cases hh
    try simp only [dz,seval,-Int.reduceToNat,hr1,hr2]
   ·replace hh:=aj hb6 hh
    try simp only [dz,seval,-Int.reduceToNat,hr1,hr2]
    refine ai (fun hb7 => ?_) (fun hb7 => ?_)
    ·replace hh:=ak hb7 hh
     cases hh
     try simp only [dz,seval,-Int.reduceToNat,hr1,hr2]
    ·replace hh:=aj hb7 hh
     cases hh
     try simp only [dz,seval,-Int.reduceToNat,hr1,hr2]
theorem sL:bW Tryz.prog 128 iw:=bW.of (mode := .clean) tok BD mixed Tryz.func128 (by kernel_rfl) ⟨by kernel_rfl,by kernel_rfl⟩ (fun _=>Nat.le_of_ble_eq_true (by kernel_rfl)) (fun x r h=>DA x.1 x.2 r h)
noncomputable def iu:=eZ (eg (ie (eI .i64)) (ef (ie (eI .i64)))) (fun x:(List Int)×(List Int)=>fp x.1 x.2) (fun r:Int => .clean (.int .i64 r))
theorem lI (p0:(List Int)) (p1:(List Int)):iu none [.sl false false p0.length (ab (eI .i64) p0),.sl false false p1.length (ab (eI .i64) p1)]=(fp p0 p1).map fun r:Int=>(.clean (.int .i64 r),none):=aR _ _ _ (p0,p1)
noncomputable def oI:Env:=(Am.ext aB 128 false iw)
theorem BC:b7 Tryz.prog oI:=(b7.none.add sL false)
theorem sn:oI=(Am.ext aB 128 false iw):=Eq.trans rfl rfl
theorem cy:type_of% (And.intro @w <| And.intro @lJ <| @sn):=And.intro @w <| And.intro @lJ <| @sn
theorem Dz (p0:(List Int)) (p1:(List Int)) (r:Int) (hh:fp p0 p1=some r):aX .clean tab oI FU Tryz.f129 none [.sl false false p0.length (ab (eI .i64) p0),.sl false false p1.length (ab (eI .i64) p1)]=some (.clean (.int .i64 r),none):=by
 refine ay rfl Tryz.ntmps129 Tryz.results129 ?_
 unfold fp at hh
 try simp only [cy,seval,-Int.reduceToNat]
 refine ai (fun hb1 => ?_) (fun hb1 => ?_)
 ·replace hh:=ak hb1 hh
  obtain ⟨r2,hr2,hh⟩:=ae hh
  cases hh
  try simp only [cy,seval,-Int.reduceToNat,hr2]
 ·replace hh:=aj hb1 hh
  try simp only [cy,seval,-Int.reduceToNat]
  obtain ⟨o8,ho8,hh⟩:=ae hh
  refine aD (fun s t H e=>match s with | s5a=>t 0 = .sl false false p0.length (ab (eI .i64) p0)∧t 1 = .sl false false p1.length (ab (eI .i64) p1)∧t 5 = .int .i64 s5a) (fun o x t H e=>match o with | (.inl _)=>x = .exit 0 | (.inr r)=>x = .ret∧gG .clean tab none [.tmp 4] ⟨t,H,e⟩=some (.clean (.int .i64 r),none)) ho8 ?_ ?_ ?_
  ·
   refine ⟨?_,?_,?_⟩
   all_goals (first | rfl | (simp only [cy,seval,-Int.reduceToNat] <;> rfl))
  ·rintro s5a t H e ⟨t0a,t1a,t5a⟩ c hh
   simp only [kr] at hh
   try simp only [cy,seval,-Int.reduceToNat,t0a,t1a,t5a]
   refine ai (fun hb9 => ?_) (fun hb9 => ?_)
   ·replace hh:=ak hb9 hh
    obtain ⟨x10,hx10,hh⟩:=ae hh
    have bx10:=aJ hx10
    have ax10:=aC (eI .i64) hx10
    have fx10:=aA (eI .i64) hx10
    simp only [cl] at ax10 fx10
    skip
    obtain ⟨x11,hx11,hh⟩:=ae hh
    have bx11:=aJ hx11
    have ax11:=aC (eI .i64) hx11
    have fx11:=aA (eI .i64) hx11
    simp only [cl] at ax11 fx11
    skip
    try simp only [cy,seval,-Int.reduceToNat,t0a,t1a,t5a,bx10,ax10,fx10,bx11,ax11,fx11]
    refine cI (by kernel_rfl) ?_
    try simp only [cy,seval,-Int.reduceToNat,t0a,t1a,t5a,bx10,ax10,fx10,bx11,ax11,fx11]
    refine ai (fun hb12 => ?_) (fun hb12 => ?_)
    ·replace hh:=ak hb12 hh
     have bx10:=aJ hx10
     have ax10:=aC (eI .i64) hx10
     have fx10:=aA (eI .i64) hx10
     simp only [cl] at ax10 fx10
     skip
     have bx11:=aJ hx11
     have ax11:=aC (eI .i64) hx11
     have fx11:=aA (eI .i64) hx11
     simp only [cl] at ax11 fx11
     skip
     obtain ⟨r13,hr13,hh⟩:=ae hh
     try simp only [cy,seval,-Int.reduceToNat,t0a,t1a,t5a,bx10,ax10,fx10,bx11,ax11,fx11,bx10,ax10,fx10,bx11,ax11,fx11,hr13]
     refine cI (by kernel_rfl) ?_
     cases hh
     try simp only [cy,seval,-Int.reduceToNat,t0a,t1a,t5a,bx10,ax10,fx10,bx11,ax11,fx11,bx10,ax10,fx10,bx11,ax11,fx11,hr13]
     rw [dQ]
     refine ⟨_,rfl,?_⟩
     refine ⟨rfl,?_⟩
     try simp only [cy,seval,-Int.reduceToNat,t0a,t1a,t5a,bx10,ax10,fx10,bx11,ax11,fx11,bx10,ax10,fx10,bx11,ax11,fx11,hr13]
    ·replace hh:=aj hb12 hh
     cases hh
     try simp only [cy,seval,-Int.reduceToNat,t0a,t1a,t5a,bx10,ax10,fx10,bx11,ax11,fx11]
     rw [aK]
     refine ⟨_,rfl,?_⟩
     refine ⟨?_,?_,?_⟩
     all_goals (first | rfl | (simp only [cy,seval,-Int.reduceToNat,t0a,t1a,t5a,bx10,ax10,fx10,bx11,ax11,fx11] <;> rfl))
   ·replace hh:=aj hb9 hh
    cases hh
    try simp only [cy,seval,-Int.reduceToNat,t0a,t1a,t5a]
    rw [bk]
    refine ⟨_,rfl,?_⟩
    exact rfl
  ·rintro x t H e hx
   rcases o8 with _ | ra
   ·
    dsimp only at hx hh
    subst hx
    cases hh
    try simp only [cy,seval,-Int.reduceToNat]
   ·
    dsimp only at hx hh
    obtain ⟨rfl,hE⟩:=hx
    cases hh
    try simp only [bo,bf,bG,cY,cX]
    exact hE
theorem sJ:bW Tryz.prog 129 iu:=bW.of (mode := .clean) tok BC mixed Tryz.func129 (by kernel_rfl) ⟨by kernel_rfl,by kernel_rfl⟩ (fun _=>Nat.le_of_ble_eq_true (by kernel_rfl)) (fun x r h=>Dz x.1 x.2 r h)
noncomputable def iR:=eZ (ef (ie (eI .i64))) (fun x:(List Int)=>eA x) (fun r:(List Int) => .clean (.sl false false r.length (ab (eI .i64) r)))
theorem jR (p0:(List Int)):iR none [.sl false false p0.length (ab (eI .i64) p0)]=(eA p0).map fun r:(List Int)=>(.clean (.sl false false r.length (ab (eI .i64) r)),none):=aR _ _ _ (p0)
theorem LR (p0:(List Int)) (r:(List Int)) (hh:eA p0=some r):aX .clean tab aB FU Tryz.f163 none [.sl false false p0.length (ab (eI .i64) p0)]=some (.clean (.sl false false r.length (ab (eI .i64) r)),none):=by
 refine ay rfl Tryz.ntmps163 Tryz.results163 ?_
 unfold eA at hh
 try simp only [w,seval,-Int.reduceToNat]
 obtain ⟨o4,ho4,hh⟩:=ae hh
 refine aD (fun s t H e=>match s with | s3a=>t 0 = .sl false false p0.length (ab (eI .i64) p0)∧t 3 = .int .i64 s3a) (fun o x t H e=>match o with | s3ax=>x = .exit 0∧t 0 = .sl false false p0.length (ab (eI .i64) p0)∧t 3 = .int .i64 s3ax) ho4 ?_ ?_ ?_
 ·
  refine ⟨?_,?_⟩
  all_goals (first | rfl | (simp only [w,seval,-Int.reduceToNat] <;> rfl))
 ·rintro s3a t H e ⟨t0a,t3a⟩ c hh
  simp only [j8] at hh
  try simp only [w,seval,-Int.reduceToNat,t0a,t3a]
  refine bK (fun hb5 => ?_) (fun hb5 => ?_)
  ·replace hh:=ak hb5 hh
   obtain ⟨x6,hx6,hh⟩:=ae hh
   have bx6:=aJ hx6
   have ax6:=aC (eI .i64) hx6
   have fx6:=aA (eI .i64) hx6
   simp only [cl] at ax6 fx6
   skip
   try simp only [w,seval,-Int.reduceToNat,t0a,t3a,bx6,ax6,fx6]
   refine ai (fun hb7 => ?_) (fun hb7 => ?_)
   ·replace hh:=ak hb7 hh
    cases hh
    try simp only [w,seval,-Int.reduceToNat,t0a,t3a,bx6,ax6,fx6]
    rw [aK]
    refine ⟨_,rfl,?_⟩
    refine ⟨?_,?_⟩
    all_goals (first | rfl | (simp only [w,seval,-Int.reduceToNat,t0a,t3a,bx6,ax6,fx6] <;> rfl))
   ·replace hh:=aj hb7 hh
    cases hh
    try simp only [w,seval,-Int.reduceToNat,t0a,t3a,bx6,ax6,fx6]
    rw [bk]
    refine ⟨_,rfl,?_⟩
    refine ⟨rfl,⟨?_,?_⟩⟩
    all_goals (first | rfl | (simp only [w,seval,-Int.reduceToNat,t0a,t3a,bx6,ax6,fx6] <;> rfl))
  ·replace hh:=aj hb5 hh
   cases hh
   try simp only [w,seval,-Int.reduceToNat,t0a,t3a]
   rw [bk]
   refine ⟨_,rfl,?_⟩
   refine ⟨rfl,⟨?_,?_⟩⟩
   all_goals (first | rfl | (simp only [w,seval,-Int.reduceToNat,t0a,t3a] <;> rfl))
 ·rintro x t H e hx
  obtain ⟨s3ax,rfl⟩ : ∃ z,z=o4:=⟨_,rfl⟩
  dsimp only at hx hh
  obtain ⟨rfl,⟨t0ax,t3ax⟩⟩:=hx
  obtain ⟨x8,hx8,hh⟩:=ae hh
  obtain ⟨q9a,q9b,q9c,q9d,q9e⟩:=CO (eI .i64) hx8
  simp only [cl] at q9e
  cases hh
  try simp only [w,seval,-Int.reduceToNat,t0ax,t3ax,q9a,q9b,q9c,q9d,q9e]
theorem sK:bW Tryz.prog 163 iR:=bW.of (mode := .clean) tok b7.none mixed Tryz.func163 (by kernel_rfl) ⟨by kernel_rfl,by kernel_rfl⟩ (fun _=>Nat.le_of_ble_eq_true (by kernel_rfl)) (fun x r h=>LR x r h)
noncomputable def mo:=Ux 3 (eI .i64) (S2) (fun (l:(List Int)) (x:Unit)=>eA l)
theorem Hk (pre post:List D) (p0:(List Int)):mo (some (.buf 0 0 1 pre.length p0.length,⟨0,3,pre++(ab (eI .i64) p0++post),false,true,false⟩)) []=(eA p0).map fun r=>(.fresh 3 1 r.length (ab (eI .i64) r),none):=Rw _ _ _ _ pre post p0 ()
theorem GQ (pre post:List D) (p0:(List Int)) (r:(List Int)) (hh:eA p0=some r):aX (.fresh 3 1) tab aB FU Tryz.f163 (some (.buf 0 0 1 pre.length p0.length,⟨0,3,pre++(ab (eI .i64) p0++post),false,true,false⟩)) []=some (.fresh 3 1 r.length (ab (eI .i64) r),none):=by
 refine nL rfl Tryz.ntmps163 Tryz.results163 ?_
 unfold eA at hh
 try simp only [w,seval,-Int.reduceToNat]
 obtain ⟨o4,ho4,hh⟩:=ae hh
 refine aD (fun s t H e=>match s with | s3a=>∃ v0a:Nat,t 0 = .buf 0 v0a 1 pre.length (p0).length∧t 3 = .int .i64 s3a∧H 0=some ⟨v0a,3,pre++(ab (eI .i64) p0++post),false,true,false⟩) (fun o x t H e=>match o with | s3ax=>x = .exit 0∧∃ v0ax:Nat,t 0 = .buf 0 v0ax 1 pre.length (p0).length∧t 3 = .int .i64 s3ax∧H 0=some ⟨v0ax,3,pre++(ab (eI .i64) p0++post),false,true,false⟩) ho4 ?_ ?_ ?_
 ·
  refine ⟨0,?_,?_,?_⟩
  all_goals (first | rfl | (simp only [w,seval,-Int.reduceToNat] <;> rfl))
 ·rintro s3a t H e ⟨v0a,t0a,t3a,H0a⟩ c hh
  simp only [j8] at hh
  try simp only [w,seval,-Int.reduceToNat,t0a,t3a,H0a]
  refine bK (fun hb5 => ?_) (fun hb5 => ?_)
  ·replace hh:=ak hb5 hh
   obtain ⟨x6,hx6,hh⟩:=ae hh
   have bx6:=aJ hx6
   have ax6:=iY (pre:=pre) (post:=post) (eI .i64) hx6
   have fx6:=iZ (pre:=pre) (post:=post) (eI .i64) hx6
   simp only [cl] at ax6 fx6
   skip
   try simp only [w,seval,-Int.reduceToNat,t0a,t3a,H0a,bx6,ax6,fx6]
   refine ai (fun hb7 => ?_) (fun hb7 => ?_)
   ·replace hh:=ak hb7 hh
    cases hh
    try simp only [w,seval,-Int.reduceToNat,t0a,t3a,H0a,bx6,ax6,fx6]
    rw [aK]
    refine ⟨_,rfl,?_⟩
    refine ⟨v0a,?_,?_,?_⟩
    all_goals (first | rfl | (simp only [w,seval,-Int.reduceToNat,t0a,t3a,H0a,bx6,ax6,fx6] <;> rfl))
   ·replace hh:=aj hb7 hh
    cases hh
    try simp only [w,seval,-Int.reduceToNat,t0a,t3a,H0a,bx6,ax6,fx6]
    rw [bk]
    refine ⟨_,rfl,?_⟩
    refine ⟨rfl,⟨v0a,?_,?_,?_⟩⟩
    all_goals (first | rfl | (simp only [w,seval,-Int.reduceToNat,t0a,t3a,H0a,bx6,ax6,fx6] <;> rfl))
  ·replace hh:=aj hb5 hh
   cases hh
   try simp only [w,seval,-Int.reduceToNat,t0a,t3a,H0a]
   rw [bk]
   refine ⟨_,rfl,?_⟩
   refine ⟨rfl,⟨v0a,?_,?_,?_⟩⟩
   all_goals (first | rfl | (simp only [w,seval,-Int.reduceToNat,t0a,t3a,H0a] <;> rfl))
 ·rintro x t H e hx
  obtain ⟨s3ax,rfl⟩ : ∃ z,z=o4:=⟨_,rfl⟩
  dsimp only at hx hh
  obtain ⟨rfl,⟨v0ax,t0ax,t3ax,H0ax⟩⟩:=hx
  obtain ⟨x8,hx8,hh⟩:=ae hh
  obtain ⟨q9a,q9b,q9c,q9d,q9e⟩:=CO (eI .i64) hx8
  simp only [cl] at q9e
  skip
  obtain ⟨q9f,q9g⟩:=TM (pre:=pre) (post:=post) (eI .i64) hx8
  simp only [cl] at q9f q9g
  cases hh
  try simp only [w,seval,-Int.reduceToNat,t0ax,t3ax,H0ax,q9a,q9b,q9c,q9f,q9g,q9d]
theorem DG:bW Tryz.prog 163 mo:=bW.V0 tok b7.none mixed Tryz.func163 (by kernel_rfl) ⟨by kernel_rfl,by kernel_rfl⟩ (fun _=>Nat.le_of_ble_eq_true (by kernel_rfl)) (fun pre post l x r h=>GQ pre post l r h)
noncomputable def nQ:=eZ (eg (ie (eI .i64)) (ef (aI .i64))) (fun x:(List Int)×Int=>j7 x.1 x.2) (fun r:(List Int)×Int => .clean (.tup [.sl false false r.1.length (ab (eI .i64) r.1),.int .i64 r.2]))
theorem y7 (p0:(List Int)) (p1:Int):nQ none [.sl false false p0.length (ab (eI .i64) p0),.int .i64 p1]=(j7 p0 p1).map fun r:(List Int)×Int=>(.clean (.tup [.sl false false r.1.length (ab (eI .i64) r.1),.int .i64 r.2]),none):=aR _ _ _ (p0,p1)
noncomputable def rX:Env:=(Am.ext aB 163 false iR)
theorem GC:b7 Tryz.prog rX:=(b7.none.add sK false)
theorem wo:rX=(Am.ext aB 163 false iR):=Eq.trans rfl rfl
theorem gW:type_of% (And.intro @w <| And.intro @jR <| @wo):=And.intro @w <| And.intro @jR <| @wo
theorem JH (p0:(List Int)) (p1:Int) (r:(List Int)×Int) (hh:j7 p0 p1=some r):aX .clean tab rX FU Tryz.f162 none [.sl false false p0.length (ab (eI .i64) p0),.int .i64 p1]=some (.clean (.tup [.sl false false r.1.length (ab (eI .i64) r.1),.int .i64 r.2]),none):=by
 refine ay rfl Tryz.ntmps162 Tryz.results162 ?_
 unfold j7 at hh
 obtain ⟨x1,hx1,hh⟩:=ae hh
 obtain ⟨q2a,q2b,q2c,q2d,q2e⟩:=mk_one (eI .i64) hx1
 simp only [cl] at q2d
 try simp only [gW,seval,-Int.reduceToNat,q2a,q2b,q2c,q2d,q2e]
 obtain ⟨o13,ho13,hh⟩:=ae hh
 refine aD (fun s t H e=>match s with | (s7a,s8a,l6a)=>∃ v6a:Nat,t 0 = .sl false false p0.length (ab (eI .i64) p0)∧t 1 = .int .i64 p1∧t 6 = .buf 6 v6a 1 0 (l6a).length∧t 7 = .int .i64 s7a∧t 8 = .int .i64 s8a∧H 6=some ⟨v6a,3,ab (eI .i64) l6a,false,true,false⟩) (fun o x t H e=>match o with | (s7ax,l6ax)=>x = .exit 0∧∃ v6ax:Nat,t 6 = .buf 6 v6ax 1 0 (l6ax).length∧t 7 = .int .i64 s7ax∧H 6=some ⟨v6ax,3,ab (eI .i64) l6ax,false,true,false⟩) ho13 ?_ ?_ ?_
 ·
  refine ⟨1,?_,?_,?_,?_,?_,?_⟩
  all_goals (first | rfl | (simp only [gW,seval,-Int.reduceToNat,q2a,q2b,q2c,q2d,q2e] <;> rfl))
 ·rintro ⟨s7a,s8a,l6a⟩ t H e ⟨v6a,t0a,t1a,t6a,t7a,t8a,H6a⟩ c hh
  simp only [mD] at hh
  try simp only [gW,seval,-Int.reduceToNat,q2a,q2b,q2c,q2d,q2e,t0a,t1a,t6a,t7a,t8a,H6a]
  refine ai (fun hb14 => ?_) (fun hb14 => ?_)
  ·replace hh:=ak hb14 hh
   obtain ⟨x15,hx15,hh⟩:=ae hh
   obtain ⟨q16a,q16b⟩:=Ae hx15
   obtain ⟨x17,hx17,hh⟩:=ae hh
   have bx17:=aJ hx17
   have ax17:=aC (eI .i64) hx17
   have fx17:=aA (eI .i64) hx17
   simp only [cl] at ax17 fx17
   skip
   obtain ⟨x18,hx18,hh⟩:=ae hh
   obtain ⟨q19a,q19b⟩:=pU hx18
   obtain ⟨x20,hx20,hh⟩:=ae hh
   have bx20:=aJ hx20
   have ax20:=aC (eI .i64) hx20
   have fx20:=aA (eI .i64) hx20
   simp only [cl] at ax20 fx20
   skip
   have p21:=og (eI .i64) (x':=x18) (fo:=0) (cs:=[.int .i64 x18]) hx20 rfl (Nat.le_of_ble_eq_true rfl)
   simp only [cl,Nat.add_zero] at p21
   have up21:=p21
   simp only [putCells,List.length_cons,List.length_nil,Nat.zero_add,Nat.reduceAdd] at up21
   obtain ⟨x22,hx22,hh⟩:=ae hh
   obtain ⟨q23a,q23b⟩:=qm hx22
   cases hh
   try simp only [gW,seval,-Int.reduceToNat,q2a,q2b,q2c,q2d,q2e,t0a,t1a,t6a,t7a,t8a,H6a,q16a,q16b,bx17,ax17,fx17,q19a,q19b,bx20,ax20,fx20,p21,up21,q23a,q23b]
   rw [aK]
   refine ⟨_,rfl,?_⟩
   refine ⟨v6a,?_,?_,?_,?_,?_,?_⟩
   all_goals (first | rfl | (simp only [gW,seval,-Int.reduceToNat,q2a,q2b,q2c,q2d,q2e,t0a,t1a,t6a,t7a,t8a,H6a,q16a,q16b,bx17,ax17,fx17,q19a,q19b,bx20,ax20,fx20,p21,up21,q23a,q23b] <;> rfl))
  ·replace hh:=aj hb14 hh
   cases hh
   try simp only [gW,seval,-Int.reduceToNat,q2a,q2b,q2c,q2d,q2e,t0a,t1a,t6a,t7a,t8a,H6a]
   rw [bk]
   refine ⟨_,rfl,?_⟩
   refine ⟨rfl,⟨v6a,?_,?_,?_⟩⟩
   all_goals (first | rfl | (simp only [gW,seval,-Int.reduceToNat,q2a,q2b,q2c,q2d,q2e,t0a,t1a,t6a,t7a,t8a,H6a] <;> rfl))
 ·rintro x t H e hx
  rcases o13 with ⟨s7ax,l6ax⟩
  dsimp only at hx hh
  obtain ⟨rfl,⟨v6ax,t6ax,t7ax,H6ax⟩⟩:=hx
  obtain ⟨r24,hr24,hh⟩:=ae hh
  cases hh
  try simp only [gW,seval,-Int.reduceToNat,q2a,q2b,q2c,q2d,q2e,t6ax,t7ax,H6ax,hr24]
theorem G9:bW Tryz.prog 162 nQ:=bW.of (mode := .clean) tok GC mixed Tryz.func162 (by kernel_rfl) ⟨by kernel_rfl,by kernel_rfl⟩ (fun _=>Nat.le_of_ble_eq_true (by kernel_rfl)) (fun x r h=>JH x.1 x.2 r h)
noncomputable def mT:=eZ (eg (ie (eI .i64)) (ef (ie (eI .i64)))) (fun x:(List Int)×(List Int)=>mC x.1 x.2) (fun r:(List Int) => .fresh 3 1 r.length (ab (eI .i64) r))
theorem mU (p0:(List Int)) (p1:(List Int)):mT none [.sl false false p0.length (ab (eI .i64) p0),.sl false false p1.length (ab (eI .i64) p1)]=(mC p0 p1).map fun r:(List Int)=>(.fresh 3 1 r.length (ab (eI .i64) r),none):=aR _ _ _ (p0,p1)
noncomputable def xA:Env:=(Am.ext aB 163 true mo)
theorem Lw:b7 Tryz.prog xA:=(b7.none.add DG true)
theorem BL:xA=(Am.ext aB 163 true mo):=Eq.trans rfl rfl
theorem eH:type_of% (And.intro @w <| @BL):=And.intro @w <| @BL
theorem Pr (p0:(List Int)) (p1:(List Int)) (r:(List Int)) (hh:mC p0 p1=some r):aX (.fresh 3 1) tab xA FU Tryz.f164 none [.sl false false p0.length (ab (eI .i64) p0),.sl false false p1.length (ab (eI .i64) p1)]=some (.fresh 3 1 r.length (ab (eI .i64) r),none):=by
 refine ay rfl Tryz.ntmps164 Tryz.results164 ?_
 unfold mC at hh
 obtain ⟨x1,hx1,hh⟩:=ae hh
 obtain ⟨q2a,q2b,q2c,q2d,q2e⟩:=mk_one (eI .i64) hx1
 simp only [cl] at q2d
 try simp only [eH,seval,-Int.reduceToNat,q2a,q2b,q2c,q2d,q2e]
 obtain ⟨o20,ho20,hh⟩:=ae hh
 refine aD (fun s t H e=>match s with | (s20a,l5a)=>∃ v5a:Nat,t 1 = .sl false false p1.length (ab (eI .i64) p1)∧t 5 = .buf 5 v5a 1 0 (l5a).length∧t 18 = .sl false false p0.length (ab (eI .i64) p0)∧t 19 = .int .i64 (p0.length:Int)∧t 20 = .int .i64 s20a∧H 5=some ⟨v5a,3,ab (eI .i64) l5a,false,true,false⟩) (fun o x t H e=>match o with | l5ax=>x = .exit 0∧∃ v5ax:Nat,t 5 = .buf 5 v5ax 1 0 (l5ax).length∧H 5=some ⟨v5ax,3,ab (eI .i64) l5ax,false,true,false⟩) ho20 ?_ ?_ ?_
 ·
  refine ⟨1,?_,?_,?_,?_,?_,?_⟩
  all_goals (first | rfl | (simp only [eH,seval,-Int.reduceToNat,q2a,q2b,q2c,q2d,q2e] <;> rfl))
 ·rintro ⟨s20a,l5a⟩ t H e ⟨v5a,t1a,t5a,t18a,t19a,t20a,H5a⟩ c hh
  simp only [pR] at hh
  try simp only [eH,seval,-Int.reduceToNat,q2a,q2b,q2c,q2d,q2e,t1a,t5a,t18a,t19a,t20a,H5a]
  refine ai (fun hb21 => ?_) (fun hb21 => ?_)
  ·replace hh:=ak hb21 hh
   obtain ⟨x22,hx22,hh⟩:=ae hh
   have bx22:=aJ hx22
   have ax22:=aC (eI .i64) hx22
   have fx22:=aA (eI .i64) hx22
   simp only [cl] at ax22 fx22
   skip
   try simp only [eH,seval,-Int.reduceToNat,q2a,q2b,q2c,q2d,q2e,t1a,t5a,t18a,t19a,t20a,H5a,bx22,ax22,fx22]
   obtain ⟨o29,ho29,hh⟩:=ae hh
   refine aD (fun s t H e=>match s with | (s8c,s27c,l5c)=>∃ v5c:Nat,t 1 = .sl false false p1.length (ab (eI .i64) p1)∧t 5 = .buf 5 v5c 1 0 (l5c).length∧t 6 = .int .i64 s20a∧t 7 = .int .i64 x22∧t 8 = .int .i64 s8c∧t 18 = .sl false false p0.length (ab (eI .i64) p0)∧t 19 = .int .i64 (p0.length:Int)∧t 20 = .int .i64 s20a∧t 25 = .sl false false p1.length (ab (eI .i64) p1)∧t 26 = .int .i64 (p1.length:Int)∧t 27 = .int .i64 s27c∧H 5=some ⟨v5c,3,ab (eI .i64) l5c,false,true,false⟩) (fun o x t H e=>match o with | (s8cx,l5cx)=>x = .exit 2∧∃ v5cx:Nat,t 1 = .sl false false p1.length (ab (eI .i64) p1)∧t 5 = .buf 5 v5cx 1 0 (l5cx).length∧t 6 = .int .i64 s20a∧t 8 = .int .i64 s8cx∧t 18 = .sl false false p0.length (ab (eI .i64) p0)∧t 19 = .int .i64 (p0.length:Int)∧t 20 = .int .i64 s20a∧H 5=some ⟨v5cx,3,ab (eI .i64) l5cx,false,true,false⟩) ho29 ?_ ?_ ?_
   ·
    refine ⟨v5a,?_,?_,?_,?_,?_,?_,?_,?_,?_,?_,?_,?_⟩
    all_goals (first | rfl | (simp only [eH,seval,-Int.reduceToNat,q2a,q2b,q2c,q2d,q2e,t1a,t5a,t18a,t19a,t20a,H5a,bx22,ax22,fx22] <;> rfl))
   ·rintro ⟨s8c,s27c,l5c⟩ t H e ⟨v5c,t1c,t5c,t6c,t7c,t8c,t18c,t19c,t20c,t25c,t26c,t27c,H5c⟩ c hh
    simp only [pS] at hh
    try simp only [eH,seval,-Int.reduceToNat,q2a,q2b,q2c,q2d,q2e,bx22,ax22,fx22,t1c,t5c,t6c,t7c,t8c,t18c,t19c,t20c,t25c,t26c,t27c,H5c]
    refine ai (fun hb30 => ?_) (fun hb30 => ?_)
    ·replace hh:=ak hb30 hh
     obtain ⟨x31,hx31,hh⟩:=ae hh
     have bx31:=aJ hx31
     have ax31:=aC (eI .i64) hx31
     have fx31:=aA (eI .i64) hx31
     simp only [cl] at ax31 fx31
     skip
     obtain ⟨x32,hx32,hh⟩:=ae hh
     have bx32:=aJ hx32
     have ax32:=aC (eI .i64) hx32
     have fx32:=aA (eI .i64) hx32
     simp only [cl] at ax32 fx32
     skip
     obtain ⟨x33,hx33,hh⟩:=ae hh
     obtain ⟨q34a,q34b⟩:=qH hx33
     have bx32:=aJ hx32
     have ax32:=aC (eI .i64) hx32
     have fx32:=aA (eI .i64) hx32
     simp only [cl] at ax32 fx32
     skip
     have p35:=og (eI .i64) (x':=ng .and .i64 (IntKind.i64.wrap ((IntKind.i64.wrap (x32+(IntKind.i64.wrap (x22*x31))))+s8c)) 1048575) (fo:=0) (cs:=[.int .i64 (ng .and .i64 (IntKind.i64.wrap ((IntKind.i64.wrap (x32+(IntKind.i64.wrap (x22*x31))))+s8c)) 1048575)]) hx32 rfl (Nat.le_of_ble_eq_true rfl)
     simp only [cl,Nat.add_zero] at p35
     have up35:=p35
     simp only [putCells,List.length_cons,List.length_nil,Nat.zero_add,Nat.reduceAdd] at up35
     cases hh
     try simp only [eH,seval,-Int.reduceToNat,q2a,q2b,q2c,q2d,q2e,bx22,ax22,fx22,t1c,t5c,t6c,t7c,t8c,t18c,t19c,t20c,t25c,t26c,t27c,H5c,bx31,ax31,fx31,bx32,ax32,fx32,q34a,q34b,bx32,ax32,fx32,p35,up35]
     rw [aK]
     refine ⟨_,rfl,?_⟩
     refine ⟨v5c,?_,?_,?_,?_,?_,?_,?_,?_,?_,?_,?_,?_⟩
     all_goals (first | rfl | (simp only [eH,seval,-Int.reduceToNat,q2a,q2b,q2c,q2d,q2e,bx22,ax22,fx22,t1c,t5c,t6c,t7c,t8c,t18c,t19c,t20c,t25c,t26c,t27c,H5c,bx31,ax31,fx31,bx32,ax32,fx32,q34a,q34b,bx32,ax32,fx32,p35,up35] <;> rfl))
    ·replace hh:=aj hb30 hh
     cases hh
     try simp only [eH,seval,-Int.reduceToNat,q2a,q2b,q2c,q2d,q2e,bx22,ax22,fx22,t1c,t5c,t6c,t7c,t8c,t18c,t19c,t20c,t25c,t26c,t27c,H5c]
     rw [bk]
     refine ⟨_,rfl,?_⟩
     refine ⟨rfl,⟨v5c,?_,?_,?_,?_,?_,?_,?_,?_⟩⟩
     all_goals (first | rfl | (simp only [eH,seval,-Int.reduceToNat,q2a,q2b,q2c,q2d,q2e,bx22,ax22,fx22,t1c,t5c,t6c,t7c,t8c,t18c,t19c,t20c,t25c,t26c,t27c,H5c] <;> rfl))
   ·rintro x t H e hx
    rcases o29 with ⟨s8cx,l5cx⟩
    dsimp only at hx hh
    obtain ⟨rfl,⟨v5cx,t1cx,t5cx,t6cx,t8cx,t18cx,t19cx,t20cx,H5cx⟩⟩:=hx
    obtain ⟨x36,hx36,hh⟩:=ae hh
    have bx36:=aJ hx36
    have ax36:=aC (eI .i64) hx36
    have fx36:=aA (eI .i64) hx36
    simp only [cl] at ax36 fx36
    skip
    have bx36:=aJ hx36
    have ax36:=aC (eI .i64) hx36
    have fx36:=aA (eI .i64) hx36
    simp only [cl] at ax36 fx36
    skip
    have p37:=og (eI .i64) (x':=IntKind.i64.wrap (x36+s8cx)) (fo:=0) (cs:=[.int .i64 (IntKind.i64.wrap (x36+s8cx))]) hx36 rfl (Nat.le_of_ble_eq_true rfl)
    simp only [cl,Nat.add_zero] at p37
    have up37:=p37
    simp only [putCells,List.length_cons,List.length_nil,Nat.zero_add,Nat.reduceAdd] at up37
    cases hh
    try simp only [eH,seval,-Int.reduceToNat,q2a,q2b,q2c,q2d,q2e,bx22,ax22,fx22,t1cx,t5cx,t6cx,t8cx,t18cx,t19cx,t20cx,H5cx,bx36,ax36,fx36,bx36,ax36,fx36,p37,up37]
    rw [aK]
    refine ⟨_,rfl,?_⟩
    refine ⟨v5cx,?_,?_,?_,?_,?_,?_⟩
    all_goals (first | rfl | (simp only [eH,seval,-Int.reduceToNat,q2a,q2b,q2c,q2d,q2e,bx22,ax22,fx22,t1cx,t5cx,t6cx,t8cx,t18cx,t19cx,t20cx,H5cx,bx36,ax36,fx36,bx36,ax36,fx36,p37,up37] <;> rfl))
  ·replace hh:=aj hb21 hh
   cases hh
   try simp only [eH,seval,-Int.reduceToNat,q2a,q2b,q2c,q2d,q2e,t1a,t5a,t18a,t19a,t20a,H5a]
   rw [bk]
   refine ⟨_,rfl,?_⟩
   refine ⟨rfl,⟨v5a,?_,?_⟩⟩
   all_goals (first | rfl | (simp only [eH,seval,-Int.reduceToNat,q2a,q2b,q2c,q2d,q2e,t1a,t5a,t18a,t19a,t20a,H5a] <;> rfl))
 ·rintro x t H e hx
  obtain ⟨l5ax,rfl⟩ : ∃ z,z=o20:=⟨_,rfl⟩
  dsimp only at hx hh
  obtain ⟨rfl,⟨v5ax,t5ax,H5ax⟩⟩:=hx
  have i38:=Hk [] [] l5ax
  try simp only [List.nil_append,List.append_nil,List.length_nil,aS,List.length_set,cl] at i38
  obtain ⟨r39,hr39,hh⟩:=ae hh
  cases hh
  try simp only [eH,seval,-Int.reduceToNat,q2a,q2b,q2c,q2d,q2e,t5ax,H5ax,i38,hr39]
theorem Ch:bW Tryz.prog 164 mT:=bW.of (mode:=(.fresh 3 1)) tok Lw mixed Tryz.func164 (by kernel_rfl) ⟨by kernel_rfl,by kernel_rfl⟩ (fun _=>Nat.le_of_ble_eq_true (by kernel_rfl)) (fun x r h=>Pr x.1 x.2 r h)
noncomputable def ko:=P5 3 (eI .i64) (eg (ie (eI .i64)) (ef (aI .i64))) (fun (l:(List Int)) (x:(List Int)×Int)=>fc l x.1 x.2) (fun r:Int => .clean (.int .i64 r))
theorem Cr (pre post:List D) (p0:(List Int)) (p1:(List Int)) (p2:Int):ko (some (.buf 0 0 1 pre.length p0.length,⟨0,3,pre++(ab (eI .i64) p0++post),false,true,false⟩)) [.sl false false p1.length (ab (eI .i64) p1),.int .i64 p2]=(fc p0 p1 p2).map fun r=>(.clean (.int .i64 r.2),some ⟨0,3,pre++(ab (eI .i64) r.1++post),false,true,false⟩):=Cb _ _ _ _ _ pre post p0 (p1,p2)
theorem B4 (pre post:List D) (p0:(List Int)) (p1:(List Int)) (p2:Int) (r:(List Int)×(Int)) (hh:fc p0 p1 p2=some r):aX .clean tab aB FU Tryz.f165 (some (.buf 0 0 1 pre.length p0.length,⟨0,3,pre++(ab (eI .i64) p0++post),false,true,false⟩)) [.sl false false p1.length (ab (eI .i64) p1),.int .i64 p2]=some (.clean (.int .i64 r.2),some ⟨0,3,pre++(ab (eI .i64) r.1++post),false,true,false⟩):=by
 refine nL rfl Tryz.ntmps165 Tryz.results165 ?_
 unfold fc at hh
 obtain ⟨rw,hrw,hh⟩:=ae hh
 split at hh
 rotate_left
 ·cases hh
 cases hh
 rename_i hlen
 replace hh:=hrw
 unfold nf at hh
 try simp only [w,seval,-Int.reduceToNat]
 obtain ⟨o9,ho9,hh⟩:=ae hh
 refine aD (fun s t H e=>match s with | (s7a,s14a,l0a)=>t 0 = .buf 0 0 1 pre.length (l0a).length∧t 1 = .sl false false p1.length (ab (eI .i64) p1)∧t 2 = .int .i64 p2∧t 7 = .int .i64 s7a∧t 13 = .int .i64 ((p0).length:Int)∧t 14 = .int .i64 s14a∧H 0=some ⟨0,3,pre++(ab (eI .i64) l0a++post),false,true,false⟩) (fun o x t H e=>match o with | (s7ax,l0ax)=>x = .exit 0∧t 0 = .buf 0 0 1 pre.length (l0ax).length∧t 1 = .sl false false p1.length (ab (eI .i64) p1)∧t 2 = .int .i64 p2∧t 7 = .int .i64 s7ax∧H 0=some ⟨0,3,pre++(ab (eI .i64) l0ax++post),false,true,false⟩) ho9 ?_ ?_ ?_
 ·
  refine ⟨?_,?_,?_,?_,?_,?_,?_⟩
  all_goals (first | rfl | (simp only [w,seval,-Int.reduceToNat] <;> rfl))
 ·rintro ⟨s7a,s14a,l0a⟩ t H e ⟨t0a,t1a,t2a,t7a,t13a,t14a,H0a⟩ c hh
  simp only [jL] at hh
  try simp only [w,seval,-Int.reduceToNat,t0a,t1a,t2a,t7a,t13a,t14a,H0a]
  refine ai (fun hb10 => ?_) (fun hb10 => ?_)
  ·replace hh:=ak hb10 hh
   obtain ⟨x11,hx11,hh⟩:=ae hh
   have bx11:=aJ hx11
   have ax11:=iY (pre:=pre) (post:=post) (eI .i64) hx11
   have fx11:=iZ (pre:=pre) (post:=post) (eI .i64) hx11
   simp only [cl] at ax11 fx11
   skip
   try simp only [w,seval,-Int.reduceToNat,t0a,t1a,t2a,t7a,t13a,t14a,H0a,bx11,ax11,fx11]
   obtain ⟨o12,ho12,hh⟩:=ae hh
   refine l7 0 (fun s t H e=>match s with | s9j3=>t 0 = .buf 0 0 1 pre.length (l0a).length∧t 1 = .sl false false p1.length (ab (eI .i64) p1)∧t 2 = .int .i64 p2∧t 8 = .int .i64 s14a∧t 9 = .int .i64 s9j3∧t 13 = .int .i64 ((p0).length:Int)∧t 14 = .int .i64 s14a∧H 0=some ⟨0,3,pre++(ab (eI .i64) l0a++post),false,true,false⟩) (fun s=>s=o12) ?_ ?_
   ·rintro s9j3 t H e ⟨t0j3,t1j3,t2j3,t8j3,t9j3,t13j3,t14j3,H0j3⟩ rfl
    try dsimp only at hh
    have bx11:=aJ hx11
    have ax11:=iY (pre:=pre) (post:=post) (eI .i64) hx11
    have fx11:=iZ (pre:=pre) (post:=post) (eI .i64) hx11
    simp only [cl] at ax11 fx11
    skip
    have p13:=wN (pre:=pre) (post:=post) (eI .i64) (y':=ng .and .i64 s9j3 1048575) hx11
    simp only [cl] at p13
    have up13:=p13
    simp only [putCells,List.length_cons,List.length_nil,Nat.zero_add,Nat.reduceAdd] at up13
    obtain ⟨x14,hx14,hh⟩:=ae hh
    obtain ⟨q15a,q15b⟩:=qH hx14
    cases hh
    try simp only [w,seval,-Int.reduceToNat,bx11,ax11,fx11,t0j3,t1j3,t2j3,t8j3,t9j3,t13j3,t14j3,H0j3,bx11,ax11,fx11,p13,up13,q15a,q15b]
    rw [aK]
    refine ⟨_,rfl,?_⟩
    refine ⟨?_,?_,?_,?_,?_,?_,?_⟩
    all_goals (first | rfl | (simp only [w,seval,-Int.reduceToNat,bx11,ax11,fx11,t0j3,t1j3,t2j3,t8j3,t9j3,t13j3,t14j3,H0j3,bx11,ax11,fx11,p13,up13,q15a,q15b] <;> rfl))
   ·
    clear hh
    have hh:=ho12
    try simp only [w,seval,-Int.reduceToNat,t0a,t1a,t2a,t7a,t13a,t14a,H0a,bx11,ax11,fx11]
    refine ai (fun hb16 => ?_) (fun hb16 => ?_)
    ·replace hh:=ak hb16 hh
     obtain ⟨x17,hx17,hh⟩:=ae hh
     have bx17:=aJ hx17
     have ax17:=aC (eI .i64) hx17
     have fx17:=aA (eI .i64) hx17
     simp only [cl] at ax17 fx17
     skip
     cases hh
     try simp only [w,seval,-Int.reduceToNat,t0a,t1a,t2a,t7a,t13a,t14a,H0a,bx11,ax11,fx11,bx17,ax17,fx17]
     rw [an]
     refine ⟨_,rfl,?_⟩
     refine ⟨?_,?_,?_,?_,?_,?_,?_,?_⟩
     all_goals (first | rfl | (simp only [w,seval,-Int.reduceToNat,t0a,t1a,t2a,t7a,t13a,t14a,H0a,bx11,ax11,fx11,bx17,ax17,fx17] <;> rfl))
    ·replace hh:=aj hb16 hh
     cases hh
     try simp only [w,seval,-Int.reduceToNat,t0a,t1a,t2a,t7a,t13a,t14a,H0a,bx11,ax11,fx11]
     rw [an]
     refine ⟨_,rfl,?_⟩
     refine ⟨?_,?_,?_,?_,?_,?_,?_,?_⟩
     all_goals (first | rfl | (simp only [w,seval,-Int.reduceToNat,t0a,t1a,t2a,t7a,t13a,t14a,H0a,bx11,ax11,fx11] <;> rfl))
  ·replace hh:=aj hb10 hh
   cases hh
   try simp only [w,seval,-Int.reduceToNat,t0a,t1a,t2a,t7a,t13a,t14a,H0a]
   rw [bk]
   refine ⟨_,rfl,?_⟩
   refine ⟨rfl,⟨?_,?_,?_,?_,?_⟩⟩
   all_goals (first | rfl | (simp only [w,seval,-Int.reduceToNat,t0a,t1a,t2a,t7a,t13a,t14a,H0a] <;> rfl))
 ·rintro x t H e hx
  rcases o9 with ⟨s7ax,l0ax⟩
  dsimp only at hx hh
  obtain ⟨rfl,⟨t0ax,t1ax,t2ax,t7ax,H0ax⟩⟩:=hx
  try simp only [w,seval,-Int.reduceToNat,t0ax,t1ax,t2ax,t7ax,H0ax]
  refine ai (fun hb18 => ?_) (fun hb18 => ?_)
  ·replace hh:=ak hb18 hh
   cases hh
   try simp only [w,seval,-Int.reduceToNat,t0ax,t1ax,t2ax,t7ax,H0ax]
  ·replace hh:=aj hb18 hh
   try simp only [w,seval,-Int.reduceToNat,t0ax,t1ax,t2ax,t7ax,H0ax]
   obtain ⟨o27,ho27,hh⟩:=ae hh
   refine aD (fun s t H e=>match s with | (s10d,s49d,l0d)=>t 0 = .buf 0 0 1 pre.length (l0d).length∧t 1 = .sl false false p1.length (ab (eI .i64) p1)∧t 2 = .int .i64 p2∧t 10 = .int .i64 s10d∧t 48 = .int .i64 ((l0ax).length:Int)∧t 49 = .int .i64 s49d∧H 0=some ⟨0,3,pre++(ab (eI .i64) l0d++post),false,true,false⟩) (fun o x t H e=>match o with | l0dx=>x = .exit 2∧t 0 = .buf 0 0 1 pre.length (l0dx).length∧t 2 = .int .i64 p2∧H 0=some ⟨0,3,pre++(ab (eI .i64) l0dx++post),false,true,false⟩) ho27 ?_ ?_ ?_
   ·
    refine ⟨?_,?_,?_,?_,?_,?_,?_⟩
    all_goals (first | rfl | (simp only [w,seval,-Int.reduceToNat,t0ax,t1ax,t2ax,t7ax,H0ax] <;> rfl))
   ·rintro ⟨s10d,s49d,l0d⟩ t H e ⟨t0d,t1d,t2d,t10d,t48d,t49d,H0d⟩ c hh
    simp only [jM] at hh
    try simp only [w,seval,-Int.reduceToNat,t0d,t1d,t2d,t10d,t48d,t49d,H0d]
    refine ai (fun hb28 => ?_) (fun hb28 => ?_)
    ·replace hh:=ak hb28 hh
     obtain ⟨x29,hx29,hh⟩:=ae hh
     have bx29:=aJ hx29
     have ax29:=iY (pre:=pre) (post:=post) (eI .i64) hx29
     have fx29:=iZ (pre:=pre) (post:=post) (eI .i64) hx29
     simp only [cl] at ax29 fx29
     skip
     try simp only [w,seval,-Int.reduceToNat,t0d,t1d,t2d,t10d,t48d,t49d,H0d,bx29,ax29,fx29]
     obtain ⟨o30,ho30,hh⟩:=ae hh
     refine l7 0 (fun s t H e=>match s with | s10j6=>t 0 = .buf 0 0 1 pre.length (l0d).length∧t 1 = .sl false false p1.length (ab (eI .i64) p1)∧t 2 = .int .i64 p2∧t 10 = .int .i64 s10j6∧t 11 = .int .i64 s49d∧t 48 = .int .i64 ((l0ax).length:Int)∧t 49 = .int .i64 s49d∧H 0=some ⟨0,3,pre++(ab (eI .i64) l0d++post),false,true,false⟩) (fun s=>s=o30) ?_ ?_
     ·rintro s10j6 t H e ⟨t0j6,t1j6,t2j6,t10j6,t11j6,t48j6,t49j6,H0j6⟩ rfl
      try dsimp only at hh
      have bx29:=aJ hx29
      have ax29:=iY (pre:=pre) (post:=post) (eI .i64) hx29
      have fx29:=iZ (pre:=pre) (post:=post) (eI .i64) hx29
      simp only [cl] at ax29 fx29
      skip
      have p31:=wN (pre:=pre) (post:=post) (eI .i64) (y':=ng .and .i64 s10j6 1048575) hx29
      simp only [cl] at p31
      have up31:=p31
      simp only [putCells,List.length_cons,List.length_nil,Nat.zero_add,Nat.reduceAdd] at up31
      obtain ⟨x32,hx32,hh⟩:=ae hh
      obtain ⟨q33a,q33b⟩:=qH hx32
      cases hh
      try simp only [w,seval,-Int.reduceToNat,bx29,ax29,fx29,t0j6,t1j6,t2j6,t10j6,t11j6,t48j6,t49j6,H0j6,bx29,ax29,fx29,p31,up31,q33a,q33b]
      rw [aK]
      refine ⟨_,rfl,?_⟩
      refine ⟨?_,?_,?_,?_,?_,?_,?_⟩
      all_goals (first | rfl | (simp only [w,seval,-Int.reduceToNat,bx29,ax29,fx29,t0j6,t1j6,t2j6,t10j6,t11j6,t48j6,t49j6,H0j6,bx29,ax29,fx29,p31,up31,q33a,q33b] <;> rfl))
     ·
      clear hh
      have hh:=ho30
      try simp only [w,seval,-Int.reduceToNat,t0d,t1d,t2d,t10d,t48d,t49d,H0d,bx29,ax29,fx29]
      refine ai (fun hb34 => ?_) (fun hb34 => ?_)
      ·replace hh:=ak hb34 hh
       obtain ⟨x35,hx35,hh⟩:=ae hh
       have bx35:=aJ hx35
       have ax35:=aC (eI .i64) hx35
       have fx35:=aA (eI .i64) hx35
       simp only [cl] at ax35 fx35
       skip
       cases hh
       try simp only [w,seval,-Int.reduceToNat,t0d,t1d,t2d,t10d,t48d,t49d,H0d,bx29,ax29,fx29,bx35,ax35,fx35]
       rw [an]
       refine ⟨_,rfl,?_⟩
       refine ⟨?_,?_,?_,?_,?_,?_,?_,?_⟩
       all_goals (first | rfl | (simp only [w,seval,-Int.reduceToNat,t0d,t1d,t2d,t10d,t48d,t49d,H0d,bx29,ax29,fx29,bx35,ax35,fx35] <;> rfl))
      ·replace hh:=aj hb34 hh
       cases hh
       try simp only [w,seval,-Int.reduceToNat,t0d,t1d,t2d,t10d,t48d,t49d,H0d,bx29,ax29,fx29]
       rw [an]
       refine ⟨_,rfl,?_⟩
       refine ⟨?_,?_,?_,?_,?_,?_,?_,?_⟩
       all_goals (first | rfl | (simp only [w,seval,-Int.reduceToNat,t0d,t1d,t2d,t10d,t48d,t49d,H0d,bx29,ax29,fx29] <;> rfl))
    ·replace hh:=aj hb28 hh
     cases hh
     try simp only [w,seval,-Int.reduceToNat,t0d,t1d,t2d,t10d,t48d,t49d,H0d]
     rw [bk]
     refine ⟨_,rfl,?_⟩
     refine ⟨rfl,⟨?_,?_,?_⟩⟩
     all_goals (first | rfl | (simp only [w,seval,-Int.reduceToNat,t0d,t1d,t2d,t10d,t48d,t49d,H0d] <;> rfl))
   ·rintro x t H e hx
    obtain ⟨l0dx,rfl⟩ : ∃ z,z=o27:=⟨_,rfl⟩
    dsimp only at hx hh
    obtain ⟨rfl,⟨t0dx,t2dx,H0dx⟩⟩:=hx
    cases hh
    try simp only [w,seval,-Int.reduceToNat,t0dx,t2dx,H0dx]
theorem zL:bW Tryz.prog 165 ko:=bW.NW (mode := .clean) tok b7.none mixed Tryz.func165 (by kernel_rfl) ⟨by kernel_rfl,by kernel_rfl⟩ (fun _=>Nat.le_of_ble_eq_true (by kernel_rfl)) (fun pre post l x l' r h=>B4 pre post l x.1 x.2 (l',r) h)
noncomputable def s7:=eZ (eg (ie (eI .i64)) (ef (ie (eI .i64)))) (fun x:(List Int)×(List Int)=>pN x.1 x.2) (fun r:(List Int)×(List Int) => .clean (.tup [.sl false false r.1.length (ab (eI .i64) r.1),.sl false false r.2.length (ab (eI .i64) r.2)]))
theorem Fz (p0:(List Int)) (p1:(List Int)):s7 none [.sl false false p0.length (ab (eI .i64) p0),.sl false false p1.length (ab (eI .i64) p1)]=(pN p0 p1).map fun r:(List Int)×(List Int)=>(.clean (.tup [.sl false false r.1.length (ab (eI .i64) r.1),.sl false false r.2.length (ab (eI .i64) r.2)]),none):=aR _ _ _ (p0,p1)
noncomputable def xz:Env:=(Am.ext (Am.ext (Am.ext (Am.ext (Am.ext (Am.ext aB 65 false cv) 129 false iu) 162 false nQ) 163 false iR) 164 false mT) 165 true ko)
theorem Lv:b7 Tryz.prog xz:=((((((b7.none.add hZ false).add sJ false).add G9 false).add sK false).add Ch false).add zL true)
theorem BK:xz=(Am.ext (Am.ext (Am.ext (Am.ext (Am.ext (Am.ext aB 65 false cv) 129 false iu) 162 false nQ) 163 false iR) 164 false mT) 165 true ko):=Eq.trans rfl rfl
theorem aW:type_of% (And.intro @w <| And.intro @dt <| And.intro @lI <| And.intro @y7 <| And.intro @jR <| And.intro @mU <| @BK):=And.intro @w <| And.intro @dt <| And.intro @lI <| And.intro @y7 <| And.intro @jR <| And.intro @mU <| @BK
theorem Pq (p0:(List Int)) (p1:(List Int)) (r:(List Int)×(List Int)) (hh:pN p0 p1=some r):aX .clean tab xz FU Tryz.f125 none [.sl false false p0.length (ab (eI .i64) p0),.sl false false p1.length (ab (eI .i64) p1)]=some (.clean (.tup [.sl false false r.1.length (ab (eI .i64) r.1),.sl false false r.2.length (ab (eI .i64) r.2)]),none):=by
 refine ay rfl Tryz.ntmps125 Tryz.results125 ?_
 unfold pN at hh
 obtain ⟨r1,hr1,hh⟩:=ae hh
 try simp only [aW,seval,-Int.reduceToNat,hr1]
 refine ai (fun hb2 => ?_) (fun hb2 => ?_)
 ·replace hh:=ak hb2 hh
  obtain ⟨r3,hr3,hh⟩:=ae hh
  cases hh
  try simp only [aW,seval,-Int.reduceToNat,hr1,hr3]
 ·replace hh:=aj hb2 hh
  try simp only [aW,seval,-Int.reduceToNat,hr1]
  refine ai (fun hb4 => ?_) (fun hb4 => ?_)
  ·replace hh:=ak hb4 hh
   obtain ⟨x5,hx5,hh⟩:=ae hh
   have bx5:=aJ hx5
   have ax5:=aC (eI .i64) hx5
   have fx5:=aA (eI .i64) hx5
   simp only [cl] at ax5 fx5
   skip
   obtain ⟨r6,hr6,hh⟩:=ae hh
   have i7:=jR ([r6.2])
   simp only [aS,cl,List.length_cons,List.length_nil,Nat.zero_add,Nat.reduceAdd,List.length_set] at i7
   obtain ⟨r8,hr8,hh⟩:=ae hh
   cases hh
   try simp only [aW,seval,-Int.reduceToNat,hr1,bx5,ax5,fx5,hr6,i7,hr8]
  ·replace hh:=aj hb4 hh
   try simp only [aW,seval,-Int.reduceToNat,hr1]
   obtain ⟨o11,ho11,hh⟩:=ae hh
   refine aD (fun s t H e=>match s with | s8a=>t 0 = .sl false false p0.length (ab (eI .i64) p0)∧t 1 = .sl false false p1.length (ab (eI .i64) p1)∧t 8 = .int .i64 s8a) (fun o x t H e=>match o with | s8ax=>x = .exit 0∧t 0 = .sl false false p0.length (ab (eI .i64) p0)∧t 1 = .sl false false p1.length (ab (eI .i64) p1)∧t 8 = .int .i64 s8ax) ho11 ?_ ?_ ?_
   ·
    refine ⟨?_,?_,?_⟩
    all_goals (first | rfl | (simp only [aW,seval,-Int.reduceToNat,hr1] <;> rfl))
   ·rintro s8a t H e ⟨t0a,t1a,t8a⟩ c hh
    simp only [pO] at hh
    obtain ⟨x12,hx12,hh⟩:=ae hh
    have bx12:=aJ hx12
    have ax12:=aC (eI .i64) hx12
    have fx12:=aA (eI .i64) hx12
    simp only [cl] at ax12 fx12
    skip
    try simp only [aW,seval,-Int.reduceToNat,hr1,t0a,t1a,t8a,bx12,ax12,fx12]
    refine ai (fun hb13 => ?_) (fun hb13 => ?_)
    ·replace hh:=ak hb13 hh
     cases hh
     try simp only [aW,seval,-Int.reduceToNat,hr1,t0a,t1a,t8a,bx12,ax12,fx12]
     rw [aK]
     refine ⟨_,rfl,?_⟩
     refine ⟨?_,?_,?_⟩
     all_goals (first | rfl | (simp only [aW,seval,-Int.reduceToNat,hr1,t0a,t1a,t8a,bx12,ax12,fx12] <;> rfl))
    ·replace hh:=aj hb13 hh
     cases hh
     try simp only [aW,seval,-Int.reduceToNat,hr1,t0a,t1a,t8a,bx12,ax12,fx12]
     rw [bk]
     refine ⟨_,rfl,?_⟩
     refine ⟨rfl,⟨?_,?_,?_⟩⟩
     all_goals (first | rfl | (simp only [aW,seval,-Int.reduceToNat,hr1,t0a,t1a,t8a,bx12,ax12,fx12] <;> rfl))
   ·rintro x t H e hx
    obtain ⟨s8ax,rfl⟩ : ∃ z,z=o11:=⟨_,rfl⟩
    dsimp only at hx hh
    obtain ⟨rfl,⟨t0ax,t1ax,t8ax⟩⟩:=hx
    have i14:=mU p0 ([s8ax])
    simp only [aS,cl,List.length_cons,List.length_nil,Nat.zero_add,Nat.reduceAdd,List.length_set] at i14
    obtain ⟨r15,hr15,hh⟩:=ae hh
    obtain ⟨x16,hx16,hh⟩:=ae hh
    obtain ⟨q17a,q17b,q17c,q17d⟩:=fS (eI .i64) hx16
    simp only [cl] at q17b
    have i18:=mU p1 ([s8ax])
    simp only [aS,cl,List.length_cons,List.length_nil,Nat.zero_add,Nat.reduceAdd,List.length_set] at i18
    obtain ⟨r19,hr19,hh⟩:=ae hh
    try simp only [aW,seval,-Int.reduceToNat,hr1,t0ax,t1ax,t8ax,i14,hr15,q17a,q17b,q17c,q17d,i18,hr19]
    obtain ⟨o20,ho20,hh⟩:=ae hh
    refine l7 0 (fun s t H e=>match s with | l9j2=>∃ v9j2:Nat,∃ v10j2:Nat,t 8 = .int .i64 s8ax∧t 9 = .buf 9 v9j2 1 0 (l9j2).length∧t 10 = .buf 10 v10j2 1 0 (r19).length∧H 9=some ⟨v9j2,3,ab (eI .i64) l9j2,false,true,false⟩∧H 10=some ⟨v10j2,3,ab (eI .i64) r19,false,true,false⟩) (fun s=>s=o20) ?_ ?_
    ·rintro l9j2 t H e ⟨v9j2,v10j2,t8j2,t9j2,t10j2,H9j2,H10j2⟩ rfl
     try dsimp only at hh
     obtain ⟨x21,hx21,hh⟩:=ae hh
     obtain ⟨q22a,q22b,q22c,q22d,q22e⟩:=mk_one (eI .i64) hx21
     simp only [cl] at q22d
     try simp only [aW,seval,-Int.reduceToNat,hr1,i14,hr15,q17a,q17b,q17c,q17d,i18,hr19,t8j2,t9j2,t10j2,H9j2,H10j2,q22a,q22b,q22c,q22d,q22e]
     obtain ⟨o58,ho58,hh⟩:=ae hh
     refine aD (fun s t H e=>match s with | (s13c,l9c,l12c)=>∃ v9c:Nat,∃ v10c:Nat,∃ v12c:Nat,∃ z10c:Bool,t 8 = .int .i64 s8ax∧t 9 = .buf 9 v9c 1 0 (l9c).length∧t 10 = .buf 10 v10c 1 0 (r19).length∧t 11 = .int .i64 ((r19).length:Int)∧t 12 = .buf 12 v12c 1 0 (l12c).length∧t 13 = .int .i64 s13c∧H 9=some ⟨v9c,3,ab (eI .i64) l9c,false,true,false⟩∧H 10=some ⟨v10c,3,ab (eI .i64) r19,z10c,true,false⟩∧H 12=some ⟨v12c,3,ab (eI .i64) l12c,false,true,false⟩) (fun o x t H e=>match o with | (l9cx,l12cx)=>x = .exit 2∧∃ v9cx:Nat,∃ v12cx:Nat,t 8 = .int .i64 s8ax∧t 9 = .buf 9 v9cx 1 0 (l9cx).length∧t 12 = .buf 12 v12cx 1 0 (l12cx).length∧H 9=some ⟨v9cx,3,ab (eI .i64) l9cx,false,true,false⟩∧H 12=some ⟨v12cx,3,ab (eI .i64) l12cx,false,true,false⟩) ho58 ?_ ?_ ?_
     ·
      refine ⟨v9j2,v10j2,e+1,false,?_,?_,?_,?_,?_,?_,?_,?_,?_⟩
      all_goals (first | rfl | (simp only [aW,seval,-Int.reduceToNat,hr1,i14,hr15,q17a,q17b,q17c,q17d,i18,hr19,t8j2,t9j2,t10j2,H9j2,H10j2,q22a,q22b,q22c,q22d,q22e] <;> rfl))
     ·rintro ⟨s13c,l9c,l12c⟩ t H e ⟨v9c,v10c,v12c,z10c,t8c,t9c,t10c,t11c,t12c,t13c,H9c,H10c,H12c⟩ c hh
      simp only [pP] at hh
      try simp only [aW,seval,-Int.reduceToNat,hr1,i14,hr15,q17a,q17b,q17c,q17d,i18,hr19,q22a,q22b,q22c,q22d,q22e,t8c,t9c,t10c,t11c,t12c,t13c,H9c,H10c,H12c]
      refine ai (fun hb59 => ?_) (fun hb59 => ?_)
      ·replace hh:=ak hb59 hh
       obtain ⟨x60,hx60,hh⟩:=ae hh
       have bx60:=aJ hx60
       have ax60:=aC (eI .i64) hx60
       have fx60:=aA (eI .i64) hx60
       simp only [cl] at ax60 fx60
       skip
       obtain ⟨x61,hx61,hh⟩:=ae hh
       obtain ⟨q62a,q62b⟩:=Ae hx61
       obtain ⟨x63,hx63,hh⟩:=ae hh
       have bx63:=aJ hx63
       have ax63:=aC (eI .i64) hx63
       have fx63:=aA (eI .i64) hx63
       simp only [cl] at ax63 fx63
       skip
       try simp only [aW,seval,-Int.reduceToNat,hr1,i14,hr15,q17a,q17b,q17c,q17d,i18,hr19,q22a,q22b,q22c,q22d,q22e,t8c,t9c,t10c,t11c,t12c,t13c,H9c,H10c,H12c,bx60,ax60,fx60,q62a,q62b,bx63,ax63,fx63]
       refine cI (by kernel_rfl) ?_
       obtain ⟨x64,hx64,hh⟩:=ae hh
       have bx64:=aJ hx64
       have ax64:=aC (eI .i64) hx64
       have fx64:=aA (eI .i64) hx64
       simp only [cl] at ax64 fx64
       skip
       obtain ⟨x65,hx65,hh⟩:=ae hh
       obtain ⟨q66a,q66b⟩:=pU hx65
       have bx64:=aJ hx64
       have ax64:=aC (eI .i64) hx64
       have fx64:=aA (eI .i64) hx64
       simp only [cl] at ax64 fx64
       skip
       obtain ⟨x67,hx67,hh⟩:=ae hh
       obtain ⟨q68a,q68b⟩:=qm hx67
       try simp only [aW,seval,-Int.reduceToNat,hr1,i14,hr15,q17a,q17b,q17c,q17d,i18,hr19,q22a,q22b,q22c,q22d,q22e,t8c,t9c,t10c,t11c,t12c,t13c,H9c,H10c,H12c,bx60,ax60,fx60,q62a,q62b,bx63,ax63,fx63,bx64,ax64,fx64,q66a,q66b,bx64,ax64,fx64,q68a,q68b]
       refine cI (by kernel_rfl) ?_
       try simp only [aW,seval,-Int.reduceToNat,hr1,i14,hr15,q17a,q17b,q17c,q17d,i18,hr19,q22a,q22b,q22c,q22d,q22e,t8c,t9c,t10c,t11c,t12c,t13c,H9c,H10c,H12c,bx60,ax60,fx60,q62a,q62b,bx63,ax63,fx63,bx64,ax64,fx64,q66a,q66b,bx64,ax64,fx64,q68a,q68b]
       obtain ⟨o78,ho78,hh⟩:=ae hh
       refine aD (fun s t H e=>match s with | (s15g,s16g)=>∃ v9g:Nat,∃ v10g:Nat,∃ v12g:Nat,∃ z10g:Bool,t 8 = .int .i64 s8ax∧t 9 = .buf 9 v9g 1 0 (l9c).length∧t 10 = .buf 10 v10g 1 0 (r19).length∧t 11 = .int .i64 ((r19).length:Int)∧t 12 = .buf 12 v12g 1 0 (l12c).length∧t 13 = .int .i64 s13c∧t 15 = .int .i64 s15g∧t 16 = .int .i64 s16g∧H 9=some ⟨v9g,3,ab (eI .i64) l9c,false,true,false⟩∧H 10=some ⟨v10g,3,ab (eI .i64) r19,z10g,true,false⟩∧H 12=some ⟨v12g,3,ab (eI .i64) l12c,false,true,false⟩) (fun o x t H e=>match o with | s15gx=>x = .exit 4∧∃ v9gx:Nat,∃ v10gx:Nat,∃ v12gx:Nat,∃ z10gx:Bool,t 8 = .int .i64 s8ax∧t 9 = .buf 9 v9gx 1 0 (l9c).length∧t 10 = .buf 10 v10gx 1 0 (r19).length∧t 11 = .int .i64 ((r19).length:Int)∧t 12 = .buf 12 v12gx 1 0 (l12c).length∧t 13 = .int .i64 s13c∧t 15 = .int .i64 s15gx∧H 9=some ⟨v9gx,3,ab (eI .i64) l9c,false,true,false⟩∧H 10=some ⟨v10gx,3,ab (eI .i64) r19,z10gx,true,false⟩∧H 12=some ⟨v12gx,3,ab (eI .i64) l12c,false,true,false⟩) ho78 ?_ ?_ ?_
       ·
        refine ⟨v9c,v10c,v12c,z10c,?_,?_,?_,?_,?_,?_,?_,?_,?_,?_,?_⟩
        all_goals (first | rfl | (simp only [aW,seval,-Int.reduceToNat,hr1,i14,hr15,q17a,q17b,q17c,q17d,i18,hr19,q22a,q22b,q22c,q22d,q22e,t8c,t9c,t10c,t11c,t12c,t13c,H9c,H10c,H12c,bx60,ax60,fx60,q62a,q62b,bx63,ax63,fx63,bx64,ax64,fx64,q66a,q66b,bx64,ax64,fx64,q68a,q68b] <;> rfl))
       ·rintro ⟨s15g,s16g⟩ t H e ⟨v9g,v10g,v12g,z10g,t8g,t9g,t10g,t11g,t12g,t13g,t15g,t16g,H9g,H10g,H12g⟩ c hh
        simp only [pQ] at hh
        try simp only [aW,seval,-Int.reduceToNat,hr1,i14,hr15,q17a,q17b,q17c,q17d,i18,hr19,q22a,q22b,q22c,q22d,q22e,bx60,ax60,fx60,q62a,q62b,bx63,ax63,fx63,bx64,ax64,fx64,q66a,q66b,bx64,ax64,fx64,q68a,q68b,t8g,t9g,t10g,t11g,t12g,t13g,t15g,t16g,H9g,H10g,H12g]
        obtain ⟨o79,ho79,hh⟩:=ae hh
        refine KT 0 (fun s t H e=>match s with | s137j9=>∃ v9j9:Nat,∃ v10j9:Nat,∃ v12j9:Nat,∃ z10j9:Bool,t 8 = .int .i64 s8ax∧t 9 = .buf 9 v9j9 1 0 (l9c).length∧t 10 = .buf 10 v10j9 1 0 (r19).length∧t 11 = .int .i64 ((r19).length:Int)∧t 12 = .buf 12 v12j9 1 0 (l12c).length∧t 13 = .int .i64 s13c∧t 15 = .int .i64 s15g∧t 16 = .int .i64 s16g∧t 137 = .bool s137j9∧H 9=some ⟨v9j9,3,ab (eI .i64) l9c,false,true,false⟩∧H 10=some ⟨v10j9,3,ab (eI .i64) r19,z10j9,true,false⟩∧H 12=some ⟨v12j9,3,ab (eI .i64) l12c,false,true,false⟩) (fun s=>s=o79) ?_ ?_
        ·rintro s137j9 t H e ⟨v9j9,v10j9,v12j9,z10j9,t8j9,t9j9,t10j9,t11j9,t12j9,t13j9,t15j9,t16j9,t137j9,H9j9,H10j9,H12j9⟩ rfl
         try dsimp only at hh
         try simp only [aW,seval,-Int.reduceToNat,hr1,i14,hr15,q17a,q17b,q17c,q17d,i18,hr19,q22a,q22b,q22c,q22d,q22e,bx60,ax60,fx60,q62a,q62b,bx63,ax63,fx63,bx64,ax64,fx64,q66a,q66b,bx64,ax64,fx64,q68a,q68b,t8j9,t9j9,t10j9,t11j9,t12j9,t13j9,t15j9,t16j9,t137j9,H9j9,H10j9,H12j9]
         refine ai (fun hb80 => ?_) (fun hb80 => ?_)
         ·replace hh:=ak hb80 hh
          have bx64:=aJ hx64
          have ax64:=aC (eI .i64) hx64
          have fx64:=aA (eI .i64) hx64
          simp only [cl] at ax64 fx64
          skip
          cases hh
          try simp only [aW,seval,-Int.reduceToNat,hr1,i14,hr15,q17a,q17b,q17c,q17d,i18,hr19,q22a,q22b,q22c,q22d,q22e,bx60,ax60,fx60,q62a,q62b,bx63,ax63,fx63,bx64,ax64,fx64,q66a,q66b,bx64,ax64,fx64,q68a,q68b,t8j9,t9j9,t10j9,t11j9,t12j9,t13j9,t15j9,t16j9,t137j9,H9j9,H10j9,H12j9,bx64,ax64,fx64]
          rw [aK]
          refine ⟨_,rfl,?_⟩
          refine ⟨v9j9,v10j9,v12j9,z10j9,?_,?_,?_,?_,?_,?_,?_,?_,?_,?_,?_⟩
          all_goals (first | rfl | (simp only [aW,seval,-Int.reduceToNat,hr1,i14,hr15,q17a,q17b,q17c,q17d,i18,hr19,q22a,q22b,q22c,q22d,q22e,bx60,ax60,fx60,q62a,q62b,bx63,ax63,fx63,bx64,ax64,fx64,q66a,q66b,bx64,ax64,fx64,q68a,q68b,t8j9,t9j9,t10j9,t11j9,t12j9,t13j9,t15j9,t16j9,t137j9,H9j9,H10j9,H12j9,bx64,ax64,fx64] <;> rfl))
         ·replace hh:=aj hb80 hh
          cases hh
          try simp only [aW,seval,-Int.reduceToNat,hr1,i14,hr15,q17a,q17b,q17c,q17d,i18,hr19,q22a,q22b,q22c,q22d,q22e,bx60,ax60,fx60,q62a,q62b,bx63,ax63,fx63,bx64,ax64,fx64,q66a,q66b,bx64,ax64,fx64,q68a,q68b,t8j9,t9j9,t10j9,t11j9,t12j9,t13j9,t15j9,t16j9,t137j9,H9j9,H10j9,H12j9]
          rw [bk]
          refine ⟨_,rfl,?_⟩
          refine ⟨rfl,⟨v9j9,v10j9,v12j9,z10j9,?_,?_,?_,?_,?_,?_,?_,?_,?_,?_⟩⟩
          all_goals (first | rfl | (simp only [aW,seval,-Int.reduceToNat,hr1,i14,hr15,q17a,q17b,q17c,q17d,i18,hr19,q22a,q22b,q22c,q22d,q22e,bx60,ax60,fx60,q62a,q62b,bx63,ax63,fx63,bx64,ax64,fx64,q66a,q66b,bx64,ax64,fx64,q68a,q68b,t8j9,t9j9,t10j9,t11j9,t12j9,t13j9,t15j9,t16j9,t137j9,H9j9,H10j9,H12j9] <;> rfl))
        ·
         clear hh
         have hh:=ho79
         try simp only [aW,seval,-Int.reduceToNat,hr1,i14,hr15,q17a,q17b,q17c,q17d,i18,hr19,q22a,q22b,q22c,q22d,q22e,bx60,ax60,fx60,q62a,q62b,bx63,ax63,fx63,bx64,ax64,fx64,q66a,q66b,bx64,ax64,fx64,q68a,q68b,t8g,t9g,t10g,t11g,t12g,t13g,t15g,t16g,H9g,H10g,H12g]
         refine SK (fun hb81 => ?_) (fun hb81 => ?_)
         ·replace hh:=ak hb81 hh
          try simp only [aW,seval,-Int.reduceToNat,hr1,i14,hr15,q17a,q17b,q17c,q17d,i18,hr19,q22a,q22b,q22c,q22d,q22e,bx60,ax60,fx60,q62a,q62b,bx63,ax63,fx63,bx64,ax64,fx64,q66a,q66b,bx64,ax64,fx64,q68a,q68b,t8g,t9g,t10g,t11g,t12g,t13g,t15g,t16g,H9g,H10g,H12g]
          refine cI (by kernel_rfl) ?_
          cases hh
          try simp only [aW,seval,-Int.reduceToNat,hr1,i14,hr15,q17a,q17b,q17c,q17d,i18,hr19,q22a,q22b,q22c,q22d,q22e,bx60,ax60,fx60,q62a,q62b,bx63,ax63,fx63,bx64,ax64,fx64,q66a,q66b,bx64,ax64,fx64,q68a,q68b,t8g,t9g,t10g,t11g,t12g,t13g,t15g,t16g,H9g,H10g,H12g]
          rw [an]
          refine ⟨_,rfl,?_⟩
          refine ⟨v9g,v10g,v12g,z10g,?_,?_,?_,?_,?_,?_,?_,?_,?_,?_,?_,?_⟩
          all_goals (first | rfl | (simp only [aW,seval,-Int.reduceToNat,hr1,i14,hr15,q17a,q17b,q17c,q17d,i18,hr19,q22a,q22b,q22c,q22d,q22e,bx60,ax60,fx60,q62a,q62b,bx63,ax63,fx63,bx64,ax64,fx64,q66a,q66b,bx64,ax64,fx64,q68a,q68b,t8g,t9g,t10g,t11g,t12g,t13g,t15g,t16g,H9g,H10g,H12g] <;> rfl))
         ·replace hh:=aj hb81 hh
          try simp only [aW,seval,-Int.reduceToNat,hr1,i14,hr15,q17a,q17b,q17c,q17d,i18,hr19,q22a,q22b,q22c,q22d,q22e,bx60,ax60,fx60,q62a,q62b,bx63,ax63,fx63,bx64,ax64,fx64,q66a,q66b,bx64,ax64,fx64,q68a,q68b,t8g,t9g,t10g,t11g,t12g,t13g,t15g,t16g,H9g,H10g,H12g]
          refine xa (fun hb82 => ?_) (fun hb82 => ?_)
          ·replace hh:=ak hb82 hh
           obtain ⟨x83,hx83,hh⟩:=ae hh
           have bx83:=aJ hx83
           have ax83:=aC (eI .i64) hx83
           have fx83:=aA (eI .i64) hx83
           simp only [cl] at ax83 fx83
           skip
           obtain ⟨x84,hx84,hh⟩:=ae hh
           obtain ⟨q85a,q85b⟩:=Ae hx84
           obtain ⟨x86,hx86,hh⟩:=ae hh
           have bx86:=aJ hx86
           have ax86:=aC (eI .i64) hx86
           have fx86:=aA (eI .i64) hx86
           simp only [cl] at ax86 fx86
           skip
           try simp only [aW,seval,-Int.reduceToNat,hr1,i14,hr15,q17a,q17b,q17c,q17d,i18,hr19,q22a,q22b,q22c,q22d,q22e,bx60,ax60,fx60,q62a,q62b,bx63,ax63,fx63,bx64,ax64,fx64,q66a,q66b,bx64,ax64,fx64,q68a,q68b,t8g,t9g,t10g,t11g,t12g,t13g,t15g,t16g,H9g,H10g,H12g,bx83,ax83,fx83,q85a,q85b,bx86,ax86,fx86]
           refine cI (by kernel_rfl) ?_
           cases hh
           try simp only [aW,seval,-Int.reduceToNat,hr1,i14,hr15,q17a,q17b,q17c,q17d,i18,hr19,q22a,q22b,q22c,q22d,q22e,bx60,ax60,fx60,q62a,q62b,bx63,ax63,fx63,bx64,ax64,fx64,q66a,q66b,bx64,ax64,fx64,q68a,q68b,t8g,t9g,t10g,t11g,t12g,t13g,t15g,t16g,H9g,H10g,H12g,bx83,ax83,fx83,q85a,q85b,bx86,ax86,fx86]
           rw [an]
           refine ⟨_,rfl,?_⟩
           refine ⟨v9g,v10g,v12g,z10g,?_,?_,?_,?_,?_,?_,?_,?_,?_,?_,?_,?_⟩
           all_goals (first | rfl | (simp only [aW,seval,-Int.reduceToNat,hr1,i14,hr15,q17a,q17b,q17c,q17d,i18,hr19,q22a,q22b,q22c,q22d,q22e,bx60,ax60,fx60,q62a,q62b,bx63,ax63,fx63,bx64,ax64,fx64,q66a,q66b,bx64,ax64,fx64,q68a,q68b,t8g,t9g,t10g,t11g,t12g,t13g,t15g,t16g,H9g,H10g,H12g,bx83,ax83,fx83,q85a,q85b,bx86,ax86,fx86] <;> rfl))
          ·replace hh:=aj hb82 hh
           try simp only [aW,seval,-Int.reduceToNat,hr1,i14,hr15,q17a,q17b,q17c,q17d,i18,hr19,q22a,q22b,q22c,q22d,q22e,bx60,ax60,fx60,q62a,q62b,bx63,ax63,fx63,bx64,ax64,fx64,q66a,q66b,bx64,ax64,fx64,q68a,q68b,t8g,t9g,t10g,t11g,t12g,t13g,t15g,t16g,H9g,H10g,H12g]
           refine cI (by kernel_rfl) ?_
           cases hh
           try simp only [aW,seval,-Int.reduceToNat,hr1,i14,hr15,q17a,q17b,q17c,q17d,i18,hr19,q22a,q22b,q22c,q22d,q22e,bx60,ax60,fx60,q62a,q62b,bx63,ax63,fx63,bx64,ax64,fx64,q66a,q66b,bx64,ax64,fx64,q68a,q68b,t8g,t9g,t10g,t11g,t12g,t13g,t15g,t16g,H9g,H10g,H12g]
           rw [an]
           refine ⟨_,rfl,?_⟩
           refine ⟨v9g,v10g,v12g,z10g,?_,?_,?_,?_,?_,?_,?_,?_,?_,?_,?_,?_⟩
           all_goals (first | rfl | (simp only [aW,seval,-Int.reduceToNat,hr1,i14,hr15,q17a,q17b,q17c,q17d,i18,hr19,q22a,q22b,q22c,q22d,q22e,bx60,ax60,fx60,q62a,q62b,bx63,ax63,fx63,bx64,ax64,fx64,q66a,q66b,bx64,ax64,fx64,q68a,q68b,t8g,t9g,t10g,t11g,t12g,t13g,t15g,t16g,H9g,H10g,H12g] <;> rfl))
       ·rintro x t H e hx
        obtain ⟨s15gx,rfl⟩ : ∃ z,z=o78:=⟨_,rfl⟩
        dsimp only at hx hh
        obtain ⟨rfl,⟨v9gx,v10gx,v12gx,z10gx,t8gx,t9gx,t10gx,t11gx,t12gx,t13gx,t15gx,H9gx,H10gx,H12gx⟩⟩:=hx
        obtain ⟨x87,hx87,hh⟩:=ae hh
        obtain ⟨q88a,q88b,q88c,q88d,q88e⟩:=Vm (eI .i64) hx87
        simp only [cl] at q88e
        skip
        have i89:=Cr (ab (eI .i64) (l9c.take (s13c).toNat)) (ab (eI .i64) (l9c.drop (IntKind.i64.wrap ((IntKind.i64.wrap (s13c+((r19).length:Int)))+1)).toNat)) x87 r19 s15gx
        simp only [TZ,T0 (eI .i64) hx87,T1 (eI .i64) hx87,UJ hx87,cl,Int.toNat_zero,Nat.zero_mul,Nat.sub_zero] at i89
        obtain ⟨r90,hr90,hh⟩:=ae hh
        have q91l:=xL hr90
        have q91m:=SR hx87 q91l
        obtain ⟨x92,hx92,hh⟩:=ae hh
        have bx92:=aJ hx92
        have ax92:=aC (eI .i64) hx92
        have fx92:=aA (eI .i64) hx92
        simp only [cl] at ax92 fx92
        skip
        have p93:=og (eI .i64) (x':=r90.2) (fo:=0) (cs:=[.int .i64 r90.2]) hx92 rfl (Nat.le_of_ble_eq_true rfl)
        simp only [cl,Nat.add_zero] at p93
        have up93:=p93
        simp only [putCells,List.length_cons,List.length_nil,Nat.zero_add,Nat.reduceAdd] at up93
        cases hh
        try simp only [aW,seval,-Int.reduceToNat,hr1,i14,hr15,q17a,q17b,q17c,q17d,i18,hr19,q22a,q22b,q22c,q22d,q22e,bx60,ax60,fx60,q62a,q62b,bx63,ax63,fx63,bx64,ax64,fx64,q66a,q66b,bx64,ax64,fx64,q68a,q68b,t8gx,t9gx,t10gx,t11gx,t12gx,t13gx,t15gx,H9gx,H10gx,H12gx,q88a,q88b,q88c,q88e,i89,hr90,q91m,bx92,ax92,fx92,p93,up93]
        rw [aK]
        refine ⟨_,rfl,?_⟩
        refine ⟨v9gx,v10gx,v12gx,true,?_,?_,?_,?_,?_,?_,?_,?_,?_⟩
        all_goals (first | rfl | (simp only [aW,seval,-Int.reduceToNat,hr1,i14,hr15,q17a,q17b,q17c,q17d,i18,hr19,q22a,q22b,q22c,q22d,q22e,bx60,ax60,fx60,q62a,q62b,bx63,ax63,fx63,bx64,ax64,fx64,q66a,q66b,bx64,ax64,fx64,q68a,q68b,t8gx,t9gx,t10gx,t11gx,t12gx,t13gx,t15gx,H9gx,H10gx,H12gx,q88a,q88b,q88c,q88e,i89,hr90,q91m,bx92,ax92,fx92,p93,up93] <;> rfl))
      ·replace hh:=aj hb59 hh
       cases hh
       try simp only [aW,seval,-Int.reduceToNat,hr1,i14,hr15,q17a,q17b,q17c,q17d,i18,hr19,q22a,q22b,q22c,q22d,q22e,t8c,t9c,t10c,t11c,t12c,t13c,H9c,H10c,H12c]
       rw [bk]
       refine ⟨_,rfl,?_⟩
       refine ⟨rfl,⟨v9c,v12c,?_,?_,?_,?_,?_⟩⟩
       all_goals (first | rfl | (simp only [aW,seval,-Int.reduceToNat,hr1,i14,hr15,q17a,q17b,q17c,q17d,i18,hr19,q22a,q22b,q22c,q22d,q22e,t8c,t9c,t10c,t11c,t12c,t13c,H9c,H10c,H12c] <;> rfl))
     ·rintro x t H e hx
      rcases o58 with ⟨l9cx,l12cx⟩
      dsimp only at hx hh
      obtain ⟨rfl,⟨v9cx,v12cx,t8cx,t9cx,t12cx,H9cx,H12cx⟩⟩:=hx
      obtain ⟨r94,hr94,hh⟩:=ae hh
      obtain ⟨r95,hr95,hh⟩:=ae hh
      obtain ⟨r96,hr96,hh⟩:=ae hh
      cases hh
      try simp only [aW,seval,-Int.reduceToNat,hr1,i14,hr15,q17a,q17b,q17c,q17d,i18,hr19,q22a,q22b,q22c,q22d,q22e,t8cx,t9cx,t12cx,H9cx,H12cx,hr94,hr95,hr96]
    ·
     clear hh
     have hh:=ho20
     try simp only [aW,seval,-Int.reduceToNat,hr1,t0ax,t1ax,t8ax,i14,hr15,q17a,q17b,q17c,q17d,i18,hr19]
     refine ai (fun hb97 => ?_) (fun hb97 => ?_)
     ·replace hh:=ak hb97 hh
      obtain ⟨x98,hx98,hh⟩:=ae hh
      obtain ⟨q99a,q99b,q99c,q99d⟩:=fS (eI .i64) hx98
      simp only [cl] at q99b
      cases hh
      try simp only [aW,seval,-Int.reduceToNat,hr1,t0ax,t1ax,t8ax,i14,hr15,q17a,q17b,q17c,q17d,i18,hr19,q99a,q99b,q99c,q99d]
      rw [an]
      refine ⟨_,rfl,?_⟩
      refine ⟨e+1+1,e,?_,?_,?_,?_,?_⟩
      all_goals (first | rfl | (simp only [aW,seval,-Int.reduceToNat,hr1,t0ax,t1ax,t8ax,i14,hr15,q17a,q17b,q17c,q17d,i18,hr19,q99a,q99b,q99c,q99d] <;> rfl))
     ·replace hh:=aj hb97 hh
      cases hh
      try simp only [aW,seval,-Int.reduceToNat,hr1,t0ax,t1ax,t8ax,i14,hr15,q17a,q17b,q17c,q17d,i18,hr19]
      rw [an]
      refine ⟨_,rfl,?_⟩
      refine ⟨e,e,?_,?_,?_,?_,?_⟩
      all_goals (first | rfl | (simp only [aW,seval,-Int.reduceToNat,hr1,t0ax,t1ax,t8ax,i14,hr15,q17a,q17b,q17c,q17d,i18,hr19] <;> rfl))
theorem L9:bW Tryz.prog 125 s7:=bW.of (mode := .clean) tok Lv mixed Tryz.func125 (by kernel_rfl) ⟨by kernel_rfl,by kernel_rfl⟩ (fun _=>Nat.le_of_ble_eq_true (by kernel_rfl)) (fun x r h=>Pq x.1 x.2 r h)
noncomputable def fQ:=eZ (eg (aI .i64) (ef (ie (eI .i64)))) (fun x:Int×(List Int)=>fD x.1 x.2) (fun r:aw => .clean (.agg [.int .i64 r.ag,.sl false false r.aa.length (ab (eI .i64) r.aa)]))
theorem jo (p0:Int) (p1:(List Int)):fQ none [.int .i64 p0,.sl false false p1.length (ab (eI .i64) p1)]=(fD p0 p1).map fun r:aw=>(.clean (.agg [.int .i64 r.ag,.sl false false r.aa.length (ab (eI .i64) r.aa)]),none):=aR _ _ _ (p0,p1)
noncomputable def pW:Env:=(Am.ext aB 163 false iR)
theorem Df:b7 Tryz.prog pW:=(b7.none.add sK false)
theorem uo:pW=(Am.ext aB 163 false iR):=Eq.trans rfl rfl
theorem qL:type_of% (And.intro @w <| And.intro @jR <| @uo):=And.intro @w <| And.intro @jR <| @uo
theorem GP (p0:Int) (p1:(List Int)) (r:aw) (hh:fD p0 p1=some r):aX .clean tab pW FU Tryz.f126 none [.int .i64 p0,.sl false false p1.length (ab (eI .i64) p1)]=some (.clean (.agg [.int .i64 r.ag,.sl false false r.aa.length (ab (eI .i64) r.aa)]),none):=by
 refine ay rfl Tryz.ntmps126 Tryz.results126 ?_
 unfold fD at hh
 obtain ⟨r1,hr1,hh⟩:=ae hh
 try simp only [qL,seval,-Int.reduceToNat,hr1]
 refine ai (fun hb2 => ?_) (fun hb2 => ?_)
 ·replace hh:=ak hb2 hh
  cases hh
  try simp only [qL,seval,-Int.reduceToNat,hr1]
 ·replace hh:=aj hb2 hh
  cases hh
  try simp only [qL,seval,-Int.reduceToNat,hr1]
theorem oN:bW Tryz.prog 126 fQ:=bW.of (mode := .clean) tok Df mixed Tryz.func126 (by kernel_rfl) ⟨by kernel_rfl,by kernel_rfl⟩ (fun _=>Nat.le_of_ble_eq_true (by kernel_rfl)) (fun x r h=>GP x.1 x.2 r h)
noncomputable def sZ:=eZ (eg (dO ij) (ef (dO ij))) (fun x:aw×aw=>pJ x.1 x.2) (fun r:aw×Int => .clean (.tup [.agg [.int .i64 r.1.ag,.sl false false r.1.aa.length (ab (eI .i64) r.1.aa)],.int .i64 r.2]))
theorem Fw (p0_0:Int) (p0_1:(List Int)) (p1_0:Int) (p1_1:(List Int)):sZ none [.agg [.int .i64 p0_0,.sl false false p0_1.length (ab (eI .i64) p0_1)],.agg [.int .i64 p1_0,.sl false false p1_1.length (ab (eI .i64) p1_1)]]=(pJ (aw.mk p0_0 p0_1) (aw.mk p1_0 p1_1)).map fun r:aw×Int=>(.clean (.tup [.agg [.int .i64 r.1.ag,.sl false false r.1.aa.length (ab (eI .i64) r.1.aa)],.int .i64 r.2]),none):=aR _ _ _ ((aw.mk p0_0 p0_1),(aw.mk p1_0 p1_1))
noncomputable def xw:Env:=(Am.keep 6 (Am.ext (Am.ext (Am.ext (Am.ext (Am.ext aB 65 false cv) 97 false ep) 124 false ir) 125 false s7) 126 false fQ))
theorem Ls:b7 Tryz.prog xw:=(b7.keep (((((b7.none.add hZ false).add kC false).add sI false).add L9 false).add oN false) 6)
theorem BH:xw=(Am.keep 6 (Am.ext (Am.ext (Am.ext (Am.ext (Am.ext aB 65 false cv) 97 false ep) 124 false ir) 125 false s7) 126 false fQ)):=Eq.trans rfl rfl
theorem dJ:type_of% (And.intro @w <| And.intro @dt <| And.intro @fu <| And.intro @iD <| And.intro @Fz <| And.intro @jo <| @BH):=And.intro @w <| And.intro @dt <| And.intro @fu <| And.intro @iD <| And.intro @Fz <| And.intro @jo <| @BH
theorem Pn (p0:aw) (p1:aw) (r:aw×Int) (hh:pJ p0 p1=some r):aX .clean tab xw FU Tryz.f98 none [.agg [.int .i64 p0.ag,.sl false false p0.aa.length (ab (eI .i64) p0.aa)],.agg [.int .i64 p1.ag,.sl false false p1.aa.length (ab (eI .i64) p1.aa)]]=some (.clean (.tup [.agg [.int .i64 r.1.ag,.sl false false r.1.aa.length (ab (eI .i64) r.1.aa)],.int .i64 r.2]),none):=by
 refine ay rfl Tryz.ntmps98 Tryz.results98 ?_
 unfold pJ at hh
 obtain ⟨r1,hr1,hh⟩:=ae hh
 try simp only [dJ,seval,-Int.reduceToNat,hr1]
 obtain ⟨o2,ho2,hh⟩:=ae hh
 refine bV 0 (fun s t H e=>match s with | s17j1=>∃ v2j1:Nat,∃ v3j1:Nat,∃ v4j1:Nat,t 2 = .ptr 2 v2j1 0∧t 3 = .ptr 3 v3j1 0∧t 4 = .ptr 4 v4j1 0∧t 17 = .bool s17j1∧H 2=some ⟨v2j1,49,[.int .i64 p0.ag,.sl false false p0.aa.length (ab (eI .i64) p0.aa)],false,false,false⟩∧H 3=some ⟨v3j1,49,[.int .i64 p1.ag,.sl false false p1.aa.length (ab (eI .i64) p1.aa)],false,false,false⟩∧H 4=some ⟨v4j1,49,[.int .i64 0,.sl true true 0 []],false,false,false⟩) (fun s=>s=o2) ?_ ?_
 ·rintro s17j1 t H e ⟨v2j1,v3j1,v4j1,t2j1,t3j1,t4j1,t17j1,H2j1,H3j1,H4j1⟩ rfl
  try dsimp only at hh
  try simp only [dJ,seval,-Int.reduceToNat,hr1,t2j1,t3j1,t4j1,t17j1,H2j1,H3j1,H4j1]
  refine ai (fun hb3 => ?_) (fun hb3 => ?_)
  ·replace hh:=ak hb3 hh
   have i4:=iD false 0 ([])
   simp only [aS,cl,List.length_cons,List.length_nil,Nat.zero_add,Nat.reduceAdd,List.length_set] at i4
   obtain ⟨r5,hr5,hh⟩:=ae hh
   cases hh
   try simp only [dJ,seval,-Int.reduceToNat,hr1,t2j1,t3j1,t4j1,t17j1,H2j1,H3j1,H4j1,i4,hr5]
  ·replace hh:=aj hb3 hh
   obtain ⟨r6,hr6,hh⟩:=ae hh
   try simp only [dJ,seval,-Int.reduceToNat,hr1,t2j1,t3j1,t4j1,t17j1,H2j1,H3j1,H4j1,hr6]
   refine cI (by kernel_rfl) ?_
   try simp only [dJ,seval,-Int.reduceToNat,hr1,t2j1,t3j1,t4j1,t17j1,H2j1,H3j1,H4j1,hr6]
   obtain ⟨o9,ho9,hh⟩:=ae hh
   refine aD (fun s t H e=>match s with | (s6b,s7b)=>∃ v4b:Nat,t 4 = .ptr 4 v4b 0∧t 6 = .sl false false s6b.length (ab (eI .i64) s6b)∧t 7 = .sl false false s7b.length (ab (eI .i64) s7b)∧H 4=some ⟨v4b,49,[.int .i64 0,.sl true true 0 []],false,false,false⟩) (fun o x t H e=>match o with | s6bx=>x = .exit 0∧∃ v4bx:Nat,t 4 = .ptr 4 v4bx 0∧t 6 = .sl false false s6bx.length (ab (eI .i64) s6bx)∧H 4=some ⟨v4bx,49,[.int .i64 0,.sl true true 0 []],false,false,false⟩) ho9 ?_ ?_ ?_
   ·
    refine ⟨v4j1,?_,?_,?_,?_⟩
    all_goals (first | rfl | (simp only [dJ,seval,-Int.reduceToNat,hr1,t2j1,t3j1,t4j1,t17j1,H2j1,H3j1,H4j1,hr6] <;> rfl))
   ·rintro ⟨s6b,s7b⟩ t H e ⟨v4b,t4b,t6b,t7b,H4b⟩ c hh
    simp only [nd] at hh
    try simp only [dJ,seval,-Int.reduceToNat,hr1,hr6,t4b,t6b,t7b,H4b]
    refine ai (fun hb10 => ?_) (fun hb10 => ?_)
    ·replace hh:=ak hb10 hh
     obtain ⟨r11,hr11,hh⟩:=ae hh
     cases hh
     try simp only [dJ,seval,-Int.reduceToNat,hr1,hr6,t4b,t6b,t7b,H4b,hr11]
     rw [aK]
     refine ⟨_,rfl,?_⟩
     refine ⟨v4b,?_,?_,?_,?_⟩
     all_goals (first | rfl | (simp only [dJ,seval,-Int.reduceToNat,hr1,hr6,t4b,t6b,t7b,H4b,hr11] <;> rfl))
    ·replace hh:=aj hb10 hh
     cases hh
     try simp only [dJ,seval,-Int.reduceToNat,hr1,hr6,t4b,t6b,t7b,H4b]
     rw [bk]
     refine ⟨_,rfl,?_⟩
     refine ⟨rfl,⟨v4b,?_,?_,?_⟩⟩
     all_goals (first | rfl | (simp only [dJ,seval,-Int.reduceToNat,hr1,hr6,t4b,t6b,t7b,H4b] <;> rfl))
   ·rintro x t H e hx
    obtain ⟨s6bx,rfl⟩ : ∃ z,z=o9:=⟨_,rfl⟩
    dsimp only at hx hh
    obtain ⟨rfl,⟨v4bx,t4bx,t6bx,H4bx⟩⟩:=hx
    obtain ⟨r12,hr12,hh⟩:=ae hh
    obtain ⟨r13,hr13,hh⟩:=ae hh
    obtain ⟨r14,hr14,hh⟩:=ae hh
    cases hh
    try simp only [dJ,seval,-Int.reduceToNat,hr1,hr6,t4bx,t6bx,H4bx,hr12,hr13,hr14]
 ·
  clear hh
  have hh:=ho2
  try simp only [dJ,seval,-Int.reduceToNat,hr1]
  refine bj (fun hb15 => ?_) (fun hb15 => ?_)
  ·replace hh:=ak hb15 hh
   cases hh
   try simp only [dJ,seval,-Int.reduceToNat,hr1]
   rw [an]
   refine ⟨_,rfl,?_⟩
   refine ⟨0,0,0,?_,?_,?_,?_,?_,?_,?_⟩
   all_goals (first | rfl | (simp only [dJ,seval,-Int.reduceToNat,hr1] <;> rfl))
  ·replace hh:=aj hb15 hh
   obtain ⟨r16,hr16,hh⟩:=ae hh
   cases hh
   try simp only [dJ,seval,-Int.reduceToNat,hr1,hr16]
   rw [an]
   refine ⟨_,rfl,?_⟩
   refine ⟨0,0,0,?_,?_,?_,?_,?_,?_,?_⟩
   all_goals (first | rfl | (simp only [dJ,seval,-Int.reduceToNat,hr1,hr16] <;> rfl))
theorem L6:bW Tryz.prog 98 sZ:=bW.of (mode := .clean) tok Ls mixed Tryz.func98 (by kernel_rfl) ⟨by kernel_rfl,by kernel_rfl⟩ (fun _=>Nat.le_of_ble_eq_true (by kernel_rfl)) (fun x r h=>Pn x.1 x.2 r h)
noncomputable def s5:=eZ (ef (dO ij)) (fun x:aw=>pK x) (fun r:Int×Bool => .clean (.tup [.int .i64 r.1,.bool r.2]))
theorem Fx (p0_0:Int) (p0_1:(List Int)):s5 none [.agg [.int .i64 p0_0,.sl false false p0_1.length (ab (eI .i64) p0_1)]]=(pK (aw.mk p0_0 p0_1)).map fun r:Int×Bool=>(.clean (.tup [.int .i64 r.1,.bool r.2]),none):=aR _ _ _ ((aw.mk p0_0 p0_1))
noncomputable def xx:Env:=(Am.ext aB 97 false ep)
theorem Lt:b7 Tryz.prog xx:=(b7.none.add kC false)
theorem BI:xx=(Am.ext aB 97 false ep):=Eq.trans rfl rfl
theorem bu:type_of% (And.intro @w <| And.intro @fu <| @BI):=And.intro @w <| And.intro @fu <| @BI
theorem Po (p0:aw) (r:Int×Bool) (hh:pK p0=some r):aX .clean tab xx FU Tryz.f127 none [.agg [.int .i64 p0.ag,.sl false false p0.aa.length (ab (eI .i64) p0.aa)]]=some (.clean (.tup [.int .i64 r.1,.bool r.2]),none):=by
 refine ay rfl Tryz.ntmps127 Tryz.results127 ?_
 unfold pK at hh
 obtain ⟨r1,hr1,hh⟩:=ae hh
 try simp only [bu,seval,-Int.reduceToNat,hr1]
 obtain ⟨o2,ho2,hh⟩:=ae hh
 refine bV 0 (fun s t H e=>match s with | s15j1=>∃ v1j1:Nat,t 1 = .ptr 1 v1j1 0∧t 15 = .bool s15j1∧H 1=some ⟨v1j1,49,[.int .i64 p0.ag,.sl false false p0.aa.length (ab (eI .i64) p0.aa)],false,false,false⟩) (fun s=>s=o2) ?_ ?_
 ·rintro s15j1 t H e ⟨v1j1,t1j1,t15j1,H1j1⟩ rfl
  try dsimp only at hh
  try simp only [bu,seval,-Int.reduceToNat,hr1,t1j1,t15j1,H1j1]
  refine ai (fun hb3 => ?_) (fun hb3 => ?_)
  ·replace hh:=ak hb3 hh
   cases hh
   try simp only [bu,seval,-Int.reduceToNat,hr1,t1j1,t15j1,H1j1]
  ·replace hh:=aj hb3 hh
   try simp only [bu,seval,-Int.reduceToNat,hr1,t1j1,t15j1,H1j1]
   obtain ⟨o11,ho11,hh⟩:=ae hh
   refine aD (fun s t H e=>match s with | (s4b,s19b)=>∃ v1b:Nat,t 1 = .ptr 1 v1b 0∧t 4 = .int .u64 s4b∧t 17 = .sl false false p0.aa.length (ab (eI .i64) p0.aa)∧t 18 = .int .i64 (p0.aa.length:Int)∧t 19 = .int .i64 s19b∧H 1=some ⟨v1b,49,[.int .i64 p0.ag,.sl false false p0.aa.length (ab (eI .i64) p0.aa)],false,false,false⟩) (fun o x t H e=>match o with | (.inl s4bx)=>x = .exit 0∧∃ v1bx:Nat,t 1 = .ptr 1 v1bx 0∧t 4 = .int .u64 s4bx∧H 1=some ⟨v1bx,49,[.int .i64 p0.ag,.sl false false p0.aa.length (ab (eI .i64) p0.aa)],false,false,false⟩ | (.inr r)=>x = .ret∧gG .clean tab none [.tmp 2,.tmp 3] ⟨t,H,e⟩=some (.clean (.tup [.int .i64 r.1,.bool r.2]),none)) ho11 ?_ ?_ ?_
   ·
    refine ⟨v1j1,?_,?_,?_,?_,?_,?_⟩
    all_goals (first | rfl | (simp only [bu,seval,-Int.reduceToNat,hr1,t1j1,t15j1,H1j1] <;> rfl))
   ·rintro ⟨s4b,s19b⟩ t H e ⟨v1b,t1b,t4b,t17b,t18b,t19b,H1b⟩ c hh
    simp only [pL] at hh
    try simp only [bu,seval,-Int.reduceToNat,hr1,t1b,t4b,t17b,t18b,t19b,H1b]
    refine ai (fun hb12 => ?_) (fun hb12 => ?_)
    ·replace hh:=ak hb12 hh
     obtain ⟨x13,hx13,hh⟩:=ae hh
     have bx13:=aJ hx13
     have ax13:=aC (eI .i64) hx13
     have fx13:=aA (eI .i64) hx13
     simp only [cl] at ax13 fx13
     skip
     try simp only [bu,seval,-Int.reduceToNat,hr1,t1b,t4b,t17b,t18b,t19b,H1b,bx13,ax13,fx13]
     obtain ⟨o14,ho14,hh⟩:=ae hh
     refine bV 0 (fun s t H e=>match s with | s29j4=>∃ v1j4:Nat,t 1 = .ptr 1 v1j4 0∧t 4 = .int .u64 s4b∧t 5 = .int .i64 s19b∧t 6 = .int .i64 x13∧t 17 = .sl false false p0.aa.length (ab (eI .i64) p0.aa)∧t 18 = .int .i64 (p0.aa.length:Int)∧t 19 = .int .i64 s19b∧t 29 = .bool s29j4∧H 1=some ⟨v1j4,49,[.int .i64 p0.ag,.sl false false p0.aa.length (ab (eI .i64) p0.aa)],false,false,false⟩) (fun s=>s=o14) ?_ ?_
     ·rintro s29j4 t H e ⟨v1j4,t1j4,t4j4,t5j4,t6j4,t17j4,t18j4,t19j4,t29j4,H1j4⟩ rfl
      try dsimp only at hh
      try simp only [bu,seval,-Int.reduceToNat,hr1,bx13,ax13,fx13,t1j4,t4j4,t5j4,t6j4,t17j4,t18j4,t19j4,t29j4,H1j4]
      refine ai (fun hb15 => ?_) (fun hb15 => ?_)
      ·replace hh:=ak hb15 hh
       cases hh
       try simp only [bu,seval,-Int.reduceToNat,hr1,bx13,ax13,fx13,t1j4,t4j4,t5j4,t6j4,t17j4,t18j4,t19j4,t29j4,H1j4]
       rw [dQ]
       refine ⟨_,rfl,?_⟩
       refine ⟨rfl,?_⟩
       try simp only [bu,seval,-Int.reduceToNat,hr1,bx13,ax13,fx13,t1j4,t4j4,t5j4,t6j4,t17j4,t18j4,t19j4,t29j4,H1j4]
      ·replace hh:=aj hb15 hh
       obtain ⟨x16,hx16,hh⟩:=ae hh
       obtain ⟨q17a,q17b⟩:=Ae hx16
       cases hh
       try simp only [bu,seval,-Int.reduceToNat,hr1,bx13,ax13,fx13,t1j4,t4j4,t5j4,t6j4,t17j4,t18j4,t19j4,t29j4,H1j4,q17a,q17b]
       rw [aK]
       refine ⟨_,rfl,?_⟩
       refine ⟨v1j4,?_,?_,?_,?_,?_,?_⟩
       all_goals (first | rfl | (simp only [bu,seval,-Int.reduceToNat,hr1,bx13,ax13,fx13,t1j4,t4j4,t5j4,t6j4,t17j4,t18j4,t19j4,t29j4,H1j4,q17a,q17b] <;> rfl))
     ·
      clear hh
      have hh:=ho14
      try simp only [bu,seval,-Int.reduceToNat,hr1,t1b,t4b,t17b,t18b,t19b,H1b,bx13,ax13,fx13]
      refine bK (fun hb18 => ?_) (fun hb18 => ?_)
      ·replace hh:=ak hb18 hh
       cases hh
       try simp only [bu,seval,-Int.reduceToNat,hr1,t1b,t4b,t17b,t18b,t19b,H1b,bx13,ax13,fx13]
       rw [an]
       refine ⟨_,rfl,?_⟩
       refine ⟨v1b,?_,?_,?_,?_,?_,?_,?_,?_,?_⟩
       all_goals (first | rfl | (simp only [bu,seval,-Int.reduceToNat,hr1,t1b,t4b,t17b,t18b,t19b,H1b,bx13,ax13,fx13] <;> rfl))
      ·replace hh:=aj hb18 hh
       cases hh
       try simp only [bu,seval,-Int.reduceToNat,hr1,t1b,t4b,t17b,t18b,t19b,H1b,bx13,ax13,fx13]
       rw [an]
       refine ⟨_,rfl,?_⟩
       refine ⟨v1b,?_,?_,?_,?_,?_,?_,?_,?_,?_⟩
       all_goals (first | rfl | (simp only [bu,seval,-Int.reduceToNat,hr1,t1b,t4b,t17b,t18b,t19b,H1b,bx13,ax13,fx13] <;> rfl))
    ·replace hh:=aj hb12 hh
     cases hh
     try simp only [bu,seval,-Int.reduceToNat,hr1,t1b,t4b,t17b,t18b,t19b,H1b]
     rw [bk]
     refine ⟨_,rfl,?_⟩
     refine ⟨rfl,⟨v1b,?_,?_,?_⟩⟩
     all_goals (first | rfl | (simp only [bu,seval,-Int.reduceToNat,hr1,t1b,t4b,t17b,t18b,t19b,H1b] <;> rfl))
   ·rintro x t H e hx
    rcases o11 with s4bx | rb
    ·
     dsimp only at hx hh
     obtain ⟨rfl,⟨v1bx,t1bx,t4bx,H1bx⟩⟩:=hx
     try simp only [bu,seval,-Int.reduceToNat,hr1,t1bx,t4bx,H1bx]
     obtain ⟨o19,ho19,hh⟩:=ae hh
     refine bV 0 (fun s t H e=>match s with | s38j5=>∃ v1j5:Nat,t 1 = .ptr 1 v1j5 0∧t 4 = .int .u64 s4bx∧t 38 = .bool s38j5∧H 1=some ⟨v1j5,49,[.int .i64 p0.ag,.sl false false p0.aa.length (ab (eI .i64) p0.aa)],false,false,false⟩) (fun s=>s=o19) ?_ ?_
     ·rintro s38j5 t H e ⟨v1j5,t1j5,t4j5,t38j5,H1j5⟩ rfl
      try dsimp only at hh
      try simp only [bu,seval,-Int.reduceToNat,hr1,t1j5,t4j5,t38j5,H1j5]
      refine ai (fun hb20 => ?_) (fun hb20 => ?_)
      ·replace hh:=ak hb20 hh
       cases hh
       try simp only [bu,seval,-Int.reduceToNat,hr1,t1j5,t4j5,t38j5,H1j5]
      ·replace hh:=aj hb20 hh
       try simp only [bu,seval,-Int.reduceToNat,hr1,t1j5,t4j5,t38j5,H1j5]
       refine bK (fun hb21 => ?_) (fun hb21 => ?_)
       ·replace hh:=ak hb21 hh
        try simp only [bu,seval,-Int.reduceToNat,hr1,t1j5,t4j5,t38j5,H1j5]
        refine ai (fun hb22 => ?_) (fun hb22 => ?_)
        ·replace hh:=ak hb22 hh
         cases hh
         try simp only [bu,seval,-Int.reduceToNat,hr1,t1j5,t4j5,t38j5,H1j5]
        ·replace hh:=aj hb22 hh
         cases hh
         try simp only [bu,seval,-Int.reduceToNat,hr1,t1j5,t4j5,t38j5,H1j5]
       ·replace hh:=aj hb21 hh
        cases hh
        try simp only [bu,seval,-Int.reduceToNat,hr1,t1j5,t4j5,t38j5,H1j5]
     ·
      clear hh
      have hh:=ho19
      try simp only [bu,seval,-Int.reduceToNat,hr1,t1bx,t4bx,H1bx]
      refine bK (fun hb23 => ?_) (fun hb23 => ?_)
      ·replace hh:=ak hb23 hh
       cases hh
       try simp only [bu,seval,-Int.reduceToNat,hr1,t1bx,t4bx,H1bx]
       rw [an]
       refine ⟨_,rfl,?_⟩
       refine ⟨v1bx,?_,?_,?_,?_⟩
       all_goals (first | rfl | (simp only [bu,seval,-Int.reduceToNat,hr1,t1bx,t4bx,H1bx] <;> rfl))
      ·replace hh:=aj hb23 hh
       cases hh
       try simp only [bu,seval,-Int.reduceToNat,hr1,t1bx,t4bx,H1bx]
       rw [an]
       refine ⟨_,rfl,?_⟩
       refine ⟨v1bx,?_,?_,?_,?_⟩
       all_goals (first | rfl | (simp only [bu,seval,-Int.reduceToNat,hr1,t1bx,t4bx,H1bx] <;> rfl))
    ·
     dsimp only at hx hh
     obtain ⟨rfl,hE⟩:=hx
     cases hh
     try simp only [bo,bf,bG,cY,cX]
     exact hE
 ·
  clear hh
  have hh:=ho2
  try simp only [bu,seval,-Int.reduceToNat,hr1]
  refine bj (fun hb24 => ?_) (fun hb24 => ?_)
  ·replace hh:=ak hb24 hh
   cases hh
   try simp only [bu,seval,-Int.reduceToNat,hr1]
   rw [an]
   refine ⟨_,rfl,?_⟩
   refine ⟨0,?_,?_,?_⟩
   all_goals (first | rfl | (simp only [bu,seval,-Int.reduceToNat,hr1] <;> rfl))
  ·replace hh:=aj hb24 hh
   cases hh
   try simp only [bu,seval,-Int.reduceToNat,hr1]
   rw [an]
   refine ⟨_,rfl,?_⟩
   refine ⟨0,?_,?_,?_⟩
   all_goals (first | rfl | (simp only [bu,seval,-Int.reduceToNat,hr1] <;> rfl))
theorem L7:bW Tryz.prog 127 s5:=bW.of (mode := .clean) tok Lt mixed Tryz.func127 (by kernel_rfl) ⟨by kernel_rfl,by kernel_rfl⟩ (fun _=>Nat.le_of_ble_eq_true (by kernel_rfl)) (fun x r h=>Po x r h)
noncomputable def pB:=eZ (ef (dO ij)) (fun x:aw=>nA x) (fun r:Bool => .clean (.bool r))
theorem Cu (p0_0:Int) (p0_1:(List Int)):pB none [.agg [.int .i64 p0_0,.sl false false p0_1.length (ab (eI .i64) p0_1)]]=(nA (aw.mk p0_0 p0_1)).map fun r:Bool=>(.clean (.bool r),none):=aR _ _ _ ((aw.mk p0_0 p0_1))
noncomputable def u7:Env:=(Am.ext aB 127 false s5)
theorem I0:b7 Tryz.prog u7:=(b7.none.add L7 false)
theorem yQ:u7=(Am.ext aB 127 false s5):=Eq.trans rfl rfl
theorem vz:type_of% (And.intro @w <| And.intro @Fx <| @yQ):=And.intro @w <| And.intro @Fx <| @yQ
theorem LV (p0:aw) (r:Bool) (hh:nA p0=some r):aX .clean tab u7 FU Tryz.f99 none [.agg [.int .i64 p0.ag,.sl false false p0.aa.length (ab (eI .i64) p0.aa)]]=some (.clean (.bool r),none):=by
 refine ay rfl Tryz.ntmps99 Tryz.results99 ?_
 unfold nA at hh
 obtain ⟨r1,hr1,hh⟩:=ae hh
 try simp only [vz,seval,-Int.reduceToNat,hr1]
 refine bK (fun hb2 => ?_) (fun hb2 => ?_)
 ·replace hh:=ak hb2 hh
  cases hh
  try simp only [vz,seval,-Int.reduceToNat,hr1]
 ·replace hh:=aj hb2 hh
  cases hh
  try simp only [vz,seval,-Int.reduceToNat,hr1]
theorem Kc:bW Tryz.prog 99 pB:=bW.of (mode := .clean) tok I0 mixed Tryz.func99 (by kernel_rfl) ⟨by kernel_rfl,by kernel_rfl⟩ (fun _=>Nat.le_of_ble_eq_true (by kernel_rfl)) (fun x r h=>LV x r h)
noncomputable def fR:=eZ (ef (dO lh)) (fun x:aY=>eW x) (fun r:Bool => .clean (.bool r))
theorem jq (p0_0:Int) (p0_1:(List Int)) (p0_2:Int) (p0_3:(List Int)):fR none [.agg [.int .i64 p0_0,.sl false false p0_1.length (ab (eI .i64) p0_1),.int .i64 p0_2,.sl false false p0_3.length (ab (eI .i64) p0_3)]]=(eW (aY.mk (aw.mk p0_0 p0_1) (aw.mk p0_2 p0_3))).map fun r:Bool=>(.clean (.bool r),none):=aR _ _ _ ((aY.mk (aw.mk p0_0 p0_1) (aw.mk p0_2 p0_3)))
noncomputable def pX:Env:=(Am.ext (Am.ext (Am.ext aB 97 false ep) 98 false sZ) 99 false pB)
theorem Dh:b7 Tryz.prog pX:=(((b7.none.add kC false).add L6 false).add Kc false)
theorem uq:pX=(Am.ext (Am.ext (Am.ext aB 97 false ep) 98 false sZ) 99 false pB):=Eq.trans rfl rfl
theorem cZ:type_of% (And.intro @w <| And.intro @fu <| And.intro @Fw <| And.intro @Cu <| @uq):=And.intro @w <| And.intro @fu <| And.intro @Fw <| And.intro @Cu <| @uq
theorem GR (p0:aY) (r:Bool) (hh:eW p0=some r):aX .clean tab pX FU Tryz.f57 none [.agg [.int .i64 p0.cr.ag,.sl false false p0.cr.aa.length (ab (eI .i64) p0.cr.aa),.int .i64 p0.cq.ag,.sl false false p0.cq.aa.length (ab (eI .i64) p0.cq.aa)]]=some (.clean (.bool r),none):=by
 refine ay rfl Tryz.ntmps57 Tryz.results57 ?_
 unfold eW at hh
 obtain ⟨r1,hr1,hh⟩:=ae hh
 try simp only [cZ,seval,-Int.reduceToNat,hr1]
 obtain ⟨o2,ho2,hh⟩:=ae hh
 refine bV 0 (fun s t H e=>match s with | s20j1=>∃ v1j1:Nat,t 1 = .ptr 1 v1j1 0∧t 20 = .bool s20j1∧H 1=some ⟨v1j1,51,[.int .i64 p0.cr.ag,.sl false false p0.cr.aa.length (ab (eI .i64) p0.cr.aa),.int .i64 p0.cq.ag,.sl false false p0.cq.aa.length (ab (eI .i64) p0.cq.aa)],false,false,false⟩) (fun s=>s=o2) ?_ ?_
 ·rintro s20j1 t H e ⟨v1j1,t1j1,t20j1,H1j1⟩ rfl
  try dsimp only at hh
  try simp only [cZ,seval,-Int.reduceToNat,hr1,t1j1,t20j1,H1j1]
  refine ai (fun hb3 => ?_) (fun hb3 => ?_)
  ·replace hh:=ak hb3 hh
   cases hh
   try simp only [cZ,seval,-Int.reduceToNat,hr1,t1j1,t20j1,H1j1]
  ·replace hh:=aj hb3 hh
   obtain ⟨r4,hr4,hh⟩:=ae hh
   try simp only [cZ,seval,-Int.reduceToNat,hr1,t1j1,t20j1,H1j1,hr4]
   refine bK (fun hb5 => ?_) (fun hb5 => ?_)
   ·replace hh:=ak hb5 hh
    obtain ⟨r6,hr6,hh⟩:=ae hh
    cases hh
    try simp only [cZ,seval,-Int.reduceToNat,hr1,t1j1,t20j1,H1j1,hr4,hr6]
   ·replace hh:=aj hb5 hh
    cases hh
    try simp only [cZ,seval,-Int.reduceToNat,hr1,t1j1,t20j1,H1j1,hr4]
 ·
  clear hh
  have hh:=ho2
  try simp only [cZ,seval,-Int.reduceToNat,hr1]
  refine bj (fun hb7 => ?_) (fun hb7 => ?_)
  ·replace hh:=ak hb7 hh
   cases hh
   try simp only [cZ,seval,-Int.reduceToNat,hr1]
   rw [an]
   refine ⟨_,rfl,?_⟩
   refine ⟨0,?_,?_,?_⟩
   all_goals (first | rfl | (simp only [cZ,seval,-Int.reduceToNat,hr1] <;> rfl))
  ·replace hh:=aj hb7 hh
   obtain ⟨r8,hr8,hh⟩:=ae hh
   try simp only [cZ,seval,-Int.reduceToNat,hr1,hr8]
   refine bj (fun hb9 => ?_) (fun hb9 => ?_)
   ·replace hh:=ak hb9 hh
    cases hh
    try simp only [cZ,seval,-Int.reduceToNat,hr1,hr8]
    rw [an]
    refine ⟨_,rfl,?_⟩
    refine ⟨0,?_,?_,?_⟩
    all_goals (first | rfl | (simp only [cZ,seval,-Int.reduceToNat,hr1,hr8] <;> rfl))
   ·replace hh:=aj hb9 hh
    cases hh
    try simp only [cZ,seval,-Int.reduceToNat,hr1,hr8]
    rw [an]
    refine ⟨_,rfl,?_⟩
    refine ⟨0,?_,?_,?_⟩
    all_goals (first | rfl | (simp only [cZ,seval,-Int.reduceToNat,hr1,hr8] <;> rfl))
theorem oO:bW Tryz.prog 57 fR:=bW.of (mode := .clean) tok Dh mixed Tryz.func57 (by kernel_rfl) ⟨by kernel_rfl,by kernel_rfl⟩ (fun _=>Nat.le_of_ble_eq_true (by kernel_rfl)) (fun x r h=>GR x r h)
noncomputable def s6:=eZ (eg (dO ij) (ef (dO ij))) (fun x:aw×aw=>pM x.1 x.2) (fun r:aw×Int => .clean (.tup [.agg [.int .i64 r.1.ag,.sl false false r.1.aa.length (ab (eI .i64) r.1.aa)],.int .i64 r.2]))
theorem Fy (p0_0:Int) (p0_1:(List Int)) (p1_0:Int) (p1_1:(List Int)):s6 none [.agg [.int .i64 p0_0,.sl false false p0_1.length (ab (eI .i64) p0_1)],.agg [.int .i64 p1_0,.sl false false p1_1.length (ab (eI .i64) p1_1)]]=(pM (aw.mk p0_0 p0_1) (aw.mk p1_0 p1_1)).map fun r:aw×Int=>(.clean (.tup [.agg [.int .i64 r.1.ag,.sl false false r.1.aa.length (ab (eI .i64) r.1.aa)],.int .i64 r.2]),none):=aR _ _ _ ((aw.mk p0_0 p0_1),(aw.mk p1_0 p1_1))
noncomputable def xy:Env:=(Am.ext (Am.ext (Am.ext (Am.ext aB 97 false ep) 124 false ir) 126 false fQ) 164 false mT)
theorem Lu:b7 Tryz.prog xy:=((((b7.none.add kC false).add sI false).add oN false).add Ch false)
theorem BJ:xy=(Am.ext (Am.ext (Am.ext (Am.ext aB 97 false ep) 124 false ir) 126 false fQ) 164 false mT):=Eq.trans rfl rfl
theorem iF:type_of% (And.intro @w <| And.intro @fu <| And.intro @iD <| And.intro @jo <| And.intro @mU <| @BJ):=And.intro @w <| And.intro @fu <| And.intro @iD <| And.intro @jo <| And.intro @mU <| @BJ
theorem Pp (p0:aw) (p1:aw) (r:aw×Int) (hh:pM p0 p1=some r):aX .clean tab xy FU Tryz.f130 none [.agg [.int .i64 p0.ag,.sl false false p0.aa.length (ab (eI .i64) p0.aa)],.agg [.int .i64 p1.ag,.sl false false p1.aa.length (ab (eI .i64) p1.aa)]]=some (.clean (.tup [.agg [.int .i64 r.1.ag,.sl false false r.1.aa.length (ab (eI .i64) r.1.aa)],.int .i64 r.2]),none):=by
 refine ay rfl Tryz.ntmps130 Tryz.results130 ?_
 unfold pM at hh
 obtain ⟨r1,hr1,hh⟩:=ae hh
 try simp only [iF,seval,-Int.reduceToNat,hr1]
 obtain ⟨o2,ho2,hh⟩:=ae hh
 refine bV 0 (fun s t H e=>match s with | s13j1=>∃ v2j1:Nat,∃ v3j1:Nat,∃ v4j1:Nat,t 2 = .ptr 2 v2j1 0∧t 3 = .ptr 3 v3j1 0∧t 4 = .ptr 4 v4j1 0∧t 13 = .bool s13j1∧H 2=some ⟨v2j1,49,[.int .i64 p0.ag,.sl false false p0.aa.length (ab (eI .i64) p0.aa)],false,false,false⟩∧H 3=some ⟨v3j1,49,[.int .i64 p1.ag,.sl false false p1.aa.length (ab (eI .i64) p1.aa)],false,false,false⟩∧H 4=some ⟨v4j1,49,[.int .i64 0,.sl true true 0 []],false,false,false⟩) (fun s=>s=o2) ?_ ?_
 ·rintro s13j1 t H e ⟨v2j1,v3j1,v4j1,t2j1,t3j1,t4j1,t13j1,H2j1,H3j1,H4j1⟩ rfl
  try dsimp only at hh
  try simp only [iF,seval,-Int.reduceToNat,hr1,t2j1,t3j1,t4j1,t13j1,H2j1,H3j1,H4j1]
  refine ai (fun hb3 => ?_) (fun hb3 => ?_)
  ·replace hh:=ak hb3 hh
   have i4:=iD false 0 ([])
   simp only [aS,cl,List.length_cons,List.length_nil,Nat.zero_add,Nat.reduceAdd,List.length_set] at i4
   obtain ⟨r5,hr5,hh⟩:=ae hh
   cases hh
   try simp only [iF,seval,-Int.reduceToNat,hr1,t2j1,t3j1,t4j1,t13j1,H2j1,H3j1,H4j1,i4,hr5]
  ·replace hh:=aj hb3 hh
   obtain ⟨r6,hr6,hh⟩:=ae hh
   obtain ⟨r7,hr7,hh⟩:=ae hh
   obtain ⟨r8,hr8,hh⟩:=ae hh
   try simp only [iF,seval,-Int.reduceToNat,hr1,t2j1,t3j1,t4j1,t13j1,H2j1,H3j1,H4j1,hr6,hr7,hr8]
   refine cI (by kernel_rfl) ?_
   cases hh
   try simp only [iF,seval,-Int.reduceToNat,hr1,t2j1,t3j1,t4j1,t13j1,H2j1,H3j1,H4j1,hr6,hr7,hr8]
 ·
  clear hh
  have hh:=ho2
  try simp only [iF,seval,-Int.reduceToNat,hr1]
  refine bj (fun hb9 => ?_) (fun hb9 => ?_)
  ·replace hh:=ak hb9 hh
   cases hh
   try simp only [iF,seval,-Int.reduceToNat,hr1]
   rw [an]
   refine ⟨_,rfl,?_⟩
   refine ⟨0,0,0,?_,?_,?_,?_,?_,?_,?_⟩
   all_goals (first | rfl | (simp only [iF,seval,-Int.reduceToNat,hr1] <;> rfl))
  ·replace hh:=aj hb9 hh
   obtain ⟨r10,hr10,hh⟩:=ae hh
   cases hh
   try simp only [iF,seval,-Int.reduceToNat,hr1,hr10]
   rw [an]
   refine ⟨_,rfl,?_⟩
   refine ⟨0,0,0,?_,?_,?_,?_,?_,?_,?_⟩
   all_goals (first | rfl | (simp only [iF,seval,-Int.reduceToNat,hr1,hr10] <;> rfl))
theorem L8:bW Tryz.prog 130 s6:=bW.of (mode := .clean) tok Lu mixed Tryz.func130 (by kernel_rfl) ⟨by kernel_rfl,by kernel_rfl⟩ (fun _=>Nat.le_of_ble_eq_true (by kernel_rfl)) (fun x r h=>Pp x.1 x.2 r h)
noncomputable def mq:=eZ (eg (dO ij) (ef (dO ij))) (fun x:aw×aw=>gr x.1 x.2) (fun r:aw => .clean (.agg [.int .i64 r.ag,.sl false false r.aa.length (ab (eI .i64) r.aa)]))
theorem wO (p0_0:Int) (p0_1:(List Int)) (p1_0:Int) (p1_1:(List Int)):mq none [.agg [.int .i64 p0_0,.sl false false p0_1.length (ab (eI .i64) p0_1)],.agg [.int .i64 p1_0,.sl false false p1_1.length (ab (eI .i64) p1_1)]]=(gr (aw.mk p0_0 p0_1) (aw.mk p1_0 p1_1)).map fun r:aw=>(.clean (.agg [.int .i64 r.ag,.sl false false r.aa.length (ab (eI .i64) r.aa)]),none):=aR _ _ _ ((aw.mk p0_0 p0_1),(aw.mk p1_0 p1_1))
noncomputable def pY:Env:=(Am.ext aB 130 false s6)
theorem Di:b7 Tryz.prog pY:=(b7.none.add L8 false)
theorem ur:pY=(Am.ext aB 130 false s6):=Eq.trans rfl rfl
theorem HC:type_of% (And.intro @w <| And.intro @Fy <| @ur):=And.intro @w <| And.intro @Fy <| @ur
theorem GS (p0:aw) (p1:aw) (r:aw) (hh:gr p0 p1=some r):aX .clean tab pY FU Tryz.f101 none [.agg [.int .i64 p0.ag,.sl false false p0.aa.length (ab (eI .i64) p0.aa)],.agg [.int .i64 p1.ag,.sl false false p1.aa.length (ab (eI .i64) p1.aa)]]=some (.clean (.agg [.int .i64 r.ag,.sl false false r.aa.length (ab (eI .i64) r.aa)]),none):=by
 refine ay rfl Tryz.ntmps101 Tryz.results101 ?_
 unfold gr at hh
 obtain ⟨r1,hr1,hh⟩:=ae hh
 cases hh
 try simp only [HC,seval,-Int.reduceToNat,hr1]
theorem DH:bW Tryz.prog 101 mq:=bW.of (mode := .clean) tok Di mixed Tryz.func101 (by kernel_rfl) ⟨by kernel_rfl,by kernel_rfl⟩ (fun _=>Nat.le_of_ble_eq_true (by kernel_rfl)) (fun x r h=>GS x.1 x.2 r h)
noncomputable def lC:=eZ (eg (dO ij) (ef (dO ij))) (fun x:aw×aw=>iT x.1 x.2) (fun r:Int => .clean (.int .i64 r))
theorem uF (p0_0:Int) (p0_1:(List Int)) (p1_0:Int) (p1_1:(List Int)):lC none [.agg [.int .i64 p0_0,.sl false false p0_1.length (ab (eI .i64) p0_1)],.agg [.int .i64 p1_0,.sl false false p1_1.length (ab (eI .i64) p1_1)]]=(iT (aw.mk p0_0 p0_1) (aw.mk p1_0 p1_1)).map fun r:Int=>(.clean (.int .i64 r),none):=aR _ _ _ ((aw.mk p0_0 p0_1),(aw.mk p1_0 p1_1))
noncomputable def oH:Env:=(Am.ext (Am.ext (Am.ext aB 97 false ep) 128 false iw) 129 false iu)
theorem BB:b7 Tryz.prog oH:=(((b7.none.add kC false).add sL false).add sJ false)
theorem sk:oH=(Am.ext (Am.ext (Am.ext aB 97 false ep) 128 false iw) 129 false iu):=Eq.trans rfl rfl
theorem dj:type_of% (And.intro @w <| And.intro @fu <| And.intro @lJ <| And.intro @lI <| @sk):=And.intro @w <| And.intro @fu <| And.intro @lJ <| And.intro @lI <| @sk
theorem Dx (p0:aw) (p1:aw) (r:Int) (hh:iT p0 p1=some r):aX .clean tab oH FU Tryz.f100 none [.agg [.int .i64 p0.ag,.sl false false p0.aa.length (ab (eI .i64) p0.aa)],.agg [.int .i64 p1.ag,.sl false false p1.aa.length (ab (eI .i64) p1.aa)]]=some (.clean (.int .i64 r),none):=by
 refine ay rfl Tryz.ntmps100 Tryz.results100 ?_
 unfold iT at hh
 obtain ⟨r1,hr1,hh⟩:=ae hh
 try simp only [dj,seval,-Int.reduceToNat,hr1]
 obtain ⟨o2,ho2,hh⟩:=ae hh
 refine bV 0 (fun s t H e=>match s with | s12j1=>∃ v2j1:Nat,∃ v3j1:Nat,t 2 = .ptr 2 v2j1 0∧t 3 = .ptr 3 v3j1 0∧t 12 = .bool s12j1∧H 2=some ⟨v2j1,49,[.int .i64 p0.ag,.sl false false p0.aa.length (ab (eI .i64) p0.aa)],false,false,false⟩∧H 3=some ⟨v3j1,49,[.int .i64 p1.ag,.sl false false p1.aa.length (ab (eI .i64) p1.aa)],false,false,false⟩) (fun s=>s=o2) ?_ ?_
 ·rintro s12j1 t H e ⟨v2j1,v3j1,t2j1,t3j1,t12j1,H2j1,H3j1⟩ rfl
  try dsimp only at hh
  try simp only [dj,seval,-Int.reduceToNat,hr1,t2j1,t3j1,t12j1,H2j1,H3j1]
  refine ai (fun hb3 => ?_) (fun hb3 => ?_)
  ·replace hh:=ak hb3 hh
   cases hh
   try simp only [dj,seval,-Int.reduceToNat,hr1,t2j1,t3j1,t12j1,H2j1,H3j1]
  ·replace hh:=aj hb3 hh
   try simp only [dj,seval,-Int.reduceToNat,hr1,t2j1,t3j1,t12j1,H2j1,H3j1]
   refine ai (fun hb4 => ?_) (fun hb4 => ?_)
   ·replace hh:=ak hb4 hh
    obtain ⟨r5,hr5,hh⟩:=ae hh
    cases hh
    try simp only [dj,seval,-Int.reduceToNat,hr1,t2j1,t3j1,t12j1,H2j1,H3j1,hr5]
   ·replace hh:=aj hb4 hh
    obtain ⟨r6,hr6,hh⟩:=ae hh
    try simp only [dj,seval,-Int.reduceToNat,hr1,t2j1,t3j1,t12j1,H2j1,H3j1,hr6]
    refine cI (by kernel_rfl) ?_
    cases hh
    try simp only [dj,seval,-Int.reduceToNat,hr1,t2j1,t3j1,t12j1,H2j1,H3j1,hr6]
 ·
  clear hh
  have hh:=ho2
  try simp only [dj,seval,-Int.reduceToNat,hr1]
  refine bj (fun hb7 => ?_) (fun hb7 => ?_)
  ·replace hh:=ak hb7 hh
   cases hh
   try simp only [dj,seval,-Int.reduceToNat,hr1]
   rw [an]
   refine ⟨_,rfl,?_⟩
   refine ⟨0,0,?_,?_,?_,?_,?_⟩
   all_goals (first | rfl | (simp only [dj,seval,-Int.reduceToNat,hr1] <;> rfl))
  ·replace hh:=aj hb7 hh
   obtain ⟨r8,hr8,hh⟩:=ae hh
   cases hh
   try simp only [dj,seval,-Int.reduceToNat,hr1,hr8]
   rw [an]
   refine ⟨_,rfl,?_⟩
   refine ⟨0,0,?_,?_,?_,?_,?_⟩
   all_goals (first | rfl | (simp only [dj,seval,-Int.reduceToNat,hr1,hr8] <;> rfl))
theorem Cg:bW Tryz.prog 100 lC:=bW.of (mode := .clean) tok BB mixed Tryz.func100 (by kernel_rfl) ⟨by kernel_rfl,by kernel_rfl⟩ (fun _=>Nat.le_of_ble_eq_true (by kernel_rfl)) (fun x r h=>Dx x.1 x.2 r h)
noncomputable def gD:=eZ (eg (dO lh) (ef (dO lh))) (fun x:aY×aY=>fh x.1 x.2) (fun r:Int => .clean (.int .i64 r))
theorem kI (p0_0:Int) (p0_1:(List Int)) (p0_2:Int) (p0_3:(List Int)) (p1_0:Int) (p1_1:(List Int)) (p1_2:Int) (p1_3:(List Int)):gD none [.agg [.int .i64 p0_0,.sl false false p0_1.length (ab (eI .i64) p0_1),.int .i64 p0_2,.sl false false p0_3.length (ab (eI .i64) p0_3)],.agg [.int .i64 p1_0,.sl false false p1_1.length (ab (eI .i64) p1_1),.int .i64 p1_2,.sl false false p1_3.length (ab (eI .i64) p1_3)]]=(fh (aY.mk (aw.mk p0_0 p0_1) (aw.mk p0_2 p0_3)) (aY.mk (aw.mk p1_0 p1_1) (aw.mk p1_2 p1_3))).map fun r:Int=>(.clean (.int .i64 r),none):=aR _ _ _ ((aY.mk (aw.mk p0_0 p0_1) (aw.mk p0_2 p0_3)),(aY.mk (aw.mk p1_0 p1_1) (aw.mk p1_2 p1_3)))
noncomputable def nB:Env:=(Am.ext (Am.ext (Am.ext aB 57 false fR) 100 false lC) 101 false mq)
theorem zG:b7 Tryz.prog nB:=(((b7.none.add oO false).add Cg false).add DH false)
theorem qW:nB=(Am.ext (Am.ext (Am.ext aB 57 false fR) 100 false lC) 101 false mq):=Eq.trans rfl rfl
theorem dA:type_of% (And.intro @w <| And.intro @jq <| And.intro @uF <| And.intro @wO <| @qW):=And.intro @w <| And.intro @jq <| And.intro @uF <| And.intro @wO <| @qW
theorem B5 (p0:aY) (p1:aY) (r:Int) (hh:fh p0 p1=some r):aX .clean tab nB FU Tryz.f58 none [.agg [.int .i64 p0.cr.ag,.sl false false p0.cr.aa.length (ab (eI .i64) p0.cr.aa),.int .i64 p0.cq.ag,.sl false false p0.cq.aa.length (ab (eI .i64) p0.cq.aa)],.agg [.int .i64 p1.cr.ag,.sl false false p1.cr.aa.length (ab (eI .i64) p1.cr.aa),.int .i64 p1.cq.ag,.sl false false p1.cq.aa.length (ab (eI .i64) p1.cq.aa)]]=some (.clean (.int .i64 r),none):=by
 refine ay rfl Tryz.ntmps58 Tryz.results58 ?_
 unfold fh at hh
 obtain ⟨r1,hr1,hh⟩:=ae hh
 try simp only [dA,seval,-Int.reduceToNat,hr1]
 obtain ⟨o2,ho2,hh⟩:=ae hh
 refine bV 0 (fun s t H e=>match s with | s12j1=>∃ v2j1:Nat,∃ v3j1:Nat,t 2 = .ptr 2 v2j1 0∧t 3 = .ptr 3 v3j1 0∧t 12 = .bool s12j1∧H 2=some ⟨v2j1,51,[.int .i64 p0.cr.ag,.sl false false p0.cr.aa.length (ab (eI .i64) p0.cr.aa),.int .i64 p0.cq.ag,.sl false false p0.cq.aa.length (ab (eI .i64) p0.cq.aa)],false,false,false⟩∧H 3=some ⟨v3j1,51,[.int .i64 p1.cr.ag,.sl false false p1.cr.aa.length (ab (eI .i64) p1.cr.aa),.int .i64 p1.cq.ag,.sl false false p1.cq.aa.length (ab (eI .i64) p1.cq.aa)],false,false,false⟩) (fun s=>s=o2) ?_ ?_
 ·rintro s12j1 t H e ⟨v2j1,v3j1,t2j1,t3j1,t12j1,H2j1,H3j1⟩ rfl
  try dsimp only at hh
  try simp only [dA,seval,-Int.reduceToNat,hr1,t2j1,t3j1,t12j1,H2j1,H3j1]
  refine ai (fun hb3 => ?_) (fun hb3 => ?_)
  ·replace hh:=ak hb3 hh
   cases hh
   try simp only [dA,seval,-Int.reduceToNat,hr1,t2j1,t3j1,t12j1,H2j1,H3j1]
  ·replace hh:=aj hb3 hh
   obtain ⟨r4,hr4,hh⟩:=ae hh
   obtain ⟨r5,hr5,hh⟩:=ae hh
   obtain ⟨r6,hr6,hh⟩:=ae hh
   try simp only [dA,seval,-Int.reduceToNat,hr1,t2j1,t3j1,t12j1,H2j1,H3j1,hr4,hr5,hr6]
   refine cI (by kernel_rfl) ?_
   cases hh
   try simp only [dA,seval,-Int.reduceToNat,hr1,t2j1,t3j1,t12j1,H2j1,H3j1,hr4,hr5,hr6]
 ·
  clear hh
  have hh:=ho2
  try simp only [dA,seval,-Int.reduceToNat,hr1]
  refine bj (fun hb7 => ?_) (fun hb7 => ?_)
  ·replace hh:=ak hb7 hh
   cases hh
   try simp only [dA,seval,-Int.reduceToNat,hr1]
   rw [an]
   refine ⟨_,rfl,?_⟩
   refine ⟨0,0,?_,?_,?_,?_,?_⟩
   all_goals (first | rfl | (simp only [dA,seval,-Int.reduceToNat,hr1] <;> rfl))
  ·replace hh:=aj hb7 hh
   obtain ⟨r8,hr8,hh⟩:=ae hh
   cases hh
   try simp only [dA,seval,-Int.reduceToNat,hr1,hr8]
   rw [an]
   refine ⟨_,rfl,?_⟩
   refine ⟨0,0,?_,?_,?_,?_,?_⟩
   all_goals (first | rfl | (simp only [dA,seval,-Int.reduceToNat,hr1,hr8] <;> rfl))
theorem qY:bW Tryz.prog 58 gD:=bW.of (mode := .clean) tok zG mixed Tryz.func58 (by kernel_rfl) ⟨by kernel_rfl,by kernel_rfl⟩ (fun _=>Nat.le_of_ble_eq_true (by kernel_rfl)) (fun x r h=>B5 x.1 x.2 r h)
noncomputable def ji:=eZ (ef (dO lj)) (fun x:dL=>gu x) (fun r:Bool => .clean (.bool r))
theorem mK (p0_0:Int) (p0_1:(List Int)) (p0_2:Int) (p0_3:(List Int)) (p0_4:Int) (p0_5:(List Int)) (p0_6:Int) (p0_7:(List Int)):ji none [.agg [.int .i64 p0_0,.sl false false p0_1.length (ab (eI .i64) p0_1),.int .i64 p0_2,.sl false false p0_3.length (ab (eI .i64) p0_3),.int .i64 p0_4,.sl false false p0_5.length (ab (eI .i64) p0_5),.int .i64 p0_6,.sl false false p0_7.length (ab (eI .i64) p0_7)]]=(gu (dL.mk (aY.mk (aw.mk p0_0 p0_1) (aw.mk p0_2 p0_3)) (aY.mk (aw.mk p0_4 p0_5) (aw.mk p0_6 p0_7)))).map fun r:Bool=>(.clean (.bool r),none):=aR _ _ _ ((dL.mk (aY.mk (aw.mk p0_0 p0_1) (aw.mk p0_2 p0_3)) (aY.mk (aw.mk p0_4 p0_5) (aw.mk p0_6 p0_7))))
noncomputable def pZ:Env:=(Am.ext (Am.ext aB 57 false fR) 58 false gD)
theorem Dj:b7 Tryz.prog pZ:=((b7.none.add oO false).add qY false)
theorem uu:pZ=(Am.ext (Am.ext aB 57 false fR) 58 false gD):=Eq.trans rfl rfl
theorem kS:type_of% (And.intro @w <| And.intro @jq <| And.intro @kI <| @uu):=And.intro @w <| And.intro @jq <| And.intro @kI <| @uu
theorem GU (p0:dL) (r:Bool) (hh:gu p0=some r):aX .clean tab pZ FU Tryz.f30 none [.agg [.int .i64 p0.bx.cr.ag,.sl false false p0.bx.cr.aa.length (ab (eI .i64) p0.bx.cr.aa),.int .i64 p0.bx.cq.ag,.sl false false p0.bx.cq.aa.length (ab (eI .i64) p0.bx.cq.aa),.int .i64 p0.aT.cr.ag,.sl false false p0.aT.cr.aa.length (ab (eI .i64) p0.aT.cr.aa),.int .i64 p0.aT.cq.ag,.sl false false p0.aT.cq.aa.length (ab (eI .i64) p0.aT.cq.aa)]]=some (.clean (.bool r),none):=by
 refine ay rfl Tryz.ntmps30 Tryz.results30 ?_
 unfold gu at hh
 obtain ⟨r1,hr1,hh⟩:=ae hh
 try simp only [kS,seval,-Int.reduceToNat,hr1]
 refine bK (fun hb2 => ?_) (fun hb2 => ?_)
 ·replace hh:=ak hb2 hh
  obtain ⟨r3,hr3,hh⟩:=ae hh
  try simp only [kS,seval,-Int.reduceToNat,hr1,hr3]
  refine bK (fun hb4 => ?_) (fun hb4 => ?_)
  ·replace hh:=ak hb4 hh
   obtain ⟨r5,hr5,hh⟩:=ae hh
   cases hh
   try simp only [kS,seval,-Int.reduceToNat,hr1,hr3,hr5]
  ·replace hh:=aj hb4 hh
   cases hh
   try simp only [kS,seval,-Int.reduceToNat,hr1,hr3]
 ·replace hh:=aj hb2 hh
  cases hh
  try simp only [kS,seval,-Int.reduceToNat,hr1]
theorem uC:bW Tryz.prog 30 ji:=bW.of (mode := .clean) tok Dj mixed Tryz.func30 (by kernel_rfl) ⟨by kernel_rfl,by kernel_rfl⟩ (fun _=>Nat.le_of_ble_eq_true (by kernel_rfl)) (fun x r h=>GU x r h)
end Go.Proofs.YtpkahnkoecbndaaGreatDoor.Am
namespace Go.Proofs.YtpkahnkoecbndaaGreatDoor.Am
open Go.RowKit Go.Proofs.YtpkahnkoecbndaaGreatDoor.P
set_option maxRecDepth 100000
set_option maxHeartbeats 4000000
set_option linter.unusedSimpArgs false
set_option linter.unusedVariables false
noncomputable def jI:=eZ (ef (dO aF)) (fun x:az=>iz x) (fun r:Bool => .clean (.bool r))
theorem q0 (p0_0:Int) (p0_1:Int) (p0_2:(List Int)) (p0_3:Int) (p0_4:(List Int)) (p0_5:Int) (p0_6:(List Int)) (p0_7:Int) (p0_8:(List Int)):jI none [.agg [.int .i64 p0_0,.int .i64 p0_1,.sl false false p0_2.length (ab (eI .i64) p0_2),.int .i64 p0_3,.sl false false p0_4.length (ab (eI .i64) p0_4),.int .i64 p0_5,.sl false false p0_6.length (ab (eI .i64) p0_6),.int .i64 p0_7,.sl false false p0_8.length (ab (eI .i64) p0_8)]]=(iz (az.mk p0_0 (dL.mk (aY.mk (aw.mk p0_1 p0_2) (aw.mk p0_3 p0_4)) (aY.mk (aw.mk p0_5 p0_6) (aw.mk p0_7 p0_8))))).map fun r:Bool=>(.clean (.bool r),none):=aR _ _ _ ((az.mk p0_0 (dL.mk (aY.mk (aw.mk p0_1 p0_2) (aw.mk p0_3 p0_4)) (aY.mk (aw.mk p0_5 p0_6) (aw.mk p0_7 p0_8)))))
noncomputable def mc:Env:=(Am.ext aB 30 false ji)
theorem xI:b7 Tryz.prog mc:=(b7.none.add uC false)
theorem o0:mc=(Am.ext aB 30 false ji):=Eq.trans rfl rfl
theorem zS:type_of% (And.intro @w <| And.intro @mK <| @o0):=And.intro @w <| And.intro @mK <| @o0
theorem zI (p0:az) (r:Bool) (hh:iz p0=some r):aX .clean tab mc FU Tryz.f41 none [.agg [.int .i64 p0.bn,.int .i64 p0.bD.bx.cr.ag,.sl false false p0.bD.bx.cr.aa.length (ab (eI .i64) p0.bD.bx.cr.aa),.int .i64 p0.bD.bx.cq.ag,.sl false false p0.bD.bx.cq.aa.length (ab (eI .i64) p0.bD.bx.cq.aa),.int .i64 p0.bD.aT.cr.ag,.sl false false p0.bD.aT.cr.aa.length (ab (eI .i64) p0.bD.aT.cr.aa),.int .i64 p0.bD.aT.cq.ag,.sl false false p0.bD.aT.cq.aa.length (ab (eI .i64) p0.bD.aT.cq.aa)]]=some (.clean (.bool r),none):=by
 refine ay rfl Tryz.ntmps41 Tryz.results41 ?_
 unfold iz at hh
 obtain ⟨r1,hr1,hh⟩:=ae hh
 cases hh
 try simp only [zS,seval,-Int.reduceToNat,hr1]
theorem xT:bW Tryz.prog 41 jI:=bW.of (mode := .clean) tok xI mixed Tryz.func41 (by kernel_rfl) ⟨by kernel_rfl,by kernel_rfl⟩ (fun _=>Nat.le_of_ble_eq_true (by kernel_rfl)) (fun x r h=>zI x r h)
noncomputable def iK:=eZ (ef (aI .u64)) (fun x:Int=>il x) (fun r:Int => .clean (.int .i64 r))
theorem oo (p0:Int):iK none [.int .u64 p0]=(il p0).map fun r:Int=>(.clean (.int .i64 r),none):=aR _ _ _ (p0)
theorem wH (p0:Int) (r:Int) (hh:il p0=some r):aX .clean tab aB FU Tryz.f149 none [.int .u64 p0]=some (.clean (.int .i64 r),none):=by
 refine ay rfl Tryz.ntmps149 Tryz.results149 ?_
 unfold il at hh
 try simp only [w,seval,-Int.reduceToNat]
 obtain ⟨o1,ho1,hh⟩:=ae hh
 refine l7 0 (fun s t H e=>match s with | (s0j1,s2j1)=>t 0 = .int .u64 s0j1∧t 2 = .int .i64 s2j1) (fun s=>s=o1) ?_ ?_
 ·rintro ⟨s0j1,s2j1⟩ t H e ⟨t0j1,t2j1⟩ rfl
  try dsimp only at hh
  try simp only [w,seval,-Int.reduceToNat,t0j1,t2j1]
  obtain ⟨o2,ho2,hh⟩:=ae hh
  refine l7 0 (fun s t H e=>match s with | (s0j2,s2j2)=>t 0 = .int .u64 s0j2∧t 2 = .int .i64 s2j2) (fun s=>s=o2) ?_ ?_
  ·rintro ⟨s0j2,s2j2⟩ t H e ⟨t0j2,t2j2⟩ rfl
   try dsimp only at hh
   try simp only [w,seval,-Int.reduceToNat,t0j2,t2j2]
   refine ai (fun hb3 => ?_) (fun hb3 => ?_)
   ·replace hh:=ak hb3 hh
    obtain ⟨x4,hx4,hh⟩:=ae hh
    obtain ⟨q5a,q5b⟩:=qH hx4
    try simp only [w,seval,-Int.reduceToNat,t0j2,t2j2,q5a,q5b]
    obtain ⟨x6,hx6,hh⟩:=ae hh
    obtain ⟨q7a,q7b,q7c,q7d⟩:=Oi hx6
    try simp only [w,seval,-Int.reduceToNat,t0j2,t2j2,q5a,q5b,q7a,q7d]
    erw [q7c]
    cases hh
    try simp only [w,seval,-Int.reduceToNat,t0j2,t2j2,q5a,q5b,q7a,q7d]
   ·replace hh:=aj hb3 hh
    try simp only [w,seval,-Int.reduceToNat,t0j2,t2j2]
    obtain ⟨x8,hx8,hh⟩:=ae hh
    obtain ⟨q9a,q9b,q9c,q9d⟩:=Oi hx8
    try simp only [w,seval,-Int.reduceToNat,t0j2,t2j2,q9a,q9d]
    erw [q9c]
    cases hh
    try simp only [w,seval,-Int.reduceToNat,t0j2,t2j2,q9a,q9d]
  ·
   clear hh
   have hh:=ho2
   try simp only [w,seval,-Int.reduceToNat,t0j1,t2j1]
   refine ai (fun hb10 => ?_) (fun hb10 => ?_)
   ·replace hh:=ak hb10 hh
    obtain ⟨x11,hx11,hh⟩:=ae hh
    obtain ⟨q12a,q12b⟩:=qH hx11
    cases hh
    try simp only [w,seval,-Int.reduceToNat,t0j1,t2j1,q12a,q12b]
    rw [an]
    refine ⟨_,rfl,?_⟩
    refine ⟨?_,?_⟩
    all_goals (first | rfl | (simp only [w,seval,-Int.reduceToNat,t0j1,t2j1,q12a,q12b] <;> rfl))
   ·replace hh:=aj hb10 hh
    cases hh
    try simp only [w,seval,-Int.reduceToNat,t0j1,t2j1]
    rw [an]
    refine ⟨_,rfl,?_⟩
    refine ⟨?_,?_⟩
    all_goals (first | rfl | (simp only [w,seval,-Int.reduceToNat,t0j1,t2j1] <;> rfl))
 ·
  clear hh
  have hh:=ho1
  try simp only [w,seval,-Int.reduceToNat]
  refine ai (fun hb13 => ?_) (fun hb13 => ?_)
  ·replace hh:=ak hb13 hh
   obtain ⟨x14,hx14,hh⟩:=ae hh
   obtain ⟨q15a,q15b⟩:=qH hx14
   cases hh
   try simp only [w,seval,-Int.reduceToNat,q15a,q15b]
   rw [an]
   refine ⟨_,rfl,?_⟩
   refine ⟨?_,?_⟩
   all_goals (first | rfl | (simp only [w,seval,-Int.reduceToNat,q15a,q15b] <;> rfl))
  ·replace hh:=aj hb13 hh
   cases hh
   try simp only [w,seval,-Int.reduceToNat]
   rw [an]
   refine ⟨_,rfl,?_⟩
   refine ⟨?_,?_⟩
   all_goals (first | rfl | (simp only [w,seval,-Int.reduceToNat] <;> rfl))
theorem vo:bW Tryz.prog 149 iK:=bW.of (mode := .clean) tok b7.none mixed Tryz.func149 (by kernel_rfl) ⟨by kernel_rfl,by kernel_rfl⟩ (fun _=>Nat.le_of_ble_eq_true (by kernel_rfl)) (fun x r h=>wH x r h)
noncomputable def jJ:=eZ (ef (aI .u64)) (fun x:Int=>jA x) (fun r:Int => .clean (.int .i64 r))
theorem q8 (p0:Int):jJ none [.int .u64 p0]=(jA p0).map fun r:Int=>(.clean (.int .i64 r),none):=aR _ _ _ (p0)
noncomputable def me:Env:=(Am.ext aB 149 false iK)
theorem xJ:b7 Tryz.prog me:=(b7.none.add vo false)
theorem pb:me=(Am.ext aB 149 false iK):=Eq.trans rfl rfl
theorem zT:type_of% (And.intro @w <| And.intro @oo <| @pb):=And.intro @w <| And.intro @oo <| @pb
theorem zJ (p0:Int) (r:Int) (hh:jA p0=some r):aX .clean tab me FU Tryz.f107 none [.int .u64 p0]=some (.clean (.int .i64 r),none):=by
 refine ay rfl Tryz.ntmps107 Tryz.results107 ?_
 unfold jA at hh
 obtain ⟨r1,hr1,hh⟩:=ae hh
 cases hh
 try simp only [zT,seval,-Int.reduceToNat,hr1]
theorem xU:bW Tryz.prog 107 jJ:=bW.of (mode := .clean) tok xJ mixed Tryz.func107 (by kernel_rfl) ⟨by kernel_rfl,by kernel_rfl⟩ (fun _=>Nat.le_of_ble_eq_true (by kernel_rfl)) (fun x r h=>zJ x r h)
noncomputable def pz:=eZ (eg (aI .i64) (ef (aI .i64))) (fun x:Int×Int=>rG x.1 x.2) (fun r:Bool => .clean (.bool r))
theorem Cs (p0:Int) (p1:Int):pz none [.int .i64 p0,.int .i64 p1]=(rG p0 p1).map fun r:Bool=>(.clean (.bool r),none):=aR _ _ _ (p0,p1)
noncomputable def u5:Env:=(Am.ext aB 166 false jZ)
theorem IY:b7 Tryz.prog u5:=(b7.none.add wJ false)
theorem yO:u5=(Am.ext aB 166 false jZ):=Eq.trans rfl rfl
theorem nM:type_of% (And.intro @w <| And.intro @oh <| @yO):=And.intro @w <| And.intro @oh <| @yO
theorem LS (p0:Int) (p1:Int) (r:Bool) (hh:rG p0 p1=some r):aX .clean tab u5 FU Tryz.f145 none [.int .i64 p0,.int .i64 p1]=some (.clean (.bool r),none):=by
 refine ay rfl Tryz.ntmps145 Tryz.results145 ?_
 unfold rG at hh
 obtain ⟨r1,hr1,hh⟩:=ae hh
 try simp only [nM,seval,-Int.reduceToNat,hr1]
 refine bK (fun hb2 => ?_) (fun hb2 => ?_)
 ·replace hh:=ak hb2 hh
  obtain ⟨r3,hr3,hh⟩:=ae hh
  try simp only [nM,seval,-Int.reduceToNat,hr1,hr3]
  refine bj (fun hb4 => ?_) (fun hb4 => ?_)
  ·replace hh:=ak hb4 hh
   cases hh
   try simp only [nM,seval,-Int.reduceToNat,hr1,hr3]
  ·replace hh:=aj hb4 hh
   cases hh
   try simp only [nM,seval,-Int.reduceToNat,hr1,hr3]
 ·replace hh:=aj hb2 hh
  cases hh
  try simp only [nM,seval,-Int.reduceToNat,hr1]
theorem Ka:bW Tryz.prog 145 pz:=bW.of (mode := .clean) tok IY mixed Tryz.func145 (by kernel_rfl) ⟨by kernel_rfl,by kernel_rfl⟩ (fun _=>Nat.le_of_ble_eq_true (by kernel_rfl)) (fun x r h=>LS x.1 x.2 r h)
noncomputable def de:=P5 3 (eI .i64) (eg (aI .i64) (ef (aI .i64))) (fun (l:(List Int)) (x:Int×Int)=>bQ l x.1 x.2) (fun r:Unit => .clean (.tup []))
theorem kW (pre post:List D) (p0:(List Int)) (p1:Int) (p2:Int):de (some (.buf 0 0 1 pre.length p0.length,⟨0,3,pre++(ab (eI .i64) p0++post),false,true,false⟩)) [.int .i64 p1,.int .i64 p2]=(bQ p0 p1 p2).map fun r=>(.clean (.tup []),some ⟨0,3,pre++(ab (eI .i64) r.1++post),false,true,false⟩):=Cb _ _ _ _ _ pre post p0 (p1,p2)
noncomputable def ew:Env:=(Am.ext aB 145 false pz)
theorem kz:b7 Tryz.prog ew:=(b7.none.add Ka false)
theorem fZ:ew=(Am.ext aB 145 false pz):=Eq.trans rfl rfl
theorem al:type_of% (And.intro @w <| And.intro @Cs <| @fZ):=And.intro @w <| And.intro @Cs <| @fZ
theorem kV (pre post:List D) (p0:(List Int)) (p1:Int) (p2:Int) (r:(List Int)×(Unit)) (hh:bQ p0 p1 p2=some r):aX .clean tab ew FU Tryz.f139 (some (.buf 0 0 1 pre.length p0.length,⟨0,3,pre++(ab (eI .i64) p0++post),false,true,false⟩)) [.int .i64 p1,.int .i64 p2]=some (.clean (.tup []),some ⟨0,3,pre++(ab (eI .i64) r.1++post),false,true,false⟩):=by
 refine nL rfl Tryz.ntmps139 Tryz.results139 ?_
 unfold bQ at hh
 obtain ⟨rw,hrw,hh⟩:=ae hh
 split at hh
 rotate_left
 ·cases hh
 cases hh
 rename_i hlen
 replace hh:=hrw
 unfold gx at hh
 try simp only [al,seval,-Int.reduceToNat]
 obtain ⟨o25,ho25,hh⟩:=ae hh
 refine aD (fun s t H e=>match s with | (s6a,l0a)=>t 0 = .buf 0 0 1 pre.length (l0a).length∧t 1 = .int .i64 p1∧t 2 = .int .i64 p2∧t 6 = .int .i64 s6a∧H 0=some ⟨0,3,pre++(ab (eI .i64) l0a++post),false,true,false⟩) (fun o x t H e=>match o with | l0ax=>x = .exit 0∧t 0 = .buf 0 0 1 pre.length (l0ax).length∧H 0=some ⟨0,3,pre++(ab (eI .i64) l0ax++post),false,true,false⟩) ho25 ?_ ?_ ?_
 ·
  refine ⟨?_,?_,?_,?_,?_⟩
  all_goals (first | rfl | (simp only [al,seval,-Int.reduceToNat] <;> rfl))
 ·rintro ⟨s6a,l0a⟩ t H e ⟨t0a,t1a,t2a,t6a,H0a⟩ c hh
  simp only [gj] at hh
  try simp only [al,seval,-Int.reduceToNat,t0a,t1a,t2a,t6a,H0a]
  refine ai (fun hb26 => ?_) (fun hb26 => ?_)
  ·replace hh:=ak hb26 hh
   try simp only [al,seval,-Int.reduceToNat,t0a,t1a,t2a,t6a,H0a]
   obtain ⟨o38,ho38,hh⟩:=ae hh
   refine aD (fun s t H e=>match s with | (s7e,l0e)=>t 0 = .buf 0 0 1 pre.length (l0e).length∧t 1 = .int .i64 p1∧t 2 = .int .i64 p2∧t 6 = .int .i64 s6a∧t 7 = .int .i64 s7e∧H 0=some ⟨0,3,pre++(ab (eI .i64) l0e++post),false,true,false⟩) (fun o x t H e=>match o with | l0ex=>x = .exit 2∧t 0 = .buf 0 0 1 pre.length (l0ex).length∧t 1 = .int .i64 p1∧t 2 = .int .i64 p2∧t 6 = .int .i64 s6a∧H 0=some ⟨0,3,pre++(ab (eI .i64) l0ex++post),false,true,false⟩) ho38 ?_ ?_ ?_
   ·
    refine ⟨?_,?_,?_,?_,?_,?_⟩
    all_goals (first | rfl | (simp only [al,seval,-Int.reduceToNat,t0a,t1a,t2a,t6a,H0a] <;> rfl))
   ·rintro ⟨s7e,l0e⟩ t H e ⟨t0e,t1e,t2e,t6e,t7e,H0e⟩ c hh
    simp only [gm] at hh
    try simp only [al,seval,-Int.reduceToNat,t0e,t1e,t2e,t6e,t7e,H0e]
    obtain ⟨o39,ho39,hh⟩:=ae hh
    refine KT 0 (fun s t H e=>match s with | s30j7=>t 0 = .buf 0 0 1 pre.length (l0e).length∧t 1 = .int .i64 p1∧t 2 = .int .i64 p2∧t 6 = .int .i64 s6a∧t 7 = .int .i64 s7e∧t 30 = .bool s30j7∧H 0=some ⟨0,3,pre++(ab (eI .i64) l0e++post),false,true,false⟩) (fun s=>s=o39) ?_ ?_
    ·rintro s30j7 t H e ⟨t0j7,t1j7,t2j7,t6j7,t7j7,t30j7,H0j7⟩ rfl
     try dsimp only at hh
     try simp only [al,seval,-Int.reduceToNat,t0j7,t1j7,t2j7,t6j7,t7j7,t30j7,H0j7]
     refine ai (fun hb40 => ?_) (fun hb40 => ?_)
     ·replace hh:=ak hb40 hh
      obtain ⟨x41,hx41,hh⟩:=ae hh
      have bx41:=aJ hx41
      have ax41:=iY (pre:=pre) (post:=post) (eI .i64) hx41
      have fx41:=iZ (pre:=pre) (post:=post) (eI .i64) hx41
      simp only [cl] at ax41 fx41
      skip
      obtain ⟨x42,hx42,hh⟩:=ae hh
      have bx42:=aJ hx42
      have ax42:=iY (pre:=pre) (post:=post) (eI .i64) hx42
      have fx42:=iZ (pre:=pre) (post:=post) (eI .i64) hx42
      simp only [cl] at ax42 fx42
      skip
      have bx42:=aJ hx42
      have ax42:=iY (pre:=pre) (post:=post) (eI .i64) hx42
      have fx42:=iZ (pre:=pre) (post:=post) (eI .i64) hx42
      simp only [cl] at ax42 fx42
      skip
      have p43:=wN (pre:=pre) (post:=post) (eI .i64) (y':=x41) hx42
      simp only [cl] at p43
      have up43:=p43
      simp only [putCells,List.length_cons,List.length_nil,Nat.zero_add,Nat.reduceAdd] at up43
      obtain ⟨x44,hx44,hh⟩:=ae hh
      have bx44:=aJ hx44
      have ax44:=iY (pre:=pre) (post:=post) (eI .i64) hx44
      have fx44:=iZ (pre:=pre) (post:=post) (eI .i64) hx44
      simp only [cl] at ax44 fx44
      simp only [List.length_set] at bx44 fx44
      have p45:=wN (pre:=pre) (post:=post) (eI .i64) (y':=x42) hx44
      simp only [cl] at p45
      have up45:=p45
      simp only [putCells,List.length_cons,List.length_nil,Nat.zero_add,Nat.reduceAdd] at up45
      try simp only [al,seval,-Int.reduceToNat,t0j7,t1j7,t2j7,t6j7,t7j7,t30j7,H0j7,bx41,ax41,fx41,bx42,ax42,fx42,bx42,ax42,fx42,p43,up43,bx44,ax44,fx44,p45,up45]
      refine cI (by kernel_rfl) ?_
      cases hh
      try simp only [al,seval,-Int.reduceToNat,t0j7,t1j7,t2j7,t6j7,t7j7,t30j7,H0j7,bx41,ax41,fx41,bx42,ax42,fx42,bx42,ax42,fx42,p43,up43,bx44,ax44,fx44,p45,up45]
      rw [aK]
      refine ⟨_,rfl,?_⟩
      refine ⟨?_,?_,?_,?_,?_,?_⟩
      all_goals (first | rfl | (simp only [al,seval,-Int.reduceToNat,t0j7,t1j7,t2j7,t6j7,t7j7,t30j7,H0j7,bx41,ax41,fx41,bx42,ax42,fx42,bx42,ax42,fx42,p43,up43,bx44,ax44,fx44,p45,up45] <;> rfl))
     ·replace hh:=aj hb40 hh
      cases hh
      try simp only [al,seval,-Int.reduceToNat,t0j7,t1j7,t2j7,t6j7,t7j7,t30j7,H0j7]
      rw [bk]
      refine ⟨_,rfl,?_⟩
      refine ⟨rfl,⟨?_,?_,?_,?_,?_⟩⟩
      all_goals (first | rfl | (simp only [al,seval,-Int.reduceToNat,t0j7,t1j7,t2j7,t6j7,t7j7,t30j7,H0j7] <;> rfl))
    ·
     clear hh
     have hh:=ho39
     try simp only [al,seval,-Int.reduceToNat,t0e,t1e,t2e,t6e,t7e,H0e]
     refine xa (fun hb46 => ?_) (fun hb46 => ?_)
     ·replace hh:=ak hb46 hh
      obtain ⟨x47,hx47,hh⟩:=ae hh
      have bx47:=aJ hx47
      have ax47:=iY (pre:=pre) (post:=post) (eI .i64) hx47
      have fx47:=iZ (pre:=pre) (post:=post) (eI .i64) hx47
      simp only [cl] at ax47 fx47
      skip
      obtain ⟨x48,hx48,hh⟩:=ae hh
      have bx48:=aJ hx48
      have ax48:=iY (pre:=pre) (post:=post) (eI .i64) hx48
      have fx48:=iZ (pre:=pre) (post:=post) (eI .i64) hx48
      simp only [cl] at ax48 fx48
      skip
      obtain ⟨r49,hr49,hh⟩:=ae hh
      try simp only [al,seval,-Int.reduceToNat,t0e,t1e,t2e,t6e,t7e,H0e,bx47,ax47,fx47,bx48,ax48,fx48,hr49]
      refine cI (by kernel_rfl) ?_
      cases hh
      try simp only [al,seval,-Int.reduceToNat,t0e,t1e,t2e,t6e,t7e,H0e,bx47,ax47,fx47,bx48,ax48,fx48,hr49]
      rw [an]
      refine ⟨_,rfl,?_⟩
      refine ⟨?_,?_,?_,?_,?_,?_,?_⟩
      all_goals (first | rfl | (simp only [al,seval,-Int.reduceToNat,t0e,t1e,t2e,t6e,t7e,H0e,bx47,ax47,fx47,bx48,ax48,fx48,hr49] <;> rfl))
     ·replace hh:=aj hb46 hh
      try simp only [al,seval,-Int.reduceToNat,t0e,t1e,t2e,t6e,t7e,H0e]
      refine cI (by kernel_rfl) ?_
      cases hh
      try simp only [al,seval,-Int.reduceToNat,t0e,t1e,t2e,t6e,t7e,H0e]
      rw [an]
      refine ⟨_,rfl,?_⟩
      refine ⟨?_,?_,?_,?_,?_,?_,?_⟩
      all_goals (first | rfl | (simp only [al,seval,-Int.reduceToNat,t0e,t1e,t2e,t6e,t7e,H0e] <;> rfl))
   ·rintro x t H e hx
    obtain ⟨l0ex,rfl⟩ : ∃ z,z=o38:=⟨_,rfl⟩
    dsimp only at hx hh
    obtain ⟨rfl,⟨t0ex,t1ex,t2ex,t6ex,H0ex⟩⟩:=hx
    cases hh
    try simp only [al,seval,-Int.reduceToNat,t0ex,t1ex,t2ex,t6ex,H0ex]
    rw [aK]
    refine ⟨_,rfl,?_⟩
    refine ⟨?_,?_,?_,?_,?_⟩
    all_goals (first | rfl | (simp only [al,seval,-Int.reduceToNat,t0ex,t1ex,t2ex,t6ex,H0ex] <;> rfl))
  ·replace hh:=aj hb26 hh
   cases hh
   try simp only [al,seval,-Int.reduceToNat,t0a,t1a,t2a,t6a,H0a]
   rw [bk]
   refine ⟨_,rfl,?_⟩
   refine ⟨rfl,⟨?_,?_⟩⟩
   all_goals (first | rfl | (simp only [al,seval,-Int.reduceToNat,t0a,t1a,t2a,t6a,H0a] <;> rfl))
 ·rintro x t H e hx
  obtain ⟨l0ax,rfl⟩ : ∃ z,z=o25:=⟨_,rfl⟩
  dsimp only at hx hh
  obtain ⟨rfl,⟨t0ax,H0ax⟩⟩:=hx
  cases hh
  try simp only [al,seval,-Int.reduceToNat,t0ax,H0ax]
theorem kD:bW Tryz.prog 139 de:=bW.NW (mode := .clean) tok kz mixed Tryz.func139 (by kernel_rfl) ⟨by kernel_rfl,by kernel_rfl⟩ (fun _=>Nat.le_of_ble_eq_true (by kernel_rfl)) (fun pre post l x l' r h=>kV pre post l x.1 x.2 (l',r) h)
noncomputable def ey:=P5 3 (eI .i64) (eg (aI .i64) (eg (aI .i64) (ef (aI .i64)))) (fun (l:(List Int)) (x:Int×Int×Int)=>cu l x.1 x.2.1 x.2.2) (fun r:Unit => .clean (.tup []))
theorem nP (pre post:List D) (p0:(List Int)) (p1:Int) (p2:Int) (p3:Int):ey (some (.buf 0 0 1 pre.length p0.length,⟨0,3,pre++(ab (eI .i64) p0++post),false,true,false⟩)) [.int .i64 p1,.int .i64 p2,.int .i64 p3]=(cu p0 p1 p2 p3).map fun r=>(.clean (.tup []),some ⟨0,3,pre++(ab (eI .i64) r.1++post),false,true,false⟩):=Cb _ _ _ _ _ pre post p0 (p1,p2,p3)
noncomputable def fL:Env:=(Am.ext aB 139 true de)
theorem nC:b7 Tryz.prog fL:=(b7.none.add kD true)
theorem iX:fL=(Am.ext aB 139 true de):=Eq.trans rfl rfl
theorem cD:type_of% (And.intro @w <| @iX):=And.intro @w <| @iX
theorem nO (pre post:List D) (p0:(List Int)) (p1:Int) (p2:Int) (p3:Int) (r:(List Int)×(Unit)) (hh:cu p0 p1 p2 p3=some r):aX .clean tab fL FU Tryz.f106 (some (.buf 0 0 1 pre.length p0.length,⟨0,3,pre++(ab (eI .i64) p0++post),false,true,false⟩)) [.int .i64 p1,.int .i64 p2,.int .i64 p3]=some (.clean (.tup []),some ⟨0,3,pre++(ab (eI .i64) r.1++post),false,true,false⟩):=by
 refine nL rfl Tryz.ntmps106 Tryz.results106 ?_
 unfold cu at hh
 obtain ⟨rw,hrw,hh⟩:=ae hh
 split at hh
 rotate_left
 ·cases hh
 cases hh
 rename_i hlen
 replace hh:=hrw
 unfold jt at hh
 try simp only [cD,seval,-Int.reduceToNat]
 obtain ⟨o6,ho6,hh⟩:=ae hh
 refine aD (fun s t H e=>match s with | _=>t 0 = .buf 0 0 1 pre.length (p0).length∧t 1 = .int .i64 p1∧t 2 = .int .i64 p2∧t 3 = .int .i64 p3∧t 8 = .bool true∧t 9 = .bool true∧H 0=some ⟨0,3,pre++(ab (eI .i64) p0++post),false,true,false⟩) (fun o x t H e=>match o with | r=>x = .ret∧gG .clean tab (some (.buf 0 0 1 pre.length p0.length,⟨0,3,pre++(ab (eI .i64) p0++post),false,true,false⟩)) [] ⟨t,H,e⟩=some (.clean (.tup []),some ⟨0,3,pre++(ab (eI .i64) r.1++post),false,true,false⟩)) ho6 ?_ ?_ ?_
 ·
  refine ⟨?_,?_,?_,?_,?_,?_,?_⟩
  all_goals (first | rfl | (simp only [cD,seval,-Int.reduceToNat] <;> rfl))
 ·rintro _ t H e ⟨t0a,t1a,t2a,t3a,t8a,t9a,H0a⟩ c hh
  simp only [je] at hh
  try simp only [cD,seval,-Int.reduceToNat,t0a,t1a,t2a,t3a,t8a,t9a,H0a]
  refine ai (fun hb7 => ?_) (fun hb7 => ?_)
  ·replace hh:=ak hb7 hh
   have i8:=kW pre post p0 p1 p2
   try simp only [List.nil_append,List.append_nil,List.length_nil,aS,List.length_set,cl] at i8
   obtain ⟨r9,hr9,hh⟩:=ae hh
   have q10l:=kl hr9
   skip
   cases hh
   try simp only [cD,seval,-Int.reduceToNat,t0a,t1a,t2a,t3a,t8a,t9a,H0a,i8,hr9,q10l]
   rw [dQ]
   refine ⟨_,rfl,?_⟩
   refine ⟨rfl,?_⟩
   try simp only [cD,seval,-Int.reduceToNat,t0a,t1a,t2a,t3a,t8a,t9a,H0a,i8,hr9,q10l]
  ·replace hh:=aj hb7 hh
   try simp only [cD,seval,-Int.reduceToNat,t0a,t1a,t2a,t3a,t8a,t9a,H0a]
   refine ai (fun hb11 => ?_) (fun hb11 => ?_)
   ·replace hh:=ak hb11 hh
    cases hh
   ·replace hh:=aj hb11 hh
    cases hh
 ·rintro x t H e hx
  rcases o6 with ra
  dsimp only at hx hh
  obtain ⟨rfl,hE⟩:=hx
  cases hh
  try simp only [bo,bf,bG,cY,cX]
  exact hE
theorem nE:bW Tryz.prog 106 ey:=bW.NW (mode := .clean) tok nC mixed Tryz.func106 (by kernel_rfl) ⟨by kernel_rfl,by kernel_rfl⟩ (fun _=>Nat.le_of_ble_eq_true (by kernel_rfl)) (fun pre post l x l' r h=>nO pre post l x.1 x.2.1 x.2.2 (l',r) h)
noncomputable def zy:=P5 3 (eI .i64) (S2) (fun (l:(List Int)) (x:Unit)=>oR l) (fun r:Unit => .clean (.tup []))
noncomputable def mf:Env:=(Am.ext (Am.ext aB 106 true ey) 107 false jJ)
theorem xK:b7 Tryz.prog mf:=((b7.none.add nE true).add xU false)
theorem pc:mf=(Am.ext (Am.ext aB 106 true ey) 107 false jJ):=Eq.trans rfl rfl
theorem zU:type_of% (And.intro @w <| And.intro @q8 <| @pc):=And.intro @w <| And.intro @q8 <| @pc
theorem zK (pre post:List D) (p0:(List Int)) (r:(List Int)×(Unit)) (hh:oR p0=some r):aX .clean tab mf FU Tryz.f69 (some (.buf 0 0 1 pre.length p0.length,⟨0,3,pre++(ab (eI .i64) p0++post),false,true,false⟩)) []=some (.clean (.tup []),some ⟨0,3,pre++(ab (eI .i64) r.1++post),false,true,false⟩):=by
 refine nL rfl Tryz.ntmps69 Tryz.results69 ?_
 unfold oR at hh
 obtain ⟨rw,hrw,hh⟩:=ae hh
 split at hh
 rotate_left
 ·cases hh
 cases hh
 rename_i hlen
 replace hh:=hrw
 unfold ri at hh
 obtain ⟨r1,hr1,hh⟩:=ae hh
 have i2:=nP pre post p0 0 ((p0).length:Int) r1
 try simp only [List.nil_append,List.append_nil,List.length_nil,aS,List.length_set,cl] at i2
 obtain ⟨r3,hr3,hh⟩:=ae hh
 have q4l:=mF hr3
 skip
 cases hh
 try simp only [zU,seval,-Int.reduceToNat,hr1,i2,hr3,q4l]
theorem xV:bW Tryz.prog 69 zy:=bW.NW (mode := .clean) tok xK mixed Tryz.func69 (by kernel_rfl) ⟨by kernel_rfl,by kernel_rfl⟩ (fun _=>Nat.le_of_ble_eq_true (by kernel_rfl)) (fun pre post l x l' r h=>zK pre post l (l',r) h)
noncomputable def mr:=P5 3 (eI .i64) S2 (fun (l:(List Int)) (_:Unit)=>jS l) (fun _:Unit => .clean (.tup []))
theorem Hl (pre post:List D) (p0:(List Int)):mr (some (.buf 0 0 1 pre.length p0.length,⟨0,3,pre++(ab (eI .i64) p0++post),false,true,false⟩)) []=(jS p0).map fun r=>(.clean (.tup []),some ⟨0,3,pre++(ab (eI .i64) r.1++post),false,true,false⟩):=Cb _ _ _ _ _ pre post p0 ()
theorem Wq:Qf Tryz.prog 69:=fun blk off cap zs w hH hb hl=>Any.slices_Sort_int Tryz.GN blk off cap zs w hH hb hl
theorem DI:bW Tryz.prog 69 mr:=TN Tryz.func69 ⟨by kernel_rfl,by kernel_rfl⟩ (fun l=>by simp only [jS]) xV (by kernel_rfl) Wq
noncomputable def eF:=Ux 3 (eI .i64) S2 (fun (l:(List Int)) (_:Unit)=>jd l)
theorem nF (pre post:List D) (p0:(List Int)):eF (some (.buf 0 0 1 pre.length p0.length,⟨0,3,pre++(ab (eI .i64) p0++post),false,true,false⟩)) []=(jd p0).map fun r=>(.fresh 3 1 r.length (ab (eI .i64) r),none):=Rw _ _ _ _ pre post p0 ()
theorem mm:bW Tryz.prog 70 eF:=Lh Tryz.func70 ⟨by kernel_rfl,by kernel_rfl⟩ ⟨fun blk off cap zs w h1 h2 h3=>Any.slices_Compact_int Tryz.Rp blk off cap zs w h1 h2 h3,fun a cap w=>Any.slices_Compact_int_empty Tryz.Rp a cap w⟩
noncomputable def im:=eZ (ef (ie (eI .i64))) (fun x:(List Int)=>fT x) (fun r:Bool => .clean (.bool r))
theorem lH (p0:(List Int)):im none [.sl false false p0.length (ab (eI .i64) p0)]=(fT p0).map fun r:Bool=>(.clean (.bool r),none):=aR _ _ _ (p0)
noncomputable def oG:Env:=(Am.ext (Am.ext (Am.ext aB 65 false cv) 69 true mr) 70 true eF)
theorem BA:b7 Tryz.prog oG:=(((b7.none.add hZ false).add DI true).add mm true)
theorem sj:oG=(Am.ext (Am.ext (Am.ext aB 65 false cv) 69 true mr) 70 true eF):=Eq.trans rfl rfl
theorem DW:type_of% (And.intro @w <| And.intro @dt <| @sj):=And.intro @w <| And.intro @dt <| @sj
theorem Dw (p0:(List Int)) (r:Bool) (hh:fT p0=some r):aX .clean tab oG FU Tryz.f42 none [.sl false false p0.length (ab (eI .i64) p0)]=some (.clean (.bool r),none):=by
 refine ay rfl Tryz.ntmps42 Tryz.results42 ?_
 unfold fT at hh
 obtain ⟨r1,hr1,hh⟩:=ae hh
 have i2:=Hl [] [] r1
 try simp only [List.nil_append,List.append_nil,List.length_nil,aS,List.length_set,cl] at i2
 obtain ⟨r3,hr3,hh⟩:=ae hh
 have q4l:=B2 hr3
 replace q4l:=q4l.symm
 try simp only [q4l] at i2
 have i5:=nF [] [] r3.1
 try simp only [List.nil_append,List.append_nil,List.length_nil,aS,List.length_set,cl] at i5
 obtain ⟨r6,hr6,hh⟩:=ae hh
 cases hh
 try simp only [DW,seval,-Int.reduceToNat,hr1,i2,hr3,q4l,i5,hr6]
theorem sG:bW Tryz.prog 42 im:=bW.of (mode := .clean) tok BA mixed Tryz.func42 (by kernel_rfl) ⟨by kernel_rfl,by kernel_rfl⟩ (fun _=>Nat.le_of_ble_eq_true (by kernel_rfl)) (fun x r h=>Dw x r h)
noncomputable def pG:=eZ (eg (dO eS) (ef (aI .i64))) (fun x:aE×Int=>nK x.1 x.2) (fun r:Bool => .clean (.bool r))
theorem Cx (p0_0:(List ax)) (p1:Int):pG none [.agg [.sl false false p0_0.length (ab aq p0_0)],.int .i64 p1]=(nK (aE.mk p0_0) p1).map fun r:Bool=>(.clean (.bool r),none):=aR _ _ _ ((aE.mk p0_0),p1)
theorem L4 (p0:aE) (p1:Int) (r:Bool) (hh:nK p0 p1=some r):aX .clean tab aB FU Tryz.f95 none [.agg [.sl false false p0.ah.length (ab aq p0.ah)],.int .i64 p1]=some (.clean (.bool r),none):=by
 refine ay rfl Tryz.ntmps95 Tryz.results95 ?_
 unfold nK at hh
 try simp only [w,seval,-Int.reduceToNat]
 refine bK (fun hb1 => ?_) (fun hb1 => ?_)
 ·replace hh:=ak hb1 hh
  cases hh
  try simp only [w,seval,-Int.reduceToNat]
 ·replace hh:=aj hb1 hh
  cases hh
  try simp only [w,seval,-Int.reduceToNat]
theorem Kh:bW Tryz.prog 95 pG:=bW.of (mode := .clean) tok b7.none mixed Tryz.func95 (by kernel_rfl) ⟨by kernel_rfl,by kernel_rfl⟩ (fun _=>Nat.le_of_ble_eq_true (by kernel_rfl)) (fun x r h=>L4 x.1 x.2 r h)
noncomputable def my:=eZ (eg (dO eS) (ef (ie (eI .i64)))) (fun x:aE×(List Int)=>jU x.1 x.2) (fun r:Bool => .clean (.bool r))
theorem wR (p0_0:(List ax)) (p1:(List Int)):my none [.agg [.sl false false p0_0.length (ab aq p0_0)],.sl false false p1.length (ab (eI .i64) p1)]=(jU (aE.mk p0_0) p1).map fun r:Bool=>(.clean (.bool r),none):=aR _ _ _ ((aE.mk p0_0),p1)
noncomputable def qd:Env:=(Am.ext (Am.ext aB 39 false dh) 95 false pG)
theorem Dn:b7 Tryz.prog qd:=((b7.none.add jb false).add Kh false)
theorem uy:qd=(Am.ext (Am.ext aB 39 false dh) 95 false pG):=Eq.trans rfl rfl
theorem bm:type_of% (And.intro @w <| And.intro @dy <| And.intro @Cx <| @uy):=And.intro @w <| And.intro @dy <| And.intro @Cx <| @uy
theorem GZ (p0:aE) (p1:(List Int)) (r:Bool) (hh:jU p0 p1=some r):aX .clean tab qd FU Tryz.f150 none [.agg [.sl false false p0.ah.length (ab aq p0.ah)],.sl false false p1.length (ab (eI .i64) p1)]=some (.clean (.bool r),none):=by
 refine ay rfl Tryz.ntmps150 Tryz.results150 ?_
 unfold jU at hh
 obtain ⟨r1,hr1,hh⟩:=ae hh
 try simp only [bm,seval,-Int.reduceToNat,hr1]
 obtain ⟨o2,ho2,hh⟩:=ae hh
 refine bV 0 (fun s t H e=>match s with | s15j1=>∃ v2j1:Nat,t 1 = .sl false false p1.length (ab (eI .i64) p1)∧t 2 = .ptr 2 v2j1 0∧t 15 = .bool s15j1∧H 2=some ⟨v2j1,24,[.sl false false p0.ah.length (ab aq p0.ah)],false,false,false⟩) (fun s=>s=o2) ?_ ?_
 ·rintro s15j1 t H e ⟨v2j1,t1j1,t2j1,t15j1,H2j1⟩ rfl
  try dsimp only at hh
  try simp only [bm,seval,-Int.reduceToNat,hr1,t1j1,t2j1,t15j1,H2j1]
  refine ai (fun hb3 => ?_) (fun hb3 => ?_)
  ·replace hh:=ak hb3 hh
   cases hh
   try simp only [bm,seval,-Int.reduceToNat,hr1,t1j1,t2j1,t15j1,H2j1]
  ·replace hh:=aj hb3 hh
   try simp only [bm,seval,-Int.reduceToNat,hr1,t1j1,t2j1,t15j1,H2j1]
   obtain ⟨o13,ho13,hh⟩:=ae hh
   refine aD (fun s t H e=>match s with | s18b=>∃ v2b:Nat,t 1 = .sl false false p1.length (ab (eI .i64) p1)∧t 2 = .ptr 2 v2b 0∧t 16 = .sl false false p1.length (ab (eI .i64) p1)∧t 17 = .int .i64 (p1.length:Int)∧t 18 = .int .i64 s18b∧H 2=some ⟨v2b,24,[.sl false false p0.ah.length (ab aq p0.ah)],false,false,false⟩) (fun o x t H e=>match o with | (.inl _)=>x = .exit 0 | (.inr r)=>x = .ret∧gG .clean tab none [.tmp 4] ⟨t,H,e⟩=some (.clean (.bool r),none)) ho13 ?_ ?_ ?_
   ·
    refine ⟨v2j1,?_,?_,?_,?_,?_,?_⟩
    all_goals (first | rfl | (simp only [bm,seval,-Int.reduceToNat,hr1,t1j1,t2j1,t15j1,H2j1] <;> rfl))
   ·rintro s18b t H e ⟨v2b,t1b,t2b,t16b,t17b,t18b,H2b⟩ c hh
    simp only [jF] at hh
    try simp only [bm,seval,-Int.reduceToNat,hr1,t1b,t2b,t16b,t17b,t18b,H2b]
    refine ai (fun hb14 => ?_) (fun hb14 => ?_)
    ·replace hh:=ak hb14 hh
     obtain ⟨x15,hx15,hh⟩:=ae hh
     have bx15:=aJ hx15
     have ax15:=aC (eI .i64) hx15
     have fx15:=aA (eI .i64) hx15
     simp only [cl] at ax15 fx15
     skip
     obtain ⟨r16,hr16,hh⟩:=ae hh
     try simp only [bm,seval,-Int.reduceToNat,hr1,t1b,t2b,t16b,t17b,t18b,H2b,bx15,ax15,fx15,hr16]
     refine ai (fun hb17 => ?_) (fun hb17 => ?_)
     ·replace hh:=ak hb17 hh
      cases hh
      try simp only [bm,seval,-Int.reduceToNat,hr1,t1b,t2b,t16b,t17b,t18b,H2b,bx15,ax15,fx15,hr16]
      rw [dQ]
      refine ⟨_,rfl,?_⟩
      refine ⟨rfl,?_⟩
      try simp only [bm,seval,-Int.reduceToNat,hr1,t1b,t2b,t16b,t17b,t18b,H2b,bx15,ax15,fx15,hr16]
     ·replace hh:=aj hb17 hh
      try simp only [bm,seval,-Int.reduceToNat,hr1,t1b,t2b,t16b,t17b,t18b,H2b,bx15,ax15,fx15,hr16]
      refine ai (fun hb18 => ?_) (fun hb18 => ?_)
      ·replace hh:=ak hb18 hh
       obtain ⟨x19,hx19,hh⟩:=ae hh
       have bx19:=aJ hx19
       have ax19:=aC (eI .i64) hx19
       have fx19:=aA (eI .i64) hx19
       simp only [cl] at ax19 fx19
       skip
       obtain ⟨x20,hx20,hh⟩:=ae hh
       have bx20:=aJ hx20
       have ax20:=aC aq hx20
       have fx20:=aA aq hx20
       simp only [cl] at ax20 fx20
       skip
       try simp only [bm,seval,-Int.reduceToNat,hr1,t1b,t2b,t16b,t17b,t18b,H2b,bx15,ax15,fx15,hr16,bx19,ax19,fx19,bx20,ax20,fx20]
       refine cI (by kernel_rfl) ?_
       try simp only [bm,seval,-Int.reduceToNat,hr1,t1b,t2b,t16b,t17b,t18b,H2b,bx15,ax15,fx15,hr16,bx19,ax19,fx19,bx20,ax20,fx20]
       refine bK (fun hb21 => ?_) (fun hb21 => ?_)
       ·replace hh:=ak hb21 hh
        try simp only [bm,seval,-Int.reduceToNat,hr1,t1b,t2b,t16b,t17b,t18b,H2b,bx15,ax15,fx15,hr16,bx19,ax19,fx19,bx20,ax20,fx20]
        refine ai (fun hb22 => ?_) (fun hb22 => ?_)
        ·replace hh:=ak hb22 hh
         cases hh
         try simp only [bm,seval,-Int.reduceToNat,hr1,t1b,t2b,t16b,t17b,t18b,H2b,bx15,ax15,fx15,hr16,bx19,ax19,fx19,bx20,ax20,fx20]
         rw [dQ]
         refine ⟨_,rfl,?_⟩
         refine ⟨rfl,?_⟩
         try simp only [bm,seval,-Int.reduceToNat,hr1,t1b,t2b,t16b,t17b,t18b,H2b,bx15,ax15,fx15,hr16,bx19,ax19,fx19,bx20,ax20,fx20]
        ·replace hh:=aj hb22 hh
         cases hh
         try simp only [bm,seval,-Int.reduceToNat,hr1,t1b,t2b,t16b,t17b,t18b,H2b,bx15,ax15,fx15,hr16,bx19,ax19,fx19,bx20,ax20,fx20]
         rw [aK]
         refine ⟨_,rfl,?_⟩
         refine ⟨v2b,?_,?_,?_,?_,?_,?_⟩
         all_goals (first | rfl | (simp only [bm,seval,-Int.reduceToNat,hr1,t1b,t2b,t16b,t17b,t18b,H2b,bx15,ax15,fx15,hr16,bx19,ax19,fx19,bx20,ax20,fx20] <;> rfl))
       ·replace hh:=aj hb21 hh
        cases hh
        try simp only [bm,seval,-Int.reduceToNat,hr1,t1b,t2b,t16b,t17b,t18b,H2b,bx15,ax15,fx15,hr16,bx19,ax19,fx19,bx20,ax20,fx20]
        rw [aK]
        refine ⟨_,rfl,?_⟩
        refine ⟨v2b,?_,?_,?_,?_,?_,?_⟩
        all_goals (first | rfl | (simp only [bm,seval,-Int.reduceToNat,hr1,t1b,t2b,t16b,t17b,t18b,H2b,bx15,ax15,fx15,hr16,bx19,ax19,fx19,bx20,ax20,fx20] <;> rfl))
      ·replace hh:=aj hb18 hh
       cases hh
       try simp only [bm,seval,-Int.reduceToNat,hr1,t1b,t2b,t16b,t17b,t18b,H2b,bx15,ax15,fx15,hr16]
       rw [aK]
       refine ⟨_,rfl,?_⟩
       refine ⟨v2b,?_,?_,?_,?_,?_,?_⟩
       all_goals (first | rfl | (simp only [bm,seval,-Int.reduceToNat,hr1,t1b,t2b,t16b,t17b,t18b,H2b,bx15,ax15,fx15,hr16] <;> rfl))
    ·replace hh:=aj hb14 hh
     cases hh
     try simp only [bm,seval,-Int.reduceToNat,hr1,t1b,t2b,t16b,t17b,t18b,H2b]
     rw [bk]
     refine ⟨_,rfl,?_⟩
     exact rfl
   ·rintro x t H e hx
    rcases o13 with _ | rb
    ·
     dsimp only at hx hh
     subst hx
     cases hh
     try simp only [bm,seval,-Int.reduceToNat,hr1]
    ·
     dsimp only at hx hh
     obtain ⟨rfl,hE⟩:=hx
     cases hh
     try simp only [bo,bf,bG,cY,cX]
     exact hE
 ·
  clear hh
  have hh:=ho2
  try simp only [bm,seval,-Int.reduceToNat,hr1]
  refine bj (fun hb23 => ?_) (fun hb23 => ?_)
  ·replace hh:=ak hb23 hh
   cases hh
   try simp only [bm,seval,-Int.reduceToNat,hr1]
   rw [an]
   refine ⟨_,rfl,?_⟩
   refine ⟨0,?_,?_,?_,?_⟩
   all_goals (first | rfl | (simp only [bm,seval,-Int.reduceToNat,hr1] <;> rfl))
  ·replace hh:=aj hb23 hh
   cases hh
   try simp only [bm,seval,-Int.reduceToNat,hr1]
   rw [an]
   refine ⟨_,rfl,?_⟩
   refine ⟨0,?_,?_,?_,?_⟩
   all_goals (first | rfl | (simp only [bm,seval,-Int.reduceToNat,hr1] <;> rfl))
theorem DM:bW Tryz.prog 150 my:=bW.of (mode := .clean) tok Dn mixed Tryz.func150 (by kernel_rfl) ⟨by kernel_rfl,by kernel_rfl⟩ (fun _=>Nat.le_of_ble_eq_true (by kernel_rfl)) (fun x r h=>GZ x.1 x.2 r h)
noncomputable def lF:=eZ (ef (dO aq)) (fun x:ax=>kh x) (fun r:Bool => .clean (.bool r))
theorem uI (p0_0:ByteArray) (p0_1:Int) (p0_2:Int) (p0_3:Int) (p0_4:Int):lF none [.agg [.str p0_0,.int .i64 p0_1,.int .i64 p0_2,.int .i64 p0_3,.int .i64 p0_4]]=(kh (ax.mk p0_0 p0_1 p0_2 p0_3 p0_4)).map fun r:Bool=>(.clean (.bool r),none):=aR _ _ _ ((ax.mk p0_0 p0_1 p0_2 p0_3 p0_4))
theorem DD (p0:ax) (r:Bool) (hh:kh p0=some r):aX .clean tab aB FU Tryz.f123 none [.agg [.str p0.cR,.int .i64 p0.bd,.int .i64 p0.bz,.int .i64 p0.dp,.int .i64 p0.cK]]=some (.clean (.bool r),none):=by
 refine ay rfl Tryz.ntmps123 Tryz.results123 ?_
 unfold kh at hh
 cases hh
 try simp only [w,seval,-Int.reduceToNat]
theorem Ck:bW Tryz.prog 123 lF:=bW.of (mode := .clean) tok b7.none mixed Tryz.func123 (by kernel_rfl) ⟨by kernel_rfl,by kernel_rfl⟩ (fun _=>Nat.le_of_ble_eq_true (by kernel_rfl)) (fun x r h=>DD x r h)
noncomputable def iy:=eZ (eg (dO eS) (eg (aI .i64) (eg S7 (eg (aI .i64) (ef (aI .i64)))))) (fun x:aE×Int×ByteArray×Int×Int=>gU x.1 x.2.1 x.2.2.1 x.2.2.2.1 x.2.2.2.2) (fun r:Bool => .clean (.bool r))
theorem lK (p0_0:(List ax)) (p1:Int) (p2:ByteArray) (p3:Int) (p4:Int):iy none [.agg [.sl false false p0_0.length (ab aq p0_0)],.int .i64 p1,.str p2,.int .i64 p3,.int .i64 p4]=(gU (aE.mk p0_0) p1 p2 p3 p4).map fun r:Bool=>(.clean (.bool r),none):=aR _ _ _ ((aE.mk p0_0),p1,p2,p3,p4)
noncomputable def oL:Env:=(Am.ext (Am.ext aB 39 false dh) 91 false eP)
theorem BF:b7 Tryz.prog oL:=((b7.none.add jb false).add mh false)
theorem sr:oL=(Am.ext (Am.ext aB 39 false dh) 91 false eP):=Eq.trans rfl rfl
theorem cP:type_of% (And.intro @w <| And.intro @dy <| And.intro @gH <| @sr):=And.intro @w <| And.intro @dy <| And.intro @gH <| @sr
theorem DE (p0:aE) (p1:Int) (p2:ByteArray) (p3:Int) (p4:Int) (r:Bool) (hh:gU p0 p1 p2 p3 p4=some r):aX .clean tab oL FU Tryz.f84 none [.agg [.sl false false p0.ah.length (ab aq p0.ah)],.int .i64 p1,.str p2,.int .i64 p3,.int .i64 p4]=some (.clean (.bool r),none):=by
 refine ay rfl Tryz.ntmps84 Tryz.results84 ?_
 unfold gU at hh
 obtain ⟨r1,hr1,hh⟩:=ae hh
 try simp only [cP,seval,-Int.reduceToNat,hr1]
 obtain ⟨o2,ho2,hh⟩:=ae hh
 refine bV 0 (fun s t H e=>match s with | s23j1=>∃ v5j1:Nat,t 1 = .int .i64 p1∧t 2 = .str p2∧t 3 = .int .i64 p3∧t 4 = .int .i64 p4∧t 5 = .ptr 5 v5j1 0∧t 23 = .bool s23j1∧H 5=some ⟨v5j1,24,[.sl false false p0.ah.length (ab aq p0.ah)],false,false,false⟩) (fun s=>s=o2) ?_ ?_
 ·rintro s23j1 t H e ⟨v5j1,t1j1,t2j1,t3j1,t4j1,t5j1,t23j1,H5j1⟩ rfl
  try dsimp only at hh
  try simp only [cP,seval,-Int.reduceToNat,hr1,t1j1,t2j1,t3j1,t4j1,t5j1,t23j1,H5j1]
  refine ai (fun hb3 => ?_) (fun hb3 => ?_)
  ·replace hh:=ak hb3 hh
   cases hh
   try simp only [cP,seval,-Int.reduceToNat,hr1,t1j1,t2j1,t3j1,t4j1,t5j1,t23j1,H5j1]
  ·replace hh:=aj hb3 hh
   obtain ⟨x4,hx4,hh⟩:=ae hh
   have bx4:=aJ hx4
   have ax4:=aC aq hx4
   have fx4:=aA aq hx4
   simp only [cl] at ax4 fx4
   skip
   try simp only [cP,seval,-Int.reduceToNat,hr1,t1j1,t2j1,t3j1,t4j1,t5j1,t23j1,H5j1,bx4,ax4,fx4]
   refine bK (fun hb5 => ?_) (fun hb5 => ?_)
   ·replace hh:=ak hb5 hh
    try simp only [cP,seval,-Int.reduceToNat,hr1,t1j1,t2j1,t3j1,t4j1,t5j1,t23j1,H5j1,bx4,ax4,fx4]
    refine bK (fun hb6 => ?_) (fun hb6 => ?_)
    ·replace hh:=ak hb6 hh
     cases hh
     try simp only [cP,seval,-Int.reduceToNat,hr1,t1j1,t2j1,t3j1,t4j1,t5j1,t23j1,H5j1,bx4,ax4,fx4]
    ·replace hh:=aj hb6 hh
     cases hh
     try simp only [cP,seval,-Int.reduceToNat,hr1,t1j1,t2j1,t3j1,t4j1,t5j1,t23j1,H5j1,bx4,ax4,fx4]
   ·replace hh:=aj hb5 hh
    cases hh
    try simp only [cP,seval,-Int.reduceToNat,hr1,t1j1,t2j1,t3j1,t4j1,t5j1,t23j1,H5j1,bx4,ax4,fx4]
 ·
  clear hh
  have hh:=ho2
  try simp only [cP,seval,-Int.reduceToNat,hr1]
  refine bj (fun hb7 => ?_) (fun hb7 => ?_)
  ·replace hh:=ak hb7 hh
   cases hh
   try simp only [cP,seval,-Int.reduceToNat,hr1]
   rw [an]
   refine ⟨_,rfl,?_⟩
   refine ⟨0,?_,?_,?_,?_,?_,?_,?_⟩
   all_goals (first | rfl | (simp only [cP,seval,-Int.reduceToNat,hr1] <;> rfl))
  ·replace hh:=aj hb7 hh
   obtain ⟨r8,hr8,hh⟩:=ae hh
   cases hh
   try simp only [cP,seval,-Int.reduceToNat,hr1,hr8]
   rw [an]
   refine ⟨_,rfl,?_⟩
   refine ⟨0,?_,?_,?_,?_,?_,?_,?_⟩
   all_goals (first | rfl | (simp only [cP,seval,-Int.reduceToNat,hr1,hr8] <;> rfl))
theorem sM:bW Tryz.prog 84 iy:=bW.of (mode := .clean) tok BF mixed Tryz.func84 (by kernel_rfl) ⟨by kernel_rfl,by kernel_rfl⟩ (fun _=>Nat.le_of_ble_eq_true (by kernel_rfl)) (fun x r h=>DE x.1 x.2.1 x.2.2.1 x.2.2.2.1 x.2.2.2.2 r h)
noncomputable def mw:=eZ (eg (dO eS) (eg (ie (eI .i64)) (eg (aI .i64) (eg (aI .i64) (eg S7 (eg (aI .i64) (ef (aI .i64)))))))) (fun x:aE×(List Int)×Int×Int×ByteArray×Int×Int=>jT x.1 x.2.1 x.2.2.1 x.2.2.2.1 x.2.2.2.2.1 x.2.2.2.2.2.1 x.2.2.2.2.2.2) (fun r:Bool => .clean (.bool r))
theorem wQ (p0_0:(List ax)) (p1:(List Int)) (p2:Int) (p3:Int) (p4:ByteArray) (p5:Int) (p6:Int):mw none [.agg [.sl false false p0_0.length (ab aq p0_0)],.sl false false p1.length (ab (eI .i64) p1),.int .i64 p2,.int .i64 p3,.str p4,.int .i64 p5,.int .i64 p6]=(jT (aE.mk p0_0) p1 p2 p3 p4 p5 p6).map fun r:Bool=>(.clean (.bool r),none):=aR _ _ _ ((aE.mk p0_0),p1,p2,p3,p4,p5,p6)
noncomputable def p9:Env:=(Am.ext (Am.ext (Am.ext aB 84 false iy) 123 false lF) 150 false my)
theorem Dm:b7 Tryz.prog p9:=(((b7.none.add sM false).add Ck false).add DM false)
theorem ux:p9=(Am.ext (Am.ext (Am.ext aB 84 false iy) 123 false lF) 150 false my):=Eq.trans rfl rfl
theorem eO:type_of% (And.intro @w <| And.intro @lK <| And.intro @uI <| And.intro @wR <| @ux):=And.intro @w <| And.intro @lK <| And.intro @uI <| And.intro @wR <| @ux
theorem GY (p0:aE) (p1:(List Int)) (p2:Int) (p3:Int) (p4:ByteArray) (p5:Int) (p6:Int) (r:Bool) (hh:jT p0 p1 p2 p3 p4 p5 p6=some r):aX .clean tab p9 FU Tryz.f108 none [.agg [.sl false false p0.ah.length (ab aq p0.ah)],.sl false false p1.length (ab (eI .i64) p1),.int .i64 p2,.int .i64 p3,.str p4,.int .i64 p5,.int .i64 p6]=some (.clean (.bool r),none):=by
 refine ay rfl Tryz.ntmps108 Tryz.results108 ?_
 unfold jT at hh
 obtain ⟨r1,hr1,hh⟩:=ae hh
 try simp only [eO,seval,-Int.reduceToNat,hr1]
 refine ai (fun hb2 => ?_) (fun hb2 => ?_)
 ·replace hh:=ak hb2 hh
  cases hh
  try simp only [eO,seval,-Int.reduceToNat,hr1]
 ·replace hh:=aj hb2 hh
  obtain ⟨x3,hx3,hh⟩:=ae hh
  have bx3:=aJ hx3
  have ax3:=aC (eI .i64) hx3
  have fx3:=aA (eI .i64) hx3
  simp only [cl] at ax3 fx3
  skip
  obtain ⟨x4,hx4,hh⟩:=ae hh
  have bx4:=aJ hx4
  have ax4:=aC aq hx4
  have fx4:=aA aq hx4
  simp only [cl] at ax4 fx4
  skip
  obtain ⟨x5,hx5,hh⟩:=ae hh
  have bx5:=aJ hx5
  have ax5:=aC (eI .i64) hx5
  have fx5:=aA (eI .i64) hx5
  simp only [cl] at ax5 fx5
  skip
  try simp only [eO,seval,-Int.reduceToNat,hr1,bx3,ax3,fx3,bx4,ax4,fx4,bx5,ax5,fx5]
  refine cI (by kernel_rfl) ?_
  try simp only [eO,seval,-Int.reduceToNat,hr1,bx3,ax3,fx3,bx4,ax4,fx4,bx5,ax5,fx5]
  refine bK (fun hb6 => ?_) (fun hb6 => ?_)
  ·replace hh:=ak hb6 hh
   try simp only [eO,seval,-Int.reduceToNat,hr1,bx3,ax3,fx3,bx4,ax4,fx4,bx5,ax5,fx5]
   refine bK (fun hb7 => ?_) (fun hb7 => ?_)
   ·replace hh:=ak hb7 hh
    obtain ⟨x8,hx8,hh⟩:=ae hh
    have bx8:=aJ hx8
    have ax8:=aC aq hx8
    have fx8:=aA aq hx8
    simp only [cl] at ax8 fx8
    skip
    obtain ⟨r9,hr9,hh⟩:=ae hh
    try simp only [eO,seval,-Int.reduceToNat,hr1,bx3,ax3,fx3,bx4,ax4,fx4,bx5,ax5,fx5,bx8,ax8,fx8,hr9]
    refine bK (fun hb10 => ?_) (fun hb10 => ?_)
    ·replace hh:=ak hb10 hh
     obtain ⟨r11,hr11,hh⟩:=ae hh
     cases hh
     try simp only [eO,seval,-Int.reduceToNat,hr1,bx3,ax3,fx3,bx4,ax4,fx4,bx5,ax5,fx5,bx8,ax8,fx8,hr9,hr11]
    ·replace hh:=aj hb10 hh
     cases hh
     try simp only [eO,seval,-Int.reduceToNat,hr1,bx3,ax3,fx3,bx4,ax4,fx4,bx5,ax5,fx5,bx8,ax8,fx8,hr9]
   ·replace hh:=aj hb7 hh
    cases hh
    try simp only [eO,seval,-Int.reduceToNat,hr1,bx3,ax3,fx3,bx4,ax4,fx4,bx5,ax5,fx5]
  ·replace hh:=aj hb6 hh
   cases hh
   try simp only [eO,seval,-Int.reduceToNat,hr1,bx3,ax3,fx3,bx4,ax4,fx4,bx5,ax5,fx5]
theorem DL:bW Tryz.prog 108 mw:=bW.of (mode := .clean) tok Dm mixed Tryz.func108 (by kernel_rfl) ⟨by kernel_rfl,by kernel_rfl⟩ (fun _=>Nat.le_of_ble_eq_true (by kernel_rfl)) (fun x r h=>GY x.1 x.2.1 x.2.2.1 x.2.2.2.1 x.2.2.2.2.1 x.2.2.2.2.2.1 x.2.2.2.2.2.2 r h)
noncomputable def gA:=eZ (eg (dO zY) (ef (dO aL))) (fun x:jQ×aG=>dS x.1 x.2) (fun r:Bool => .clean (.bool r))
theorem mn (p0_0:(List ax)) (p0_1:Int) (p0_2:Int) (p0_3:Int) (p1_0:Int) (p1_1:(List Int)) (p1_2:ByteArray) (p1_3:Int) (p1_4:Int):gA none [.agg [.sl false false p0_0.length (ab aq p0_0),.int .i64 p0_1,.int .i64 p0_2,.int .i64 p0_3],.agg [.int .i64 p1_0,.sl false false p1_1.length (ab (eI .i64) p1_1),.str p1_2,.int .i64 p1_3,.int .i64 p1_4]]=(dS (jQ.mk (aE.mk p0_0) p0_1 p0_2 p0_3) (aG.mk p1_0 p1_1 p1_2 p1_3 p1_4)).map fun r:Bool=>(.clean (.bool r),none):=aR _ _ _ ((jQ.mk (aE.mk p0_0) p0_1 p0_2 p0_3),(aG.mk p1_0 p1_1 p1_2 p1_3 p1_4))
noncomputable def ju:Env:=(Am.ext aB 108 false mw)
theorem sg:b7 Tryz.prog ju:=(b7.none.add DL false)
theorem lO:ju=(Am.ext aB 108 false mw):=Eq.trans rfl rfl
theorem b6:type_of% (And.intro @w <| And.intro @wQ <| @lO):=And.intro @w <| And.intro @wQ <| @lO
theorem tS (p0:jQ) (p1:aG) (r:Bool) (hh:dS p0 p1=some r):aX .clean tab ju FU Tryz.f73 none [.agg [.sl false false p0.Tq.ah.length (ab aq p0.Tq.ah),.int .i64 p0.xt,.int .i64 p0.tz,.int .i64 p0.tx],.agg [.int .i64 p1.bn,.sl false false p1.eG.length (ab (eI .i64) p1.eG),.str p1.cR,.int .i64 p1.bd,.int .i64 p1.bz]]=some (.clean (.bool r),none):=by
 refine ay rfl Tryz.ntmps73 Tryz.results73 ?_
 unfold dS at hh
 try simp only [b6,seval,-Int.reduceToNat]
 refine xa (fun hb1 => ?_) (fun hb1 => ?_)
 ·replace hh:=ak hb1 hh
  obtain ⟨x2,hx2,hh⟩:=ae hh
  have bx2:=aJ hx2
  have ax2:=aC (eI .i64) hx2
  have fx2:=aA (eI .i64) hx2
  simp only [cl] at ax2 fx2
  skip
  try simp only [b6,seval,-Int.reduceToNat,bx2,ax2,fx2]
  refine xa (fun hb3 => ?_) (fun hb3 => ?_)
  ·replace hh:=ak hb3 hh
   obtain ⟨x4,hx4,hh⟩:=ae hh
   have bx4:=aJ hx4
   have ax4:=aC (eI .i64) hx4
   have fx4:=aA (eI .i64) hx4
   simp only [cl] at ax4 fx4
   skip
   try simp only [b6,seval,-Int.reduceToNat,bx2,ax2,fx2,bx4,ax4,fx4]
   refine xa (fun hb5 => ?_) (fun hb5 => ?_)
   ·replace hh:=ak hb5 hh
    obtain ⟨r6,hr6,hh⟩:=ae hh
    try simp only [b6,seval,-Int.reduceToNat,bx2,ax2,fx2,bx4,ax4,fx4,hr6]
    refine cI (by kernel_rfl) ?_
    cases hh
    try simp only [b6,seval,-Int.reduceToNat,bx2,ax2,fx2,bx4,ax4,fx4,hr6]
   ·replace hh:=aj hb5 hh
    try simp only [b6,seval,-Int.reduceToNat,bx2,ax2,fx2,bx4,ax4,fx4]
    refine cI (by kernel_rfl) ?_
    cases hh
    try simp only [b6,seval,-Int.reduceToNat,bx2,ax2,fx2,bx4,ax4,fx4]
  ·replace hh:=aj hb3 hh
   try simp only [b6,seval,-Int.reduceToNat,bx2,ax2,fx2]
   refine cI (by kernel_rfl) ?_
   cases hh
   try simp only [b6,seval,-Int.reduceToNat,bx2,ax2,fx2]
 ·replace hh:=aj hb1 hh
  try simp only [b6,seval,-Int.reduceToNat]
  refine cI (by kernel_rfl) ?_
  cases hh
  try simp only [b6,seval,-Int.reduceToNat]
theorem sF:bW Tryz.prog 73 gA:=bW.of (mode := .clean) tok sg mixed Tryz.func73 (by kernel_rfl) ⟨by kernel_rfl,by kernel_rfl⟩ (fun _=>Nat.le_of_ble_eq_true (by kernel_rfl)) (fun x r h=>tS x.1 x.2 r h)
noncomputable def vC:=eZ (ef (aI .i64)) (fun x:Int=>rB x) (fun r:aw => .clean (.agg [.int .i64 r.ag,.sl false false r.aa.length (ab (eI .i64) r.aa)]))
theorem Km (p0:Int):vC none [.int .i64 p0]=(rB p0).map fun r:aw=>(.clean (.agg [.int .i64 r.ag,.sl false false r.aa.length (ab (eI .i64) r.aa)]),none):=aR _ _ _ (p0)
noncomputable def Bv:Env:=(Am.ext aB 126 false fQ)
theorem Pg:b7 Tryz.prog Bv:=(b7.none.add oN false)
theorem E5:Bv=(Am.ext aB 126 false fQ):=Eq.trans rfl rfl
theorem gp:type_of% (And.intro @w <| And.intro @jo <| @E5):=And.intro @w <| And.intro @jo <| @E5
theorem Rt (p0:Int) (r:aw) (hh:rB p0=some r):aX .clean tab Bv FU Tryz.f109 none [.int .i64 p0]=some (.clean (.agg [.int .i64 r.ag,.sl false false r.aa.length (ab (eI .i64) r.aa)]),none):=by
 refine ay rfl Tryz.ntmps109 Tryz.results109 ?_
 unfold rB at hh
 try simp only [gp,seval,-Int.reduceToNat]
 obtain ⟨o1,ho1,hh⟩:=ae hh
 refine l7 0 (fun s t H e=>match s with | (s3j1,s4j1)=>∃ v2j1:Nat,t 2 = .ptr 2 v2j1 0∧t 3 = .int .i64 s3j1∧t 4 = .int .u64 s4j1∧H 2=some ⟨v2j1,49,[.int .i64 0,.sl true true 0 []],false,false,false⟩) (fun s=>s=o1) ?_ ?_
 ·rintro ⟨s3j1,s4j1⟩ t H e ⟨v2j1,t2j1,t3j1,t4j1,H2j1⟩ rfl
  try dsimp only at hh
  try simp only [gp,seval,-Int.reduceToNat,t2j1,t3j1,t4j1,H2j1]
  obtain ⟨o7,ho7,hh⟩:=ae hh
  refine aD (fun s t H e=>match s with | (s4b,l5b)=>∃ v2b:Nat,∃ v5b:Nat,t 2 = .ptr 2 v2b 0∧t 3 = .int .i64 s3j1∧t 4 = .int .u64 s4b∧t 5 = .buf 5 v5b 1 0 (l5b).length∧H 2=some ⟨v2b,49,[.int .i64 0,.sl true true 0 []],false,false,false⟩∧H 5=some ⟨v5b,3,ab (eI .i64) l5b,false,true,false⟩) (fun o x t H e=>match o with | l5bx=>x = .exit 0∧∃ v2bx:Nat,∃ v5bx:Nat,t 2 = .ptr 2 v2bx 0∧t 3 = .int .i64 s3j1∧t 5 = .buf 5 v5bx 1 0 (l5bx).length∧H 2=some ⟨v2bx,49,[.int .i64 0,.sl true true 0 []],false,false,false⟩∧H 5=some ⟨v5bx,3,ab (eI .i64) l5bx,false,true,false⟩) ho7 ?_ ?_ ?_
  ·
   refine ⟨v2j1,e,?_,?_,?_,?_,?_,?_⟩
   all_goals (first | rfl | (simp only [gp,seval,-Int.reduceToNat,t2j1,t3j1,t4j1,H2j1] <;> rfl))
  ·rintro ⟨s4b,l5b⟩ t H e ⟨v2b,v5b,t2b,t3b,t4b,t5b,H2b,H5b⟩ c hh
   simp only [tn] at hh
   try simp only [gp,seval,-Int.reduceToNat,t2b,t3b,t4b,t5b,H2b,H5b]
   refine ai (fun hb8 => ?_) (fun hb8 => ?_)
   ·replace hh:=ak hb8 hh
    obtain ⟨x9,hx9,hh⟩:=ae hh
    obtain ⟨q10a,q10b,q10c,q10d⟩:=fS (eI .i64) hx9
    simp only [cl] at q10b
    obtain ⟨x11,hx11,hh⟩:=ae hh
    obtain ⟨q12a,q12b⟩:=qH hx11
    cases hh
    try simp only [gp,seval,-Int.reduceToNat,t2b,t3b,t4b,t5b,H2b,H5b,q10a,q10b,q10c,q10d,q12a,q12b]
    rw [aK]
    refine ⟨_,rfl,?_⟩
    refine ⟨v2b,e+1,?_,?_,?_,?_,?_,?_⟩
    all_goals (first | rfl | (simp only [gp,seval,-Int.reduceToNat,t2b,t3b,t4b,t5b,H2b,H5b,q10a,q10b,q10c,q10d,q12a,q12b] <;> rfl))
   ·replace hh:=aj hb8 hh
    cases hh
    try simp only [gp,seval,-Int.reduceToNat,t2b,t3b,t4b,t5b,H2b,H5b]
    rw [bk]
    refine ⟨_,rfl,?_⟩
    refine ⟨rfl,⟨v2b,v5b,?_,?_,?_,?_,?_⟩⟩
    all_goals (first | rfl | (simp only [gp,seval,-Int.reduceToNat,t2b,t3b,t4b,t5b,H2b,H5b] <;> rfl))
  ·rintro x t H e hx
   obtain ⟨l5bx,rfl⟩ : ∃ z,z=o7:=⟨_,rfl⟩
   dsimp only at hx hh
   obtain ⟨rfl,⟨v2bx,v5bx,t2bx,t3bx,t5bx,H2bx,H5bx⟩⟩:=hx
   obtain ⟨r13,hr13,hh⟩:=ae hh
   cases hh
   try simp only [gp,seval,-Int.reduceToNat,t2bx,t3bx,t5bx,H2bx,H5bx,hr13]
 ·
  clear hh
  have hh:=ho1
  try simp only [gp,seval,-Int.reduceToNat]
  refine ai (fun hb14 => ?_) (fun hb14 => ?_)
  ·replace hh:=ak hb14 hh
   cases hh
   try simp only [gp,seval,-Int.reduceToNat]
   rw [an]
   refine ⟨_,rfl,?_⟩
   refine ⟨0,?_,?_,?_,?_⟩
   all_goals (first | rfl | (simp only [gp,seval,-Int.reduceToNat] <;> rfl))
  ·replace hh:=aj hb14 hh
   cases hh
   try simp only [gp,seval,-Int.reduceToNat]
   rw [an]
   refine ⟨_,rfl,?_⟩
   refine ⟨0,?_,?_,?_,?_⟩
   all_goals (first | rfl | (simp only [gp,seval,-Int.reduceToNat] <;> rfl))
theorem PH:bW Tryz.prog 109 vC:=bW.of (mode := .clean) tok Pg mixed Tryz.func109 (by kernel_rfl) ⟨by kernel_rfl,by kernel_rfl⟩ (fun _=>Nat.le_of_ble_eq_true (by kernel_rfl)) (fun x r h=>Rt x r h)
noncomputable def pA:=eZ (ef (aI .i64)) (fun x:Int=>ny x) (fun r:aY => .clean (.agg [.int .i64 r.cr.ag,.sl false false r.cr.aa.length (ab (eI .i64) r.cr.aa),.int .i64 r.cq.ag,.sl false false r.cq.aa.length (ab (eI .i64) r.cq.aa)]))
theorem Ct (p0:Int):pA none [.int .i64 p0]=(ny p0).map fun r:aY=>(.clean (.agg [.int .i64 r.cr.ag,.sl false false r.cr.aa.length (ab (eI .i64) r.cr.aa),.int .i64 r.cq.ag,.sl false false r.cq.aa.length (ab (eI .i64) r.cq.aa)]),none):=aR _ _ _ (p0)
noncomputable def u6:Env:=(Am.ext aB 109 false vC)
theorem IZ:b7 Tryz.prog u6:=(b7.none.add PH false)
theorem yP:u6=(Am.ext aB 109 false vC):=Eq.trans rfl rfl
theorem MS:type_of% (And.intro @w <| And.intro @Km <| @yP):=And.intro @w <| And.intro @Km <| @yP
theorem LU (p0:Int) (r:aY) (hh:ny p0=some r):aX .clean tab u6 FU Tryz.f74 none [.int .i64 p0]=some (.clean (.agg [.int .i64 r.cr.ag,.sl false false r.cr.aa.length (ab (eI .i64) r.cr.aa),.int .i64 r.cq.ag,.sl false false r.cq.aa.length (ab (eI .i64) r.cq.aa)]),none):=by
 refine ay rfl Tryz.ntmps74 Tryz.results74 ?_
 unfold ny at hh
 obtain ⟨r1,hr1,hh⟩:=ae hh
 obtain ⟨r2,hr2,hh⟩:=ae hh
 cases hh
 try simp only [MS,seval,-Int.reduceToNat,hr1,hr2]
theorem Kb:bW Tryz.prog 74 pA:=bW.of (mode := .clean) tok IZ mixed Tryz.func74 (by kernel_rfl) ⟨by kernel_rfl,by kernel_rfl⟩ (fun _=>Nat.le_of_ble_eq_true (by kernel_rfl)) (fun x r h=>LU x r h)
noncomputable def pF:=eZ (eg (dO lj) (ef (dO lh))) (fun x:dL×aY=>kP x.1 x.2) (fun r:Bool => .clean (.bool r))
theorem Cw (p0_0:Int) (p0_1:(List Int)) (p0_2:Int) (p0_3:(List Int)) (p0_4:Int) (p0_5:(List Int)) (p0_6:Int) (p0_7:(List Int)) (p1_0:Int) (p1_1:(List Int)) (p1_2:Int) (p1_3:(List Int)):pF none [.agg [.int .i64 p0_0,.sl false false p0_1.length (ab (eI .i64) p0_1),.int .i64 p0_2,.sl false false p0_3.length (ab (eI .i64) p0_3),.int .i64 p0_4,.sl false false p0_5.length (ab (eI .i64) p0_5),.int .i64 p0_6,.sl false false p0_7.length (ab (eI .i64) p0_7)],.agg [.int .i64 p1_0,.sl false false p1_1.length (ab (eI .i64) p1_1),.int .i64 p1_2,.sl false false p1_3.length (ab (eI .i64) p1_3)]]=(kP (dL.mk (aY.mk (aw.mk p0_0 p0_1) (aw.mk p0_2 p0_3)) (aY.mk (aw.mk p0_4 p0_5) (aw.mk p0_6 p0_7))) (aY.mk (aw.mk p1_0 p1_1) (aw.mk p1_2 p1_3))).map fun r:Bool=>(.clean (.bool r),none):=aR _ _ _ ((dL.mk (aY.mk (aw.mk p0_0 p0_1) (aw.mk p0_2 p0_3)) (aY.mk (aw.mk p0_4 p0_5) (aw.mk p0_6 p0_7))),(aY.mk (aw.mk p1_0 p1_1) (aw.mk p1_2 p1_3)))
noncomputable def ve:Env:=(Am.ext (Am.ext (Am.ext aB 30 false ji) 57 false fR) 58 false gD)
theorem I6:b7 Tryz.prog ve:=(((b7.none.add uC false).add oO false).add qY false)
theorem yW:ve=(Am.ext (Am.ext (Am.ext aB 30 false ji) 57 false fR) 58 false gD):=Eq.trans rfl rfl
theorem jX:type_of% (And.intro @w <| And.intro @mK <| And.intro @jq <| And.intro @kI <| @yW):=And.intro @w <| And.intro @mK <| And.intro @jq <| And.intro @kI <| @yW
theorem L3 (p0:dL) (p1:aY) (r:Bool) (hh:kP p0 p1=some r):aX .clean tab ve FU Tryz.f31 none [.agg [.int .i64 p0.bx.cr.ag,.sl false false p0.bx.cr.aa.length (ab (eI .i64) p0.bx.cr.aa),.int .i64 p0.bx.cq.ag,.sl false false p0.bx.cq.aa.length (ab (eI .i64) p0.bx.cq.aa),.int .i64 p0.aT.cr.ag,.sl false false p0.aT.cr.aa.length (ab (eI .i64) p0.aT.cr.aa),.int .i64 p0.aT.cq.ag,.sl false false p0.aT.cq.aa.length (ab (eI .i64) p0.aT.cq.aa)],.agg [.int .i64 p1.cr.ag,.sl false false p1.cr.aa.length (ab (eI .i64) p1.cr.aa),.int .i64 p1.cq.ag,.sl false false p1.cq.aa.length (ab (eI .i64) p1.cq.aa)]]=some (.clean (.bool r),none):=by
 refine ay rfl Tryz.ntmps31 Tryz.results31 ?_
 unfold kP at hh
 obtain ⟨r1,hr1,hh⟩:=ae hh
 try simp only [jX,seval,-Int.reduceToNat,hr1]
 refine bK (fun hb2 => ?_) (fun hb2 => ?_)
 ·replace hh:=ak hb2 hh
  obtain ⟨r3,hr3,hh⟩:=ae hh
  try simp only [jX,seval,-Int.reduceToNat,hr1,hr3]
  refine bK (fun hb4 => ?_) (fun hb4 => ?_)
  ·replace hh:=ak hb4 hh
   obtain ⟨r5,hr5,hh⟩:=ae hh
   try simp only [jX,seval,-Int.reduceToNat,hr1,hr3,hr5]
   refine bK (fun hb6 => ?_) (fun hb6 => ?_)
   ·replace hh:=ak hb6 hh
    obtain ⟨r7,hr7,hh⟩:=ae hh
    cases hh
    try simp only [jX,seval,-Int.reduceToNat,hr1,hr3,hr5,hr7]
   ·replace hh:=aj hb6 hh
    cases hh
    try simp only [jX,seval,-Int.reduceToNat,hr1,hr3,hr5]
  ·replace hh:=aj hb4 hh
   cases hh
   try simp only [jX,seval,-Int.reduceToNat,hr1,hr3]
 ·replace hh:=aj hb2 hh
  cases hh
  try simp only [jX,seval,-Int.reduceToNat,hr1]
theorem Kg:bW Tryz.prog 31 pF:=bW.of (mode := .clean) tok I6 mixed Tryz.func31 (by kernel_rfl) ⟨by kernel_rfl,by kernel_rfl⟩ (fun _=>Nat.le_of_ble_eq_true (by kernel_rfl)) (fun x r h=>L3 x.1 x.2 r h)
noncomputable def fa:=eZ (eg (dO aL) (ef (Qh (eI .i64)))) (fun x:aG×Int=>dG x.1 x.2) (fun r:Bool => .clean (.bool r))
theorem kG (p0_0:Int) (p0_1:(List Int)) (p0_2:ByteArray) (p0_3:Int) (p0_4:Int) (p1:Int):fa none [.agg [.int .i64 p0_0,.sl false false p0_1.length (ab (eI .i64) p0_1),.str p0_2,.int .i64 p0_3,.int .i64 p0_4],.ip [.int .i64 p1]]=(dG (aG.mk p0_0 p0_1 p0_2 p0_3 p0_4) p1).map fun r:Bool=>(.clean (.bool r),none):=aR _ _ _ ((aG.mk p0_0 p0_1 p0_2 p0_3 p0_4),p1)
theorem qk (p0:aG) (p1:Int) (r:Bool) (hh:dG p0 p1=some r):aX .clean tab aB FU Tryz.f72 none [.agg [.int .i64 p0.bn,.sl false false p0.eG.length (ab (eI .i64) p0.eG),.str p0.cR,.int .i64 p0.bd,.int .i64 p0.bz],.ip [.int .i64 p1]]=some (.clean (.bool r),none):=by
 refine ay rfl Tryz.ntmps72 Tryz.results72 ?_
 unfold dG at hh
 cases hh
 try simp only [w,seval,-Int.reduceToNat]
theorem po:bW Tryz.prog 72 fa:=bW.of (mode := .clean) tok b7.none mixed Tryz.func72 (by kernel_rfl) ⟨by kernel_rfl,by kernel_rfl⟩ (fun _=>Nat.le_of_ble_eq_true (by kernel_rfl)) (fun x r h=>qk x.1 x.2 r h)
noncomputable def fb:=eZ (eg (dO aF) (eg (Qh (eI .i64)) (ef (Qh lh)))) (fun x:az×Int×aY=>dH x.1 x.2.1 x.2.2) (fun r:Bool => .clean (.bool r))
theorem kH (p0_0:Int) (p0_1:Int) (p0_2:(List Int)) (p0_3:Int) (p0_4:(List Int)) (p0_5:Int) (p0_6:(List Int)) (p0_7:Int) (p0_8:(List Int)) (p1:Int) (p2_0:Int) (p2_1:(List Int)) (p2_2:Int) (p2_3:(List Int)):fb none [.agg [.int .i64 p0_0,.int .i64 p0_1,.sl false false p0_2.length (ab (eI .i64) p0_2),.int .i64 p0_3,.sl false false p0_4.length (ab (eI .i64) p0_4),.int .i64 p0_5,.sl false false p0_6.length (ab (eI .i64) p0_6),.int .i64 p0_7,.sl false false p0_8.length (ab (eI .i64) p0_8)],.ip [.int .i64 p1],.ip [.int .i64 p2_0,.sl false false p2_1.length (ab (eI .i64) p2_1),.int .i64 p2_2,.sl false false p2_3.length (ab (eI .i64) p2_3)]]=(dH (az.mk p0_0 (dL.mk (aY.mk (aw.mk p0_1 p0_2) (aw.mk p0_3 p0_4)) (aY.mk (aw.mk p0_5 p0_6) (aw.mk p0_7 p0_8)))) p1 (aY.mk (aw.mk p2_0 p2_1) (aw.mk p2_2 p2_3))).map fun r:Bool=>(.clean (.bool r),none):=aR _ _ _ ((az.mk p0_0 (dL.mk (aY.mk (aw.mk p0_1 p0_2) (aw.mk p0_3 p0_4)) (aY.mk (aw.mk p0_5 p0_6) (aw.mk p0_7 p0_8)))),p1,(aY.mk (aw.mk p2_0 p2_1) (aw.mk p2_2 p2_3)))
noncomputable def gX:Env:=(Am.ext aB 31 false pF)
theorem oZ:b7 Tryz.prog gX:=(b7.none.add Kg false)
theorem j9:gX=(Am.ext aB 31 false pF):=Eq.trans rfl rfl
theorem ia:type_of% (And.intro @w <| And.intro @Cw <| @j9):=And.intro @w <| And.intro @Cw <| @j9
theorem ql (p0:az) (p1:Int) (p2:aY) (r:Bool) (hh:dH p0 p1 p2=some r):aX .clean tab gX FU Tryz.f75 none [.agg [.int .i64 p0.bn,.int .i64 p0.bD.bx.cr.ag,.sl false false p0.bD.bx.cr.aa.length (ab (eI .i64) p0.bD.bx.cr.aa),.int .i64 p0.bD.bx.cq.ag,.sl false false p0.bD.bx.cq.aa.length (ab (eI .i64) p0.bD.bx.cq.aa),.int .i64 p0.bD.aT.cr.ag,.sl false false p0.bD.aT.cr.aa.length (ab (eI .i64) p0.bD.aT.cr.aa),.int .i64 p0.bD.aT.cq.ag,.sl false false p0.bD.aT.cq.aa.length (ab (eI .i64) p0.bD.aT.cq.aa)],.ip [.int .i64 p1],.ip [.int .i64 p2.cr.ag,.sl false false p2.cr.aa.length (ab (eI .i64) p2.cr.aa),.int .i64 p2.cq.ag,.sl false false p2.cq.aa.length (ab (eI .i64) p2.cq.aa)]]=some (.clean (.bool r),none):=by
 refine ay rfl Tryz.ntmps75 Tryz.results75 ?_
 unfold dH at hh
 try simp only [ia,seval,-Int.reduceToNat]
 refine bK (fun hb1 => ?_) (fun hb1 => ?_)
 ·replace hh:=ak hb1 hh
  obtain ⟨r2,hr2,hh⟩:=ae hh
  cases hh
  try simp only [ia,seval,-Int.reduceToNat,hr2]
 ·replace hh:=aj hb1 hh
  cases hh
  try simp only [ia,seval,-Int.reduceToNat]
theorem pq:bW Tryz.prog 75 fb:=bW.of (mode := .clean) tok oZ mixed Tryz.func75 (by kernel_rfl) ⟨by kernel_rfl,by kernel_rfl⟩ (fun _=>Nat.le_of_ble_eq_true (by kernel_rfl)) (fun x r h=>ql x.1 x.2.1 x.2.2 r h)
noncomputable def b9:=eZ (eg (ie aL) (ef (Qg 72 0 (ef (Qh (eI .i64)))))) (fun x:(List aG)×(Int)=>bc x.1 x.2) (fun r:Int => .clean (.int .i64 r))
theorem dX (p0:(List aG)) (p1c0:Int):b9 none [.sl false false p0.length (ab aL p0),.clo 72 0 [.ip [.int .i64 p1c0]]]=(bc p0 p1c0).map fun r:Int=>(.clean (.int .i64 r),none):=aR _ _ _ (p0,(p1c0))
noncomputable def cH:Env:=(Am.ext aB 72 false fa)
theorem gL:b7 Tryz.prog cH:=(b7.none.add po false)
theorem dN:cH=(Am.ext aB 72 false fa):=Eq.trans rfl rfl
theorem aM:type_of% (And.intro @w <| And.intro @kG <| @dN):=And.intro @w <| And.intro @kG <| @dN
theorem gZ (p0:(List aG)) (p1c0:Int) (r:Int) (hh:bc p0 p1c0=some r):aX .clean tab cH FU Tryz.f71 none [.sl false false p0.length (ab aL p0),.clo 72 0 [.ip [.int .i64 p1c0]]]=some (.clean (.int .i64 r),none):=by
 refine ay rfl Tryz.ntmps71 Tryz.results71 ?_
 unfold bc at hh
 try simp only [aM,seval,-Int.reduceToNat]
 obtain ⟨o5,ho5,hh⟩:=ae hh
 refine aD (fun s t H e=>match s with | s8a=>t 0 = .sl false false p0.length (ab aL p0)∧t 1 = .clo 72 0 [.ip [.int .i64 p1c0]]∧t 7 = .int .i64 (p0.length:Int)∧t 8 = .int .i64 s8a) (fun o x t H e=>match o with | (.inl _)=>x = .exit 0 | (.inr r)=>x = .ret∧gG .clean tab none [.tmp 4] ⟨t,H,e⟩=some (.clean (.int .i64 r),none)) ho5 ?_ ?_ ?_
 ·
  refine ⟨?_,?_,?_,?_⟩
  all_goals (first | rfl | (simp only [aM,seval,-Int.reduceToNat] <;> rfl))
 ·rintro s8a t H e ⟨t0a,t1a,t7a,t8a⟩ c hh
  simp only [bZ] at hh
  try simp only [aM,seval,-Int.reduceToNat,t0a,t1a,t7a,t8a]
  refine ai (fun hb6 => ?_) (fun hb6 => ?_)
  ·replace hh:=ak hb6 hh
   obtain ⟨x7,hx7,hh⟩:=ae hh
   have bx7:=aJ hx7
   have ax7:=aC aL hx7
   have fx7:=aA aL hx7
   simp only [cl] at ax7 fx7
   skip
   obtain ⟨r8,hr8,hh⟩:=ae hh
   try simp only [aM,seval,-Int.reduceToNat,t0a,t1a,t7a,t8a,bx7,ax7,fx7,hr8]
   refine ai (fun hb9 => ?_) (fun hb9 => ?_)
   ·replace hh:=ak hb9 hh
    cases hh
    try simp only [aM,seval,-Int.reduceToNat,t0a,t1a,t7a,t8a,bx7,ax7,fx7,hr8]
    rw [dQ]
    refine ⟨_,rfl,?_⟩
    refine ⟨rfl,?_⟩
    try simp only [aM,seval,-Int.reduceToNat,t0a,t1a,t7a,t8a,bx7,ax7,fx7,hr8]
   ·replace hh:=aj hb9 hh
    cases hh
    try simp only [aM,seval,-Int.reduceToNat,t0a,t1a,t7a,t8a,bx7,ax7,fx7,hr8]
    rw [aK]
    refine ⟨_,rfl,?_⟩
    refine ⟨?_,?_,?_,?_⟩
    all_goals (first | rfl | (simp only [aM,seval,-Int.reduceToNat,t0a,t1a,t7a,t8a,bx7,ax7,fx7,hr8] <;> rfl))
  ·replace hh:=aj hb6 hh
   cases hh
   try simp only [aM,seval,-Int.reduceToNat,t0a,t1a,t7a,t8a]
   rw [bk]
   refine ⟨_,rfl,?_⟩
   exact rfl
 ·rintro x t H e hx
  rcases o5 with _ | ra
  ·
   dsimp only at hx hh
   subst hx
   cases hh
   try simp only [aM,seval,-Int.reduceToNat]
  ·
   dsimp only at hx hh
   obtain ⟨rfl,hE⟩:=hx
   cases hh
   try simp only [bo,bf,bG,cY,cX]
   exact hE
theorem gN:bW Tryz.prog 71 b9:=bW.of (mode := .clean) tok gL mixed Tryz.func71 (by kernel_rfl) ⟨by kernel_rfl,by kernel_rfl⟩ (fun _=>Nat.le_of_ble_eq_true (by kernel_rfl)) (fun x r h=>gZ x.1 x.2 r h)
noncomputable def ch:=eZ (eg (ie aF) (ef (Qg 75 0 (eg (Qh (eI .i64)) (ef (Qh lh)))))) (fun x:(List az)×(Int×aY)=>bH x.1 x.2.1 x.2.2) (fun r:Int => .clean (.int .i64 r))
theorem eJ (p0:(List az)) (p1c0:Int) (p1c1_0:Int) (p1c1_1:(List Int)) (p1c1_2:Int) (p1c1_3:(List Int)):ch none [.sl false false p0.length (ab aF p0),.clo 75 0 [.ip [.int .i64 p1c0],.ip [.int .i64 p1c1_0,.sl false false p1c1_1.length (ab (eI .i64) p1c1_1),.int .i64 p1c1_2,.sl false false p1c1_3.length (ab (eI .i64) p1c1_3)]]]=(bH p0 p1c0 (aY.mk (aw.mk p1c1_0 p1c1_1) (aw.mk p1c1_2 p1c1_3))).map fun r:Int=>(.clean (.int .i64 r),none):=aR _ _ _ (p0,(p1c0,(aY.mk (aw.mk p1c1_0 p1c1_1) (aw.mk p1c1_2 p1c1_3))))
noncomputable def db:Env:=(Am.ext aB 75 false fb)
theorem iG:b7 Tryz.prog db:=(b7.none.add pq false)
theorem eC:db=(Am.ext aB 75 false fb):=Eq.trans rfl rfl
theorem aO:type_of% (And.intro @w <| And.intro @kH <| @eC):=And.intro @w <| And.intro @kH <| @eC
theorem iP (p0:(List az)) (p1c0:Int) (p1c1:aY) (r:Int) (hh:bH p0 p1c0 p1c1=some r):aX .clean tab db FU Tryz.f68 none [.sl false false p0.length (ab aF p0),.clo 75 0 [.ip [.int .i64 p1c0],.ip [.int .i64 p1c1.cr.ag,.sl false false p1c1.cr.aa.length (ab (eI .i64) p1c1.cr.aa),.int .i64 p1c1.cq.ag,.sl false false p1c1.cq.aa.length (ab (eI .i64) p1c1.cq.aa)]]]=some (.clean (.int .i64 r),none):=by
 refine ay rfl Tryz.ntmps68 Tryz.results68 ?_
 unfold bH at hh
 try simp only [aO,seval,-Int.reduceToNat]
 obtain ⟨o5,ho5,hh⟩:=ae hh
 refine aD (fun s t H e=>match s with | s8a=>t 0 = .sl false false p0.length (ab aF p0)∧t 1 = .clo 75 0 [.ip [.int .i64 p1c0],.ip [.int .i64 p1c1.cr.ag,.sl false false p1c1.cr.aa.length (ab (eI .i64) p1c1.cr.aa),.int .i64 p1c1.cq.ag,.sl false false p1c1.cq.aa.length (ab (eI .i64) p1c1.cq.aa)]]∧t 7 = .int .i64 (p0.length:Int)∧t 8 = .int .i64 s8a) (fun o x t H e=>match o with | (.inl _)=>x = .exit 0 | (.inr r)=>x = .ret∧gG .clean tab none [.tmp 4] ⟨t,H,e⟩=some (.clean (.int .i64 r),none)) ho5 ?_ ?_ ?_
 ·
  refine ⟨?_,?_,?_,?_⟩
  all_goals (first | rfl | (simp only [aO,seval,-Int.reduceToNat] <;> rfl))
 ·rintro s8a t H e ⟨t0a,t1a,t7a,t8a⟩ c hh
  simp only [cd] at hh
  try simp only [aO,seval,-Int.reduceToNat,t0a,t1a,t7a,t8a]
  refine ai (fun hb6 => ?_) (fun hb6 => ?_)
  ·replace hh:=ak hb6 hh
   obtain ⟨x7,hx7,hh⟩:=ae hh
   have bx7:=aJ hx7
   have ax7:=aC aF hx7
   have fx7:=aA aF hx7
   simp only [cl] at ax7 fx7
   skip
   obtain ⟨r8,hr8,hh⟩:=ae hh
   try simp only [aO,seval,-Int.reduceToNat,t0a,t1a,t7a,t8a,bx7,ax7,fx7,hr8]
   refine ai (fun hb9 => ?_) (fun hb9 => ?_)
   ·replace hh:=ak hb9 hh
    cases hh
    try simp only [aO,seval,-Int.reduceToNat,t0a,t1a,t7a,t8a,bx7,ax7,fx7,hr8]
    rw [dQ]
    refine ⟨_,rfl,?_⟩
    refine ⟨rfl,?_⟩
    try simp only [aO,seval,-Int.reduceToNat,t0a,t1a,t7a,t8a,bx7,ax7,fx7,hr8]
   ·replace hh:=aj hb9 hh
    cases hh
    try simp only [aO,seval,-Int.reduceToNat,t0a,t1a,t7a,t8a,bx7,ax7,fx7,hr8]
    rw [aK]
    refine ⟨_,rfl,?_⟩
    refine ⟨?_,?_,?_,?_⟩
    all_goals (first | rfl | (simp only [aO,seval,-Int.reduceToNat,t0a,t1a,t7a,t8a,bx7,ax7,fx7,hr8] <;> rfl))
  ·replace hh:=aj hb6 hh
   cases hh
   try simp only [aO,seval,-Int.reduceToNat,t0a,t1a,t7a,t8a]
   rw [bk]
   refine ⟨_,rfl,?_⟩
   exact rfl
 ·rintro x t H e hx
  rcases o5 with _ | ra
  ·
   dsimp only at hx hh
   subst hx
   cases hh
   try simp only [aO,seval,-Int.reduceToNat]
  ·
   dsimp only at hx hh
   obtain ⟨rfl,hE⟩:=hx
   cases hh
   try simp only [bo,bf,bG,cY,cX]
   exact hE
theorem iH:bW Tryz.prog 68 ch:=bW.of (mode := .clean) tok iG mixed Tryz.func68 (by kernel_rfl) ⟨by kernel_rfl,by kernel_rfl⟩ (fun _=>Nat.le_of_ble_eq_true (by kernel_rfl)) (fun x r h=>iP x.1 x.2.1 x.2.2 r h)
noncomputable def b8:=eZ (eg (ie aF) (ef (Qg 75 0 (eg (Qh (eI .i64)) (ef (Qh lh)))))) (fun x:(List az)×(Int×aY)=>ba x.1 x.2.1 x.2.2) (fun r:Bool => .clean (.bool r))
theorem dW (p0:(List az)) (p1c0:Int) (p1c1_0:Int) (p1c1_1:(List Int)) (p1c1_2:Int) (p1c1_3:(List Int)):b8 none [.sl false false p0.length (ab aF p0),.clo 75 0 [.ip [.int .i64 p1c0],.ip [.int .i64 p1c1_0,.sl false false p1c1_1.length (ab (eI .i64) p1c1_1),.int .i64 p1c1_2,.sl false false p1c1_3.length (ab (eI .i64) p1c1_3)]]]=(ba p0 p1c0 (aY.mk (aw.mk p1c1_0 p1c1_1) (aw.mk p1c1_2 p1c1_3))).map fun r:Bool=>(.clean (.bool r),none):=aR _ _ _ (p0,(p1c0,(aY.mk (aw.mk p1c1_0 p1c1_1) (aw.mk p1c1_2 p1c1_3))))
noncomputable def cG:Env:=(Am.ext aB 68 false ch)
theorem gK:b7 Tryz.prog cG:=(b7.none.add iH false)
theorem dM:cG=(Am.ext aB 68 false ch):=Eq.trans rfl rfl
theorem ib:type_of% (And.intro @w <| And.intro @eJ <| @dM):=And.intro @w <| And.intro @eJ <| @dM
theorem gY (p0:(List az)) (p1c0:Int) (p1c1:aY) (r:Bool) (hh:ba p0 p1c0 p1c1=some r):aX .clean tab cG FU Tryz.f40 none [.sl false false p0.length (ab aF p0),.clo 75 0 [.ip [.int .i64 p1c0],.ip [.int .i64 p1c1.cr.ag,.sl false false p1c1.cr.aa.length (ab (eI .i64) p1c1.cr.aa),.int .i64 p1c1.cq.ag,.sl false false p1c1.cq.aa.length (ab (eI .i64) p1c1.cq.aa)]]]=some (.clean (.bool r),none):=by
 refine ay rfl Tryz.ntmps40 Tryz.results40 ?_
 unfold ba at hh
 obtain ⟨r1,hr1,hh⟩:=ae hh
 cases hh
 try simp only [ib,seval,-Int.reduceToNat,hr1]
theorem gM:bW Tryz.prog 40 b8:=bW.of (mode := .clean) tok gK mixed Tryz.func40 (by kernel_rfl) ⟨by kernel_rfl,by kernel_rfl⟩ (fun _=>Nat.le_of_ble_eq_true (by kernel_rfl)) (fun x r h=>gY x.1 x.2.1 x.2.2 r h)
noncomputable def fP:=eZ (eg (dO zY) (eg (aI .i64) (eg (ie aL) (ef (ie aF))))) (fun x:jQ×Int×(List aG)×(List az)=>dF x.1 x.2.1 x.2.2.1 x.2.2.2) (fun r:Int => .clean (.int .i64 r))
theorem lU (p0_0:(List ax)) (p0_1:Int) (p0_2:Int) (p0_3:Int) (p1:Int) (p2:(List aG)) (p3:(List az)):fP none [.agg [.sl false false p0_0.length (ab aq p0_0),.int .i64 p0_1,.int .i64 p0_2,.int .i64 p0_3],.int .i64 p1,.sl false false p2.length (ab aL p2),.sl false false p3.length (ab aF p3)]=(dF (jQ.mk (aE.mk p0_0) p0_1 p0_2 p0_3) p1 p2 p3).map fun r:Int=>(.clean (.int .i64 r),none):=aR _ _ _ ((jQ.mk (aE.mk p0_0) p0_1 p0_2 p0_3),p1,p2,p3)
noncomputable def iW:Env:=(Am.ext (Am.ext (Am.ext (Am.ext aB 40 false b8) 71 false b9) 73 false gA) 74 false pA)
theorem rq:b7 Tryz.prog iW:=((((b7.none.add gM false).add gN false).add sF false).add Kb false)
theorem kX:iW=(Am.ext (Am.ext (Am.ext (Am.ext aB 40 false b8) 71 false b9) 73 false gA) 74 false pA):=Eq.trans rfl rfl
theorem cA:type_of% (And.intro @w <| And.intro @dW <| And.intro @dX <| And.intro @mn <| And.intro @Ct <| @kX):=And.intro @w <| And.intro @dW <| And.intro @dX <| And.intro @mn <| And.intro @Ct <| @kX
theorem sD (p0:jQ) (p1:Int) (p2:(List aG)) (p3:(List az)) (r:Int) (hh:dF p0 p1 p2 p3=some r):aX .clean tab iW FU Tryz.f43 none [.agg [.sl false false p0.Tq.ah.length (ab aq p0.Tq.ah),.int .i64 p0.xt,.int .i64 p0.tz,.int .i64 p0.tx],.int .i64 p1,.sl false false p2.length (ab aL p2),.sl false false p3.length (ab aF p3)]=some (.clean (.int .i64 r),none):=by
 refine ay rfl Tryz.ntmps43 Tryz.results43 ?_
 unfold dF at hh
 obtain ⟨r1,hr1,hh⟩:=ae hh
 try simp only [cA,seval,-Int.reduceToNat,hr1]
 refine ai (fun hb2 => ?_) (fun hb2 => ?_)
 ·replace hh:=ak hb2 hh
  cases hh
  try simp only [cA,seval,-Int.reduceToNat,hr1]
 ·replace hh:=aj hb2 hh
  obtain ⟨x3,hx3,hh⟩:=ae hh
  have bx3:=aJ hx3
  have ax3:=aC aL hx3
  have fx3:=aA aL hx3
  simp only [cl] at ax3 fx3
  skip
  obtain ⟨r4,hr4,hh⟩:=ae hh
  try simp only [cA,seval,-Int.reduceToNat,hr1,bx3,ax3,fx3,hr4]
  refine cI (by kernel_rfl) ?_
  try simp only [cA,seval,-Int.reduceToNat,hr1,bx3,ax3,fx3,hr4]
  refine ai (fun hb5 => ?_) (fun hb5 => ?_)
  ·replace hh:=ak hb5 hh
   cases hh
   try simp only [cA,seval,-Int.reduceToNat,hr1,bx3,ax3,fx3,hr4]
  ·replace hh:=aj hb5 hh
   have bx3:=aJ hx3
   have ax3:=aC aL hx3
   have fx3:=aA aL hx3
   simp only [cl] at ax3 fx3
   skip
   obtain ⟨r6,hr6,hh⟩:=ae hh
   obtain ⟨r7,hr7,hh⟩:=ae hh
   try simp only [cA,seval,-Int.reduceToNat,hr1,bx3,ax3,fx3,hr4,bx3,ax3,fx3,hr6,hr7]
   refine ai (fun hb8 => ?_) (fun hb8 => ?_)
   ·replace hh:=ak hb8 hh
    cases hh
    try simp only [cA,seval,-Int.reduceToNat,hr1,bx3,ax3,fx3,hr4,bx3,ax3,fx3,hr6,hr7]
   ·replace hh:=aj hb8 hh
    cases hh
    try simp only [cA,seval,-Int.reduceToNat,hr1,bx3,ax3,fx3,hr4,bx3,ax3,fx3,hr6,hr7]
theorem rv:bW Tryz.prog 43 fP:=bW.of (mode := .clean) tok rq mixed Tryz.func43 (by kernel_rfl) ⟨by kernel_rfl,by kernel_rfl⟩ (fun _=>Nat.le_of_ble_eq_true (by kernel_rfl)) (fun x r h=>sD x.1 x.2.1 x.2.2.1 x.2.2.2 r h)
noncomputable def cV:=eZ (eg (ie aF) (ef (XH 41))) (fun x:(List az)×Unit=>ca x.1) (fun r:Int => .clean (.int .i64 r))
theorem gg (p0:(List az)):cV none [.sl false false p0.length (ab aF p0),.fn 41]=(ca p0).map fun r:Int=>(.clean (.int .i64 r),none):=aR _ _ _ (p0,())
noncomputable def dU:Env:=(Am.ext aB 41 false jI)
theorem kj:b7 Tryz.prog dU:=(b7.none.add xT false)
theorem fJ:dU=(Am.ext aB 41 false jI):=Eq.trans rfl rfl
theorem aV:type_of% (And.intro @w <| And.intro @q0 <| @fJ):=And.intro @w <| And.intro @q0 <| @fJ
theorem kB (p0:(List az)) (r:Int) (hh:ca p0=some r):aX .clean tab dU FU Tryz.f68 none [.sl false false p0.length (ab aF p0),.fn 41]=some (.clean (.int .i64 r),none):=by
 refine ay rfl Tryz.ntmps68 Tryz.results68 ?_
 unfold ca at hh
 try simp only [aV,seval,-Int.reduceToNat]
 obtain ⟨o5,ho5,hh⟩:=ae hh
 refine aD (fun s t H e=>match s with | s8a=>t 0 = .sl false false p0.length (ab aF p0)∧t 1 = .fn 41∧t 7 = .int .i64 (p0.length:Int)∧t 8 = .int .i64 s8a) (fun o x t H e=>match o with | (.inl _)=>x = .exit 0 | (.inr r)=>x = .ret∧gG .clean tab none [.tmp 4] ⟨t,H,e⟩=some (.clean (.int .i64 r),none)) ho5 ?_ ?_ ?_
 ·
  refine ⟨?_,?_,?_,?_⟩
  all_goals (first | rfl | (simp only [aV,seval,-Int.reduceToNat] <;> rfl))
 ·rintro s8a t H e ⟨t0a,t1a,t7a,t8a⟩ c hh
  simp only [cL] at hh
  try simp only [aV,seval,-Int.reduceToNat,t0a,t1a,t7a,t8a]
  refine ai (fun hb6 => ?_) (fun hb6 => ?_)
  ·replace hh:=ak hb6 hh
   obtain ⟨x7,hx7,hh⟩:=ae hh
   have bx7:=aJ hx7
   have ax7:=aC aF hx7
   have fx7:=aA aF hx7
   simp only [cl] at ax7 fx7
   skip
   obtain ⟨r8,hr8,hh⟩:=ae hh
   try simp only [aV,seval,-Int.reduceToNat,t0a,t1a,t7a,t8a,bx7,ax7,fx7,hr8]
   refine ai (fun hb9 => ?_) (fun hb9 => ?_)
   ·replace hh:=ak hb9 hh
    cases hh
    try simp only [aV,seval,-Int.reduceToNat,t0a,t1a,t7a,t8a,bx7,ax7,fx7,hr8]
    rw [dQ]
    refine ⟨_,rfl,?_⟩
    refine ⟨rfl,?_⟩
    try simp only [aV,seval,-Int.reduceToNat,t0a,t1a,t7a,t8a,bx7,ax7,fx7,hr8]
   ·replace hh:=aj hb9 hh
    cases hh
    try simp only [aV,seval,-Int.reduceToNat,t0a,t1a,t7a,t8a,bx7,ax7,fx7,hr8]
    rw [aK]
    refine ⟨_,rfl,?_⟩
    refine ⟨?_,?_,?_,?_⟩
    all_goals (first | rfl | (simp only [aV,seval,-Int.reduceToNat,t0a,t1a,t7a,t8a,bx7,ax7,fx7,hr8] <;> rfl))
  ·replace hh:=aj hb6 hh
   cases hh
   try simp only [aV,seval,-Int.reduceToNat,t0a,t1a,t7a,t8a]
   rw [bk]
   refine ⟨_,rfl,?_⟩
   exact rfl
 ·rintro x t H e hx
  rcases o5 with _ | ra
  ·
   dsimp only at hx hh
   subst hx
   cases hh
   try simp only [aV,seval,-Int.reduceToNat]
  ·
   dsimp only at hx hh
   obtain ⟨rfl,hE⟩:=hx
   cases hh
   try simp only [bo,bf,bG,cY,cX]
   exact hE
theorem km:bW Tryz.prog 68 cV:=bW.of (mode := .clean) tok kj mixed Tryz.func68 (by kernel_rfl) ⟨by kernel_rfl,by kernel_rfl⟩ (fun _=>Nat.le_of_ble_eq_true (by kernel_rfl)) (fun x r h=>kB x.1 r h)
noncomputable def cw:=eZ (eg (ie aF) (ef (XH 41))) (fun x:(List az)×Unit=>aN x.1) (fun r:Bool => .clean (.bool r))
theorem fv (p0:(List az)):cw none [.sl false false p0.length (ab aF p0),.fn 41]=(aN p0).map fun r:Bool=>(.clean (.bool r),none):=aR _ _ _ (p0,())
noncomputable def dx:Env:=(Am.ext aB 68 false cV)
theorem jv:b7 Tryz.prog dx:=(b7.none.add km false)
theorem e9:dx=(Am.ext aB 68 false cV):=Eq.trans rfl rfl
theorem jG:type_of% (And.intro @w <| And.intro @gg <| @e9):=And.intro @w <| And.intro @gg <| @e9
theorem jz (p0:(List az)) (r:Bool) (hh:aN p0=some r):aX .clean tab dx FU Tryz.f40 none [.sl false false p0.length (ab aF p0),.fn 41]=some (.clean (.bool r),none):=by
 refine ay rfl Tryz.ntmps40 Tryz.results40 ?_
 unfold aN at hh
 obtain ⟨r1,hr1,hh⟩:=ae hh
 cases hh
 try simp only [jG,seval,-Int.reduceToNat,hr1]
theorem jw:bW Tryz.prog 40 cw:=bW.of (mode := .clean) tok jv mixed Tryz.func40 (by kernel_rfl) ⟨by kernel_rfl,by kernel_rfl⟩ (fun _=>Nat.le_of_ble_eq_true (by kernel_rfl)) (fun x r h=>jz x.1 r h)
noncomputable def fk:=eZ (eg (dO eS) (eg (aI .i64) (eg (aI .i64) (eg (aI .i64) (eg (ie (eI .i64)) (eg (ie aL) (ef (ie aF)))))))) (fun x:aE×Int×Int×Int×(List Int)×(List aG)×(List az)=>er x.1 x.2.1 x.2.2.1 x.2.2.2.1 x.2.2.2.2.1 x.2.2.2.2.2.1 x.2.2.2.2.2.2) (fun r:(List bB)×Int => .clean (.tup [.sl false false r.1.length (ab bp r.1),.int .i64 r.2]))
theorem eN (p0_0:(List ax)) (p1:Int) (p2:Int) (p3:Int) (p4:(List Int)) (p5:(List aG)) (p6:(List az)):fk none [.agg [.sl false false p0_0.length (ab aq p0_0)],.int .i64 p1,.int .i64 p2,.int .i64 p3,.sl false false p4.length (ab (eI .i64) p4),.sl false false p5.length (ab aL p5),.sl false false p6.length (ab aF p6)]=(er (aE.mk p0_0) p1 p2 p3 p4 p5 p6).map fun r:(List bB)×Int=>(.clean (.tup [.sl false false r.1.length (ab bp r.1),.int .i64 r.2]),none):=aR _ _ _ ((aE.mk p0_0),p1,p2,p3,p4,p5,p6)
noncomputable def oF:Env:=(Am.ext (Am.ext (Am.ext (Am.ext aB 39 false dh) 40 false cw) 42 false im) 43 false fP)
theorem Bz:b7 Tryz.prog oF:=((((b7.none.add jb false).add jw false).add sG false).add rv false)
theorem si:oF=(Am.ext (Am.ext (Am.ext (Am.ext aB 39 false dh) 40 false cw) 42 false im) 43 false fP):=Eq.trans rfl rfl
theorem bg:type_of% (And.intro @w <| And.intro @dy <| And.intro @fv <| And.intro @lH <| And.intro @lU <| @si):=And.intro @w <| And.intro @dy <| And.intro @fv <| And.intro @lH <| And.intro @lU <| @si
theorem Dv (p0:aE) (p1:Int) (p2:Int) (p3:Int) (p4:(List Int)) (p5:(List aG)) (p6:(List az)) (r:(List bB)×Int) (hh:er p0 p1 p2 p3 p4 p5 p6=some r):aX .clean tab oF FU Tryz.f13 none [.agg [.sl false false p0.ah.length (ab aq p0.ah)],.int .i64 p1,.int .i64 p2,.int .i64 p3,.sl false false p4.length (ab (eI .i64) p4),.sl false false p5.length (ab aL p5),.sl false false p6.length (ab aF p6)]=some (.clean (.tup [.sl false false r.1.length (ab bp r.1),.int .i64 r.2]),none):=by
 refine ay rfl Tryz.ntmps13 Tryz.results13 ?_
 unfold er at hh
 obtain ⟨r1,hr1,hh⟩:=ae hh
 try simp only [bg,seval,-Int.reduceToNat,hr1]
 obtain ⟨o2,ho2,hh⟩:=ae hh
 refine bV 0 (fun s t H e=>match s with | s21j1=>∃ v7j1:Nat,t 1 = .int .i64 p1∧t 2 = .int .i64 p2∧t 3 = .int .i64 p3∧t 4 = .sl false false p4.length (ab (eI .i64) p4)∧t 5 = .sl false false p5.length (ab aL p5)∧t 6 = .sl false false p6.length (ab aF p6)∧t 7 = .ptr 7 v7j1 0∧t 21 = .bool s21j1∧H 7=some ⟨v7j1,24,[.sl false false p0.ah.length (ab aq p0.ah)],false,false,false⟩) (fun s=>s=o2) ?_ ?_
 ·rintro s21j1 t H e ⟨v7j1,t1j1,t2j1,t3j1,t4j1,t5j1,t6j1,t7j1,t21j1,H7j1⟩ rfl
  try dsimp only at hh
  try simp only [bg,seval,-Int.reduceToNat,hr1,t1j1,t2j1,t3j1,t4j1,t5j1,t6j1,t7j1,t21j1,H7j1]
  refine ai (fun hb3 => ?_) (fun hb3 => ?_)
  ·replace hh:=ak hb3 hh
   cases hh
   try simp only [bg,seval,-Int.reduceToNat,hr1,t1j1,t2j1,t3j1,t4j1,t5j1,t6j1,t7j1,t21j1,H7j1]
  ·replace hh:=aj hb3 hh
   obtain ⟨r4,hr4,hh⟩:=ae hh
   try simp only [bg,seval,-Int.reduceToNat,hr1,t1j1,t2j1,t3j1,t4j1,t5j1,t6j1,t7j1,t21j1,H7j1,hr4]
   refine ai (fun hb5 => ?_) (fun hb5 => ?_)
   ·replace hh:=ak hb5 hh
    cases hh
    try simp only [bg,seval,-Int.reduceToNat,hr1,t1j1,t2j1,t3j1,t4j1,t5j1,t6j1,t7j1,t21j1,H7j1,hr4]
   ·replace hh:=aj hb5 hh
    obtain ⟨r6,hr6,hh⟩:=ae hh
    try simp only [bg,seval,-Int.reduceToNat,hr1,t1j1,t2j1,t3j1,t4j1,t5j1,t6j1,t7j1,t21j1,H7j1,hr4,hr6]
    refine ai (fun hb7 => ?_) (fun hb7 => ?_)
    ·replace hh:=ak hb7 hh
     cases hh
     try simp only [bg,seval,-Int.reduceToNat,hr1,t1j1,t2j1,t3j1,t4j1,t5j1,t6j1,t7j1,t21j1,H7j1,hr4,hr6]
    ·replace hh:=aj hb7 hh
     try simp only [bg,seval,-Int.reduceToNat,hr1,t1j1,t2j1,t3j1,t4j1,t5j1,t6j1,t7j1,t21j1,H7j1,hr4,hr6]
     obtain ⟨o14,ho14,hh⟩:=ae hh
     refine aD (fun s t H e=>match s with | (s49b,l17b)=>∃ v16b:Nat,∃ v17b:Nat,t 5 = .sl false false p5.length (ab aL p5)∧t 6 = .sl false false p6.length (ab aF p6)∧t 16 = .ptr 16 v16b 0∧t 17 = .buf 17 v17b 2 0 (l17b).length∧t 47 = .sl false false p4.length (ab (eI .i64) p4)∧t 48 = .int .i64 (p4.length:Int)∧t 49 = .int .i64 s49b∧H 16=some ⟨v16b,92,[.sl false false p0.ah.length (ab aq p0.ah),.int .i64 p1,.int .i64 p2,.int .i64 p3],false,false,false⟩∧H 17=some ⟨v17b,74,ab bp l17b,false,true,false⟩) (fun o x t H e=>match o with | l17bx=>x = .exit 1∧∃ v17bx:Nat,t 17 = .buf 17 v17bx 2 0 (l17bx).length∧H 17=some ⟨v17bx,74,ab bp l17bx,false,true,false⟩) ho14 ?_ ?_ ?_
     ·
      refine ⟨e+1+1,e+1+1+1,?_,?_,?_,?_,?_,?_,?_,?_,?_⟩
      all_goals (first | rfl | (simp only [bg,seval,-Int.reduceToNat,hr1,t1j1,t2j1,t3j1,t4j1,t5j1,t6j1,t7j1,t21j1,H7j1,hr4,hr6] <;> rfl))
     ·rintro ⟨s49b,l17b⟩ t H e ⟨v16b,v17b,t5b,t6b,t16b,t17b,t47b,t48b,t49b,H16b,H17b⟩ c hh
      simp only [dR] at hh
      try simp only [bg,seval,-Int.reduceToNat,hr1,hr4,hr6,t5b,t6b,t16b,t17b,t47b,t48b,t49b,H16b,H17b]
      refine ai (fun hb15 => ?_) (fun hb15 => ?_)
      ·replace hh:=ak hb15 hh
       obtain ⟨x16,hx16,hh⟩:=ae hh
       have bx16:=aJ hx16
       have ax16:=aC (eI .i64) hx16
       have fx16:=aA (eI .i64) hx16
       simp only [cl] at ax16 fx16
       skip
       obtain ⟨r17,hr17,hh⟩:=ae hh
       try simp only [bg,seval,-Int.reduceToNat,hr1,hr4,hr6,t5b,t6b,t16b,t17b,t47b,t48b,t49b,H16b,H17b,bx16,ax16,fx16,hr17]
       refine ai (fun hb18 => ?_) (fun hb18 => ?_)
       ·replace hh:=ak hb18 hh
        obtain ⟨x19,hx19,hh⟩:=ae hh
        obtain ⟨q20a,q20b,q20c,q20d⟩:=fS bp hx19
        simp only [cl] at q20b
        cases hh
        try simp only [bg,seval,-Int.reduceToNat,hr1,hr4,hr6,t5b,t6b,t16b,t17b,t47b,t48b,t49b,H16b,H17b,bx16,ax16,fx16,hr17,q20a,q20b,q20c,q20d]
        rw [aK]
        refine ⟨_,rfl,?_⟩
        refine ⟨v16b,e+1+1+1+1,?_,?_,?_,?_,?_,?_,?_,?_,?_⟩
        all_goals (first | rfl | (simp only [bg,seval,-Int.reduceToNat,hr1,hr4,hr6,t5b,t6b,t16b,t17b,t47b,t48b,t49b,H16b,H17b,bx16,ax16,fx16,hr17,q20a,q20b,q20c,q20d] <;> rfl))
       ·replace hh:=aj hb18 hh
        cases hh
        try simp only [bg,seval,-Int.reduceToNat,hr1,hr4,hr6,t5b,t6b,t16b,t17b,t47b,t48b,t49b,H16b,H17b,bx16,ax16,fx16,hr17]
        rw [aK]
        refine ⟨_,rfl,?_⟩
        refine ⟨v16b,v17b,?_,?_,?_,?_,?_,?_,?_,?_,?_⟩
        all_goals (first | rfl | (simp only [bg,seval,-Int.reduceToNat,hr1,hr4,hr6,t5b,t6b,t16b,t17b,t47b,t48b,t49b,H16b,H17b,bx16,ax16,fx16,hr17] <;> rfl))
      ·replace hh:=aj hb15 hh
       cases hh
       try simp only [bg,seval,-Int.reduceToNat,hr1,hr4,hr6,t5b,t6b,t16b,t17b,t47b,t48b,t49b,H16b,H17b]
       rw [bk]
       refine ⟨_,rfl,?_⟩
       refine ⟨rfl,⟨v17b,?_,?_⟩⟩
       all_goals (first | rfl | (simp only [bg,seval,-Int.reduceToNat,hr1,hr4,hr6,t5b,t6b,t16b,t17b,t47b,t48b,t49b,H16b,H17b] <;> rfl))
     ·rintro x t H e hx
      obtain ⟨l17bx,rfl⟩ : ∃ z,z=o14:=⟨_,rfl⟩
      dsimp only at hx hh
      obtain ⟨rfl,⟨v17bx,t17bx,H17bx⟩⟩:=hx
      cases hh
      try simp only [bg,seval,-Int.reduceToNat,hr1,hr4,hr6,t17bx,H17bx]
 ·
  clear hh
  have hh:=ho2
  try simp only [bg,seval,-Int.reduceToNat,hr1]
  refine bj (fun hb21 => ?_) (fun hb21 => ?_)
  ·replace hh:=ak hb21 hh
   cases hh
   try simp only [bg,seval,-Int.reduceToNat,hr1]
   rw [an]
   refine ⟨_,rfl,?_⟩
   refine ⟨0,?_,?_,?_,?_,?_,?_,?_,?_,?_⟩
   all_goals (first | rfl | (simp only [bg,seval,-Int.reduceToNat,hr1] <;> rfl))
  ·replace hh:=aj hb21 hh
   try simp only [bg,seval,-Int.reduceToNat,hr1]
   refine bj (fun hb22 => ?_) (fun hb22 => ?_)
   ·replace hh:=ak hb22 hh
    cases hh
    try simp only [bg,seval,-Int.reduceToNat,hr1]
    rw [an]
    refine ⟨_,rfl,?_⟩
    refine ⟨0,?_,?_,?_,?_,?_,?_,?_,?_,?_⟩
    all_goals (first | rfl | (simp only [bg,seval,-Int.reduceToNat,hr1] <;> rfl))
   ·replace hh:=aj hb22 hh
    cases hh
    try simp only [bg,seval,-Int.reduceToNat,hr1]
    rw [an]
    refine ⟨_,rfl,?_⟩
    refine ⟨0,?_,?_,?_,?_,?_,?_,?_,?_,?_⟩
    all_goals (first | rfl | (simp only [bg,seval,-Int.reduceToNat,hr1] <;> rfl))
theorem nD:bW Tryz.prog 13 fk:=bW.of (mode := .clean) tok Bz mixed Tryz.func13 (by kernel_rfl) ⟨by kernel_rfl,by kernel_rfl⟩ (fun _=>Nat.le_of_ble_eq_true (by kernel_rfl)) (fun x r h=>Dv x.1 x.2.1 x.2.2.1 x.2.2.2.1 x.2.2.2.2.1 x.2.2.2.2.2.1 x.2.2.2.2.2.2 r h)
noncomputable def k9:=eZ (eg (ie bp) (ef (ie bp))) (fun x:(List bB)×(List bB)=>l4 x.1 x.2) (fun r:Bool => .clean (.bool r))
theorem qt (p0:(List bB)) (p1:(List bB)):k9 none [.sl false false p0.length (ab bp p0),.sl false false p1.length (ab bp p1)]=(l4 p0 p1).map fun r:Bool=>(.clean (.bool r),none):=aR _ _ _ (p0,p1)
theorem L2 (p0:(List bB)) (p1:(List bB)) (r:Bool) (hh:l4 p0 p1=some r):aX .clean tab aB FU Tryz.f17 none [.sl false false p0.length (ab bp p0),.sl false false p1.length (ab bp p1)]=some (.clean (.bool r),none):=by
 refine ay rfl Tryz.ntmps17 Tryz.results17 ?_
 unfold l4 at hh
 try simp only [w,seval,-Int.reduceToNat]
 refine ai (fun hb1 => ?_) (fun hb1 => ?_)
 ·replace hh:=ak hb1 hh
  cases hh
  try simp only [w,seval,-Int.reduceToNat]
 ·replace hh:=aj hb1 hh
  try simp only [w,seval,-Int.reduceToNat]
  obtain ⟨o6,ho6,hh⟩:=ae hh
  refine aD (fun s t H e=>match s with | s5a=>t 0 = .sl false false p0.length (ab bp p0)∧t 1 = .sl false false p1.length (ab bp p1)∧t 5 = .int .i64 s5a) (fun o x t H e=>match o with | (.inl _)=>x = .exit 0 | (.inr r)=>x = .ret∧gG .clean tab none [.tmp 4] ⟨t,H,e⟩=some (.clean (.bool r),none)) ho6 ?_ ?_ ?_
  ·
   refine ⟨?_,?_,?_⟩
   all_goals (first | rfl | (simp only [w,seval,-Int.reduceToNat] <;> rfl))
  ·rintro s5a t H e ⟨t0a,t1a,t5a⟩ c hh
   simp only [l5] at hh
   try simp only [w,seval,-Int.reduceToNat,t0a,t1a,t5a]
   refine ai (fun hb7 => ?_) (fun hb7 => ?_)
   ·replace hh:=ak hb7 hh
    obtain ⟨x8,hx8,hh⟩:=ae hh
    have bx8:=aJ hx8
    have ax8:=aC bp hx8
    have fx8:=aA bp hx8
    simp only [cl] at ax8 fx8
    skip
    obtain ⟨x9,hx9,hh⟩:=ae hh
    have bx9:=aJ hx9
    have ax9:=aC bp hx9
    have fx9:=aA bp hx9
    simp only [cl] at ax9 fx9
    skip
    try simp only [w,seval,-Int.reduceToNat,t0a,t1a,t5a,bx8,ax8,fx8,bx9,ax9,fx9]
    refine cI (by kernel_rfl) ?_
    try simp only [w,seval,-Int.reduceToNat,t0a,t1a,t5a,bx8,ax8,fx8,bx9,ax9,fx9]
    refine ai (fun hb10 => ?_) (fun hb10 => ?_)
    ·replace hh:=ak hb10 hh
     cases hh
     try simp only [w,seval,-Int.reduceToNat,t0a,t1a,t5a,bx8,ax8,fx8,bx9,ax9,fx9]
     rw [dQ]
     refine ⟨_,rfl,?_⟩
     refine ⟨rfl,?_⟩
     try simp only [w,seval,-Int.reduceToNat,t0a,t1a,t5a,bx8,ax8,fx8,bx9,ax9,fx9]
    ·replace hh:=aj hb10 hh
     cases hh
     try simp only [w,seval,-Int.reduceToNat,t0a,t1a,t5a,bx8,ax8,fx8,bx9,ax9,fx9]
     rw [aK]
     refine ⟨_,rfl,?_⟩
     refine ⟨?_,?_,?_⟩
     all_goals (first | rfl | (simp only [w,seval,-Int.reduceToNat,t0a,t1a,t5a,bx8,ax8,fx8,bx9,ax9,fx9] <;> rfl))
   ·replace hh:=aj hb7 hh
    cases hh
    try simp only [w,seval,-Int.reduceToNat,t0a,t1a,t5a]
    rw [bk]
    refine ⟨_,rfl,?_⟩
    exact rfl
  ·rintro x t H e hx
   rcases o6 with _ | ra
   ·
    dsimp only at hx hh
    subst hx
    cases hh
    try simp only [w,seval,-Int.reduceToNat]
   ·
    dsimp only at hx hh
    obtain ⟨rfl,hE⟩:=hx
    cases hh
    try simp only [bo,bf,bG,cY,cX]
    exact hE
theorem y4:bW Tryz.prog 17 k9:=bW.of (mode := .clean) tok b7.none mixed Tryz.func17 (by kernel_rfl) ⟨by kernel_rfl,by kernel_rfl⟩ (fun _=>Nat.le_of_ble_eq_true (by kernel_rfl)) (fun x r h=>L2 x.1 x.2 r h)
noncomputable def pC:=eZ (eg (dO eS) (eg (ie (eI .i64)) (eg (aI .i64) (eg (ie aF) (ef (ie bp)))))) (fun x:aE×(List Int)×Int×(List az)×(List bB)=>jy x.1 x.2.1 x.2.2.1 x.2.2.2.1 x.2.2.2.2) (fun r:Bool => .clean (.bool r))
theorem lv (p0_0:(List ax)) (p1:(List Int)) (p2:Int) (p3:(List az)) (p4:(List bB)):pC none [.agg [.sl false false p0_0.length (ab aq p0_0)],.sl false false p1.length (ab (eI .i64) p1),.int .i64 p2,.sl false false p3.length (ab aF p3),.sl false false p4.length (ab bp p4)]=(jy (aE.mk p0_0) p1 p2 p3 p4).map fun r:Bool=>(.clean (.bool r),none):=aR _ _ _ ((aE.mk p0_0),p1,p2,p3,p4)
noncomputable def u9:Env:=(Am.ext (Am.ext aB 13 false fk) 17 false k9)
theorem I1:b7 Tryz.prog u9:=((b7.none.add nD false).add y4 false)
theorem yR:u9=(Am.ext (Am.ext aB 13 false fk) 17 false k9):=Eq.trans rfl rfl
theorem vA:type_of% (And.intro @w <| And.intro @eN <| And.intro @qt <| @yR):=And.intro @w <| And.intro @eN <| And.intro @qt <| @yR
theorem LW (p0:aE) (p1:(List Int)) (p2:Int) (p3:(List az)) (p4:(List bB)) (r:Bool) (hh:jy p0 p1 p2 p3 p4=some r):aX .clean tab u9 FU Tryz.f38 none [.agg [.sl false false p0.ah.length (ab aq p0.ah)],.sl false false p1.length (ab (eI .i64) p1),.int .i64 p2,.sl false false p3.length (ab aF p3),.sl false false p4.length (ab bp p4)]=some (.clean (.bool r),none):=by
 refine ay rfl Tryz.ntmps38 Tryz.results38 ?_
 unfold jy at hh
 have i1:=eN p0.ah 4 60 24 p1 ([(aG.mk 1 ([4,3,1]) (ByteArray.mk #[98]) p2 8)]) p3
 simp only [aS,cl,List.length_cons,List.length_nil,Nat.zero_add,Nat.reduceAdd,List.length_set] at i1
 obtain ⟨r2,hr2,hh⟩:=ae hh
 try simp only [vA,seval,-Int.reduceToNat,i1,hr2]
 refine bK (fun hb3 => ?_) (fun hb3 => ?_)
 ·replace hh:=ak hb3 hh
  obtain ⟨r4,hr4,hh⟩:=ae hh
  cases hh
  try simp only [vA,seval,-Int.reduceToNat,i1,hr2,hr4]
 ·replace hh:=aj hb3 hh
  cases hh
  try simp only [vA,seval,-Int.reduceToNat,i1,hr2]
theorem Kd:bW Tryz.prog 38 pC:=bW.of (mode := .clean) tok I1 mixed Tryz.func38 (by kernel_rfl) ⟨by kernel_rfl,by kernel_rfl⟩ (fun _=>Nat.le_of_ble_eq_true (by kernel_rfl)) (fun x r h=>LW x.1 x.2.1 x.2.2.1 x.2.2.2.1 x.2.2.2.2 r h)
theorem DC (p0 r:(List ax)) (hh:ke p0=some r):aX .tight tab aB FU Tryz.f92 none [.sl false false p0.length (ab aq p0)]=some (.clean (.sl false true r.length (ab aq r)),none):=by
 unfold ke at hh
 split at hh
 ·cases hh
  refine ay rfl Tryz.ntmps92 Tryz.results92 ?_
  simp only [w,seval,-Int.reduceToNat,Int.toNat_natCast,Int.natCast_nonneg]
 ·cases hh
noncomputable def lE:=eZ (ef (ie aq)) (fun x:(List ax)=>ke x) (fun r:(List ax) => .clean (.sl false true r.length (ab aq r)))
theorem uH (p0:(List ax)):lE none [.sl false false p0.length (ab aq p0)]=(ke p0).map fun r:(List ax)=>(.clean (.sl false true r.length (ab aq r)),none):=aR _ _ _ p0
theorem Cj:bW Tryz.prog 92 lE:=bW.of (mode := .tight) tok b7.none mixed Tryz.func92 (by kernel_rfl) ⟨by kernel_rfl,by kernel_rfl⟩ (fun _=>Nat.le_of_ble_eq_true (by kernel_rfl)) (fun x r h=>DC x r h)
noncomputable def nY:=eZ (eg (dO eS) (ef (dO aq))) (fun x:aE×ax=>lA x.1 x.2) (fun r:aE×Int×Int => .clean (.tup [.agg [.sl false false r.1.ah.length (ab aq r.1.ah)],.int .i64 r.2.1,.int .i64 r.2.2]))
theorem ze (p0_0:(List ax)) (p1_0:ByteArray) (p1_1:Int) (p1_2:Int) (p1_3:Int) (p1_4:Int):nY none [.agg [.sl false false p0_0.length (ab aq p0_0)],.agg [.str p1_0,.int .i64 p1_1,.int .i64 p1_2,.int .i64 p1_3,.int .i64 p1_4]]=(lA (aE.mk p0_0) (ax.mk p1_0 p1_1 p1_2 p1_3 p1_4)).map fun r:aE×Int×Int=>(.clean (.tup [.agg [.sl false false r.1.ah.length (ab aq r.1.ah)],.int .i64 r.2.1,.int .i64 r.2.2]),none):=aR _ _ _ ((aE.mk p0_0),(ax.mk p1_0 p1_1 p1_2 p1_3 p1_4))
noncomputable def sf:Env:=(Am.ext (Am.ext aB 63 false gE) 92 false lE)
theorem GL:b7 Tryz.prog sf:=((b7.none.add qZ false).add Cj false)
theorem wD:sf=(Am.ext (Am.ext aB 63 false gE) 92 false lE):=Eq.trans rfl rfl
theorem zw:type_of% (And.intro @w <| And.intro @kK <| And.intro @uH <| @wD):=And.intro @w <| And.intro @kK <| And.intro @uH <| @wD
theorem JU (p0:aE) (p1:ax) (r:aE×Int×Int) (hh:lA p0 p1=some r):aX .clean tab sf FU Tryz.f52 none [.agg [.sl false false p0.ah.length (ab aq p0.ah)],.agg [.str p1.cR,.int .i64 p1.bd,.int .i64 p1.bz,.int .i64 p1.dp,.int .i64 p1.cK]]=some (.clean (.tup [.agg [.sl false false r.1.ah.length (ab aq r.1.ah)],.int .i64 r.2.1,.int .i64 r.2.2]),none):=by
 refine ay rfl Tryz.ntmps52 Tryz.results52 ?_
 unfold lA at hh
 obtain ⟨r1,hr1,hh⟩:=ae hh
 obtain ⟨r2,hr2,hh⟩:=ae hh
 obtain ⟨x3,hx3,hh⟩:=ae hh
 obtain ⟨q4a,q4b,q4c,q4d⟩:=fS aq hx3
 simp only [cl] at q4b
 try simp only [zw,seval,-Int.reduceToNat,hr1,hr2,q4a,q4b,q4c,q4d]
 refine cI (by kernel_rfl) ?_
 cases hh
 try simp only [zw,seval,-Int.reduceToNat,hr1,hr2,q4a,q4b,q4c,q4d]
theorem Hh:bW Tryz.prog 52 nY:=bW.of (mode := .clean) tok GL mixed Tryz.func52 (by kernel_rfl) ⟨by kernel_rfl,by kernel_rfl⟩ (fun _=>Nat.le_of_ble_eq_true (by kernel_rfl)) (fun x r h=>JU x.1 x.2 r h)
noncomputable def mz:=eZ (eg (dO eS) (eg S7 (eg (aI .i64) (ef (aI .i64))))) (fun x:aE×ByteArray×Int×Int=>jV x.1 x.2.1 x.2.2.1 x.2.2.2) (fun r:aE×Int×Int => .clean (.tup [.agg [.sl false false r.1.ah.length (ab aq r.1.ah)],.int .i64 r.2.1,.int .i64 r.2.2]))
theorem wS (p0_0:(List ax)) (p1:ByteArray) (p2:Int) (p3:Int):mz none [.agg [.sl false false p0_0.length (ab aq p0_0)],.str p1,.int .i64 p2,.int .i64 p3]=(jV (aE.mk p0_0) p1 p2 p3).map fun r:aE×Int×Int=>(.clean (.tup [.agg [.sl false false r.1.ah.length (ab aq r.1.ah)],.int .i64 r.2.1,.int .i64 r.2.2]),none):=aR _ _ _ ((aE.mk p0_0),p1,p2,p3)
noncomputable def qe:Env:=(Am.ext (Am.ext (Am.ext aB 39 false dh) 51 false jk) 52 false nY)
theorem Dp:b7 Tryz.prog qe:=(((b7.none.add jb false).add uE false).add Hh false)
theorem uz:qe=(Am.ext (Am.ext (Am.ext aB 39 false dh) 51 false jk) 52 false nY):=Eq.trans rfl rfl
theorem ee:type_of% (And.intro @w <| And.intro @dy <| And.intro @mM <| And.intro @ze <| @uz):=And.intro @w <| And.intro @dy <| And.intro @mM <| And.intro @ze <| @uz
theorem G0 (p0:aE) (p1:ByteArray) (p2:Int) (p3:Int) (r:aE×Int×Int) (hh:jV p0 p1 p2 p3=some r):aX .clean tab qe FU Tryz.f20 none [.agg [.sl false false p0.ah.length (ab aq p0.ah)],.str p1,.int .i64 p2,.int .i64 p3]=some (.clean (.tup [.agg [.sl false false r.1.ah.length (ab aq r.1.ah)],.int .i64 r.2.1,.int .i64 r.2.2]),none):=by
 refine ay rfl Tryz.ntmps20 Tryz.results20 ?_
 unfold jV at hh
 obtain ⟨r1,hr1,hh⟩:=ae hh
 try simp only [ee,seval,-Int.reduceToNat,hr1]
 obtain ⟨o2,ho2,hh⟩:=ae hh
 refine bV 0 (fun s t H e=>match s with | s16j1=>∃ v4j1:Nat,∃ v8j1:Nat,∃ v11j1:Nat,t 4 = .ptr 4 v4j1 0∧t 8 = .ptr 8 v8j1 0∧t 11 = .ptr 11 v11j1 0∧t 16 = .bool s16j1∧H 4=some ⟨v4j1,24,[.sl false false p0.ah.length (ab aq p0.ah)],false,false,false⟩∧H 8=some ⟨v8j1,24,[.sl true true 0 []],false,false,false⟩∧H 11=some ⟨v11j1,87,[.str p1,.int .i64 p2,.int .i64 p3,.int .i64 (-1),.int .i64 (-1)],false,false,false⟩) (fun s=>s=o2) ?_ ?_
 ·rintro s16j1 t H e ⟨v4j1,v8j1,v11j1,t4j1,t8j1,t11j1,t16j1,H4j1,H8j1,H11j1⟩ rfl
  try dsimp only at hh
  try simp only [ee,seval,-Int.reduceToNat,hr1,t4j1,t8j1,t11j1,t16j1,H4j1,H8j1,H11j1]
  refine ai (fun hb3 => ?_) (fun hb3 => ?_)
  ·replace hh:=ak hb3 hh
   cases hh
   try simp only [ee,seval,-Int.reduceToNat,hr1,t4j1,t8j1,t11j1,t16j1,H4j1,H8j1,H11j1]
  ·replace hh:=aj hb3 hh
   try simp only [ee,seval,-Int.reduceToNat,hr1,t4j1,t8j1,t11j1,t16j1,H4j1,H8j1,H11j1]
   refine ai (fun hb4 => ?_) (fun hb4 => ?_)
   ·replace hh:=ak hb4 hh
    cases hh
    try simp only [ee,seval,-Int.reduceToNat,hr1,t4j1,t8j1,t11j1,t16j1,H4j1,H8j1,H11j1]
   ·replace hh:=aj hb4 hh
    obtain ⟨r5,hr5,hh⟩:=ae hh
    cases hh
    try simp only [ee,seval,-Int.reduceToNat,hr1,t4j1,t8j1,t11j1,t16j1,H4j1,H8j1,H11j1,hr5]
 ·
  clear hh
  have hh:=ho2
  try simp only [ee,seval,-Int.reduceToNat,hr1]
  refine bj (fun hb6 => ?_) (fun hb6 => ?_)
  ·replace hh:=ak hb6 hh
   cases hh
   try simp only [ee,seval,-Int.reduceToNat,hr1]
   rw [an]
   refine ⟨_,rfl,?_⟩
   refine ⟨0,0,1,?_,?_,?_,?_,?_,?_,?_⟩
   all_goals (first | rfl | (simp only [ee,seval,-Int.reduceToNat,hr1] <;> rfl))
  ·replace hh:=aj hb6 hh
   obtain ⟨r7,hr7,hh⟩:=ae hh
   cases hh
   try simp only [ee,seval,-Int.reduceToNat,hr1,hr7]
   rw [an]
   refine ⟨_,rfl,?_⟩
   refine ⟨0,0,1,?_,?_,?_,?_,?_,?_,?_⟩
   all_goals (first | rfl | (simp only [ee,seval,-Int.reduceToNat,hr1,hr7] <;> rfl))
theorem DN:bW Tryz.prog 20 mz:=bW.of (mode := .clean) tok Dp mixed Tryz.func20 (by kernel_rfl) ⟨by kernel_rfl,by kernel_rfl⟩ (fun _=>Nat.le_of_ble_eq_true (by kernel_rfl)) (fun x r h=>G0 x.1 x.2.1 x.2.2.1 x.2.2.2 r h)
noncomputable def jj:=eZ (eg (ie (eI .i64)) (ef (aI .i64))) (fun x:(List Int)×Int=>jf x.1 x.2) (fun r:Bool => .clean (.bool r))
theorem mL (p0:(List Int)) (p1:Int):jj none [.sl false false p0.length (ab (eI .i64) p0),.int .i64 p1]=(jf p0 p1).map fun r:Bool=>(.clean (.bool r),none):=aR _ _ _ (p0,p1)
theorem GV (p0:(List Int)) (p1:Int) (r:Bool) (hh:jf p0 p1=some r):aX .clean tab aB FU Tryz.f23 none [.sl false false p0.length (ab (eI .i64) p0),.int .i64 p1]=some (.clean (.bool r),none):=by
 refine ay rfl Tryz.ntmps23 Tryz.results23 ?_
 unfold jf at hh
 try simp only [w,seval,-Int.reduceToNat]
 obtain ⟨o1,ho1,hh⟩:=ae hh
 refine bV 0 (fun s t H e=>match s with | s19j1=>t 0 = .sl false false p0.length (ab (eI .i64) p0)∧t 1 = .int .i64 p1∧t 19 = .bool s19j1) (fun s=>s=o1) ?_ ?_
 ·rintro s19j1 t H e ⟨t0j1,t1j1,t19j1⟩ rfl
  try dsimp only at hh
  try simp only [w,seval,-Int.reduceToNat,t0j1,t1j1,t19j1]
  refine ai (fun hb2 => ?_) (fun hb2 => ?_)
  ·replace hh:=ak hb2 hh
   cases hh
   try simp only [w,seval,-Int.reduceToNat,t0j1,t1j1,t19j1]
  ·replace hh:=aj hb2 hh
   try simp only [w,seval,-Int.reduceToNat,t0j1,t1j1,t19j1]
   obtain ⟨o7,ho7,hh⟩:=ae hh
   refine aD (fun s t H e=>match s with | s22b=>t 1 = .int .i64 p1∧t 20 = .sl false false p0.length (ab (eI .i64) p0)∧t 21 = .int .i64 (p0.length:Int)∧t 22 = .int .i64 s22b) (fun o x t H e=>match o with | (.inl _)=>x = .exit 0 | (.inr r)=>x = .ret∧gG .clean tab none [.tmp 4] ⟨t,H,e⟩=some (.clean (.bool r),none)) ho7 ?_ ?_ ?_
   ·
    refine ⟨?_,?_,?_,?_⟩
    all_goals (first | rfl | (simp only [w,seval,-Int.reduceToNat,t0j1,t1j1,t19j1] <;> rfl))
   ·rintro s22b t H e ⟨t1b,t20b,t21b,t22b⟩ c hh
    simp only [jE] at hh
    try simp only [w,seval,-Int.reduceToNat,t1b,t20b,t21b,t22b]
    refine ai (fun hb8 => ?_) (fun hb8 => ?_)
    ·replace hh:=ak hb8 hh
     obtain ⟨x9,hx9,hh⟩:=ae hh
     have bx9:=aJ hx9
     have ax9:=aC (eI .i64) hx9
     have fx9:=aA (eI .i64) hx9
     simp only [cl] at ax9 fx9
     skip
     try simp only [w,seval,-Int.reduceToNat,t1b,t20b,t21b,t22b,bx9,ax9,fx9]
     refine bj (fun hb10 => ?_) (fun hb10 => ?_)
     ·replace hh:=ak hb10 hh
      cases hh
      try simp only [w,seval,-Int.reduceToNat,t1b,t20b,t21b,t22b,bx9,ax9,fx9]
      rw [dQ]
      refine ⟨_,rfl,?_⟩
      refine ⟨rfl,?_⟩
      try simp only [w,seval,-Int.reduceToNat,t1b,t20b,t21b,t22b,bx9,ax9,fx9]
     ·replace hh:=aj hb10 hh
      try simp only [w,seval,-Int.reduceToNat,t1b,t20b,t21b,t22b,bx9,ax9,fx9]
      refine ai (fun hb11 => ?_) (fun hb11 => ?_)
      ·replace hh:=ak hb11 hh
       cases hh
       try simp only [w,seval,-Int.reduceToNat,t1b,t20b,t21b,t22b,bx9,ax9,fx9]
       rw [dQ]
       refine ⟨_,rfl,?_⟩
       refine ⟨rfl,?_⟩
       try simp only [w,seval,-Int.reduceToNat,t1b,t20b,t21b,t22b,bx9,ax9,fx9]
      ·replace hh:=aj hb11 hh
       cases hh
       try simp only [w,seval,-Int.reduceToNat,t1b,t20b,t21b,t22b,bx9,ax9,fx9]
       rw [aK]
       refine ⟨_,rfl,?_⟩
       refine ⟨?_,?_,?_,?_⟩
       all_goals (first | rfl | (simp only [w,seval,-Int.reduceToNat,t1b,t20b,t21b,t22b,bx9,ax9,fx9] <;> rfl))
    ·replace hh:=aj hb8 hh
     cases hh
     try simp only [w,seval,-Int.reduceToNat,t1b,t20b,t21b,t22b]
     rw [bk]
     refine ⟨_,rfl,?_⟩
     exact rfl
   ·rintro x t H e hx
    rcases o7 with _ | rb
    ·
     dsimp only at hx hh
     subst hx
     cases hh
     try simp only [w,seval,-Int.reduceToNat]
    ·
     dsimp only at hx hh
     obtain ⟨rfl,hE⟩:=hx
     cases hh
     try simp only [bo,bf,bG,cY,cX]
     exact hE
 ·
  clear hh
  have hh:=ho1
  try simp only [w,seval,-Int.reduceToNat]
  refine bj (fun hb12 => ?_) (fun hb12 => ?_)
  ·replace hh:=ak hb12 hh
   cases hh
   try simp only [w,seval,-Int.reduceToNat]
   rw [an]
   refine ⟨_,rfl,?_⟩
   refine ⟨?_,?_,?_⟩
   all_goals (first | rfl | (simp only [w,seval,-Int.reduceToNat] <;> rfl))
  ·replace hh:=aj hb12 hh
   try simp only [w,seval,-Int.reduceToNat]
   refine bj (fun hb13 => ?_) (fun hb13 => ?_)
   ·replace hh:=ak hb13 hh
    cases hh
    try simp only [w,seval,-Int.reduceToNat]
    rw [an]
    refine ⟨_,rfl,?_⟩
    refine ⟨?_,?_,?_⟩
    all_goals (first | rfl | (simp only [w,seval,-Int.reduceToNat] <;> rfl))
   ·replace hh:=aj hb13 hh
    cases hh
    try simp only [w,seval,-Int.reduceToNat]
    rw [an]
    refine ⟨_,rfl,?_⟩
    refine ⟨?_,?_,?_⟩
    all_goals (first | rfl | (simp only [w,seval,-Int.reduceToNat] <;> rfl))
theorem uD:bW Tryz.prog 23 jj:=bW.of (mode := .clean) tok b7.none mixed Tryz.func23 (by kernel_rfl) ⟨by kernel_rfl,by kernel_rfl⟩ (fun _=>Nat.le_of_ble_eq_true (by kernel_rfl)) (fun x r h=>GV x.1 x.2 r h)
end Go.Proofs.YtpkahnkoecbndaaGreatDoor.Am
namespace Go.Proofs.YtpkahnkoecbndaaGreatDoor.Am
open Go.RowKit Go.Proofs.YtpkahnkoecbndaaGreatDoor.P
set_option maxRecDepth 100000
set_option maxHeartbeats 4000000
set_option linter.unusedSimpArgs false
set_option linter.unusedVariables false
noncomputable def nW:=eZ (eg (ie (oS (eI .i64))) (eg (aI .i64) (ef (aI .i64)))) (fun x:(List (List Int))×Int×Int=>ly x.1 x.2.1 x.2.2) (fun r:(List Int)×Int => .clean (.tup [.sl false false r.1.length (ab (eI .i64) r.1),.int .i64 r.2]))
theorem zc (p0:(List (List Int))) (p1:Int) (p2:Int):nW none [.sl false false p0.length (ab (oS (eI .i64)) p0),.int .i64 p1,.int .i64 p2]=(ly p0 p1 p2).map fun r:(List Int)×Int=>(.clean (.tup [.sl false false r.1.length (ab (eI .i64) r.1),.int .i64 r.2]),none):=aR _ _ _ (p0,p1,p2)
noncomputable def sd:Env:=(Am.ext aB 23 false jj)
theorem GJ:b7 Tryz.prog sd:=(b7.none.add uD false)
theorem wB:sd=(Am.ext aB 23 false jj):=Eq.trans rfl rfl
theorem aQ:type_of% (And.intro @w <| And.intro @mL <| @wB):=And.intro @w <| And.intro @mL <| @wB
theorem JR (p0:(List (List Int))) (p1:Int) (p2:Int) (r:(List Int)×Int) (hh:ly p0 p1 p2=some r):aX .clean tab sd FU Tryz.f82 none [.sl false false p0.length (ab (oS (eI .i64)) p0),.int .i64 p1,.int .i64 p2]=some (.clean (.tup [.sl false false r.1.length (ab (eI .i64) r.1),.int .i64 r.2]),none):=by
 refine ay rfl Tryz.ntmps82 Tryz.results82 ?_
 unfold ly at hh
 try simp only [aQ,seval,-Int.reduceToNat]
 obtain ⟨o1,ho1,hh⟩:=ae hh
 refine bV 0 (fun s t H e=>match s with | s32j1=>t 0 = .sl false false p0.length (ab (oS (eI .i64)) p0)∧t 1 = .int .i64 p1∧t 2 = .int .i64 p2∧t 32 = .bool s32j1) (fun s=>s=o1) ?_ ?_
 ·rintro s32j1 t H e ⟨t0j1,t1j1,t2j1,t32j1⟩ rfl
  try dsimp only at hh
  try simp only [aQ,seval,-Int.reduceToNat,t0j1,t1j1,t2j1,t32j1]
  refine ai (fun hb2 => ?_) (fun hb2 => ?_)
  ·replace hh:=ak hb2 hh
   cases hh
   try simp only [aQ,seval,-Int.reduceToNat,t0j1,t1j1,t2j1,t32j1]
  ·replace hh:=aj hb2 hh
   obtain ⟨x3,hx3,hh⟩:=ae hh
   obtain ⟨q4a,q4b,q4c,q4d,q4e⟩:=mk_one (eI .i64) hx3
   simp only [cl] at q4d
   try simp only [aQ,seval,-Int.reduceToNat,t0j1,t1j1,t2j1,t32j1,q4a,q4b,q4c,q4d,q4e]
   obtain ⟨o24,ho24,hh⟩:=ae hh
   refine aD (fun s t H e=>match s with | (s37b,l8b)=>∃ v8b:Nat,t 1 = .int .i64 p1∧t 2 = .int .i64 p2∧t 8 = .buf 8 v8b 1 0 (l8b).length∧t 35 = .sl false false p0.length (ab (oS (eI .i64)) p0)∧t 36 = .int .i64 (p0.length:Int)∧t 37 = .int .i64 s37b∧H 8=some ⟨v8b,3,ab (eI .i64) l8b,false,true,false⟩) (fun o x t H e=>match o with | (.inl l8bx)=>x = .exit 0∧∃ v8bx:Nat,t 8 = .buf 8 v8bx 1 0 (l8bx).length∧H 8=some ⟨v8bx,3,ab (eI .i64) l8bx,false,true,false⟩ | (.inr r)=>x = .ret∧gG .clean tab none [.tmp 6,.tmp 7] ⟨t,H,e⟩=some (.clean (.tup [.sl false false r.1.length (ab (eI .i64) r.1),.int .i64 r.2]),none)) ho24 ?_ ?_ ?_
   ·
    refine ⟨e,?_,?_,?_,?_,?_,?_,?_⟩
    all_goals (first | rfl | (simp only [aQ,seval,-Int.reduceToNat,t0j1,t1j1,t2j1,t32j1,q4a,q4b,q4c,q4d,q4e] <;> rfl))
   ·rintro ⟨s37b,l8b⟩ t H e ⟨v8b,t1b,t2b,t8b,t35b,t36b,t37b,H8b⟩ c hh
    simp only [mS] at hh
    try simp only [aQ,seval,-Int.reduceToNat,q4a,q4b,q4c,q4d,q4e,t1b,t2b,t8b,t35b,t36b,t37b,H8b]
    refine ai (fun hb25 => ?_) (fun hb25 => ?_)
    ·replace hh:=ak hb25 hh
     obtain ⟨x26,hx26,hh⟩:=ae hh
     have bx26:=aJ hx26
     have ax26:=aC (oS (eI .i64)) hx26
     have fx26:=aA (oS (eI .i64)) hx26
     simp only [cl] at ax26 fx26
     skip
     try simp only [aQ,seval,-Int.reduceToNat,q4a,q4b,q4c,q4d,q4e,t1b,t2b,t8b,t35b,t36b,t37b,H8b,bx26,ax26,fx26]
     obtain ⟨o27,ho27,hh⟩:=ae hh
     refine bV 0 (fun s t H e=>match s with | s50j5=>∃ v8j5:Nat,t 1 = .int .i64 p1∧t 2 = .int .i64 p2∧t 8 = .buf 8 v8j5 1 0 (l8b).length∧t 10 = .sl false false x26.length (ab (eI .i64) x26)∧t 35 = .sl false false p0.length (ab (oS (eI .i64)) p0)∧t 36 = .int .i64 (p0.length:Int)∧t 37 = .int .i64 s37b∧t 50 = .bool s50j5∧H 8=some ⟨v8j5,3,ab (eI .i64) l8b,false,true,false⟩) (fun s=>s=o27) ?_ ?_
     ·rintro s50j5 t H e ⟨v8j5,t1j5,t2j5,t8j5,t10j5,t35j5,t36j5,t37j5,t50j5,H8j5⟩ rfl
      try dsimp only at hh
      try simp only [aQ,seval,-Int.reduceToNat,q4a,q4b,q4c,q4d,q4e,bx26,ax26,fx26,t1j5,t2j5,t8j5,t10j5,t35j5,t36j5,t37j5,t50j5,H8j5]
      refine ai (fun hb28 => ?_) (fun hb28 => ?_)
      ·replace hh:=ak hb28 hh
       cases hh
       try simp only [aQ,seval,-Int.reduceToNat,q4a,q4b,q4c,q4d,q4e,bx26,ax26,fx26,t1j5,t2j5,t8j5,t10j5,t35j5,t36j5,t37j5,t50j5,H8j5]
       rw [dQ]
       refine ⟨_,rfl,?_⟩
       refine ⟨rfl,?_⟩
       try simp only [aQ,seval,-Int.reduceToNat,q4a,q4b,q4c,q4d,q4e,bx26,ax26,fx26,t1j5,t2j5,t8j5,t10j5,t35j5,t36j5,t37j5,t50j5,H8j5]
      ·replace hh:=aj hb28 hh
       try simp only [aQ,seval,-Int.reduceToNat,q4a,q4b,q4c,q4d,q4e,bx26,ax26,fx26,t1j5,t2j5,t8j5,t10j5,t35j5,t36j5,t37j5,t50j5,H8j5]
       obtain ⟨o35,ho35,hh⟩:=ae hh
       refine aD (fun s t H e=>match s with | (s53f,l8f)=>∃ v8f:Nat,t 1 = .int .i64 p1∧t 2 = .int .i64 p2∧t 8 = .buf 8 v8f 1 0 (l8f).length∧t 35 = .sl false false p0.length (ab (oS (eI .i64)) p0)∧t 36 = .int .i64 (p0.length:Int)∧t 37 = .int .i64 s37b∧t 51 = .sl false false x26.length (ab (eI .i64) x26)∧t 52 = .int .i64 (x26.length:Int)∧t 53 = .int .i64 s53f∧H 8=some ⟨v8f,3,ab (eI .i64) l8f,false,true,false⟩) (fun o x t H e=>match o with | l8fx=>x = .exit 2∧∃ v8fx:Nat,t 1 = .int .i64 p1∧t 2 = .int .i64 p2∧t 8 = .buf 8 v8fx 1 0 (l8fx).length∧t 35 = .sl false false p0.length (ab (oS (eI .i64)) p0)∧t 36 = .int .i64 (p0.length:Int)∧t 37 = .int .i64 s37b∧H 8=some ⟨v8fx,3,ab (eI .i64) l8fx,false,true,false⟩) ho35 ?_ ?_ ?_
       ·
        refine ⟨v8j5,?_,?_,?_,?_,?_,?_,?_,?_,?_,?_⟩
        all_goals (first | rfl | (simp only [aQ,seval,-Int.reduceToNat,q4a,q4b,q4c,q4d,q4e,bx26,ax26,fx26,t1j5,t2j5,t8j5,t10j5,t35j5,t36j5,t37j5,t50j5,H8j5] <;> rfl))
       ·rintro ⟨s53f,l8f⟩ t H e ⟨v8f,t1f,t2f,t8f,t35f,t36f,t37f,t51f,t52f,t53f,H8f⟩ c hh
        simp only [js] at hh
        try simp only [aQ,seval,-Int.reduceToNat,q4a,q4b,q4c,q4d,q4e,bx26,ax26,fx26,t1f,t2f,t8f,t35f,t36f,t37f,t51f,t52f,t53f,H8f]
        refine ai (fun hb36 => ?_) (fun hb36 => ?_)
        ·replace hh:=ak hb36 hh
         obtain ⟨x37,hx37,hh⟩:=ae hh
         have bx37:=aJ hx37
         have ax37:=aC (eI .i64) hx37
         have fx37:=aA (eI .i64) hx37
         simp only [cl] at ax37 fx37
         skip
         obtain ⟨x38,hx38,hh⟩:=ae hh
         have bx38:=aJ hx38
         have ax38:=aC (eI .i64) hx38
         have fx38:=aA (eI .i64) hx38
         simp only [cl] at ax38 fx38
         skip
         obtain ⟨x39,hx39,hh⟩:=ae hh
         obtain ⟨q40a,q40b⟩:=qm hx39
         have bx38:=aJ hx38
         have ax38:=aC (eI .i64) hx38
         have fx38:=aA (eI .i64) hx38
         simp only [cl] at ax38 fx38
         skip
         have p41:=og (eI .i64) (x':=x39) (fo:=0) (cs:=[.int .i64 x39]) hx38 rfl (Nat.le_of_ble_eq_true rfl)
         simp only [cl,Nat.add_zero] at p41
         have up41:=p41
         simp only [putCells,List.length_cons,List.length_nil,Nat.zero_add,Nat.reduceAdd] at up41
         cases hh
         try simp only [aQ,seval,-Int.reduceToNat,q4a,q4b,q4c,q4d,q4e,bx26,ax26,fx26,t1f,t2f,t8f,t35f,t36f,t37f,t51f,t52f,t53f,H8f,bx37,ax37,fx37,bx38,ax38,fx38,q40a,q40b,bx38,ax38,fx38,p41,up41]
         rw [aK]
         refine ⟨_,rfl,?_⟩
         refine ⟨v8f,?_,?_,?_,?_,?_,?_,?_,?_,?_,?_⟩
         all_goals (first | rfl | (simp only [aQ,seval,-Int.reduceToNat,q4a,q4b,q4c,q4d,q4e,bx26,ax26,fx26,t1f,t2f,t8f,t35f,t36f,t37f,t51f,t52f,t53f,H8f,bx37,ax37,fx37,bx38,ax38,fx38,q40a,q40b,bx38,ax38,fx38,p41,up41] <;> rfl))
        ·replace hh:=aj hb36 hh
         cases hh
         try simp only [aQ,seval,-Int.reduceToNat,q4a,q4b,q4c,q4d,q4e,bx26,ax26,fx26,t1f,t2f,t8f,t35f,t36f,t37f,t51f,t52f,t53f,H8f]
         rw [bk]
         refine ⟨_,rfl,?_⟩
         refine ⟨rfl,⟨v8f,?_,?_,?_,?_,?_,?_,?_⟩⟩
         all_goals (first | rfl | (simp only [aQ,seval,-Int.reduceToNat,q4a,q4b,q4c,q4d,q4e,bx26,ax26,fx26,t1f,t2f,t8f,t35f,t36f,t37f,t51f,t52f,t53f,H8f] <;> rfl))
       ·rintro x t H e hx
        obtain ⟨l8fx,rfl⟩ : ∃ z,z=o35:=⟨_,rfl⟩
        dsimp only at hx hh
        obtain ⟨rfl,⟨v8fx,t1fx,t2fx,t8fx,t35fx,t36fx,t37fx,H8fx⟩⟩:=hx
        cases hh
        try simp only [aQ,seval,-Int.reduceToNat,q4a,q4b,q4c,q4d,q4e,bx26,ax26,fx26,t1fx,t2fx,t8fx,t35fx,t36fx,t37fx,H8fx]
        rw [aK]
        refine ⟨_,rfl,?_⟩
        refine ⟨v8fx,?_,?_,?_,?_,?_,?_,?_⟩
        all_goals (first | rfl | (simp only [aQ,seval,-Int.reduceToNat,q4a,q4b,q4c,q4d,q4e,bx26,ax26,fx26,t1fx,t2fx,t8fx,t35fx,t36fx,t37fx,H8fx] <;> rfl))
     ·
      clear hh
      have hh:=ho27
      try simp only [aQ,seval,-Int.reduceToNat,q4a,q4b,q4c,q4d,q4e,t1b,t2b,t8b,t35b,t36b,t37b,H8b,bx26,ax26,fx26]
      refine bj (fun hb42 => ?_) (fun hb42 => ?_)
      ·replace hh:=ak hb42 hh
       cases hh
       try simp only [aQ,seval,-Int.reduceToNat,q4a,q4b,q4c,q4d,q4e,t1b,t2b,t8b,t35b,t36b,t37b,H8b,bx26,ax26,fx26]
       rw [an]
       refine ⟨_,rfl,?_⟩
       refine ⟨v8b,?_,?_,?_,?_,?_,?_,?_,?_,?_⟩
       all_goals (first | rfl | (simp only [aQ,seval,-Int.reduceToNat,q4a,q4b,q4c,q4d,q4e,t1b,t2b,t8b,t35b,t36b,t37b,H8b,bx26,ax26,fx26] <;> rfl))
      ·replace hh:=aj hb42 hh
       obtain ⟨r43,hr43,hh⟩:=ae hh
       cases hh
       try simp only [aQ,seval,-Int.reduceToNat,q4a,q4b,q4c,q4d,q4e,t1b,t2b,t8b,t35b,t36b,t37b,H8b,bx26,ax26,fx26,hr43]
       rw [an]
       refine ⟨_,rfl,?_⟩
       refine ⟨v8b,?_,?_,?_,?_,?_,?_,?_,?_,?_⟩
       all_goals (first | rfl | (simp only [aQ,seval,-Int.reduceToNat,q4a,q4b,q4c,q4d,q4e,t1b,t2b,t8b,t35b,t36b,t37b,H8b,bx26,ax26,fx26,hr43] <;> rfl))
    ·replace hh:=aj hb25 hh
     cases hh
     try simp only [aQ,seval,-Int.reduceToNat,q4a,q4b,q4c,q4d,q4e,t1b,t2b,t8b,t35b,t36b,t37b,H8b]
     rw [bk]
     refine ⟨_,rfl,?_⟩
     refine ⟨rfl,⟨v8b,?_,?_⟩⟩
     all_goals (first | rfl | (simp only [aQ,seval,-Int.reduceToNat,q4a,q4b,q4c,q4d,q4e,t1b,t2b,t8b,t35b,t36b,t37b,H8b] <;> rfl))
   ·rintro x t H e hx
    rcases o24 with l8bx | rb
    ·
     dsimp only at hx hh
     obtain ⟨rfl,⟨v8bx,t8bx,H8bx⟩⟩:=hx
     cases hh
     try simp only [aQ,seval,-Int.reduceToNat,q4a,q4b,q4c,q4d,q4e,t8bx,H8bx]
    ·
     dsimp only at hx hh
     obtain ⟨rfl,hE⟩:=hx
     cases hh
     try simp only [bo,bf,bG,cY,cX]
     exact hE
 ·
  clear hh
  have hh:=ho1
  try simp only [aQ,seval,-Int.reduceToNat]
  refine bj (fun hb44 => ?_) (fun hb44 => ?_)
  ·replace hh:=ak hb44 hh
   cases hh
   try simp only [aQ,seval,-Int.reduceToNat]
   rw [an]
   refine ⟨_,rfl,?_⟩
   refine ⟨?_,?_,?_,?_⟩
   all_goals (first | rfl | (simp only [aQ,seval,-Int.reduceToNat] <;> rfl))
  ·replace hh:=aj hb44 hh
   try simp only [aQ,seval,-Int.reduceToNat]
   refine bj (fun hb45 => ?_) (fun hb45 => ?_)
   ·replace hh:=ak hb45 hh
    cases hh
    try simp only [aQ,seval,-Int.reduceToNat]
    rw [an]
    refine ⟨_,rfl,?_⟩
    refine ⟨?_,?_,?_,?_⟩
    all_goals (first | rfl | (simp only [aQ,seval,-Int.reduceToNat] <;> rfl))
   ·replace hh:=aj hb45 hh
    try simp only [aQ,seval,-Int.reduceToNat]
    refine bj (fun hb46 => ?_) (fun hb46 => ?_)
    ·replace hh:=ak hb46 hh
     cases hh
     try simp only [aQ,seval,-Int.reduceToNat]
     rw [an]
     refine ⟨_,rfl,?_⟩
     refine ⟨?_,?_,?_,?_⟩
     all_goals (first | rfl | (simp only [aQ,seval,-Int.reduceToNat] <;> rfl))
    ·replace hh:=aj hb46 hh
     try simp only [aQ,seval,-Int.reduceToNat]
     refine bj (fun hb47 => ?_) (fun hb47 => ?_)
     ·replace hh:=ak hb47 hh
      cases hh
      try simp only [aQ,seval,-Int.reduceToNat]
      rw [an]
      refine ⟨_,rfl,?_⟩
      refine ⟨?_,?_,?_,?_⟩
      all_goals (first | rfl | (simp only [aQ,seval,-Int.reduceToNat] <;> rfl))
     ·replace hh:=aj hb47 hh
      cases hh
      try simp only [aQ,seval,-Int.reduceToNat]
      rw [an]
      refine ⟨_,rfl,?_⟩
      refine ⟨?_,?_,?_,?_⟩
      all_goals (first | rfl | (simp only [aQ,seval,-Int.reduceToNat] <;> rfl))
theorem Hf:bW Tryz.prog 82 nW:=bW.of (mode := .clean) tok GJ mixed Tryz.func82 (by kernel_rfl) ⟨by kernel_rfl,by kernel_rfl⟩ (fun _=>Nat.le_of_ble_eq_true (by kernel_rfl)) (fun x r h=>JR x.1 x.2.1 x.2.2 r h)
noncomputable def jK:=eZ (ef (ie (eI .i64))) (fun x:(List Int)=>jD x) (fun r:(List Int) => .clean (.clo 156 0 [.ip [.sl false false r.length (ab (eI .i64) r)]]))
theorem q9 (p0:(List Int)):jK none [.sl false false p0.length (ab (eI .i64) p0)]=(jD p0).map fun r:(List Int)=>(.clean (.clo 156 0 [.ip [.sl false false r.length (ab (eI .i64) r)]]),none):=aR _ _ _ p0
theorem xW:bW Tryz.prog 116 jK:=PZ
noncomputable def nZ:=eZ (ef (ie (eI .i64))) (fun x:(List Int)=>tO x) (fun r:ByteArray => .clean (.str r))
theorem zf (p0:(List Int)):nZ none [.sl false false p0.length (ab (eI .i64) p0)]=(tO p0).map fun r:ByteArray=>(.clean (.str r),none):=aR _ _ _ p0
theorem Hi:bW Tryz.prog 53 nZ:=TA
noncomputable def j4:=eZ (ef (ie (eI .i64))) (fun x:(List Int)=>kg x) (fun r:ByteArray => .clean (.str r))
theorem lV (p0:(List Int)):j4 none [.sl false false p0.length (ab (eI .i64) p0)]=(kg p0).map fun r:ByteArray=>(.clean (.str r),none):=aR _ _ _ (p0)
noncomputable def se:Env:=(Am.ext aB 53 false nZ)
theorem GK:b7 Tryz.prog se:=(b7.none.add Hi false)
theorem wC:se=(Am.ext aB 53 false nZ):=Eq.trans rfl rfl
theorem K1:type_of% (And.intro @w <| And.intro @zf <| @wC):=And.intro @w <| And.intro @zf <| @wC
theorem JS (p0:(List Int)) (r:ByteArray) (hh:kg p0=some r):aX .clean tab se FU Tryz.f21 none [.sl false false p0.length (ab (eI .i64) p0)]=some (.clean (.str r),none):=by
 refine ay rfl Tryz.ntmps21 Tryz.results21 ?_
 unfold kg at hh
 obtain ⟨r1,hr1,hh⟩:=ae hh
 cases hh
 try simp only [K1,seval,-Int.reduceToNat,hr1]
theorem wM:bW Tryz.prog 21 j4:=bW.of (mode := .clean) tok GK mixed Tryz.func21 (by kernel_rfl) ⟨by kernel_rfl,by kernel_rfl⟩ (fun _=>Nat.le_of_ble_eq_true (by kernel_rfl)) (fun x r h=>JS x r h)
noncomputable def cj:=eZ (ef (Qg 156 0 (ef (Qh (oS (eI .i64)))))) (fun x:(List Int)=>bU x) (fun r:(List Int) => .fresh 3 1 r.length (ab (eI .i64) r))
theorem eK (p0:(List Int)):cj none [.clo 156 0 [.ip [.sl false false p0.length (ab (eI .i64) p0)]]]=(bU p0).map fun r:(List Int)=>(.fresh 3 1 r.length (ab (eI .i64) r),none):=aR _ _ _ p0
theorem iI:bW Tryz.prog 115 cj:=PT
noncomputable def mu:=eZ (ef (ie (eI .i64))) (fun x:(List Int)=>jg x) (fun r:Bool => .clean (.bool r))
theorem wP (p0:(List Int)):mu none [.sl false false p0.length (ab (eI .i64) p0)]=(jg p0).map fun r:Bool=>(.clean (.bool r),none):=aR _ _ _ (p0)
noncomputable def p7:Env:=(Am.ext (Am.ext (Am.ext aB 70 true eF) 115 false cj) 116 false jK)
theorem Dk:b7 Tryz.prog p7:=(((b7.none.add mm true).add iI false).add xW false)
theorem uv:p7=(Am.ext (Am.ext (Am.ext aB 70 true eF) 115 false cj) 116 false jK):=Eq.trans rfl rfl
theorem HD:type_of% (And.intro @w <| And.intro @eK <| And.intro @q9 <| @uv):=And.intro @w <| And.intro @eK <| And.intro @q9 <| @uv
theorem GW (p0:(List Int)) (r:Bool) (hh:jg p0=some r):aX .clean tab p7 FU Tryz.f83 none [.sl false false p0.length (ab (eI .i64) p0)]=some (.clean (.bool r),none):=by
 refine ay rfl Tryz.ntmps83 Tryz.results83 ?_
 unfold jg at hh
 obtain ⟨r1,hr1,hh⟩:=ae hh
 obtain ⟨r2,hr2,hh⟩:=ae hh
 have i3:=nF [] [] r2
 try simp only [List.nil_append,List.append_nil,List.length_nil,aS,List.length_set,cl] at i3
 obtain ⟨r4,hr4,hh⟩:=ae hh
 cases hh
 try simp only [HD,seval,-Int.reduceToNat,hr1,hr2,i3,hr4]
theorem DJ:bW Tryz.prog 83 mu:=bW.of (mode := .clean) tok Dk mixed Tryz.func83 (by kernel_rfl) ⟨by kernel_rfl,by kernel_rfl⟩ (fun _=>Nat.le_of_ble_eq_true (by kernel_rfl)) (fun x r h=>GW x r h)
noncomputable def nV:=eZ (eg (dO eS) (eg (ie (eI .i64)) (eg (ie (oS (eI .i64))) (eg (ie (eI .i64)) (eg (aI .i64) (ef (aI .i64))))))) (fun x:aE×(List Int)×(List (List Int))×(List Int)×Int×Int=>kf x.1 x.2.1 x.2.2.1 x.2.2.2.1 x.2.2.2.2.1 x.2.2.2.2.2) (fun r:(List Int)×Int => .clean (.tup [.sl false false r.1.length (ab (eI .i64) r.1),.int .i64 r.2]))
theorem zb (p0_0:(List ax)) (p1:(List Int)) (p2:(List (List Int))) (p3:(List Int)) (p4:Int) (p5:Int):nV none [.agg [.sl false false p0_0.length (ab aq p0_0)],.sl false false p1.length (ab (eI .i64) p1),.sl false false p2.length (ab (oS (eI .i64)) p2),.sl false false p3.length (ab (eI .i64) p3),.int .i64 p4,.int .i64 p5]=(kf (aE.mk p0_0) p1 p2 p3 p4 p5).map fun r:(List Int)×Int=>(.clean (.tup [.sl false false r.1.length (ab (eI .i64) r.1),.int .i64 r.2]),none):=aR _ _ _ ((aE.mk p0_0),p1,p2,p3,p4,p5)
noncomputable def sc:Env:=(Am.ext (Am.ext (Am.ext (Am.ext aB 21 false j4) 82 false nW) 83 false mu) 84 false iy)
theorem GI:b7 Tryz.prog sc:=((((b7.none.add wM false).add Hf false).add DJ false).add sM false)
theorem wz:sc=(Am.ext (Am.ext (Am.ext (Am.ext aB 21 false j4) 82 false nW) 83 false mu) 84 false iy):=Eq.trans rfl rfl
theorem bL:type_of% (And.intro @w <| And.intro @lV <| And.intro @zc <| And.intro @wP <| And.intro @lK <| @wz):=And.intro @w <| And.intro @lV <| And.intro @zc <| And.intro @wP <| And.intro @lK <| @wz
theorem JQ (p0:aE) (p1:(List Int)) (p2:(List (List Int))) (p3:(List Int)) (p4:Int) (p5:Int) (r:(List Int)×Int) (hh:kf p0 p1 p2 p3 p4 p5=some r):aX .clean tab sc FU Tryz.f47 none [.agg [.sl false false p0.ah.length (ab aq p0.ah)],.sl false false p1.length (ab (eI .i64) p1),.sl false false p2.length (ab (oS (eI .i64)) p2),.sl false false p3.length (ab (eI .i64) p3),.int .i64 p4,.int .i64 p5]=some (.clean (.tup [.sl false false r.1.length (ab (eI .i64) r.1),.int .i64 r.2]),none):=by
 refine ay rfl Tryz.ntmps47 Tryz.results47 ?_
 unfold kf at hh
 obtain ⟨r1,hr1,hh⟩:=ae hh
 try simp only [bL,seval,-Int.reduceToNat,hr1]
 refine ai (fun hb2 => ?_) (fun hb2 => ?_)
 ·replace hh:=ak hb2 hh
  cases hh
  try simp only [bL,seval,-Int.reduceToNat,hr1]
 ·replace hh:=aj hb2 hh
  try simp only [bL,seval,-Int.reduceToNat,hr1]
  obtain ⟨o3,ho3,hh⟩:=ae hh
  refine bV 0 (fun s t H e=>match s with | s29j1=>∃ v6j1:Nat,t 1 = .sl false false p1.length (ab (eI .i64) p1)∧t 2 = .sl false false p2.length (ab (oS (eI .i64)) p2)∧t 3 = .sl false false p3.length (ab (eI .i64) p3)∧t 6 = .ptr 6 v6j1 0∧t 14 = .sl false false r1.1.length (ab (eI .i64) r1.1)∧t 29 = .bool s29j1∧H 6=some ⟨v6j1,24,[.sl false false p0.ah.length (ab aq p0.ah)],false,false,false⟩) (fun s=>s=o3) ?_ ?_
  ·rintro s29j1 t H e ⟨v6j1,t1j1,t2j1,t3j1,t6j1,t14j1,t29j1,H6j1⟩ rfl
   try dsimp only at hh
   try simp only [bL,seval,-Int.reduceToNat,hr1,t1j1,t2j1,t3j1,t6j1,t14j1,t29j1,H6j1]
   refine ai (fun hb4 => ?_) (fun hb4 => ?_)
   ·replace hh:=ak hb4 hh
    cases hh
    try simp only [bL,seval,-Int.reduceToNat,hr1,t1j1,t2j1,t3j1,t6j1,t14j1,t29j1,H6j1]
   ·replace hh:=aj hb4 hh
    obtain ⟨r5,hr5,hh⟩:=ae hh
    try simp only [bL,seval,-Int.reduceToNat,hr1,t1j1,t2j1,t3j1,t6j1,t14j1,t29j1,H6j1,hr5]
    refine ai (fun hb6 => ?_) (fun hb6 => ?_)
    ·replace hh:=ak hb6 hh
     cases hh
     try simp only [bL,seval,-Int.reduceToNat,hr1,t1j1,t2j1,t3j1,t6j1,t14j1,t29j1,H6j1,hr5]
    ·replace hh:=aj hb6 hh
     try simp only [bL,seval,-Int.reduceToNat,hr1,t1j1,t2j1,t3j1,t6j1,t14j1,t29j1,H6j1,hr5]
     obtain ⟨o14,ho14,hh⟩:=ae hh
     refine aD (fun s t H e=>match s with | s47b=>∃ v6b:Nat,t 2 = .sl false false p2.length (ab (oS (eI .i64)) p2)∧t 3 = .sl false false p3.length (ab (eI .i64) p3)∧t 6 = .ptr 6 v6b 0∧t 14 = .sl false false r1.1.length (ab (eI .i64) r1.1)∧t 45 = .sl false false p1.length (ab (eI .i64) p1)∧t 46 = .int .i64 (p1.length:Int)∧t 47 = .int .i64 s47b∧H 6=some ⟨v6b,24,[.sl false false p0.ah.length (ab aq p0.ah)],false,false,false⟩) (fun o x t H e=>match o with | (.inl _)=>x = .exit 1∧t 14 = .sl false false r1.1.length (ab (eI .i64) r1.1) | (.inr r)=>x = .ret∧gG .clean tab none [.tmp 12,.tmp 13] ⟨t,H,e⟩=some (.clean (.tup [.sl false false r.1.length (ab (eI .i64) r.1),.int .i64 r.2]),none)) ho14 ?_ ?_ ?_
     ·
      refine ⟨v6j1,?_,?_,?_,?_,?_,?_,?_,?_⟩
      all_goals (first | rfl | (simp only [bL,seval,-Int.reduceToNat,hr1,t1j1,t2j1,t3j1,t6j1,t14j1,t29j1,H6j1,hr5] <;> rfl))
     ·rintro s47b t H e ⟨v6b,t2b,t3b,t6b,t14b,t45b,t46b,t47b,H6b⟩ c hh
      simp only [kQ] at hh
      try simp only [bL,seval,-Int.reduceToNat,hr1,hr5,t2b,t3b,t6b,t14b,t45b,t46b,t47b,H6b]
      refine ai (fun hb15 => ?_) (fun hb15 => ?_)
      ·replace hh:=ak hb15 hh
       obtain ⟨x16,hx16,hh⟩:=ae hh
       have bx16:=aJ hx16
       have ax16:=aC (eI .i64) hx16
       have fx16:=aA (eI .i64) hx16
       simp only [cl] at ax16 fx16
       skip
       obtain ⟨x17,hx17,hh⟩:=ae hh
       have bx17:=aJ hx17
       have ax17:=aC (oS (eI .i64)) hx17
       have fx17:=aA (oS (eI .i64)) hx17
       simp only [cl] at ax17 fx17
       skip
       obtain ⟨r18,hr18,hh⟩:=ae hh
       obtain ⟨x19,hx19,hh⟩:=ae hh
       have bx19:=aJ hx19
       have ax19:=aC (eI .i64) hx19
       have fx19:=aA (eI .i64) hx19
       simp only [cl] at ax19 fx19
       skip
       obtain ⟨r20,hr20,hh⟩:=ae hh
       try simp only [bL,seval,-Int.reduceToNat,hr1,hr5,t2b,t3b,t6b,t14b,t45b,t46b,t47b,H6b,bx16,ax16,fx16,bx17,ax17,fx17,hr18,bx19,ax19,fx19,hr20]
       refine cI (by kernel_rfl) ?_
       try simp only [bL,seval,-Int.reduceToNat,hr1,hr5,t2b,t3b,t6b,t14b,t45b,t46b,t47b,H6b,bx16,ax16,fx16,bx17,ax17,fx17,hr18,bx19,ax19,fx19,hr20]
       refine ai (fun hb21 => ?_) (fun hb21 => ?_)
       ·replace hh:=ak hb21 hh
        cases hh
        try simp only [bL,seval,-Int.reduceToNat,hr1,hr5,t2b,t3b,t6b,t14b,t45b,t46b,t47b,H6b,bx16,ax16,fx16,bx17,ax17,fx17,hr18,bx19,ax19,fx19,hr20]
        rw [dQ]
        refine ⟨_,rfl,?_⟩
        refine ⟨rfl,?_⟩
        try simp only [bL,seval,-Int.reduceToNat,hr1,hr5,t2b,t3b,t6b,t14b,t45b,t46b,t47b,H6b,bx16,ax16,fx16,bx17,ax17,fx17,hr18,bx19,ax19,fx19,hr20]
       ·replace hh:=aj hb21 hh
        cases hh
        try simp only [bL,seval,-Int.reduceToNat,hr1,hr5,t2b,t3b,t6b,t14b,t45b,t46b,t47b,H6b,bx16,ax16,fx16,bx17,ax17,fx17,hr18,bx19,ax19,fx19,hr20]
        rw [aK]
        refine ⟨_,rfl,?_⟩
        refine ⟨v6b,?_,?_,?_,?_,?_,?_,?_,?_⟩
        all_goals (first | rfl | (simp only [bL,seval,-Int.reduceToNat,hr1,hr5,t2b,t3b,t6b,t14b,t45b,t46b,t47b,H6b,bx16,ax16,fx16,bx17,ax17,fx17,hr18,bx19,ax19,fx19,hr20] <;> rfl))
      ·replace hh:=aj hb15 hh
       cases hh
       try simp only [bL,seval,-Int.reduceToNat,hr1,hr5,t2b,t3b,t6b,t14b,t45b,t46b,t47b,H6b]
       rw [bk]
       refine ⟨_,rfl,?_⟩
       refine ⟨rfl,?_⟩
       all_goals (first | rfl | (simp only [bL,seval,-Int.reduceToNat,hr1,hr5,t2b,t3b,t6b,t14b,t45b,t46b,t47b,H6b] <;> rfl))
     ·rintro x t H e hx
      rcases o14 with _ | rb
      ·
       dsimp only at hx hh
       obtain ⟨rfl,t14bx⟩:=hx
       cases hh
       try simp only [bL,seval,-Int.reduceToNat,hr1,hr5,t14bx]
      ·
       dsimp only at hx hh
       obtain ⟨rfl,hE⟩:=hx
       cases hh
       try simp only [bo,bf,bG,cY,cX]
       exact hE
  ·
   clear hh
   have hh:=ho3
   try simp only [bL,seval,-Int.reduceToNat,hr1]
   refine bj (fun hb22 => ?_) (fun hb22 => ?_)
   ·replace hh:=ak hb22 hh
    cases hh
    try simp only [bL,seval,-Int.reduceToNat,hr1]
    rw [an]
    refine ⟨_,rfl,?_⟩
    refine ⟨0,?_,?_,?_,?_,?_,?_,?_⟩
    all_goals (first | rfl | (simp only [bL,seval,-Int.reduceToNat,hr1] <;> rfl))
   ·replace hh:=aj hb22 hh
    cases hh
    try simp only [bL,seval,-Int.reduceToNat,hr1]
    rw [an]
    refine ⟨_,rfl,?_⟩
    refine ⟨0,?_,?_,?_,?_,?_,?_,?_⟩
    all_goals (first | rfl | (simp only [bL,seval,-Int.reduceToNat,hr1] <;> rfl))
theorem He:bW Tryz.prog 47 nV:=bW.of (mode := .clean) tok GI mixed Tryz.func47 (by kernel_rfl) ⟨by kernel_rfl,by kernel_rfl⟩ (fun _=>Nat.le_of_ble_eq_true (by kernel_rfl)) (fun x r h=>JQ x.1 x.2.1 x.2.2.1 x.2.2.2.1 x.2.2.2.2.1 x.2.2.2.2.2 r h)
theorem U7:P9 Tryz.prog 85 (3,1,8):=Pm Tryz.U9 Tryz.func85 ⟨by kernel_rfl,by kernel_rfl⟩
noncomputable def nU:=eZ (eg (ie (eI .i64)) (ef (aI .i64))) (fun x:(List Int)×Int=>mX x.1 x.2) (fun r:(List Int)×Int => .clean (.tup [.sl false false r.1.length (ab (eI .i64) r.1),.int .i64 r.2]))
theorem za (p0:(List Int)) (p1:Int):nU none [.sl false false p0.length (ab (eI .i64) p0),.int .i64 p1]=(mX p0 p1).map fun r:(List Int)×Int=>(.clean (.tup [.sl false false r.1.length (ab (eI .i64) r.1),.int .i64 r.2]),none):=aR _ _ _ (p0,p1)
noncomputable def sb:Env:=(Am.zH 85 (3,1,8) (Am.ext aB 23 false jj))
theorem GH:b7 Tryz.prog sb:=(b7.zH (b7.none.add uD false) U7)
theorem wy:sb=(Am.zH 85 (3,1,8) (Am.ext aB 23 false jj)):=Eq.trans rfl rfl
theorem cg:type_of% (And.intro @w <| And.intro @mL <| @wy):=And.intro @w <| And.intro @mL <| @wy
theorem JP (p0:(List Int)) (p1:Int) (r:(List Int)×Int) (hh:mX p0 p1=some r):aX .clean tab sb FU Tryz.f48 none [.sl false false p0.length (ab (eI .i64) p0),.int .i64 p1]=some (.clean (.tup [.sl false false r.1.length (ab (eI .i64) r.1),.int .i64 r.2]),none):=by
 refine ay rfl Tryz.ntmps48 Tryz.results48 ?_
 unfold mX at hh
 obtain ⟨r1,hr1,hh⟩:=ae hh
 try simp only [cg,ne_eq,not_false_eq_true,seval,-Int.reduceToNat,hr1]
 refine ai (fun hb2 => ?_) (fun hb2 => ?_)
 ·replace hh:=ak hb2 hh
  cases hh
  try simp only [cg,ne_eq,not_false_eq_true,seval,-Int.reduceToNat,hr1]
 ·replace hh:=aj hb2 hh
  obtain ⟨x3,hx3,hh⟩:=ae hh
  obtain ⟨q4a,q4b,q4c,q4d,q4e,q4f,q4g⟩:=Vb (eI .i64) hx3
  simp only [cl] at q4d
  try simp only [cg,ne_eq,not_false_eq_true,seval,-Int.reduceToNat,hr1,q4a,q4b,q4c,q4d,q4e,q4f,q4g]
  obtain ⟨o18,ho18,hh⟩:=ae hh
  refine aD (fun s t H e=>match s with | (s20a,l6a,l7a)=>∃ v6a:Nat,∃ v7a:Nat,t 6 = .buf 6 v6a 1 0 (l6a).length∧t 7 = .buf 7 v7a 1 0 (l7a).length∧t 18 = .sl false false p0.length (ab (eI .i64) p0)∧t 19 = .int .i64 (p0.length:Int)∧t 20 = .int .i64 s20a∧H 6=some ⟨v6a,3,ab (eI .i64) l6a,false,true,false⟩∧H 7=some ⟨v7a,3,ab (eI .i64) l7a,false,true,false⟩) (fun o x t H e=>match o with | l6ax=>x = .exit 0∧∃ v6ax:Nat,t 6 = .buf 6 v6ax 1 0 (l6ax).length∧H 6=some ⟨v6ax,3,ab (eI .i64) l6ax,false,true,false⟩) ho18 ?_ ?_ ?_
  ·
   refine ⟨2,3,?_,?_,?_,?_,?_,?_,?_⟩
   all_goals (first | rfl | (simp only [cg,ne_eq,not_false_eq_true,seval,-Int.reduceToNat,hr1,q4a,q4b,q4c,q4d,q4e,q4f,q4g] <;> rfl))
  ·rintro ⟨s20a,l6a,l7a⟩ t H e ⟨v6a,v7a,t6a,t7a,t18a,t19a,t20a,H6a,H7a⟩ c hh
   simp only [wY] at hh
   try simp only [cg,ne_eq,not_false_eq_true,seval,-Int.reduceToNat,hr1,q4a,q4b,q4c,q4d,q4e,q4f,q4g,t6a,t7a,t18a,t19a,t20a,H6a,H7a]
   refine ai (fun hb19 => ?_) (fun hb19 => ?_)
   ·replace hh:=ak hb19 hh
    obtain ⟨x20,hx20,hh⟩:=ae hh
    have bx20:=aJ hx20
    have ax20:=aC (eI .i64) hx20
    have fx20:=aA (eI .i64) hx20
    simp only [cl] at ax20 fx20
    skip
    try simp only [cg,ne_eq,not_false_eq_true,seval,-Int.reduceToNat,hr1,q4a,q4b,q4c,q4d,q4e,q4f,q4g,t6a,t7a,t18a,t19a,t20a,H6a,H7a,bx20,ax20,fx20]
    obtain ⟨o24,ho24,hh⟩:=ae hh
    refine aD (fun s t H e=>match s with | (s9c,s10c)=>∃ v6c:Nat,∃ v7c:Nat,t 6 = .buf 6 v6c 1 0 (l6a).length∧t 7 = .buf 7 v7c 1 0 (l7a).length∧t 9 = .int .i64 s9c∧t 10 = .int .i64 s10c∧t 18 = .sl false false p0.length (ab (eI .i64) p0)∧t 19 = .int .i64 (p0.length:Int)∧t 20 = .int .i64 s20a∧H 6=some ⟨v6c,3,ab (eI .i64) l6a,false,true,false⟩∧H 7=some ⟨v7c,3,ab (eI .i64) l7a,false,true,false⟩) (fun o x t H e=>match o with | (s9cx,s10cx)=>x = .exit 2∧∃ v6cx:Nat,∃ v7cx:Nat,t 6 = .buf 6 v6cx 1 0 (l6a).length∧t 7 = .buf 7 v7cx 1 0 (l7a).length∧t 9 = .int .i64 s9cx∧t 10 = .int .i64 s10cx∧t 18 = .sl false false p0.length (ab (eI .i64) p0)∧t 19 = .int .i64 (p0.length:Int)∧t 20 = .int .i64 s20a∧H 6=some ⟨v6cx,3,ab (eI .i64) l6a,false,true,false⟩∧H 7=some ⟨v7cx,3,ab (eI .i64) l7a,false,true,false⟩) ho24 ?_ ?_ ?_
    ·
     refine ⟨v6a,v7a,?_,?_,?_,?_,?_,?_,?_,?_,?_⟩
     all_goals (first | rfl | (simp only [cg,ne_eq,not_false_eq_true,seval,-Int.reduceToNat,hr1,q4a,q4b,q4c,q4d,q4e,q4f,q4g,t6a,t7a,t18a,t19a,t20a,H6a,H7a,bx20,ax20,fx20] <;> rfl))
    ·rintro ⟨s9c,s10c⟩ t H e ⟨v6c,v7c,t6c,t7c,t9c,t10c,t18c,t19c,t20c,H6c,H7c⟩ c hh
     simp only [wZ] at hh
     try simp only [cg,ne_eq,not_false_eq_true,seval,-Int.reduceToNat,hr1,q4a,q4b,q4c,q4d,q4e,q4f,q4g,bx20,ax20,fx20,t6c,t7c,t9c,t10c,t18c,t19c,t20c,H6c,H7c]
     refine bK (fun hb25 => ?_) (fun hb25 => ?_)
     ·replace hh:=ak hb25 hh
      obtain ⟨x26,hx26,hh⟩:=ae hh
      have bx26:=aJ hx26
      have ax26:=aC (eI .i64) hx26
      have fx26:=aA (eI .i64) hx26
      simp only [cl] at ax26 fx26
      skip
      try simp only [cg,ne_eq,not_false_eq_true,seval,-Int.reduceToNat,hr1,q4a,q4b,q4c,q4d,q4e,q4f,q4g,bx20,ax20,fx20,t6c,t7c,t9c,t10c,t18c,t19c,t20c,H6c,H7c,bx26,ax26,fx26]
      refine ai (fun hb27 => ?_) (fun hb27 => ?_)
      ·replace hh:=ak hb27 hh
       cases hh
       try simp only [cg,ne_eq,not_false_eq_true,seval,-Int.reduceToNat,hr1,q4a,q4b,q4c,q4d,q4e,q4f,q4g,bx20,ax20,fx20,t6c,t7c,t9c,t10c,t18c,t19c,t20c,H6c,H7c,bx26,ax26,fx26]
       rw [aK]
       refine ⟨_,rfl,?_⟩
       refine ⟨v6c,v7c,?_,?_,?_,?_,?_,?_,?_,?_,?_⟩
       all_goals (first | rfl | (simp only [cg,ne_eq,not_false_eq_true,seval,-Int.reduceToNat,hr1,q4a,q4b,q4c,q4d,q4e,q4f,q4g,bx20,ax20,fx20,t6c,t7c,t9c,t10c,t18c,t19c,t20c,H6c,H7c,bx26,ax26,fx26] <;> rfl))
      ·replace hh:=aj hb27 hh
       cases hh
       try simp only [cg,ne_eq,not_false_eq_true,seval,-Int.reduceToNat,hr1,q4a,q4b,q4c,q4d,q4e,q4f,q4g,bx20,ax20,fx20,t6c,t7c,t9c,t10c,t18c,t19c,t20c,H6c,H7c,bx26,ax26,fx26]
       rw [bk]
       refine ⟨_,rfl,?_⟩
       refine ⟨rfl,⟨v6c,v7c,?_,?_,?_,?_,?_,?_,?_,?_,?_⟩⟩
       all_goals (first | rfl | (simp only [cg,ne_eq,not_false_eq_true,seval,-Int.reduceToNat,hr1,q4a,q4b,q4c,q4d,q4e,q4f,q4g,bx20,ax20,fx20,t6c,t7c,t9c,t10c,t18c,t19c,t20c,H6c,H7c,bx26,ax26,fx26] <;> rfl))
     ·replace hh:=aj hb25 hh
      cases hh
      try simp only [cg,ne_eq,not_false_eq_true,seval,-Int.reduceToNat,hr1,q4a,q4b,q4c,q4d,q4e,q4f,q4g,bx20,ax20,fx20,t6c,t7c,t9c,t10c,t18c,t19c,t20c,H6c,H7c]
      rw [bk]
      refine ⟨_,rfl,?_⟩
      refine ⟨rfl,⟨v6c,v7c,?_,?_,?_,?_,?_,?_,?_,?_,?_⟩⟩
      all_goals (first | rfl | (simp only [cg,ne_eq,not_false_eq_true,seval,-Int.reduceToNat,hr1,q4a,q4b,q4c,q4d,q4e,q4f,q4g,bx20,ax20,fx20,t6c,t7c,t9c,t10c,t18c,t19c,t20c,H6c,H7c] <;> rfl))
    ·rintro x t H e hx
     rcases o24 with ⟨s9cx,s10cx⟩
     dsimp only at hx hh
     obtain ⟨rfl,⟨v6cx,v7cx,t6cx,t7cx,t9cx,t10cx,t18cx,t19cx,t20cx,H6cx,H7cx⟩⟩:=hx
     obtain ⟨x28,hx28,hh⟩:=ae hh
     obtain ⟨q29a,q29b,q29c,q29d⟩:=fS (eI .i64) hx28
     simp only [cl] at q29b
     obtain ⟨x30,hx30,hh⟩:=ae hh
     obtain ⟨q31a,q31b,q31c,q31d,q31e⟩:=Ts (eI .i64) hx30
     simp only [cl] at q31e
     skip
     cases hh
     try simp only [cg,ne_eq,not_false_eq_true,seval,-Int.reduceToNat,hr1,q4a,q4b,q4c,q4d,q4e,q4f,q4g,bx20,ax20,fx20,t6cx,t7cx,t9cx,t10cx,t18cx,t19cx,t20cx,H6cx,H7cx,q29a,q29b,q29c,q29d,q31a,q31b,q31c,q31d,q31e]
     rw [aK]
     refine ⟨_,rfl,?_⟩
     refine ⟨e,e,?_,?_,?_,?_,?_,?_,?_⟩
     all_goals (first | rfl | (simp only [cg,ne_eq,not_false_eq_true,seval,-Int.reduceToNat,hr1,q4a,q4b,q4c,q4d,q4e,q4f,q4g,bx20,ax20,fx20,t6cx,t7cx,t9cx,t10cx,t18cx,t19cx,t20cx,H6cx,H7cx,q29a,q29b,q29c,q29d,q31a,q31b,q31c,q31d,q31e] <;> rfl))
   ·replace hh:=aj hb19 hh
    cases hh
    try simp only [cg,ne_eq,not_false_eq_true,seval,-Int.reduceToNat,hr1,q4a,q4b,q4c,q4d,q4e,q4f,q4g,t6a,t7a,t18a,t19a,t20a,H6a,H7a]
    rw [bk]
    refine ⟨_,rfl,?_⟩
    refine ⟨rfl,⟨v6a,?_,?_⟩⟩
    all_goals (first | rfl | (simp only [cg,ne_eq,not_false_eq_true,seval,-Int.reduceToNat,hr1,q4a,q4b,q4c,q4d,q4e,q4f,q4g,t6a,t7a,t18a,t19a,t20a,H6a,H7a] <;> rfl))
  ·rintro x t H e hx
   obtain ⟨l6ax,rfl⟩ : ∃ z,z=o18:=⟨_,rfl⟩
   dsimp only at hx hh
   obtain ⟨rfl,⟨v6ax,t6ax,H6ax⟩⟩:=hx
   cases hh
   try simp only [cg,ne_eq,not_false_eq_true,seval,-Int.reduceToNat,hr1,q4a,q4b,q4c,q4d,q4e,q4f,q4g,t6ax,H6ax]
theorem Hd:bW Tryz.prog 48 nU:=bW.of (mode := .clean) tok GH mixed Tryz.func48 (by kernel_rfl) ⟨by kernel_rfl,by kernel_rfl⟩ (fun _=>Nat.le_of_ble_eq_true (by kernel_rfl)) (fun x r h=>JP x.1 x.2 r h)
noncomputable def lB:=eZ (eg (dO eS) (eg (ie (eI .i64)) (eg (ie (oS (eI .i64))) (eg (ie (eI .i64)) (eg (ie (eI .i64)) (ef (aI .i64))))))) (fun x:aE×(List Int)×(List (List Int))×(List Int)×(List Int)×Int=>iS x.1 x.2.1 x.2.2.1 x.2.2.2.1 x.2.2.2.2.1 x.2.2.2.2.2) (fun r:(List Int)×Int => .clean (.tup [.sl false false r.1.length (ab (eI .i64) r.1),.int .i64 r.2]))
theorem oP (p0_0:(List ax)) (p1:(List Int)) (p2:(List (List Int))) (p3:(List Int)) (p4:(List Int)) (p5:Int):lB none [.agg [.sl false false p0_0.length (ab aq p0_0)],.sl false false p1.length (ab (eI .i64) p1),.sl false false p2.length (ab (oS (eI .i64)) p2),.sl false false p3.length (ab (eI .i64) p3),.sl false false p4.length (ab (eI .i64) p4),.int .i64 p5]=(iS (aE.mk p0_0) p1 p2 p3 p4 p5).map fun r:(List Int)×Int=>(.clean (.tup [.sl false false r.1.length (ab (eI .i64) r.1),.int .i64 r.2]),none):=aR _ _ _ ((aE.mk p0_0),p1,p2,p3,p4,p5)
noncomputable def oE:Env:=(Am.ext (Am.ext (Am.ext aB 42 false im) 47 false nV) 48 false nU)
theorem By:b7 Tryz.prog oE:=(((b7.none.add sG false).add He false).add Hd false)
theorem sh:oE=(Am.ext (Am.ext (Am.ext aB 42 false im) 47 false nV) 48 false nU):=Eq.trans rfl rfl
theorem di:type_of% (And.intro @w <| And.intro @lH <| And.intro @zb <| And.intro @za <| @sh):=And.intro @w <| And.intro @lH <| And.intro @zb <| And.intro @za <| @sh
theorem Du (p0:aE) (p1:(List Int)) (p2:(List (List Int))) (p3:(List Int)) (p4:(List Int)) (p5:Int) (r:(List Int)×Int) (hh:iS p0 p1 p2 p3 p4 p5=some r):aX .clean tab oE FU Tryz.f15 none [.agg [.sl false false p0.ah.length (ab aq p0.ah)],.sl false false p1.length (ab (eI .i64) p1),.sl false false p2.length (ab (oS (eI .i64)) p2),.sl false false p3.length (ab (eI .i64) p3),.sl false false p4.length (ab (eI .i64) p4),.int .i64 p5]=some (.clean (.tup [.sl false false r.1.length (ab (eI .i64) r.1),.int .i64 r.2]),none):=by
 refine ay rfl Tryz.ntmps15 Tryz.results15 ?_
 unfold iS at hh
 obtain ⟨r1,hr1,hh⟩:=ae hh
 try simp only [di,seval,-Int.reduceToNat,hr1]
 refine ai (fun hb2 => ?_) (fun hb2 => ?_)
 ·replace hh:=ak hb2 hh
  cases hh
  try simp only [di,seval,-Int.reduceToNat,hr1]
 ·replace hh:=aj hb2 hh
  obtain ⟨r3,hr3,hh⟩:=ae hh
  try simp only [di,seval,-Int.reduceToNat,hr1,hr3]
  refine ai (fun hb4 => ?_) (fun hb4 => ?_)
  ·replace hh:=ak hb4 hh
   cases hh
   try simp only [di,seval,-Int.reduceToNat,hr1,hr3]
  ·replace hh:=aj hb4 hh
   obtain ⟨r5,hr5,hh⟩:=ae hh
   try simp only [di,seval,-Int.reduceToNat,hr1,hr3,hr5]
   obtain ⟨o11,ho11,hh⟩:=ae hh
   refine aD (fun s t H e=>match s with | (s46a,l18a)=>∃ v18a:Nat,t 4 = .sl false false p4.length (ab (eI .i64) p4)∧t 18 = .buf 18 v18a 1 0 (l18a).length∧t 44 = .sl false false r5.1.length (ab (eI .i64) r5.1)∧t 45 = .int .i64 (r5.1.length:Int)∧t 46 = .int .i64 s46a∧H 18=some ⟨v18a,3,ab (eI .i64) l18a,false,true,false⟩) (fun o x t H e=>match o with | l18ax=>x = .exit 0∧∃ v18ax:Nat,t 18 = .buf 18 v18ax 1 0 (l18ax).length∧H 18=some ⟨v18ax,3,ab (eI .i64) l18ax,false,true,false⟩) ho11 ?_ ?_ ?_
   ·
    refine ⟨5,?_,?_,?_,?_,?_,?_⟩
    all_goals (first | rfl | (simp only [di,seval,-Int.reduceToNat,hr1,hr3,hr5] <;> rfl))
   ·rintro ⟨s46a,l18a⟩ t H e ⟨v18a,t4a,t18a,t44a,t45a,t46a,H18a⟩ c hh
    simp only [nc] at hh
    try simp only [di,seval,-Int.reduceToNat,hr1,hr3,hr5,t4a,t18a,t44a,t45a,t46a,H18a]
    refine ai (fun hb12 => ?_) (fun hb12 => ?_)
    ·replace hh:=ak hb12 hh
     obtain ⟨x13,hx13,hh⟩:=ae hh
     have bx13:=aJ hx13
     have ax13:=aC (eI .i64) hx13
     have fx13:=aA (eI .i64) hx13
     simp only [cl] at ax13 fx13
     skip
     obtain ⟨x14,hx14,hh⟩:=ae hh
     have bx14:=aJ hx14
     have ax14:=aC (eI .i64) hx14
     have fx14:=aA (eI .i64) hx14
     simp only [cl] at ax14 fx14
     skip
     obtain ⟨x15,hx15,hh⟩:=ae hh
     obtain ⟨q16a,q16b,q16c,q16d⟩:=fS (eI .i64) hx15
     simp only [cl] at q16b
     cases hh
     try simp only [di,seval,-Int.reduceToNat,hr1,hr3,hr5,t4a,t18a,t44a,t45a,t46a,H18a,bx13,ax13,fx13,bx14,ax14,fx14,q16a,q16b,q16c,q16d]
     rw [aK]
     refine ⟨_,rfl,?_⟩
     refine ⟨e+1+1,?_,?_,?_,?_,?_,?_⟩
     all_goals (first | rfl | (simp only [di,seval,-Int.reduceToNat,hr1,hr3,hr5,t4a,t18a,t44a,t45a,t46a,H18a,bx13,ax13,fx13,bx14,ax14,fx14,q16a,q16b,q16c,q16d] <;> rfl))
    ·replace hh:=aj hb12 hh
     cases hh
     try simp only [di,seval,-Int.reduceToNat,hr1,hr3,hr5,t4a,t18a,t44a,t45a,t46a,H18a]
     rw [bk]
     refine ⟨_,rfl,?_⟩
     refine ⟨rfl,⟨v18a,?_,?_⟩⟩
     all_goals (first | rfl | (simp only [di,seval,-Int.reduceToNat,hr1,hr3,hr5,t4a,t18a,t44a,t45a,t46a,H18a] <;> rfl))
   ·rintro x t H e hx
    obtain ⟨l18ax,rfl⟩ : ∃ z,z=o11:=⟨_,rfl⟩
    dsimp only at hx hh
    obtain ⟨rfl,⟨v18ax,t18ax,H18ax⟩⟩:=hx
    cases hh
    try simp only [di,seval,-Int.reduceToNat,hr1,hr3,hr5,t18ax,H18ax]
theorem Cf:bW Tryz.prog 15 lB:=bW.of (mode := .clean) tok By mixed Tryz.func15 (by kernel_rfl) ⟨by kernel_rfl,by kernel_rfl⟩ (fun _=>Nat.le_of_ble_eq_true (by kernel_rfl)) (fun x r h=>Du x.1 x.2.1 x.2.2.1 x.2.2.2.1 x.2.2.2.2.1 x.2.2.2.2.2 r h)
noncomputable def nS:=eZ (S2) (fun x:Unit=>lq) (fun r:Bool => .clean (.bool r))
theorem y9:nS none []=(lq).map fun r:Bool=>(.clean (.bool r),none):=aR _ _ _ ()
noncomputable def rY:Env:=(Am.ext (Am.ext (Am.ext (Am.ext (Am.ext (Am.ext (Am.ext (Am.ext aB 13 false fk) 15 false lB) 18 false kp) 20 false mz) 21 false j4) 35 false lD) 37 false mv) 38 false pC)
theorem GD:b7 Tryz.prog rY:=((((((((b7.none.add nD false).add Cf false).add zM false).add DN false).add wM false).add Ci false).add DK false).add Kd false)
theorem wq:rY=(Am.ext (Am.ext (Am.ext (Am.ext (Am.ext (Am.ext (Am.ext (Am.ext aB 13 false fk) 15 false lB) 18 false kp) 20 false mz) 21 false j4) 35 false lD) 37 false mv) 38 false pC):=Eq.trans rfl rfl
theorem bh:type_of% (And.intro @w <| And.intro @eN <| And.intro @oP <| And.intro @kJ <| And.intro @wS <| And.intro @lV <| And.intro @uG <| And.intro @qu <| And.intro @lv <| @wq):=And.intro @w <| And.intro @eN <| And.intro @oP <| And.intro @kJ <| And.intro @wS <| And.intro @lV <| And.intro @uG <| And.intro @qu <| And.intro @lv <| @wq
end Go.Proofs.YtpkahnkoecbndaaGreatDoor.Am
