/- Part of a proof, made small by a program (wip/mini.py). -/
import Derived.Test.YtpkahnkoecbndaaGreatDoorYe
namespace Go.Proofs.YtpkahnkoecbndaaGreatDoor.Am
open Go.RowKit Go.Proofs.YtpkahnkoecbndaaGreatDoor.P
set_option maxRecDepth 100000
set_option maxHeartbeats 4000000
set_option linter.unusedSimpArgs false
set_option linter.unusedVariables false
theorem MA (p0:au) (p1:(List Int)) (r:Bool) (hh:l5 p0 p1=some r):aM .clean tab qe FU Tryz.f34 none [.agg [.sl false false p0.ag.length (ab al p0.ag)],.sl false false p1.length (ab (eI .i64) p1)]=some (.clean (.bool r),none):=by
 refine aq rfl Tryz.ntmps34 Tryz.results34 ?_
 unfold l5 at hh
 obtain⟨r1,hr1,hh⟩:=ae hh
 try simp only[bB,seval,-Int.reduceToNat,hr1]
 obtain⟨o2,ho2,hh⟩:=ae hh
 refine bA 0 (fun s t H e=>match s with|s14j1=>∃v2j1:Nat,t 1=.sl false false p1.length (ab (eI .i64) p1)∧t 2=.ptr 2 v2j1 0∧t 14=.bool s14j1∧H 2=some ⟨v2j1,24,[.sl false false p0.ag.length (ab al p0.ag)],false,false,false⟩) (fun s=>s=o2) ?_ ?_
 ·rintro s14j1 t H e ⟨v2j1,Zj1⟩ rfl
  try dsimp only at hh
  try simp only[bB,seval,-Int.reduceToNat,hr1,Zj1]
  refine sp aj hh (fun _ hh =>?_) (fun _ hh =>?_)
  ·cases hh
   try simp only[bB,seval,-Int.reduceToNat,hr1,Zj1]
  ·try simp only[bB,seval,-Int.reduceToNat,hr1,Zj1]
   obtain⟨o13,ho13,hh⟩:=ae hh
   refine ax (fun s t H e=>match s with|s5b=>∃v2b:Nat,t 1=.sl false false p1.length (ab (eI .i64) p1)∧t 2=.ptr 2 v2b 0∧t 5=.int .i64 s5b∧H 2=some ⟨v2b,24,[.sl false false p0.ag.length (ab al p0.ag)],false,false,false⟩) (fun o x t H e=>match o with|(.inl _)=>x=.exit 0|(.inr r)=>x=.ret∧eW .clean tab none [.tmp 4] ⟨t,H,e⟩=some (.clean (.bool r),none)) ho13 ?_ ?_ ?_
   ·refine⟨v2j1,?_,?_,?_,?_⟩
    all_goals first|rfl|(simp only[bB,seval,-Int.reduceToNat,hr1,Zj1]<;>rfl)
   ·rintro s5b t H e ⟨v2b,Zb⟩ c hh
    simp only[oC]at hh
    try simp only[bB,seval,-Int.reduceToNat,hr1,Zb]
    refine sp aj hh (fun _ hh =>?_) (fun _ hh =>?_)
    ·obtain⟨x15,hx15,hh⟩:=ae hh
     have ax15:=bF (eI .i64) hx15
     simp only[b6]at ax15
     obtain⟨r16,hr16,hh⟩:=ae hh
     try simp only[bB,seval,-Int.reduceToNat,hr1,Zb,ax15,hr16]
     refine cf (by kernel_rfl) ?_
     try simp only[bB,seval,-Int.reduceToNat,hr1,Zb,ax15,hr16]
     refine sp aj hh (fun _ hh =>?_) (fun _ hh =>?_)
     ·cases hh
      try simp only[bB,seval,-Int.reduceToNat,hr1,Zb,ax15,hr16]
      refine pc ⟨rfl,?_⟩
      try simp only[bB,seval,-Int.reduceToNat,hr1,Zb,ax15,hr16]
     ·try simp only[bB,seval,-Int.reduceToNat,hr1,Zb,ax15,hr16]
      refine sp aj hh (fun _ hh =>?_) (fun _ hh =>?_)
      ·obtain⟨x19,hx19,hh⟩:=ae hh
       have ax19:=bF (eI .i64) hx19
       simp only[b6]at ax19
       obtain⟨x20,hx20,hh⟩:=ae hh
       have ax20:=bF al hx20
       simp only[b6]at ax20
       try simp only[bB,seval,-Int.reduceToNat,hr1,Zb,ax15,hr16,ax19,ax20]
       refine cf (by kernel_rfl) ?_
       have ax15:=bF (eI .i64) hx15
       simp only[b6]at ax15
       try simp only[bB,seval,-Int.reduceToNat,hr1,Zb,ax15,hr16,ax19,ax20,ax15]
       refine sp tw hh (fun _ hh =>?_) (fun _ hh =>?_)
       ·have ax15:=bF (eI .i64) hx15
        simp only[b6]at ax15
        try simp only[bB,seval,-Int.reduceToNat,hr1,Zb,ax15,hr16,ax19,ax20,ax15,ax15]
        refine cf (by kernel_rfl) ?_
        try simp only[bB,seval,-Int.reduceToNat,hr1,Zb,ax15,hr16,ax19,ax20,ax15,ax15]
        refine sp aj hh (fun _ hh =>?_) (fun _ hh =>?_)
        ·cases hh
         try simp only[bB,seval,-Int.reduceToNat,hr1,Zb,ax15,hr16,ax19,ax20,ax15,ax15]
         refine pc ⟨rfl,?_⟩
         try simp only[bB,seval,-Int.reduceToNat,hr1,Zb,ax15,hr16,ax19,ax20,ax15,ax15]
        ·cases hh
         try simp only[bB,seval,-Int.reduceToNat,hr1,Zb,ax15,hr16,ax19,ax20,ax15,ax15]
         refine gA ?_
         refine⟨v2b,?_,?_,?_,?_⟩
         all_goals first|rfl|(simp only[bB,seval,-Int.reduceToNat,hr1,Zb,ax15,hr16,ax19,ax20,ax15,ax15]<;>rfl)
       ·try simp only[bB,seval,-Int.reduceToNat,hr1,Zb,ax15,hr16,ax19,ax20,ax15]
        refine cf (by kernel_rfl) ?_
        cases hh
        try simp only[bB,seval,-Int.reduceToNat,hr1,Zb,ax15,hr16,ax19,ax20,ax15]
        refine gA ?_
        refine⟨v2b,?_,?_,?_,?_⟩
        all_goals first|rfl|(simp only[bB,seval,-Int.reduceToNat,hr1,Zb,ax15,hr16,ax19,ax20,ax15]<;>rfl)
      ·cases hh
       try simp only[bB,seval,-Int.reduceToNat,hr1,Zb,ax15,hr16]
       refine gA ?_
       refine⟨v2b,?_,?_,?_,?_⟩
       all_goals first|rfl|(simp only[bB,seval,-Int.reduceToNat,hr1,Zb,ax15,hr16]<;>rfl)
    ·cases hh
     try simp only[bB,seval,-Int.reduceToNat,hr1,Zb]
     refine iS ?_
     exact rfl
   ·rintro x t H e hx
    rcases o13 with _|rb
    ·dsimp only at hx hh
     subst hx
     cases hh
     try simp only[bB,seval,-Int.reduceToNat,hr1]
    ·dsimp only at hx hh
     obtain⟨rfl,hE⟩:=hx
     cases hh
     try simp only[aO,aG,aW,bX,bW]
     exact hE
 ·clear hh
  have hh:=ho2
  try simp only[bB,seval,-Int.reduceToNat,hr1]
  refine sp aB hh (fun _ hh =>?_) (fun _ hh =>?_)
  ·cases hh
   try simp only[bB,seval,-Int.reduceToNat,hr1]
   rw[ak]
   refine⟨_,rfl,?_⟩
   refine⟨0,?_,?_,?_,?_⟩
   all_goals first|rfl|(simp only[bB,seval,-Int.reduceToNat,hr1]<;>rfl)
  ·cases hh
   try simp only[bB,seval,-Int.reduceToNat,hr1]
   rw[ak]
   refine⟨_,rfl,?_⟩
   refine⟨0,?_,?_,?_,?_⟩
   all_goals first|rfl|(simp only[bB,seval,-Int.reduceToNat,hr1]<;>rfl)
theorem JL:bE Tryz.prog 34 ug:=bE.of (mode := .clean) tok Jb mixed Tryz.func34 (by kernel_rfl) ⟨by kernel_rfl,by kernel_rfl⟩ (fun _=>Nat.le_of_ble_eq_true (by kernel_rfl)) (fun x r h=>MA x.1 x.2 r h)
noncomputable def pL:=dI (cH (cI di) (cH (aI .i64) (cH Sk (cH (aI .i64) (dn (aI .i64)))))) (fun x:au×Int×ByteArray×Int×Int=>kD x.1 x.2.1 x.2.2.1 x.2.2.2.1 x.2.2.2.2) (fun r:Bool =>.clean (.bool r))
theorem qA (p0_0:(List av)) (p1:Int) (p2:ByteArray) (p3:Int) (p4:Int):pL none [.agg [.sl false false p0_0.length (ab al p0_0)],.int .i64 p1,.str p2,.int .i64 p3,.int .i64 p4]=(kD (au.mk p0_0) p1 p2 p3 p4).map fun r:Bool=>(.clean (.bool r),none):=aC _ _ _ ((au.mk p0_0),p1,p2,p3,p4)
noncomputable def pY:Env:=(Am.ext (Am.ext aU 44 false mN) 77 false ue)
theorem I8:bK Tryz.prog pY:=((bK.none.add sO false).add Ax false)
theorem ef:type_of% (ai @w<|ai @kz<|ai @rD<|@pY.eq_1):=⟨@w,@kz,@rD,@pY.eq_1⟩
theorem Mx (p0:au) (p1:Int) (p2:ByteArray) (p3:Int) (p4:Int) (r:Bool) (hh:kD p0 p1 p2 p3 p4=some r):aM .clean tab pY FU Tryz.f87 none [.agg [.sl false false p0.ag.length (ab al p0.ag)],.int .i64 p1,.str p2,.int .i64 p3,.int .i64 p4]=some (.clean (.bool r),none):=by
 refine aq rfl Tryz.ntmps87 Tryz.results87 ?_
 unfold kD at hh
 obtain⟨r1,hr1,hh⟩:=ae hh
 try simp only[ef,seval,-Int.reduceToNat,hr1]
 obtain⟨o2,ho2,hh⟩:=ae hh
 refine bA 0 (fun s t H e=>match s with|s23j1=>∃v5j1:Nat,t 1=.int .i64 p1∧t 2=.str p2∧t 3=.int .i64 p3∧t 4=.int .i64 p4∧t 5=.ptr 5 v5j1 0∧t 23=.bool s23j1∧H 5=some ⟨v5j1,24,[.sl false false p0.ag.length (ab al p0.ag)],false,false,false⟩) (fun s=>s=o2) ?_ ?_
 ·rintro s23j1 t H e ⟨v5j1,Zj1⟩ rfl
  try dsimp only at hh
  try simp only[ef,seval,-Int.reduceToNat,hr1,Zj1]
  refine sp aj hh (fun _ hh =>?_) (fun _ hh =>?_)
  ·cases hh
   try simp only[ef,seval,-Int.reduceToNat,hr1,Zj1]
  ·obtain⟨x4,hx4,hh⟩:=ae hh
   have ax4:=bF al hx4
   simp only[b6]at ax4
   try simp only[ef,seval,-Int.reduceToNat,hr1,Zj1,ax4]
   refine sp bd hh (fun _ hh =>?_) (fun _ hh =>?_)
   ·try simp only[ef,seval,-Int.reduceToNat,hr1,Zj1,ax4]
    refine sp bd hh (fun _ hh =>?_) (fun _ hh =>?_)
    ·cases hh
     try simp only[ef,seval,-Int.reduceToNat,hr1,Zj1,ax4]
    ·cases hh
     try simp only[ef,seval,-Int.reduceToNat,hr1,Zj1,ax4]
   ·cases hh
    try simp only[ef,seval,-Int.reduceToNat,hr1,Zj1,ax4]
 ·clear hh
  have hh:=ho2
  try simp only[ef,seval,-Int.reduceToNat,hr1]
  refine sp aB hh (fun _ hh =>?_) (fun _ hh =>?_)
  ·cases hh
   try simp only[ef,seval,-Int.reduceToNat,hr1]
   rw[ak]
   refine⟨_,rfl,?_⟩
   refine⟨0,?_,?_,?_,?_,?_,?_,?_⟩
   all_goals first|rfl|(simp only[ef,seval,-Int.reduceToNat,hr1]<;>rfl)
  ·obtain⟨r8,hr8,hh⟩:=ae hh
   cases hh
   try simp only[ef,seval,-Int.reduceToNat,hr1,hr8]
   rw[ak]
   refine⟨_,rfl,?_⟩
   refine⟨0,?_,?_,?_,?_,?_,?_,?_⟩
   all_goals first|rfl|(simp only[ef,seval,-Int.reduceToNat,hr1,hr8]<;>rfl)
theorem y9:bE Tryz.prog 87 pL:=bE.of (mode := .clean) tok I8 mixed Tryz.func87 (by kernel_rfl) ⟨by kernel_rfl,by kernel_rfl⟩ (fun _=>Nat.le_of_ble_eq_true (by kernel_rfl)) (fun x r h=>Mx x.1 x.2.1 x.2.2.1 x.2.2.2.1 x.2.2.2.2 r h)
noncomputable def uf:=dI (cH (cI di) (cH (eZ (eI .i64)) (cH (aI .i64) (cH (aI .i64) (cH Sk (cH (aI .i64) (dn (aI .i64)))))))) (fun x:au×(List Int)×Int×Int×ByteArray×Int×Int=>l4 x.1 x.2.1 x.2.2.1 x.2.2.2.1 x.2.2.2.2.1 x.2.2.2.2.2.1 x.2.2.2.2.2.2) (fun r:Bool =>.clean (.bool r))
theorem Bq (p0_0:(List av)) (p1:(List Int)) (p2:Int) (p3:Int) (p4:ByteArray) (p5:Int) (p6:Int):uf none [.agg [.sl false false p0_0.length (ab al p0_0)],.sl false false p1.length (ab (eI .i64) p1),.int .i64 p2,.int .i64 p3,.str p4,.int .i64 p5,.int .i64 p6]=(l4 (au.mk p0_0) p1 p2 p3 p4 p5 p6).map fun r:Bool=>(.clean (.bool r),none):=aC _ _ _ ((au.mk p0_0),p1,p2,p3,p4,p5,p6)
noncomputable def qd:Env:=(Am.ext (Am.ext (Am.ext aU 34 false ug) 87 false pL) 110 false pK)
theorem Ja:bK Tryz.prog qd:=(((bK.none.add JL false).add y9 false).add y8 false)
theorem fF:type_of% (ai @w<|ai @Br<|ai @qA<|ai @qz<|@qd.eq_1):=⟨@w,@Br,@qA,@qz,@qd.eq_1⟩
theorem Mz (p0:au) (p1:(List Int)) (p2:Int) (p3:Int) (p4:ByteArray) (p5:Int) (p6:Int) (r:Bool) (hh:l4 p0 p1 p2 p3 p4 p5 p6=some r):aM .clean tab qd FU Tryz.f80 none [.agg [.sl false false p0.ag.length (ab al p0.ag)],.sl false false p1.length (ab (eI .i64) p1),.int .i64 p2,.int .i64 p3,.str p4,.int .i64 p5,.int .i64 p6]=some (.clean (.bool r),none):=by
 refine aq rfl Tryz.ntmps80 Tryz.results80 ?_
 unfold l4 at hh
 obtain⟨r1,hr1,hh⟩:=ae hh
 try simp only[fF,seval,-Int.reduceToNat,hr1]
 refine sp aj hh (fun _ hh =>?_) (fun _ hh =>?_)
 ·cases hh
  try simp only[fF,seval,-Int.reduceToNat,hr1]
 ·obtain⟨x3,hx3,hh⟩:=ae hh
  have ax3:=bF (eI .i64) hx3
  simp only[b6]at ax3
  obtain⟨x4,hx4,hh⟩:=ae hh
  have ax4:=bF al hx4
  simp only[b6]at ax4
  try simp only[fF,seval,-Int.reduceToNat,hr1,ax3,ax4]
  refine cf (by kernel_rfl) ?_
  obtain⟨x5,hx5,hh⟩:=ae hh
  have ax5:=bF (eI .i64) hx5
  simp only[b6]at ax5
  try simp only[fF,seval,-Int.reduceToNat,hr1,ax3,ax4,ax5]
  refine sp bd hh (fun _ hh =>?_) (fun _ hh =>?_)
  ·try simp only[fF,seval,-Int.reduceToNat,hr1,ax3,ax4,ax5]
   refine sp bd hh (fun _ hh =>?_) (fun _ hh =>?_)
   ·obtain⟨x8,hx8,hh⟩:=ae hh
    have ax8:=bF al hx8
    simp only[b6]at ax8
    obtain⟨r9,hr9,hh⟩:=ae hh
    try simp only[fF,seval,-Int.reduceToNat,hr1,ax3,ax4,ax5,ax8,hr9]
    refine sp bd hh (fun _ hh =>?_) (fun _ hh =>?_)
    ·obtain⟨r11,hr11,hh⟩:=ae hh
     cases hh
     try simp only[fF,seval,-Int.reduceToNat,hr1,ax3,ax4,ax5,ax8,hr9,hr11]
    ·cases hh
     try simp only[fF,seval,-Int.reduceToNat,hr1,ax3,ax4,ax5,ax8,hr9]
   ·cases hh
    try simp only[fF,seval,-Int.reduceToNat,hr1,ax3,ax4,ax5]
  ·cases hh
   try simp only[fF,seval,-Int.reduceToNat,hr1,ax3,ax4,ax5]
theorem JK:bE Tryz.prog 80 uf:=bE.of (mode := .clean) tok Ja mixed Tryz.func80 (by kernel_rfl) ⟨by kernel_rfl,by kernel_rfl⟩ (fun _=>Nat.le_of_ble_eq_true (by kernel_rfl)) (fun x r h=>Mz x.1 x.2.1 x.2.2.1 x.2.2.2.1 x.2.2.2.2.1 x.2.2.2.2.2.1 x.2.2.2.2.2.2 r h)
noncomputable def zP:=dI (cH (cI sk) (dn (cI jd))) (fun x:dt×aQ=>qI x.1 x.2) (fun r:Bool =>.clean (.bool r))
theorem H3 (p0_0:Int) (p0_1:(List Int)) (p0_2:Int) (p0_3:(List Int)) (p0_4:Int) (p0_5:(List Int)) (p0_6:Int) (p0_7:(List Int)) (p1_0:Int) (p1_1:(List Int)) (p1_2:Int) (p1_3:(List Int)):zP none [.agg [.int .i64 p0_0,.sl false false p0_1.length (ab (eI .i64) p0_1),.int .i64 p0_2,.sl false false p0_3.length (ab (eI .i64) p0_3),.int .i64 p0_4,.sl false false p0_5.length (ab (eI .i64) p0_5),.int .i64 p0_6,.sl false false p0_7.length (ab (eI .i64) p0_7)],.agg [.int .i64 p1_0,.sl false false p1_1.length (ab (eI .i64) p1_1),.int .i64 p1_2,.sl false false p1_3.length (ab (eI .i64) p1_3)]]=(qI (dt.mk (aQ.mk (aw.mk p0_0 p0_1) (aw.mk p0_2 p0_3)) (aQ.mk (aw.mk p0_4 p0_5) (aw.mk p0_6 p0_7))) (aQ.mk (aw.mk p1_0 p1_1) (aw.mk p1_2 p1_3))).map fun r:Bool=>(.clean (.bool r),none):=aC _ _ _ ((dt.mk (aQ.mk (aw.mk p0_0 p0_1) (aw.mk p0_2 p0_3)) (aQ.mk (aw.mk p0_4 p0_5) (aw.mk p0_6 p0_7))),(aQ.mk (aw.mk p1_0 p1_1) (aw.mk p1_2 p1_3)))
noncomputable def vU:Env:=(Am.ext (Am.ext (Am.ext aU 45 false pJ) 78 false mM) 79 false mm)
theorem OP:bK Tryz.prog vU:=(((bK.none.add y7 false).add sN false).add vc false)
theorem me:type_of% (ai @w<|ai @qy<|ai @ky<|ai @mI<|@vU.eq_1):=⟨@w,@qy,@ky,@mI,@vU.eq_1⟩
theorem S1 (p0:dt) (p1:aQ) (r:Bool) (hh:qI p0 p1=some r):aM .clean tab vU FU Tryz.f81 none [.agg [.int .i64 p0.bq.cn.ah,.sl false false p0.bq.cn.aa.length (ab (eI .i64) p0.bq.cn.aa),.int .i64 p0.bq.cl.ah,.sl false false p0.bq.cl.aa.length (ab (eI .i64) p0.bq.cl.aa),.int .i64 p0.aT.cn.ah,.sl false false p0.aT.cn.aa.length (ab (eI .i64) p0.aT.cn.aa),.int .i64 p0.aT.cl.ah,.sl false false p0.aT.cl.aa.length (ab (eI .i64) p0.aT.cl.aa)],.agg [.int .i64 p1.cn.ah,.sl false false p1.cn.aa.length (ab (eI .i64) p1.cn.aa),.int .i64 p1.cl.ah,.sl false false p1.cl.aa.length (ab (eI .i64) p1.cl.aa)]]=some (.clean (.bool r),none):=by
 refine aq rfl Tryz.ntmps81 Tryz.results81 ?_
 unfold qI at hh
 obtain⟨r1,hr1,hh⟩:=ae hh
 try simp only[me,seval,-Int.reduceToNat,hr1]
 refine sp bd hh (fun _ hh =>?_) (fun _ hh =>?_)
 ·obtain⟨r3,hr3,hh⟩:=ae hh
  try simp only[me,seval,-Int.reduceToNat,hr1,hr3]
  refine sp bd hh (fun _ hh =>?_) (fun _ hh =>?_)
  ·obtain⟨r5,hr5,hh⟩:=ae hh
   try simp only[me,seval,-Int.reduceToNat,hr1,hr3,hr5]
   refine sp bd hh (fun _ hh =>?_) (fun _ hh =>?_)
   ·obtain⟨r7,hr7,hh⟩:=ae hh
    cases hh
    try simp only[me,seval,-Int.reduceToNat,hr1,hr3,hr5,hr7]
   ·cases hh
    try simp only[me,seval,-Int.reduceToNat,hr1,hr3,hr5]
  ·cases hh
   try simp only[me,seval,-Int.reduceToNat,hr1,hr3]
 ·cases hh
  try simp only[me,seval,-Int.reduceToNat,hr1]
theorem Px:bE Tryz.prog 81 zP:=bE.of (mode := .clean) tok OP mixed Tryz.func81 (by kernel_rfl) ⟨by kernel_rfl,by kernel_rfl⟩ (fun _=>Nat.le_of_ble_eq_true (by kernel_rfl)) (fun x r h=>S1 x.1 x.2 r h)
noncomputable def rP:=dI (cH (cI di) (cH (aI .i64) (cH (aI .i64) (cH (aI .i64) (cH (aI .i64) (cH (eZ aR) (dn (eZ aA)))))))) (fun x:au×Int×Int×Int×Int×(List aF)×(List az)=>ke x.1 x.2.1 x.2.2.1 x.2.2.2.1 x.2.2.2.2.1 x.2.2.2.2.2.1 x.2.2.2.2.2.2) (fun r:Int =>.clean (.int .i64 r))
theorem zi (p0_0:(List av)) (p1:Int) (p2:Int) (p3:Int) (p4:Int) (p5:(List aF)) (p6:(List az)):rP none [.agg [.sl false false p0_0.length (ab al p0_0)],.int .i64 p1,.int .i64 p2,.int .i64 p3,.int .i64 p4,.sl false false p5.length (ab aR p5),.sl false false p6.length (ab aA p6)]=(ke (au.mk p0_0) p1 p2 p3 p4 p5 p6).map fun r:Int=>(.clean (.int .i64 r),none):=aC _ _ _ ((au.mk p0_0),p1,p2,p3,p4,p5,p6)
noncomputable def nV:Env:=(Am.ext (Am.ext (Am.ext aU 32 false vu) 80 false uf) 81 false zP)
theorem Fy:bK Tryz.prog nV:=(((bK.none.add Ep false).add JK false).add Px false)
theorem aN:type_of% (ai @w<|ai @wa<|ai @Bq<|ai @H3<|@nV.eq_1):=⟨@w,@wa,@Bq,@H3,@nV.eq_1⟩
theorem Jr (p0:au) (p1:Int) (p2:Int) (p3:Int) (p4:Int) (p5:(List aF)) (p6:(List az)) (r:Int) (hh:ke p0 p1 p2 p3 p4 p5 p6=some r):aM .clean tab nV FU Tryz.f46 none [.agg [.sl false false p0.ag.length (ab al p0.ag)],.int .i64 p1,.int .i64 p2,.int .i64 p3,.int .i64 p4,.sl false false p5.length (ab aR p5),.sl false false p6.length (ab aA p6)]=some (.clean (.int .i64 r),none):=by
 refine aq rfl Tryz.ntmps46 Tryz.results46 ?_
 unfold ke at hh
 try simp only[aN,seval,-Int.reduceToNat]
 obtain⟨o4,ho4,hh⟩:=ae hh
 refine ax (fun s t H e=>match s with|(s15a,s16a)=>∃v7a:Nat,t 1=.int .i64 p1∧t 2=.int .i64 p2∧t 3=.int .i64 p3∧t 4=.int .i64 p4∧t 5=.sl false false p5.length (ab aR p5)∧t 6=.sl false false p6.length (ab aA p6)∧t 7=.ptr 7 v7a 0∧t 15=.int .i64 s15a∧t 16=.int .i64 s16a∧H 7=some ⟨v7a,24,[.sl false false p0.ag.length (ab al p0.ag)],false,false,false⟩) (fun o x t H e=>match o with|s15ax=>x=.exit 0∧∃v7ax:Nat,t 1=.int .i64 p1∧t 2=.int .i64 p2∧t 3=.int .i64 p3∧t 4=.int .i64 p4∧t 5=.sl false false p5.length (ab aR p5)∧t 6=.sl false false p6.length (ab aA p6)∧t 7=.ptr 7 v7ax 0∧t 15=.int .i64 s15ax∧H 7=some ⟨v7ax,24,[.sl false false p0.ag.length (ab al p0.ag)],false,false,false⟩) ho4 ?_ ?_ ?_
 ·refine⟨0,?_,?_,?_,?_,?_,?_,?_,?_,?_,?_⟩
  all_goals first|rfl|(simp only[aN,seval,-Int.reduceToNat]<;>rfl)
 ·rintro⟨s15a,s16a⟩ t H e ⟨v7a,Za⟩ c hh
  simp only[iN]at hh
  try simp only[aN,seval,-Int.reduceToNat,Za]
  refine sp aj hh (fun _ hh =>?_) (fun _ hh =>?_)
  ·obtain⟨x6,hx6,hh⟩:=ae hh
   have ax6:=bF aR hx6
   simp only[b6]at ax6
   try simp only[aN,seval,-Int.reduceToNat,Za,ax6]
   refine sp aj hh (fun _ hh =>?_) (fun _ hh =>?_)
   ·cases hh
    try simp only[aN,seval,-Int.reduceToNat,Za,ax6]
    refine gA ?_
    refine⟨v7a,?_,?_,?_,?_,?_,?_,?_,?_,?_,?_⟩
    all_goals first|rfl|(simp only[aN,seval,-Int.reduceToNat,Za,ax6]<;>rfl)
   ·cases hh
    try simp only[aN,seval,-Int.reduceToNat,Za,ax6]
    refine gA ?_
    refine⟨v7a,?_,?_,?_,?_,?_,?_,?_,?_,?_,?_⟩
    all_goals first|rfl|(simp only[aN,seval,-Int.reduceToNat,Za,ax6]<;>rfl)
  ·cases hh
   try simp only[aN,seval,-Int.reduceToNat,Za]
   refine iS ?_
   refine⟨rfl,⟨v7a,?_,?_,?_,?_,?_,?_,?_,?_,?_⟩⟩
   all_goals first|rfl|(simp only[aN,seval,-Int.reduceToNat,Za]<;>rfl)
 ·rintro x t H e hx
  obtain⟨s15ax,rfl⟩:∃z,z=o4:=⟨_,rfl⟩
  dsimp only at hx hh
  obtain⟨rfl,⟨v7ax,Zax⟩⟩:=hx
  try simp only[aN,seval,-Int.reduceToNat,Zax]
  refine sp aj hh (fun _ hh =>?_) (fun _ hh =>?_)
  ·cases hh
   try simp only[aN,seval,-Int.reduceToNat,Zax]
  ·obtain⟨x9,hx9,hh⟩:=ae hh
   have ax9:=bF aR hx9
   simp only[b6]at ax9
   try simp only[aN,seval,-Int.reduceToNat,Zax,ax9]
   refine sp aj hh (fun _ hh =>?_) (fun _ hh =>?_)
   ·cases hh
    try simp only[aN,seval,-Int.reduceToNat,Zax,ax9]
   ·obtain⟨x11,hx11,hh⟩:=ae hh
    have ax11:=bF (eI .i64) hx11
    simp only[b6]at ax11
    try simp only[aN,seval,-Int.reduceToNat,Zax,ax9,ax11]
    obtain⟨o12,ho12,hh⟩:=ae hh
    refine bA 0 (fun s t H e=>match s with|s76j2=>∃v17j2:Nat,t 4=.int .i64 p4∧t 6=.sl false false p6.length (ab aA p6)∧t 17=.ptr 17 v17j2 0∧t 76=.bool s76j2∧H 17=some ⟨v17j2,67,[.int .i64 x9.cg,.sl false false x9.cP.length (ab (eI .i64) x9.cP),.str x9.cp,.int .i64 x9.aE,.int .i64 x9.aY],false,false,false⟩) (fun s=>s=o12) ?_ ?_
    ·rintro s76j2 t H e ⟨v17j2,Zj2⟩ rfl
     try dsimp only at hh
     try simp only[aN,seval,-Int.reduceToNat,ax9,ax11,Zj2]
     refine sp aj hh (fun _ hh =>?_) (fun _ hh =>?_)
     ·cases hh
      try simp only[aN,seval,-Int.reduceToNat,ax9,ax11,Zj2]
     ·try simp only[aN,seval,-Int.reduceToNat,ax9,ax11,Zj2]
      obtain⟨o20,ho20,hh⟩:=ae hh
      refine ax (fun s t H e=>match s with|s18c=>∃v17c:Nat,t 4=.int .i64 p4∧t 6=.sl false false p6.length (ab aA p6)∧t 17=.ptr 17 v17c 0∧t 18=.int .i64 s18c∧H 17=some ⟨v17c,67,[.int .i64 x9.cg,.sl false false x9.cP.length (ab (eI .i64) x9.cP),.str x9.cp,.int .i64 x9.aE,.int .i64 x9.aY],false,false,false⟩) (fun o x t H e=>match o with|(.inl _)=>x=.exit 2|(.inr r)=>x=.ret∧eW .clean tab none [.tmp 14] ⟨t,H,e⟩=some (.clean (.int .i64 r),none)) ho20 ?_ ?_ ?_
      ·refine⟨v17j2,?_,?_,?_,?_,?_⟩
       all_goals first|rfl|(simp only[aN,seval,-Int.reduceToNat,ax9,ax11,Zj2]<;>rfl)
      ·rintro s18c t H e ⟨v17c,Zc⟩ c hh
       simp only[jO]at hh
       try simp only[aN,seval,-Int.reduceToNat,ax9,ax11,Zc]
       refine sp aj hh (fun _ hh =>?_) (fun _ hh =>?_)
       ·obtain⟨x22,hx22,hh⟩:=ae hh
        have ax22:=bF aA hx22
        simp only[b6]at ax22
        try simp only[aN,seval,-Int.reduceToNat,ax9,ax11,Zc,ax22]
        refine sp tw hh (fun _ hh =>?_) (fun _ hh =>?_)
        ·have ax22:=bF aA hx22
         simp only[b6]at ax22
         obtain⟨r24,hr24,hh⟩:=ae hh
         obtain⟨r25,hr25,hh⟩:=ae hh
         try simp only[aN,seval,-Int.reduceToNat,ax9,ax11,Zc,ax22,ax22,hr24,hr25]
         refine cf (by kernel_rfl) ?_
         try simp only[aN,seval,-Int.reduceToNat,ax9,ax11,Zc,ax22,ax22,hr24,hr25]
         refine sp aj hh (fun _ hh =>?_) (fun _ hh =>?_)
         ·cases hh
          try simp only[aN,seval,-Int.reduceToNat,ax9,ax11,Zc,ax22,ax22,hr24,hr25]
          refine pc ⟨rfl,?_⟩
          try simp only[aN,seval,-Int.reduceToNat,ax9,ax11,Zc,ax22,ax22,hr24,hr25]
         ·cases hh
          try simp only[aN,seval,-Int.reduceToNat,ax9,ax11,Zc,ax22,ax22,hr24,hr25]
          refine gA ?_
          refine⟨v17c,?_,?_,?_,?_,?_⟩
          all_goals first|rfl|(simp only[aN,seval,-Int.reduceToNat,ax9,ax11,Zc,ax22,ax22,hr24,hr25]<;>rfl)
        ·try simp only[aN,seval,-Int.reduceToNat,ax9,ax11,Zc,ax22]
         refine cf (by kernel_rfl) ?_
         cases hh
         try simp only[aN,seval,-Int.reduceToNat,ax9,ax11,Zc,ax22]
         refine gA ?_
         refine⟨v17c,?_,?_,?_,?_,?_⟩
         all_goals first|rfl|(simp only[aN,seval,-Int.reduceToNat,ax9,ax11,Zc,ax22]<;>rfl)
       ·cases hh
        try simp only[aN,seval,-Int.reduceToNat,ax9,ax11,Zc]
        refine iS ?_
        exact rfl
      ·rintro x t H e hx
       rcases o20 with _|rc
       ·dsimp only at hx hh
        subst hx
        cases hh
        try simp only[aN,seval,-Int.reduceToNat,ax9,ax11]
       ·dsimp only at hx hh
        obtain⟨rfl,hE⟩:=hx
        cases hh
        try simp only[aO,aG,aW,bX,bW]
        exact hE
    ·clear hh
     have hh:=ho12
     try simp only[aN,seval,-Int.reduceToNat,Zax,ax9,ax11]
     refine sp aB hh (fun _ hh =>?_) (fun _ hh =>?_)
     ·cases hh
      try simp only[aN,seval,-Int.reduceToNat,Zax,ax9,ax11]
      rw[ak]
      refine⟨_,rfl,?_⟩
      refine⟨e+1,?_,?_,?_,?_,?_⟩
      all_goals first|rfl|(simp only[aN,seval,-Int.reduceToNat,Zax,ax9,ax11]<;>rfl)
     ·obtain⟨x28,hx28,hh⟩:=ae hh
      have ax28:=bF (eI .i64) hx28
      simp only[b6]at ax28
      try simp only[aN,seval,-Int.reduceToNat,Zax,ax9,ax11,ax28]
      refine sp aB hh (fun _ hh =>?_) (fun _ hh =>?_)
      ·cases hh
       try simp only[aN,seval,-Int.reduceToNat,Zax,ax9,ax11,ax28]
       rw[ak]
       refine⟨_,rfl,?_⟩
       refine⟨e+1,?_,?_,?_,?_,?_⟩
       all_goals first|rfl|(simp only[aN,seval,-Int.reduceToNat,Zax,ax9,ax11,ax28]<;>rfl)
      ·obtain⟨r30,hr30,hh⟩:=ae hh
       cases hh
       try simp only[aN,seval,-Int.reduceToNat,Zax,ax9,ax11,ax28,hr30]
       rw[ak]
       refine⟨_,rfl,?_⟩
       refine⟨e+1,?_,?_,?_,?_,?_⟩
       all_goals first|rfl|(simp only[aN,seval,-Int.reduceToNat,Zax,ax9,ax11,ax28,hr30]<;>rfl)
theorem F2:bE Tryz.prog 46 rP:=bE.of (mode := .clean) tok Fy mixed Tryz.func46 (by kernel_rfl) ⟨by kernel_rfl,by kernel_rfl⟩ (fun _=>Nat.le_of_ble_eq_true (by kernel_rfl)) (fun x r h=>Jr x.1 x.2.1 x.2.2.1 x.2.2.2.1 x.2.2.2.2.1 x.2.2.2.2.2.1 x.2.2.2.2.2.2 r h)
noncomputable def ui:=dI (cH (cI di) (cH (aI .i64) (cH (aI .i64) (cH (aI .i64) (cH (eZ (eI .i64)) (cH (eZ aR) (dn (eZ aA)))))))) (fun x:au×Int×Int×Int×(List Int)×(List aF)×(List az)=>l8 x.1 x.2.1 x.2.2.1 x.2.2.2.1 x.2.2.2.2.1 x.2.2.2.2.2.1 x.2.2.2.2.2.2) (fun r:(List bn)×Int =>.clean (.tup [.sl false false r.1.length (ab bN r.1),.int .i64 r.2]))
theorem Bu (p0_0:(List av)) (p1:Int) (p2:Int) (p3:Int) (p4:(List Int)) (p5:(List aF)) (p6:(List az)):ui none [.agg [.sl false false p0_0.length (ab al p0_0)],.int .i64 p1,.int .i64 p2,.int .i64 p3,.sl false false p4.length (ab (eI .i64) p4),.sl false false p5.length (ab aR p5),.sl false false p6.length (ab aA p6)]=(l8 (au.mk p0_0) p1 p2 p3 p4 p5 p6).map fun r:(List bn)×Int=>(.clean (.tup [.sl false false r.1.length (ab bN r.1),.int .i64 r.2]),none):=aC _ _ _ ((au.mk p0_0),p1,p2,p3,p4,p5,p6)
noncomputable def qg:Env:=(Am.ext (Am.ext (Am.ext (Am.ext aU 22 false pN) 44 false mN) 45 false pJ) 46 false rP)
theorem Jd:bK Tryz.prog qg:=((((bK.none.add zb false).add sO false).add y7 false).add F2 false)
theorem bk:type_of% (ai @w<|ai @qC<|ai @kz<|ai @qy<|ai @zi<|@qg.eq_1):=⟨@w,@qC,@kz,@qy,@zi,@qg.eq_1⟩
theorem MD (p0:au) (p1:Int) (p2:Int) (p3:Int) (p4:(List Int)) (p5:(List aF)) (p6:(List az)) (r:(List bn)×Int) (hh:l8 p0 p1 p2 p3 p4 p5 p6=some r):aM .clean tab qg FU Tryz.f14 none [.agg [.sl false false p0.ag.length (ab al p0.ag)],.int .i64 p1,.int .i64 p2,.int .i64 p3,.sl false false p4.length (ab (eI .i64) p4),.sl false false p5.length (ab aR p5),.sl false false p6.length (ab aA p6)]=some (.clean (.tup [.sl false false r.1.length (ab bN r.1),.int .i64 r.2]),none):=by
 refine aq rfl Tryz.ntmps14 Tryz.results14 ?_
 unfold l8 at hh
 obtain⟨r1,hr1,hh⟩:=ae hh
 try simp only[bk,seval,-Int.reduceToNat,hr1]
 obtain⟨o2,ho2,hh⟩:=ae hh
 refine bA 0 (fun s t H e=>match s with|s33j1=>∃v7j1:Nat,t 1=.int .i64 p1∧t 2=.int .i64 p2∧t 3=.int .i64 p3∧t 4=.sl false false p4.length (ab (eI .i64) p4)∧t 5=.sl false false p5.length (ab aR p5)∧t 6=.sl false false p6.length (ab aA p6)∧t 7=.ptr 7 v7j1 0∧t 33=.bool s33j1∧H 7=some ⟨v7j1,24,[.sl false false p0.ag.length (ab al p0.ag)],false,false,false⟩) (fun s=>s=o2) ?_ ?_
 ·rintro s33j1 t H e ⟨v7j1,Zj1⟩ rfl
  try dsimp only at hh
  try simp only[bk,seval,-Int.reduceToNat,hr1,Zj1]
  refine sp aj hh (fun _ hh =>?_) (fun _ hh =>?_)
  ·cases hh
   try simp only[bk,seval,-Int.reduceToNat,hr1,Zj1]
  ·try simp only[bk,seval,-Int.reduceToNat,hr1,Zj1]
   obtain⟨o8,ho8,hh⟩:=ae hh
   refine ax (fun s t H e=>match s with|s16b=>∃v7b:Nat,t 1=.int .i64 p1∧t 2=.int .i64 p2∧t 3=.int .i64 p3∧t 4=.sl false false p4.length (ab (eI .i64) p4)∧t 5=.sl false false p5.length (ab aR p5)∧t 6=.sl false false p6.length (ab aA p6)∧t 7=.ptr 7 v7b 0∧t 16=.int .i64 s16b∧H 7=some ⟨v7b,24,[.sl false false p0.ag.length (ab al p0.ag)],false,false,false⟩) (fun o x t H e=>match o with|(.inl _)=>x=.exit 0∧∃v7bx:Nat,t 1=.int .i64 p1∧t 2=.int .i64 p2∧t 3=.int .i64 p3∧t 4=.sl false false p4.length (ab (eI .i64) p4)∧t 5=.sl false false p5.length (ab aR p5)∧t 6=.sl false false p6.length (ab aA p6)∧t 7=.ptr 7 v7bx 0∧H 7=some ⟨v7bx,24,[.sl false false p0.ag.length (ab al p0.ag)],false,false,false⟩|(.inr r)=>x=.ret∧eW .clean tab none [.tmp 14,.tmp 15] ⟨t,H,e⟩=some (.clean (.tup [.sl false false r.1.length (ab bN r.1),.int .i64 r.2]),none)) ho8 ?_ ?_ ?_
   ·refine⟨v7j1,?_,?_,?_,?_,?_,?_,?_,?_,?_⟩
    all_goals first|rfl|(simp only[bk,seval,-Int.reduceToNat,hr1,Zj1]<;>rfl)
   ·rintro s16b t H e ⟨v7b,Zb⟩ c hh
    simp only[lD]at hh
    try simp only[bk,seval,-Int.reduceToNat,hr1,Zb]
    refine sp aj hh (fun _ hh =>?_) (fun _ hh =>?_)
    ·obtain⟨x10,hx10,hh⟩:=ae hh
     have ax10:=bF aA hx10
     simp only[b6]at ax10
     obtain⟨r11,hr11,hh⟩:=ae hh
     try simp only[bk,seval,-Int.reduceToNat,hr1,Zb,ax10,hr11]
     refine sp aj hh (fun _ hh =>?_) (fun _ hh =>?_)
     ·cases hh
      try simp only[bk,seval,-Int.reduceToNat,hr1,Zb,ax10,hr11]
      refine pc ⟨rfl,?_⟩
      try simp only[bk,seval,-Int.reduceToNat,hr1,Zb,ax10,hr11]
     ·cases hh
      try simp only[bk,seval,-Int.reduceToNat,hr1,Zb,ax10,hr11]
      refine gA ?_
      refine⟨v7b,?_,?_,?_,?_,?_,?_,?_,?_,?_⟩
      all_goals first|rfl|(simp only[bk,seval,-Int.reduceToNat,hr1,Zb,ax10,hr11]<;>rfl)
    ·cases hh
     try simp only[bk,seval,-Int.reduceToNat,hr1,Zb]
     refine iS ?_
     refine⟨rfl,⟨v7b,?_,?_,?_,?_,?_,?_,?_,?_⟩⟩
     all_goals first|rfl|(simp only[bk,seval,-Int.reduceToNat,hr1,Zb]<;>rfl)
   ·rintro x t H e hx
    rcases o8 with _|rb
    ·dsimp only at hx hh
     obtain⟨rfl,⟨v7bx,Zbx⟩⟩:=hx
     obtain⟨r13,hr13,hh⟩:=ae hh
     try simp only[bk,seval,-Int.reduceToNat,hr1,Zbx,hr13]
     refine sp aj hh (fun _ hh =>?_) (fun _ hh =>?_)
     ·cases hh
      try simp only[bk,seval,-Int.reduceToNat,hr1,Zbx,hr13]
     ·try simp only[bk,seval,-Int.reduceToNat,hr1,Zbx,hr13]
      obtain⟨o21,ho21,hh⟩:=ae hh
      refine ax (fun s t H e=>match s with|(s18c,l17c)=>∃v7c:Nat,∃v17c:Nat,t 1=.int .i64 p1∧t 2=.int .i64 p2∧t 3=.int .i64 p3∧t 4=.sl false false p4.length (ab (eI .i64) p4)∧t 5=.sl false false p5.length (ab aR p5)∧t 6=.sl false false p6.length (ab aA p6)∧t 7=.ptr 7 v7c 0∧t 17=.buf 17 v17c 2 0 (l17c).length∧t 18=.int .i64 s18c∧H 7=some ⟨v7c,24,[.sl false false p0.ag.length (ab al p0.ag)],false,false,false⟩∧H 17=some ⟨v17c,74,ab bN l17c,false,true,false⟩) (fun o x t H e=>match o with|l17cx=>x=.exit 2∧∃v17cx:Nat,t 17=.buf 17 v17cx 2 0 (l17cx).length∧H 17=some ⟨v17cx,74,ab bN l17cx,false,true,false⟩) ho21 ?_ ?_ ?_
      ·refine⟨v7bx,e+1,?_,?_,?_,?_,?_,?_,?_,?_,?_,?_,?_⟩
       all_goals first|rfl|(simp only[bk,seval,-Int.reduceToNat,hr1,Zbx,hr13]<;>rfl)
      ·rintro⟨s18c,l17c⟩ t H e ⟨v7c,v17c,Zc⟩ c hh
       simp only[iw]at hh
       try simp only[bk,seval,-Int.reduceToNat,hr1,hr13,Zc]
       refine sp aj hh (fun _ hh =>?_) (fun _ hh =>?_)
       ·obtain⟨x23,hx23,hh⟩:=ae hh
        have ax23:=bF (eI .i64) hx23
        simp only[b6]at ax23
        obtain⟨r24,hr24,hh⟩:=ae hh
        try simp only[bk,seval,-Int.reduceToNat,hr1,hr13,Zc,ax23,hr24]
        refine cf (by kernel_rfl) ?_
        try simp only[bk,seval,-Int.reduceToNat,hr1,hr13,Zc,ax23,hr24]
        refine sp aj hh (fun _ hh =>?_) (fun _ hh =>?_)
        ·have ax23:=bF (eI .i64) hx23
         simp only[b6]at ax23
         obtain⟨x26,hx26,hh⟩:=ae hh
         obtain⟨q27a,q27b,q27c,q27d⟩:=fa bN hx26
         simp only[b6]at q27b
         cases hh
         try simp only[bk,seval,-Int.reduceToNat,hr1,hr13,Zc,ax23,hr24,ax23,q27a,q27b,q27c,q27d]
         refine gA ?_
         refine⟨v7c,e+1+1+1,?_,?_,?_,?_,?_,?_,?_,?_,?_,?_,?_⟩
         all_goals first|rfl|(simp only[bk,seval,-Int.reduceToNat,hr1,hr13,Zc,ax23,hr24,ax23,q27a,q27b,q27c,q27d]<;>rfl)
        ·cases hh
         try simp only[bk,seval,-Int.reduceToNat,hr1,hr13,Zc,ax23,hr24]
         refine gA ?_
         refine⟨v7c,v17c,?_,?_,?_,?_,?_,?_,?_,?_,?_,?_,?_⟩
         all_goals first|rfl|(simp only[bk,seval,-Int.reduceToNat,hr1,hr13,Zc,ax23,hr24]<;>rfl)
       ·cases hh
        try simp only[bk,seval,-Int.reduceToNat,hr1,hr13,Zc]
        refine iS ?_
        refine⟨rfl,⟨v17c,?_,?_⟩⟩
        all_goals first|rfl|(simp only[bk,seval,-Int.reduceToNat,hr1,hr13,Zc]<;>rfl)
      ·rintro x t H e hx
       obtain⟨l17cx,rfl⟩:∃z,z=o21:=⟨_,rfl⟩
       dsimp only at hx hh
       obtain⟨rfl,⟨v17cx,Zcx⟩⟩:=hx
       cases hh
       try simp only[bk,seval,-Int.reduceToNat,hr1,hr13,Zcx]
    ·dsimp only at hx hh
     obtain⟨rfl,hE⟩:=hx
     cases hh
     try simp only[aO,aG,aW,bX,bW]
     exact hE
 ·clear hh
  have hh:=ho2
  try simp only[bk,seval,-Int.reduceToNat,hr1]
  refine sp aB hh (fun _ hh =>?_) (fun _ hh =>?_)
  ·cases hh
   try simp only[bk,seval,-Int.reduceToNat,hr1]
   rw[ak]
   refine⟨_,rfl,?_⟩
   refine⟨0,?_,?_,?_,?_,?_,?_,?_,?_,?_⟩
   all_goals first|rfl|(simp only[bk,seval,-Int.reduceToNat,hr1]<;>rfl)
  ·try simp only[bk,seval,-Int.reduceToNat,hr1]
   refine sp aB hh (fun _ hh =>?_) (fun _ hh =>?_)
   ·cases hh
    try simp only[bk,seval,-Int.reduceToNat,hr1]
    rw[ak]
    refine⟨_,rfl,?_⟩
    refine⟨0,?_,?_,?_,?_,?_,?_,?_,?_,?_⟩
    all_goals first|rfl|(simp only[bk,seval,-Int.reduceToNat,hr1]<;>rfl)
   ·cases hh
    try simp only[bk,seval,-Int.reduceToNat,hr1]
    rw[ak]
    refine⟨_,rfl,?_⟩
    refine⟨0,?_,?_,?_,?_,?_,?_,?_,?_,?_⟩
    all_goals first|rfl|(simp only[bk,seval,-Int.reduceToNat,hr1]<;>rfl)
theorem JN:bE Tryz.prog 14 ui:=bE.of (mode := .clean) tok Jd mixed Tryz.func14 (by kernel_rfl) ⟨by kernel_rfl,by kernel_rfl⟩ (fun _=>Nat.le_of_ble_eq_true (by kernel_rfl)) (fun x r h=>MD x.1 x.2.1 x.2.2.1 x.2.2.2.1 x.2.2.2.2.1 x.2.2.2.2.2.1 x.2.2.2.2.2.2 r h)
noncomputable def pM:=dI (cH (eZ (eI .i64)) (dn (aI .i64))) (fun x:(List Int)×Int=>kG x.1 x.2) (fun r:Bool =>.clean (.bool r))
theorem qB (p0:(List Int)) (p1:Int):pM none [.sl false false p0.length (ab (eI .i64) p0),.int .i64 p1]=(kG p0 p1).map fun r:Bool=>(.clean (.bool r),none):=aC _ _ _ (p0,p1)
theorem MB (p0:(List Int)) (p1:Int) (r:Bool) (hh:kG p0 p1=some r):aM .clean tab aU FU Tryz.f89 none [.sl false false p0.length (ab (eI .i64) p0),.int .i64 p1]=some (.clean (.bool r),none):=by
 refine aq rfl Tryz.ntmps89 Tryz.results89 ?_
 unfold kG at hh
 try simp only[w,seval,-Int.reduceToNat]
 obtain⟨o1,ho1,hh⟩:=ae hh
 refine bA 0 (fun s t H e=>match s with|s22j1=>t 0=.sl false false p0.length (ab (eI .i64) p0)∧t 1=.int .i64 p1∧t 22=.bool s22j1) (fun s=>s=o1) ?_ ?_
 ·rintro s22j1 t H e Zj1 rfl
  try dsimp only at hh
  try simp only[w,seval,-Int.reduceToNat,Zj1]
  refine sp aj hh (fun _ hh =>?_) (fun _ hh =>?_)
  ·cases hh
   try simp only[w,seval,-Int.reduceToNat,Zj1]
  ·try simp only[w,seval,-Int.reduceToNat,Zj1]
   obtain⟨o7,ho7,hh⟩:=ae hh
   refine ax (fun s t H e=>match s with|s5b=>t 0=.sl false false p0.length (ab (eI .i64) p0)∧t 1=.int .i64 p1∧t 5=.int .i64 s5b) (fun o x t H e=>match o with|(.inl _)=>x=.exit 0|(.inr r)=>x=.ret∧eW .clean tab none [.tmp 4] ⟨t,H,e⟩=some (.clean (.bool r),none)) ho7 ?_ ?_ ?_
   ·refine⟨?_,?_,?_⟩
    all_goals first|rfl|(simp only[w,seval,-Int.reduceToNat,Zj1]<;>rfl)
   ·rintro s5b t H e Zb c hh
    simp only[lC]at hh
    try simp only[w,seval,-Int.reduceToNat,Zb]
    refine sp aj hh (fun _ hh =>?_) (fun _ hh =>?_)
    ·obtain⟨x9,hx9,hh⟩:=ae hh
     have ax9:=bF (eI .i64) hx9
     simp only[b6]at ax9
     try simp only[w,seval,-Int.reduceToNat,Zb,ax9]
     refine sp aB hh (fun _ hh =>?_) (fun _ hh =>?_)
     ·cases hh
      try simp only[w,seval,-Int.reduceToNat,Zb,ax9]
      refine pc ⟨rfl,?_⟩
      try simp only[w,seval,-Int.reduceToNat,Zb,ax9]
     ·have ax9:=bF (eI .i64) hx9
      simp only[b6]at ax9
      try simp only[w,seval,-Int.reduceToNat,Zb,ax9,ax9]
      refine sp aj hh (fun _ hh =>?_) (fun _ hh =>?_)
      ·cases hh
       try simp only[w,seval,-Int.reduceToNat,Zb,ax9,ax9]
       refine pc ⟨rfl,?_⟩
       try simp only[w,seval,-Int.reduceToNat,Zb,ax9,ax9]
      ·cases hh
       try simp only[w,seval,-Int.reduceToNat,Zb,ax9,ax9]
       refine gA ?_
       refine⟨?_,?_,?_⟩
       all_goals first|rfl|(simp only[w,seval,-Int.reduceToNat,Zb,ax9,ax9]<;>rfl)
    ·cases hh
     try simp only[w,seval,-Int.reduceToNat,Zb]
     refine iS ?_
     exact rfl
   ·rintro x t H e hx
    rcases o7 with _|rb
    ·dsimp only at hx hh
     subst hx
     cases hh
     try simp only[w,seval,-Int.reduceToNat]
    ·dsimp only at hx hh
     obtain⟨rfl,hE⟩:=hx
     cases hh
     try simp only[aO,aG,aW,bX,bW]
     exact hE
 ·clear hh
  have hh:=ho1
  try simp only[w,seval,-Int.reduceToNat]
  refine sp aB hh (fun _ hh =>?_) (fun _ hh =>?_)
  ·cases hh
   try simp only[w,seval,-Int.reduceToNat]
   rw[ak]
   refine⟨_,rfl,?_⟩
   refine⟨?_,?_,?_⟩
   all_goals first|rfl|(simp only[w,seval,-Int.reduceToNat]<;>rfl)
  ·try simp only[w,seval,-Int.reduceToNat]
   refine sp aB hh (fun _ hh =>?_) (fun _ hh =>?_)
   ·cases hh
    try simp only[w,seval,-Int.reduceToNat]
    rw[ak]
    refine⟨_,rfl,?_⟩
    refine⟨?_,?_,?_⟩
    all_goals first|rfl|(simp only[w,seval,-Int.reduceToNat]<;>rfl)
   ·try simp only[w,seval,-Int.reduceToNat]
    refine sp aB hh (fun _ hh =>?_) (fun _ hh =>?_)
    ·cases hh
     try simp only[w,seval,-Int.reduceToNat]
     rw[ak]
     refine⟨_,rfl,?_⟩
     refine⟨?_,?_,?_⟩
     all_goals first|rfl|(simp only[w,seval,-Int.reduceToNat]<;>rfl)
    ·cases hh
     try simp only[w,seval,-Int.reduceToNat]
     rw[ak]
     refine⟨_,rfl,?_⟩
     refine⟨?_,?_,?_⟩
     all_goals first|rfl|(simp only[w,seval,-Int.reduceToNat]<;>rfl)
theorem za:bE Tryz.prog 89 pM:=bE.of (mode := .clean) tok bK.none mixed Tryz.func89 (by kernel_rfl) ⟨by kernel_rfl,by kernel_rfl⟩ (fun _=>Nat.le_of_ble_eq_true (by kernel_rfl)) (fun x r h=>MB x.1 x.2 r h)
noncomputable def xx:=dI (cH (eZ (iC (eI .i64))) (cH (aI .i64) (dn (aI .i64)))) (fun x:(List (List Int))×Int×Int=>pq x.1 x.2.1 x.2.2) (fun r:(List Int)×Int =>.clean (.tup [.sl false false r.1.length (ab (eI .i64) r.1),.int .i64 r.2]))
theorem EJ (p0:(List (List Int))) (p1:Int) (p2:Int):xx none [.sl false false p0.length (ab (iC (eI .i64)) p0),.int .i64 p1,.int .i64 p2]=(pq p0 p1 p2).map fun r:(List Int)×Int=>(.clean (.tup [.sl false false r.1.length (ab (eI .i64) r.1),.int .i64 r.2]),none):=aC _ _ _ (p0,p1,p2)
noncomputable def sD:Env:=(Am.ext aU 89 false pM)
theorem LN:bK Tryz.prog sD:=(bK.none.add za false)
theorem aX:type_of% (ai @w<|ai @qB<|@sD.eq_1):=⟨@w,@qB,@sD.eq_1⟩
theorem Pd (p0:(List (List Int))) (p1:Int) (p2:Int) (r:(List Int)×Int) (hh:pq p0 p1 p2=some r):aM .clean tab sD FU Tryz.f86 none [.sl false false p0.length (ab (iC (eI .i64)) p0),.int .i64 p1,.int .i64 p2]=some (.clean (.tup [.sl false false r.1.length (ab (eI .i64) r.1),.int .i64 r.2]),none):=by
 refine aq rfl Tryz.ntmps86 Tryz.results86 ?_
 unfold pq at hh
 try simp only[aX,seval,-Int.reduceToNat]
 obtain⟨o1,ho1,hh⟩:=ae hh
 refine bA 0 (fun s t H e=>match s with|s32j1=>t 0=.sl false false p0.length (ab (iC (eI .i64)) p0)∧t 1=.int .i64 p1∧t 2=.int .i64 p2∧t 32=.bool s32j1) (fun s=>s=o1) ?_ ?_
 ·rintro s32j1 t H e Zj1 rfl
  try dsimp only at hh
  try simp only[aX,seval,-Int.reduceToNat,Zj1]
  refine sp aj hh (fun _ hh =>?_) (fun _ hh =>?_)
  ·cases hh
   try simp only[aX,seval,-Int.reduceToNat,Zj1]
  ·try simp only[aX,seval,-Int.reduceToNat,Zj1]
   obtain⟨o8,ho8,hh⟩:=ae hh
   refine ax (fun s t H e=>match s with|s8b=>t 0=.sl false false p0.length (ab (iC (eI .i64)) p0)∧t 1=.int .i64 p1∧t 2=.int .i64 p2∧t 8=.int .i64 s8b) (fun o x t H e=>match o with|(.inl _)=>x=.exit 0∧t 0=.sl false false p0.length (ab (iC (eI .i64)) p0)∧t 1=.int .i64 p1∧t 2=.int .i64 p2|(.inr r)=>x=.ret∧eW .clean tab none [.tmp 6,.tmp 7] ⟨t,H,e⟩=some (.clean (.tup [.sl false false r.1.length (ab (eI .i64) r.1),.int .i64 r.2]),none)) ho8 ?_ ?_ ?_
   ·refine⟨?_,?_,?_,?_⟩
    all_goals first|rfl|(simp only[aX,seval,-Int.reduceToNat,Zj1]<;>rfl)
   ·rintro s8b t H e Zb c hh
    simp only[nn]at hh
    try simp only[aX,seval,-Int.reduceToNat,Zb]
    refine sp aj hh (fun _ hh =>?_) (fun _ hh =>?_)
    ·obtain⟨x10,hx10,hh⟩:=ae hh
     have ax10:=bF (iC (eI .i64)) hx10
     simp only[b6]at ax10
     obtain⟨r11,hr11,hh⟩:=ae hh
     try simp only[aX,seval,-Int.reduceToNat,Zb,ax10,hr11]
     refine sp aB hh (fun _ hh =>?_) (fun _ hh =>?_)
     ·cases hh
      try simp only[aX,seval,-Int.reduceToNat,Zb,ax10,hr11]
      refine pc ⟨rfl,?_⟩
      try simp only[aX,seval,-Int.reduceToNat,Zb,ax10,hr11]
     ·have ax10:=bF (iC (eI .i64)) hx10
      simp only[b6]at ax10
      try simp only[aX,seval,-Int.reduceToNat,Zb,ax10,hr11,ax10]
      refine sp aj hh (fun _ hh =>?_) (fun _ hh =>?_)
      ·cases hh
       try simp only[aX,seval,-Int.reduceToNat,Zb,ax10,hr11,ax10]
       refine pc ⟨rfl,?_⟩
       try simp only[aX,seval,-Int.reduceToNat,Zb,ax10,hr11,ax10]
      ·cases hh
       try simp only[aX,seval,-Int.reduceToNat,Zb,ax10,hr11,ax10]
       refine gA ?_
       refine⟨?_,?_,?_,?_⟩
       all_goals first|rfl|(simp only[aX,seval,-Int.reduceToNat,Zb,ax10,hr11,ax10]<;>rfl)
    ·cases hh
     try simp only[aX,seval,-Int.reduceToNat,Zb]
     refine iS ?_
     refine⟨rfl,⟨?_,?_,?_⟩⟩
     all_goals first|rfl|(simp only[aX,seval,-Int.reduceToNat,Zb]<;>rfl)
   ·rintro x t H e hx
    rcases o8 with _|rb
    ·dsimp only at hx hh
     obtain⟨rfl,Zbx⟩:=hx
     try simp only[aX,seval,-Int.reduceToNat,Zbx]
     obtain⟨o28,ho28,hh⟩:=ae hh
     refine ax (fun s t H e=>match s with|(s10c,l9c)=>∃v9c:Nat,t 0=.sl false false p0.length (ab (iC (eI .i64)) p0)∧t 1=.int .i64 p1∧t 2=.int .i64 p2∧t 9=.buf 9 v9c 1 0 (l9c).length∧t 10=.int .i64 s10c∧H 9=some ⟨v9c,3,ab (eI .i64) l9c,false,true,false⟩) (fun o x t H e=>match o with|l9cx=>x=.exit 2∧∃v9cx:Nat,t 9=.buf 9 v9cx 1 0 (l9cx).length∧H 9=some ⟨v9cx,3,ab (eI .i64) l9cx,false,true,false⟩) ho28 ?_ ?_ ?_
     ·refine⟨e,?_,?_,?_,?_,?_,?_⟩
      all_goals first|rfl|(simp only[aX,seval,-Int.reduceToNat,Zbx]<;>rfl)
     ·rintro⟨s10c,l9c⟩ t H e ⟨v9c,Zc⟩ c hh
      simp only[kH]at hh
      try simp only[aX,seval,-Int.reduceToNat,Zc]
      refine sp aj hh (fun _ hh =>?_) (fun _ hh =>?_)
      ·try simp only[aX,seval,-Int.reduceToNat,Zc]
       obtain⟨o35,ho35,hh⟩:=ae hh
       refine ax (fun s t H e=>match s with|(s11e,s12e)=>∃v9e:Nat,t 0=.sl false false p0.length (ab (iC (eI .i64)) p0)∧t 1=.int .i64 p1∧t 2=.int .i64 p2∧t 9=.buf 9 v9e 1 0 (l9c).length∧t 10=.int .i64 s10c∧t 11=.int .i64 s11e∧t 12=.int .i64 s12e∧H 9=some ⟨v9e,3,ab (eI .i64) l9c,false,true,false⟩) (fun o x t H e=>match o with|s11ex=>x=.exit 4∧∃v9ex:Nat,t 0=.sl false false p0.length (ab (iC (eI .i64)) p0)∧t 1=.int .i64 p1∧t 2=.int .i64 p2∧t 9=.buf 9 v9ex 1 0 (l9c).length∧t 10=.int .i64 s10c∧t 11=.int .i64 s11ex∧H 9=some ⟨v9ex,3,ab (eI .i64) l9c,false,true,false⟩) ho35 ?_ ?_ ?_
       ·refine⟨v9c,?_,?_,?_,?_,?_,?_,?_,?_⟩
        all_goals first|rfl|(simp only[aX,seval,-Int.reduceToNat,Zc]<;>rfl)
       ·rintro⟨s11e,s12e⟩ t H e ⟨v9e,Ze⟩ c hh
        simp only[kI]at hh
        try simp only[aX,seval,-Int.reduceToNat,Ze]
        refine sp aj hh (fun _ hh =>?_) (fun _ hh =>?_)
        ·obtain⟨x37,hx37,hh⟩:=ae hh
         have ax37:=bF (iC (eI .i64)) hx37
         simp only[b6]at ax37
         obtain⟨x38,hx38,hh⟩:=ae hh
         have ax38:=bF (eI .i64) hx38
         simp only[b6]at ax38
         obtain⟨x39,hx39,hh⟩:=ae hh
         have q40:=qo hx39
         cases hh
         try simp only[aX,seval,-Int.reduceToNat,Ze,ax37,ax38,q40]
         refine gA ?_
         refine⟨v9e,?_,?_,?_,?_,?_,?_,?_,?_⟩
         all_goals first|rfl|(simp only[aX,seval,-Int.reduceToNat,Ze,ax37,ax38,q40]<;>rfl)
        ·cases hh
         try simp only[aX,seval,-Int.reduceToNat,Ze]
         refine iS ?_
         refine⟨rfl,⟨v9e,?_,?_,?_,?_,?_,?_,?_⟩⟩
         all_goals first|rfl|(simp only[aX,seval,-Int.reduceToNat,Ze]<;>rfl)
       ·rintro x t H e hx
        obtain⟨s11ex,rfl⟩:∃z,z=o35:=⟨_,rfl⟩
        dsimp only at hx hh
        obtain⟨rfl,⟨v9ex,Zex⟩⟩:=hx
        obtain⟨x41,hx41,hh⟩:=ae hh
        obtain⟨q42a,q42b,q42c,q42d⟩:=fa (eI .i64) hx41
        simp only[b6]at q42b
        cases hh
        try simp only[aX,seval,-Int.reduceToNat,Zex,q42a,q42b,q42c,q42d]
        refine gA ?_
        refine⟨e,?_,?_,?_,?_,?_,?_⟩
        all_goals first|rfl|(simp only[aX,seval,-Int.reduceToNat,Zex,q42a,q42b,q42c,q42d]<;>rfl)
      ·cases hh
       try simp only[aX,seval,-Int.reduceToNat,Zc]
       refine iS ?_
       refine⟨rfl,⟨v9c,?_,?_⟩⟩
       all_goals first|rfl|(simp only[aX,seval,-Int.reduceToNat,Zc]<;>rfl)
     ·rintro x t H e hx
      obtain⟨l9cx,rfl⟩:∃z,z=o28:=⟨_,rfl⟩
      dsimp only at hx hh
      obtain⟨rfl,⟨v9cx,Zcx⟩⟩:=hx
      cases hh
      try simp only[aX,seval,-Int.reduceToNat,Zcx]
    ·dsimp only at hx hh
     obtain⟨rfl,hE⟩:=hx
     cases hh
     try simp only[aO,aG,aW,bX,bW]
     exact hE
 ·clear hh
  have hh:=ho1
  try simp only[aX,seval,-Int.reduceToNat]
  refine sp aB hh (fun _ hh =>?_) (fun _ hh =>?_)
  ·cases hh
   try simp only[aX,seval,-Int.reduceToNat]
   rw[ak]
   refine⟨_,rfl,?_⟩
   refine⟨?_,?_,?_,?_⟩
   all_goals first|rfl|(simp only[aX,seval,-Int.reduceToNat]<;>rfl)
  ·try simp only[aX,seval,-Int.reduceToNat]
   refine sp aB hh (fun _ hh =>?_) (fun _ hh =>?_)
   ·cases hh
    try simp only[aX,seval,-Int.reduceToNat]
    rw[ak]
    refine⟨_,rfl,?_⟩
    refine⟨?_,?_,?_,?_⟩
    all_goals first|rfl|(simp only[aX,seval,-Int.reduceToNat]<;>rfl)
   ·try simp only[aX,seval,-Int.reduceToNat]
    refine sp aB hh (fun _ hh =>?_) (fun _ hh =>?_)
    ·cases hh
     try simp only[aX,seval,-Int.reduceToNat]
     rw[ak]
     refine⟨_,rfl,?_⟩
     refine⟨?_,?_,?_,?_⟩
     all_goals first|rfl|(simp only[aX,seval,-Int.reduceToNat]<;>rfl)
    ·try simp only[aX,seval,-Int.reduceToNat]
     refine sp aB hh (fun _ hh =>?_) (fun _ hh =>?_)
     ·cases hh
      try simp only[aX,seval,-Int.reduceToNat]
      rw[ak]
      refine⟨_,rfl,?_⟩
      refine⟨?_,?_,?_,?_⟩
      all_goals first|rfl|(simp only[aX,seval,-Int.reduceToNat]<;>rfl)
     ·cases hh
      try simp only[aX,seval,-Int.reduceToNat]
      rw[ak]
      refine⟨_,rfl,?_⟩
      refine⟨?_,?_,?_,?_⟩
      all_goals first|rfl|(simp only[aX,seval,-Int.reduceToNat]<;>rfl)
theorem Nd:bE Tryz.prog 86 xx:=bE.of (mode := .clean) tok LN mixed Tryz.func86 (by kernel_rfl) ⟨by kernel_rfl,by kernel_rfl⟩ (fun _=>Nat.le_of_ble_eq_true (by kernel_rfl)) (fun x r h=>Pd x.1 x.2.1 x.2.2 r h)
noncomputable def nK:=dI (dn (aI .i64)) (fun x:Int=>kc x) (fun r:ByteArray =>.clean (.str r))
theorem oo (p0:Int):nK none [.int .i64 p0]=(kc p0).map fun r:ByteArray=>(.clean (.str r),none):=aC _ _ _ p0
theorem wW:bE Tryz.prog 158 nK:=Sr
noncomputable def zI:=dI (dn (aI .i64)) (fun x:Int=>sV x) (fun r:ByteArray =>.clean (.str r))
theorem HV (p0:Int):zI none [.int .i64 p0]=(sV p0).map fun r:ByteArray=>(.clean (.str r),none):=aC _ _ _ (p0)
noncomputable def vM:Env:=(Am.ext aU 158 false nK)
theorem OH:bK Tryz.prog vM:=(bK.none.add wW false)
theorem AM:type_of% (ai @w<|ai @oo<|@vM.eq_1):=⟨@w,@oo,@vM.eq_1⟩
theorem SR (p0:Int) (r:ByteArray) (hh:sV p0=some r):aM .clean tab vM FU Tryz.f159 none [.int .i64 p0]=some (.clean (.str r),none):=by
 refine aq rfl Tryz.ntmps159 Tryz.results159 ?_
 unfold sV at hh
 try simp only[AM,seval,-Int.reduceToNat]
 refine sp aj hh (fun _ hh =>?_) (fun _ hh =>?_)
 ·obtain⟨r2,hr2,hh⟩:=ae hh
  obtain⟨x3,hx3,hh⟩:=ae hh
  have q4:=vx hx3
  obtain⟨x5,hx5,hh⟩:=ae hh
  have q6:=vx hx5
  cases hh
  try simp only[AM,seval,-Int.reduceToNat,hr2,q4,q6]
 ·obtain⟨r7,hr7,hh⟩:=ae hh
  obtain⟨x8,hx8,hh⟩:=ae hh
  have q9:=vx hx8
  cases hh
  try simp only[AM,seval,-Int.reduceToNat,hr7,q9]
theorem Pq:bE Tryz.prog 159 zI:=bE.of (mode := .clean) tok OH mixed Tryz.func159 (by kernel_rfl) ⟨by kernel_rfl,by kernel_rfl⟩ (fun _=>Nat.le_of_ble_eq_true (by kernel_rfl)) (fun x r h=>SR x r h)
noncomputable def xq:=dI (dn (eZ (eI .i64))) (fun x:(List Int)=>rE x) (fun r:ByteArray =>.clean (.str r))
theorem EE (p0:(List Int)):xq none [.sl false false p0.length (ab (eI .i64) p0)]=(rE p0).map fun r:ByteArray=>(.clean (.str r),none):=aC _ _ _ (p0)
noncomputable def ss:Env:=(Am.ext (Am.ext aU 158 false nK) 159 false zI)
theorem LA:bK Tryz.prog ss:=((bK.none.add wW false).add Pq false)
theorem jn:type_of% (ai @w<|ai @oo<|ai @HV<|@ss.eq_1):=⟨@w,@oo,@HV,@ss.eq_1⟩
theorem O2 (p0:(List Int)) (r:ByteArray) (hh:rE p0=some r):aM .clean tab ss FU Tryz.f119 none [.sl false false p0.length (ab (eI .i64) p0)]=some (.clean (.str r),none):=by
 refine aq rfl Tryz.ntmps119 Tryz.results119 ?_
 unfold rE at hh
 obtain⟨r1,hr1,hh⟩:=ae hh
 obtain⟨x2,hx2,hh⟩:=ae hh
 have q3:=vx hx2
 try simp only[jn,seval,-Int.reduceToNat,hr1,q3]
 obtain⟨o9,ho9,hh⟩:=ae hh
 refine ax (fun s t H e=>match s with|(s3a,s4a)=>t 0=.sl false false p0.length (ab (eI .i64) p0)∧t 3=.str s3a∧t 4=.int .i64 s4a) (fun o x t H e=>match o with|s3ax=>x=.exit 0∧t 3=.str s3ax) ho9 ?_ ?_ ?_
 ·refine⟨?_,?_,?_⟩
  all_goals first|rfl|(simp only[jn,seval,-Int.reduceToNat,hr1,q3]<;>rfl)
 ·rintro⟨s3a,s4a⟩ t H e Za c hh
  simp only[kA]at hh
  try simp only[jn,seval,-Int.reduceToNat,hr1,q3,Za]
  refine sp aj hh (fun _ hh =>?_) (fun _ hh =>?_)
  ·obtain⟨x11,hx11,hh⟩:=ae hh
   have ax11:=bF (eI .i64) hx11
   simp only[b6]at ax11
   obtain⟨r12,hr12,hh⟩:=ae hh
   obtain⟨x13,hx13,hh⟩:=ae hh
   have q14:=vx hx13
   cases hh
   try simp only[jn,seval,-Int.reduceToNat,hr1,q3,Za,ax11,hr12,q14]
   refine gA ?_
   refine⟨?_,?_,?_⟩
   all_goals first|rfl|(simp only[jn,seval,-Int.reduceToNat,hr1,q3,Za,ax11,hr12,q14]<;>rfl)
  ·cases hh
   try simp only[jn,seval,-Int.reduceToNat,hr1,q3,Za]
   refine iS ?_
   refine⟨rfl,?_⟩
   all_goals first|rfl|(simp only[jn,seval,-Int.reduceToNat,hr1,q3,Za]<;>rfl)
 ·rintro x t H e hx
  obtain⟨s3ax,rfl⟩:∃z,z=o9:=⟨_,rfl⟩
  dsimp only at hx hh
  obtain⟨rfl,Zax⟩:=hx
  obtain⟨x15,hx15,hh⟩:=ae hh
  have q16:=vx hx15
  cases hh
  try simp only[jn,seval,-Int.reduceToNat,hr1,q3,Zax,q16]
theorem M7:bE Tryz.prog 119 xq:=bE.of (mode := .clean) tok LA mixed Tryz.func119 (by kernel_rfl) ⟨by kernel_rfl,by kernel_rfl⟩ (fun _=>Nat.le_of_ble_eq_true (by kernel_rfl)) (fun x r h=>O2 x r h)
noncomputable def xy:=dI (dn (eZ (eI .i64))) (fun x:(List Int)=>pr x) (fun r:ByteArray =>.clean (.str r))
theorem EK (p0:(List Int)):xy none [.sl false false p0.length (ab (eI .i64) p0)]=(pr p0).map fun r:ByteArray=>(.clean (.str r),none):=aC _ _ _ (p0)
noncomputable def sE:Env:=(Am.ext aU 119 false xq)
theorem LO:bK Tryz.prog sE:=(bK.none.add M7 false)
theorem Qi:type_of% (ai @w<|ai @EE<|@sE.eq_1):=⟨@w,@EE,@sE.eq_1⟩
theorem Pe (p0:(List Int)) (r:ByteArray) (hh:pr p0=some r):aM .clean tab sE FU Tryz.f88 none [.sl false false p0.length (ab (eI .i64) p0)]=some (.clean (.str r),none):=by
 refine aq rfl Tryz.ntmps88 Tryz.results88 ?_
 unfold pr at hh
 obtain⟨r1,hr1,hh⟩:=ae hh
 cases hh
 try simp only[Qi,seval,-Int.reduceToNat,hr1]
theorem Nf:bE Tryz.prog 88 xy:=bE.of (mode := .clean) tok LO mixed Tryz.func88 (by kernel_rfl) ⟨by kernel_rfl,by kernel_rfl⟩ (fun _=>Nat.le_of_ble_eq_true (by kernel_rfl)) (fun x r h=>Pe x r h)
noncomputable def xw:=dI (cH (cI di) (cH (eZ (eI .i64)) (cH (eZ (iC (eI .i64))) (cH (eZ (eI .i64)) (cH (aI .i64) (dn (aI .i64))))))) (fun x:au×(List Int)×(List (List Int))×(List Int)×Int×Int=>po x.1 x.2.1 x.2.2.1 x.2.2.2.1 x.2.2.2.2.1 x.2.2.2.2.2) (fun r:(List Int)×Int =>.clean (.tup [.sl false false r.1.length (ab (eI .i64) r.1),.int .i64 r.2]))
theorem EI (p0_0:(List av)) (p1:(List Int)) (p2:(List (List Int))) (p3:(List Int)) (p4:Int) (p5:Int):xw none [.agg [.sl false false p0_0.length (ab al p0_0)],.sl false false p1.length (ab (eI .i64) p1),.sl false false p2.length (ab (iC (eI .i64)) p2),.sl false false p3.length (ab (eI .i64) p3),.int .i64 p4,.int .i64 p5]=(po (au.mk p0_0) p1 p2 p3 p4 p5).map fun r:(List Int)×Int=>(.clean (.tup [.sl false false r.1.length (ab (eI .i64) r.1),.int .i64 r.2]),none):=aC _ _ _ ((au.mk p0_0),p1,p2,p3,p4,p5)
noncomputable def sC:Env:=(Am.ext (Am.ext (Am.ext aU 86 false xx) 87 false pL) 88 false xy)
theorem LM:bK Tryz.prog sC:=(((bK.none.add Nd false).add y9 false).add Nf false)
theorem bc:type_of% (ai @w<|ai @EJ<|ai @qA<|ai @EK<|@sC.eq_1):=⟨@w,@EJ,@qA,@EK,@sC.eq_1⟩
theorem Pc (p0:au) (p1:(List Int)) (p2:(List (List Int))) (p3:(List Int)) (p4:Int) (p5:Int) (r:(List Int)×Int) (hh:po p0 p1 p2 p3 p4 p5=some r):aM .clean tab sC FU Tryz.f49 none [.agg [.sl false false p0.ag.length (ab al p0.ag)],.sl false false p1.length (ab (eI .i64) p1),.sl false false p2.length (ab (iC (eI .i64)) p2),.sl false false p3.length (ab (eI .i64) p3),.int .i64 p4,.int .i64 p5]=some (.clean (.tup [.sl false false r.1.length (ab (eI .i64) r.1),.int .i64 r.2]),none):=by
 refine aq rfl Tryz.ntmps49 Tryz.results49 ?_
 unfold po at hh
 obtain⟨r1,hr1,hh⟩:=ae hh
 try simp only[bc,seval,-Int.reduceToNat,hr1]
 refine sp aj hh (fun _ hh =>?_) (fun _ hh =>?_)
 ·cases hh
  try simp only[bc,seval,-Int.reduceToNat,hr1]
 ·try simp only[bc,seval,-Int.reduceToNat,hr1]
  obtain⟨o3,ho3,hh⟩:=ae hh
  refine bA 0 (fun s t H e=>match s with|s40j1=>∃v6j1:Nat,t 1=.sl false false p1.length (ab (eI .i64) p1)∧t 2=.sl false false p2.length (ab (iC (eI .i64)) p2)∧t 3=.sl false false p3.length (ab (eI .i64) p3)∧t 6=.ptr 6 v6j1 0∧t 14=.sl false false r1.1.length (ab (eI .i64) r1.1)∧t 40=.bool s40j1∧H 6=some ⟨v6j1,24,[.sl false false p0.ag.length (ab al p0.ag)],false,false,false⟩) (fun s=>s=o3) ?_ ?_
  ·rintro s40j1 t H e ⟨v6j1,Zj1⟩ rfl
   try dsimp only at hh
   try simp only[bc,seval,-Int.reduceToNat,hr1,Zj1]
   refine sp aj hh (fun _ hh =>?_) (fun _ hh =>?_)
   ·cases hh
    try simp only[bc,seval,-Int.reduceToNat,hr1,Zj1]
   ·try simp only[bc,seval,-Int.reduceToNat,hr1,Zj1]
    obtain⟨o15,ho15,hh⟩:=ae hh
    refine ax (fun s t H e=>match s with|s16b=>∃v6b:Nat,t 1=.sl false false p1.length (ab (eI .i64) p1)∧t 2=.sl false false p2.length (ab (iC (eI .i64)) p2)∧t 3=.sl false false p3.length (ab (eI .i64) p3)∧t 6=.ptr 6 v6b 0∧t 14=.sl false false r1.1.length (ab (eI .i64) r1.1)∧t 16=.int .i64 s16b∧H 6=some ⟨v6b,24,[.sl false false p0.ag.length (ab al p0.ag)],false,false,false⟩) (fun o x t H e=>match o with|(.inl _)=>x=.exit 0∧∃v6bx:Nat,t 1=.sl false false p1.length (ab (eI .i64) p1)∧t 2=.sl false false p2.length (ab (iC (eI .i64)) p2)∧t 3=.sl false false p3.length (ab (eI .i64) p3)∧t 6=.ptr 6 v6bx 0∧t 14=.sl false false r1.1.length (ab (eI .i64) r1.1)∧H 6=some ⟨v6bx,24,[.sl false false p0.ag.length (ab al p0.ag)],false,false,false⟩|(.inr r)=>x=.ret∧eW .clean tab none [.tmp 12,.tmp 13] ⟨t,H,e⟩=some (.clean (.tup [.sl false false r.1.length (ab (eI .i64) r.1),.int .i64 r.2]),none)) ho15 ?_ ?_ ?_
    ·refine⟨v6j1,?_,?_,?_,?_,?_,?_,?_⟩
     all_goals first|rfl|(simp only[bc,seval,-Int.reduceToNat,hr1,Zj1]<;>rfl)
    ·rintro s16b t H e ⟨v6b,Zb⟩ c hh
     simp only[nh]at hh
     try simp only[bc,seval,-Int.reduceToNat,hr1,Zb]
     refine sp aj hh (fun _ hh =>?_) (fun _ hh =>?_)
     ·try simp only[bc,seval,-Int.reduceToNat,hr1,Zb]
      obtain⟨o21,ho21,hh⟩:=ae hh
      refine ax (fun s t H e=>match s with|s17d=>∃v6d:Nat,t 1=.sl false false p1.length (ab (eI .i64) p1)∧t 2=.sl false false p2.length (ab (iC (eI .i64)) p2)∧t 3=.sl false false p3.length (ab (eI .i64) p3)∧t 6=.ptr 6 v6d 0∧t 14=.sl false false r1.1.length (ab (eI .i64) r1.1)∧t 16=.int .i64 s16b∧t 17=.int .i64 s17d∧H 6=some ⟨v6d,24,[.sl false false p0.ag.length (ab al p0.ag)],false,false,false⟩) (fun o x t H e=>match o with|(.inl _)=>x=.exit 2∧∃v6dx:Nat,t 1=.sl false false p1.length (ab (eI .i64) p1)∧t 2=.sl false false p2.length (ab (iC (eI .i64)) p2)∧t 3=.sl false false p3.length (ab (eI .i64) p3)∧t 6=.ptr 6 v6dx 0∧t 14=.sl false false r1.1.length (ab (eI .i64) r1.1)∧t 16=.int .i64 s16b∧H 6=some ⟨v6dx,24,[.sl false false p0.ag.length (ab al p0.ag)],false,false,false⟩|(.inr r)=>x=.ret∧eW .clean tab none [.tmp 12,.tmp 13] ⟨t,H,e⟩=some (.clean (.tup [.sl false false r.1.length (ab (eI .i64) r.1),.int .i64 r.2]),none)) ho21 ?_ ?_ ?_
      ·refine⟨v6b,?_,?_,?_,?_,?_,?_,?_,?_⟩
       all_goals first|rfl|(simp only[bc,seval,-Int.reduceToNat,hr1,Zb]<;>rfl)
      ·rintro s17d t H e ⟨v6d,Zd⟩ c hh
       simp only[kF]at hh
       try simp only[bc,seval,-Int.reduceToNat,hr1,Zd]
       refine sp aj hh (fun _ hh =>?_) (fun _ hh =>?_)
       ·obtain⟨x23,hx23,hh⟩:=ae hh
        have ax23:=bF (eI .i64) hx23
        simp only[b6]at ax23
        obtain⟨x24,hx24,hh⟩:=ae hh
        have ax24:=bF (eI .i64) hx24
        simp only[b6]at ax24
        try simp only[bc,seval,-Int.reduceToNat,hr1,Zd,ax23,ax24]
        refine cf (by kernel_rfl) ?_
        try simp only[bc,seval,-Int.reduceToNat,hr1,Zd,ax23,ax24]
        refine sp aj hh (fun _ hh =>?_) (fun _ hh =>?_)
        ·cases hh
         try simp only[bc,seval,-Int.reduceToNat,hr1,Zd,ax23,ax24]
         refine pc ⟨rfl,?_⟩
         try simp only[bc,seval,-Int.reduceToNat,hr1,Zd,ax23,ax24]
        ·cases hh
         try simp only[bc,seval,-Int.reduceToNat,hr1,Zd,ax23,ax24]
         refine gA ?_
         refine⟨v6d,?_,?_,?_,?_,?_,?_,?_,?_⟩
         all_goals first|rfl|(simp only[bc,seval,-Int.reduceToNat,hr1,Zd,ax23,ax24]<;>rfl)
       ·cases hh
        try simp only[bc,seval,-Int.reduceToNat,hr1,Zd]
        refine iS ?_
        refine⟨rfl,⟨v6d,?_,?_,?_,?_,?_,?_,?_⟩⟩
        all_goals first|rfl|(simp only[bc,seval,-Int.reduceToNat,hr1,Zd]<;>rfl)
      ·rintro x t H e hx
       rcases o21 with _|rd
       ·dsimp only at hx hh
        obtain⟨rfl,⟨v6dx,Zdx⟩⟩:=hx
        cases hh
        try simp only[bc,seval,-Int.reduceToNat,hr1,Zdx]
        refine gA ?_
        refine⟨v6dx,?_,?_,?_,?_,?_,?_,?_⟩
        all_goals first|rfl|(simp only[bc,seval,-Int.reduceToNat,hr1,Zdx]<;>rfl)
       ·dsimp only at hx hh
        obtain⟨rfl,hE⟩:=hx
        cases hh
        try simp only[aO,aG,aW,bX,bW]
        refine pc ?_
        first|exact⟨rfl,hE⟩|(simp only[bc,seval,-Int.reduceToNat]at hE;exact⟨rfl,hE⟩)
     ·cases hh
      try simp only[bc,seval,-Int.reduceToNat,hr1,Zb]
      refine iS ?_
      refine⟨rfl,⟨v6b,?_,?_,?_,?_,?_,?_⟩⟩
      all_goals first|rfl|(simp only[bc,seval,-Int.reduceToNat,hr1,Zb]<;>rfl)
    ·rintro x t H e hx
     rcases o15 with _|rb
     ·dsimp only at hx hh
      obtain⟨rfl,⟨v6bx,Zbx⟩⟩:=hx
      try simp only[bc,seval,-Int.reduceToNat,hr1,Zbx]
      obtain⟨o33,ho33,hh⟩:=ae hh
      refine ax (fun s t H e=>match s with|s18e=>∃v6e:Nat,t 1=.sl false false p1.length (ab (eI .i64) p1)∧t 2=.sl false false p2.length (ab (iC (eI .i64)) p2)∧t 3=.sl false false p3.length (ab (eI .i64) p3)∧t 6=.ptr 6 v6e 0∧t 14=.sl false false r1.1.length (ab (eI .i64) r1.1)∧t 18=.int .i64 s18e∧H 6=some ⟨v6e,24,[.sl false false p0.ag.length (ab al p0.ag)],false,false,false⟩) (fun o x t H e=>match o with|(.inl _)=>x=.exit 4∧t 14=.sl false false r1.1.length (ab (eI .i64) r1.1)|(.inr r)=>x=.ret∧eW .clean tab none [.tmp 12,.tmp 13] ⟨t,H,e⟩=some (.clean (.tup [.sl false false r.1.length (ab (eI .i64) r.1),.int .i64 r.2]),none)) ho33 ?_ ?_ ?_
      ·refine⟨v6bx,?_,?_,?_,?_,?_,?_,?_⟩
       all_goals first|rfl|(simp only[bc,seval,-Int.reduceToNat,hr1,Zbx]<;>rfl)
      ·rintro s18e t H e ⟨v6e,Ze⟩ c hh
       simp only[nk]at hh
       try simp only[bc,seval,-Int.reduceToNat,hr1,Ze]
       refine sp aj hh (fun _ hh =>?_) (fun _ hh =>?_)
       ·obtain⟨x35,hx35,hh⟩:=ae hh
        have ax35:=bF (eI .i64) hx35
        simp only[b6]at ax35
        obtain⟨x36,hx36,hh⟩:=ae hh
        have ax36:=bF (iC (eI .i64)) hx36
        simp only[b6]at ax36
        obtain⟨r37,hr37,hh⟩:=ae hh
        obtain⟨x38,hx38,hh⟩:=ae hh
        have ax38:=bF (eI .i64) hx38
        simp only[b6]at ax38
        obtain⟨r39,hr39,hh⟩:=ae hh
        try simp only[bc,seval,-Int.reduceToNat,hr1,Ze,ax35,ax36,hr37,ax38,hr39]
        refine cf (by kernel_rfl) ?_
        try simp only[bc,seval,-Int.reduceToNat,hr1,Ze,ax35,ax36,hr37,ax38,hr39]
        refine sp aj hh (fun _ hh =>?_) (fun _ hh =>?_)
        ·cases hh
         try simp only[bc,seval,-Int.reduceToNat,hr1,Ze,ax35,ax36,hr37,ax38,hr39]
         refine pc ⟨rfl,?_⟩
         try simp only[bc,seval,-Int.reduceToNat,hr1,Ze,ax35,ax36,hr37,ax38,hr39]
        ·cases hh
         try simp only[bc,seval,-Int.reduceToNat,hr1,Ze,ax35,ax36,hr37,ax38,hr39]
         refine gA ?_
         refine⟨v6e,?_,?_,?_,?_,?_,?_,?_⟩
         all_goals first|rfl|(simp only[bc,seval,-Int.reduceToNat,hr1,Ze,ax35,ax36,hr37,ax38,hr39]<;>rfl)
       ·cases hh
        try simp only[bc,seval,-Int.reduceToNat,hr1,Ze]
        refine iS ?_
        refine⟨rfl,?_⟩
        all_goals first|rfl|(simp only[bc,seval,-Int.reduceToNat,hr1,Ze]<;>rfl)
      ·rintro x t H e hx
       rcases o33 with _|re
       ·dsimp only at hx hh
        obtain⟨rfl,Zex⟩:=hx
        cases hh
        try simp only[bc,seval,-Int.reduceToNat,hr1,Zex]
       ·dsimp only at hx hh
        obtain⟨rfl,hE⟩:=hx
        cases hh
        try simp only[aO,aG,aW,bX,bW]
        exact hE
     ·dsimp only at hx hh
      obtain⟨rfl,hE⟩:=hx
      cases hh
      try simp only[aO,aG,aW,bX,bW]
      exact hE
  ·clear hh
   have hh:=ho3
   try simp only[bc,seval,-Int.reduceToNat,hr1]
   refine sp aB hh (fun _ hh =>?_) (fun _ hh =>?_)
   ·cases hh
    try simp only[bc,seval,-Int.reduceToNat,hr1]
    rw[ak]
    refine⟨_,rfl,?_⟩
    refine⟨0,?_,?_,?_,?_,?_,?_,?_⟩
    all_goals first|rfl|(simp only[bc,seval,-Int.reduceToNat,hr1]<;>rfl)
   ·cases hh
    try simp only[bc,seval,-Int.reduceToNat,hr1]
    rw[ak]
    refine⟨_,rfl,?_⟩
    refine⟨0,?_,?_,?_,?_,?_,?_,?_⟩
    all_goals first|rfl|(simp only[bc,seval,-Int.reduceToNat,hr1]<;>rfl)
theorem Nc:bE Tryz.prog 49 xw:=bE.of (mode := .clean) tok LM mixed Tryz.func49 (by kernel_rfl) ⟨by kernel_rfl,by kernel_rfl⟩ (fun _=>Nat.le_of_ble_eq_true (by kernel_rfl)) (fun x r h=>Pc x.1 x.2.1 x.2.2.1 x.2.2.2.1 x.2.2.2.2.1 x.2.2.2.2.2 r h)
noncomputable def zS:=dI (cH (eZ (eI .i64)) (dn (aI .i64))) (fun x:(List Int)×Int=>s8 x.1 x.2) (fun r:Int =>.clean (.int .i64 r))
theorem H6 (p0:(List Int)) (p1:Int):zS none [.sl false false p0.length (ab (eI .i64) p0),.int .i64 p1]=(s8 p0 p1).map fun r:Int=>(.clean (.int .i64 r),none):=aC _ _ _ (p0,p1)
theorem S4 (p0:(List Int)) (p1:Int) (r:Int) (hh:s8 p0 p1=some r):aM .clean tab aU FU Tryz.f90 none [.sl false false p0.length (ab (eI .i64) p0),.int .i64 p1]=some (.clean (.int .i64 r),none):=by
 refine aq rfl Tryz.ntmps90 Tryz.results90 ?_
 unfold s8 at hh
 try simp only[w,seval,-Int.reduceToNat]
 obtain⟨o9,ho9,hh⟩:=ae hh
 refine ax (fun s t H e=>match s with|s5a=>t 0=.sl false false p0.length (ab (eI .i64) p0)∧t 1=.int .i64 p1∧t 5=.int .i64 s5a) (fun o x t H e=>match o with|r=>x=.ret∧eW .clean tab none [.tmp 4] ⟨t,H,e⟩=some (.clean (.int .i64 r),none)) ho9 ?_ ?_ ?_
 ·refine⟨?_,?_,?_⟩
  all_goals first|rfl|(simp only[w,seval,-Int.reduceToNat]<;>rfl)
 ·rintro s5a t H e Za c hh
  simp only[s9]at hh
  try simp only[w,seval,-Int.reduceToNat,Za]
  obtain⟨o13,ho13,hh⟩:=ae hh
  refine ax (fun s t H e=>match s with|(s6c,s7c)=>t 0=.sl false false p0.length (ab (eI .i64) p0)∧t 1=.int .i64 p1∧t 5=.int .i64 s5a∧t 6=.int .i64 s6c∧t 7=.int .i64 s7c) (fun o x t H e=>match o with|s6cx=>x=.exit 2∧t 0=.sl false false p0.length (ab (eI .i64) p0)∧t 1=.int .i64 p1∧t 5=.int .i64 s5a∧t 6=.int .i64 s6cx) ho13 ?_ ?_ ?_
  ·refine⟨?_,?_,?_,?_,?_⟩
   all_goals first|rfl|(simp only[w,seval,-Int.reduceToNat,Za]<;>rfl)
  ·rintro⟨s6c,s7c⟩ t H e Zc c hh
   simp only[l6]at hh
   try simp only[w,seval,-Int.reduceToNat,Zc]
   refine sp aj hh (fun _ hh =>?_) (fun _ hh =>?_)
   ·obtain⟨x15,hx15,hh⟩:=ae hh
    have ax15:=bF (eI .i64) hx15
    simp only[b6]at ax15
    try simp only[w,seval,-Int.reduceToNat,Zc,ax15]
    refine sp aj hh (fun _ hh =>?_) (fun _ hh =>?_)
    ·cases hh
     try simp only[w,seval,-Int.reduceToNat,Zc,ax15]
     refine gA ?_
     refine⟨?_,?_,?_,?_,?_⟩
     all_goals first|rfl|(simp only[w,seval,-Int.reduceToNat,Zc,ax15]<;>rfl)
    ·cases hh
     try simp only[w,seval,-Int.reduceToNat,Zc,ax15]
     refine gA ?_
     refine⟨?_,?_,?_,?_,?_⟩
     all_goals first|rfl|(simp only[w,seval,-Int.reduceToNat,Zc,ax15]<;>rfl)
   ·cases hh
    try simp only[w,seval,-Int.reduceToNat,Zc]
    refine iS ?_
    refine⟨rfl,⟨?_,?_,?_,?_⟩⟩
    all_goals first|rfl|(simp only[w,seval,-Int.reduceToNat,Zc]<;>rfl)
  ·rintro x t H e hx
   obtain⟨s6cx,rfl⟩:∃z,z=o13:=⟨_,rfl⟩
   dsimp only at hx hh
   obtain⟨rfl,Zcx⟩:=hx
   try simp only[w,seval,-Int.reduceToNat,Zcx]
   refine sp aj hh (fun _ hh =>?_) (fun _ hh =>?_)
   ·cases hh
    try simp only[w,seval,-Int.reduceToNat,Zcx]
    refine pc ⟨rfl,?_⟩
    try simp only[w,seval,-Int.reduceToNat,Zcx]
   ·cases hh
    try simp only[w,seval,-Int.reduceToNat,Zcx]
    refine gA ?_
    refine⟨?_,?_,?_⟩
    all_goals first|rfl|(simp only[w,seval,-Int.reduceToNat,Zcx]<;>rfl)
 ·rintro x t H e hx
  rcases o9 with ra
  dsimp only at hx hh
  obtain⟨rfl,hE⟩:=hx
  cases hh
  try simp only[aO,aG,aW,bX,bW]
  exact hE
theorem PA:bE Tryz.prog 90 zS:=bE.of (mode := .clean) tok bK.none mixed Tryz.func90 (by kernel_rfl) ⟨by kernel_rfl,by kernel_rfl⟩ (fun _=>Nat.le_of_ble_eq_true (by kernel_rfl)) (fun x r h=>S4 x.1 x.2 r h)
noncomputable def xv:=dI (cH (eZ (eI .i64)) (dn (aI .i64))) (fun x:(List Int)×Int=>pn x.1 x.2) (fun r:(List Int)×Int =>.clean (.tup [.sl false false r.1.length (ab (eI .i64) r.1),.int .i64 r.2]))
theorem EH (p0:(List Int)) (p1:Int):xv none [.sl false false p0.length (ab (eI .i64) p0),.int .i64 p1]=(pn p0 p1).map fun r:(List Int)×Int=>(.clean (.tup [.sl false false r.1.length (ab (eI .i64) r.1),.int .i64 r.2]),none):=aC _ _ _ (p0,p1)
noncomputable def sB:Env:=(Am.ext (Am.ext aU 89 false pM) 90 false zS)
theorem LJ:bK Tryz.prog sB:=((bK.none.add za false).add PA false)
theorem gF:type_of% (ai @w<|ai @qB<|ai @H6<|@sB.eq_1):=⟨@w,@qB,@H6,@sB.eq_1⟩
theorem Pb (p0:(List Int)) (p1:Int) (r:(List Int)×Int) (hh:pn p0 p1=some r):aM .clean tab sB FU Tryz.f50 none [.sl false false p0.length (ab (eI .i64) p0),.int .i64 p1]=some (.clean (.tup [.sl false false r.1.length (ab (eI .i64) r.1),.int .i64 r.2]),none):=by
 refine aq rfl Tryz.ntmps50 Tryz.results50 ?_
 unfold pn at hh
 obtain⟨r1,hr1,hh⟩:=ae hh
 try simp only[gF,seval,-Int.reduceToNat,hr1]
 refine sp aj hh (fun _ hh =>?_) (fun _ hh =>?_)
 ·cases hh
  try simp only[gF,seval,-Int.reduceToNat,hr1]
 ·try simp only[gF,seval,-Int.reduceToNat,hr1]
  obtain⟨o8,ho8,hh⟩:=ae hh
  refine ax (fun s t H e=>match s with|(s7a,l6a)=>∃v6a:Nat,t 0=.sl false false p0.length (ab (eI .i64) p0)∧t 6=.buf 6 v6a 1 0 (l6a).length∧t 7=.int .i64 s7a∧H 6=some ⟨v6a,3,ab (eI .i64) l6a,false,true,false⟩) (fun o x t H e=>match o with|l6ax=>x=.exit 0∧∃v6ax:Nat,t 6=.buf 6 v6ax 1 0 (l6ax).length∧H 6=some ⟨v6ax,3,ab (eI .i64) l6ax,false,true,false⟩) ho8 ?_ ?_ ?_
  ·refine⟨2,?_,?_,?_,?_⟩
   all_goals first|rfl|(simp only[gF,seval,-Int.reduceToNat,hr1]<;>rfl)
  ·rintro⟨s7a,l6a⟩ t H e ⟨v6a,Za⟩ c hh
   simp only[kE]at hh
   try simp only[gF,seval,-Int.reduceToNat,hr1,Za]
   refine sp aj hh (fun _ hh =>?_) (fun _ hh =>?_)
   ·obtain⟨x10,hx10,hh⟩:=ae hh
    have ax10:=bF (eI .i64) hx10
    simp only[b6]at ax10
    obtain⟨r11,hr11,hh⟩:=ae hh
    obtain⟨x12,hx12,hh⟩:=ae hh
    obtain⟨q13a,q13b,q13c,q13d⟩:=fa (eI .i64) hx12
    simp only[b6]at q13b
    cases hh
    try simp only[gF,seval,-Int.reduceToNat,hr1,Za,ax10,hr11,q13a,q13b,q13c,q13d]
    refine gA ?_
    refine⟨e+1,?_,?_,?_,?_⟩
    all_goals first|rfl|(simp only[gF,seval,-Int.reduceToNat,hr1,Za,ax10,hr11,q13a,q13b,q13c,q13d]<;>rfl)
   ·cases hh
    try simp only[gF,seval,-Int.reduceToNat,hr1,Za]
    refine iS ?_
    refine⟨rfl,⟨v6a,?_,?_⟩⟩
    all_goals first|rfl|(simp only[gF,seval,-Int.reduceToNat,hr1,Za]<;>rfl)
  ·rintro x t H e hx
   obtain⟨l6ax,rfl⟩:∃z,z=o8:=⟨_,rfl⟩
   dsimp only at hx hh
   obtain⟨rfl,⟨v6ax,Zax⟩⟩:=hx
   cases hh
   try simp only[gF,seval,-Int.reduceToNat,hr1,Zax]
theorem Nb:bE Tryz.prog 50 xv:=bE.of (mode := .clean) tok LJ mixed Tryz.func50 (by kernel_rfl) ⟨by kernel_rfl,by kernel_rfl⟩ (fun _=>Nat.le_of_ble_eq_true (by kernel_rfl)) (fun x r h=>Pb x.1 x.2 r h)
noncomputable def uh:=dI (cH (cI di) (cH (eZ (eI .i64)) (cH (eZ (iC (eI .i64))) (cH (eZ (eI .i64)) (cH (eZ (eI .i64)) (dn (aI .i64))))))) (fun x:au×(List Int)×(List (List Int))×(List Int)×(List Int)×Int=>l7 x.1 x.2.1 x.2.2.1 x.2.2.2.1 x.2.2.2.2.1 x.2.2.2.2.2) (fun r:(List Int)×Int =>.clean (.tup [.sl false false r.1.length (ab (eI .i64) r.1),.int .i64 r.2]))
theorem Bt (p0_0:(List av)) (p1:(List Int)) (p2:(List (List Int))) (p3:(List Int)) (p4:(List Int)) (p5:Int):uh none [.agg [.sl false false p0_0.length (ab al p0_0)],.sl false false p1.length (ab (eI .i64) p1),.sl false false p2.length (ab (iC (eI .i64)) p2),.sl false false p3.length (ab (eI .i64) p3),.sl false false p4.length (ab (eI .i64) p4),.int .i64 p5]=(l7 (au.mk p0_0) p1 p2 p3 p4 p5).map fun r:(List Int)×Int=>(.clean (.tup [.sl false false r.1.length (ab (eI .i64) r.1),.int .i64 r.2]),none):=aC _ _ _ ((au.mk p0_0),p1,p2,p3,p4,p5)
noncomputable def qf:Env:=(Am.ext (Am.ext (Am.ext aU 22 false pN) 49 false xw) 50 false xv)
theorem Jc:bK Tryz.prog qf:=(((bK.none.add zb false).add Nc false).add Nb false)
theorem eG:type_of% (ai @w<|ai @qC<|ai @EI<|ai @EH<|@qf.eq_1):=⟨@w,@qC,@EI,@EH,@qf.eq_1⟩
theorem MC (p0:au) (p1:(List Int)) (p2:(List (List Int))) (p3:(List Int)) (p4:(List Int)) (p5:Int) (r:(List Int)×Int) (hh:l7 p0 p1 p2 p3 p4 p5=some r):aM .clean tab qf FU Tryz.f16 none [.agg [.sl false false p0.ag.length (ab al p0.ag)],.sl false false p1.length (ab (eI .i64) p1),.sl false false p2.length (ab (iC (eI .i64)) p2),.sl false false p3.length (ab (eI .i64) p3),.sl false false p4.length (ab (eI .i64) p4),.int .i64 p5]=some (.clean (.tup [.sl false false r.1.length (ab (eI .i64) r.1),.int .i64 r.2]),none):=by
 refine aq rfl Tryz.ntmps16 Tryz.results16 ?_
 unfold l7 at hh
 obtain⟨r1,hr1,hh⟩:=ae hh
 try simp only[eG,seval,-Int.reduceToNat,hr1]
 refine sp aj hh (fun _ hh =>?_) (fun _ hh =>?_)
 ·cases hh
  try simp only[eG,seval,-Int.reduceToNat,hr1]
 ·obtain⟨r3,hr3,hh⟩:=ae hh
  try simp only[eG,seval,-Int.reduceToNat,hr1,hr3]
  refine sp aj hh (fun _ hh =>?_) (fun _ hh =>?_)
  ·cases hh
   try simp only[eG,seval,-Int.reduceToNat,hr1,hr3]
  ·obtain⟨r5,hr5,hh⟩:=ae hh
   try simp only[eG,seval,-Int.reduceToNat,hr1,hr3,hr5]
   obtain⟨o11,ho11,hh⟩:=ae hh
   refine ax (fun s t H e=>match s with|(s19a,l18a)=>∃v18a:Nat,t 4=.sl false false p4.length (ab (eI .i64) p4)∧t 16=.sl false false r5.1.length (ab (eI .i64) r5.1)∧t 18=.buf 18 v18a 1 0 (l18a).length∧t 19=.int .i64 s19a∧H 18=some ⟨v18a,3,ab (eI .i64) l18a,false,true,false⟩) (fun o x t H e=>match o with|l18ax=>x=.exit 0∧∃v18ax:Nat,t 18=.buf 18 v18ax 1 0 (l18ax).length∧H 18=some ⟨v18ax,3,ab (eI .i64) l18ax,false,true,false⟩) ho11 ?_ ?_ ?_
   ·refine⟨5,?_,?_,?_,?_,?_⟩
    all_goals first|rfl|(simp only[eG,seval,-Int.reduceToNat,hr1,hr3,hr5]<;>rfl)
   ·rintro⟨s19a,l18a⟩ t H e ⟨v18a,Za⟩ c hh
    simp only[td]at hh
    try simp only[eG,seval,-Int.reduceToNat,hr1,hr3,hr5,Za]
    refine sp aj hh (fun _ hh =>?_) (fun _ hh =>?_)
    ·obtain⟨x13,hx13,hh⟩:=ae hh
     have ax13:=bF (eI .i64) hx13
     simp only[b6]at ax13
     obtain⟨x14,hx14,hh⟩:=ae hh
     have ax14:=bF (eI .i64) hx14
     simp only[b6]at ax14
     obtain⟨x15,hx15,hh⟩:=ae hh
     obtain⟨q16a,q16b,q16c,q16d⟩:=fa (eI .i64) hx15
     simp only[b6]at q16b
     cases hh
     try simp only[eG,seval,-Int.reduceToNat,hr1,hr3,hr5,Za,ax13,ax14,q16a,q16b,q16c,q16d]
     refine gA ?_
     refine⟨e+1,?_,?_,?_,?_,?_⟩
     all_goals first|rfl|(simp only[eG,seval,-Int.reduceToNat,hr1,hr3,hr5,Za,ax13,ax14,q16a,q16b,q16c,q16d]<;>rfl)
    ·cases hh
     try simp only[eG,seval,-Int.reduceToNat,hr1,hr3,hr5,Za]
     refine iS ?_
     refine⟨rfl,⟨v18a,?_,?_⟩⟩
     all_goals first|rfl|(simp only[eG,seval,-Int.reduceToNat,hr1,hr3,hr5,Za]<;>rfl)
   ·rintro x t H e hx
    obtain⟨l18ax,rfl⟩:∃z,z=o11:=⟨_,rfl⟩
    dsimp only at hx hh
    obtain⟨rfl,⟨v18ax,Zax⟩⟩:=hx
    cases hh
    try simp only[eG,seval,-Int.reduceToNat,hr1,hr3,hr5,Zax]
theorem JM:bE Tryz.prog 16 uh:=bE.of (mode := .clean) tok Jc mixed Tryz.func16 (by kernel_rfl) ⟨by kernel_rfl,by kernel_rfl⟩ (fun _=>Nat.le_of_ble_eq_true (by kernel_rfl)) (fun x r h=>MC x.1 x.2.1 x.2.2.1 x.2.2.2.1 x.2.2.2.2.1 x.2.2.2.2.2 r h)
noncomputable def zH:=dI (cH (cI di) (cH (aI .i64) (cH (aI .i64) (cH (aI .i64) (cH (eZ (eI .i64)) (cH (eZ aR) (cH (eZ aA) (cH (eZ (eI .i64)) (cH (eZ (iC (eI .i64))) (cH (eZ (eI .i64)) (dn (aI .i64)))))))))))) (fun x:au×Int×Int×Int×(List Int)×(List aF)×(List az)×(List Int)×(List (List Int))×(List Int)×Int=>eX x.1 x.2.1 x.2.2.1 x.2.2.2.1 x.2.2.2.2.1 x.2.2.2.2.2.1 x.2.2.2.2.2.2.1 x.2.2.2.2.2.2.2.1 x.2.2.2.2.2.2.2.2.1 x.2.2.2.2.2.2.2.2.2.1 x.2.2.2.2.2.2.2.2.2.2) (fun r:Bool =>.clean (.bool r))
noncomputable def js:Env:=(Am.ext (Am.ext (Am.ext (Am.ext (Am.ext (Am.ext (Am.ext (Am.ext (Am.ext (Am.ext aU 9 false ud) 10 false zQ) 11 false zT) 12 false zR) 13 false jI) 14 false ui) 15 false mf) 16 false uh) 17 false rO) 18 false kW)
theorem yP:bK Tryz.prog js:=((((((((((bK.none.add JJ false).add Py false).add PB false).add Pz false).add pe false).add JN false).add uY false).add JM false).add Bk false).add tM false)
theorem aK:type_of% (ai @w<|ai @Bp<|ai @H4<|ai @H7<|ai @H5<|ai @fB<|ai @Bu<|ai @jN<|ai @Bt<|ai @sT<|ai @gN<|@js.eq_1):=⟨@w,@Bp,@H4,@H7,@H5,@fB,@Bu,@jN,@Bt,@sT,@gN,@js.eq_1⟩
theorem An (p0:au) (p1:Int) (p2:Int) (p3:Int) (p4:(List Int)) (p5:(List aF)) (p6:(List az)) (p7:(List Int)) (p8:(List (List Int))) (p9:(List Int)) (p10:Int) (r:Bool) (hh:eX p0 p1 p2 p3 p4 p5 p6 p7 p8 p9 p10=some r):aM .clean tab js FU Tryz.f3 none [.agg [.sl false false p0.ag.length (ab al p0.ag)],.int .i64 p1,.int .i64 p2,.int .i64 p3,.sl false false p4.length (ab (eI .i64) p4),.sl false false p5.length (ab aR p5),.sl false false p6.length (ab aA p6),.sl false false p7.length (ab (eI .i64) p7),.sl false false p8.length (ab (iC (eI .i64)) p8),.sl false false p9.length (ab (eI .i64) p9),.int .i64 p10]=some (.clean (.bool r),none):=by
 refine aq rfl Tryz.ntmps3 Tryz.results3 ?_
 unfold eX at hh
 obtain⟨r1,hr1,hh⟩:=ae hh
 obtain⟨r2,hr2,hh⟩:=ae hh
 try simp only[aK,seval,-Int.reduceToNat,hr1,hr2]
 obtain⟨o3,ho3,hh⟩:=ae hh
 refine bA 0 (fun s t H e=>match s with|s61j1=>∃v11j1:Nat,t 1=.int .i64 p1∧t 2=.int .i64 p2∧t 3=.int .i64 p3∧t 4=.sl false false p4.length (ab (eI .i64) p4)∧t 5=.sl false false p5.length (ab aR p5)∧t 6=.sl false false p6.length (ab aA p6)∧t 7=.sl false false p7.length (ab (eI .i64) p7)∧t 8=.sl false false p8.length (ab (iC (eI .i64)) p8)∧t 9=.sl false false p9.length (ab (eI .i64) p9)∧t 10=.int .i64 p10∧t 11=.ptr 11 v11j1 0∧t 23=.bool r1∧t 61=.bool s61j1∧H 11=some ⟨v11j1,24,[.sl false false p0.ag.length (ab al p0.ag)],false,false,false⟩) (fun s=>s=o3) ?_ ?_
 ·rintro s61j1 t H e ⟨v11j1,Zj1⟩ rfl
  try dsimp only at hh
  try simp only[aK,seval,-Int.reduceToNat,hr1,hr2,Zj1]
  refine sp aj hh (fun _ hh =>?_) (fun _ hh =>?_)
  ·cases hh
   try simp only[aK,seval,-Int.reduceToNat,hr1,hr2,Zj1]
  ·obtain⟨r5,hr5,hh⟩:=ae hh
   obtain⟨r6,hr6,hh⟩:=ae hh
   obtain⟨r7,hr7,hh⟩:=ae hh
   obtain⟨r8,hr8,hh⟩:=ae hh
   try simp only[aK,seval,-Int.reduceToNat,hr1,hr2,Zj1,hr5,hr6,hr7,hr8]
   refine sp bd hh (fun _ hh =>?_) (fun _ hh =>?_)
   ·obtain⟨r10,hr10,hh⟩:=ae hh
    try simp only[aK,seval,-Int.reduceToNat,hr1,hr2,Zj1,hr5,hr6,hr7,hr8,hr10]
    refine sp bd hh (fun _ hh =>?_) (fun _ hh =>?_)
    ·try simp only[aK,seval,-Int.reduceToNat,hr1,hr2,Zj1,hr5,hr6,hr7,hr8,hr10]
     refine sp bd hh (fun _ hh =>?_) (fun _ hh =>?_)
     ·obtain⟨r13,hr13,hh⟩:=ae hh
      try simp only[aK,seval,-Int.reduceToNat,hr1,hr2,Zj1,hr5,hr6,hr7,hr8,hr10,hr13]
      refine sp bd hh (fun _ hh =>?_) (fun _ hh =>?_)
      ·cases hh
       try simp only[aK,seval,-Int.reduceToNat,hr1,hr2,Zj1,hr5,hr6,hr7,hr8,hr10,hr13]
      ·cases hh
       try simp only[aK,seval,-Int.reduceToNat,hr1,hr2,Zj1,hr5,hr6,hr7,hr8,hr10,hr13]
     ·cases hh
      try simp only[aK,seval,-Int.reduceToNat,hr1,hr2,Zj1,hr5,hr6,hr7,hr8,hr10]
    ·cases hh
     try simp only[aK,seval,-Int.reduceToNat,hr1,hr2,Zj1,hr5,hr6,hr7,hr8,hr10]
   ·cases hh
    try simp only[aK,seval,-Int.reduceToNat,hr1,hr2,Zj1,hr5,hr6,hr7,hr8]
 ·clear hh
  have hh:=ho3
  try simp only[aK,seval,-Int.reduceToNat,hr1,hr2]
  refine sp aB hh (fun _ hh =>?_) (fun _ hh =>?_)
  ·cases hh
   try simp only[aK,seval,-Int.reduceToNat,hr1,hr2]
   rw[ak]
   refine⟨_,rfl,?_⟩
   refine⟨0,?_,?_,?_,?_,?_,?_,?_,?_,?_,?_,?_,?_,?_,?_⟩
   all_goals first|rfl|(simp only[aK,seval,-Int.reduceToNat,hr1,hr2]<;>rfl)
  ·try simp only[aK,seval,-Int.reduceToNat,hr1,hr2]
   refine sp aB hh (fun _ hh =>?_) (fun _ hh =>?_)
   ·cases hh
    try simp only[aK,seval,-Int.reduceToNat,hr1,hr2]
    rw[ak]
    refine⟨_,rfl,?_⟩
    refine⟨0,?_,?_,?_,?_,?_,?_,?_,?_,?_,?_,?_,?_,?_,?_⟩
    all_goals first|rfl|(simp only[aK,seval,-Int.reduceToNat,hr1,hr2]<;>rfl)
   ·obtain⟨r17,hr17,hh⟩:=ae hh
    try simp only[aK,seval,-Int.reduceToNat,hr1,hr2,hr17]
    refine sp aB hh (fun _ hh =>?_) (fun _ hh =>?_)
    ·cases hh
     try simp only[aK,seval,-Int.reduceToNat,hr1,hr2,hr17]
     rw[ak]
     refine⟨_,rfl,?_⟩
     refine⟨0,?_,?_,?_,?_,?_,?_,?_,?_,?_,?_,?_,?_,?_,?_⟩
     all_goals first|rfl|(simp only[aK,seval,-Int.reduceToNat,hr1,hr2,hr17]<;>rfl)
    ·try simp only[aK,seval,-Int.reduceToNat,hr1,hr2,hr17]
     refine sp aB hh (fun _ hh =>?_) (fun _ hh =>?_)
     ·cases hh
      try simp only[aK,seval,-Int.reduceToNat,hr1,hr2,hr17]
      rw[ak]
      refine⟨_,rfl,?_⟩
      refine⟨0,?_,?_,?_,?_,?_,?_,?_,?_,?_,?_,?_,?_,?_,?_⟩
      all_goals first|rfl|(simp only[aK,seval,-Int.reduceToNat,hr1,hr2,hr17]<;>rfl)
     ·obtain⟨r20,hr20,hh⟩:=ae hh
      try simp only[aK,seval,-Int.reduceToNat,hr1,hr2,hr17,hr20]
      refine sp aB hh (fun _ hh =>?_) (fun _ hh =>?_)
      ·cases hh
       try simp only[aK,seval,-Int.reduceToNat,hr1,hr2,hr17,hr20]
       rw[ak]
       refine⟨_,rfl,?_⟩
       refine⟨0,?_,?_,?_,?_,?_,?_,?_,?_,?_,?_,?_,?_,?_,?_⟩
       all_goals first|rfl|(simp only[aK,seval,-Int.reduceToNat,hr1,hr2,hr17,hr20]<;>rfl)
      ·cases hh
       try simp only[aK,seval,-Int.reduceToNat,hr1,hr2,hr17,hr20]
       rw[ak]
       refine⟨_,rfl,?_⟩
       refine⟨0,?_,?_,?_,?_,?_,?_,?_,?_,?_,?_,?_,?_,?_,?_⟩
       all_goals first|rfl|(simp only[aK,seval,-Int.reduceToNat,hr1,hr2,hr17,hr20]<;>rfl)
theorem y4:bE Tryz.prog 3 zH:=bE.of (mode := .clean) tok yP mixed Tryz.func3 (by kernel_rfl) ⟨by kernel_rfl,by kernel_rfl⟩ (fun _=>Nat.le_of_ble_eq_true (by kernel_rfl)) (fun x r h=>An x.1 x.2.1 x.2.2.1 x.2.2.2.1 x.2.2.2.2.1 x.2.2.2.2.2.1 x.2.2.2.2.2.2.1 x.2.2.2.2.2.2.2.1 x.2.2.2.2.2.2.2.2.1 x.2.2.2.2.2.2.2.2.2.1 x.2.2.2.2.2.2.2.2.2.2 r h)
end Go.Proofs.YtpkahnkoecbndaaGreatDoor.Am
namespace Go.Proofs.YtpkahnkoecbndaaGreatDoor.Am
open Go.ChangeShapes Go.WideShapes Go.ChangeAt Go.RowKit Go.Proofs.YtpkahnkoecbndaaGreatDoor.P
set_option maxRecDepth 100000
set_option linter.unusedVariables false
theorem Tryz.own:ownKnob Tryz.prog.godebug=none:=by kernel_rfl
theorem Tryz.laidOut:laidOutB Tryz.prog=true:=by kernel_rfl
theorem aaf (n:Nat):CA tab (n+1) 9 nR (fun x=>x.size≤140737488351232):=Z5 Wi rfl rfl
theorem Ga (n:Nat):CA tab (n+1) 3 (eI .i64) (fun x=>(Lit.int .i64 x).wf=true):=opI BF rfl rfl
def Au (x:av):Prop:=x.cp.size≤140737488351232∧((Lit.int .i64 x.aE).wf=true∧((Lit.int .i64 x.aY).wf=true∧((Lit.int .i64 x.bT).wf=true∧((Lit.int .i64 x.bJ).wf=true))))
theorem aae (n:Nat):CA tab (n+2) 87 al (fun x=>Au x):=Y1 (g:=fun y=>av.mk y.1 y.2.1 y.2.2.1 y.2.2.2.1 y.2.2.2.2) J9 rfl rfl (fun _=>rfl) (B6 (aaf n) rfl (B6 (Ga n) rfl (B6 (Ga n) rfl (B6 (Ga n) rfl (PC (Ga n))))))
theorem Z6 (n:Nat):CA tab (n+3) 22 (iC al) (fun x=>(x.length*48≤140737488351232∧∀y∈x,Au y)):=Vs PN rfl rfl (by rw[J9];rfl) (aae n)
def rA (x:au):Prop:=(x.ag.length*48≤140737488351232∧∀y∈x.ag,Au y)
theorem Z7 (n:Nat):CA tab (n+4) 24 di (fun x=>rA x):=Y1 (g:=fun y=>au.mk y) J3 rfl rfl (fun _=>rfl) (PC (Z6 n))
theorem HL (n:Nat):CA tab (n+2) 25 (iC (eI .i64)) (fun x=>(x.length*8≤140737488351232∧∀y∈x,(Lit.int .i64 y).wf=true)):=Vs xV rfl rfl (by rw[BF];rfl) (Ga n)
def kx (x:aF):Prop:=(Lit.int .i64 x.cg).wf=true∧((x.cP.length*8≤140737488351232∧∀y∈x.cP,(Lit.int .i64 y).wf=true)∧(x.cp.size≤140737488351232∧((Lit.int .i64 x.aE).wf=true∧((Lit.int .i64 x.aY).wf=true))))
theorem aad (n:Nat):CA tab (n+3) 67 aR (fun x=>kx x):=Y1 (g:=fun y=>aF.mk y.1 y.2.1 y.2.2.1 y.2.2.2.1 y.2.2.2.2) J8 rfl rfl (fun _=>rfl) (B6 (Ga (n+1)) rfl (B6 (HL n) rfl (B6 (aaf (n+1)) rfl (B6 (Ga (n+1)) rfl (PC (Ga (n+1)))))))
theorem Z8 (n:Nat):CA tab (n+4) 26 (iC aR) (fun x=>(x.length*64≤140737488351232∧∀y∈x,kx y)):=Vs J4 rfl rfl (by rw[J8];rfl) (aad n)
def JH (x:aw):Prop:=(Lit.int .i64 x.ah).wf=true∧((x.aa.length*8≤140737488351232∧∀y∈x.aa,(Lit.int .i64 y).wf=true))
theorem Yk (n:Nat):CA tab (n+3) 49 fM (fun x=>JH x):=Y1 (g:=fun y=>aw.mk y.1 y.2) PO rfl rfl (fun _=>rfl) (B6 (Ga (n+1)) rfl (PC (HL n)))
def Ek (x:aQ):Prop:=JH x.cn∧(JH x.cl)
theorem Yl (n:Nat):CA tab (n+4) 51 jd (fun x=>Ek x):=Y1 (g:=fun y=>aQ.mk y.1 y.2) PQ rfl rfl (fun _=>rfl) (B6 (Yk n) rfl (PC (Yk n)))
def M0 (x:dt):Prop:=Ek x.bq∧(Ek x.aT)
theorem aab (n:Nat):CA tab (n+5) 53 sk (fun x=>M0 x):=Y1 (g:=fun y=>dt.mk y.1 y.2) PR rfl rfl (fun _=>rfl) (B6 (Yl n) rfl (PC (Yl n)))
def kv (x:az):Prop:=(Lit.int .i64 x.cg).wf=true∧(M0 x.bz)
theorem aac (n:Nat):CA tab (n+6) 55 aA (fun x=>kv x):=Y1 (g:=fun y=>az.mk y.1 y.2) J7 rfl rfl (fun _=>rfl) (B6 (Ga (n+4)) rfl (PC (aab n)))
theorem Z9 (n:Nat):CA tab (n+7) 27 (iC aA) (fun x=>(x.length*136≤140737488351232∧∀y∈x,kv y)):=Vs J5 rfl rfl (by rw[J7];rfl) (aac n)
theorem aaa (n:Nat):CA tab (n+3) 28 (iC (iC (eI .i64))) (fun x=>(x.length*24≤140737488351232∧∀y∈x,(y.length*8≤140737488351232∧∀z∈y,(Lit.int .i64 z).wf=true))):=Vs J6 rfl rfl (by rw[xV];rfl) (HL n)
theorem ve:TL tab 8 [24,3,3,3,25,26,27,25,28,25,3] (cH (cI di) (cH (aI .i64) (cH (aI .i64) (cH (aI .i64) (cH (eZ (eI .i64)) (cH (eZ aR) (cH (eZ aA) (cH (eZ (eI .i64)) (cH (eZ (iC (eI .i64))) (cH (eZ (eI .i64)) (dn (aI .i64)))))))))))) (fun x=>rA x.1∧((Lit.int .i64 x.2.1).wf=true∧((Lit.int .i64 x.2.2.1).wf=true∧((Lit.int .i64 x.2.2.2.1).wf=true∧((x.2.2.2.2.1.length*8≤140737488351232∧∀y∈x.2.2.2.2.1,(Lit.int .i64 y).wf=true)∧((x.2.2.2.2.2.1.length*64≤140737488351232∧∀y∈x.2.2.2.2.2.1,kx y)∧((x.2.2.2.2.2.2.1.length*136≤140737488351232∧∀y∈x.2.2.2.2.2.2.1,kv y)∧((x.2.2.2.2.2.2.2.1.length*8≤140737488351232∧∀y∈x.2.2.2.2.2.2.2.1,(Lit.int .i64 y).wf=true)∧((x.2.2.2.2.2.2.2.2.1.length*24≤140737488351232∧∀y∈x.2.2.2.2.2.2.2.2.1,(y.length*8≤140737488351232∧∀z∈y,(Lit.int .i64 z).wf=true))∧((x.2.2.2.2.2.2.2.2.2.1.length*8≤140737488351232∧∀y∈x.2.2.2.2.2.2.2.2.2.1,(Lit.int .i64 y).wf=true)∧((Lit.int .i64 x.2.2.2.2.2.2.2.2.2.2).wf=true))))))))))):=(FY (oaS J3 rfl (Z7 4)) (FY (oaI BF rfl) (FY (oaI BF rfl) (FY (oaI BF rfl) (FY (S9 xV rfl (HL 6)) (FY (S9 J4 rfl (Z8 4)) (FY (S9 J5 rfl (Z9 1)) (FY (S9 xV rfl (HL 6)) (FY (S9 J6 rfl (aaa 5)) (FY (S9 xV rfl (HL 6)) (abr (oaI BF rfl))))))))))))
theorem ua (law:∀(a0:au) (a1:Int) (a2:Int) (a3:Int) (a4:(List Int)) (a5:(List aF)) (a6:(List az)) (a7:(List Int)) (a8:(List (List Int))) (a9:(List Int)) (a10:Int),(rA a0)→((Lit.int .i64 a1).wf=true)→((Lit.int .i64 a2).wf=true)→((Lit.int .i64 a3).wf=true)→((a4.length*8≤140737488351232∧∀y∈a4,(Lit.int .i64 y).wf=true))→((a5.length*64≤140737488351232∧∀y∈a5,kx y))→((a6.length*136≤140737488351232∧∀y∈a6,kv y))→((a7.length*8≤140737488351232∧∀y∈a7,(Lit.int .i64 y).wf=true))→((a8.length*24≤140737488351232∧∀y∈a8,(y.length*8≤140737488351232∧∀z∈y,(Lit.int .i64 z).wf=true)))→((a9.length*8≤140737488351232∧∀y∈a9,(Lit.int .i64 y).wf=true))→((Lit.int .i64 a10).wf=true)→P.eX a0 a1 a2 a3 a4 a5 a6 a7 a8 a9 a10=some true) (os:Os) (started:os.Started) (H:Type) (enc:TypeId×Value→H) :
  ReturnsInHanded {} Tryz.checked os 3 .any (fun w args=>(Rows.auditTellsSpec.pre enc Tryz.prog Tryz.f3 Rows.auditTellsRow.domain false w args∧laidMetH Tryz.prog Ma w)∧sizedMet enc Tryz.prog Tryz.f3 (OpenSpec.ofChange Rows.auditTellsSpec) false w args) (Rows.auditTellsSpec.post enc Tryz.prog Tryz.f3 false true false false):=by
 refine VH (C:=Tryz.checked) (X:=fun w _=>laidMetH Tryz.prog Ma w) (fun _ _ _ hh h=>h.of_heap hh) (fun _ _ h=>U7 h) (T:=tab) (tb:=4) (n:=8) tok Tryz.own started (by kernel_rfl) Tryz.func3
  (ChangeSpec.witness_shaped (enc:=enc) (C:=Tryz.checked) (os:=os) (X:=fun w _=>laidMetH Tryz.prog Ma w) false (World.doorLaid Tryz.prog 400 os) #[.agg #[.slice none 0 0],.int .i64 0,.int .i64 0,.int .i64 0,.slice none 0 0,.slice none 0 0,.slice none 0 0,.slice none 0 0,.slice none 0 0,.slice none 0 0,.int .i64 0] 8 rfl (World.shaped_of_RefB (by kernel_rfl) (by kernel_rfl)) (by kernel_rfl) (by kernel_rfl) (by kernel_rfl) (UA os _)) Tryz.laidOut (by kernel_rfl) rfl (by kernel_rfl) rfl (fun ds hds =>?_) (fun ar hl hs =>?_)
 ·rw[Tryz.params3]at hds
  match ds,hds with
  | [d0,d1,d2,d3,d4,d5,d6,d7,d8,d9,d10],_=>exact⟨rfl,rfl,rfl⟩
 ·rw[Tryz.params3]at hl hs
  exact YU ve y4 (fun x hx=>law x.1 x.2.1 x.2.2.1 x.2.2.2.1 x.2.2.2.2.1 x.2.2.2.2.2.1 x.2.2.2.2.2.2.1 x.2.2.2.2.2.2.2.1 x.2.2.2.2.2.2.2.2.1 x.2.2.2.2.2.2.2.2.2.1 x.2.2.2.2.2.2.2.2.2.2 hx.1 hx.2.1 hx.2.2.1 hx.2.2.2.1 hx.2.2.2.2.1 hx.2.2.2.2.2.1 hx.2.2.2.2.2.2.1 hx.2.2.2.2.2.2.2.1 hx.2.2.2.2.2.2.2.2.1 hx.2.2.2.2.2.2.2.2.2.1 hx.2.2.2.2.2.2.2.2.2.2) ar hl hs
theorem wG (law:∀(a0:au) (a1:Int) (a2:Int) (a3:Int) (a4:(List Int)) (a5:(List aF)) (a6:(List az)) (a7:(List Int)) (a8:(List (List Int))) (a9:(List Int)) (a10:Int),(rA a0)→((Lit.int .i64 a1).wf=true)→((Lit.int .i64 a2).wf=true)→((Lit.int .i64 a3).wf=true)→((a4.length*8≤140737488351232∧∀y∈a4,(Lit.int .i64 y).wf=true))→((a5.length*64≤140737488351232∧∀y∈a5,kx y))→((a6.length*136≤140737488351232∧∀y∈a6,kv y))→((a7.length*8≤140737488351232∧∀y∈a7,(Lit.int .i64 y).wf=true))→((a8.length*24≤140737488351232∧∀y∈a8,(y.length*8≤140737488351232∧∀z∈y,(Lit.int .i64 z).wf=true)))→((a9.length*8≤140737488351232∧∀y∈a9,(Lit.int .i64 y).wf=true))→((Lit.int .i64 a10).wf=true)→P.eX a0 a1 a2 a3 a4 a5 a6 a7 a8 a9 a10=some true):Rows.AuditTellsSaid :=
 OpenClaim.holds_of_wide 3 Tryz.f3 rfl rfl rfl rfl rfl rfl rfl ⟨rfl,rfl,rfl,rfl,rfl⟩ rfl rfl rfl rfl rfl (by kernel_rfl) Tryz.func3 (by kernel_rfl)
  (of_decide_eq_true (by kernel_rfl)) (by unfold Func.isWrapper;first|(rw[if_pos (by decide +kernel)];kernel_rfl)|(rw[if_neg (by decide +kernel)];exact⟨rfl,rfl⟩))
  (fun os started H enc _=>ua law os started H enc)
theorem uR (law:∀(a0:au) (a1:Int) (a2:Int) (a3:Int) (a4:(List Int)) (a5:(List aF)) (a6:(List az)) (a7:(List Int)) (a8:(List (List Int))) (a9:(List Int)) (a10:Int),(rA a0)→((Lit.int .i64 a1).wf=true)→((Lit.int .i64 a2).wf=true)→((Lit.int .i64 a3).wf=true)→((a4.length*8≤140737488351232∧∀y∈a4,(Lit.int .i64 y).wf=true))→((a5.length*64≤140737488351232∧∀y∈a5,kx y))→((a6.length*136≤140737488351232∧∀y∈a6,kv y))→((a7.length*8≤140737488351232∧∀y∈a7,(Lit.int .i64 y).wf=true))→((a8.length*24≤140737488351232∧∀y∈a8,(y.length*8≤140737488351232∧∀z∈y,(Lit.int .i64 z).wf=true)))→((a9.length*8≤140737488351232∧∀y∈a9,(Lit.int .i64 y).wf=true))→((Lit.int .i64 a10).wf=true)→P.eX a0 a1 a2 a3 a4 a5 a6 a7 a8 a9 a10=some true):Rows.AuditTellsCardSaid :=
 Claim7.holds_tied_plain_at .later [] [.data,.data,.data] true Rows.auditTellsCard.stood.harness false
  (wG law) (fun _ h=>by cases h) (by kernel_rfl) (fun _ h=>by cases h) auditTells_row_tie rfl ⟨rfl,rfl⟩ (by kernel_rfl) rfl
  (fun f fn hf hfn=>by
   obtain rfl:f=3:=Option.some.inj ((show Tryz.prog.funcNamed "kitbag/kitbaglaw51.AuditTells" = some 3 by kernel_rfl).symm.trans hf) |>.symm
   obtain rfl:fn=Tryz.f3:=(Option.some.inj (Tryz.func3.symm.trans hfn)).symm
   exact⟨by kernel_rfl,fun j t ht=>by
    rw[Tryz.params3]at ht
    have hm:t∈[24,3,3,3,25,26,27,25,28,25,3]:=by simpa using Array.mem_of_getElem? ht
    have hall:([24,3,3,3,25,26,27,25,28,25,3].all fun u => !Tryz.prog.wantsStandIn u)=true:=by kernel_rfl
    exact (show Tryz.prog.wantsStandIn t=false by simpa using List.all_eq_true.1 hall t hm)⟩)
  (by kernel_rfl)
end Go.Proofs.YtpkahnkoecbndaaGreatDoor.Am
namespace Go.Proofs.YtpkahnkoecbndaaGreatDoor.P.T
open Go.RowKit
set_option linter.unusedSimpArgs false
set_option linter.unusedVariables false
theorem rH (n h:Int):eA n h=some (decide (0≤n∧n≤h)):=by
 unfold eA
 by_cases h0:n≥0
 ·rw[if_pos (by simpa using h0)]
  have:(0≤n∧n≤h)↔n≤h:=by omega
  simp[this]
 ·rw[if_neg (by simpa using h0)]
  have:¬(0≤n∧n≤h):=by omega
  simp[this]
def lS (x:av):Prop:=x.bT = -1∧x.bJ = -1∧(x.cp.size:Int)≤8000∧(0≤x.aE∧x.aE≤1099511627776)∧(0≤x.aY∧x.aY≤1099511627776)
instance (x:av):Decidable (lS x):=by unfold lS;infer_instance
theorem Rg (x:av):jm x=some (decide (lS x)):=by
 unfold jm
 simp only[rH,Option.bind_some]
 by_cases h1:x.bT = -1
 ·rw[if_pos (by simpa using h1),Option.bind_some]
  by_cases h2:x.bJ = -1
  ·rw[if_pos (by simpa using h2)]
   by_cases h3:(x.cp.size:Int)≤8000
   ·rw[if_pos (decide_eq_true h3)]
    by_cases h4:0≤x.aE∧x.aE≤1099511627776
    ·rw[if_pos (decide_eq_true h4)]
     congr 1
     rw[decide_eq_decide]
     exact⟨fun h=>⟨h1,h2,h3,h4,h⟩,fun h=>h.2.2.2.2⟩
    ·rw[if_neg (by simpa using h4),decide_eq_false (fun h:lS x=>h4 h.2.2.2.1)]
   ·rw[if_neg (by simpa using h3),decide_eq_false (fun h:lS x=>h3 h.2.2.1)]
  ·rw[if_neg (by simpa using h2),decide_eq_false (fun h:lS x=>h2 h.2.1)]
 ·rw[if_neg (by simpa using h1),Option.bind_some,if_neg (by simp),decide_eq_false (fun h:lS x=>h1 h.1)]
def Wt:av:=av.mk (ByteArray.mk #[]) 0 0 0 0
def vf (l:List av) (a b:Int):av×Int :=
 match P.idx l a,P.idx l b with
 | some x,some y =>
  if IntKind.i64.wrap (x.aE+y.aE)>1125899906842624∨IntKind.i64.wrap (x.aY+y.aY)>1125899906842624 then (Wt,3)
  else (av.mk (ByteArray.mk #[]) (IntKind.i64.wrap (x.aE+y.aE)) (IntKind.i64.wrap (x.aY+y.aY)) a b,0)
 | _,_=>(Wt,4)
theorem D2 {α:Type} {l:List α} {i:Int} (h:¬(0≤i∧i<l.length)):P.idx l i=none:=by
 unfold P.idx
 rw[if_neg h]
theorem small {n:Nat} (h:n≤maxLen):(n:Int)≤9223372036854775807:=by
 have:maxLen≤9223372036854775807:=by decide
 omega
theorem Xq {l:List av} (hl:l.length≤maxLen) (a b:Int):kh l a b=some (vf l a b):=by
 unfold kh
 have hw:IntKind.i64.wrap ((l.length:Int)-1)=(l.length:Int)-1:=wrap64 (by omega) (by have:=small hl;omega)
 simp only[rH,hw,Option.bind_some]
 by_cases ha:0≤a∧a<l.length
 ·have ha':(0≤a∧a≤(l.length:Int)-1):=by omega
  by_cases hb:0≤b∧b<l.length
  ·have hb':(0≤b∧b≤(l.length:Int)-1):=by omega
   simp only[ha',hb',and_self,decide_true,Bool.not_true,Bool.false_eq_true,if_false,vY ha.1 ha.2,vY hb.1 hb.2,Option.bind_some,vf,decide_eq_true_eq]
   split
   ·rename_i h;rw[if_pos (.inl h)];rfl
   ·split
    ·rename_i h;rw[if_pos (.inr h)];rfl
    ·rename_i h h';rw[if_neg (by intro hh;rcases hh with hh|hh<;>contradiction)]
  ·have hb':¬(0≤b∧b≤(l.length:Int)-1):=by omega
   simp only[ha',hb',and_self,decide_true,decide_false,Bool.not_true,Bool.not_false,Bool.false_eq_true,if_false,if_true,vY ha.1 ha.2,D2 hb,vf]
   rfl
 ·have ha':¬(0≤a∧a≤(l.length:Int)-1):=by omega
  simp only[ha',decide_false,Bool.not_false,if_true,D2 ha,vf]
  rfl
def Xo (l:List av) (i:Nat):Prop:=∀x,l[i]? = some x→lS x∨vf (l.take i) x.bT x.bJ=(x,0)
def fR (l:List av):Prop:=l.length≤2000∧∀i,i<l.length→Xo l i
theorem RB (x y:av):((x.cp==y.cp)&&((x.aE==y.aE)&&((x.aY==y.aY)&&((x.bT==y.bT)&&(x.bJ==y.bJ)))))=true↔x=y:=by
 obtain⟨a,b,c,d,e⟩:=x
 obtain⟨a',b',c',d',e'⟩:=y
 simp[YG]
theorem oK (v:au):∃b,dY v=some b∧(b=true↔fR v.ag):=by
 obtain⟨l⟩:=v
 unfold dY
 simp only
 by_cases hlen:l.length≤2000
 ·have hle:¬((l.length:Int)>2000):=by omega
  simp only[hle,decide_false,Bool.false_eq_true,if_false]
  have hm:l.length≤maxLen:=Nat.le_trans hlen (by decide)
  obtain⟨r,h1,h2⟩:=gM (body:=lL ⟨l⟩) (fun s=>∃i:Nat,s=i∧i≤l.length∧∀j,j<i→Xo l j) (fun s=>(l.length:Int).toNat-s.toNat)
   (fun r=>match r with | .inl _=>fR l | .inr b=>b=false∧¬fR l) (s:=0) ⟨0,rfl,Nat.zero_le _,fun j hj=>by omega⟩ (by simp only[FU];omega) (fun s hs=>by
    obtain⟨i,rfl,hi,hok⟩:=hs
    simp only[lL]
    by_cases hlt:i<l.length
    ·rw[if_pos (by simp;omega)]
     simp only[cG hlt,Option.bind_some,Rg]
     have hw:IntKind.i64.wrap ((i:Int)+1)=((i+1:Nat):Int):=by rw[wrap64 (by omega) (by omega)];rfl
     have hnext:Xo l i→(∃i':Nat,IntKind.i64.wrap ((i:Int)+1)=i'∧i'≤l.length∧∀j,j<i'→Xo l j)∧(l.length:Int).toNat-(IntKind.i64.wrap ((i:Int)+1)).toNat<(l.length:Int).toNat-(i:Int).toNat:=by
      intro hk
      refine⟨⟨i+1,hw,hlt,fun j hj =>?_⟩,by rw[hw];omega⟩
      rcases Nat.lt_succ_iff_lt_or_eq.1 hj with h|rfl
      ·exact hok j h
      ·exact hk
     by_cases hleaf:lS l[i]
     ·left
      refine⟨_,by simp only[hleaf,decide_true,if_true],hnext fun x hx =>?_⟩
      rw[List.getElem?_eq_getElem hlt,Option.some.injEq]at hx
      subst hx;exact .inl hleaf
     ·simp only[hleaf,decide_false,Bool.false_eq_true,if_false,Cr hi,Option.bind_some,Xq (show (l.take i).length≤maxLen by simp;omega)]
      have hbad:vf (l.take i) l[i].bT l[i].bJ≠(l[i],0)→¬fR l:=by
       intro hne hs
       rcases hs.2 i hlt _ (List.getElem?_eq_getElem hlt) with h|h
       ·exact hleaf h
       ·exact hne h
      generalize hp:vf (l.take i) l[i].bT l[i].bJ=p at *
      obtain⟨y,e⟩:=p
      by_cases he:e=0
      ·subst he
       simp only[bne_self_eq_false,Bool.false_eq_true,if_false]
       by_cases hxy:l[i]=y
       ·left
        have:=(RB l[i] y).2 hxy
        refine⟨_,by simp only[this,Bool.not_true,Bool.false_eq_true,if_false],hnext fun x hx =>?_⟩
        rw[List.getElem?_eq_getElem hlt,Option.some.injEq]at hx
        subst hx
        exact .inr (by rw[hp,hxy])
       ·right
        have:=mt (RB l[i] y).1 hxy
        refine⟨.inr false,by rw[if_pos (by rw[Bool.not_eq_true]at this;rw[this];rfl)],rfl,hbad fun h=>hxy ?_⟩
        simp only[Prod.mk.injEq]at h
        exact h.1.symm
      ·right
       refine⟨.inr false,by rw[if_pos (by simpa using he)],rfl,hbad fun h=>he ?_⟩
       simp only[Prod.mk.injEq]at h
       exact h.2
    ·right
     refine⟨.inl (),by rw[if_neg (by simp;omega)],hlen,fun j hj=>hok j (by omega)⟩)
  rw[h1]
  cases r with
  | inl u=>exact⟨true,rfl,by simpa using h2⟩
  | inr b=>obtain⟨rfl,h3⟩:=h2;exact⟨false,rfl,by simpa using h3⟩
 ·have hle:((l.length:Int)>2000):=by omega
  simp only[hle,decide_true,if_true]
  exact⟨false,rfl,by simp only[Bool.false_eq_true,false_iff];exact fun h=>hlen h.1⟩
end Go.Proofs.YtpkahnkoecbndaaGreatDoor.P.T
namespace Go.Proofs.YtpkahnkoecbndaaGreatDoor.P.T
open Go.RowKit
set_option linter.unusedSimpArgs false
set_option linter.unusedVariables false
theorem L5 {σ ρ:Type} {body:σ→Option (σ⊕ρ)} {n:Nat} {s s':σ} (h:body s=some (.inl s')):mQ body (n+1) s=mQ body n s':=by simp only[mQ,h]
theorem D5 {σ ρ:Type} {body:σ→Option (σ⊕ρ)} {n:Nat} {s:σ} {r:ρ} (h:body s=some (.inr r)):mQ body (n+1) s=some r:=by simp only[mQ,h]
theorem bQ {i:Nat} (h:i<4611686018427387904):IntKind.i64.wrap ((i:Int)+1)=((i+1:Nat):Int):=by rw[wrap64 (by omega) (by omega)];omega
theorem cu {α:Type} {l:List α} {i:Nat} {x:α} (h:l[i]? = some x):P.idx l (i:Int)=some x:=uT (by omega) (by simpa using h)
theorem qL {σ ρ:Type} {body:σ→Option (σ⊕ρ)} (n:Nat) (S:Nat→σ) {r:ρ} (hn:n<4611686018427387904) (hstep:∀i,i<n→body (S i)=some (.inl (S (i+1)))) (hend:body (S n)=some (.inr r)):aS body (S 0)=some r:=by
 have key:∀(m i fuel:Nat),i+m=n→m<fuel→mQ body fuel (S i)=some r:=by
  intro m
  induction m with
  | zero =>
   intro i fuel hi hf
   obtain⟨f,rfl⟩:∃f,fuel=f+1:=⟨fuel-1,by omega⟩
   have:i=n:=by omega
   subst this
   exact D5 hend
  | succ m ih =>
   intro i fuel hi hf
   obtain⟨f,rfl⟩:∃f,fuel=f+1:=⟨fuel-1,by omega⟩
   rw[L5 (hstep i (by omega))]
   exact ih (i+1) f (by omega) (by omega)
 exact key n 0 FU (by omega) (by have:FU=1000000000000000000000000:=rfl;omega)
def dN {α ρ:Type} (st:Nat→α→Option ρ):Nat→List α→Option ρ
 | _,[]=>none
 | i,x::l=>match st i x with|some r=>some r|none=>dN st (i+1) l
theorem gY {α ρ:Type} {st:Nat→α→Option ρ} : ∀ {l:List α} {i:Nat},dN st i l=none↔∀j x,l[j]? = some x→st (i+j) x=none
 | [],i=>by simp[dN]
 | x::l,i=>by
  simp only[dN]
  constructor
  ·intro h j y hj
   cases hs:st i x with
   | some r=>rw[hs]at h;cases h
   | none =>
    rw[hs]at h
    cases j with
    | zero=>simp only[List.getElem?_cons_zero,Option.some.injEq]at hj;subst hj;exact hs
    | succ j =>
     have:=gY.1 h j y (by simpa using hj)
     rw[← this];congr 1;omega
  ·intro h
   have h0:=h 0 x rfl
   simp only[Nat.add_zero]at h0
   rw[h0]
   refine gY.2 fun j y hj =>?_
   have:=h (j+1) y (by simpa using hj)
   rw[← this];congr 1;omega
theorem kr {α ρ:Type} {st:Nat→α→Option ρ} {r:ρ} : ∀ {l:List α} {i:Nat},dN st i l=some r→∃j x,l[j]? = some x∧st (i+j) x=some r
 | [],i,h=>by cases h
 | x::l,i,h=>by
  simp only[dN]at h
  cases hs:st i x with
  | some r' =>
   rw[hs]at h
   exact⟨0,x,rfl,by rw[Nat.add_zero,hs];exact h⟩
  | none =>
   rw[hs]at h
   obtain⟨j,y,h1,h2⟩:=kr h
   exact⟨j+1,y,by simpa using h1,by rw[← h2];congr 1;omega⟩
theorem drop_cons {α:Type} {l rest:List α} {i:Nat} {x:α} (h:l.drop i=x::rest):i<l.length∧l[i]? = some x∧l.drop (i+1)=rest:=by
 have hi:i<l.length:=by
  rcases Nat.lt_or_ge i l.length with h1|h1
  ·exact h1
  ·rw[List.drop_eq_nil_of_le h1]at h;cases h
 rw[List.drop_eq_getElem_cons hi]at h
 simp only[List.cons.injEq]at h
 exact⟨hi,by rw[List.getElem?_eq_getElem hi,h.1],h.2⟩
theorem VM {α ρ:Type} (l:List α) (n:Nat) {body:Int→Option (Int⊕(Unit⊕ρ))} (st:Nat→α→Option ρ) (hn:n≤l.length) (hlen:n<4611686018427387904)
  (hb:∀(i:Nat) x,i<n→l[i]? = some x→body (i:Int)=some (match st i x with|none =>.inl ((i+1:Nat):Int)|some r =>.inr (.inr r))) (he:body (n:Int)=some (.inr (.inl ()))) :
  aS body 0=some (match dN st 0 (l.take n) with|none =>.inl ()|some r =>.inr r):=by
 have key:∀(rest:List α) (i fuel:Nat),i≤n→(l.take n).drop i=rest→rest.length<fuel→mQ body fuel (i:Int)=some (match dN st i rest with|none =>.inl ()|some r =>.inr r):=by
  intro rest
  induction rest with
  | nil =>
   intro i fuel hi hd hf
   obtain⟨f,rfl⟩:∃f,fuel=f+1:=⟨fuel-1,by simp at hf;omega⟩
   have h0:=congrArg List.length hd
   simp at h0
   have:i=n:=by omega
   subst this
   rw[D5 he]
   rfl
  | cons x rest ih =>
   intro i fuel hi hd hf
   obtain⟨f,rfl⟩:∃f,fuel=f+1:=⟨fuel-1,by simp at hf;omega⟩
   obtain⟨h1,h2,h3⟩:=drop_cons hd
   have hin:i<n:=by simp at h1;omega
   have h2':l[i]? = some x:=by rwa [List.getElem?_take_of_lt hin]at h2
   have:=hb i x hin h2'
   cases hs:st i x with
   | some r =>
    rw[hs]at this
    rw[D5 this]
    simp only[dN,hs]
   | none =>
    rw[hs]at this
    rw[L5 this,ih (i+1) f (by omega) h3 (by simp at hf;omega)]
    simp only[dN,hs]
 exact key (l.take n) 0 FU (Nat.zero_le _) rfl (by have:FU=1000000000000000000000000:=rfl;simp;omega)
theorem BE {α ρ:Type} (l:List α) {body:Int→Option (Int⊕(Unit⊕ρ))} (st:Nat→α→Option ρ) (hlen:l.length<4611686018427387904)
  (hb:∀(i:Nat) x,l[i]? = some x→body (i:Int)=some (match st i x with|none =>.inl ((i+1:Nat):Int)|some r =>.inr (.inr r))) (he:body (l.length:Int)=some (.inr (.inl ()))) :
  aS body 0=some (match dN st 0 l with|none =>.inl ()|some r =>.inr r):=by
 have:=VM l l.length st (Nat.le_refl _) hlen (fun i x _ h=>hb i x h) he
 rwa [List.take_length]at this
theorem YD {α:Type} (l:List α) {body:Int→Option (Int⊕(Unit⊕Bool))} (p:Nat→α→Prop) [∀i x,Decidable (p i x)] (hlen:l.length<4611686018427387904)
  (hb:∀(i:Nat) x,l[i]? = some x→body (i:Int)=some (if p i x then .inl ((i+1:Nat):Int) else .inr (.inr false))) (he:body (l.length:Int)=some (.inr (.inl ()))) :
  (∃h:(∀i x,l[i]? = some x→p i x),aS body 0=some (.inl ()))∨(∃h:¬(∀i x,l[i]? = some x→p i x),aS body 0=some (.inr false)):=by
 have hs:=BE l (fun i x=>if p i x then none else some false) hlen (fun i x hx=>by
  rw[hb i x hx]
  by_cases h:p i x
  ·rw[if_pos h,if_pos h]
  ·rw[if_neg h,if_neg h]) he
 cases hf:dN (fun i x=>if p i x then none else some false) 0 l with
 | none =>
  refine .inl ⟨fun i x hx =>?_,by rw[hs,hf]⟩
  have:=gY.1 hf i x hx
  simp only[Nat.zero_add]at this
  by_cases h:p i x
  ·exact h
  ·rw[if_neg h]at this;cases this
 | some r =>
  obtain⟨j,x,h1,h2⟩:=kr hf
  simp only[Nat.zero_add]at h2
  by_cases h:p j x
  ·rw[if_pos h]at h2;cases h2
  ·rw[if_neg h]at h2
   cases h2
   exact .inr ⟨fun hall=>h (hall j x h1),by rw[hs,hf]⟩
def wF (row:List Int) (n:Int):Prop:=0≤n∧n≤1099511627776∧row.length≤100∧(row.length:Int)≤n∧∀i x,row[i]? = some x→0≤x∧x<n-(i:Nat)
open Classical in
theorem q0 {row:List Int} (n:Int) (hr:row.length<4611686018427387904):jj row n=some (decide (wF row n)):=by
 unfold jj
 by_cases h1:n<0
 ·rw[if_pos (by simp[h1])]
  have:¬wF row n:=fun h=>by have:=h.1;omega
  simp[this]
 rw[if_neg (by simp;omega)]
 by_cases h2:n>1099511627776
 ·rw[if_pos (by simp;omega)]
  have:¬wF row n:=fun h=>by have:=h.2.1;omega
  simp[this]
 rw[if_neg (by simp;omega)]
 have hm:(if 100<n then (100:Int) else n)=min 100 n:=by
  split<;>omega
 simp only[Option.bind_some,hm]
 by_cases h3:(row.length:Int)>min 100 n
 ·rw[if_pos (by simp;omega)]
  have:¬wF row n:=fun h=>by have:=h.2.2.1;have:=h.2.2.2.1;omega
  simp[this]
 rw[if_neg (by simp;omega)]
 rcases YD row (body:=jS row n) (fun i x=>0≤x∧x<n-(i:Nat)) hr (fun i x hx=>by
   have hi:=(List.getElem?_eq_some_iff.1 hx).1
   unfold jS
   simp only[cu hx,Option.bind_some,bQ (show i<4611686018427387904 by omega)]
   rw[if_pos (by simp;omega),wrap64 (by omega) (by omega)]
   by_cases hx0:x<0
   ·rw[if_pos (by simp[hx0]),if_neg (by omega)]
   rw[if_neg (by simp;omega)]
   by_cases hx1:x≥n-(i:Nat)
   ·rw[if_pos (by simp;omega),if_neg (by omega)]
   ·rw[if_neg (by simp;omega),if_pos (by omega)]) (by unfold jS;simp) with⟨h,e⟩|⟨h,e⟩
 ·rw[e]
  have:wF row n:=⟨by omega,by omega,by omega,by omega,h⟩
  simp[this]
 ·rw[e]
  have:¬wF row n:=fun k=>h k.2.2.2.2
  simp[this]
open Classical in
theorem Ia {row:List Int} (n:Int) (hr:row.length<4611686018427387904):kG row n=some (decide (wF row n)):=by
 unfold kG
 by_cases h1:n<0
 ·rw[if_pos (by simp[h1])]
  have:¬wF row n:=fun h=>by have:=h.1;omega
  simp[this]
 rw[if_neg (by simp;omega)]
 by_cases h2:n>1099511627776
 ·rw[if_pos (by simp;omega)]
  have:¬wF row n:=fun h=>by have:=h.2.1;omega
  simp[this]
 rw[if_neg (by simp;omega)]
 by_cases h3:(row.length:Int)>100
 ·rw[if_pos (by simp;omega)]
  have:¬wF row n:=fun h=>by have:=h.2.2.1;omega
  simp[this]
 rw[if_neg (by simp;omega)]
 simp only[Option.bind_some]
 by_cases h4:(row.length:Int)>n
 ·rw[if_pos (by simp;omega)]
  have:¬wF row n:=fun h=>by have:=h.2.2.2.1;omega
  simp[this]
 rw[if_neg (by simp;omega)]
 rcases YD row (body:=lC row n) (fun i x=>0≤x∧x<n-(i:Nat)) hr (fun i x hx=>by
   have hi:=(List.getElem?_eq_some_iff.1 hx).1
   unfold lC
   simp only[cu hx,Option.bind_some,bQ (show i<4611686018427387904 by omega)]
   rw[if_pos (by simp;omega),wrap64 (by omega) (by omega)]
   by_cases hx0:x<0
   ·rw[if_pos (by simp[hx0]),if_neg (by omega)]
   rw[if_neg (by simp;omega)]
   by_cases hx1:x≥n-(i:Nat)
   ·rw[if_pos (by simp;omega),if_neg (by omega)]
   ·rw[if_neg (by simp;omega),if_pos (by omega)]) (by unfold lC;simp) with⟨h,e⟩|⟨h,e⟩
 ·rw[e]
  have:wF row n:=⟨by omega,by omega,by omega,by omega,h⟩
  simp[this]
 ·rw[e]
  have:¬wF row n:=fun k=>h k.2.2.2.2
  simp[this]
theorem Sh (row:List Int):∃b,kd row=some b∧(b=true→row.length≤102):=by
 unfold kd
 by_cases h1:(row.length:Int)≤20
 ·rw[if_pos (by simp;omega)];exact⟨_,rfl,fun _=>by omega⟩
 rw[if_neg (by simp;omega)]
 by_cases h2:(row.length:Int)>100
 ·rw[if_pos (by simp;omega)];exact⟨_,rfl,fun h=>by simp at h;omega⟩
 ·rw[if_neg (by simp;omega)];exact⟨_,rfl,fun h=>by cases h⟩
theorem Yw (rows:List (List Int)) (hl:rows.length<4611686018427387904):∃b,s6 rows=some b∧(b=true→rows.length≤402∧∀r∈rows,r.length≤102):=by
 unfold s6
 obtain⟨r,hr,hp⟩:=gM (body:=s7 rows) (fun s=>∃i:Nat,s=i∧i≤rows.length∧i≤410∧∀j x,j<i→rows[j]? = some x→x.length≤102) (fun s=>(410-s).toNat)
  (fun r=>match r with | .inl _=>rows.length≤410→∀r∈rows,r.length≤102 | .inr b=>b=false) (s:=0) ⟨0,rfl,by omega,by omega,fun j x h=>by omega⟩ (by have:FU=1000000000000000000000000:=rfl;omega)
  (by
   rintro s ⟨i,rfl,h1,h2,h3⟩
   unfold s7
   dsimp only
   by_cases hi:i<rows.length∧i<410
   ·rw[if_pos (by simp;omega)]
    simp only[Option.bind_some]
    rw[if_pos (by simp;omega)]
    have hx:=List.getElem?_eq_getElem hi.1
    obtain⟨b,hb,hb2⟩:=Sh rows[i]
    simp only[cu hx,Option.bind_some,hb,bQ (show i<4611686018427387904 by omega)]
    cases b with
    | false=>exact .inr ⟨_,rfl,rfl⟩
    | true =>
     refine .inl ⟨_,rfl,⟨i+1,rfl,by omega,by omega,fun j x hj hx' =>?_⟩,by omega⟩
     by_cases hji:j=i
     ·subst hji;rw[hx]at hx';cases hx';exact hb2 rfl
     ·exact h3 j x (by omega) hx'
   ·refine .inr ⟨.inl (),?_,fun hle r hr =>?_⟩
    ·by_cases h5:i<rows.length
     ·rw[if_pos (by simp;omega)]
      simp only[Option.bind_some]
      rw[if_neg (by simp;omega)]
     ·rw[if_neg (by simp;omega)]
      simp
    ·obtain⟨j,hj,rfl⟩:=List.getElem_of_mem hr
     exact h3 j _ (by omega) (List.getElem?_eq_getElem hj))
 rw[hr]
 simp only[Option.bind_some]
 cases r with
 | inr b=>subst hp;exact⟨_,rfl,fun h=>by cases h⟩
 | inl u =>
  dsimp only
  by_cases h1:(rows.length:Int)≤8
  ·rw[if_pos (by simp;omega)];exact⟨_,rfl,fun _=>⟨by omega,hp (by omega)⟩⟩
  rw[if_neg (by simp;omega)]
  by_cases h2:(rows.length:Int)>400
  ·rw[if_pos (by simp;omega)];exact⟨_,rfl,fun h=>by simp at h;exact⟨by omega,hp (by omega)⟩⟩
  ·rw[if_neg (by simp;omega)];exact⟨_,rfl,fun h=>by cases h⟩
end Go.Proofs.YtpkahnkoecbndaaGreatDoor.P.T
namespace Go.Proofs.YtpkahnkoecbndaaGreatDoor.P.T
open Go.RowKit
set_option linter.unusedSimpArgs false
set_option linter.unusedVariables false
theorem vZ:maxLen=9223372036854775807:=rfl
theorem xC {α:Type} {B:Nat} {l m:List α} (h1:l.length+m.length≤1000000) (h2:B≤1000000):ik B l m=some (l++m):=by
 unfold ik
 have:=vZ
 have h3:(l.length+m.length)*B≤1000000*1000000:=Nat.mul_le_mul h1 h2
 rw[if_pos ⟨by omega,by omega⟩]
theorem Z3 {α:Type} {B k:Nat} {z:α} (h1:k≤1000000) (h2:B≤1000000):MS B (k:Int) (k:Int) z=some (List.replicate k z):=by
 unfold MS
 have:=vZ
 have h3:k*B≤1000000*1000000:=Nat.mul_le_mul h1 h2
 rw[if_pos ⟨by omega,by omega,by omega,by simpa using by omega⟩]
 simp
theorem Sb {x m:Int} (hx:0≤x) (hm:m≠0):wD .i64 x m=some (x % m):=by
 unfold wD
 rw[if_neg hm,Int.tmod_eq_emod_of_nonneg hx]
theorem VO {α:Type} {A B:List α} {i:Nat} {a:α} (hl:A.length=B.length) (ha:A[i]? = some a):(A.take i++B.drop i).set i a=A.take (i+1)++B.drop (i+1):=by
 have hi:=(List.getElem?_eq_some_iff.1 ha).1
 have e1:A.take (i+1)=A.take i++[a]:=by
  rw[List.take_succ_eq_append_getElem hi]
  have:=(List.getElem?_eq_some_iff.1 ha).2
  rw[this]
 have e2:B.drop i=B[i]'(by omega)::B.drop (i+1):=List.drop_eq_getElem_cons (by omega)
 have hlen:(A.take i).length=i:=by simp;omega
 rw[e1,e2,List.set_append_right _ _ (by omega),hlen,Nat.sub_self,List.set_cons_zero,List.append_assoc]
 rfl
theorem UT {α:Type} {A B:List α} {i:Nat} (hl:A.length=B.length) (hi:i<B.length):(A.take i++B.drop i)[i]? = B[i]?:=by
 have hlen:(A.take i).length=i:=by simp;omega
 rw[List.getElem?_append_right (by omega),hlen,Nat.sub_self,List.getElem?_drop,Nat.add_zero]
def ym (rows:List (List Int)) (j:Nat):Int:=(rows.map fun r=>r.getD j 0).sum
def tp (rows:List (List Int)) (n:Int) (k:Nat):List Int:=(List.range k).map fun j=>ym rows j % (n-(j:Nat))
def Yp (rows:List (List Int)) (n k:Int):Prop:=0≤k∧k≤100∧k≤n∧n≤1099511627776∧rows.length≤400∧∀r∈rows,(r.length:Int)=k∧wF r n
theorem nH (rows:List (List Int)) (n:Int) (k:Nat):(tp rows n k).length=k:=by simp[tp]
theorem NU {rows:List (List Int)} {n:Int} {k j:Nat} (h:j<k):(tp rows n k)[j]? = some (ym rows j % (n-(j:Nat))):=by simp[tp,h]
theorem GL (rows:List (List Int)) (r:List Int) (j:Nat):ym (rows++[r]) j=ym rows j+r.getD j 0:=by simp[ym]
theorem Zh (n:Int) (k:Nat):tp [] n k=List.replicate k 0:=by
 apply List.ext_getElem?
 intro j
 by_cases h:j<k
 ·rw[NU h];simp[ym,h]
 ·rw[List.getElem?_eq_none (by rw[nH];omega),List.getElem?_eq_none (by simp;omega)]
theorem WO {pre:List (List Int)} {row:List Int} {n:Int} {k:Nat} (hk:k≤100) (hkn:(k:Int)≤n) (hn:n≤1099511627776) (hl:row.length=k) (hr:wF row n) :
  aS (jB n row) (0,tp pre n k)=some (tp (pre++[row]) n k):=by
 have hlen:(tp (pre++[row]) n k).length=(tp pre n k).length:=by rw[nH,nH]
 have:=qL (body:=jB n row) k (fun i=>((i:Int),(tp (pre++[row]) n k).take i++(tp pre n k).drop i)) (r:=tp (pre++[row]) n k) (by omega) (fun i hi=>by
   have hx:row[i]? = some (row[i]'(by omega)):=List.getElem?_eq_getElem (by omega)
   obtain⟨b1,b2⟩:=hr.2.2.2.2 i _ hx
   have hy:=UT hlen (i:=i) (by rw[nH];exact hi)
   rw[NU hi]at hy
   have c1:0≤ym pre i % (n-(i:Nat)):=Int.emod_nonneg _ (by omega)
   have c2:ym pre i % (n-(i:Nat))<n-(i:Nat):=Int.emod_lt_of_pos _ (by omega)
   unfold jB
   dsimp only
   rw[if_pos (by simp;omega)]
   simp only[cu hx,cu hy,Option.bind_some,bQ (show i<4611686018427387904 by omega)]
   rw[wrap64 (by omega) (by omega),wrap64 (by omega) (by omega),Sb (by omega) (by omega)]
   simp only[Option.bind_some,Int.toNat_natCast]
   rw[VO hlen (by
    rw[NU hi,GL]
    have:row.getD i 0=row[i]'(by omega):=by simp[List.getD,hx]
    rw[this,Int.emod_add_emod])]) (by
   unfold jB
   dsimp only
   rw[if_neg (by simp;omega)]
   have e1:(tp (pre++[row]) n k).take k=tp (pre++[row]) n k:=List.take_of_length_le (by rw[nH];omega)
   have e2:(tp pre n k).drop k=[]:=List.drop_eq_nil_of_le (by rw[nH];omega)
   rw[e1,e2,List.append_nil])
 simpa using this
open Classical in
theorem WQ {rows:List (List Int)} {n k:Int} (h1:rows.length<4611686018427387904) (h2:∀r∈rows,r.length<4611686018427387904):l9 rows n k=some (if Yp rows n k then (tp rows n k.toNat,0) else ([],1)):=by
 unfold l9
 by_cases g1:k<0
 ·rw[if_pos (by simp;omega),if_neg (fun h=>by have:=h.1;omega)];rfl
 rw[if_neg (by simp;omega)]
 by_cases g2:k>100
 ·rw[if_pos (by simp;omega),if_neg (fun h=>by have:=h.2.1;omega)];rfl
 rw[if_neg (by simp;omega)]
 by_cases g3:n<k
 ·rw[if_pos (by simp;omega),if_neg (fun h=>by have:=h.2.2.1;omega)];rfl
 rw[if_neg (by simp;omega)]
 by_cases g4:n>1099511627776
 ·rw[if_pos (by simp;omega),if_neg (fun h=>by have:=h.2.2.2.1;omega)];rfl
 rw[if_neg (by simp;omega)]
 simp only[Option.bind_some]
 by_cases g5:(rows.length:Int)>400
 ·rw[if_pos (by simp;omega),if_neg (fun h=>by have:=h.2.2.2.2.1;omega)]
 rw[if_neg (by simp;omega)]
 obtain⟨K,rfl⟩:∃K:Nat,k=K:=⟨k.toNat,by omega⟩
 rw[Z3 (by omega) (by omega),← Zh n K]
 simp only[Option.bind_some,Int.toNat_natCast]
 obtain⟨r,hr,hp⟩:=gM (body:=oD rows n (K:Int)) (fun s=>∃i:Nat,s=((i:Int),tp (rows.take i) n K)∧i≤rows.length∧∀j x,j<i→rows[j]? = some x→(x.length:Int)=K∧wF x n) (fun s=>(rows.length-s.1).toNat)
  (fun r=>match r with | .inl l=>l=tp rows n K∧∀r∈rows,(r.length:Int)=K∧wF r n | .inr b=>b=([],1)∧¬ ∀r∈rows,(r.length:Int)=K∧wF r n) (s:=(0,tp [] n K)) ⟨0,rfl,by omega,fun j x h=>by omega⟩ (by have:FU=1000000000000000000000000:=rfl;dsimp only;omega)
  (by
   rintro s ⟨i,rfl,k1,k2⟩
   unfold oD
   dsimp only
   by_cases hi:i<rows.length
   ·rw[if_pos (by simp;omega)]
    have hx:rows[i]? = some rows[i]:=List.getElem?_eq_getElem hi
    simp only[cu hx,Option.bind_some]
    by_cases q1:(rows[i].length:Int)=K
    ·rw[if_neg (by simp[q1]),q0 n (h2 _ (List.getElem_mem hi))]
     simp only[Option.bind_some]
     by_cases q2:wF rows[i] n
     ·rw[if_neg (by simp[q2]),WO (by omega) (by omega) (by omega) (by omega) q2]
      simp only[Option.bind_some,bQ (show i<4611686018427387904 by omega)]
      refine .inl ⟨_,rfl,⟨i+1,?_,by omega,fun j x hj hx' =>?_⟩,by omega⟩
      ·rw[List.take_succ_eq_append_getElem hi]
      ·by_cases hji:j=i
       ·subst hji;rw[hx]at hx';cases hx';exact⟨q1,q2⟩
       ·exact k2 j x (by omega) hx'
     ·rw[if_pos (by simp[q2])]
      exact .inr ⟨_,rfl,rfl,fun hall=>q2 (hall _ (List.getElem_mem hi)).2⟩
    ·rw[if_pos (by simp;omega)]
     simp only[Option.bind_some]
     rw[if_pos trivial]
     exact .inr ⟨_,rfl,rfl,fun hall=>q1 (hall _ (List.getElem_mem hi)).1⟩
   ·rw[if_neg (by simp;omega)]
    refine .inr ⟨_,rfl,?_,fun r hr =>?_⟩
    ·rw[List.take_of_length_le (by omega)]
    ·obtain⟨j,hj,rfl⟩:=List.getElem_of_mem hr
     exact k2 j _ (by omega) (List.getElem?_eq_getElem hj))
 rw[hr]
 simp only[Option.bind_some]
 cases r with
 | inl l =>
  obtain⟨rfl,hall⟩:=hp
  rw[if_pos ⟨by omega,by omega,by omega,by omega,by omega,hall⟩]
 | inr b =>
  obtain⟨rfl,hall⟩:=hp
  rw[if_neg (fun h=>hall h.2.2.2.2.2)]
theorem VC {rows:List (List Int)} {n:Int} {k j:Nat} (hk:k≤100) (hkn:(k:Int)≤n) (hn:n≤1099511627776) (hj:j<k) (hl:rows.length≤400) (hr:∀r∈rows,(r.length:Int)=k∧wF r n) :
  aS (kI rows n (j:Int)) (0,0)=some (ym rows j % (n-(j:Nat))):=by
 have:=qL (body:=kI rows n (j:Int)) rows.length (fun i=>(ym (rows.take i) j % (n-(j:Nat)),(i:Int))) (r:=ym rows j % (n-(j:Nat))) (by omega) (fun i hi=>by
   have hx:rows[i]? = some rows[i]:=List.getElem?_eq_getElem hi
   obtain⟨q1,q2⟩:=hr _ (List.getElem_mem hi)
   have hjl:j<rows[i].length:=by omega
   have hy:rows[i][j]? = some rows[i][j]:=List.getElem?_eq_getElem hjl
   obtain⟨b1,b2⟩:=q2.2.2.2.2 j _ hy
   have c1:0≤ym (rows.take i) j % (n-(j:Nat)):=Int.emod_nonneg _ (by omega)
   have c2:ym (rows.take i) j % (n-(j:Nat))<n-(j:Nat):=Int.emod_lt_of_pos _ (by omega)
   unfold kI
   dsimp only
   rw[if_pos (by simp;omega)]
   simp only[cu hx,cu hy,Option.bind_some,bQ (show i<4611686018427387904 by omega)]
   rw[wrap64 (by omega) (by omega),wrap64 (by omega) (by omega),Sb (by omega) (by omega)]
   simp only[Option.bind_some]
   rw[List.take_succ_eq_append_getElem hi,GL]
   have:rows[i].getD j 0=rows[i][j]:=by simp[List.getD,hy]
   rw[this,Int.emod_add_emod]) (by
   unfold kI
   dsimp only
   rw[if_neg (by simp),List.take_length])
 simpa [ym] using this
open Classical in
theorem VD {rows:List (List Int)} {n k:Int} (h1:rows.length<4611686018427387904) (h2:∀r∈rows,r.length<4611686018427387904):pq rows n k=some (if Yp rows n k then (tp rows n k.toNat,0) else ([],1)):=by
 unfold pq
 by_cases g1:k<0
 ·rw[if_pos (by simp;omega),if_neg (fun h=>by have:=h.1;omega)];rfl
 rw[if_neg (by simp;omega)]
 by_cases g2:k>100
 ·rw[if_pos (by simp;omega),if_neg (fun h=>by have:=h.2.1;omega)];rfl
 rw[if_neg (by simp;omega)]
 by_cases g3:n<k
 ·rw[if_pos (by simp;omega),if_neg (fun h=>by have:=h.2.2.1;omega)];rfl
 rw[if_neg (by simp;omega)]
 by_cases g4:n>1099511627776
 ·rw[if_pos (by simp;omega),if_neg (fun h=>by have:=h.2.2.2.1;omega)];rfl
 rw[if_neg (by simp;omega)]
 simp only[Option.bind_some]
 by_cases g5:(rows.length:Int)>400
 ·rw[if_pos (by simp;omega),if_neg (fun h=>by have:=h.2.2.2.2.1;omega)]
 rw[if_neg (by simp;omega)]
 obtain⟨K,rfl⟩:∃K:Nat,k=K:=⟨k.toNat,by omega⟩
 have hs:=BE rows (body:=nn rows n (K:Int)) (fun _ x=>if (x.length:Int)=K∧wF x n then none else some (([],1):List Int×Int)) h1 (fun i x hx=>by
  unfold nn
  have hi:=(List.getElem?_eq_some_iff.1 hx).1
  dsimp only
  rw[if_pos (by simp;omega)]
  simp only[cu hx,Option.bind_some,Ia n (h2 _ (List.mem_of_getElem? hx)),bQ (show i<4611686018427387904 by omega)]
  by_cases q2:wF x n
  ·rw[if_neg (by simp[q2])]
   by_cases q1:(x.length:Int)=K
   ·rw[if_neg (by simp[q1]),if_pos ⟨q1,q2⟩]
   ·rw[if_pos (by simp;omega),if_neg (fun h=>q1 h.1)]
  ·rw[if_pos (by simp[q2]),if_neg (fun h=>q2 h.2)]) (by unfold nn;simp)
 rw[hs]
 cases hf:dN (fun _ x=>if (x.length:Int)=K∧wF x n then none else some (([],1):List Int×Int)) 0 rows with
 | some r =>
  obtain⟨j,x,e1,e2⟩:=kr hf
  by_cases q:(x.length:Int)=K∧wF x n
  ·rw[if_pos q]at e2;cases e2
  ·rw[if_neg q]at e2
   cases e2
   rw[if_neg (fun h=>q (h.2.2.2.2.2 x (List.mem_of_getElem? e1)))]
   rfl
 | none =>
  have hall:∀r∈rows,(r.length:Int)=K∧wF r n:=by
   intro r hr
   obtain⟨j,hj,rfl⟩:=List.getElem_of_mem hr
   have:=gY.1 hf j _ (List.getElem?_eq_getElem hj)
   by_cases q:(rows[j].length:Int)=K∧wF rows[j] n
   ·exact q
   ·rw[if_neg q]at this;cases this
  rw[if_pos ⟨by omega,by omega,by omega,by omega,by omega,hall⟩]
  simp only[Option.bind_some,Int.toNat_natCast]
  have:=qL (body:=kH rows n (K:Int)) K (fun j=>((j:Int),(tp rows n K).take j)) (r:=tp rows n K) (by omega) (fun j hj=>by
   unfold kH
   dsimp only
   rw[if_pos (by simp;omega),VC (by omega) (by omega) (by omega) hj (by omega) hall]
   simp only[Option.bind_some,bQ (show j<4611686018427387904 by omega)]
   rw[xC (by simp[nH];omega) (by omega)]
   simp only[Option.bind_some]
   have hjl:j<(tp rows n K).length:=by rw[nH];exact hj
   rw[List.take_succ_eq_append_getElem hjl]
   have e:=NU (rows:=rows) (n:=n) hj
   rw[List.getElem?_eq_getElem hjl,Option.some.injEq]at e
   rw[e]) (by
   unfold kH
   dsimp only
   rw[if_neg (by simp),List.take_of_length_le (by rw[nH];omega)])
  have this':aS (kH rows n (K:Int)) (0,[])=some (tp rows n K):=by simpa using this
  rw[this']
  rfl
end Go.Proofs.YtpkahnkoecbndaaGreatDoor.P.T
namespace Go.Proofs.YtpkahnkoecbndaaGreatDoor.P.T
open Go.RowKit
set_option linter.unusedSimpArgs false
set_option linter.unusedVariables false
def od:List Int→Int→Int
 | [],x=>x
 | g::gs,x=>if g≤x then od gs (x+1) else x
def ka:List Int→Int→Nat
 | [],_=>0
 | g::gs,x=>if g≤x then ka gs (x+1)+1 else 0
theorem pd:∀(gs:List Int) (x:Int),od gs x=x+ka gs x
 | [],x=>by simp[od,ka]
 | g::gs,x=>by
  simp only[od,ka]
  split
  ·rw[pd gs (x+1)];omega
  ·omega
theorem zd:∀(gs:List Int) (x:Int),ka gs x≤gs.length
 | [],x=>by simp[ka]
 | g::gs,x=>by
  simp only[ka]
  split
  ·have:=zd gs (x+1);simp;omega
  ·omega
theorem JU:∀(gs:List Int) (x:Int) (i:Nat),i<ka gs x→∃g,gs[i]? = some g∧g≤x+i
 | [],x,i,h=>by simp[ka]at h
 | g::gs,x,i,h=>by
  simp only[ka]at h
  split at h
  ·cases i with
   | zero=>exact⟨g,rfl,by omega⟩
   | succ i =>
    obtain⟨g',h1,h2⟩:=JU gs (x+1) i (by omega)
    exact⟨g',by simpa using h1,by omega⟩
  ·omega
theorem Ey:∀(gs:List Int) (x g:Int),gs[ka gs x]? = some g→x+ka gs x<g
 | [],x,g,h=>by simp[ka]at h
 | a::gs,x,g,h=>by
  simp only[ka]at h ⊢
  split at h
  ·rename_i ha
   have:=Ey gs (x+1) g (by simpa using h)
   rw[if_pos ha]
   omega
  ·rename_i ha
   rw[if_neg ha]
   simp only[List.getElem?_cons_zero,Option.some.injEq]at h
   omega
def BV (l:List Int) (v:Int):Nat:=l.countP fun g=>decide (g≤v)
theorem KY {l:List Int} {u v:Int} (h:u≤v):BV l u≤BV l v:=List.countP_mono_left fun x _ hx=>by simp at hx ⊢;omega
theorem KX (g:Int) (gs:List Int) (v:Int):BV (g::gs) v=BV gs v+if g≤v then 1 else 0:=by
 unfold BV
 rw[List.countP_cons]
 simp
theorem Um {gs:List Int} {v:Int} (h:∀g∈gs,v<g):BV gs v=0:=List.countP_eq_zero.2 fun x hx=>by have:=h x hx;simp;omega
theorem Eh:∀(gs:List Int) (x y:Int),y=x+BV gs y→od gs x≤y
 | [],x,y,h=>by simp[BV]at h;simp[od];omega
 | g::gs,x,y,h=>by
  rw[KX]at h
  simp only[od]
  split
  ·rename_i hg
   have hy:x≤y:=by split at h<;>omega
   rw[if_pos (by omega)]at h
   exact Eh gs (x+1) y (by omega)
  ·split at h<;>omega
theorem Rp (gs:List Int) (x:Int):x≤od gs x:=by rw[pd];omega
theorem KZ:∀(gs:List Int) (x:Int),gs.Pairwise (· < ·)→BV gs (od gs x)=ka gs x
 | [],x,_=>by simp[BV,ka]
 | g::gs,x,h=>by
  obtain⟨h1,h2⟩:=List.pairwise_cons.1 h
  rw[KX]
  simp only[od,ka]
  split
  ·rename_i hg
   have:=Rp gs (x+1)
   rw[KZ gs (x+1) h2,if_pos (by omega)]
  ·rename_i hg
   rw[Um (fun a ha=>by have:=h1 a ha;omega)]
def G8 (s:List Int×List Int) (x:Int):List Int×List Int:=(s.1++[od s.2 x],s.2.take (ka s.2 x)++([od s.2 x]++s.2.drop (ka s.2 x)))
def dr (row:List Int):List Int×List Int:=row.foldl G8 ([],[])
theorem Ch (row:List Int) (x:Int):dr (row++[x])=G8 (dr row) x:=by simp[dr]
theorem U3 (g:List Int) (i:Nat) (v:Int):(g.take i++([v]++g.drop i)).Perm (g++[v]):=by
 have h:(g.take i++([v]++g.drop i)).Perm (v::(g.take i++g.drop i)):=List.perm_middle
 rw[List.take_append_drop]at h
 exact h.trans (List.perm_append_singleton v g).symm
theorem Di (row:List Int):(dr row).1.length=row.length∧(dr row).2.length=row.length∧(dr row).1.Perm (dr row).2∧(dr row).2.Pairwise (· < ·):=by
 have key:∀l:List Int,(dr l.reverse).1.length=l.length∧(dr l.reverse).2.length=l.length∧(dr l.reverse).1.Perm (dr l.reverse).2∧(dr l.reverse).2.Pairwise (· < ·):=by
  intro l
  induction l with
  | nil=>simp[dr]
  | cons x l ih =>
   obtain⟨i1,i2,i3,i4⟩:=ih
   rw[List.reverse_cons,Ch]
   have hp:=zd (dr l.reverse).2 x
   refine⟨by simp[G8,i1],by simp[G8];omega,?_,?_⟩
   ·exact (i3.append_right [_]).trans (U3 _ _ _).symm
   ·simp only[G8]
    have hs:((dr l.reverse).2.take (ka (dr l.reverse).2 x)++(dr l.reverse).2.drop (ka (dr l.reverse).2 x)).Pairwise (· < ·):=by rw[List.take_append_drop];exact i4
    obtain⟨s1,s2,s3⟩:=List.pairwise_append.1 hs
    have hv:=pd (dr l.reverse).2 x
    refine List.pairwise_append.2 ⟨s1,?_,?_⟩
    ·rw[List.singleton_append]
     refine List.pairwise_cons.2 ⟨fun b hb =>?_,s2⟩
     obtain⟨j,hj,rfl⟩:=List.getElem_of_mem hb
     rw[List.getElem_drop]
     have hlen:ka (dr l.reverse).2 x+j<(dr l.reverse).2.length:=by simp at hj;omega
     have h0:ka (dr l.reverse).2 x<(dr l.reverse).2.length:=by omega
     have e:=Ey (dr l.reverse).2 x _ (List.getElem?_eq_getElem h0)
     rcases Nat.eq_zero_or_pos j with hj0|hj0
     ·subst hj0
      simp only[Nat.add_zero]
      omega
     ·have:=(List.pairwise_iff_getElem.1 i4) _ _ h0 hlen (by omega)
      omega
    ·intro a ha b hb
     rw[List.singleton_append]at hb
     rcases List.mem_cons.1 hb with rfl|hb
     ·obtain⟨j,hj,rfl⟩:=List.getElem_of_mem ha
      rw[List.getElem_take]
      have hj':j<ka (dr l.reverse).2 x:=by simp at hj;omega
      obtain⟨g,g1,g2⟩:=JU _ _ _ hj'
      have hjl:j<(dr l.reverse).2.length:=by omega
      rw[List.getElem?_eq_getElem hjl,Option.some.injEq]at g1
      omega
     ·exact s3 a ha b hb
 have:=key row.reverse
 rw[List.reverse_reverse]at this
 simpa using this
theorem WL {gone:List Int} {x:Int} (h0:0≤x) (h1:x≤1099511627776) (hl:gone.length≤1000):aS (jA gone) (x,0)=some (od gone x,(ka gone x:Int)):=by
 have hp:=zd gone x
 have:=qL (body:=jA gone) (ka gone x) (fun i=>(x+(i:Int),(i:Int))) (r:=(od gone x,(ka gone x:Int))) (by omega) (fun i hi=>by
   obtain⟨g,g1,g2⟩:=JU gone x i hi
   unfold jA
   dsimp only
   rw[if_pos (by simp;omega)]
   simp only[cu g1,Option.bind_some]
   rw[if_pos (by simp;omega),wrap64 (by omega) (by omega),bQ (by omega)]
   have e:x+(i:Int)+1=x+((i+1:Nat):Int):=by omega
   rw[e]) (by
   unfold jA
   dsimp only
   by_cases hlt:ka gone x<gone.length
   ·rw[if_pos (by simp;omega)]
    have hx:=List.getElem?_eq_getElem hlt
    have e:=Ey gone x _ hx
    simp only[cu hx,Option.bind_some]
    rw[if_neg (by simp;omega),pd]
   ·rw[if_neg (by simp;omega),pd])
 simpa using this
open Classical in
theorem WM {row:List Int} (n:Int) (hr:row.length<4611686018427387904):kK row n=some (if wF row n then ((dr row).1,0) else ([],1)):=by
 unfold kK
 rw[q0 n hr]
 simp only[Option.bind_some]
 by_cases h:wF row n
 ·rw[if_neg (by simp[h]),if_pos h]
  obtain⟨k1,k2,k3,k4,k5⟩:=h
  have hm:MS 8 0 (row.length:Int) (0:Int)=some []:=by
   unfold MS
   have:=vZ
   rw[if_pos ⟨by omega,by omega,by omega,by simp;omega⟩]
   rfl
  rw[hm]
  simp only[Option.bind_some]
  have:=qL (body:=jz row) row.length (fun i=>((i:Int),(dr (row.take i)).1,(dr (row.take i)).2)) (r:=(dr row).1) (by omega) (fun i hi=>by
    have hx:=List.getElem?_eq_getElem hi
    obtain⟨b1,b2⟩:=k5 i _ hx
    obtain⟨d1,d2,d3,d4⟩:=Di (row.take i)
    have hl:(row.take i).length=i:=by simp;omega
    unfold jz
    dsimp only
    rw[if_pos (by simp;omega)]
    simp only[cu hx,Option.bind_some]
    rw[WL b1 (by omega) (by omega)]
    simp only[Option.bind_some]
    rw[xC (by simp;omega) (by omega)]
    simp only[Option.bind_some]
    have hp:=zd (dr (row.take i)).2 row[i]
    have hins:U2 8 (dr (row.take i)).2 (ka (dr (row.take i)).2 row[i]:Int) [od (dr (row.take i)).2 row[i]]=some ((dr (row.take i)).2.take (ka (dr (row.take i)).2 row[i])++([od (dr (row.take i)).2 row[i]]++(dr (row.take i)).2.drop (ka (dr (row.take i)).2 row[i]))):=by
     unfold U2
     rw[if_pos ⟨by omega,by omega,by simp,by simp;omega⟩]
     simp
    rw[hins]
    simp only[Option.bind_some,bQ (show i<4611686018427387904 by omega)]
    rw[List.take_succ_eq_append_getElem hi,Ch]
    rfl) (by
    unfold jz
    dsimp only
    rw[if_neg (by simp),List.take_length])
  have this':aS (jz row) (0,[],[])=some (dr row).1:=by simpa [dr] using this
  rw[this']
  rfl
 ·rw[if_pos (by simp[h]),if_neg h]
theorem Xu {out:List Int} {v:Int} (hl:out.length≤1000):aS (l6 out v) (0,0)=some (BV out v:Int):=by
 have:=qL (body:=l6 out v) out.length (fun i=>((BV (out.take i) v:Int),(i:Int))) (r:=(BV out v:Int)) (by omega) (fun i hi=>by
   have hx:=List.getElem?_eq_getElem hi
   have hc:BV (out.take i) v≤(out.take i).length:=List.countP_le_length
   have hcl:(out.take i).length≤i:=by simp;omega
   unfold l6
   dsimp only
   rw[if_pos (by simp;omega)]
   simp only[cu hx,Option.bind_some,bQ (show i<4611686018427387904 by omega)]
   have e:BV (out.take (i+1)) v=BV (out.take i) v+if out[i]≤v then 1 else 0:=by
    rw[List.take_succ_eq_append_getElem hi]
    unfold BV
    rw[List.countP_append,List.countP_cons]
    simp
   rw[e]
   by_cases hv:out[i]≤v
   ·rw[if_pos (by simp;omega),if_pos hv,bQ (by omega)]
   ·rw[if_neg (by simp;omega),if_neg hv];rfl) (by
   unfold l6
   dsimp only
   rw[if_neg (by simp),List.take_length])
 simpa [BV] using this
theorem Xv {out gone:List Int} {x:Int} (h0:0≤x) (h1:x≤1099511627776) (hl:out.length≤1000) (hp:out.Perm gone) (hs:gone.Pairwise (· < ·)):s8 out x=some (od gone x):=by
 unfold s8
 have hc:∀v,BV out v=BV gone v:=fun v=>hp.countP_eq _
 have hle:∀v,BV out v≤1000:=fun v=>Nat.le_trans List.countP_le_length hl
 have hfix:od gone x=x+BV out (od gone x):=by rw[hc,KZ gone x hs,pd]
 obtain⟨r,hr,rfl⟩:=gM (body:=s9 out x) (fun s=>x≤s∧s≤od gone x∧s≤x+BV out s) (fun s=>(od gone x-s).toNat) (fun r=>r=od gone x) (s:=x) ⟨by omega,Rp _ _,by omega⟩
  (by have:=hle (od gone x);have:FU=1000000000000000000000000:=rfl;omega) (by
   rintro s ⟨k1,k2,k3⟩
   have q1:=hle s
   have q2:=hle (od gone x)
   have q3:=KY (l:=out) k2
   unfold s9
   dsimp only
   rw[Xu hl]
   simp only[Option.bind_some]
   rw[wrap64 (by omega) (by omega)]
   by_cases he:s=x+(BV out s:Int)
   ·rw[if_pos (by simp;exact he)]
    refine .inr ⟨s,rfl,?_⟩
    have:=Eh gone x s (by rw[← hc];exact he)
    omega
   ·rw[if_neg (by simp;exact he)]
    refine .inl ⟨_,rfl,⟨by omega,by omega,?_⟩,by omega⟩
    have:=KY (l:=out) (u:=s) (v:=x+(BV out s:Int)) (by omega)
    omega)
 rw[hr]
 rfl
open Classical in
theorem Vz {row:List Int} (n:Int) (hr:row.length<4611686018427387904):pn row n=some (if wF row n then ((dr row).1,0) else ([],1)):=by
 unfold pn
 rw[Ia n hr]
 simp only[Option.bind_some]
 by_cases h:wF row n
 ·rw[if_neg (by simp[h]),if_pos h]
  obtain⟨k1,k2,k3,k4,k5⟩:=h
  have:=qL (body:=kE row) row.length (fun i=>((i:Int),(dr (row.take i)).1)) (r:=(dr row).1) (by omega) (fun i hi=>by
    have hx:=List.getElem?_eq_getElem hi
    obtain⟨b1,b2⟩:=k5 i _ hx
    obtain⟨d1,d2,d3,d4⟩:=Di (row.take i)
    have hl:(row.take i).length=i:=by simp;omega
    unfold kE
    dsimp only
    rw[if_pos (by simp;omega)]
    simp only[cu hx,Option.bind_some]
    rw[Xv b1 (by omega) (by omega) d3 d4]
    simp only[Option.bind_some]
    rw[xC (by simp;omega) (by omega)]
    simp only[Option.bind_some,bQ (show i<4611686018427387904 by omega)]
    rw[List.take_succ_eq_append_getElem hi,Ch]
    rfl) (by
    unfold kE
    dsimp only
    rw[if_neg (by simp),List.take_length])
  have this':aS (kE row) (0,[])=some (dr row).1:=by simpa [dr] using this
  rw[this']
  rfl
 ·rw[if_pos (by simp[h]),if_neg h]
theorem NY {l:List Int} (hl:l.length*8≤140737488351232):jk l=some (decide (¬l.Nodup)):=by
 unfold jk jR cd jh Ct
 simp only[Option.bind_some]
 unfold zp
 rw[if_pos hl]
 simp only[Option.bind_some]
 unfold QX
 have hlen:=fH l
 rw[if_pos (by omega)]
 simp only[Option.bind_some]
 have hperm:(gu l).Perm l:=List.mergeSort_perm _ _
 have hsort:(gu l).Pairwise (fun a b=>decide (a≤b)=true):=List.pairwise_mergeSort (fun a b c h1 h2=>by simp at *;omega) (fun a b=>by simp;omega) l
 have hpos:∀(s:List Int) (h:s.length=s.length),(Lib.compact s).length≤s.length:=fun s _=>by
  unfold Lib.compact Lib.compactUpTo
  rw[List.length_map]
  refine Nat.le_trans (List.length_filter_le _ _) (by simp)
 by_cases hn:l.Nodup
 ·have hs:(gu l).Nodup:=hperm.nodup_iff.2 hn
  have:Lib.compact (gu l)=gu l:=Lib.compact_all _ fun j hj=>by
   unfold Lib.keeps
   by_cases h0:j=0
   ·simp[h0]
   ·have h1:j-1<(gu l).length:=by omega
    have:=(List.pairwise_iff_getElem.1 hs) (j-1) j h1 hj (by omega)
    simp only[decide_eq_true_eq]
    refine .inr ?_
    simp only[List.getElem!_toArray]
    rw[getElem!_pos (gu l) j hj,getElem!_pos (gu l) (j-1) h1]
    exact fun h=>this h.symm
  rw[this,hlen]
  simp[hn]
 ·have:(Lib.compact (gu l)).length<l.length:=by
   refine Nat.lt_of_le_of_ne (by rw[← hlen];exact hpos _ rfl) fun he=>hn (hperm.nodup_iff.1 ?_)
   unfold Lib.compact Lib.compactUpTo at he
   rw[List.length_map]at he
   have hall:=(List.length_filter_eq_length_iff (l:=List.range (gu l).length) (p:=Lib.keeps (gu l).toArray)).1 (by rw[he,List.length_range,hlen])
   refine List.pairwise_iff_getElem.2 fun i j hi hj hij =>?_
   have hk:=hall j (List.mem_range.2 hj)
   unfold Lib.keeps at hk
   simp only[decide_eq_true_eq]at hk
   have h1:j-1<(gu l).length:=by omega
   rcases hk with hk|hk
   ·omega
   ·simp only[List.getElem!_toArray]at hk
    rw[getElem!_pos (gu l) j hj,getElem!_pos (gu l) (j-1) h1]at hk
    have a2:=(List.pairwise_iff_getElem.1 hsort) (j-1) j h1 hj (by omega)
    simp only[decide_eq_true_eq]at a2
    by_cases hij':i=j-1
    ·subst hij';exact fun h=>hk h.symm
    ·have a1:=(List.pairwise_iff_getElem.1 hsort) i (j-1) hi h1 (by omega)
     simp only[decide_eq_true_eq]at a1
     omega
  simp[hn]
  omega
end Go.Proofs.YtpkahnkoecbndaaGreatDoor.P.T
namespace Go.Proofs.YtpkahnkoecbndaaGreatDoor.P.T
open Go.RowKit
set_option linter.unusedSimpArgs false
set_option linter.unusedVariables false
theorem yk {l:List Int} (hl:l.length≤1000):bI l=some l:=by
 unfold bI
 rw[xC (by simp;omega) (by omega)]
 rfl
theorem UB {row:List Int} {n:Int} (h:∀i x,row[i]? = some x→0≤x∧x<n-(i:Nat)):∀v∈(dr row).1,0≤v∧v<n:=by
 have key:∀k,k≤row.length→∀v∈(dr (row.take k)).1,0≤v∧v<n:=by
  intro k
  induction k with
  | zero=>intro _ v hv;simp[dr]at hv
  | succ k ih =>
   intro hk v hv
   have hkl:k<row.length:=by omega
   rw[List.take_succ_eq_append_getElem hkl,Ch]at hv
   simp only[G8,List.mem_append,List.mem_singleton]at hv
   rcases hv with hv|rfl
   ·exact ih (by omega) v hv
   ·obtain⟨_,h2,_,_⟩:=Di (row.take k)
    have hp:=zd (dr (row.take k)).2 row[k]
    obtain⟨b1,b2⟩:=h k _ (List.getElem?_eq_getElem hkl)
    have hl:(row.take k).length=k:=by simp;omega
    rw[pd]
    omega
 have:=key row.length (Nat.le_refl _)
 rwa [List.take_length]at this
end Go.Proofs.YtpkahnkoecbndaaGreatDoor.P.T
namespace Go.Proofs.YtpkahnkoecbndaaGreatDoor.P.T
open Go.RowKit
set_option linter.unusedSimpArgs false
set_option linter.unusedVariables false
theorem Pk (a:List Int) (x:Int):eY (a++[x])=eY a++(Lib.itoa x++[59]):=by simp[eY]
def WK (l:List Int):Prop:=∀x∈l,-9223372036854775808≤x∧x≤9223372036854775807
theorem Ar:∀ {l:List Int},WK l→(eY l).length≤22*l.length
 | [],_=>by simp[eY]
 | x::l,h=>by
  have h1:=Lib.itoa_length_le x (h x (by simp)).1 (h x (by simp)).2
  have h2:=Ar (l:=l) fun y hy=>h y (by simp[hy])
  have e:eY (x::l)=Lib.itoa x++[59]++eY l:=by simp[eY]
  rw[e]
  simp
  omega
theorem HJ {l:List Int} (h:WK l) (hl:l.length≤200):(mU l).length≤5000:=by
 have h1:=Ar h
 have h2:=Lib.itoa_length_le (l.length:Int) (by omega) (by omega)
 unfold mU
 simp
 omega
def P7 (l:List Int):ByteArray:=⟨(mU l).toArray⟩
theorem Wv {l:List Int} (h:WK l) (hl:l.length≤200):(P7 l).size≤5000:=by
 have:=HJ h hl
 simpa [P7,ByteArray.size] using this
theorem Qs {l:List Int} (h:WK l) (hl:l.length≤200):kM l=some (P7 l):=by
 unfold kM wo Rq
 have:=HJ h hl
 rw[if_pos ⟨h,by omega,by omega⟩]
 rfl
theorem abf (a b:List UInt8):(⟨a.toArray⟩:ByteArray)++⟨b.toArray⟩=⟨(a++b).toArray⟩:=by
 apply ByteArray.ext
 simp
theorem Ui {a b:List UInt8} (h:a.length+b.length≤1000000):C4 ⟨a.toArray⟩ ⟨b.toArray⟩=some ⟨(a++b).toArray⟩:=by
 unfold C4
 have e:IntKind.i64.max=9223372036854775807:=by decide
 rw[if_neg (by simp only[e,ByteArray.size,List.size_toArray];omega),abf]
theorem yh {a b:List UInt8} {x y:ByteArray} (hx:x=⟨a.toArray⟩) (hy:y=⟨b.toArray⟩) (h:a.length+b.length≤1000000):C4 x y=some ⟨(a++b).toArray⟩:=by
 subst hx;subst hy
 exact Ui h
theorem Xt {x:Int} (h0 : -9223372036854775808≤x) (h1:x≤9223372036854775807):sV x=some ⟨(Lib.itoa x++[59]).toArray⟩:=by
 have hlen:=Lib.itoa_length_le x h0 h1
 unfold sV kc yq
 by_cases hx:x<0
 ·rw[if_pos (by simp[hx]),if_pos (by omega)]
  simp only[Option.bind_some]
  have e:Lib.itoa x=45::Lib.decDigits x.natAbs:=by unfold Lib.itoa;rw[if_pos hx]
  rw[e]at hlen
  simp only[List.length_cons]at hlen
  rw[yh (a:=[45]) (b:=Lib.decDigits x.natAbs) rfl rfl (by simp;omega)]
  simp only[Option.bind_some]
  rw[yh (a:=[45]++Lib.decDigits x.natAbs) (b:=[59]) rfl rfl (by simp;omega),e]
  rfl
 ·have hw:IntKind.i64.wrap (0-x)=0-x:=wrap64 (by omega) (by omega)
  rw[if_neg (by simp;omega),hw,if_pos (by omega)]
  simp only[Option.bind_some]
  have e:Lib.itoa x=Lib.decDigits (0-x).natAbs:=by
   unfold Lib.itoa
   rw[if_neg hx]
   congr 1
   omega
  rw[← e,yh (a:=Lib.itoa x) (b:=[59]) rfl rfl (by simp;omega)]
  rfl
theorem VE {l:List Int} (h:WK l) (hl:l.length≤200):pr l=some (P7 l):=by
 unfold pr rE kc yq
 have hw:IntKind.i64.wrap (0-(l.length:Int))=0-(l.length:Int):=wrap64 (by omega) (by omega)
 have hlen:=Lib.itoa_length_le (l.length:Int) (by omega) (by omega)
 have e:Lib.itoa (l.length:Int)=Lib.decDigits (0-(l.length:Int)).natAbs:=by
  unfold Lib.itoa
  rw[if_neg (by omega)]
  congr 1
  omega
 rw[hw,if_pos (by omega)]
 simp only[Option.bind_some]
 rw[← e,yh (a:=Lib.itoa l.length) (b:=[91]) rfl rfl (by simp;omega)]
 simp only[Option.bind_some]
 have hpre:∀i,(eY (l.take i)).length≤22*i:=fun i=>Nat.le_trans (Ar fun x hx=>h x (List.mem_of_mem_take hx)) (by simp;omega)
 have:=qL (body:=kA l) l.length (fun i=>(⟨(Lib.itoa l.length++[91]++eY (l.take i)).toArray⟩,(i:Int))) (r:=⟨(Lib.itoa l.length++[91]++eY l).toArray⟩) (by omega) (fun i hi=>by
   have hx:=List.getElem?_eq_getElem hi
   obtain⟨b1,b2⟩:=h _ (List.getElem_mem hi)
   have h3:=Lib.itoa_length_le _ b1 b2
   have h4:=hpre i
   unfold kA
   dsimp only
   rw[if_pos (by simp;omega)]
   simp only[cu hx,Option.bind_some]
   rw[Xt b1 b2]
   simp only[Option.bind_some]
   rw[Ui (by simp;omega)]
   simp only[Option.bind_some,bQ (show i<4611686018427387904 by omega)]
   have e2:eY (l.take (i+1))=eY (l.take i)++(Lib.itoa l[i]++[59]):=by
    rw[List.take_succ_eq_append_getElem hi,Pk]
   rw[e2]
   simp only[List.append_assoc]) (by
   unfold kA
   dsimp only
   rw[if_neg (by simp),List.take_length])
 have h5:=hpre l.length
 rw[List.take_length]at h5
 have this':aS (kA l) (⟨(Lib.itoa l.length++[91]).toArray⟩,0)=some ⟨(Lib.itoa l.length++[91]++eY l).toArray⟩:=by simpa [eY] using this
 rw[this']
 simp only[Option.bind_some]
 rw[yh (a:=Lib.itoa l.length++[91]++eY l) (b:=[93]) rfl rfl (by simp;omega)]
 simp only[Option.bind_some,P7,mU]
 congr 2
 simp
end Go.Proofs.YtpkahnkoecbndaaGreatDoor.P.T
namespace Go.Proofs.YtpkahnkoecbndaaGreatDoor.P.T
open Go.RowKit
set_option linter.unusedSimpArgs false
set_option linter.unusedVariables false
theorem U0 (n h:Int):qX n 0 h=some (decide (0≤n∧n≤h)):=by
 rw[← rH]
 rfl
theorem H8 (x:av):kC x=some (decide (x.bT = -1∧x.bJ = -1)):=by
 unfold kC
 by_cases h1:x.bT = -1
 ·rw[if_pos (by simp[h1])]
  by_cases h2:x.bJ = -1<;>simp[h1,h2]
 ·rw[if_neg (by simp[h1])];simp[h1]
theorem VF (x:av):pk x=some (decide (lS x)):=by
 unfold pk
 simp only[H8,U0,Option.bind_some]
 by_cases h1:x.bT = -1∧x.bJ = -1
 ·rw[if_pos (decide_eq_true h1)]
  by_cases h3:(x.cp.size:Int)≤8000
  ·rw[if_pos (decide_eq_true h3)]
   by_cases h4:0≤x.aE∧x.aE≤1099511627776
   ·rw[if_pos (decide_eq_true h4)]
    congr 1
    rw[decide_eq_decide]
    exact⟨fun h=>⟨h1.1,h1.2,h3,h4,h⟩,fun h=>h.2.2.2.2⟩
   ·rw[if_neg (by simpa using h4),decide_eq_false (fun h:lS x=>h4 h.2.2.2.1)]
  ·rw[if_neg (by simpa using h3),decide_eq_false (fun h:lS x=>h3 h.2.2.1)]
 ·rw[if_neg (by simp;omega),decide_eq_false (fun h:lS x=>h1 ⟨h.1,h.2.1⟩)]
def Vu (l:List av) (x:av) (u v:av):Prop:=P.idx l x.bT=some u∧P.idx l x.bJ=some v∧x.cp=ByteArray.mk #[]∧x.aE=IntKind.i64.wrap (u.aE+v.aE)∧x.aY=IntKind.i64.wrap (u.aY+v.aY)∧x.aE≤1125899906842624∧x.aY≤1125899906842624
theorem HN {l:List av} {x:av} : vf l x.bT x.bJ=(x,0)↔∃u v,Vu l x u v:=by
 unfold vf Vu
 constructor
 ·intro h
  split at h
  ·rename_i u v hu hv
   split at h
   ·exact absurd (congrArg Prod.snd h) (by simp)
   ·rename_i hc
    have e:=congrArg Prod.fst h
    simp only at e
    rw[not_or]at hc
    refine⟨u,v,hu,hv,by rw[← e],by rw[← e],by rw[← e],?_,?_⟩
    ·rw[← e];simp only;omega
    ·rw[← e];simp only;omega
  ·exact absurd (congrArg Prod.snd h) (by simp)
 ·rintro⟨u,v,hu,hv,h1,h2,h3,h4,h5⟩
  rw[hu,hv]
  simp only
  rw[if_neg (by rw[← h2,← h3];omega),← h1,← h2,← h3]
theorem yU {l:List av} {i:Nat} (hi:i≤l.length) (a:Int):P.idx (l.take i) a=if 0≤a∧a<i then P.idx l a else none:=by
 by_cases h:0≤a∧a<i
 ·rw[if_pos h]
  unfold P.idx
  rw[if_pos ⟨h.1,by simp;omega⟩,if_pos ⟨h.1,by omega⟩,List.getElem?_take_of_lt (by omega)]
 ·rw[if_neg h]
  unfold P.idx
  rw[if_neg (by simp;omega)]
open Classical in
theorem AE (l:List av):∃b,iM ⟨l⟩=some b∧(b=true↔fR l):=by
 unfold iM
 by_cases hlen:l.length≤2000
 ·rw[if_neg (by simp;omega)]
  rcases YD l (body:=lB ⟨l⟩) (fun i x=>lS x∨vf (l.take i) x.bT x.bJ=(x,0)) (by omega) (fun i x hx=>by
    have hi:=(List.getElem?_eq_some_iff.1 hx).1
    have hw:IntKind.i64.wrap ((i:Int)-1)=(i:Int)-1:=wrap64 (by omega) (by omega)
    unfold lB
    dsimp only
    rw[if_pos (by simp;omega)]
    simp only[cu hx,Option.bind_some,VF,U0,hw,bQ (show i<4611686018427387904 by omega),RV]
    by_cases hl:lS x
    ·rw[if_pos (decide_eq_true hl),if_pos (.inl hl)]
    rw[if_neg (by simpa using hl)]
    have hiff:(lS x∨vf (l.take i) x.bT x.bJ=(x,0))↔∃u v,Vu (l.take i) x u v:=by rw[HN];exact⟨fun h=>h.resolve_left hl,.inr⟩
    by_cases h1:x.cp=ByteArray.mk #[]
    ·rw[if_neg (by simp[h1])]
     by_cases h2:0≤x.bT∧x.bT≤(i:Int)-1
     ·rw[if_neg (by simp[h2])]
      simp only[Option.bind_some]
      by_cases h3:0≤x.bJ∧x.bJ≤(i:Int)-1
      ·rw[if_neg (by simp[h3])]
       have hu:=vY (l:=l) h2.1 (by omega)
       have hv:=vY (l:=l) h3.1 (by omega)
       generalize l[x.bT.toNat]'(by omega)=u at hu
       generalize l[x.bJ.toNat]'(by omega)=v at hv
       have hu':P.idx (l.take i) x.bT=some u:=by rw[yU (by omega),if_pos (by omega),hu]
       have hv':P.idx (l.take i) x.bJ=some v:=by rw[yU (by omega),if_pos (by omega),hv]
       simp only[hu,hv,Option.bind_some]
       by_cases h4:x.aE=IntKind.i64.wrap (u.aE+v.aE)
       ·rw[if_neg (by simp[h4])]
        by_cases h5:x.aY=IntKind.i64.wrap (u.aY+v.aY)
        ·rw[if_neg (by simp[h5])]
         by_cases h6:x.aE>1125899906842624
         ·rw[if_pos (by simp;omega),if_neg]
          rw[hiff]
          rintro⟨_,_,h⟩
          have:=h.2.2.2.2.2.1
          omega
         rw[if_neg (by simp;omega)]
         by_cases h7:x.aY>1125899906842624
         ·rw[if_pos (by simp;omega),if_neg]
          rw[hiff]
          rintro⟨_,_,h⟩
          have:=h.2.2.2.2.2.2
          omega
         rw[if_neg (by simp;omega),if_pos (hiff.2 ⟨u,v,hu',hv',h1,h4,h5,by omega,by omega⟩)]
        ·rw[if_pos (by simpa using h5),if_neg]
         rw[hiff]
         rintro⟨u',v',h⟩
         have e1:=hu'.symm.trans h.1
         have e2:=hv'.symm.trans h.2.1
         cases e1;cases e2
         exact h5 h.2.2.2.2.1
       ·rw[if_pos (by simpa using h4),if_neg]
        rw[hiff]
        rintro⟨u',v',h⟩
        have e1:=hu'.symm.trans h.1
        have e2:=hv'.symm.trans h.2.1
        cases e1;cases e2
        exact h4 h.2.2.2.1
      ·rw[if_pos (by simp;omega),if_neg]
       rw[hiff]
       rintro⟨u',v',h⟩
       have:=h.2.1
       rw[yU (by omega),if_neg (by omega)]at this
       cases this
     ·rw[if_pos (by simp;omega)]
      simp only[Option.bind_some]
      rw[if_pos trivial,if_neg]
      rw[hiff]
      rintro⟨u',v',h⟩
      have:=h.1
      rw[yU (by omega),if_neg (by omega)]at this
      cases this
    ·rw[if_pos (by simp[h1])]
     simp only[Option.bind_some]
     rw[if_pos trivial,if_neg]
     rw[hiff]
     rintro⟨u',v',h⟩
     exact h1 h.2.2.1) (by unfold lB;simp) with⟨h,e⟩|⟨h,e⟩
  ·rw[e]
   exact⟨_,rfl,fun _=>⟨hlen,fun i _ x hx=>h i x hx⟩,fun _=>rfl⟩
  ·rw[e]
   refine⟨_,rfl,⟨(fun h=>by cases h),fun hs=>absurd (fun i x hx =>?_) h⟩⟩
   exact hs.2 i (List.getElem?_eq_some_iff.1 hx).1 x hx
 ·rw[if_pos (by simp;omega)]
  exact⟨_,rfl,⟨(fun h=>by cases h),fun hs=>absurd hs.1 hlen⟩⟩
theorem H9 (v:au) (i:Int) (t:ByteArray) (a b:Int):kD v i t a b=fE v i t a b:=by
 obtain⟨l⟩:=v
 obtain⟨q1,h1,k1⟩:=AE l
 obtain⟨q2,h2,k2⟩:=oK ⟨l⟩
 have:q1=q2:=by
  cases q1<;>cases q2
  ·rfl
  ·exact k1.2 (k2.1 rfl)
  ·exact (k2.2 (k1.1 rfl)).symm
  ·rfl
 subst this
 unfold kD fE
 simp only[h1,h2,Option.bind_some,U0,rH]
def jH (l:List av) (i:Int) (t:ByteArray) (v b:Int):Prop:=fR l∧∃x,P.idx l i=some x∧x.cp=t∧x.aE=v∧x.aY=b
open Classical in
theorem CB {l:List av} (i:Int) (t:ByteArray) (v b:Int):fE ⟨l⟩ i t v b=some (decide (jH l i t v b)):=by
 obtain⟨q,h1,h2⟩:=oK ⟨l⟩
 unfold fE
 rw[h1]
 simp only[Option.bind_some]
 cases q with
 | false =>
  have:¬jH l i t v b:=fun h=>by have:=h2.2 h.1;cases this
  simp[this]
 | true =>
  have hs:fR l:=h2.1 rfl
  have hm:l.length≤maxLen:=Nat.le_trans hs.1 (by decide)
  have hw:IntKind.i64.wrap ((l.length:Int)-1)=(l.length:Int)-1:=wrap64 (by omega) (by have:=small hm;omega)
  simp only[Bool.not_true,Bool.false_eq_true,if_false,rH,hw,Option.bind_some]
  by_cases hi:0≤i∧i<l.length
  ·have hi':0≤i∧i≤(l.length:Int)-1:=by omega
   simp only[hi',and_self,decide_true,Bool.not_true,Bool.false_eq_true,if_false]
   have hx:=vY (l:=l) hi.1 hi.2
   generalize l[i.toNat]'(by omega)=x at hx
   have hop:jH l i t v b↔x.cp=t∧x.aE=v∧x.aY=b:=by
    unfold jH
    rw[hx]
    constructor
    ·rintro⟨_,y,e,h⟩;cases e;exact h
    ·intro h;exact⟨hs,x,rfl,h⟩
   simp only[hx,Option.bind_some,RV]
   by_cases g1:x.cp=t
   ·rw[if_pos (decide_eq_true g1)]
    by_cases g2:x.aE=v
    ·rw[if_pos (by simp[g2])]
     congr 1
     by_cases g3:x.aY=b
     ·have:jH l i t v b:=hop.2 ⟨g1,g2,g3⟩
      simp[this,g3]
     ·have:¬jH l i t v b:=fun h=>g3 (hop.1 h).2.2
      simp[this,g3]
    ·have:¬jH l i t v b:=fun h=>g2 (hop.1 h).2.1
     rw[if_neg (by simp[g2])]
     simp[this]
   ·have:¬jH l i t v b:=fun h=>g1 (hop.1 h).1
    rw[if_neg (by simp[g1])]
    simp[this]
  ·have hi':¬(0≤i∧i≤(l.length:Int)-1):=by omega
   have:¬jH l i t v b:=by
    rintro⟨_,x,e,_⟩
    rw[D2 hi]at e
    cases e
   simp[hi',this]
theorem TH (v:au) (n:Int) (hl:v.ag.length≤4611686018427387904-1):∃b,sZ v n=some b∧(b=true→(v.ag.length:Int)≤n):=by
 unfold sZ
 obtain⟨r,hr,hp⟩:=gM (body:=s5 v n) (fun s=>∃i:Nat,s=i∧i≤v.ag.length) (fun s=>(v.ag.length-s).toNat) (fun r=>match r with | .inl _=>True | .inr b=>b=false) (s:=0) ⟨0,rfl,by omega⟩
  (by have:FU=1000000000000000000000000:=rfl;omega) (by
   rintro s ⟨i,rfl,h1⟩
   unfold s5
   dsimp only
   by_cases hi:i<v.ag.length
   ·rw[if_pos (by simp;omega)]
    simp only[Option.bind_some]
    by_cases hn:(i:Int)<n
    ·rw[if_pos (by simp;omega)]
     simp only[cu (List.getElem?_eq_getElem hi),Option.bind_some,bQ (show i<4611686018427387904 by omega)]
     split
     ·exact .inr ⟨_,rfl,rfl⟩
     ·exact .inl ⟨_,rfl,⟨i+1,rfl,by omega⟩,by omega⟩
    ·rw[if_neg (by simp;omega)]
     exact .inr ⟨_,rfl,trivial⟩
   ·rw[if_neg (by simp;omega)]
    exact .inr ⟨_,rfl,trivial⟩)
 rw[hr]
 simp only[Option.bind_some]
 cases r with
 | inl u=>exact⟨_,rfl,fun h=>by simpa using h⟩
 | inr b=>subst hp;exact⟨_,rfl,fun h=>by cases h⟩
end Go.Proofs.YtpkahnkoecbndaaGreatDoor.P.T
namespace Go.Proofs.YtpkahnkoecbndaaGreatDoor.P.T
open Go.RowKit
set_option linter.unusedSimpArgs false
set_option linter.unusedVariables false
theorem WR {α ρ:Type} (l:List α) {body:Int→Option (Int⊕(Unit⊕ρ))} (p:Nat→α→Prop) (bad:ρ) [∀i x,Decidable (p i x)] (hlen:l.length<4611686018427387904)
  (hb:∀(i:Nat) x,l[i]? = some x→body (i:Int)=some (if p i x then .inl ((i+1:Nat):Int) else .inr (.inr bad))) (he:body (l.length:Int)=some (.inr (.inl ()))) :
  (∃h:(∀i x,l[i]? = some x→p i x),aS body 0=some (.inl ()))∨(∃h:¬(∀i x,l[i]? = some x→p i x),aS body 0=some (.inr bad)):=by
 have hs:=BE l (fun i x=>if p i x then none else some bad) hlen (fun i x hx=>by
  rw[hb i x hx]
  by_cases h:p i x
  ·rw[if_pos h,if_pos h]
  ·rw[if_neg h,if_neg h]) he
 cases hf:dN (fun i x=>if p i x then none else some bad) 0 l with
 | none =>
  refine .inl ⟨fun i x hx =>?_,by rw[hs,hf]⟩
  have:=gY.1 hf i x hx
  simp only[Nat.zero_add]at this
  by_cases h:p i x
  ·exact h
  ·rw[if_neg h]at this;cases this
 | some r =>
  obtain⟨j,x,h1,h2⟩:=kr hf
  simp only[Nat.zero_add]at h2
  by_cases h:p j x
  ·rw[if_pos h]at h2;cases h2
  ·rw[if_neg h]at h2
   cases h2
   exact .inr ⟨fun hall=>h (hall j x h1),by rw[hs,hf]⟩
def yf (v:au) (seals:List Int) (rows:List (List Int)) (blinds:List Int):Prop:=∀i x,seals[i]? = some x→jH v.ag x (P7 (rows.getD i [])) 0 (blinds.getD i 0)
open Classical in
noncomputable def qp (v:au) (seals:List Int) (rows:List (List Int)) (blinds:List Int) (n k:Int):List Int×Int :=
 if Yp rows n k then (if seals.length≠rows.length∨blinds.length≠rows.length then ([],2) else if ¬seals.Nodup then ([],5) else if yf v seals rows blinds then (tp rows n k.toNat,0) else ([],22)) else ([],1)
open Classical in
theorem Qm {v:au} {seals:List Int} {rows:List (List Int)} {blinds:List Int} {n k:Int} (h1:rows.length<4611686018427387904) (h2:∀r∈rows,r.length<4611686018427387904∧WK r) (h3:seals.length*8≤140737488351232) :
  kL v seals rows blinds n k=some (qp v seals rows blinds n k):=by
 unfold kL qp
 rw[WQ h1 fun r hr=>(h2 r hr).1]
 simp only[Option.bind_some]
 by_cases hok:Yp rows n k
 ·rw[if_pos hok,if_pos hok,if_neg (by simp)]
  by_cases q1:seals.length=rows.length
  ·rw[if_neg (by simp[q1])]
   simp only[Option.bind_some]
   by_cases q2:blinds.length=rows.length
   ·rw[if_neg (by simp[q2]),if_neg (by simp[q1,q2]),NY h3]
    simp only[Option.bind_some]
    by_cases q3:seals.Nodup
    ·rw[if_neg (by simp[q3]),if_neg (by simp[q3])]
     rcases WR seals (body:=lK v seals rows blinds) (fun i x=>jH v.ag x (P7 (rows.getD i [])) 0 (blinds.getD i 0)) ([],22) (by omega) (fun i x hx=>by
       have hi:=(List.getElem?_eq_some_iff.1 hx).1
       have hr:rows[i]? = some (rows[i]'(by omega)):=List.getElem?_eq_getElem (by omega)
       have hb:blinds[i]? = some (blinds[i]'(by omega)):=List.getElem?_eq_getElem (by omega)
       have hm:=List.mem_of_getElem? hr
       unfold lK
       dsimp only
       rw[if_pos (by simp;omega)]
       simp only[cu hx,cu hr,Option.bind_some]
       rw[Qs (h2 _ hm).2 (by have:=(hok.2.2.2.2.2 _ hm).1;have:=hok.2.1;omega)]
       simp only[Option.bind_some,cu hb]
       rw[show v=⟨v.ag⟩ from rfl,CB]
       have e1:rows.getD i []=rows[i]'(by omega):=by simp[List.getD,hr]
       have e2:blinds.getD i 0=blinds[i]'(by omega):=by simp[List.getD,hb]
       rw[e1,e2]
       simp only[Option.bind_some,bQ (show i<4611686018427387904 by omega)]
       by_cases ho:jH v.ag x (P7 (rows[i]'(by omega))) 0 (blinds[i]'(by omega))
       ·rw[if_neg (by simp[ho]),if_pos ho]
       ·rw[if_pos (by simp[ho]),if_neg ho]) (by unfold lK;simp) with⟨h,e⟩|⟨h,e⟩
     ·rw[e,if_pos (show yf v seals rows blinds from h)];rfl
     ·rw[e,if_neg (show ¬yf v seals rows blinds from h)];rfl
    ·rw[if_pos (by simp[q3]),if_pos q3]
   ·rw[if_pos (by simp;omega),if_pos (.inr q2)]
  ·rw[if_pos (by simp;omega)]
   simp only[Option.bind_some]
   rw[if_pos trivial,if_pos (.inl q1)]
 ·rw[if_neg hok,if_neg hok,if_pos (by simp)]
theorem sK {l:List Int} : l.Nodup↔∀(i:Nat) x,l[i]? = some x→x∉l.take i:=by
 constructor
 ·intro h i x hx hm
  obtain⟨j,hj,e⟩:=List.getElem_of_mem hm
  have hi:=(List.getElem?_eq_some_iff.1 hx).1
  have hj':j<i:=by simp at hj;omega
  have:=(List.pairwise_iff_getElem.1 h) j i (by omega) hi hj'
  rw[List.getElem_take]at e
  rw[List.getElem?_eq_getElem hi,Option.some.injEq]at hx
  exact this (by rw[e,hx])
 ·intro h
  refine List.pairwise_iff_getElem.2 fun i j hi hj hij he =>?_
  refine h j _ (List.getElem?_eq_getElem hj) ?_
  rw[← he]
  exact List.mem_of_getElem? (i:=i) (by rw[List.getElem?_take_of_lt hij];exact List.getElem?_eq_getElem hi)
theorem VA {l:List Int} {i:Nat} {x:Int} (hx:l[i]? = some x) (hl:l.length<4611686018427387904):aS (kF l (i:Int)) 0=some (if x∈l.take i then .inr ([],5) else .inl ()):=by
 have hi:=(List.getElem?_eq_some_iff.1 hx).1
 rw[VM l i (body:=kF l (i:Int)) (fun _ y=>if y=x then some ([],5) else none) (by omega) (by omega) (fun j y hj hy=>by
  unfold kF
  dsimp only
  rw[if_pos (by simp;omega)]
  simp only[cu hx,cu hy,Option.bind_some,bQ (show j<4611686018427387904 by omega)]
  by_cases h:y=x
  ·rw[if_pos (by simp[h]),if_pos h]
  ·rw[if_neg (by simp[h]),if_neg h]) (by unfold kF;simp)]
 cases hf:dN (fun (_:Nat) y=>if y=x then some (([],5):List Int×Int) else none) 0 (l.take i) with
 | none =>
  rw[if_neg]
  intro hm
  obtain⟨j,hj,e⟩:=List.getElem_of_mem hm
  have:=gY.1 hf j _ (List.getElem?_eq_getElem hj)
  rw[if_pos e]at this
  cases this
 | some r =>
  obtain⟨j,y,e1,e2⟩:=kr hf
  by_cases h:y=x
  ·rw[if_pos h]at e2
   cases e2
   rw[if_pos (h ▸ List.mem_of_getElem? e1)]
  ·rw[if_neg h]at e2;cases e2
open Classical in
theorem VB {v:au} {seals:List Int} {rows:List (List Int)} {blinds:List Int} {n k:Int} (h1:rows.length<4611686018427387904) (h2:∀r∈rows,r.length<4611686018427387904∧WK r) (h3:seals.length*8≤140737488351232) :
  po v seals rows blinds n k=some (qp v seals rows blinds n k):=by
 unfold po qp
 rw[VD h1 fun r hr=>(h2 r hr).1]
 simp only[Option.bind_some]
 by_cases hok:Yp rows n k
 ·rw[if_pos hok,if_pos hok,if_neg (by simp)]
  by_cases q1:seals.length=rows.length
  ·rw[if_neg (by simp[q1])]
   simp only[Option.bind_some]
   by_cases q2:blinds.length=rows.length
   ·rw[if_neg (by simp[q2]),if_neg (by simp[q1,q2])]
    rcases WR seals (body:=nh seals) (fun i x=>x∉seals.take i) ([],5) (by omega) (fun i x hx=>by
      have hi:=(List.getElem?_eq_some_iff.1 hx).1
      unfold nh
      dsimp only
      rw[if_pos (by simp;omega),VA hx (by omega)]
      by_cases hm:x∈seals.take i
      ·rw[if_pos hm,if_neg (fun h=>h hm)];rfl
      ·rw[if_neg hm,if_pos hm]
       simp only[Option.bind_some,bQ (show i<4611686018427387904 by omega)]) (by unfold nh;simp) with⟨h,e⟩|⟨h,e⟩
    ·have q3:seals.Nodup:=sK.2 h
     rw[e,if_neg (fun h=>h q3)]
     simp only[Option.bind_some]
     rcases WR seals (body:=nk v seals rows blinds) (fun i x=>jH v.ag x (P7 (rows.getD i [])) 0 (blinds.getD i 0)) ([],22) (by omega) (fun i x hx=>by
       have hi:=(List.getElem?_eq_some_iff.1 hx).1
       have hr:rows[i]? = some (rows[i]'(by omega)):=List.getElem?_eq_getElem (by omega)
       have hb:blinds[i]? = some (blinds[i]'(by omega)):=List.getElem?_eq_getElem (by omega)
       have hm:=List.mem_of_getElem? hr
       unfold nk
       dsimp only
       rw[if_pos (by simp;omega)]
       simp only[cu hx,cu hr,Option.bind_some]
       rw[VE (h2 _ hm).2 (by have:=(hok.2.2.2.2.2 _ hm).1;have:=hok.2.1;omega)]
       simp only[Option.bind_some,cu hb]
       rw[H9,show v=⟨v.ag⟩ from rfl,CB]
       have e1:rows.getD i []=rows[i]'(by omega):=by simp[List.getD,hr]
       have e2:blinds.getD i 0=blinds[i]'(by omega):=by simp[List.getD,hb]
       rw[e1,e2]
       simp only[Option.bind_some,bQ (show i<4611686018427387904 by omega)]
       by_cases ho:jH v.ag x (P7 (rows[i]'(by omega))) 0 (blinds[i]'(by omega))
       ·rw[if_neg (by simp[ho]),if_pos ho]
       ·rw[if_pos (by simp[ho]),if_neg ho]) (by unfold nk;simp) with⟨h,e⟩|⟨h,e⟩
     ·rw[e,if_pos (show yf v seals rows blinds from h)];rfl
     ·rw[e,if_neg (show ¬yf v seals rows blinds from h)];rfl
    ·have q3:¬seals.Nodup:=fun hn=>h (sK.1 hn)
     rw[e,if_pos q3]
     rfl
   ·rw[if_pos (by simp;omega),if_pos (.inr q2)]
  ·rw[if_pos (by simp;omega)]
   simp only[Option.bind_some]
   rw[if_pos trivial,if_pos (.inl q1)]
 ·rw[if_neg hok,if_neg hok,if_pos (by simp)]
theorem put_eq {l:List av} (hl:l.length<10000) (x:av):mc ⟨l⟩ x=some (⟨l++[x]⟩,(l.length:Int),0):=by
 have hm:=vZ
 unfold mc ez kJ ik
 simp only[List.length_nil,Nat.zero_add,List.nil_append,List.length_cons]
 rw[if_pos (by omega)]
 simp only[Option.bind_some]
 rw[if_pos (by omega)]
 simp only[Option.bind_some]
 rw[if_pos (by omega)]
 rfl
theorem NJ {l:List av} {x:av} (hs:fR l) (hl:l.length<2000) (hx:lS x):fR (l++[x]):=by
 refine⟨by simp;omega,fun i hi y hy =>?_⟩
 simp only[List.length_append,List.length_cons,List.length_nil]at hi
 by_cases h:i<l.length
 ·rw[List.getElem?_append_left h]at hy
  rw[List.take_append_of_le_length (by omega)]
  exact hs.2 i h y hy
 ·have:i=l.length:=by omega
  subst this
  simp at hy
  subst hy
  exact .inl hx
theorem WN {l:List av} (hs:fR l) (hl:l.length<1000) {t:ByteArray} (ht:(t.size:Int)≤8000) {b:Int} (hb:0≤b∧b≤1099511627776):kg ⟨l⟩ t 0 b=some (⟨l++[av.mk t 0 b (-1) (-1)]⟩,(l.length:Int),0):=by
 obtain⟨q,h1,h2⟩:=oK ⟨l⟩
 have hq:q=true:=h2.2 hs
 subst hq
 have hleaf:lS (av.mk t 0 b (-1) (-1)):=⟨rfl,rfl,ht,⟨by simp,by simp⟩,hb⟩
 unfold kg
 simp only[h1,Option.bind_some,Bool.not_true,Bool.false_eq_true,if_false,Rg]
 simp only[hleaf,decide_true,Bool.not_true,Bool.false_eq_true,if_false]
 rw[if_neg (by simp;omega),put_eq (by omega)]
 rfl
theorem XD {r:List Int} {n k:Int} (h1:0≤k∧k≤100∧k≤n∧n≤1099511627776) (h2:(r.length:Int)=k) (h3:wF r n):Yp [r] n k:=⟨h1.1,h1.2.1,h1.2.2.1,h1.2.2.2,by simp,fun x hx=>by simp at hx;subst hx;exact⟨h2,h3⟩⟩
theorem abu {a b n:Int} (h:0≤a∧a<n∧0≤b∧b<n-1∧2≤n∧n≤1000):wF [a,b] n:=by
 refine⟨by omega,by omega,by simp,by simp;omega,fun i x hx =>?_⟩
 match i with
 | 0=>simp at hx;subst hx;simp;omega
 | 1=>simp at hx;subst hx;simp;omega
 | i+2=>simp at hx
theorem N4 {y:Int} (h:(Lit.int .i64 y).wf=true) : -9223372036854775808≤y∧y≤9223372036854775807:=by
 have h':(decide (IntKind.i64.min≤y)&&decide (y≤IntKind.i64.max))=true:=h
 simp only[Bool.and_eq_true,decide_eq_true_eq]at h'
 exact h'
end Go.Proofs.YtpkahnkoecbndaaGreatDoor.P.T
namespace Go.Proofs.YtpkahnkoecbndaaGreatDoor.P
open Go.RowKit
set_option linter.unusedSimpArgs false
set_option linter.unusedVariables false
def aL (n:Nat):List Int:=if h:n=0 then [] else ((n % 1048576:Nat):Int)::aL (n / 1048576)
termination_by n
decreasing_by omega
def dv:List Int→Int
 | []=>0
 | d::l=>d+1048576*dv l
def Dg (l:List Int):Prop:=∀d∈l,0≤d∧d<1048576
def pw (i:Nat):Int:=1048576 ^ i
theorem oh:pw 0=1:=rfl
theorem j4 (i:Nat):pw (i+1)=1048576*pw i:=by unfold pw;rw[Int.pow_succ,Int.mul_comm]
theorem lZ (i:Nat):0<pw i:=by unfold pw;exact Int.pow_pos (by decide)
theorem Ez (i j:Nat):pw (i+j)=pw i*pw j:=by unfold pw;rw[Int.pow_add]
theorem v7 {i j:Nat} (h:i≤j):pw i≤pw j:=by
 obtain⟨k,rfl⟩:=Nat.le.dest h
 rw[Ez]
 have h1:=lZ i
 have h2:=lZ k
 calc pw i=pw i*1:=by rw[Int.mul_one]
  _≤pw i*pw k:=Int.mul_le_mul_of_nonneg_left (by omega) (by omega)
theorem cJ:aL 0=[]:=by rw[aL];rfl
theorem mO {n:Nat} (h:n≠0):aL n=((n % 1048576:Nat):Int)::aL (n / 1048576):=by rw[aL,dif_neg h]
theorem ri {n:Nat} : aL n=[]↔n=0:=by
 constructor
 ·intro h
  rcases Nat.eq_zero_or_pos n with h0|h0
  ·exact h0
  ·rw[mO (by omega)]at h;cases h
 ·rintro rfl;exact cJ
theorem bR:∀n:Nat,dv (aL n)=n:=by
 intro n
 induction n using Nat.strongRecOn with
 | _ n ih =>
  rcases Nat.eq_zero_or_pos n with h0|h0
  ·subst h0;rw[cJ];rfl
  ·rw[mO (by omega),dv,ih (n / 1048576) (by omega)]
   omega
theorem cM:∀n:Nat,Dg (aL n):=by
 intro n
 induction n using Nat.strongRecOn with
 | _ n ih =>
  rcases Nat.eq_zero_or_pos n with h0|h0
  ·subst h0;rw[cJ];intro d hd;cases hd
  ·rw[mO (by omega)]
   intro d hd
   rcases List.mem_cons.1 hd with rfl|hd
   ·omega
   ·exact ih (n / 1048576) (by omega) d hd
theorem Dg.nil:Dg []:=fun d hd=>by cases hd
theorem Dg.cons {d:Int} {l:List Int} (h:Dg (d::l)):(0≤d∧d<1048576)∧Dg l:=⟨h d List.mem_cons_self,fun x hx=>h x (List.mem_cons_of_mem _ hx)⟩
theorem Dg.mk {d:Int} {l:List Int} (h:0≤d∧d<1048576) (hl:Dg l):Dg (d::l):=fun x hx=>by
 rcases List.mem_cons.1 hx with rfl|hx
 ·exact h
 ·exact hl x hx
theorem Dg.append {l m:List Int} (h:Dg l) (hm:Dg m):Dg (l++m):=fun x hx=>(List.mem_append.1 hx).elim (h x) (hm x)
theorem Dg.take {l:List Int} (h:Dg l) (n:Nat):Dg (l.take n):=fun x hx=>h x (List.mem_of_mem_take hx)
theorem Dg.drop {l:List Int} (h:Dg l) (n:Nat):Dg (l.drop n):=fun x hx=>h x (List.mem_of_mem_drop hx)
theorem Dg.rep (n:Nat):Dg (List.replicate n 0):=fun x hx=>by rw[(List.mem_replicate.1 hx).2];omega
theorem Dg.set {l:List Int} (h:Dg l) (i:Nat) {x:Int} (hx:0≤x∧x<1048576):Dg (l.set i x):=fun y hy=>by
 rcases List.mem_or_eq_of_mem_set hy with hy|rfl
 ·exact h y hy
 ·exact hx
theorem Dg.get {l:List Int} (h:Dg l) {i:Nat} (hi:i<l.length):0≤l[i]∧l[i]<1048576:=h _ (List.getElem_mem hi)
theorem cK:∀ {l:List Int},Dg l→0≤dv l
 | [],_=>Int.le_refl _
 | d::l,h=>by
  have h1:=h.cons
  have:=cK h1.2
  simp only[dv]
  omega
theorem oP:∀ {l:List Int},Dg l→dv l<pw l.length
 | [],_=>by simp[dv,oh]
 | d::l,h=>by
  have h1:=h.cons
  have:=oP h1.2
  simp only[dv,List.length_cons,j4]
  omega
theorem fG:∀l m:List Int,dv (l++m)=dv l+pw l.length*dv m
 | [],m=>by simp[dv,oh]
 | d::l,m=>by
  rw[List.cons_append,dv,dv,fG l m,List.length_cons,j4,Int.mul_add,Int.mul_assoc]
  omega
theorem Dn:∀n:Nat,dv (List.replicate n 0)=0
 | 0=>rfl
 | n+1=>by rw[List.replicate_succ,dv,Dn n];rfl
theorem fl {l:List Int} {i:Nat} (h:i<l.length):dv (l.take (i+1))=dv (l.take i)+pw i*l[i]:=by
 have e:l.take (i+1)=l.take i++[l[i]]:=by rw[List.take_add_one];simp[h]
 rw[e,fG,List.length_take,Nat.min_eq_left (by omega)]
 simp[dv]
theorem iE (l:List Int) {i:Nat} (h:i≤l.length):dv l=dv (l.take i)+pw i*dv (l.drop i):=by
 have:=fG (l.take i) (l.drop i)
 rw[List.take_append_drop,List.length_take,Nat.min_eq_left h]at this
 exact this
theorem z8 {l:List Int} {i:Nat} (h:i<l.length) (x:Int):dv (l.set i x)=dv l+pw i*(x-l[i]):=by
 induction l generalizing i with
 | nil=>simp at h
 | cons d l ih =>
  cases i with
  | zero=>simp only[List.set_cons_zero,dv,oh,List.getElem_cons_zero];omega
  | succ i =>
   have:=ih (i:=i) (by simpa using h)
   simp only[List.set_cons_succ,dv,this,j4,List.getElem_cons_succ,Int.mul_add,Int.mul_assoc]
   omega
theorem Cg:∀ {l:List Int},Dg l→(∀h:l≠[],l.getLast h≠0)→aL (dv l).toNat=l
 | [],_,_=>by simp[dv,cJ]
 | d::l,h,hl=>by
  have h1:=h.cons
  have h2:=cK h1.2
  have hne:(dv (d::l)).toNat≠0:=by
   simp only[dv]
   intro h0
   have hd:d=0:=by omega
   have hv:dv l=0:=by omega
   cases l with
   | nil=>exact hl (by simp) (by simpa using hd)
   | cons e m =>
    have ih:=Cg h1.2 (fun hh=>by have:=hl (by simp);simpa using this)
    rw[hv]at ih
    simp[cJ]at ih
  rw[mO hne]
  have e1:(dv (d::l)).toNat % 1048576=d.toNat:=by simp only[dv];omega
  have e2:(dv (d::l)).toNat / 1048576=(dv l).toNat:=by simp only[dv];omega
  rw[e1,e2]
  have hd:(d.toNat:Int)=d:=by omega
  rw[hd]
  cases l with
  | nil=>simp[dv,cJ]
  | cons e m=>rw[Cg h1.2 (fun hh=>by have:=hl (by simp);simpa using this)]
theorem Ss:∀(n:Nat) (h:aL n≠[]),(aL n).getLast h≠0:=by
 intro n
 induction n using Nat.strongRecOn with
 | _ n ih =>
  intro h
  have hn:n≠0:=fun h0=>h (ri.2 h0)
  have e:=mO hn
  by_cases hq:n / 1048576=0
  ·have:aL n=[((n % 1048576:Nat):Int)]:=by rw[e,hq,cJ]
   simp only[this,List.getLast_singleton]
   omega
  ·have hne:aL (n / 1048576)≠[]:=fun h0=>hq (ri.1 h0)
   have:=ih (n / 1048576) (by omega) hne
   simp only[e]
   rw[List.getLast_cons hne]
   exact this
theorem Us {a b:Nat} (h:aL a=aL b):a=b:=by
 have:=congrArg dv h
 rw[bR,bR]at this
 omega
theorem fZ {n k:Nat} (h:(n:Int)<pw k):(aL n).length≤k:=by
 induction k generalizing n with
 | zero =>
  rw[oh]at h
  have:n=0:=by omega
  rw[this,cJ];simp
 | succ k ih =>
  by_cases h0:n=0
  ·rw[h0,cJ];simp
  ·rw[mO h0,List.length_cons]
   rw[j4]at h
   have:=ih (n:=n / 1048576) (by omega)
   omega
theorem ff (n:Nat):(n:Int)<pw (aL n).length:=by
 have:=oP (cM n)
 rwa [bR]at this
theorem yr {n:Nat} (h:n≠0):pw ((aL n).length-1)≤n∧0<(aL n).length:=by
 induction n using Nat.strongRecOn with
 | _ n ih =>
  rw[mO h,List.length_cons]
  refine⟨?_,by omega⟩
  by_cases hq:n / 1048576=0
  ·rw[hq,cJ];simp[oh];omega
  ·obtain⟨h1,h2⟩:=ih (n / 1048576) (by omega) hq
   have:(aL (n / 1048576)).length+1-1=((aL (n / 1048576)).length-1)+1:=by omega
   rw[this,j4]
   omega
theorem CI {x:Int} (h1 : -9223372036854775808≤x) (h2:x<9223372036854775808):oN .and .i64 x 1048575=x % 1048576:=by
 unfold oN
 simp only
 have e1:(BitVec.ofInt IntKind.i64.bits x &&& BitVec.ofInt IntKind.i64.bits 1048575).toNat=((x % 18446744073709551616).toNat) % 1048576:=by
  rw[BitVec.toNat_and,BitVec.toNat_ofInt,BitVec.toNat_ofInt]
  have e:((1048575:Int) % ((2 ^ IntKind.i64.bits:Nat):Int)).toNat=2 ^ 20-1:=by decide
  rw[e,Nat.and_two_pow_sub_one_eq_mod]
  rfl
 rw[e1,wrap64 (by omega) (by omega)]
 omega
theorem VR (x:Int):AH .i64 x 20=some (x / 1048576):=by
 unfold AH
 rw[if_neg (by decide)]
 have e:(2:Int) ^ (min (Int.toNat 20) IntKind.i64.bits)=1048576:=by decide
 rw[e,Int.fdiv_eq_ediv_of_nonneg _ (by decide)]
theorem VP {x:Int} (h0:0≤x) (h:x<8796093022208):Ge .i64 x 20=some (1048576*x):=by
 unfold Ge
 rw[if_neg (by decide)]
 have e:(2:Int) ^ (min (Int.toNat 20) IntKind.i64.bits)=1048576:=by decide
 rw[e,wrap64 (by omega) (by omega),Int.mul_comm]
theorem PD {x y:Int} (h0:0≤x) (h:x<8796093022208) (hy:0≤y∧y<1048576):oN .or .i64 (1048576*x) y=1048576*x+y:=by
 unfold oN
 simp only
 have e1:(BitVec.ofInt IntKind.i64.bits (1048576*x) ||| BitVec.ofInt IntKind.i64.bits y).toNat=1048576*x.toNat+y.toNat:=by
  rw[BitVec.toNat_or,BitVec.toNat_ofInt,BitVec.toNat_ofInt]
  have e:((2 ^ IntKind.i64.bits:Nat):Int)=18446744073709551616:=by decide
  rw[e]
  have e2:((1048576*x) % 18446744073709551616).toNat=x.toNat <<< 20:=by rw[Nat.shiftLeft_eq];omega
  have e3:(y % 18446744073709551616).toNat=y.toNat:=by omega
  rw[e2,e3,← Nat.shiftLeft_add_eq_or_of_lt (by omega),Nat.shiftLeft_eq]
  omega
 rw[e1,wrap64 (by omega) (by omega)]
 omega
theorem Z2 {n:Nat} (h:n≤17592186044416):MS 8 (n:Int) (n:Int) (0:Int)=some (List.replicate n 0):=by
 unfold MS
 rw[if_pos]
 ·simp
 ·have:(17592186044416:Int)≤maxLen:=by decide
  refine⟨by omega,by omega,by omega,?_⟩
  simp only[Int.toNat_natCast]
  omega
theorem Fk {l m:List Int} (h:l.length+m.length≤17592186044416):ik 8 l m=some (l++m):=by
 unfold ik
 have:(17592186044416:Nat)≤maxLen:=by decide
 rw[if_pos ⟨by omega,by omega⟩]
theorem eN {σ ρ:Type} {body:σ→Option (σ⊕ρ)} (I:Nat→σ→Prop) (n:Nat) (Q:ρ→Prop) {s:σ} (hI:I 0 s) (hn:n+1<FU)
  (hstep:∀i s,i≤n→I i s→(i<n∧∃s',body s=some (.inl s')∧I (i+1) s')∨(∃r,body s=some (.inr r)∧Q r)):∃r,aS body s=some r∧Q r:=by
 have key:∀(k i:Nat) (s:σ),i≤n→n-i<k→I i s→∃r,mQ body k s=some r∧Q r:=by
  intro k
  induction k with
  | zero=>intro i s _ h;omega
  | succ k ih =>
   intro i s hi hk hI
   rcases hstep i s hi hI with⟨hlt,s',h1,h2⟩|⟨r,h1,h2⟩
   ·obtain⟨r,h3,h4⟩:=ih (i+1) s' (by omega) (by omega) h2
    exact⟨r,by simp only[mQ,h1];exact h3,h4⟩
   ·exact⟨r,by simp only[mQ,h1],h2⟩
 exact key FU 0 s (Nat.zero_le _) (by omega) hI
theorem Ry (i:Nat) (x:Int):pw (i+1)*x=pw i*(1048576*x):=by rw[j4,Int.mul_comm 1048576 (pw i),Int.mul_assoc]
theorem AB (i:Nat) (t:Int):pw i*(t % 1048576)+pw (i+1)*(t / 1048576)=pw i*t:=by
 rw[Ry,← Int.mul_add]
 congr 1
 omega
theorem mR {n:Nat} (h:n≤17592186044416):n+1<FU:=by unfold FU;omega
abbrev Fit (l:List Int):Prop:=l.length≤17592186044416
theorem iV {x:Int} (h : -4611686018427387904≤x∧x≤4611686018427387904):IntKind.i64.wrap x=x:=wrap64 (by omega) (by omega)
theorem ru {α:Type} (o:Option α):(o.bind fun r=>some r)=o:=by cases o<;>rfl
theorem Iv {l:List Int} (hl:Fit l):∃r,aS (kq l) (l.length:Int)=some r∧∃k:Nat,r=k∧k≤l.length∧(∀j (hj:j<l.length),k≤j→l[j]=0)∧(∀h:0<k,∀hk:k-1<l.length,l[k-1]≠0):=by
 unfold Fit at hl
 refine eN (I:=fun i s=>s=((l.length-i:Nat):Int)∧(∀j (hj:j<l.length),l.length-i≤j→l[j]=0)) l.length _ ⟨rfl,fun j hj h=>by omega⟩ (mR hl) ?_
 rintro i s hi ⟨rfl,hz⟩
 generalize hk:l.length-i=k at *
 simp only[kq]
 by_cases h0:0<k
 ·have hk1:k-1<l.length:=by omega
  have e:IntKind.i64.wrap ((k:Int)-1)=((k-1:Nat):Int):=by rw[iV (by omega)];omega
  rw[if_pos (by simp;omega),e,cG hk1,Option.bind_some]
  by_cases hx:l[k-1]=0
  ·left
   refine⟨by omega,_,by rw[if_pos (by simpa using hx)],by rw[show l.length-(i+1)=k-1 by omega],fun j hj h =>?_⟩
   by_cases hj':j=k-1
   ·subst hj';exact hx
   ·exact hz j hj (by omega)
  ·right
   exact⟨_,by rw[if_neg (by simpa using hx)],k,rfl,by omega,hz,fun _ _=>hx⟩
 ·right
  exact⟨_,by rw[if_neg (by simp;omega)],k,rfl,by omega,hz,fun h=>absurd h h0⟩
theorem UE {l:List Int} {k:Nat} (hz:∀j (hj:j<l.length),k≤j→l[j]=0):dv (l.drop k)=0:=by
 have:l.drop k=List.replicate (l.drop k).length 0:=by
  refine List.eq_replicate_of_mem fun x hx =>?_
  obtain⟨i,hi,rfl⟩:=List.mem_iff_getElem.1 hx
  rw[List.getElem_drop]
  exact hz _ _ (by omega)
 rw[this,Dn]
theorem zu {l:List Int} (hl:Fit l) (hd:Dg l):eL l=some (aL (dv l).toNat):=by
 obtain⟨r,h1,k,rfl,hk,hz,hlast⟩:=Iv hl
 unfold eL
 rw[h1,Option.bind_some,Cr hk,Option.bind_some]
 congr 1
 have h2:dv l=dv (l.take k):=by rw[iE l hk,UE hz];omega
 rw[h2]
 refine (Cg (hd.take k) fun hne =>?_).symm
 have hk0:0<k:=by
  rcases Nat.eq_zero_or_pos k with h|h
  ·subst h;simp at hne
  ·exact h
 have:=hlast hk0 (by omega)
 rw[List.getLast_eq_getElem]
 simp only[List.length_take,List.getElem_take,Nat.min_eq_left hk]
 exact this
theorem Cs {l:List Int} {n:Nat} (hl:Fit l) (hd:Dg l) (hn:dv l=n):eL l=some (aL n):=by
 rw[zu hl hd,hn];rfl
def gd (l:List Int) (i:Nat):Int:=if h:i<l.length then l[i] else 0
theorem Q9 {l:List Int} (h:Dg l) (i:Nat):0≤gd l i∧gd l i<1048576:=by
 unfold gd
 split
 ·exact h.get _
 ·omega
theorem yO {l:List Int} (i:Nat):dv (l.take (i+1))=dv (l.take i)+pw i*gd l i:=by
 unfold gd
 split
 ·exact fl _
 ·rw[List.take_of_length_le (by omega),List.take_of_length_le (by omega)];simp
theorem I1 {l:List Int} {i:Nat} (h:l.length≤i):dv (l.take i)=dv l:=by rw[List.take_of_length_le h]
theorem yk {l:List Int} (h:Fit l):bI l=some l:=by
 unfold bI
 rw[Fk (by simpa using h),List.nil_append]
theorem Ra {l:List Int} {i:Nat} (h:i<l.length):gd l i=l[i]:=by unfold gd;rw[dif_pos h]
theorem Lu {l:List Int} {i:Nat} (h:l.length≤i):gd l i=0:=by unfold gd;rw[dif_neg (by omega)]
theorem jq {l:List Int} {i:Nat} (h:i<l.length):dv (l.drop i)=l[i]+1048576*dv (l.drop (i+1)):=by
 rw[List.drop_eq_getElem_cons h,dv]
theorem W6 {x d:Int} (h:0≤x) (hd:0<d) (hx:x<4611686018427387904):z6 .i64 x d=some (x / d):=by
 unfold z6
 rw[if_neg (by omega),Int.tdiv_eq_ediv_of_nonneg h,iV]
 have:=Int.ediv_nonneg h (Int.le_of_lt hd)
 have:=Int.ediv_le_self d h
 omega
theorem YY {x d:Int} (h:0≤x) (hd:0<d):wD .i64 x d=some (x % d):=by
 unfold wD
 rw[if_neg (by omega),Int.tmod_eq_emod_of_nonneg h]
theorem PL {a:List Int} {d:Int} (ha:Dg a) (hd:0<d∧d≤1048576) (hf:Fit a) :
  ∃r,aS (nQ a d) (0,IntKind.i64.wrap ((a.length:Int)-1),List.replicate a.length 0)=some r∧r.2.length=a.length∧Dg r.2∧(0≤r.1∧r.1<d)∧dv a=d*dv r.2+r.1:=by
 unfold Fit at hf
 have e0:IntKind.i64.wrap ((a.length:Int)-1)=(a.length:Int)-1:=iV (by omega)
 rw[e0]
 refine eN (I:=fun i s=>s.2.1=((a.length-i:Nat):Int)-1∧s.2.2.length=a.length∧Dg s.2.2∧(0≤s.1∧s.1<d)∧dv (a.drop (a.length-i))=d*dv (s.2.2.drop (a.length-i))+s.1)
  a.length _ ⟨rfl,by simp,Dg.rep _,by simp;omega,by simp[dv]⟩ (mR (by omega)) ?_
 rintro i ⟨r,s,l⟩ hi ⟨h1,hl,hg,hr,he⟩
 simp only at h1 hl hg hr he
 subst h1
 generalize hk:a.length-i=k at *
 simp only[nQ]
 by_cases h0:0<k
 ·left
  have hk1:k-1<a.length:=by omega
  have hk2:k-1<l.length:=by omega
  have ek:((k:Int)-1)=((k-1:Nat):Int):=by omega
  have ga:=ha.get hk1
  rw[ek,if_pos (by simp),VP (by omega) (by omega),Option.bind_some,cG hk1,Option.bind_some,PD (by omega) (by omega) ga,W6 (by omega) hd.1 (by omega),Option.bind_some,cG hk2,Option.bind_some,YY (by omega) hd.1,Option.bind_some]
  have e1:IntKind.i64.wrap (((k-1:Nat):Int)-1)=((k-1:Nat):Int)-1:=iV (by omega)
  have hx0:0≤1048576*r+a[k-1]:=by omega
  have hq0:0≤(1048576*r+a[k-1]) / d:=Int.ediv_nonneg hx0 (by omega)
  have hq1:(1048576*r+a[k-1]) / d<1048576:=by
   apply Int.ediv_lt_of_lt_mul hd.1
   have:1048576*r≤1048576*(d-1):=Int.mul_le_mul_of_nonneg_left (by omega) (by omega)
   omega
  have hm0:=Int.emod_nonneg (1048576*r+a[k-1]) (show d≠0 by omega)
  have hm1:=Int.emod_lt_of_pos (1048576*r+a[k-1]) hd.1
  refine⟨by omega,_,rfl,by rw[e1,show a.length-(i+1)=k-1 by omega],by simpa using hl,hg.set _ ⟨hq0,hq1⟩,⟨hm0,hm1⟩,?_⟩
  simp only[Int.toNat_natCast]
  rw[show a.length-(i+1)=k-1 by omega,jq hk1,jq (l:=l.set (k-1) _) (i:=k-1) (by simpa using hk2),show k-1+1=k by omega,List.getElem_set_self,List.drop_set_of_lt (by omega),he]
  have:=Int.mul_ediv_add_emod (1048576*r+a[k-1]) d
  rw[Int.mul_add,Int.mul_add]
  have e3:d*(1048576*dv (l.drop k))=1048576*(d*dv (l.drop k)):=by rw[← Int.mul_assoc,Int.mul_comm d,Int.mul_assoc]
  rw[e3]
  omega
 ·right
  have:k=0:=by omega
  subst this
  refine⟨(r,l),by rw[if_neg (by simp)],hl,hg,hr,?_⟩
  simpa using he
theorem NI {a:List Int} {d:Int} (ha:Dg a) (hd:0<d∧d≤1048576) (hf:Fit a):kp a d=some (aL (dv a / d).toNat,dv a % d):=by
 obtain⟨⟨r,l⟩,h1,h2,h3,h4,h5⟩:=PL ha hd hf
 unfold kp
 rw[Z2 hf,Option.bind_some,h1,Option.bind_some]
 simp only at h2 h3 h4 h5 ⊢
 rw[zu (by unfold Fit at *;omega) h3,Option.bind_some]
 have e1:dv a / d=dv l:=by
  rw[h5,Int.mul_comm,Int.add_comm,Int.add_mul_ediv_right _ _ (by omega),Int.ediv_eq_zero_of_lt h4.1 h4.2];omega
 have e2:dv a % d=r:=by
  rw[h5,Int.mul_comm,Int.add_comm,Int.add_mul_emod_self_right]
  exact Int.emod_eq_of_lt h4.1 h4.2
 rw[e1,e2]
theorem S8 {b l0:List Int} {x:Int} {i n:Nat} (hb:Dg b) (hx:0≤x∧x<1048576) (h0:Dg l0) (hn:l0.length=n) (hi:i+b.length<n) (hf:n≤17592186044416) (hz:∀j (hj:j<l0.length),i+b.length≤j→l0[j]=0) :
  ∃r,aS (sh b (i:Int) x) (0,0,l0)=some r∧r.2.length=n∧Dg r.2∧(0≤r.1∧r.1<1048576)∧(∀j (hj:j<r.2.length),i+b.length≤j→r.2[j]=0)∧dv r.2+pw (i+b.length)*r.1=dv l0+pw i*(x*dv b):=by
 refine eN (I:=fun k s=>s.2.1=(k:Int)∧s.2.2.length=n∧Dg s.2.2∧(0≤s.1∧s.1<1048576)∧(∀j (hj:j<s.2.2.length),i+b.length≤j→s.2.2[j]=0)∧dv s.2.2+pw (i+k)*s.1=dv l0+pw i*(x*dv (b.take k)))
  b.length _ ⟨rfl,hn,h0,by simp,hz,by simp[dv]⟩ (mR (by omega)) ?_
 rintro k ⟨c,s,l⟩ hk ⟨h1,hl,hd,hc,hz,he⟩
 simp only at h1 hl hd hc hz he
 subst h1
 simp only[sh]
 by_cases hlt:k<b.length
 ·left
  have hik:i+k<l.length:=by omega
  have ei:IntKind.i64.wrap ((i:Int)+(k:Int))=((i+k:Nat):Int):=by rw[iV (by omega)];omega
  have gb:=hb.get hlt
  have gl:=hd.get hik
  have hm0:0≤x*b[k]:=Int.mul_nonneg hx.1 gb.1
  have hm1:x*b[k]≤1048575*1048575:=Int.mul_le_mul (by omega) (by omega) gb.1 (by omega)
  rw[if_pos (by simpa using hlt),cG hlt,Option.bind_some,ei,cG hik,Option.bind_some,iV (x:=x*b[k]) (by omega),iV (x:=l[i+k]+x*b[k]) (by omega),iV (x:=l[i+k]+x*b[k]+c) (by omega),VR,Option.bind_some,CI (by omega) (by omega)]
  have e1:IntKind.i64.wrap ((k:Int)+1)=((k+1:Nat):Int):=by rw[iV (by omega)];omega
  refine⟨hlt,_,rfl,e1,by simpa using hl,hd.set _ (by omega),by simp only;omega,fun j hj hij =>?_,?_⟩
  ·simp only[Int.toNat_natCast]at hj ⊢
   rw[List.getElem_set_ne (by omega)]
   exact hz j (by simpa using hj) hij
  ·simp only[Int.toNat_natCast]
   rw[z8 hik,fl hlt]
   have hp:=AB (i+k) (l[i+k]+x*b[k]+c)
   rw[Int.mul_add (pw (i+k)),Int.mul_add (pw (i+k))]at hp
   have e2:pw i*(x*(dv (b.take k)+pw k*b[k]))=pw i*(x*dv (b.take k))+pw (i+k)*(x*b[k]):=by
    rw[Int.mul_add,Int.mul_add,Ez]
    congr 1
    rw[Int.mul_left_comm x,← Int.mul_assoc]
   rw[e2,Int.mul_sub,show i+(k+1)=i+k+1 by omega]
   omega
 ·right
  have hkb:k=b.length:=by omega
  subst hkb
  refine⟨(c,l),by rw[if_neg (by simp)],hl,hd,hc,hz,?_⟩
  rw[he,List.take_length]
theorem S7 {a b:List Int} (ha:Dg a) (hb:Dg b) (hf:a.length+b.length≤17592186044416) :
  ∃l,aS (sg a b) (0,List.replicate (a.length+b.length) 0)=some l∧l.length=a.length+b.length∧Dg l∧dv l=dv a*dv b:=by
 refine eN (I:=fun i s=>s.1=(i:Int)∧s.2.length=a.length+b.length∧Dg s.2∧(∀j (hj:j<s.2.length),i+b.length≤j→s.2[j]=0)∧dv s.2=dv (a.take i)*dv b)
  a.length _ ⟨rfl,by simp,Dg.rep _,fun j hj _=>by simp,by simp[dv,Dn]⟩ (mR (by omega)) ?_
 rintro i ⟨s,l⟩ hi ⟨h1,hl,hd,hz,he⟩
 simp only at h1 hl hd hz he
 subst h1
 simp only[sg]
 by_cases hlt:i<a.length
 ·left
  have ga:=ha.get hlt
  obtain⟨⟨c,m⟩,g1,g2,g3,g4,g5,g6⟩:=S8 (i:=i) (n:=a.length+b.length) hb ga hd hl (by omega) hf hz
  rw[if_pos (by simpa using hlt),cG hlt,Option.bind_some,g1,Option.bind_some]
  simp only at g2 g3 g4 g5 g6 ⊢
  have ei:IntKind.i64.wrap ((i:Int)+(b.length:Int))=((i+b.length:Nat):Int):=by rw[iV (by omega)];omega
  have hib:i+b.length<m.length:=by omega
  rw[ei,cG hib,Option.bind_some,g5 _ hib (Nat.le_refl _),Int.zero_add,iV (x:=c) (by omega)]
  have e1:IntKind.i64.wrap ((i:Int)+1)=((i+1:Nat):Int):=by rw[iV (by omega)];omega
  refine⟨hlt,_,rfl,e1,by simpa using g2,g3.set _ g4,fun j hj hij =>?_,?_⟩
  ·simp only[Int.toNat_natCast]at hj ⊢
   rw[List.getElem_set_ne (by omega)]
   exact g5 j (by simpa using hj) (by omega)
  ·simp only[Int.toNat_natCast]
   rw[z8 hib,g5 _ hib (Nat.le_refl _),Int.sub_zero,g6,he,fl hlt,Int.add_mul,Int.mul_assoc]
 ·right
  have hia:i=a.length:=by omega
  subst hia
  refine⟨l,by rw[if_neg (by simp)],hl,hd,?_⟩
  rw[he,List.take_length]
theorem mul_eq {a b:List Int} (ha:Dg a) (hb:Dg b) (hf:a.length+b.length≤17592186044416):nP a b=some (aL (dv a*dv b).toNat):=by
 obtain⟨l,h1,h2,h3,h4⟩:=S7 ha hb hf
 unfold nP
 have e:IntKind.i64.wrap ((a.length:Int)+(b.length:Int))=((a.length+b.length:Nat):Int):=by rw[iV (by omega)];omega
 rw[e,Z2 hf,Option.bind_some,h1,Option.bind_some,ru,zu (by unfold Fit;omega) h3,h4]
def lO (x y:Int):Int:=if x<y then -1 else if y<x then 1 else 0
theorem Om (x y:Int):fY x y=some (lO x y):=by
 unfold fY jo lO
 simp only[bne_self_eq_false,Option.bind_some,Bool.false_eq_true,if_false,decide_eq_true_eq]
 split
 ·rfl
 ·split<;>rfl
theorem K0 {a b:List Int} (ha:Dg a) (hb:Dg b) (hf:Fit a) (hl:a.length=b.length):fw a b=some (lO (dv a) (dv b)):=by
 unfold Fit at hf
 unfold fw
 rw[if_neg (by simp;omega)]
 have e0:IntKind.i64.wrap ((a.length:Int)-1)=(a.length:Int)-1:=iV (by omega)
 rw[e0]
 have key:∃r,aS (k9 a b) ((a.length:Int)-1)=some r∧(match r with | .inl _=>lO (dv a) (dv b)=0 | .inr x=>x=lO (dv a) (dv b)):=by
  refine eN (I:=fun i s=>s=((a.length-i:Nat):Int)-1∧a.drop (a.length-i)=b.drop (a.length-i)) a.length _ ⟨rfl,?_⟩ (mR hf) ?_
  ·rw[List.drop_eq_nil_of_le (by omega),List.drop_eq_nil_of_le (by omega)]
  rintro i s hi ⟨rfl,he⟩
  generalize hk:a.length-i=k at *
  simp only[k9]
  by_cases h0:0<k
  ·have h1:k-1<a.length:=by omega
   have h2:k-1<b.length:=by omega
   have ek:((k:Int)-1)=((k-1:Nat):Int):=by omega
   rw[ek,if_pos (by simp),cG h1,Option.bind_some,cG h2,Option.bind_some]
   by_cases hx:a[k-1]=b[k-1]
   ·left
    rw[if_neg (by simpa using hx)]
    refine⟨by omega,_,rfl,by rw[iV (by omega)];omega,?_⟩
    rw[show a.length-(i+1)=k-1 by omega,List.drop_eq_getElem_cons h1,List.drop_eq_getElem_cons h2,hx,show k-1+1=k by omega,he]
   ·right
    rw[if_pos (by simpa using hx),Om,Option.bind_some]
    refine⟨_,rfl,?_⟩
    simp only
    have ea:=iE a (i:=k) (by omega)
    have eb:=iE b (i:=k) (by omega)
    have ta:=fl h1
    have tb:=fl h2
    rw[show k-1+1=k by omega]at ta tb
    have la:=oP (ha.take (k-1))
    have lb:=oP (hb.take (k-1))
    rw[List.length_take,Nat.min_eq_left (by omega)]at la lb
    have na:=cK (ha.take (k-1))
    have nb:=cK (hb.take (k-1))
    have hp:=lZ (k-1)
    rw[ta]at ea
    rw[tb]at eb
    rw[he]at ea
    unfold lO
    rcases Int.lt_or_gt_of_ne hx with hlt|hlt
    ·have:pw (k-1)*a[k-1]+pw (k-1)≤pw (k-1)*b[k-1]:=by
      have:pw (k-1)*(a[k-1]+1)≤pw (k-1)*b[k-1]:=Int.mul_le_mul_of_nonneg_left (by omega) (by omega)
      rwa [Int.mul_add,Int.mul_one]at this
     rw[if_pos hlt,if_pos (by omega)]
    ·have:pw (k-1)*b[k-1]+pw (k-1)≤pw (k-1)*a[k-1]:=by
      have:pw (k-1)*(b[k-1]+1)≤pw (k-1)*a[k-1]:=Int.mul_le_mul_of_nonneg_left (by omega) (by omega)
      rwa [Int.mul_add,Int.mul_one]at this
     rw[if_neg (by omega),if_pos hlt,if_neg (by omega),if_pos (by omega)]
  ·right
   have:k=0:=by omega
   subst this
   refine⟨.inl (),by rw[if_neg (by simp)],?_⟩
   simp only[List.drop_zero]at he
   simp[he,lO]
 obtain⟨r,h1,h2⟩:=key
 rw[h1,Option.bind_some]
 cases r with
 | inl u=>simp only at h2 ⊢;rw[h2]
 | inr x=>simp only at h2 ⊢;rw[h2]
theorem uA {m n:Nat} (h:(aL m).length<(aL n).length):m<n:=by
 have h1:=ff m
 have hn:n≠0:=fun h0=>by subst h0;rw[cJ]at h;simp at h
 have h2:=yr hn
 have h3:=v7 (i:=(aL m).length) (j:=(aL n).length-1) (by omega)
 omega
theorem dK {m n:Nat} (h:m≤n):(aL m).length≤(aL n).length:=by
 rcases Nat.lt_or_ge (aL n).length (aL m).length with h1|h1
 ·have:=uA h1;omega
 ·exact h1
theorem C8 {m n:Nat} (hm:Fit (aL m)) (hn:Fit (aL n)):fw (aL m) (aL n)=some (lO m n):=by
 by_cases hl:(aL m).length=(aL n).length
 ·rw[K0 (cM m) (cM n) hm hl,bR,bR]
 ·unfold fw
  rw[if_pos (by simp;omega),Om,ru]
  unfold lO
  rcases Nat.lt_or_gt_of_ne hl with h|h
  ·have:=uA h
   rw[if_pos (by omega),if_pos (by omega)]
  ·have:=uA h
   rw[if_neg (by omega),if_pos (by omega),if_neg (by omega),if_pos (by omega)]
theorem J1 {u v:List Int} {g:Int} (hu:Dg u) (hv:Dg v) (hg:0≤g∧g≤1048576) (hf:Fit u) (hl:v.length≤u.length) :
  ∃r,aS (jV u v g) (0,0,u)=some r∧r.2.length=u.length∧Dg r.2∧(0≤r.1∧r.1≤1048576)∧dv r.2+g*dv v=dv u+pw u.length*r.1:=by
 unfold Fit at hf
 refine eN (I:=fun i s=>s.2.1=(i:Int)∧s.2.2.length=u.length∧Dg s.2.2∧(∀j (hj:j<s.2.2.length) (hj':j<u.length),i≤j→s.2.2[j]=u[j])∧(0≤s.1∧s.1≤1048576)∧dv s.2.2+g*dv (v.take i)=dv u+pw i*s.1)
  u.length _ ⟨rfl,rfl,hu,fun j hj _ _=>rfl,by simp,by simp[dv]⟩ (mR (by omega)) ?_
 rintro i ⟨c,s,l⟩ hi ⟨h1,hll,hd,hz,hc,he⟩
 simp only at h1 hll hd hz hc he
 subst h1
 simp only[jV]
 by_cases hlt:i<u.length
 ·left
  have hli:i<l.length:=by omega
  rw[if_pos (by simpa using hlt),cG hli,Option.bind_some,hz i hli hlt (Nat.le_refl _)]
  have ga:=hu.get hlt
  have gb:=Q9 hv i
  have hm0:0≤g*gd v i:=Int.mul_nonneg hg.1 gb.1
  have hm1:g*gd v i≤1048576*1048575:=Int.mul_le_mul (by omega) (by omega) gb.1 (by omega)
  have hT:(if decide ((i:Int)<(v.length:Int))=true then (P.idx v (i:Int)).bind fun x17=>some (IntKind.i64.wrap ((IntKind.i64.wrap (u[i]-c))-(IntKind.i64.wrap (g*x17)))) else some (IntKind.i64.wrap (u[i]-c)))=some (u[i]-c-g*gd v i):=by
   by_cases hib:i<v.length
   ·rw[if_pos (by simpa using hib),cG hib,Option.bind_some]
    rw[Ra hib]at gb hm0 hm1 ⊢
    rw[iV (x:=u[i]-c) (by omega),iV (x:=g*v[i]) (by omega),iV (by omega)]
   ·rw[if_neg (by simpa using hib),Lu (by omega),iV (by omega)];simp
  rw[hT,Option.bind_some,VR,Option.bind_some,CI (by omega) (by omega),iV (x:=0-_) (by omega)]
  have e1:IntKind.i64.wrap ((i:Int)+1)=((i+1:Nat):Int):=by rw[iV (by omega)];omega
  refine⟨hlt,_,rfl,e1,by simpa using hll,hd.set _ (by omega),fun j hj hj' hij =>?_,by simp only;omega,?_⟩
  ·simp only[Int.toNat_natCast]at hj ⊢
   rw[List.getElem_set_ne (by omega)]
   exact hz j (by simpa using hj) hj' (by omega)
  ·simp only[Int.toNat_natCast]
   rw[z8 hli,hz i hli hlt (Nat.le_refl _),yO]
   have hp:=AB i (u[i]-c-g*gd v i)
   rw[Int.mul_sub (pw i),Int.mul_sub (pw i)]at hp
   have e2:g*(dv (v.take i)+pw i*gd v i)=g*dv (v.take i)+pw i*(g*gd v i):=by rw[Int.mul_add,Int.mul_left_comm]
   rw[e2,Int.mul_sub (pw i),Int.mul_sub (pw (i+1)),Int.mul_zero]
   omega
 ·right
  have hia:i=u.length:=by omega
  subst hia
  refine⟨(c,l),by rw[if_neg (by simp)],hll,hd,hc,?_⟩
  rw[I1 hl]at he
  exact he
theorem J2 {u v:List Int} (hu:Dg u) (hv:Dg v) (hf:Fit u) (hl:v.length≤u.length) :
  ∃l,aS (jW v u) (0,0,u)=some l∧l.length=u.length∧Dg l∧∃c,0≤c∧dv l+pw u.length*c=dv u+dv v:=by
 unfold Fit at hf
 refine eN (I:=fun i s=>s.2.1=(i:Int)∧s.2.2.length=u.length∧Dg s.2.2∧(∀j (hj:j<s.2.2.length) (hj':j<u.length),i≤j→s.2.2[j]=u[j])∧(0≤s.1∧s.1≤1)∧dv s.2.2+pw i*s.1=dv u+dv (v.take i))
  u.length _ ⟨rfl,rfl,hu,fun j hj _ _=>rfl,by simp,by simp[dv]⟩ (mR (by omega)) ?_
 rintro i ⟨c,s,l⟩ hi ⟨h1,hll,hd,hz,hc,he⟩
 simp only at h1 hll hd hz hc he
 subst h1
 simp only[jW]
 by_cases hlt:i<u.length
 ·left
  have hli:i<l.length:=by omega
  rw[if_pos (by simpa using hlt),cG hli,Option.bind_some,hz i hli hlt (Nat.le_refl _)]
  have ga:=hu.get hlt
  have gb:=Q9 hv i
  have hT:(if decide ((i:Int)<(v.length:Int))=true then (P.idx v (i:Int)).bind fun x35=>some (IntKind.i64.wrap ((IntKind.i64.wrap (c+u[i]))+x35)) else some (IntKind.i64.wrap (c+u[i])))=some (c+u[i]+gd v i):=by
   by_cases hib:i<v.length
   ·rw[if_pos (by simpa using hib),cG hib,Option.bind_some]
    rw[Ra hib]at gb ⊢
    rw[iV (x:=c+u[i]) (by omega),iV (by omega)]
   ·rw[if_neg (by simpa using hib),Lu (by omega),iV (by omega)];simp
  rw[hT,Option.bind_some,VR,Option.bind_some,CI (by omega) (by omega)]
  have e1:IntKind.i64.wrap ((i:Int)+1)=((i+1:Nat):Int):=by rw[iV (by omega)];omega
  refine⟨hlt,_,rfl,e1,by simpa using hll,hd.set _ (by omega),fun j hj hj' hij =>?_,by simp only;omega,?_⟩
  ·simp only[Int.toNat_natCast]at hj ⊢
   rw[List.getElem_set_ne (by omega)]
   exact hz j (by simpa using hj) hj' (by omega)
  ·simp only[Int.toNat_natCast]
   rw[z8 hli,hz i hli hlt (Nat.le_refl _),yO]
   have hp:=AB i (c+u[i]+gd v i)
   rw[Int.mul_add (pw i),Int.mul_add (pw i)]at hp
   rw[Int.mul_sub (pw i)]
   omega
 ·right
  have hia:i=u.length:=by omega
  subst hia
  refine⟨l,by rw[if_neg (by simp)],hll,hd,c,hc.1,?_⟩
  rw[I1 hl]at he
  exact he
theorem Tr {u v:List Int} {g:Int} (hu:Dg u) (hv:Dg v) (hf:Fit u) (hl:v.length≤u.length) (hV:0<dv v) (hg0:dv u / dv v≤g) (hg1:g≤dv u / dv v+1) (hgB:g≤1048576) :
  ∃l,fj u v g=some (l,dv u / dv v)∧l.length=u.length∧Dg l∧dv l=dv u % dv v:=by
 have hq0:0≤dv u / dv v:=Int.ediv_nonneg (cK hu) (by omega)
 obtain⟨⟨c,l⟩,h1,h2,h3,h4,h5⟩:=J1 hu hv ⟨by omega,hgB⟩ hf hl
 simp only at h2 h3 h4 h5
 have hm:=Int.mul_ediv_add_emod (dv u) (dv v)
 have hm0:=Int.emod_nonneg (dv u) (show dv v≠0 by omega)
 have hm1:=Int.emod_lt_of_pos (dv u) hV
 have hll:=oP h3
 have hl0:=cK h3
 rw[h2]at hll
 have hp:=lZ u.length
 have hvl:dv v<pw u.length:=Int.lt_of_lt_of_le (oP hv) (v7 hl)
 unfold fj oM
 rw[h1,Option.bind_some]
 simp only
 rcases (show g=dv u / dv v∨g=dv u / dv v+1 by omega) with hg|hg
 ·have hgv:g*dv v=dv v*(dv u / dv v):=by rw[hg,Int.mul_comm]
  have hc0:c=0:=by
   rcases (show c=0∨1≤c by omega) with h|h
   ·exact h
   ·have:pw u.length*1≤pw u.length*c:=Int.mul_le_mul_of_nonneg_left h (by omega)
    omega
  subst hc0
  rw[if_pos (by simp),Option.bind_some,if_pos (by simpa using h2)]
  exact⟨l,by rw[hg],h2,h3,by rw[Int.mul_zero]at h5;omega⟩
 ·have hgv:g*dv v=dv v*(dv u / dv v)+dv v:=by rw[hg,Int.add_mul,Int.one_mul,Int.mul_comm]
  have hc0:c≠0:=by
   intro h
   subst h
   rw[Int.mul_zero]at h5
   omega
  obtain⟨m,g1,g2,g3,d,g4,g5⟩:=J2 h3 hv (by unfold Fit at *;omega) (by omega)
  rw[if_neg (by simpa using hc0),g1,Option.bind_some,Option.bind_some,if_pos (by simp;omega)]
  refine⟨m,by rw[iV (by omega),hg];simp,by omega,g3,?_⟩
  rw[h2]at g5
  have hml:=oP g3
  have hm0':=cK g3
  rw[g2,h2]at hml
  have hcd:c=d:=by
   rcases Int.lt_trichotomy c d with h|h|h
   ·have:pw u.length*(c+1)≤pw u.length*d:=Int.mul_le_mul_of_nonneg_left (by omega) (by omega)
    rw[Int.mul_add,Int.mul_one]at this
    omega
   ·exact h
   ·have:pw u.length*(d+1)≤pw u.length*c:=Int.mul_le_mul_of_nonneg_left (by omega) (by omega)
    rw[Int.mul_add,Int.mul_one]at this
    omega
  subst hcd
  omega
theorem OS {v u:List Int} {s13:Int} {v1 v2 w2 T V W:Int} {n:Nat} (hn:2≤n) (hlen:v.length=n) (hfv:n≤17592186044416) (i:Nat) (hs:s13=i) (hfi:i+n≤17592186044416)
  (hv2:P.idx v (((n-2:Nat)):Int)=some v2) (hw2:P.idx u (((i+n-2:Nat)):Int)=some w2)
  (b1:524288≤v1∧v1<1048576) (b2:0≤v2∧v2<1048576) (bw:0≤w2∧w2<1048576) (hT0:0≤T) (hT1:T<1048576*1048576)
  (hV:pw (n-2)*(v1*1048576+v2)≤V∧V<pw (n-2)*(v1*1048576+v2+1)) (hW:pw (n-2)*(T*1048576+w2)≤W∧W<pw (n-2)*(T*1048576+w2+1)) (hWV:W<1048576*V) :
  ∃g,aS (sf v s13 u v1) (T / v1,T % v1)=some g∧W / V≤g∧g≤W / V+1∧g≤1048576:=by
 subst hs
 have hp:=lZ (n-2)
 have hVp:0<V:=by
  have:pw (n-2)*1≤pw (n-2)*(v1*1048576+v2):=Int.mul_le_mul_of_nonneg_left (by omega) (by omega)
  omega
 have hW0:0≤W:=by
  have:0≤pw (n-2)*(T*1048576+w2):=Int.mul_nonneg (by omega) (by omega)
  omega
 have hq0:0≤W / V:=Int.ediv_nonneg hW0 (by omega)
 have hqB:W / V<1048576:=Int.ediv_lt_of_lt_mul hVp hWV
 have hm:=Int.mul_ediv_add_emod T v1
 have hm0:=Int.emod_nonneg T (show v1≠0 by omega)
 have hm1:=Int.emod_lt_of_pos T (show 0<v1 by omega)
 have hd0:0≤T / v1:=Int.ediv_nonneg hT0 (by omega)
 have hd1:T / v1≤2097152:=by
  have:T / v1<2097153:=Int.ediv_lt_of_lt_mul (by omega) (by
   have:2097153*524288≤2097153*v1:=Int.mul_le_mul_of_nonneg_left b1.1 (by omega)
   omega)
  omega
 have hge:∀g r:Int,g*v1+r=T→W / V≤g→g*v2>r*1048576+w2→W / V≤g-1:=by
  intro g r h1 h2 h3
  have h4:W<g*V:=by
   have e1:g*(v1*1048576+v2)≥T*1048576+w2+1:=by
    rw[← h1]
    have:g*(v1*1048576+v2)=g*v1*1048576+g*v2:=by rw[Int.mul_add,Int.mul_assoc]
    rw[this,Int.add_mul]
    omega
   have e2:pw (n-2)*(T*1048576+w2+1)≤pw (n-2)*(g*(v1*1048576+v2)):=Int.mul_le_mul_of_nonneg_left e1 (by omega)
   have e3:g*(pw (n-2)*(v1*1048576+v2))≤g*V:=Int.mul_le_mul_of_nonneg_left hV.1 (by omega)
   have e4:pw (n-2)*(g*(v1*1048576+v2))=g*(pw (n-2)*(v1*1048576+v2)):=Int.mul_left_comm _ _ _
   omega
  have:=Int.ediv_lt_of_lt_mul hVp h4
  omega
 have hle:∀g r:Int,g*v1+r=T→0≤g→g≤1048576→g*v2≤r*1048576+w2→g≤W / V+1:=by
  intro g r h1 h0 hB h3
  have e1:g*(v1*1048576+v2)≤T*1048576+w2:=by
   rw[← h1]
   have:g*(v1*1048576+v2)=g*v1*1048576+g*v2:=by rw[Int.mul_add,Int.mul_assoc]
   rw[this,Int.add_mul]
   omega
  have e2:g*V≤W+V:=by
   have f1:g*V≤g*(pw (n-2)*(v1*1048576+v2+1)):=Int.mul_le_mul_of_nonneg_left (by omega) h0
   have f2:g*(pw (n-2)*(v1*1048576+v2+1))=pw (n-2)*(g*(v1*1048576+v2))+pw (n-2)*g:=by
    rw[Int.mul_left_comm,Int.mul_add g,Int.mul_one,Int.mul_add]
   have f3:pw (n-2)*(g*(v1*1048576+v2))≤pw (n-2)*(T*1048576+w2):=Int.mul_le_mul_of_nonneg_left e1 (by omega)
   have f4:pw (n-2)*g≤pw (n-2)*(v1*1048576+v2):=Int.mul_le_mul_of_nonneg_left (by omega) (by omega)
   omega
  have e3:(g-1)*V≤W:=by rw[Int.sub_mul,Int.one_mul];omega
  have:=Int.le_ediv_of_mul_le hVp e3
  omega
 have hbase:W / V≤T / v1:=by
  have e1:W<(T / v1+1)*V:=by
   have f1:T+1≤(T / v1+1)*v1:=by
    have:(T / v1+1)*v1=v1*(T / v1)+v1:=by rw[Int.add_mul,Int.one_mul,Int.mul_comm]
    omega
   have f2:T*1048576+w2+1≤(T / v1+1)*(v1*1048576+v2):=by
    have g1:(T+1)*1048576≤(T / v1+1)*v1*1048576:=Int.mul_le_mul_of_nonneg_right f1 (by omega)
    have g2:0≤(T / v1+1)*v2:=Int.mul_nonneg (by omega) b2.1
    rw[Int.mul_add,← Int.mul_assoc]
    omega
   have f3:pw (n-2)*(T*1048576+w2+1)≤pw (n-2)*((T / v1+1)*(v1*1048576+v2)):=Int.mul_le_mul_of_nonneg_left f2 (by omega)
   have f4:(T / v1+1)*(pw (n-2)*(v1*1048576+v2))≤(T / v1+1)*V:=Int.mul_le_mul_of_nonneg_left hV.1 (by omega)
   have f5:pw (n-2)*((T / v1+1)*(v1*1048576+v2))=(T / v1+1)*(pw (n-2)*(v1*1048576+v2)):=Int.mul_left_comm _ _ _
   omega
  have:=Int.ediv_lt_of_lt_mul hVp e1
  omega
 refine gM (I:=fun (s:Int×Int)=>s.1*v1+s.2=T∧W / V≤s.1∧s.1≤2097152∧0≤s.2) (μ:=fun (s:Int×Int)=>s.1.toNat) _ ⟨?_,hbase,hd1,hm0⟩ (by unfold FU;omega) ?_
 ·show T / v1*v1+T % v1=T
  rw[Int.mul_comm];exact hm
 rintro⟨g,r⟩ ⟨h1,h2,h3,h4⟩
 simp only at h1 h2 h3 h4
 have hgv:0≤g*v1:=Int.mul_nonneg (by omega) (by omega)
 simp only[sf]
 have el:IntKind.i64.wrap ((v.length:Int)-2)=((n-2:Nat):Int):=by rw[hlen,iV (by omega)];omega
 have ei:IntKind.i64.wrap ((IntKind.i64.wrap ((i:Int)+(v.length:Int)))-2)=((i+n-2:Nat):Int):=by rw[hlen,iV (x:=(i:Int)+n) (by omega),iV (by omega)];omega
 rw[el,ei]
 have hstep:W / V≤g-1→∃s':Int×Int,(some (Sum.inl (IntKind.i64.wrap (g-1),IntKind.i64.wrap (r+v1))):Option ((Int×Int)⊕Int))=some (.inl s')∧(s'.1*v1+s'.2=T∧W / V≤s'.1∧s'.1≤2097152∧0≤s'.2)∧s'.1.toNat<g.toNat:=by
  intro hlt
  refine⟨_,rfl,?_⟩
  rw[iV (x:=g-1) (by omega),iV (x:=r+v1) (by omega)]
  simp only
  refine⟨⟨by rw[Int.sub_mul,Int.one_mul];omega,hlt,by omega,by omega⟩,by omega⟩
 by_cases hgB:g≥1048576
 ·rw[if_pos (by simpa using hgB),Option.bind_some,if_pos rfl]
  exact .inl (hstep (by omega))
 ·rw[if_neg (by simpa using hgB)]
  by_cases hr:r<1048576
  ·have hgv2:0≤g*v2:=Int.mul_nonneg (by omega) b2.1
   have hgv2':g*v2≤1048576*1048576:=Int.mul_le_mul (by omega) (by omega) b2.1 (by omega)
   rw[if_pos (by simpa using hr),hv2,Option.bind_some,VP h4 (by omega),Option.bind_some,hw2,Option.bind_some,iV (x:=g*v2) (by omega),PD h4 (by omega) bw,Option.bind_some]
   by_cases ht:g*v2>1048576*r+w2
   ·rw[if_pos (by simpa using ht)]
    exact .inl (hstep (hge g r h1 h2 (by omega)))
   ·rw[if_neg (by simpa using ht)]
    exact .inr ⟨g,rfl,h2,hle g r h1 (by omega) (by omega) (by omega),by omega⟩
  ·rw[if_neg (by simpa using hr),Option.bind_some,if_neg (by simp)]
   refine .inr ⟨g,rfl,h2,hle g r h1 (by omega) (by omega) ?_,by omega⟩
   have:g*v2≤1048575*1048575:=Int.mul_le_mul (by omega) (by omega) b2.1 (by omega)
   have:1048576*1048576≤r*1048576:=Int.mul_le_mul_of_nonneg_right (by omega) (by omega)
   omega
theorem Y7 {α:Type} {l:List α} {a b:Nat} (h:a≤b) (hb:b≤l.length):E1 l (a:Int) (b:Int)=some ((l.drop a).take (b-a)):=by
 unfold E1
 rw[if_pos ⟨by omega,by omega,by omega⟩]
 simp
theorem W8 {l:List Int} {n:Nat} (hl:l.length=n) (hn:2≤n) (hd:Dg l) :
  pw (n-2)*((l[n-1]'(by omega))*1048576+l[n-2]'(by omega))≤dv l∧dv l<pw (n-2)*((l[n-1]'(by omega))*1048576+l[n-2]'(by omega)+1):=by
 have e:=iE l (i:=n-2) (by omega)
 rw[jq (by omega),jq (i:=n-2+1) (by omega),List.drop_eq_nil_of_le (by omega)]at e
 have e1:l[n-2+1]'(by omega)=l[n-1]'(by omega):=by congr 1;omega
 rw[e1]at e
 have h1:=cK (hd.take (n-2))
 have h2:=oP (hd.take (n-2))
 rw[List.length_take,Nat.min_eq_left (by omega)]at h2
 simp only[dv]at e
 have e2:l[n-2]'(by omega)+1048576*(l[n-1]'(by omega)+1048576*0)=(l[n-1]'(by omega))*1048576+l[n-2]'(by omega):=by omega
 rw[e2]at e
 rw[Int.mul_add (pw (n-2)) _ 1,Int.mul_one]
 omega
theorem W9 {l:List Int} {n:Nat} (hl:l.length=n+1) (hn:2≤n) (hd:Dg l) :
  pw (n-2)*((1048576*(l[n]'(by omega))+l[n-1]'(by omega))*1048576+l[n-2]'(by omega))≤dv l∧dv l<pw (n-2)*((1048576*(l[n]'(by omega))+l[n-1]'(by omega))*1048576+l[n-2]'(by omega)+1):=by
 have e:=iE l (i:=n-2) (by omega)
 rw[jq (by omega),jq (i:=n-2+1) (by omega),jq (i:=n-2+1+1) (by omega),List.drop_eq_nil_of_le (by omega)]at e
 have e1:l[n-2+1]'(by omega)=l[n-1]'(by omega):=by congr 1;omega
 have e3:l[n-2+1+1]'(by omega)=l[n]'(by omega):=by congr 1;omega
 rw[e1,e3]at e
 have h1:=cK (hd.take (n-2))
 have h2:=oP (hd.take (n-2))
 rw[List.length_take,Nat.min_eq_left (by omega)]at h2
 simp only[dv]at e
 have e2:l[n-2]'(by omega)+1048576*(l[n-1]'(by omega)+1048576*(l[n]'(by omega)+1048576*0))=(1048576*(l[n]'(by omega))+l[n-1]'(by omega))*1048576+l[n-2]'(by omega):=by omega
 rw[e2]at e
 rw[Int.mul_add (pw (n-2)) _ 1,Int.mul_one]
 omega
theorem Ut {v u0:List Int} {n m:Nat} (hv:Dg v) (hvl:v.length=n) (hn:2≤n) (hv1:524288≤v[n-1]'(by omega)) (hu:Dg u0) (hul:u0.length=m+n) (hf:m+n≤17592186044416) (hdr:dv (u0.drop m)<dv v) :
  ∃r,aS (se v) ((m:Int)-1,u0,List.replicate m 0)=some r∧r.1.length=m+n∧Dg r.1∧r.2.length=m∧Dg r.2∧dv r.1+dv v*dv r.2=dv u0∧dv r.1<dv v:=by
 have hvn:=oP hv
 rw[hvl]at hvn
 refine eN (I:=fun i s=>s.1=((m-i:Nat):Int)-1∧s.2.1.length=m+n∧Dg s.2.1∧s.2.2.length=m∧Dg s.2.2∧(∀j (hj:j<s.2.2.length),j<m-i→s.2.2[j]=0)∧dv s.2.1+dv v*dv s.2.2=dv u0∧dv (s.2.1.drop (m-i))<dv v)
  m _ ⟨rfl,hul,hu,by simp,Dg.rep _,fun j hj _=>by simp,by simp[Dn],hdr⟩ (mR (by omega)) ?_
 rintro i ⟨s,u,q⟩ hi ⟨h1,hl,hd,hql,hqd,hz,he,hdr⟩
 simp only at h1 hl hd hql hqd hz he hdr
 subst h1
 generalize hk:m-i=k at *
 simp only[se]
 by_cases h0:0<k
 ·left
  have ek:((k:Int)-1)=((k-1:Nat):Int):=by omega
  rw[ek,if_pos (by simp)]
  have e1:IntKind.i64.wrap (((k-1:Nat):Int)+(v.length:Int))=((k-1+n:Nat):Int):=by rw[hvl,iV (by omega)];omega
  have e2:IntKind.i64.wrap (((k-1+n:Nat):Int)-1)=((k-1+n-1:Nat):Int):=by rw[iV (by omega)];omega
  have e3:IntKind.i64.wrap ((v.length:Int)-1)=((n-1:Nat):Int):=by rw[hvl,iV (by omega)];omega
  have e4:IntKind.i64.wrap (((k-1+n:Nat):Int)+1)=((k-1+n+1:Nat):Int):=by rw[iV (by omega)];omega
  have e5:IntKind.i64.wrap (((k-1:Nat):Int)-1)=((k-1:Nat):Int)-1:=iV (by omega)
  rw[e1,e2,e3,e4,e5]
  have i1:k-1+n<u.length:=by omega
  have i2:k-1+n-1<u.length:=by omega
  have i3:k-1+n-2<u.length:=by omega
  have iv:n-1<v.length:=by omega
  have iv2:n-2<v.length:=by omega
  have g1:=hd.get i1
  have g2:=hd.get i2
  have g3:=hd.get i3
  have gv:=hv.get iv
  have gv2:=hv.get iv2
  rw[cG i1,Option.bind_some,VP g1.1 (by omega),Option.bind_some,cG i2,Option.bind_some,cG iv,Option.bind_some,PD g1.1 (by omega) g2,W6 (by omega) (by omega) (by omega),Option.bind_some,YY (by omega) (by omega),Option.bind_some,Y7 (by omega) (by omega),show k-1+n+1-(k-1)=n+1 by omega]
  generalize hw:(u.drop (k-1)).take (n+1)=w
  have hwl:w.length=n+1:=by rw[← hw,List.length_take,List.length_drop];omega
  have hwd:Dg w:=by rw[← hw];exact (hd.drop _).take _
  have hwg:∀j (hj:j<n+1),w[j]'(by omega)=u[k-1+j]'(by omega):=by
   intro j hj
   subst hw
   rw[List.getElem_take,List.getElem_drop]
  have hup:dv (u.drop (k+n))=0:=by
   have s1:=iE (u.drop k) (i:=n) (by rw[List.length_drop];omega)
   rw[List.drop_drop]at s1
   have n1:=cK ((hd.drop k).take n)
   have n2:=cK (hd.drop (k+n))
   have hp:=lZ n
   rcases (show dv (u.drop (k+n))=0∨1≤dv (u.drop (k+n)) by omega) with h|h
   ·exact h
   ·have:pw n*1≤pw n*dv (u.drop (k+n)):=Int.mul_le_mul_of_nonneg_left h (by omega)
    omega
  have hW:dv w=dv (u.drop (k-1)):=by
   have s1:=iE (u.drop (k-1)) (i:=n+1) (by rw[List.length_drop];omega)
   rw[List.drop_drop,show k-1+(n+1)=k+n by omega,hup,hw]at s1
   omega
  have hWk:dv w=u[k-1]+1048576*dv (u.drop k):=by
   rw[hW,jq (by omega),show k-1+1=k by omega]
  have gk:=hd.get (show k-1<u.length by omega)
  have hWV:dv w<1048576*dv v:=by omega
  have t2:=W8 hvl hn hv
  have t3:=W9 hwl hn hwd
  rw[hwg n (by omega),hwg (n-1) (by omega),hwg (n-2) (by omega)]at t3
  have a1:u[k-1+(n-1)]'(by omega)=u[k-1+n-1]'(by omega):=by congr 1;omega
  have a2:u[k-1+(n-2)]'(by omega)=u[k-1+n-2]'(by omega):=by congr 1;omega
  rw[a1,a2]at t3
  obtain⟨g,q1,q2,q3,q4⟩:=OS (s13:=((k-1:Nat):Int)) hn hvl (by omega) (k-1) rfl (by omega) (cG iv2) (cG i3) ⟨hv1,gv.2⟩ gv2 g3 (T:=1048576*u[k-1+n]+u[k-1+n-1]) (by omega) (by omega) t2 t3 hWV
  rw[q1,Option.bind_some,Option.bind_some]
  have hVp:0<dv v:=by
   have:=cK hwd
   omega
  obtain⟨l,r1,r2,r3,r4⟩:=Tr hwd hv (by unfold Fit;omega) (by omega) hVp q2 q3 q4
  have iq:k-1<q.length:=by omega
  rw[r1,Option.bind_some,cG iq,Option.bind_some]
  simp only
  have hq0:0≤dv w / dv v:=Int.ediv_nonneg (cK hwd) (by omega)
  have hqB:dv w / dv v<1048576:=Int.ediv_lt_of_lt_mul hVp hWV
  have hmod:=Int.emod_lt_of_pos (dv w) hVp
  simp only[Int.toNat_natCast]
  have hdl:dv (l++u.drop (k-1+n+1))=dv w % dv v:=by
   rw[fG,show k-1+n+1=k+n by omega,hup,r4];omega
  have hut:(u.take (k-1)).length=k-1:=by rw[List.length_take];omega
  have hdu:dv (u.take (k-1)++(l++u.drop (k-1+n+1)))=dv (u.take (k-1))+pw (k-1)*(dv w % dv v):=by rw[fG,hut,hdl]
  refine⟨by omega,_,rfl,by rw[show m-(i+1)=k-1 by omega],?_,(hd.take _).append (r3.append (hd.drop _)),by simpa using hql,hqd.set _ ⟨hq0,hqB⟩,fun j hj hjk =>?_,?_,?_⟩
  ·simp only[List.length_append,List.length_take,List.length_drop];omega
  ·rw[List.getElem_set_ne (by omega)]
   exact hz j (by simpa using hj) (by omega)
  ·rw[hdu,z8 iq,hz _ iq (by omega),Int.sub_zero,Int.mul_add]
   have s2:=iE u (i:=k-1) (by omega)
   rw[← hW]at s2
   have hm:=Int.mul_ediv_add_emod (dv w) (dv v)
   have:pw (k-1)*dv w=dv v*(pw (k-1)*(dv w / dv v))+pw (k-1)*(dv w % dv v):=by
    rw[Int.mul_left_comm,← Int.mul_add,hm]
   omega
  ·rw[show m-(i+1)=k-1 by omega,List.drop_append,hut,Nat.sub_self,List.drop_zero,List.drop_eq_nil_of_le (by omega),List.nil_append,hdl]
   exact hmod
 ·right
  have:k=0:=by omega
  subst this
  refine⟨(u,q),by rw[if_neg (by simp)],hl,hd,hql,hqd,he,?_⟩
  simpa using hdr
theorem PJ {v:List Int} {t:Int} {n:Nat} (hl:v.length=n) (hn:0<n) (hf:n≤17592186044416) (ht:v[n-1]'(by omega)=t) (h1:1≤t) (h2:t<1048576) :
  ∃s,aS (sd v) 1=some s∧∃j:Nat,s=2 ^ j∧j≤19∧524288≤t*s∧t*s<1048576:=by
 refine eN (I:=fun i s=>s=2 ^ i∧t*s<1048576) 20 _ ⟨rfl,by omega⟩ (by unfold FU;omega) ?_
 rintro i s hi ⟨rfl,hb⟩
 have hp:(0:Int)<2 ^ i:=Int.pow_pos (by decide)
 have hpt:(2:Int) ^ i≤t*2 ^ i:=by
  have:1*(2:Int) ^ i≤t*2 ^ i:=Int.mul_le_mul_of_nonneg_right h1 (by omega)
  omega
 have hi20:i≤19:=by
  rcases Nat.lt_or_ge 19 i with h|h
  ·have hx:i=20:=by omega
   subst hx
   omega
  ·exact h
 simp only[sd]
 have e:IntKind.i64.wrap ((v.length:Int)-1)=((n-1:Nat):Int):=by rw[hl,iV (by omega)];omega
 rw[e,cG (by omega),Option.bind_some,ht,iV (x:=t*2 ^ i) (by omega)]
 by_cases h:t*2 ^ i<524288
 ·left
  rw[if_pos (by simpa using h)]
  refine⟨by omega,_,rfl,by rw[iV (by omega),Int.pow_succ],?_⟩
  rw[iV (by omega),← Int.mul_assoc]
  omega
 ·right
  rw[if_neg (by simpa using h)]
  exact⟨_,rfl,i,rfl,hi20,by omega,hb⟩
theorem div_eq {m n:Nat} (hn:n≠0) (hfm:(aL m).length≤17592186043904) (hfn:(aL n).length≤17592186043904):sc (aL m) (aL n)=some (aL (m / n),aL (m % n)):=by
 unfold sc
 rw[C8 (by unfold Fit;omega) (by unfold Fit;omega),Option.bind_some]
 by_cases hlt:m<n
 ·have:lO (m:Int) n<0:=by unfold lO;rw[if_pos (by omega)];decide
  rw[if_pos (by simpa using this),yk (by unfold Fit;omega),Option.bind_some,Nat.div_eq_of_lt hlt,Nat.mod_eq_of_lt hlt,cJ]
 have:¬lO (m:Int) n<0:=by unfold lO;rw[if_neg (by omega)];split<;>decide
 rw[if_neg (by simpa using this)]
 obtain⟨hp1,hp2⟩:=yr hn
 have hnl:=ff n
 by_cases h1:(aL n).length=1
 ·rw[if_pos (by simp;omega)]
  have hnB:(n:Int)<1048576:=by rw[h1]at hnl;simpa [pw] using hnl
  have e:aL n=[(n:Int)]:=by
   rw[mO hn,Nat.div_eq_of_lt (by omega),cJ,Nat.mod_eq_of_lt (by omega)]
  have ei:P.idx (aL n) 0=some (n:Int):=by rw[e];rfl
  rw[ei,Option.bind_some,NI (cM m) ⟨by omega,by omega⟩ (by unfold Fit;omega),Option.bind_some,bR]
  have hm1:(m:Int) % n=((m % n:Nat):Int):=(Int.natCast_emod m n).symm
  have hm2:((m:Int) / n).toNat=m / n:=by
   rw[← Int.natCast_ediv];rfl
  have hml:m % n<n:=Nat.mod_lt _ (by omega)
  simp only[hm1,hm2]
  rw[Cs (n:=m % n) (by simp[Fit]) (Dg.mk (by omega) Dg.nil) (by simp[dv]),Option.bind_some]
 ·rw[if_neg (by simp;omega)]
  generalize hN:(aL n).length=N at *
  have hN2:2≤N:=by omega
  have hdn:=cM n
  have gt:=hdn.get (show N-1<(aL n).length by omega)
  generalize ht:(aL n)[N-1]'(by omega)=t at gt
  have hsp:=iE (aL n) (i:=N-1) (by omega)
  rw[bR,jq (by omega),List.drop_eq_nil_of_le (by omega),ht]at hsp
  simp only[dv,Int.mul_zero,Int.add_zero]at hsp
  have lo0:=cK (hdn.take (N-1))
  have lo1:=oP (hdn.take (N-1))
  rw[List.length_take,Nat.min_eq_left (by omega)]at lo1
  have hpw:=lZ (N-1)
  have ht1:1≤t:=by
   rcases (show t=0∨1≤t by omega) with h|h
   ·subst h;omega
   ·exact h
  obtain⟨s,hs1,j,hs2,hj,hs3,hs4⟩:=PJ hN (by omega) (by omega) ht ht1 gt.2
  have hj2:(2:Int) ^ j≤524288:=by
   have:∀j:Nat,j≤19→(2:Int) ^ j≤524288:=by decide
   exact this j hj
  have hj1:(0:Int)<2 ^ j:=Int.pow_pos (by decide)
  have hts:(t+1)*s≤1048576:=by
   have h20:(1048576:Int)=2 ^ (20-j)*2 ^ j:=by rw[← Int.pow_add,Nat.sub_add_cancel (by omega)];rfl
   rw[h20]at hs4 ⊢
   rw[hs2]at hs4 ⊢
   have:t<2 ^ (20-j):=Int.lt_of_mul_lt_mul_right hs4 (by omega)
   exact Int.mul_le_mul_of_nonneg_right (by omega) (by omega)
  rw[← hs2]at hj1 hj2
  obtain⟨S,rfl⟩:∃S:Nat,s=S:=⟨s.toNat,by omega⟩
  have hSd:Dg [(S:Int)]:=Dg.mk (by omega) Dg.nil
  have hdvS:dv [(S:Int)]=S:=by simp[dv]
  rw[hs1,Option.bind_some,mul_eq (cM m) hSd (by simp;omega),Option.bind_some,bR,hdvS]
  have em:((m:Int)*S).toNat=m*S:=by rw[← Int.natCast_mul];rfl
  have en:((n:Int)*S).toNat=n*S:=by rw[← Int.natCast_mul];rfl
  rw[em]
  have hmS:(aL (m*S)).length≤(aL m).length+1:=by
   apply fZ
   rw[j4,Int.natCast_mul]
   have a1:=ff m
   have:(m:Int)*S≤m*1048576:=Int.mul_le_mul_of_nonneg_left (by omega) (by omega)
   omega
  have hU:∃u,((if ((((aL (m*S)++[0]).length:Int))==((aL m).length:Int))=true then (ik 8 (aL (m*S)++[0]) [0]).bind fun x98=>some x98 else some (aL (m*S)++[0]))=some u)∧Dg u∧dv u=(m*S:Nat)∧dv u<pw (u.length-1)∧(aL (m*S)).length+1≤u.length∧u.length≤(aL m).length+3:=by
   have d1:Dg (aL (m*S)++[0]):=(cM _).append (Dg.mk (by omega) Dg.nil)
   have v1:dv (aL (m*S)++[0])=(m*S:Nat):=by rw[fG,bR];simp[dv]
   have v2:=ff (m*S)
   split
   ·rw[Fk (by simp;omega),Option.bind_some]
    refine⟨_,rfl,d1.append (Dg.mk (by omega) Dg.nil),by rw[fG,v1];simp[dv],?_,by simp,by simp;omega⟩
    rw[fG,v1]
    simp only[dv,List.length_append,List.length_cons,List.length_nil]
    have:=v7 (i:=(aL (m*S)).length) (j:=(aL (m*S)).length+1) (by omega)
    rw[show (aL (m*S)).length+(0+1)+(0+1)-1=(aL (m*S)).length+1 by omega]
    omega
   ·refine⟨_,rfl,d1,v1,?_,by simp,by simp;omega⟩
    rw[v1]
    simpa using v2
  obtain⟨u,hu1,hu2,hu3,hu4,hu5,hu6⟩:=hU
  rw[Fk (by simp;omega),Option.bind_some,mul_eq (cM n) hSd (by simp;omega),Option.bind_some,bR,hdvS,en,hu1,Option.bind_some]
  have hVlo:524288*pw (N-1)≤((n*S:Nat):Int):=by
   rw[Int.natCast_mul,hsp,Int.add_mul]
   have a1:0≤dv ((aL n).take (N-1))*S:=Int.mul_nonneg lo0 (by omega)
   have a2:pw (N-1)*524288≤pw (N-1)*(t*S):=Int.mul_le_mul_of_nonneg_left hs3 (by omega)
   rw[Int.mul_assoc]
   omega
  have hVhi:((n*S:Nat):Int)<pw N:=by
   have a0:pw N=1048576*pw (N-1):=by rw[← j4];congr 1;omega
   rw[a0,Int.natCast_mul,hsp]
   have a1:(dv ((aL n).take (N-1))+pw (N-1)*t+1)*S≤(pw (N-1)*(t+1))*S:=Int.mul_le_mul_of_nonneg_right (by rw[Int.mul_add];omega) (by omega)
   have a2:pw (N-1)*((t+1)*S)≤pw (N-1)*1048576:=Int.mul_le_mul_of_nonneg_left hts (by omega)
   rw[Int.mul_assoc]at a1
   rw[Int.add_mul _ 1,Int.one_mul]at a1
   omega
  have hVN:(aL (n*S)).length=N:=by
   have a1:=fZ hVhi
   rcases Nat.lt_or_ge (aL (n*S)).length N with h|h
   ·have a2:=ff (n*S)
    have a3:=v7 (i:=(aL (n*S)).length) (j:=N-1) (by omega)
    omega
   ·omega
  have hV1:524288≤(aL (n*S))[N-1]'(by omega):=by
   have a1:=iE (aL (n*S)) (i:=N-1) (by omega)
   rw[bR,jq (by omega),List.drop_eq_nil_of_le (by omega)]at a1
   simp only[dv,Int.mul_zero,Int.add_zero]at a1
   have a2:=oP ((cM (n*S)).take (N-1))
   rw[List.length_take,Nat.min_eq_left (by omega)]at a2
   have a3:pw (N-1)*524288<pw (N-1)*((aL (n*S))[N-1]'(by omega)+1):=by rw[Int.mul_add];omega
   have:=Int.lt_of_mul_lt_mul_left a3 (by omega)
   omega
  have hlen:N+1≤u.length:=by
   have:n*S≤m*S:=Nat.mul_le_mul_right _ (by omega)
   have:=dK this
   omega
  obtain⟨M,hM⟩:∃M,u.length=M+N:=⟨u.length-N,by omega⟩
  have e1:IntKind.i64.wrap ((u.length:Int)-((aL (n*S)).length:Int))=(M:Int):=by rw[hVN,hM,iV (by omega)];omega
  rw[e1,Z2 (by omega),Option.bind_some,List.length_replicate,iV (x:=(M:Int)-1) (by omega)]
  have hdr:dv (u.drop M)<dv (aL (n*S)):=by
   rw[bR]
   have a1:=iE u (i:=M) (by omega)
   have a2:=cK (hu2.take M)
   have a3:pw M*dv (u.drop M)<pw M*pw (N-1):=by
    rw[← Ez,show M+(N-1)=u.length-1 by omega]
    omega
   have:=Int.lt_of_mul_lt_mul_left a3 (by have:=lZ M;omega)
   omega
  obtain⟨⟨U,Q⟩,r1,r2,r3,r4,r5,r6,r7⟩:=Ut (cM (n*S)) hVN hN2 hV1 hu2 hM (by omega) hdr
  simp only at r2 r3 r4 r5 r6 r7
  rw[r1,Option.bind_some]
  simp only
  rw[bR,hu3]at r6
  rw[bR]at r7
  have hU0:=cK r3
  have hQ0:=cK r5
  have hS:0<S:=by omega
  have hnS:0<n*S:=Nat.mul_pos (by omega) hS
  obtain⟨U',hU'⟩:∃k:Nat,dv U=k:=⟨(dv U).toNat,by omega⟩
  obtain⟨Q',hQ'⟩:∃k:Nat,dv Q=k:=⟨(dv Q).toNat,by omega⟩
  rw[hU',hQ']at r6
  rw[hU']at r7
  have hnat:U'+n*S*Q'=m*S:=by
   have:((U'+n*S*Q':Nat):Int)=((m*S:Nat):Int):=by rw[Int.natCast_add,Int.natCast_mul (n*S) Q'];exact r6
   omega
  have hUlt:U'<n*S:=by omega
  have hQe:Q'=m / n:=by
   have:m*S / (n*S)=Q':=by
    rw[← hnat,Nat.add_mul_div_left _ _ hnS,Nat.div_eq_of_lt hUlt,Nat.zero_add]
   rw[← this,Nat.mul_div_mul_right _ _ hS]
  have hUe:U'=(m % n)*S:=by
   have:m*S % (n*S)=U':=by rw[← hnat,Nat.add_mul_mod_self_left,Nat.mod_eq_of_lt hUlt]
   rw[← this,Nat.mul_mod_mul_right]
  rw[Cs (n:=U') (by unfold Fit;omega) r3 hU',Option.bind_some]
  have hUlen:(aL U').length≤N:=fZ (by omega)
  rw[NI (cM U') ⟨by omega,by omega⟩ (by unfold Fit;omega),Option.bind_some,Cs (n:=Q') (by unfold Fit;omega) r5 hQ',Option.bind_some,bR,hQe,hUe]
  have:((((m % n)*S:Nat):Int) / (S:Int)).toNat=m % n:=by
   rw[Int.natCast_mul,Int.mul_ediv_cancel _ (by omega)];rfl
  rw[this]
def fb (x:Int):aw:=aw.mk x.sign (aL x.natAbs)
def Ln (x:Int):Nat:=(aL x.natAbs).length
def jE:Nat:=4398046511104
def jJ:Nat:=17592186043904
theorem yc {n:Nat} (h:n≤jE):n≤jJ:=Nat.le_trans h (by decide)
theorem Ef:fb 0=aw.mk 0 []:=by unfold fb;rw[show (0:Int).natAbs=0 from rfl,cJ];rfl
theorem JC {x y:Int} (h:fb x=fb y):x=y:=by
 unfold fb at h
 simp only[aw.mk.injEq]at h
 have:=Us h.2
 have h1:=Int.sign_mul_natAbs x
 have h2:=Int.sign_mul_natAbs y
 rw[← h1,← h2,h.1,this]
theorem Ql {x:Int} {k:Nat} (h:(x.natAbs:Int)<pw k):Ln x≤k:=fZ h
theorem Yf (x:Int):(x.natAbs:Int)<pw (Ln x):=ff _
theorem TK (x:Int):Ln (-x)=Ln x:=by unfold Ln;rw[Int.natAbs_neg]
theorem zU (x y:Int):Ln (x*y)≤Ln x+Ln y:=by
 apply Ql
 have h1:=Yf x
 have h2:=Yf y
 rw[Int.natAbs_mul,Int.natCast_mul,Ez]
 have hx:=lZ (Ln x)
 calc (x.natAbs:Int)*y.natAbs≤pw (Ln x)*y.natAbs:=Int.mul_le_mul_of_nonneg_right (by omega) (by omega)
  _<pw (Ln x)*pw (Ln y):=Int.mul_lt_mul_of_pos_left h2 hx
theorem Kf {x:Int} (h:x.natAbs<1048576):Ln x≤1:=Ql (by rw[j4,oh];omega)
instance (l:List Int):Decidable (Dg l):=by unfold Dg;infer_instance
def okB (b:aw):Bool:=decide (Dg b.aa)&&(match b.aa.getLast? with|none=>b.ah==0|some d=>(b.ah==1||b.ah == -1)&&d != 0)
theorem sM {b:aw} : okB b=true↔∃x,b=fb x:=by
 obtain⟨s,l⟩:=b
 unfold okB
 simp only[Bool.and_eq_true,decide_eq_true_eq]
 constructor
 ·rintro⟨hd,h⟩
  cases hl:l.getLast? with
  | none =>
   rw[hl]at h
   have:l=[]:=List.getLast?_eq_none_iff.1 hl
   subst this
   exact⟨0,by rw[Ef];simpa using h⟩
  | some d =>
   rw[hl]at h
   simp only[Bool.and_eq_true,Bool.or_eq_true,beq_iff_eq,bne_iff_ne]at h
   have hne:l≠[]:=by intro h0;subst h0;simp at hl
   have hlast:∀h:l≠[],l.getLast h≠0:=by
    intro h'
    rw[List.getLast?_eq_some_getLast h']at hl
    cases hl
    exact h.2
   have e:=Cg hd hlast
   have h0:(dv l).toNat≠0:=by
    intro h0
    rw[h0,cJ]at e
    exact hne e.symm
   have hn:=cK hd
   refine⟨s*dv l,?_⟩
   unfold fb
   rcases h.1 with rfl|rfl
   ·rw[Int.one_mul,Int.sign_eq_one_of_pos (by omega)]
    have:(dv l).natAbs=(dv l).toNat:=by omega
    rw[this,e]
   ·rw[Int.neg_mul,Int.one_mul,Int.sign_neg,Int.sign_eq_one_of_pos (by omega)]
    have:(-dv l).natAbs=(dv l).toNat:=by omega
    rw[this,e]
 ·rintro⟨x,hx⟩
  unfold fb at hx
  simp only[aw.mk.injEq]at hx
  obtain⟨rfl,rfl⟩:=hx
  refine⟨cM _,?_⟩
  by_cases h0:x=0
  ·subst h0;simp[cJ]
  ·have hne:aL x.natAbs≠[]:=fun h=>h0 (by have:=ri.1 h;omega)
   rw[List.getLast?_eq_some_getLast hne]
   have h1:=Ss _ hne
   simp only[Bool.and_eq_true,Bool.or_eq_true,beq_iff_eq,bne_iff_ne]
   refine⟨?_,h1⟩
   rcases Int.lt_trichotomy x 0 with h|h|h
   ·right;exact Int.sign_eq_neg_one_of_neg h
   ·exact absurd h h0
   ·left;exact Int.sign_eq_one_of_pos h
theorem JE (x:Int):okB (fb x)=true:=sM.2 ⟨x,rfl⟩
theorem ES {b:aw} (hf:Fit b.aa):eD b=some (okB b):=by
 obtain⟨s,l⟩:=b
 simp only[Fit]at hf
 have key:∃r,aS (nO ⟨s,l⟩) 0=some r∧(match r with | .inl _=>Dg l | .inr x=>x=false∧¬Dg l):=by
  refine eN (I:=fun i s=>s=(i:Int)∧Dg (l.take i)) l.length _ ⟨rfl,by simpa using Dg.nil⟩ (mR hf) ?_
  rintro i s hi ⟨rfl,hd⟩
  simp only[nO]
  by_cases hlt:i<l.length
  ·rw[if_pos (by simpa using hlt),cG hlt,Option.bind_some]
   by_cases h1:l[i]<0
   ·right
    exact⟨.inr false,by rw[if_pos (by simpa using h1)],rfl,fun hh=>by have:=hh.get hlt;omega⟩
   ·by_cases h2:l[i]>1048575
    ·right
     exact⟨.inr false,by rw[if_neg (by simpa using h1),if_pos (by simpa using h2)],rfl,fun hh=>by have:=hh.get hlt;omega⟩
    ·left
     refine⟨hlt,_,by rw[if_neg (by simpa using h1),if_neg (by simpa using h2)],by rw[iV (by omega)];omega,?_⟩
     have e:l.take (i+1)=l.take i++[l[i]]:=by rw[List.take_add_one];simp[hlt]
     rw[e]
     exact hd.append (Dg.mk (by omega) Dg.nil)
  ·right
   have:i=l.length:=by omega
   subst this
   rw[List.take_length]at hd
   exact⟨.inl (),by rw[if_neg (by simp)],hd⟩
 obtain⟨r,h1,h2⟩:=key
 unfold eD okB
 rw[h1,Option.bind_some]
 cases r with
 | inr x =>
  obtain⟨rfl,h⟩:=h2
  simp[h]
 | inl u =>
  simp only at h2 ⊢
  simp only[h2,decide_true,Bool.true_and]
  by_cases h0:l=[]
  ·subst h0;simp
  ·have hp:0<l.length:=List.length_pos_iff.2 h0
   have e:IntKind.i64.wrap ((l.length:Int)-1)=((l.length-1:Nat):Int):=by rw[iV (by omega)];omega
   rw[if_neg (by simpa using h0),e,cG (by omega),List.getLast?_eq_some_getLast h0,List.getLast_eq_getElem]
   simp only[Option.bind_some]
   by_cases hs:s=1
   ·subst hs;simp
   ·rw[if_neg (by simpa using hs)]
    by_cases hs':s = -1
    ·subst hs';simp
    ·rw[if_neg (by simpa using hs')]
     simp[hs,hs']
theorem py {x:Int} (h:Ln x≤17592186044416):eD (fb x)=some true:=by
 rw[ES (show Fit (fb x).aa from h),JE]
theorem AI {s:Int} {l:List Int} (x:Int) (hf:Fit l) (hd:Dg l) (hv:dv l=x.natAbs) (hs:x≠0→s=x.sign):fK s l=some (fb x):=by
 unfold fK
 rw[Cs hf hd hv,Option.bind_some]
 by_cases h0:x=0
 ·subst h0
  rw[show (0:Int).natAbs=0 from rfl,cJ,Ef];rfl
 ·have:aL x.natAbs≠[]:=fun h=>h0 (by have:=ri.1 h;omega)
  rw[if_neg (by simpa using this),hs h0];rfl
theorem yi (b:aw):fW true b=some (b,0):=rfl
theorem qK (x:Int):x.sign = -1∨x.sign=0∨x.sign=1:=by
 rcases Int.lt_trichotomy x 0 with h|h|h
 ·left;exact Int.sign_eq_neg_one_of_neg h
 ·subst h;right;left;rfl
 ·right;right;exact Int.sign_eq_one_of_pos h
theorem gp (x:Int):x.sign=1∧x=x.natAbs∧0<x∨x.sign = -1∧x = -x.natAbs∧x<0∨x.sign=0∧x=0:=by
 rcases Int.lt_trichotomy x 0 with h|h|h
 ·right;left;exact⟨Int.sign_eq_neg_one_of_neg h,by omega,h⟩
 ·subst h;right;right;exact⟨rfl,rfl⟩
 ·left;exact⟨Int.sign_eq_one_of_pos h,by omega,h⟩
theorem Is {x:Int} {s:Int} {n:Nat} (hn:n=x.natAbs) (hs:x≠0→s=x.sign) (hL:n≠0→(aL n).length≤17592186044416):fK s (aL n)=some (fb x):=by
 subst hn
 refine AI x ?_ (cM _) (bR _) hs
 unfold Fit
 by_cases h:x.natAbs=0
 ·rw[h,cJ];simp
 ·exact hL h
theorem Yz {x y:Int} (hx:Ln x≤jE) (hy:Ln y≤jE):sb (fb x) (fb y)=some (fb (x*y),0):=by
 have hL:jE=4398046511104:=rfl
 have hLa:=zU x y
 unfold sb
 rw[py (by omega),Option.bind_some]
 simp only[Bool.not_true,Bool.false_eq_true,if_false]
 rw[py (by omega),Option.bind_some,Option.bind_some]
 simp only[Bool.not_true,Bool.false_eq_true,if_false]
 have hxd:(fb x).aa=aL x.natAbs:=rfl
 have hyd:(fb y).aa=aL y.natAbs:=rfl
 have hxs:(fb x).ah=x.sign:=rfl
 have hys:(fb y).ah=y.sign:=rfl
 rw[hxd,hyd,hxs,hys]
 have fx:(aL x.natAbs).length≤4398046511104:=by show Ln x≤_;omega
 have fy:(aL y.natAbs).length≤4398046511104:=by show Ln y≤_;omega
 have hw:IntKind.i64.wrap (x.sign*y.sign)=(x*y).sign:=by
  rw[Int.sign_mul]
  apply iV
  rcases qK x with h|h|h<;>rcases qK y with g|g|g<;>rw[h,g]<;>decide
 rw[hw,mul_eq (cM _) (cM _) (by omega),Option.bind_some,bR,bR]
 have hn:((x.natAbs:Int)*y.natAbs).toNat=(x*y).natAbs:=by rw[Int.natAbs_mul,← Int.natCast_mul];rfl
 rw[hn,Is (x:=x*y) rfl (fun _=>rfl) (fun _=>by show Ln (x*y)≤_;omega),Option.bind_some,yi,Option.bind_some]
theorem NS {x y:Int} (hx:Ln x≤jE) (hy:Ln y≤jE):gz (fb x) (fb y)=some (fb (x*y)):=by
 unfold gz
 rw[Yz hx hy];rfl
def lg (n:Nat):Nat:=if n=0 then 0 else n.log2+1
theorem Yb {r x:Nat} (h:2*r<x):lg r<lg x:=by
 unfold lg
 rw[if_neg (show x≠0 by omega)]
 by_cases h0:r=0
 ·rw[if_pos h0];omega
 ·rw[if_neg h0]
  have h1:=Nat.log2_self_le h0
  have h2:=@Nat.lt_log2_self x
  have:2 ^ (r.log2+1)<2 ^ (x.log2+1):=by rw[Nat.pow_succ];omega
  have:=(Nat.pow_lt_pow_iff_right (by decide:1<2)).1 this
  omega
theorem Ri {n k:Nat} (h:(n:Int)<pw k):lg n≤20*k:=by
 unfold lg
 by_cases h0:n=0
 ·rw[if_pos h0];omega
 ·rw[if_neg h0]
  have:n<2 ^ (20*k):=by
   have:pw k=((2 ^ (20*k):Nat):Int):=by
    unfold pw
    rw[Nat.pow_mul,Int.natCast_pow];rfl
   omega
  have:=(Nat.log2_lt h0).2 this
  omega
theorem UR {a b:Nat} (ha:(aL a).length≤jJ) (hb:(aL b).length≤jJ):aS oL (aL a,aL b)=some (aL (Nat.gcd a b)):=by
 have hL:jJ=17592186043904:=rfl
 have key:∃r,aS oL (aL a,aL b)=some r∧r=aL (Nat.gcd a b):=by
  have la:=Ri (ff a)
  have lb:=Ri (ff b)
  let val:List Int→Nat:=fun l=>(dv l).toNat
  have hval:∀n,val (aL n)=n:=fun n=>by show (dv (aL n)).toNat=n;rw[bR];rfl
  refine gM (I:=fun (s:List Int×List Int)=>∃x y,s=(aL x,aL y)∧Nat.gcd x y=Nat.gcd a b∧(aL x).length≤jJ∧(aL y).length≤jJ)
   (μ:=fun (s:List Int×List Int)=>lg (val s.1)+lg (val s.2)+(if val s.1<val s.2 then 1 else 0)) _ ⟨a,b,rfl,rfl,ha,hb⟩ (by simp only[hval];unfold FU;split<;>omega) ?_
  rintro _ ⟨x,y,rfl,hg,hx,hy⟩
  simp only[oL]
  by_cases h0:y=0
  ·right
   subst h0
   refine⟨_,by rw[cJ,if_neg (by simp)],?_⟩
   rw[← hg,Nat.gcd_zero_right]
  ·left
   have hne:0<(aL y).length:=List.length_pos_iff.2 (fun h=>h0 (ri.1 h))
   rw[if_pos (by simpa using hne),div_eq h0 (by omega) (by omega),Option.bind_some]
   have hlt:=Nat.mod_lt x (Nat.pos_of_ne_zero h0)
   refine⟨_,rfl,⟨y,x % y,rfl,?_,hy,?_⟩,?_⟩
   ·rw[← hg,Nat.gcd_comm y,← Nat.gcd_rec,Nat.gcd_comm]
   ·have:=dK (Nat.mod_le x y);omega
   ·simp only[hval]
    rw[if_neg (by omega)]
    by_cases hxy:x<y
    ·rw[if_pos hxy,Nat.mod_eq_of_lt hxy];omega
    ·rw[if_neg hxy]
     have:lg (x % y)<lg x:=by
      apply Yb
      have h1:=Nat.div_add_mod x y
      have h2:1≤x / y:=(Nat.one_le_div_iff (by omega)).2 (by omega)
      have h3:y*1≤y*(x / y):=Nat.mul_le_mul_left _ h2
      omega
     omega
 obtain⟨r,h1,rfl⟩:=key
 exact h1
theorem Yx {x y:Int} (hx:Ln x≤jJ) (hy:Ln y≤jJ):rY (fb x) (fb y)=some (fb (Int.gcd x y),0):=by
 have hL:jJ=17592186043904:=rfl
 unfold rY
 rw[py (by omega),Option.bind_some]
 simp only[Bool.not_true,Bool.false_eq_true,if_false]
 rw[py (by omega),Option.bind_some,Option.bind_some]
 simp only[Bool.not_true,Bool.false_eq_true,if_false]
 have hxd:(fb x).aa=aL x.natAbs:=rfl
 have hyd:(fb y).aa=aL y.natAbs:=rfl
 rw[hxd,hyd]
 have fx:(aL x.natAbs).length≤17592186043904:=by show Ln x≤_;omega
 have fy:(aL y.natAbs).length≤17592186043904:=by show Ln y≤_;omega
 have fg:(aL (Nat.gcd x.natAbs y.natAbs)).length≤17592186043904:=by
  by_cases h:y.natAbs=0
  ·rw[h,Nat.gcd_zero_right];exact fx
  ·have:=dK (Nat.gcd_le_right x.natAbs (Nat.pos_of_ne_zero h));omega
 rw[yk (by unfold Fit;omega),Option.bind_some,UR (by omega) (by omega),Option.bind_some,yk (by unfold Fit;omega),Option.bind_some]
 have hgn:Nat.gcd x.natAbs y.natAbs=((Int.gcd x y:Nat):Int).natAbs:=rfl
 rw[Is (x:=(Int.gcd x y:Int)) hgn ?_ (fun _=>by omega),Option.bind_some,yi,Option.bind_some]
 intro h
 rw[Int.sign_eq_one_of_pos (by omega)]
theorem Oa {x y:Int} (hx:Ln x≤jE) (hy:Ln y≤jE):jc (fb x) (fb y)=some (lO x y):=by
 have hL:jE=4398046511104:=rfl
 unfold jc
 rw[py (by omega),Option.bind_some]
 simp only[Bool.not_true,Bool.false_eq_true,if_false]
 rw[py (by omega),Option.bind_some,Option.bind_some]
 simp only[Bool.not_true,Bool.false_eq_true,if_false]
 have hxd:(fb x).aa=aL x.natAbs:=rfl
 have hyd:(fb y).aa=aL y.natAbs:=rfl
 have hxs:(fb x).ah=x.sign:=rfl
 have hys:(fb y).ah=y.sign:=rfl
 rw[hxd,hyd,hxs,hys]
 have fx:(aL x.natAbs).length≤4398046511104:=by show Ln x≤_;omega
 have fy:(aL y.natAbs).length≤4398046511104:=by show Ln y≤_;omega
 by_cases h:x.sign=y.sign
 ·rw[if_neg (by simpa using h),C8 (by unfold Fit;omega) (by unfold Fit;omega),Option.bind_some]
  have hc:∀s:Int,s = -1∨s=0∨s=1→∀c:Int,c = -1∨c=0∨c=1→IntKind.i64.wrap (s*c)=s*c:=by
   rintro s (rfl|rfl|rfl) c (rfl|rfl|rfl)<;>exact iV (by decide)
  have hcm:∀a b:Int,lO a b = -1∨lO a b=0∨lO a b=1:=by
   intro a b;unfold lO;split
   ·simp
   ·split<;>simp
  rw[hc _ (qK x) _ (hcm _ _)]
  congr 1
  unfold lO
  rcases gp x with⟨a,b,c⟩|⟨a,b,c⟩|⟨a,b⟩<;>rcases gp y with⟨a',b',c'⟩|⟨a',b',c'⟩|⟨a',b'⟩<;>(try (rw[a,a']at h;exact absurd h (by decide)))<;>rw[a]<;>split<;>(try split)<;>(try split)<;>(try split)<;>omega
 ·rw[if_pos (by simpa using h),Om,Option.bind_some]
  congr 1
  unfold lO
  rcases gp x with⟨a,b,c⟩|⟨a,b,c⟩|⟨a,b⟩<;>rcases gp y with⟨a',b',c'⟩|⟨a',b',c'⟩|⟨a',b'⟩<;>(try (exact absurd (a.trans a'.symm) h))<;>rw[a,a']<;>split<;>(try split)<;>(try split)<;>(try split)<;>omega
theorem Sg (x:Int):IntKind.u64.wrap x=x % 18446744073709551616:=by
 unfold IntKind.wrap
 simp only[IntKind.bits,IntKind.signed,Bool.false_and,Bool.false_eq_true,if_false]
 rfl
theorem wu {x:Int} (h:0≤x∧x<18446744073709551616):IntKind.u64.wrap x=x:=by rw[Sg];omega
theorem Sl {x:Int} (h:0≤x∧x<18446744073709551616):oN .and .u64 x 1048575=x % 1048576:=by
 unfold oN
 simp only
 have e1:(BitVec.ofInt IntKind.u64.bits x &&& BitVec.ofInt IntKind.u64.bits 1048575).toNat=((x % 18446744073709551616).toNat) % 1048576:=by
  rw[BitVec.toNat_and,BitVec.toNat_ofInt,BitVec.toNat_ofInt]
  have e:((1048575:Int) % ((2 ^ IntKind.u64.bits:Nat):Int)).toNat=2 ^ 20-1:=by decide
  rw[e,Nat.and_two_pow_sub_one_eq_mod]
  rfl
 rw[e1,wu (by omega)]
 omega
theorem Y6 (x:Int):AH .u64 x 20=some (x / 1048576):=by
 unfold AH
 rw[if_neg (by decide)]
 have e:(2:Int) ^ (min (Int.toNat 20) IntKind.u64.bits)=1048576:=by decide
 rw[e,Int.fdiv_eq_ediv_of_nonneg _ (by decide)]
theorem pw4:pw 4=1208925819614629174706176:=by decide
theorem Xn {n:Nat} (hn:n<18446744073709551616):∃l,aS vw ((n:Int),[])=some l∧Dg l∧dv l=n∧l.length≤5:=by
 refine gM (I:=fun (s:Int×List Int)=>0≤s.1∧Dg s.2∧dv s.2+pw s.2.length*s.1=n∧s.2.length≤5∧(s.1=0∨s.2.length<5)) (μ:=fun (s:Int×List Int)=>s.1.toNat) _ ⟨by simp,Dg.nil,by simp[dv,oh],by simp,by simp⟩ (by simp only[Int.toNat_natCast];unfold FU;omega) ?_
 rintro⟨u,l⟩ ⟨h1,hd,h2,h3,h5⟩
 simp only at h1 hd h2 h3 h5
 have hp:=lZ l.length
 have hdl:=cK hd
 have hu:u≤n:=by
  have:1*u≤pw l.length*u:=Int.mul_le_mul_of_nonneg_right (by omega) h1
  omega
 simp only[vw]
 by_cases h0:u>0
 ·left
  have hl5:l.length<5:=by omega
  have hl4:l.length<4:=by
   rcases Nat.lt_or_ge l.length 4 with h|h
   ·exact h
   ·have h4:l.length=4:=by omega
    rw[h4,pw4]at h2
    omega
  have hw:IntKind.i64.wrap (u % 1048576)=u % 1048576:=iV (by omega)
  rw[if_pos (by simpa using h0),Sl ⟨h1,by omega⟩,hw,Fk (by simp;omega),Option.bind_some,Y6,Option.bind_some]
  refine⟨_,rfl,⟨by simp only;omega,hd.append (Dg.mk (by omega) Dg.nil),?_,by simp;omega,by right;simp;omega⟩,by simp only;omega⟩
  simp only[fG,dv,List.length_append,List.length_cons,List.length_nil,Int.mul_zero,Int.add_zero,Nat.zero_add]
  have:=AB l.length u
  omega
 ·right
  have:u=0:=by omega
  subst this
  refine⟨l,by rw[if_neg (by simp)],hd,?_,h3⟩
  rw[Int.mul_zero]at h2
  omega
theorem XN {x:Int} (h : -9223372036854775808≤x∧x<9223372036854775808):uu x=some (fb x):=by
 have hT:(if decide (x<0)=true then some ((-1:Int),IntKind.u64.wrap (0-(IntKind.u64.wrap x))) else some (1,IntKind.u64.wrap x))=some (if x<0 then -1 else 1,((x.natAbs:Nat):Int)):=by
  by_cases hx:x<0
  ·rw[if_pos (by simpa using hx),if_pos hx,Sg,Sg]
   congr 2
   omega
  ·rw[if_neg (by simpa using hx),if_neg hx,Sg]
   congr 2
   omega
 obtain⟨l,h1,h2,h3,h4⟩:=Xn (n:=x.natAbs) (by omega)
 unfold uu
 rw[hT,Option.bind_some]
 simp only
 rw[h1,Option.bind_some,ru]
 refine AI x (by unfold Fit;omega) h2 h3 (fun h0 =>?_)
 split
 ·rw[Int.sign_eq_neg_one_of_neg (by omega)]
 ·rw[Int.sign_eq_one_of_pos (by omega)]
theorem abv {d:Int} {i:Nat} (hi:i≤3) (hd:0≤d∧d<1048576) (h8:i=3→d≤8):Ge .u64 (IntKind.u64.wrap d) (IntKind.i64.wrap (20*(i:Int)))=some (pw i*d):=by
 rw[wu (by omega),iV (by omega)]
 unfold Ge
 rw[if_neg (by omega)]
 have e:(2:Int) ^ (min (20*(i:Int)).toNat IntKind.u64.bits)=pw i:=by
  have:∀i:Nat,i≤3→(2:Int) ^ (min (20*(i:Int)).toNat IntKind.u64.bits)=pw i:=by decide
  exact this i hi
 rw[e,wu,Int.mul_comm]
 rcases (show i=0∨i=1∨i=2∨i=3 by omega) with rfl|rfl|rfl|rfl
 ·rw[show pw 0=1 by decide];omega
 ·rw[show pw 1=1048576 by decide];omega
 ·rw[show pw 2=1099511627776 by decide];omega
 ·rw[show pw 3=1152921504606846976 by decide];have:=h8 rfl;omega
theorem aag {u d:Int} {i:Nat} (hi:i≤3) (hu:0≤u∧u<pw i) (hd:0≤d∧pw i*d<9223372036854775809):oN .or .u64 u (pw i*d)=u+pw i*d:=by
 have hp:=lZ i
 have hpd:0≤pw i*d:=Int.mul_nonneg (by omega) hd.1
 have hpw:pw i=((2 ^ (20*i):Nat):Int):=by unfold pw;rw[Nat.pow_mul,Int.natCast_pow];rfl
 have hp3:pw i≤1152921504606846976:=by
  have:=v7 hi
  rwa [show pw 3=1152921504606846976 by decide]at this
 unfold oN
 simp only
 have e1:(BitVec.ofInt IntKind.u64.bits u ||| BitVec.ofInt IntKind.u64.bits (pw i*d)).toNat=(u+pw i*d).toNat:=by
  rw[BitVec.toNat_or,BitVec.toNat_ofInt,BitVec.toNat_ofInt]
  have e:((2 ^ IntKind.u64.bits:Nat):Int)=18446744073709551616:=by decide
  rw[e]
  have e2:(u % 18446744073709551616).toNat=u.toNat:=by omega
  have e3:((pw i*d) % 18446744073709551616).toNat=d.toNat <<< (20*i):=by
   rw[Nat.shiftLeft_eq,Int.emod_eq_of_lt hpd (by omega),hpw]
   have:d=(d.toNat:Int):=by omega
   rw[this,← Int.natCast_mul,Int.toNat_natCast,Int.toNat_natCast,Nat.mul_comm]
  rw[e2,e3,Nat.or_comm,← Nat.shiftLeft_add_eq_or_of_lt (by omega),Nat.shiftLeft_eq]
  have:pw i*d=((d.toNat*2 ^ (20*i):Nat):Int):=by
   rw[hpw,Int.natCast_mul,Int.mul_comm]
   congr 1
   omega
  omega
 rw[e1,wu (by omega)]
 omega
theorem Y0 {g:Nat} (h:(aL g).length≤jJ):o0 (fb g)=some (decide (g=1)):=by
 have hL:jJ=17592186043904:=rfl
 have hgd:(fb (g:Int)).aa=aL g:=rfl
 have hLn:Ln (g:Int)=(aL g).length:=rfl
 unfold o0
 have hsmall:g=1→(aL g).length≤4:=by
  rintro rfl
  exact Nat.le_trans (fZ (k:=1) (by decide)) (by decide)
 suffices hI:∃r,rZ (fb g)=some r∧((if r.2=true then some (r.1==1) else some false)=some (decide (g=1))) by
  obtain⟨r,h1,h2⟩:=hI
  rw[h1,Option.bind_some,h2]
 unfold rZ
 rw[py (by rw[hLn];omega),Option.bind_some]
 simp only[Bool.not_true,Bool.false_eq_true,if_false,Option.bind_some,hgd]
 by_cases h4:(aL g).length>4
 ·rw[if_pos (by simp;omega)]
  refine⟨_,rfl,?_⟩
  have:g≠1:=fun hh=>by have:=hsmall hh;omega
  simp[this]
 rw[if_neg (by simp;omega)]
 have key:∃r,aS (sa (fb g)) (0,0)=some r∧(match r with | .inl u=>u=(g:Int) | .inr x=>x=(0,false)∧g≠1):=by
  refine eN (I:=fun i s=>s.2=(i:Int)∧s.1=dv ((aL g).take i)) (aL g).length _ ⟨rfl,rfl⟩ (mR (by omega)) ?_
  rintro i ⟨u,s⟩ hi ⟨h1,h2⟩
  simp only at h1 h2
  subst h1 h2
  simp only[sa,hgd]
  have hdg:=(cM g).take i
  have hu0:=cK hdg
  have hu1:=oP hdg
  rw[List.length_take,Nat.min_eq_left hi]at hu1
  by_cases hlt:i<(aL g).length
  ·have gd:=(cM g).get hlt
   rw[if_pos (by simpa using hlt),cG hlt,Option.bind_some]
   have hT:(if ((i:Int)==3)=true then some (decide ((aL g)[i]>8)) else some false)=some (decide (i=3∧(aL g)[i]>8)):=by
    by_cases h3:i=3
    ·subst h3;simp
    ·rw[if_neg (by simp;omega)];simp[h3]
   rw[hT,Option.bind_some]
   by_cases h8:i=3∧(aL g)[i]>8
   ·right
    rw[if_pos (by simpa using h8)]
    refine⟨.inr (0,false),rfl,rfl,?_⟩
    rintro rfl
    have:=fZ (n:=1) (k:=1) (by decide)
    omega
   ·left
    rw[if_neg (by simpa using h8),abv (by omega) gd (by omega),Option.bind_some]
    have hb:pw i*(aL g)[i]<9223372036854775809:=by
     rcases (show i=0∨i=1∨i=2∨i=3 by omega) with h|h|h|h
     ·have:pw i=1:=by rw[h];decide
      rw[this];omega
     ·have:pw i=1048576:=by rw[h];decide
      rw[this];omega
     ·have:pw i=1099511627776:=by rw[h];decide
      rw[this];omega
     ·have:pw i=1152921504606846976:=by rw[h];decide
      rw[this];omega
    rw[aag (by omega) ⟨hu0,hu1⟩ ⟨gd.1,hb⟩]
    exact⟨hlt,_,rfl,by rw[iV (by omega)];omega,by rw[fl hlt]⟩
  ·right
   have:i=(aL g).length:=by omega
   subst this
   exact⟨.inl (dv ((aL g).take (aL g).length)),by rw[if_neg (by simp)],by rw[List.take_length,bR]⟩
 obtain⟨r,h1,h2⟩:=key
 rw[h1,Option.bind_some]
 cases r with
 | inr x=>obtain⟨rfl,h⟩:=h2;exact⟨_,rfl,by simp[h]⟩
 | inl u =>
  simp only at h2
  subst h2
  have hs:(fb (g:Int)).ah=(g:Int).sign:=rfl
  have hs0:¬(g:Int).sign<0:=by have:=gp (g:Int);omega
  simp only[hs]
  rw[if_neg (by simp),Option.bind_some,if_neg (by simp),if_pos (by simp)]
  by_cases hg:(g:Int)<9223372036854775808
  ·rw[if_pos (by simpa using hg)]
   refine⟨_,rfl,?_⟩
   simp only[if_true]
   rw[wrap64 (by omega) hg]
   congr 1
   by_cases h:g=1
   ·subst h;rfl
   ·have:¬((g:Int)=1):=by omega
    simp[h,this]
  ·rw[if_neg (by simpa using hg)]
   have:g≠1:=by omega
   exact⟨_,rfl,by simp[this]⟩
def yY (q:Rat):aQ:=aQ.mk (fb q.num) (fb q.den)
def LF (q:Rat):Nat:=max (Ln q.num) (Ln q.den)
theorem Co {p q:Rat} (h:yY p=yY q):p=q:=by
 unfold yY at h
 simp only[aQ.mk.injEq]at h
 have h1:=JC h.1
 have h2:=JC h.2
 exact Rat.ext h1 (by omega)
def okF (f:aQ):Bool:=okB f.cn&&okB f.cl&&(f.cl.ah==1)&&decide (Nat.gcd (dv f.cn.aa).toNat (dv f.cl.aa).toNat=1)
theorem JF {f:aQ} : okF f=true↔∃q,f=yY q:=by
 obtain⟨p,q⟩:=f
 unfold okF
 simp only[Bool.and_eq_true,beq_iff_eq,decide_eq_true_eq]
 constructor
 ·rintro⟨⟨⟨h1,h2⟩,h3⟩,h4⟩
  obtain⟨x,rfl⟩:=sM.1 h1
  obtain⟨y,rfl⟩:=sM.1 h2
  have hy:0<y:=by
   have:y.sign=1:=h3
   rcases gp y with⟨a,b,c⟩|⟨a,b,c⟩|⟨a,b⟩<;>omega
  have h5:(dv (fb x).aa).toNat=x.natAbs:=by show (dv (aL _)).toNat=_;rw[bR];rfl
  have h6:(dv (fb y).aa).toNat=y.natAbs:=by show (dv (aL _)).toNat=_;rw[bR];rfl
  rw[h5,h6]at h4
  refine⟨⟨x,y.natAbs,by omega,h4⟩,?_⟩
  unfold yY
  simp only
  congr 2
  omega
 ·rintro⟨q,hq⟩
  unfold yY at hq
  simp only[aQ.mk.injEq]at hq
  obtain⟨rfl,rfl⟩:=hq
  have hd:=q.den_pos
  refine⟨⟨⟨JE _,JE _⟩,Int.sign_eq_one_of_pos (by omega)⟩,?_⟩
  have h5:(dv (fb q.num).aa).toNat=q.num.natAbs:=by show (dv (aL _)).toNat=_;rw[bR];rfl
  have h6:(dv (fb (q.den:Int)).aa).toNat=q.den:=by show (dv (aL _)).toNat=_;rw[bR];rfl
  rw[h5,h6]
  exact q.reduced
theorem As (q:Rat):okF (yY q)=true:=JF.2 ⟨q,rfl⟩
def Si (f:aQ):Prop:=f.cn.aa.length≤jJ∧f.cl.aa.length≤jJ
theorem Ce {q:Rat} (h:LF q≤jE):Si (yY q):=by
 unfold LF at h
 exact⟨yc (show Ln q.num≤_ by omega),yc (show Ln q.den≤_ by omega)⟩
theorem q0 {f:aQ} (hf:Si f):fe f=some (okF f):=by
 have hL:jJ=17592186043904:=rfl
 obtain⟨p,q⟩:=f
 simp only[Si]at hf
 unfold fe okF
 rw[ES (show Fit p.aa by unfold Fit;omega),Option.bind_some]
 by_cases h1:okB p=true
 ·simp only[h1,Bool.not_true,Bool.false_eq_true,if_false,Bool.true_and]
  rw[ES (show Fit q.aa by unfold Fit;omega),Option.bind_some]
  by_cases h2:okB q=true
  ·simp only[h2,Bool.not_true,Bool.false_eq_true,if_false,Bool.true_and,Option.bind_some]
   by_cases h3:q.ah=1
   ·rw[if_neg (by simp[h3])]
    obtain⟨x,rfl⟩:=sM.1 h1
    obtain⟨y,rfl⟩:=sM.1 h2
    rw[Yx hf.1 hf.2,Option.bind_some]
    simp only[beq_self_eq_true,if_true]
    have h5:(dv (fb x).aa).toNat=x.natAbs:=by show (dv (aL _)).toNat=_;rw[bR];rfl
    have h6:(dv (fb y).aa).toNat=y.natAbs:=by show (dv (aL _)).toNat=_;rw[bR];rfl
    rw[Y0,Option.bind_some,h5,h6]
    ·rw[h3];rfl
    ·have hy:0<y.natAbs:=by
      have:y.sign=1:=h3
      rcases gp y with⟨a,b,c⟩|⟨a,b,c⟩|⟨a,b⟩<;>omega
     have:=dK (Nat.gcd_le_right x.natAbs hy)
     have h7:(aL y.natAbs).length≤jJ:=hf.2
     show (aL (Nat.gcd x.natAbs y.natAbs)).length≤_
     omega
   ·rw[if_pos (by simpa using h3)]
    simp[h3]
  ·simp only[h2,Bool.not_false,if_true,Option.bind_some,Bool.false_and]
 ·simp only[h1,Bool.not_false,if_true,Option.bind_some,Bool.false_and]
theorem CG {q:Rat} (h:LF q≤jE):fe (yY q)=some true:=by rw[q0 (Ce h),As]
theorem IC (q:Rat):Ln q.num≤LF q:=by unfold LF;omega
theorem IB (q:Rat):Ln q.den≤LF q:=by unfold LF;omega
theorem ZA {n:Int} (h : -9223372036854775808≤n∧n<9223372036854775808):oZ n=some (yY n):=by
 unfold oZ
 rw[XN h,Option.bind_some,XN (by decide),Option.bind_some]
 unfold yY
 rw[Rat.num_intCast,Rat.den_intCast]
 rfl
def Sp (a b:Rat):Int:=if a<b then -1 else if b<a then 1 else 0
theorem QW (a b:Rat):lO (a.num*b.den) (b.num*a.den)=Sp a b:=by
 unfold lO Sp
 simp only[Rat.lt_iff]
theorem zC {a b:Rat} (h:LF a+LF b≤jE):fm (yY a) (yY b)=some (Sp a b):=by
 have n1:=IC a
 have n2:=IC b
 have d1:=IB a
 have d2:=IB b
 have m1:=zU a.num b.den
 have m2:=zU b.num a.den
 unfold fm
 rw[CG (by omega),Option.bind_some]
 simp only[Bool.not_true,Bool.false_eq_true,if_false]
 rw[CG (by omega),Option.bind_some,Option.bind_some]
 simp only[Bool.not_true,Bool.false_eq_true,if_false]
 show (gz (fb a.num) (fb b.den)).bind _=_
 rw[NS (by omega) (by omega),Option.bind_some]
 show (gz (fb b.num) (fb a.den)).bind _=_
 rw[NS (by omega) (by omega),Option.bind_some,Oa (by omega) (by omega),Option.bind_some,QW]
theorem Sc {l:List Int} (hl:Fit l) (hd:Dg l):gm l=some (aL (dv l).toNat):=by
 have h:=zu hl hd
 obtain⟨r,h1,k,rfl,hk,_⟩:=Iv hl
 unfold eL at h
 unfold gm
 have e:vl l=kq l:=rfl
 rw[h1,Option.bind_some,Cr hk,Option.bind_some]at h
 rw[e,h1,Option.bind_some,Cr hk,Option.bind_some,Fk (by unfold Fit at hl;simp;omega),Option.bind_some]
 exact h
theorem E9 {l:List Int} {n:Nat} (hl:Fit l) (hd:Dg l) (hn:dv l=n):gm l=some (aL n):=by
 rw[Sc hl hd,hn];rfl
theorem Cn {s:Int} {l:List Int} (x:Int) (hf:Fit l) (hd:Dg l) (hv:dv l=x.natAbs) (hs:x≠0→s=x.sign):fi s l=some (fb x):=by
 have h:=AI x hf hd hv hs
 unfold fK at h
 rw[zu hf hd]at h
 unfold fi
 rw[Sc hf hd]
 exact h
theorem xK {x:Int} {s:Int} {n:Nat} (hn:n=x.natAbs) (hs:x≠0→s=x.sign) (hL:n≠0→(aL n).length≤17592186044416):fi s (aL n)=some (fb x):=by
 subst hn
 refine Cn x ?_ (cM _) (bR _) hs
 unfold Fit
 by_cases h:x.natAbs=0
 ·rw[h,cJ];simp
 ·exact hL h
theorem Nv {s:Int} {l:List Int} (hf:Fit l):∃r,aS (ow ⟨s,l⟩) 0=some r∧(match r with | .inl _=>Dg l | .inr x=>x=false∧¬Dg l):=by
 refine eN (I:=fun i s=>s=(i:Int)∧Dg (l.take i)) l.length _ ⟨rfl,by simpa using Dg.nil⟩ (mR hf) ?_
 unfold Fit at hf
 rintro i s hi ⟨rfl,hd⟩
 simp only[ow]
 by_cases hlt:i<l.length
 ·rw[if_pos (by simpa using hlt),cG hlt,Option.bind_some]
  by_cases h1:l[i]<0
  ·right
   exact⟨.inr false,by rw[if_pos (by simpa using h1)],rfl,fun hh=>by have:=hh.get hlt;omega⟩
  ·by_cases h2:l[i]≥1048576
   ·right
    exact⟨.inr false,by rw[if_neg (by simpa using h1),if_pos (by simpa using h2)],rfl,fun hh=>by have:=hh.get hlt;omega⟩
   ·left
    refine⟨hlt,_,by rw[if_neg (by simpa using h1),if_neg (by simpa using h2)],by rw[iV (by omega)];omega,?_⟩
    have e:l.take (i+1)=l.take i++[l[i]]:=by rw[List.take_add_one];simp[hlt]
    rw[e]
    exact hd.append (Dg.mk (by omega) Dg.nil)
 ·right
  have:i=l.length:=by omega
  subst this
  rw[List.take_length]at hd
  exact⟨.inl (),by rw[if_neg (by simp)],hd⟩
theorem PG {b:aw} (hf:Fit b.aa):du b=some (okB b):=by
 obtain⟨s,l⟩:=b
 simp only[Fit]at hf
 obtain⟨r,h1,h2⟩:=Nv (s:=s) (l:=l) hf
 unfold du okB
 rw[h1,Option.bind_some]
 cases r with
 | inr x =>
  obtain⟨rfl,h⟩:=h2
  simp[h]
 | inl u =>
  simp only at h2 ⊢
  simp only[h2,decide_true,Bool.true_and]
  by_cases h0:l=[]
  ·subst h0
   by_cases hs0:s=0
   ·subst hs0;simp
   ·have:(s==0)=false:=by simpa using hs0
    simp only[List.length_nil,List.getLast?_nil,this]
    split<;>(try split)<;>simp
  ·have hp:0<l.length:=List.length_pos_iff.2 h0
   have e:IntKind.i64.wrap ((l.length:Int)-1)=((l.length-1:Nat):Int):=by rw[iV (by omega)];omega
   have hl0:((l.length:Int)==0)=false:=by simpa using h0
   rw[e,cG (by omega),List.getLast?_eq_some_getLast h0,List.getLast_eq_getElem,hl0]
   simp only[Option.bind_some,Bool.false_eq_true,if_false]
   by_cases hs:s < -1
   ·rw[if_pos (by simpa using hs)]
    have h1:(s==1)=false:=by simp;omega
    have h2:(s == -1)=false:=by simp;omega
    simp[h1,h2]
   ·rw[if_neg (by simpa using hs)]
    by_cases hs':s>1
    ·rw[if_pos (by simpa using hs')]
     have h1:(s==1)=false:=by simp;omega
     have h2:(s == -1)=false:=by simp;omega
     simp[h1,h2]
    ·rw[if_neg (by simpa using hs')]
     rcases (show s = -1∨s=0∨s=1 by omega) with rfl|rfl|rfl<;>simp
theorem gQ {x:Int} (h:Ln x≤17592186044416):du (fb x)=some true:=by
 rw[PG (show Fit (fb x).aa from h),JE]
theorem yp (l:List Int) (i:Nat):fT l (i:Int)=some (gd l i):=by
 unfold fT
 by_cases h:i<l.length
 ·rw[if_pos (by simpa using h),cG h,Option.bind_some,Ra h]
 ·rw[if_neg (by simpa using h),Lu (by omega)]
theorem NT {a b l0:List Int} {i n:Nat} (ha:Dg a) (hb:Dg b) (hia:i<a.length) (h0:Dg l0) (hn:l0.length=n) (hi:i+b.length<n) (hf:n≤17592186044416) (hz:∀j (hj:j<l0.length),i+b.length≤j→l0[j]=0) :
  ∃l,aS (oA a b (i:Int)) (0,0,l0)=some l∧l.length=n∧Dg l∧(∀j (hj:j<l.length),i+b.length<j→l[j]=0)∧dv l=dv l0+pw i*(a[i]*dv b):=by
 have hx:=ha.get hia
 refine eN (I:=fun k s=>s.2.1=(k:Int)∧s.2.2.length=n∧Dg s.2.2∧(0≤s.1∧s.1<1048576)∧(∀j (hj:j<s.2.2.length),i+b.length≤j→i+k≤j→s.2.2[j]=0)∧(k=b.length+1→s.1=0)∧dv s.2.2+pw (i+k)*s.1=dv l0+pw i*(a[i]*dv (b.take k)))
  (b.length+1) _ ⟨rfl,hn,h0,by simp,fun j hj h _=>hz j hj h,by omega,by simp[dv]⟩ (mR (by omega)) ?_
 rintro k ⟨c,s,l⟩ hk ⟨h1,hl,hd,hc,hz,hend,he⟩
 simp only at h1 hl hd hc hz hend he
 subst h1
 simp only[oA]
 have hT:(if decide ((k:Int)<(b.length:Int))=true then some true else some (decide (c>0)))=some (decide (k<b.length∨c>0)):=by
  by_cases h:k<b.length
  ·rw[if_pos (by simpa using h)];simp[h]
  ·rw[if_neg (by simpa using h)];simp[h]
 rw[hT,Option.bind_some]
 by_cases hgo:k<b.length∨c>0
 ·left
  have hkb:k≤b.length:=by
   rcases hgo with h|h
   ·omega
   ·rcases Nat.lt_or_ge b.length k with h'|h'
    ·have:=hend (by omega);omega
    ·exact h'
  have hik:i+k<l.length:=by omega
  have ei:IntKind.i64.wrap ((i:Int)+(k:Int))=((i+k:Nat):Int):=by rw[iV (by omega)];omega
  have gb:=Q9 hb k
  have gl:=hd.get hik
  have hm0:0≤a[i]*gd b k:=Int.mul_nonneg hx.1 gb.1
  have hm1:a[i]*gd b k≤1048575*1048575:=Int.mul_le_mul (by omega) (by omega) gb.1 (by omega)
  rw[if_pos (by simpa using hgo),ei,cG hik,Option.bind_some,cG hia,Option.bind_some,yp,Option.bind_some,iV (x:=a[i]*gd b k) (by omega),iV (x:=l[i+k]+a[i]*gd b k) (by omega),iV (x:=l[i+k]+a[i]*gd b k+c) (by omega),YY (by omega) (by omega),Option.bind_some,W6 (by omega) (by omega) (by omega),Option.bind_some]
  have e1:IntKind.i64.wrap ((k:Int)+1)=((k+1:Nat):Int):=by rw[iV (by omega)];omega
  refine⟨by omega,_,rfl,e1,by simpa using hl,hd.set _ (by omega),by simp only;omega,fun j hj hij hij2 =>?_,fun hk1 =>?_,?_⟩
  ·simp only[Int.toNat_natCast]at hj ⊢
   rw[List.getElem_set_ne (by omega)]
   exact hz j (by simpa using hj) hij (by omega)
  ·have hkl:k=b.length:=by omega
   simp only
   rw[Lu (by omega),Int.mul_zero,hz _ hik (by omega) (Nat.le_refl _)]
   omega
  ·simp only[Int.toNat_natCast]
   rw[z8 hik,yO]
   have hp:=AB (i+k) (l[i+k]+a[i]*gd b k+c)
   rw[Int.mul_add (pw (i+k)),Int.mul_add (pw (i+k))]at hp
   have e2:pw i*(a[i]*(dv (b.take k)+pw k*gd b k))=pw i*(a[i]*dv (b.take k))+pw (i+k)*(a[i]*gd b k):=by
    rw[Int.mul_add,Int.mul_add,Ez]
    congr 1
    rw[Int.mul_left_comm a[i],← Int.mul_assoc]
   rw[e2,Int.mul_sub,show i+(k+1)=i+k+1 by omega]
   omega
 ·right
  have hkb:b.length≤k:=by omega
  have hc0:c=0:=by omega
  subst hc0
  refine⟨l,by rw[if_neg (by simpa using hgo)],hl,hd,fun j hj h=>hz j hj (by omega) (by omega),?_⟩
  rw[I1 hkb,Int.mul_zero]at he
  omega
end Go.Proofs.YtpkahnkoecbndaaGreatDoor.P
