/- Part of a proof, made small by a program (wip/mini.py). -/
import Derived.Test.YtpkahnkoecbndaaGreatDoorUe
namespace Go.Proofs.YtpkahnkoecbndaaGreatDoor.Am
open Go.RowKit Go.Proofs.YtpkahnkoecbndaaGreatDoor.P
set_option maxRecDepth 100000
set_option maxHeartbeats 4000000
set_option linter.unusedSimpArgs false
set_option linter.unusedVariables false
theorem MX (p0:aF) (p1:aF) (r:aF×Int) (hh:my p0 p1=some r):aQ .clean tab rp FU Tryz.f61 none [.agg [.int .i64 p0.bx.ag,.sl false false p0.bx.aa.length (ab (eI .i64) p0.bx.aa),.int .i64 p0.bt.ag,.sl false false p0.bt.aa.length (ab (eI .i64) p0.bt.aa)],.agg [.int .i64 p1.bx.ag,.sl false false p1.bx.aa.length (ab (eI .i64) p1.bx.aa),.int .i64 p1.bt.ag,.sl false false p1.bt.aa.length (ab (eI .i64) p1.bt.aa)]]=some (.clean (.tup [.agg [.int .i64 r.1.bx.ag,.sl false false r.1.bx.aa.length (ab (eI .i64) r.1.bx.aa),.int .i64 r.1.bt.ag,.sl false false r.1.bt.aa.length (ab (eI .i64) r.1.bt.aa)],.int .i64 r.2]),none):=by
 refine av rfl Tryz.ntmps61 Tryz.results61 ?_
 unfold my at hh
 obtain⟨r1,hr1,hh⟩:=ae hh
 try simp only[fW,seval,-Int.reduceToNat,hr1]
 obtain⟨o2,ho2,hh⟩:=ae hh
 refine bD 0 (fun s t H e=>match s with|s15j1=>∃v2j1:Nat,∃v3j1:Nat,∃v4j1:Nat,t 2=.ptr 2 v2j1 0∧t 3=.ptr 3 v3j1 0∧t 4=.ptr 4 v4j1 0∧t 15=.bool s15j1∧H 2=some ⟨v2j1,51,[.int .i64 p0.bx.ag,.sl false false p0.bx.aa.length (ab (eI .i64) p0.bx.aa),.int .i64 p0.bt.ag,.sl false false p0.bt.aa.length (ab (eI .i64) p0.bt.aa)],false,false,false⟩∧H 3=some ⟨v3j1,51,[.int .i64 p1.bx.ag,.sl false false p1.bx.aa.length (ab (eI .i64) p1.bx.aa),.int .i64 p1.bt.ag,.sl false false p1.bt.aa.length (ab (eI .i64) p1.bt.aa)],false,false,false⟩∧H 4=some ⟨v4j1,51,[.int .i64 0,.sl true true 0 [],.int .i64 0,.sl true true 0 []],false,false,false⟩) (fun s=>s=o2) ?_ ?_
 ·rintro s15j1 t H e ⟨v2j1,v3j1,v4j1,Zj1⟩ rfl
  try dsimp only at hh
  try simp only[fW,seval,-Int.reduceToNat,hr1,Zj1]
  refine sp aj hh (fun _ hh =>?_) (fun _ hh =>?_)
  ·cases hh
   try simp only[fW,seval,-Int.reduceToNat,hr1,Zj1]
  ·obtain⟨r4,hr4,hh⟩:=ae hh
   obtain⟨r5,hr5,hh⟩:=ae hh
   obtain⟨r6,hr6,hh⟩:=ae hh
   try simp only[fW,seval,-Int.reduceToNat,hr1,Zj1,hr4,hr5,hr6]
   refine bI (by kernel_rfl) ?_
   obtain⟨r7,hr7,hh⟩:=ae hh
   obtain⟨r8,hr8,hh⟩:=ae hh
   try simp only[fW,seval,-Int.reduceToNat,hr1,Zj1,hr4,hr5,hr6,hr7,hr8]
   refine bI (by kernel_rfl) ?_
   cases hh
   try simp only[fW,seval,-Int.reduceToNat,hr1,Zj1,hr4,hr5,hr6,hr7,hr8]
 ·clear hh
  have hh:=ho2
  try simp only[fW,seval,-Int.reduceToNat,hr1]
  refine sp aU hh (fun _ hh =>?_) (fun _ hh =>?_)
  ·cases hh
   try simp only[fW,seval,-Int.reduceToNat,hr1]
   rw[ak]
   refine⟨_,rfl,?_⟩
   refine⟨0,0,0,?_,?_,?_,?_,?_,?_,?_⟩
   all_goals first|rfl|(simp only[fW,seval,-Int.reduceToNat,hr1]<;>rfl)
  ·obtain⟨r10,hr10,hh⟩:=ae hh
   cases hh
   try simp only[fW,seval,-Int.reduceToNat,hr1,hr10]
   rw[ak]
   refine⟨_,rfl,?_⟩
   refine⟨0,0,0,?_,?_,?_,?_,?_,?_,?_⟩
   all_goals first|rfl|(simp only[fW,seval,-Int.reduceToNat,hr1,hr10]<;>rfl)
theorem K2:bH Tryz.prog 61 wz:=bH.of (mode := .clean) tok JL mixed Tryz.func61 (by kernel_rfl) ⟨by kernel_rfl,by kernel_rfl⟩ (fun _=>Nat.le_of_ble_eq_true (by kernel_rfl)) (fun x r h=>MX x.1 x.2 r h)
noncomputable def wJ:=eL (ec (cJ fc) (dJ (cJ fc))) (fun x:bK×bK=>oV x.1 x.2) (fun r:bK×Int =>.clean (.tup [.agg [.int .i64 r.1.aH.bx.ag,.sl false false r.1.aH.bx.aa.length (ab (eI .i64) r.1.aH.bx.aa),.int .i64 r.1.aH.bt.ag,.sl false false r.1.aH.bt.aa.length (ab (eI .i64) r.1.aH.bt.aa),.int .i64 r.1.az.bx.ag,.sl false false r.1.az.bx.aa.length (ab (eI .i64) r.1.az.bx.aa),.int .i64 r.1.az.bt.ag,.sl false false r.1.az.bt.aa.length (ab (eI .i64) r.1.az.bt.aa)],.int .i64 r.2]))
theorem Dk (p0_0:Int) (p0_1:(List Int)) (p0_2:Int) (p0_3:(List Int)) (p0_4:Int) (p0_5:(List Int)) (p0_6:Int) (p0_7:(List Int)) (p1_0:Int) (p1_1:(List Int)) (p1_2:Int) (p1_3:(List Int)) (p1_4:Int) (p1_5:(List Int)) (p1_6:Int) (p1_7:(List Int)):wJ none [.agg [.int .i64 p0_0,.sl false false p0_1.length (ab (eI .i64) p0_1),.int .i64 p0_2,.sl false false p0_3.length (ab (eI .i64) p0_3),.int .i64 p0_4,.sl false false p0_5.length (ab (eI .i64) p0_5),.int .i64 p0_6,.sl false false p0_7.length (ab (eI .i64) p0_7)],.agg [.int .i64 p1_0,.sl false false p1_1.length (ab (eI .i64) p1_1),.int .i64 p1_2,.sl false false p1_3.length (ab (eI .i64) p1_3),.int .i64 p1_4,.sl false false p1_5.length (ab (eI .i64) p1_5),.int .i64 p1_6,.sl false false p1_7.length (ab (eI .i64) p1_7)]]=(oV (bK.mk (aF.mk (an.mk p0_0 p0_1) (an.mk p0_2 p0_3)) (aF.mk (an.mk p0_4 p0_5) (an.mk p0_6 p0_7))) (bK.mk (aF.mk (an.mk p1_0 p1_1) (an.mk p1_2 p1_3)) (aF.mk (an.mk p1_4 p1_5) (an.mk p1_6 p1_7)))).map fun r:bK×Int=>(.clean (.tup [.agg [.int .i64 r.1.aH.bx.ag,.sl false false r.1.aH.bx.aa.length (ab (eI .i64) r.1.aH.bx.aa),.int .i64 r.1.aH.bt.ag,.sl false false r.1.aH.bt.aa.length (ab (eI .i64) r.1.aH.bt.aa),.int .i64 r.1.az.bx.ag,.sl false false r.1.az.bx.aa.length (ab (eI .i64) r.1.az.bx.aa),.int .i64 r.1.az.bt.ag,.sl false false r.1.az.bt.aa.length (ab (eI .i64) r.1.az.bt.aa)],.int .i64 r.2]),none):=aK _ _ _ ((bK.mk (aF.mk (an.mk p0_0 p0_1) (an.mk p0_2 p0_3)) (aF.mk (an.mk p0_4 p0_5) (an.mk p0_6 p0_7))),(bK.mk (aF.mk (an.mk p1_0 p1_1) (an.mk p1_2 p1_3)) (aF.mk (an.mk p1_4 p1_5) (an.mk p1_6 p1_7))))
noncomputable def rF:Env:=(Am.ext (Am.ext aS 30 false jr) 61 false wz)
theorem JV:bN Tryz.prog rF:=((bN.none.add mh false).add K2 false)
theorem iD:type_of% (ai @w<|ai @gz<|ai @Dc<|@rF.eq_1):=⟨@w,@gz,@Dc,@rF.eq_1⟩
theorem Nb (p0:bK) (p1:bK) (r:bK×Int) (hh:oV p0 p1=some r):aQ .clean tab rF FU Tryz.f36 none [.agg [.int .i64 p0.aH.bx.ag,.sl false false p0.aH.bx.aa.length (ab (eI .i64) p0.aH.bx.aa),.int .i64 p0.aH.bt.ag,.sl false false p0.aH.bt.aa.length (ab (eI .i64) p0.aH.bt.aa),.int .i64 p0.az.bx.ag,.sl false false p0.az.bx.aa.length (ab (eI .i64) p0.az.bx.aa),.int .i64 p0.az.bt.ag,.sl false false p0.az.bt.aa.length (ab (eI .i64) p0.az.bt.aa)],.agg [.int .i64 p1.aH.bx.ag,.sl false false p1.aH.bx.aa.length (ab (eI .i64) p1.aH.bx.aa),.int .i64 p1.aH.bt.ag,.sl false false p1.aH.bt.aa.length (ab (eI .i64) p1.aH.bt.aa),.int .i64 p1.az.bx.ag,.sl false false p1.az.bx.aa.length (ab (eI .i64) p1.az.bx.aa),.int .i64 p1.az.bt.ag,.sl false false p1.az.bt.aa.length (ab (eI .i64) p1.az.bt.aa)]]=some (.clean (.tup [.agg [.int .i64 r.1.aH.bx.ag,.sl false false r.1.aH.bx.aa.length (ab (eI .i64) r.1.aH.bx.aa),.int .i64 r.1.aH.bt.ag,.sl false false r.1.aH.bt.aa.length (ab (eI .i64) r.1.aH.bt.aa),.int .i64 r.1.az.bx.ag,.sl false false r.1.az.bx.aa.length (ab (eI .i64) r.1.az.bx.aa),.int .i64 r.1.az.bt.ag,.sl false false r.1.az.bt.aa.length (ab (eI .i64) r.1.az.bt.aa)],.int .i64 r.2]),none):=by
 refine av rfl Tryz.ntmps36 Tryz.results36 ?_
 unfold oV at hh
 obtain⟨r1,hr1,hh⟩:=ae hh
 try simp only[iD,seval,-Int.reduceToNat,hr1]
 obtain⟨o2,ho2,hh⟩:=ae hh
 refine bD 0 (fun s t H e=>match s with|s17j1=>∃v2j1:Nat,∃v3j1:Nat,∃v4j1:Nat,t 2=.ptr 2 v2j1 0∧t 3=.ptr 3 v3j1 0∧t 4=.ptr 4 v4j1 0∧t 17=.bool s17j1∧H 2=some ⟨v2j1,53,[.int .i64 p0.aH.bx.ag,.sl false false p0.aH.bx.aa.length (ab (eI .i64) p0.aH.bx.aa),.int .i64 p0.aH.bt.ag,.sl false false p0.aH.bt.aa.length (ab (eI .i64) p0.aH.bt.aa),.int .i64 p0.az.bx.ag,.sl false false p0.az.bx.aa.length (ab (eI .i64) p0.az.bx.aa),.int .i64 p0.az.bt.ag,.sl false false p0.az.bt.aa.length (ab (eI .i64) p0.az.bt.aa)],false,false,false⟩∧H 3=some ⟨v3j1,53,[.int .i64 p1.aH.bx.ag,.sl false false p1.aH.bx.aa.length (ab (eI .i64) p1.aH.bx.aa),.int .i64 p1.aH.bt.ag,.sl false false p1.aH.bt.aa.length (ab (eI .i64) p1.aH.bt.aa),.int .i64 p1.az.bx.ag,.sl false false p1.az.bx.aa.length (ab (eI .i64) p1.az.bx.aa),.int .i64 p1.az.bt.ag,.sl false false p1.az.bt.aa.length (ab (eI .i64) p1.az.bt.aa)],false,false,false⟩∧H 4=some ⟨v4j1,53,[.int .i64 0,.sl true true 0 [],.int .i64 0,.sl true true 0 [],.int .i64 0,.sl true true 0 [],.int .i64 0,.sl true true 0 []],false,false,false⟩) (fun s=>s=o2) ?_ ?_
 ·rintro s17j1 t H e ⟨v2j1,v3j1,v4j1,Zj1⟩ rfl
  try dsimp only at hh
  try simp only[iD,seval,-Int.reduceToNat,hr1,Zj1]
  refine sp aj hh (fun _ hh =>?_) (fun _ hh =>?_)
  ·cases hh
   try simp only[iD,seval,-Int.reduceToNat,hr1,Zj1]
  ·obtain⟨r4,hr4,hh⟩:=ae hh
   obtain⟨r5,hr5,hh⟩:=ae hh
   cases hh
   try simp only[iD,seval,-Int.reduceToNat,hr1,Zj1,hr4,hr5]
 ·clear hh
  have hh:=ho2
  try simp only[iD,seval,-Int.reduceToNat,hr1]
  refine sp aU hh (fun _ hh =>?_) (fun _ hh =>?_)
  ·cases hh
   try simp only[iD,seval,-Int.reduceToNat,hr1]
   rw[ak]
   refine⟨_,rfl,?_⟩
   refine⟨0,0,0,?_,?_,?_,?_,?_,?_,?_⟩
   all_goals first|rfl|(simp only[iD,seval,-Int.reduceToNat,hr1]<;>rfl)
  ·obtain⟨r7,hr7,hh⟩:=ae hh
   cases hh
   try simp only[iD,seval,-Int.reduceToNat,hr1,hr7]
   rw[ak]
   refine⟨_,rfl,?_⟩
   refine⟨0,0,0,?_,?_,?_,?_,?_,?_,?_⟩
   all_goals first|rfl|(simp only[iD,seval,-Int.reduceToNat,hr1,hr7]<;>rfl)
theorem Lb:bH Tryz.prog 36 wJ:=bH.of (mode := .clean) tok JV mixed Tryz.func36 (by kernel_rfl) ⟨by kernel_rfl,by kernel_rfl⟩ (fun _=>Nat.le_of_ble_eq_true (by kernel_rfl)) (fun x r h=>Nb x.1 x.2 r h)
noncomputable def AF:=eL (ec (cJ ep) (ec (cJ tD) (ec (iE fc) (dJ (aI .i64))))) (fun x:ax×fh×(List bK)×Int=>fH x.1 x.2.1 x.2.2.1 x.2.2.2) (fun r:Bool =>.clean (.bool r))
noncomputable def j4:Env:=(Am.ext (Am.ext (Am.ext (Am.ext (Am.ext (Am.ext (Am.ext (Am.ext (Am.ext (Am.ext (Am.ext (Am.ext (Am.ext aS 9 false sX) 10 false yE) 13 false jG) 26 false yx) 27 false qJ) 28 false wE) 29 false yD) 30 false jr) 31 false qM) 32 false uC) 33 false sY) 35 false lX) 36 false wJ)
theorem yU:bN Tryz.prog j4:=(((((((((((((bN.none.add HT false).add Nt false).add oM false).add Nk false).add Ev false).add K6 false).add Ns false).add mh false).add zZ false).add C3 false).add HU false).add uc false).add Lb false)
theorem ay:type_of% (ai @w<|ai @Ac<|ai @Gw<|ai @fJ<|ai @Gp<|ai @xW<|ai @Dh<|ai @Gv<|ai @gz<|ai @rQ<|ai @vg<|ai @Ad<|ai @ml<|ai @Dk<|@j4.eq_1):=⟨@w,@Ac,@Gw,@fJ,@Gp,@xW,@Dh,@Gv,@gz,@rQ,@vg,@Ad,@ml,@Dk,@j4.eq_1⟩
theorem AP (p0:ax) (p1:fh) (p2:(List bK)) (p3:Int) (r:Bool) (hh:fH p0 p1 p2 p3=some r):aQ .clean tab j4 FU Tryz.f8 none [.agg [.sl false false p0.ah.length (ab aq p0.ah)],.agg [.sl false false p1.aR.length (ab fX p1.aR),.sl false false p1.a8.length (ab (eI .i64) p1.a8),.sl false false p1.bu.length (ab (eI .i64) p1.bu)],.sl false false p2.length (ab fc p2),.int .i64 p3]=some (.clean (.bool r),none):=by
 refine av rfl Tryz.ntmps8 Tryz.results8 ?_
 unfold fH at hh
 obtain⟨r1,hr1,hh⟩:=ae hh
 obtain⟨r2,hr2,hh⟩:=ae hh
 try simp only[ay,seval,-Int.reduceToNat,hr1,hr2]
 obtain⟨o3,ho3,hh⟩:=ae hh
 refine bD 0 (fun s t H e=>match s with|s36j1=>∃v4j1:Nat,∃v5j1:Nat,t 2=.sl false false p2.length (ab fc p2)∧t 3=.int .i64 p3∧t 4=.ptr 4 v4j1 0∧t 5=.ptr 5 v5j1 0∧t 9=.bool r1∧t 36=.bool s36j1∧H 4=some ⟨v4j1,24,[.sl false false p0.ah.length (ab aq p0.ah)],false,false,false⟩∧H 5=some ⟨v5j1,60,[.sl false false p1.aR.length (ab fX p1.aR),.sl false false p1.a8.length (ab (eI .i64) p1.a8),.sl false false p1.bu.length (ab (eI .i64) p1.bu)],false,false,false⟩) (fun s=>s=o3) ?_ ?_
 ·rintro s36j1 t H e ⟨v4j1,v5j1,Zj1⟩ rfl
  try dsimp only at hh
  try simp only[ay,seval,-Int.reduceToNat,hr1,hr2,Zj1]
  refine sp aj hh (fun _ hh =>?_) (fun _ hh =>?_)
  ·cases hh
   try simp only[ay,seval,-Int.reduceToNat,hr1,hr2,Zj1]
  ·obtain⟨r5,hr5,hh⟩:=ae hh
   try simp only[ay,seval,-Int.reduceToNat,hr1,hr2,Zj1,hr5]
   refine sp aj hh (fun _ hh =>?_) (fun _ hh =>?_)
   ·cases hh
    try simp only[ay,seval,-Int.reduceToNat,hr1,hr2,Zj1,hr5]
   ·obtain⟨r7,hr7,hh⟩:=ae hh
    try simp only[ay,seval,-Int.reduceToNat,hr1,hr2,Zj1,hr5,hr7]
    obtain⟨o22,ho22,hh⟩:=ae hh
    refine aA (fun s t H e=>match s with|(s17b,l14b,l15b,r16_0b,r16_1b,r16_2b,r16_3b,r16_4b,r16_5b,r16_6b,r16_7b)=>∃v5b:Nat,∃v10b:Nat,∃v14b:Nat,∃v15b:Nat,∃v16b:Nat,t 2=.sl false false p2.length (ab fc p2)∧t 3=.int .i64 p3∧t 5=.ptr 5 v5b 0∧t 9=.bool r1∧t 10=.ptr 10 v10b 0∧t 11=.int .i64 r5.2.1∧t 12=.sl false false r5.2.2.1.length (ab (eI .i64) r5.2.2.1)∧t 14=.buf 14 v14b 5 0 (l14b).length∧t 15=.buf 15 v15b 9 0 (l15b).length∧t 16=.ptr 16 v16b 0∧t 17=.int .i64 s17b∧H 5=some ⟨v5b,60,[.sl false false p1.aR.length (ab fX p1.aR),.sl false false p1.a8.length (ab (eI .i64) p1.a8),.sl false false p1.bu.length (ab (eI .i64) p1.bu)],false,false,false⟩∧H 10=some ⟨v10b,24,[.sl false false r5.1.ah.length (ab aq r5.1.ah)],false,false,false⟩∧H 14=some ⟨v14b,67,ab bZ l14b,false,true,false⟩∧H 15=some ⟨v15b,55,ab bd l15b,false,true,false⟩∧H 16=some ⟨v16b,53,[.int .i64 r16_0b,.sl false false r16_1b.length (ab (eI .i64) r16_1b),.int .i64 r16_2b,.sl false false r16_3b.length (ab (eI .i64) r16_3b),.int .i64 r16_4b,.sl false false r16_5b.length (ab (eI .i64) r16_5b),.int .i64 r16_6b,.sl false false r16_7b.length (ab (eI .i64) r16_7b)],false,false,false⟩) (fun o x t H e=>match o with|(.inl (l14bx,l15bx,r16_0bx,r16_1bx,r16_2bx,r16_3bx,r16_4bx,r16_5bx,r16_6bx,r16_7bx))=>x=.exit 0∧∃v5bx:Nat,∃v10bx:Nat,∃v14bx:Nat,∃v15bx:Nat,∃v16bx:Nat,t 3=.int .i64 p3∧t 5=.ptr 5 v5bx 0∧t 9=.bool r1∧t 10=.ptr 10 v10bx 0∧t 11=.int .i64 r5.2.1∧t 12=.sl false false r5.2.2.1.length (ab (eI .i64) r5.2.2.1)∧t 14=.buf 14 v14bx 5 0 (l14bx).length∧t 15=.buf 15 v15bx 9 0 (l15bx).length∧t 16=.ptr 16 v16bx 0∧H 5=some ⟨v5bx,60,[.sl false false p1.aR.length (ab fX p1.aR),.sl false false p1.a8.length (ab (eI .i64) p1.a8),.sl false false p1.bu.length (ab (eI .i64) p1.bu)],false,false,false⟩∧H 10=some ⟨v10bx,24,[.sl false false r5.1.ah.length (ab aq r5.1.ah)],false,false,false⟩∧H 14=some ⟨v14bx,67,ab bZ l14bx,false,true,false⟩∧H 15=some ⟨v15bx,55,ab bd l15bx,false,true,false⟩∧H 16=some ⟨v16bx,53,[.int .i64 r16_0bx,.sl false false r16_1bx.length (ab (eI .i64) r16_1bx),.int .i64 r16_2bx,.sl false false r16_3bx.length (ab (eI .i64) r16_3bx),.int .i64 r16_4bx,.sl false false r16_5bx.length (ab (eI .i64) r16_5bx),.int .i64 r16_6bx,.sl false false r16_7bx.length (ab (eI .i64) r16_7bx)],false,false,false⟩|(.inr r)=>x=.ret∧gW .clean tab none [.tmp 8] ⟨t,H,e⟩=some (.clean (.bool r),none)) ho22 ?_ ?_ ?_
    ·refine⟨v5j1,e,e+1+1,e+1+1+1,e+1+1+1+1,?_,?_,?_,?_,?_,?_,?_,?_,?_,?_,?_,?_,?_,?_,?_,?_⟩
     all_goals first|rfl|(simp only[ay,seval,-Int.reduceToNat,hr1,hr2,Zj1,hr5,hr7]<;>rfl)
    ·rintro⟨s17b,l14b,l15b,r16_0b,r16_1b,r16_2b,r16_3b,r16_4b,r16_5b,r16_6b,r16_7b⟩ t H e ⟨v5b,v10b,v14b,v15b,v16b,Zb⟩ c hh
     simp only[fO]at hh
     try simp only[ay,seval,-Int.reduceToNat,hr1,hr2,hr5,hr7,Zb]
     refine sp aj hh (fun _ hh =>?_) (fun _ hh =>?_)
     ·obtain⟨x24,hx24,hh⟩:=ae hh
      have ax24:=bG fc hx24
      simp only[bU]at ax24
      obtain⟨r25,hr25,hh⟩:=ae hh
      try simp only[ay,seval,-Int.reduceToNat,hr1,hr2,hr5,hr7,Zb,ax24,hr25]
      obtain⟨o26,ho26,hh⟩:=ae hh
      refine bD 0 (fun s t H e=>match s with|s71j4=>∃v5j4:Nat,∃v10j4:Nat,∃v14j4:Nat,∃v15j4:Nat,∃v16j4:Nat,t 2=.sl false false p2.length (ab fc p2)∧t 3=.int .i64 p3∧t 5=.ptr 5 v5j4 0∧t 9=.bool r1∧t 10=.ptr 10 v10j4 0∧t 11=.int .i64 r5.2.1∧t 12=.sl false false r5.2.2.1.length (ab (eI .i64) r5.2.2.1)∧t 14=.buf 14 v14j4 5 0 (l14b).length∧t 15=.buf 15 v15j4 9 0 (l15b).length∧t 16=.ptr 16 v16j4 0∧t 17=.int .i64 s17b∧t 71=.bool s71j4∧H 5=some ⟨v5j4,60,[.sl false false p1.aR.length (ab fX p1.aR),.sl false false p1.a8.length (ab (eI .i64) p1.a8),.sl false false p1.bu.length (ab (eI .i64) p1.bu)],false,false,false⟩∧H 10=some ⟨v10j4,24,[.sl false false r5.1.ah.length (ab aq r5.1.ah)],false,false,false⟩∧H 14=some ⟨v14j4,67,ab bZ l14b,false,true,false⟩∧H 15=some ⟨v15j4,55,ab bd l15b,false,true,false⟩∧H 16=some ⟨v16j4,53,[.int .i64 r16_0b,.sl false false r16_1b.length (ab (eI .i64) r16_1b),.int .i64 r16_2b,.sl false false r16_3b.length (ab (eI .i64) r16_3b),.int .i64 r16_4b,.sl false false r16_5b.length (ab (eI .i64) r16_5b),.int .i64 r16_6b,.sl false false r16_7b.length (ab (eI .i64) r16_7b)],false,false,false⟩) (fun s=>s=o26) ?_ ?_
      ·rintro s71j4 t H e ⟨v5j4,v10j4,v14j4,v15j4,v16j4,Zj4⟩ rfl
       try dsimp only at hh
       try simp only[ay,seval,-Int.reduceToNat,hr1,hr2,hr5,hr7,ax24,hr25,Zj4]
       refine sp aj hh (fun _ hh =>?_) (fun _ hh =>?_)
       ·cases hh
        try simp only[ay,seval,-Int.reduceToNat,hr1,hr2,hr5,hr7,ax24,hr25,Zj4]
        refine yZ ⟨rfl,?_⟩
        try simp only[ay,seval,-Int.reduceToNat,hr1,hr2,hr5,hr7,ax24,hr25,Zj4]
       ·obtain⟨r28,hr28,hh⟩:=ae hh
        obtain⟨x29,hx29,hh⟩:=ae hh
        obtain⟨q30a,q30b,q30c,q30d⟩:=fi bZ hx29
        simp only[bU]at q30b
        obtain⟨x31,hx31,hh⟩:=ae hh
        have ax31:=bG (eI .i64) hx31
        simp only[bU]at ax31
        have ax24:=bG fc hx24
        simp only[bU]at ax24
        obtain⟨x32,hx32,hh⟩:=ae hh
        obtain⟨q33a,q33b,q33c,q33d⟩:=fi bd hx32
        simp only[bU]at q33b
        try simp only[ay,seval,-Int.reduceToNat,hr1,hr2,hr5,hr7,ax24,hr25,Zj4,hr28,q30a,q30b,q30c,q30d,ax31,ax24,q33a,q33b,q33c,q33d]
        refine bI (by kernel_rfl) ?_
        have ax24:=bG fc hx24
        simp only[bU]at ax24
        obtain⟨r34,hr34,hh⟩:=ae hh
        try simp only[ay,seval,-Int.reduceToNat,hr1,hr2,hr5,hr7,ax24,hr25,Zj4,hr28,q30a,q30b,q30c,q30d,ax31,ax24,q33a,q33b,q33c,q33d,ax24,hr34]
        refine bI (by kernel_rfl) ?_
        cases hh
        try simp only[ay,seval,-Int.reduceToNat,hr1,hr2,hr5,hr7,ax24,hr25,Zj4,hr28,q30a,q30b,q30c,q30d,ax31,ax24,q33a,q33b,q33c,q33d,ax24,hr34]
        refine jB ?_
        refine⟨v5j4,v10j4,e,e+1,v16j4,?_,?_,?_,?_,?_,?_,?_,?_,?_,?_,?_,?_,?_,?_,?_,?_⟩
        all_goals first|rfl|(simp only[ay,seval,-Int.reduceToNat,hr1,hr2,hr5,hr7,ax24,hr25,Zj4,hr28,q30a,q30b,q30c,q30d,ax31,ax24,q33a,q33b,q33c,q33d,ax24,hr34]<;>rfl)
      ·clear hh
       have hh:=ho26
       try simp only[ay,seval,-Int.reduceToNat,hr1,hr2,hr5,hr7,Zb,ax24,hr25]
       refine sp aU hh (fun _ hh =>?_) (fun _ hh =>?_)
       ·cases hh
        try simp only[ay,seval,-Int.reduceToNat,hr1,hr2,hr5,hr7,Zb,ax24,hr25]
        rw[ak]
        refine⟨_,rfl,?_⟩
        refine⟨v5b,v10b,v14b,v15b,v16b,?_,?_,?_,?_,?_,?_,?_,?_,?_,?_,?_,?_,?_,?_,?_,?_,?_⟩
        all_goals first|rfl|(simp only[ay,seval,-Int.reduceToNat,hr1,hr2,hr5,hr7,Zb,ax24,hr25]<;>rfl)
       ·have ax24:=bG fc hx24
        simp only[bU]at ax24
        obtain⟨r36,hr36,hh⟩:=ae hh
        cases hh
        try simp only[ay,seval,-Int.reduceToNat,hr1,hr2,hr5,hr7,Zb,ax24,hr25,ax24,hr36]
        rw[ak]
        refine⟨_,rfl,?_⟩
        refine⟨v5b,v10b,v14b,v15b,v16b,?_,?_,?_,?_,?_,?_,?_,?_,?_,?_,?_,?_,?_,?_,?_,?_,?_⟩
        all_goals first|rfl|(simp only[ay,seval,-Int.reduceToNat,hr1,hr2,hr5,hr7,Zb,ax24,hr25,ax24,hr36]<;>rfl)
     ·cases hh
      try simp only[ay,seval,-Int.reduceToNat,hr1,hr2,hr5,hr7,Zb]
      refine kH ?_
      refine⟨rfl,⟨v5b,v10b,v14b,v15b,v16b,?_,?_,?_,?_,?_,?_,?_,?_,?_,?_,?_,?_,?_,?_⟩⟩
      all_goals first|rfl|(simp only[ay,seval,-Int.reduceToNat,hr1,hr2,hr5,hr7,Zb]<;>rfl)
    ·rintro x t H e hx
     rcases o22 with⟨l14bx,l15bx,r16_0bx,r16_1bx,r16_2bx,r16_3bx,r16_4bx,r16_5bx,r16_6bx,r16_7bx⟩|rb
     ·dsimp only at hx hh
      obtain⟨rfl,⟨v5bx,v10bx,v14bx,v15bx,v16bx,Zbx⟩⟩:=hx
      obtain⟨r37,hr37,hh⟩:=ae hh
      obtain⟨r38,hr38,hh⟩:=ae hh
      try simp only[ay,seval,-Int.reduceToNat,hr1,hr2,hr5,hr7,Zbx,hr37,hr38]
      refine bI (by kernel_rfl) ?_
      try simp only[ay,seval,-Int.reduceToNat,hr1,hr2,hr5,hr7,Zbx,hr37,hr38]
      refine sp mq hh (fun _ hh =>?_) (fun _ hh =>?_)
      ·try simp only[ay,seval,-Int.reduceToNat,hr1,hr2,hr5,hr7,Zbx,hr37,hr38]
       refine sp mq hh (fun _ hh =>?_) (fun _ hh =>?_)
       ·try simp only[ay,seval,-Int.reduceToNat,hr1,hr2,hr5,hr7,Zbx,hr37,hr38]
        refine sp LW hh (fun _ hh =>?_) (fun _ hh =>?_)
        ·try simp only[ay,seval,-Int.reduceToNat,hr1,hr2,hr5,hr7,Zbx,hr37,hr38]
         refine bI (by kernel_rfl) ?_
         cases hh
         try simp only[ay,seval,-Int.reduceToNat,hr1,hr2,hr5,hr7,Zbx,hr37,hr38]
        ·obtain⟨r42,hr42,hh⟩:=ae hh
         obtain⟨r43,hr43,hh⟩:=ae hh
         try simp only[ay,seval,-Int.reduceToNat,hr1,hr2,hr5,hr7,Zbx,hr37,hr38,hr42,hr43]
         refine bI (by kernel_rfl) ?_
         cases hh
         try simp only[ay,seval,-Int.reduceToNat,hr1,hr2,hr5,hr7,Zbx,hr37,hr38,hr42,hr43]
       ·try simp only[ay,seval,-Int.reduceToNat,hr1,hr2,hr5,hr7,Zbx,hr37,hr38]
        refine bI (by kernel_rfl) ?_
        cases hh
        try simp only[ay,seval,-Int.reduceToNat,hr1,hr2,hr5,hr7,Zbx,hr37,hr38]
      ·try simp only[ay,seval,-Int.reduceToNat,hr1,hr2,hr5,hr7,Zbx,hr37,hr38]
       refine bI (by kernel_rfl) ?_
       cases hh
       try simp only[ay,seval,-Int.reduceToNat,hr1,hr2,hr5,hr7,Zbx,hr37,hr38]
     ·dsimp only at hx hh
      obtain⟨rfl,hE⟩:=hx
      cases hh
      try simp only[bq,bj,bF,dr,dq]
      exact hE
 ·clear hh
  have hh:=ho3
  try simp only[ay,seval,-Int.reduceToNat,hr1,hr2]
  refine sp aU hh (fun _ hh =>?_) (fun _ hh =>?_)
  ·cases hh
   try simp only[ay,seval,-Int.reduceToNat,hr1,hr2]
   rw[ak]
   refine⟨_,rfl,?_⟩
   refine⟨0,0,?_,?_,?_,?_,?_,?_,?_,?_⟩
   all_goals first|rfl|(simp only[ay,seval,-Int.reduceToNat,hr1,hr2]<;>rfl)
  ·obtain⟨r45,hr45,hh⟩:=ae hh
   try simp only[ay,seval,-Int.reduceToNat,hr1,hr2,hr45]
   refine sp aU hh (fun _ hh =>?_) (fun _ hh =>?_)
   ·cases hh
    try simp only[ay,seval,-Int.reduceToNat,hr1,hr2,hr45]
    rw[ak]
    refine⟨_,rfl,?_⟩
    refine⟨0,0,?_,?_,?_,?_,?_,?_,?_,?_⟩
    all_goals first|rfl|(simp only[ay,seval,-Int.reduceToNat,hr1,hr2,hr45]<;>rfl)
   ·cases hh
    try simp only[ay,seval,-Int.reduceToNat,hr1,hr2,hr45]
    rw[ak]
    refine⟨_,rfl,?_⟩
    refine⟨0,0,?_,?_,?_,?_,?_,?_,?_,?_⟩
    all_goals first|rfl|(simp only[ay,seval,-Int.reduceToNat,hr1,hr2,hr45]<;>rfl)
theorem za:bH Tryz.prog 8 AF:=bH.of (mode := .clean) tok yU mixed Tryz.func8 (by kernel_rfl) ⟨by kernel_rfl,by kernel_rfl⟩ (fun _=>Nat.le_of_ble_eq_true (by kernel_rfl)) (fun x r h=>AP x.1 x.2.1 x.2.2.1 x.2.2.2 r h)
end Go.Proofs.YtpkahnkoecbndaaGreatDoor.Am
namespace Go.Proofs.YtpkahnkoecbndaaGreatDoor.Am
open Go.ChangeShapes Go.WideShapes Go.ChangeAt Go.RowKit Go.Proofs.YtpkahnkoecbndaaGreatDoor.P
set_option maxRecDepth 100000
set_option linter.unusedVariables false
theorem Tryz.own:ownKnob Tryz.prog.godebug=none:=by kernel_rfl
theorem Tryz.laidOut:laidOutB Tryz.prog=true:=by kernel_rfl
theorem Yp (n:Nat):DT tab (n+1) 9 fX (fun x=>x.size≤140737488351232):=Yh P0 rfl rfl
theorem Q5 (n:Nat):DT tab (n+1) 3 (eI .i64) (fun x=>(Lit.int .i64 x).wf=true):=opI LR rfl rfl
def y8 (x:al):Prop:=x.cI.size≤140737488351232∧((Lit.int .i64 x.aJ).wf=true∧((Lit.int .i64 x.aM).wf=true∧((Lit.int .i64 x.bn).wf=true∧((Lit.int .i64 x.bg).wf=true))))
theorem Yo (n:Nat):DT tab (n+2) 87 aq (fun x=>y8 x):=XH (g:=fun y=>al.mk y.1 y.2.1 y.2.2.1 y.2.2.2.1 y.2.2.2.2) Il rfl rfl (fun _=>rfl) (H4 (Yp n) rfl (H4 (Q5 n) rfl (H4 (Q5 n) rfl (H4 (Q5 n) rfl (Q4 (Q5 n))))))
theorem Yi (n:Nat):DT tab (n+3) 22 (qG aq) (fun x=>(x.length*48≤140737488351232∧∀y∈x,y8 y)):=Vz ND rfl rfl (by rw[Il];rfl) (Yo n)
def qw (x:ax):Prop:=(x.ah.length*48≤140737488351232∧∀y∈x.ah,y8 y)
theorem Yj (n:Nat):DT tab (n+4) 24 ep (fun x=>qw x):=XH (g:=fun y=>ax.mk y) Ih rfl rfl (fun _=>rfl) (Q4 (Yi n))
theorem TA (n:Nat):DT tab (n+2) 25 (qG (eI .i64)) (fun x=>(x.length*8≤140737488351232∧∀y∈x,(Lit.int .i64 y).wf=true)):=Vz NF rfl rfl (by rw[LR];rfl) (Q5 n)
def HR (x:an):Prop:=(Lit.int .i64 x.ag).wf=true∧((x.aa.length*8≤140737488351232∧∀y∈x.aa,(Lit.int .i64 y).wf=true))
theorem Wx (n:Nat):DT tab (n+3) 49 fG (fun x=>HR x):=XH (g:=fun y=>an.mk y.1 y.2) NG rfl rfl (fun _=>rfl) (H4 (Q5 (n+1)) rfl (Q4 (TA n)))
def CV (x:aF):Prop:=HR x.bx∧(HR x.bt)
theorem Wy (n:Nat):DT tab (n+4) 51 kd (fun x=>CV x):=XH (g:=fun y=>aF.mk y.1 y.2) NH rfl rfl (fun _=>rfl) (H4 (Wx n) rfl (Q4 (Wx n)))
def qv (x:bK):Prop:=CV x.aH∧(CV x.az)
theorem Yk (n:Nat):DT tab (n+5) 53 fc (fun x=>qv x):=XH (g:=fun y=>bK.mk y.1 y.2) Ii rfl rfl (fun _=>rfl) (H4 (Wy n) rfl (Q4 (Wy n)))
theorem Yl (n:Nat):DT tab (n+2) 58 (qG fX) (fun x=>(x.length*16≤140737488351232∧∀y∈x,y.size≤140737488351232)):=Vz NI rfl rfl (by rw[P0];rfl) (Yp n)
def tY (x:fh):Prop:=(x.aR.length*16≤140737488351232∧∀y∈x.aR,y.size≤140737488351232)∧((x.a8.length*8≤140737488351232∧∀y∈x.a8,(Lit.int .i64 y).wf=true)∧((x.bu.length*8≤140737488351232∧∀y∈x.bu,(Lit.int .i64 y).wf=true)))
theorem Ym (n:Nat):DT tab (n+3) 60 tD (fun x=>tY x):=XH (g:=fun y=>fh.mk y.1 y.2.1 y.2.2) Ij rfl rfl (fun _=>rfl) (H4 (Yl n) rfl (H4 (TA n) rfl (Q4 (TA n))))
theorem Yn (n:Nat):DT tab (n+6) 62 (qG fc) (fun x=>(x.length*128≤140737488351232∧∀y∈x,qv y)):=Vz Ik rfl rfl (by rw[Ii];rfl) (Yk n)
theorem vH:RM tab 7 [24,60,62,3] (ec (cJ ep) (ec (cJ tD) (ec (iE fc) (dJ (aI .i64))))) (fun x=>qw x.1∧(tY x.2.1∧((x.2.2.1.length*128≤140737488351232∧∀y∈x.2.2.1,qv y)∧((Lit.int .i64 x.2.2.2).wf=true)))):=(Xe (ZZ Ih rfl (Yj 3)) (Xe (ZZ Ij rfl (Ym 4)) (Xe (ZJ Ik rfl (Yn 1)) (ZK (oaI LR rfl)))))
theorem tU (law:∀(a0:ax) (a1:fh) (a2:(List bK)) (a3:Int),(qw a0)→(tY a1)→((a2.length*128≤140737488351232∧∀y∈a2,qv y))→((Lit.int .i64 a3).wf=true)→P.fH a0 a1 a2 a3=some true) (os:Os) (started:os.Started) (H:Type) (enc:TypeId×Value→H) :
  ReturnsInHanded {} Tryz.checked os 8 .any (fun w args=>(Rows.auditSumsSpec.pre enc Tryz.prog Tryz.f8 Rows.auditSumsRow.domain false w args∧laidMetH Tryz.prog Kh w)∧sizedMet enc Tryz.prog Tryz.f8 (OpenSpec.ofChange Rows.auditSumsSpec) false w args) (Rows.auditSumsSpec.post enc Tryz.prog Tryz.f8 false true false false):=by
 refine TK (C:=Tryz.checked) (X:=fun w _=>laidMetH Tryz.prog Kh w) (fun _ _ _ hh h=>h.of_heap hh) (fun _ _ h=>Tc h) (T:=tab) (tb:=4) (n:=7) tok Tryz.own started (by kernel_rfl) Tryz.func8
  (ChangeSpec.witness_shaped (enc:=enc) (C:=Tryz.checked) (os:=os) (X:=fun w _=>laidMetH Tryz.prog Kh w) false (World.doorLaid Tryz.prog 400 os) #[.agg #[.slice none 0 0],.agg #[.slice none 0 0,.slice none 0 0,.slice none 0 0],.slice none 0 0,.int .i64 0] 8 rfl (World.shaped_of_RefB (by kernel_rfl) (by kernel_rfl)) (by kernel_rfl) (by kernel_rfl) (by kernel_rfl) (SG os _)) Tryz.laidOut (by kernel_rfl) rfl (by kernel_rfl) rfl (fun ds hds =>?_) (fun ar hl hs =>?_)
 ·rw[Tryz.params8]at hds
  match ds,hds with
  | [d0,d1,d2,d3],_=>exact⟨rfl,rfl,rfl⟩
 ·rw[Tryz.params8]at hl hs
  exact W9 vH za (fun x hx=>law x.1 x.2.1 x.2.2.1 x.2.2.2 hx.1 hx.2.1 hx.2.2.1 hx.2.2.2) ar hl hs
theorem w9 (law:∀(a0:ax) (a1:fh) (a2:(List bK)) (a3:Int),(qw a0)→(tY a1)→((a2.length*128≤140737488351232∧∀y∈a2,qv y))→((Lit.int .i64 a3).wf=true)→P.fH a0 a1 a2 a3=some true):Rows.AuditSumsSaid :=
 OpenClaim.holds_of_wide 8 Tryz.f8 rfl rfl rfl rfl rfl rfl rfl ⟨rfl,rfl,rfl,rfl,rfl⟩ rfl rfl rfl rfl rfl (by kernel_rfl) Tryz.func8 (by kernel_rfl)
  (of_decide_eq_true (by kernel_rfl)) (by unfold Func.isWrapper;first|(rw[if_pos (by decide +kernel)];kernel_rfl)|(rw[if_neg (by decide +kernel)];exact⟨rfl,rfl⟩))
  (fun os started H enc _=>tU law os started H enc)
theorem vB (law:∀(a0:ax) (a1:fh) (a2:(List bK)) (a3:Int),(qw a0)→(tY a1)→((a2.length*128≤140737488351232∧∀y∈a2,qv y))→((Lit.int .i64 a3).wf=true)→P.fH a0 a1 a2 a3=some true):Rows.AuditSumsCardSaid :=
 Claim7.holds_tied_plain_at .later [] [.data,.data,.data] true Rows.auditSumsCard.stood.harness false
  (w9 law) (fun _ h=>by cases h) (by kernel_rfl) (fun _ h=>by cases h) auditSums_row_tie rfl ⟨rfl,rfl⟩ (by kernel_rfl) rfl
  (fun f fn hf hfn=>by
   obtain rfl:f=8:=Option.some.inj ((show Tryz.prog.funcNamed "kitbag/kitbaglaw51.AuditSums" = some 8 by kernel_rfl).symm.trans hf) |>.symm
   obtain rfl:fn=Tryz.f8:=(Option.some.inj (Tryz.func8.symm.trans hfn)).symm
   exact⟨by kernel_rfl,fun j t ht=>by
    rw[Tryz.params8]at ht
    have hm:t∈[24,60,62,3]:=by simpa using Array.mem_of_getElem? ht
    have hall:([24,60,62,3].all fun u => !Tryz.prog.wantsStandIn u)=true:=by kernel_rfl
    exact (show Tryz.prog.wantsStandIn t=false by simpa using List.all_eq_true.1 hall t hm)⟩)
  (by kernel_rfl)
end Go.Proofs.YtpkahnkoecbndaaGreatDoor.Am
namespace Go.Proofs.YtpkahnkoecbndaaGreatDoor.P.T
open Go.RowKit
set_option linter.unusedSimpArgs false
set_option linter.unusedVariables false
theorem zo (n h:Int):eD n h=some (decide (0≤n∧n≤h)):=by
 unfold eD
 by_cases h0:n≥0
 ·rw[if_pos (by simpa using h0)]
  have:(0≤n∧n≤h)↔n≤h:=by omega
  simp[this]
 ·rw[if_neg (by simpa using h0)]
  have:¬(0≤n∧n≤h):=by omega
  simp[this]
def nf (x:al):Prop:=x.bn = -1∧x.bg = -1∧(x.cI.size:Int)≤8000∧(0≤x.aJ∧x.aJ≤1099511627776)∧(0≤x.aM∧x.aM≤1099511627776)
instance (x:al):Decidable (nf x):=by unfold nf;infer_instance
theorem O5 (x:al):jo x=some (decide (nf x)):=by
 unfold jo
 simp only[zo,Option.bind_some]
 by_cases h1:x.bn = -1
 ·rw[if_pos (by simpa using h1),Option.bind_some]
  by_cases h2:x.bg = -1
  ·rw[if_pos (by simpa using h2)]
   by_cases h3:(x.cI.size:Int)≤8000
   ·rw[if_pos (decide_eq_true h3)]
    by_cases h4:0≤x.aJ∧x.aJ≤1099511627776
    ·rw[if_pos (decide_eq_true h4)]
     congr 1
     rw[decide_eq_decide]
     exact⟨fun h=>⟨h1,h2,h3,h4,h⟩,fun h=>h.2.2.2.2⟩
    ·rw[if_neg (by simpa using h4),decide_eq_false (fun h:nf x=>h4 h.2.2.2.1)]
   ·rw[if_neg (by simpa using h3),decide_eq_false (fun h:nf x=>h3 h.2.2.1)]
  ·rw[if_neg (by simpa using h2),decide_eq_false (fun h:nf x=>h2 h.2.1)]
 ·rw[if_neg (by simpa using h1),Option.bind_some,if_neg (by simp),decide_eq_false (fun h:nf x=>h1 h.1)]
def Uz:al:=al.mk (ByteArray.mk #[]) 0 0 0 0
def wa (l:List al) (a b:Int):al×Int :=
 match P.idx l a,P.idx l b with
 | some x,some y =>
  if IntKind.i64.wrap (x.aJ+y.aJ)>1125899906842624∨IntKind.i64.wrap (x.aM+y.aM)>1125899906842624 then (Uz,3)
  else (al.mk (ByteArray.mk #[]) (IntKind.i64.wrap (x.aJ+y.aJ)) (IntKind.i64.wrap (x.aM+y.aM)) a b,0)
 | _,_=>(Uz,4)
theorem CC {α:Type} {l:List α} {i:Int} (h:¬(0≤i∧i<l.length)):P.idx l i=none:=by
 unfold P.idx
 rw[if_neg h]
theorem small {n:Nat} (h:n≤maxLen):(n:Int)≤9223372036854775807:=by
 have:maxLen≤9223372036854775807:=by decide
 omega
theorem VB {l:List al} (hl:l.length≤maxLen) (a b:Int):kl l a b=some (wa l a b):=by
 unfold kl
 have hw:IntKind.i64.wrap ((l.length:Int)-1)=(l.length:Int)-1:=wrap64 (by omega) (by have:=small hl;omega)
 simp only[zo,hw,Option.bind_some]
 by_cases ha:0≤a∧a<l.length
 ·have ha':(0≤a∧a≤(l.length:Int)-1):=by omega
  by_cases hb:0≤b∧b<l.length
  ·have hb':(0≤b∧b≤(l.length:Int)-1):=by omega
   simp only[ha',hb',and_self,decide_true,Bool.not_true,Bool.false_eq_true,if_false,A8 ha.1 ha.2,A8 hb.1 hb.2,Option.bind_some,wa,decide_eq_true_eq]
   split
   ·rename_i h;rw[if_pos (.inl h)];rfl
   ·split
    ·rename_i h;rw[if_pos (.inr h)];rfl
    ·rename_i h h';rw[if_neg (by intro hh;rcases hh with hh|hh<;>contradiction)]
  ·have hb':¬(0≤b∧b≤(l.length:Int)-1):=by omega
   simp only[ha',hb',and_self,decide_true,decide_false,Bool.not_true,Bool.not_false,Bool.false_eq_true,if_false,if_true,A8 ha.1 ha.2,CC hb,wa]
   rfl
 ·have ha':¬(0≤a∧a≤(l.length:Int)-1):=by omega
  simp only[ha',decide_false,Bool.not_false,if_true,CC ha,wa]
  rfl
def Vx (l:List al) (i:Nat):Prop:=∀x,l[i]? = some x→nf x∨wa (l.take i) x.bn x.bg=(x,0)
def dt (l:List al):Prop:=l.length≤2000∧∀i,i<l.length→Vx l i
theorem Pu (x y:al):((x.cI==y.cI)&&((x.aJ==y.aJ)&&((x.aM==y.aM)&&((x.bn==y.bn)&&(x.bg==y.bg)))))=true↔x=y:=by
 obtain⟨a,b,c,d,e⟩:=x
 obtain⟨a',b',c',d',e'⟩:=y
 simp[WS]
theorem mu (v:ax):∃b,du v=some b∧(b=true↔dt v.ah):=by
 obtain⟨l⟩:=v
 unfold du
 simp only
 by_cases hlen:l.length≤2000
 ·have hle:¬((l.length:Int)>2000):=by omega
  simp only[hle,decide_false,Bool.false_eq_true,if_false]
  have hm:l.length≤maxLen:=Nat.le_trans hlen (by decide)
  obtain⟨r,h1,h2⟩:=fU (body:=lA ⟨l⟩) (fun s=>∃i:Nat,s=i∧i≤l.length∧∀j,j<i→Vx l j) (fun s=>(l.length:Int).toNat-s.toNat)
   (fun r=>match r with | .inl _=>dt l | .inr b=>b=false∧¬dt l) (s:=0) ⟨0,rfl,Nat.zero_le _,fun j hj=>by omega⟩ (by simp only[FU];omega) (fun s hs=>by
    obtain⟨i,rfl,hi,hok⟩:=hs
    simp only[lA]
    by_cases hlt:i<l.length
    ·rw[if_pos (by simp;omega)]
     simp only[b9 hlt,Option.bind_some,O5]
     have hw:IntKind.i64.wrap ((i:Int)+1)=((i+1:Nat):Int):=by rw[wrap64 (by omega) (by omega)];rfl
     have hnext:Vx l i→(∃i':Nat,IntKind.i64.wrap ((i:Int)+1)=i'∧i'≤l.length∧∀j,j<i'→Vx l j)∧(l.length:Int).toNat-(IntKind.i64.wrap ((i:Int)+1)).toNat<(l.length:Int).toNat-(i:Int).toNat:=by
      intro hk
      refine⟨⟨i+1,hw,hlt,fun j hj =>?_⟩,by rw[hw];omega⟩
      rcases Nat.lt_succ_iff_lt_or_eq.1 hj with h|rfl
      ·exact hok j h
      ·exact hk
     by_cases hleaf:nf l[i]
     ·left
      refine⟨_,by simp only[hleaf,decide_true,if_true],hnext fun x hx =>?_⟩
      rw[List.getElem?_eq_getElem hlt,Option.some.injEq]at hx
      subst hx;exact .inl hleaf
     ·simp only[hleaf,decide_false,Bool.false_eq_true,if_false,Bc hi,Option.bind_some,VB (show (l.take i).length≤maxLen by simp;omega)]
      have hbad:wa (l.take i) l[i].bn l[i].bg≠(l[i],0)→¬dt l:=by
       intro hne hs
       rcases hs.2 i hlt _ (List.getElem?_eq_getElem hlt) with h|h
       ·exact hleaf h
       ·exact hne h
      generalize hp:wa (l.take i) l[i].bn l[i].bg=p at *
      obtain⟨y,e⟩:=p
      by_cases he:e=0
      ·subst he
       simp only[bne_self_eq_false,Bool.false_eq_true,if_false]
       by_cases hxy:l[i]=y
       ·left
        have:=(Pu l[i] y).2 hxy
        refine⟨_,by simp only[this,Bool.not_true,Bool.false_eq_true,if_false],hnext fun x hx =>?_⟩
        rw[List.getElem?_eq_getElem hlt,Option.some.injEq]at hx
        subst hx
        exact .inr (by rw[hp,hxy])
       ·right
        have:=mt (Pu l[i] y).1 hxy
        refine⟨.inr false,by rw[if_pos (by rw[Bool.not_eq_true]at this;rw[this];rfl)],rfl,hbad fun h=>hxy ?_⟩
        simp only[Prod.mk.injEq]at h
        exact h.1.symm
      ·right
       refine⟨.inr false,by rw[if_pos (by simpa using he)],rfl,hbad fun h=>he ?_⟩
       simp only[Prod.mk.injEq]at h
       exact h.2
    ·right
     refine⟨.inl (),by rw[if_neg (by simp;omega)],hlen,fun j hj=>hok j (by omega)⟩)
  rw[h1]
  cases r with
  | inl u=>exact⟨true,rfl,by simpa using h2⟩
  | inr b=>obtain⟨rfl,h3⟩:=h2;exact⟨false,rfl,by simpa using h3⟩
 ·have hle:((l.length:Int)>2000):=by omega
  simp only[hle,decide_true,if_true]
  exact⟨false,rfl,by simp only[Bool.false_eq_true,false_iff];exact fun h=>hlen h.1⟩
end Go.Proofs.YtpkahnkoecbndaaGreatDoor.P.T
namespace Go.Proofs.YtpkahnkoecbndaaGreatDoor.P.T
open Go.RowKit
set_option linter.unusedSimpArgs false
set_option linter.unusedVariables false
theorem Kc {σ ρ:Type} {body:σ→Option (σ⊕ρ)} {n:Nat} {s s':σ} (h:body s=some (.inl s')):mz body (n+1) s=mz body n s':=by simp only[mz,h]
theorem CF {σ ρ:Type} {body:σ→Option (σ⊕ρ)} {n:Nat} {s:σ} {r:ρ} (h:body s=some (.inr r)):mz body (n+1) s=some r:=by simp only[mz,h]
theorem dw {i:Nat} (h:i<4611686018427387904):IntKind.i64.wrap ((i:Int)+1)=((i+1:Nat):Int):=by rw[wrap64 (by omega) (by omega)];omega
theorem bC {α:Type} {l:List α} {i:Nat} {x:α} (h:l[i]? = some x):P.idx l (i:Int)=some x:=tS (by omega) (by simpa using h)
theorem GO {σ ρ:Type} {body:σ→Option (σ⊕ρ)} (n:Nat) (S:Nat→σ) {r:ρ} (hn:n<4611686018427387904) (hstep:∀i,i<n→body (S i)=some (.inl (S (i+1)))) (hend:body (S n)=some (.inr r)):aV body (S 0)=some r:=by
 have key:∀(m i fuel:Nat),i+m=n→m<fuel→mz body fuel (S i)=some r:=by
  intro m
  induction m with
  | zero =>
   intro i fuel hi hf
   obtain⟨f,rfl⟩:∃f,fuel=f+1:=⟨fuel-1,by omega⟩
   have:i=n:=by omega
   subst this
   exact CF hend
  | succ m ih =>
   intro i fuel hi hf
   obtain⟨f,rfl⟩:∃f,fuel=f+1:=⟨fuel-1,by omega⟩
   rw[Kc (hstep i (by omega))]
   exact ih (i+1) f (by omega) (by omega)
 exact key n 0 FU (by omega) (by have:FU=1000000000000000000000000:=rfl;omega)
def gR {α ρ:Type} (st:Nat→α→Option ρ):Nat→List α→Option ρ
 | _,[]=>none
 | i,x::l=>match st i x with|some r=>some r|none=>gR st (i+1) l
theorem po {α ρ:Type} {st:Nat→α→Option ρ} : ∀ {l:List α} {i:Nat},gR st i l=none↔∀j x,l[j]? = some x→st (i+j) x=none
 | [],i=>by simp[gR]
 | x::l,i=>by
  simp only[gR]
  constructor
  ·intro h j y hj
   cases hs:st i x with
   | some r=>rw[hs]at h;cases h
   | none =>
    rw[hs]at h
    cases j with
    | zero=>simp only[List.getElem?_cons_zero,Option.some.injEq]at hj;subst hj;exact hs
    | succ j =>
     have:=po.1 h j y (by simpa using hj)
     rw[← this];congr 1;omega
  ·intro h
   have h0:=h 0 x rfl
   simp only[Nat.add_zero]at h0
   rw[h0]
   refine po.2 fun j y hj =>?_
   have:=h (j+1) y (by simpa using hj)
   rw[← this];congr 1;omega
theorem tN {α ρ:Type} {st:Nat→α→Option ρ} {r:ρ} : ∀ {l:List α} {i:Nat},gR st i l=some r→∃j x,l[j]? = some x∧st (i+j) x=some r
 | [],i,h=>by cases h
 | x::l,i,h=>by
  simp only[gR]at h
  cases hs:st i x with
  | some r' =>
   rw[hs]at h
   exact⟨0,x,rfl,by rw[Nat.add_zero,hs];exact h⟩
  | none =>
   rw[hs]at h
   obtain⟨j,y,h1,h2⟩:=tN h
   exact⟨j+1,y,by simpa using h1,by rw[← h2];congr 1;omega⟩
theorem drop_cons {α:Type} {l rest:List α} {i:Nat} {x:α} (h:l.drop i=x::rest):i<l.length∧l[i]? = some x∧l.drop (i+1)=rest:=by
 have hi:i<l.length:=by
  rcases Nat.lt_or_ge i l.length with h1|h1
  ·exact h1
  ·rw[List.drop_eq_nil_of_le h1]at h;cases h
 rw[List.drop_eq_getElem_cons hi]at h
 simp only[List.cons.injEq]at h
 exact⟨hi,by rw[List.getElem?_eq_getElem hi,h.1],h.2⟩
theorem Yu {α ρ:Type} (l:List α) (n:Nat) {body:Int→Option (Int⊕(Unit⊕ρ))} (st:Nat→α→Option ρ) (hn:n≤l.length) (hlen:n<4611686018427387904)
  (hb:∀(i:Nat) x,i<n→l[i]? = some x→body (i:Int)=some (match st i x with|none =>.inl ((i+1:Nat):Int)|some r =>.inr (.inr r))) (he:body (n:Int)=some (.inr (.inl ()))) :
  aV body 0=some (match gR st 0 (l.take n) with|none =>.inl ()|some r =>.inr r):=by
 have key:∀(rest:List α) (i fuel:Nat),i≤n→(l.take n).drop i=rest→rest.length<fuel→mz body fuel (i:Int)=some (match gR st i rest with|none =>.inl ()|some r =>.inr r):=by
  intro rest
  induction rest with
  | nil =>
   intro i fuel hi hd hf
   obtain⟨f,rfl⟩:∃f,fuel=f+1:=⟨fuel-1,by simp at hf;omega⟩
   have h0:=congrArg List.length hd
   simp at h0
   have:i=n:=by omega
   subst this
   rw[CF he]
   rfl
  | cons x rest ih =>
   intro i fuel hi hd hf
   obtain⟨f,rfl⟩:∃f,fuel=f+1:=⟨fuel-1,by simp at hf;omega⟩
   obtain⟨h1,h2,h3⟩:=drop_cons hd
   have hin:i<n:=by simp at h1;omega
   have h2':l[i]? = some x:=by rwa [List.getElem?_take_of_lt hin]at h2
   have:=hb i x hin h2'
   cases hs:st i x with
   | some r =>
    rw[hs]at this
    rw[CF this]
    simp only[gR,hs]
   | none =>
    rw[hs]at this
    rw[Kc this,ih (i+1) f (by omega) h3 (by simp at hf;omega)]
    simp only[gR,hs]
 exact key (l.take n) 0 FU (Nat.zero_le _) rfl (by have:FU=1000000000000000000000000:=rfl;simp;omega)
theorem LC {α ρ:Type} (l:List α) {body:Int→Option (Int⊕(Unit⊕ρ))} (st:Nat→α→Option ρ) (hlen:l.length<4611686018427387904)
  (hb:∀(i:Nat) x,l[i]? = some x→body (i:Int)=some (match st i x with|none =>.inl ((i+1:Nat):Int)|some r =>.inr (.inr r))) (he:body (l.length:Int)=some (.inr (.inl ()))) :
  aV body 0=some (match gR st 0 l with|none =>.inl ()|some r =>.inr r):=by
 have:=Yu l l.length st (Nat.le_refl _) hlen (fun i x _ h=>hb i x h) he
 rwa [List.take_length]at this
theorem Zw {α:Type} (l:List α) {body:Int→Option (Int⊕(Unit⊕Bool))} (p:Nat→α→Prop) [∀i x,Decidable (p i x)] (hlen:l.length<4611686018427387904)
  (hb:∀(i:Nat) x,l[i]? = some x→body (i:Int)=some (if p i x then .inl ((i+1:Nat):Int) else .inr (.inr false))) (he:body (l.length:Int)=some (.inr (.inl ()))) :
  (∃h:(∀i x,l[i]? = some x→p i x),aV body 0=some (.inl ()))∨(∃h:¬(∀i x,l[i]? = some x→p i x),aV body 0=some (.inr false)):=by
 have hs:=LC l (fun i x=>if p i x then none else some false) hlen (fun i x hx=>by
  rw[hb i x hx]
  by_cases h:p i x
  ·rw[if_pos h,if_pos h]
  ·rw[if_neg h,if_neg h]) he
 cases hf:gR (fun i x=>if p i x then none else some false) 0 l with
 | none =>
  refine .inl ⟨fun i x hx =>?_,by rw[hs,hf]⟩
  have:=po.1 hf i x hx
  simp only[Nat.zero_add]at this
  by_cases h:p i x
  ·exact h
  ·rw[if_neg h]at this;cases this
 | some r =>
  obtain⟨j,x,h1,h2⟩:=tN hf
  simp only[Nat.zero_add]at h2
  by_cases h:p j x
  ·rw[if_pos h]at h2;cases h2
  ·rw[if_neg h]at h2
   cases h2
   exact .inr ⟨fun hall=>h (hall j x h1),by rw[hs,hf]⟩
def Pr (row:List Int) (n:Int):Prop:=0≤n∧n≤1099511627776∧row.length≤100∧(row.length:Int)≤n∧∀i x,row[i]? = some x→0≤x∧x<n-(i:Nat)
open Classical in
theorem tj {row:List Int} (n:Int) (hr:row.length<4611686018427387904):jm row n=some (decide (Pr row n)):=by
 unfold jm
 by_cases h1:n<0
 ·rw[if_pos (by simp[h1])]
  have:¬Pr row n:=fun h=>by have:=h.1;omega
  simp[this]
 rw[if_neg (by simp;omega)]
 by_cases h2:n>1099511627776
 ·rw[if_pos (by simp;omega)]
  have:¬Pr row n:=fun h=>by have:=h.2.1;omega
  simp[this]
 rw[if_neg (by simp;omega)]
 have hm:(if 100<n then (100:Int) else n)=min 100 n:=by
  split<;>omega
 simp only[Option.bind_some,hm]
 by_cases h3:(row.length:Int)>min 100 n
 ·rw[if_pos (by simp;omega)]
  have:¬Pr row n:=fun h=>by have:=h.2.2.1;have:=h.2.2.2.1;omega
  simp[this]
 rw[if_neg (by simp;omega)]
 rcases Zw row (body:=jT row n) (fun i x=>0≤x∧x<n-(i:Nat)) hr (fun i x hx=>by
   have hi:=(List.getElem?_eq_some_iff.1 hx).1
   unfold jT
   simp only[bC hx,Option.bind_some,dw (show i<4611686018427387904 by omega)]
   rw[if_pos (by simp;omega),wrap64 (by omega) (by omega)]
   by_cases hx0:x<0
   ·rw[if_pos (by simp[hx0]),if_neg (by omega)]
   rw[if_neg (by simp;omega)]
   by_cases hx1:x≥n-(i:Nat)
   ·rw[if_pos (by simp;omega),if_neg (by omega)]
   ·rw[if_neg (by simp;omega),if_pos (by omega)]) (by unfold jT;simp) with⟨h,e⟩|⟨h,e⟩
 ·rw[e]
  have:Pr row n:=⟨by omega,by omega,by omega,by omega,h⟩
  simp[this]
 ·rw[e]
  have:¬Pr row n:=fun k=>h k.2.2.2.2
  simp[this]
end Go.Proofs.YtpkahnkoecbndaaGreatDoor.P.T
namespace Go.Proofs.YtpkahnkoecbndaaGreatDoor.P.T
open Go.RowKit
set_option linter.unusedSimpArgs false
set_option linter.unusedVariables false
theorem y6:maxLen=9223372036854775807:=rfl
theorem mU {α:Type} {B:Nat} {l m:List α} (h1:l.length+m.length≤1000000) (h2:B≤1000000):iG B l m=some (l++m):=by
 unfold iG
 have:=y6
 have h3:(l.length+m.length)*B≤1000000*1000000:=Nat.mul_le_mul h1 h2
 rw[if_pos ⟨by omega,by omega⟩]
theorem Wt {α:Type} {B k:Nat} {z:α} (h1:k≤1000000) (h2:B≤1000000):Ir B (k:Int) (k:Int) z=some (List.replicate k z):=by
 unfold Ir
 have:=y6
 have h3:k*B≤1000000*1000000:=Nat.mul_le_mul h1 h2
 rw[if_pos ⟨by omega,by omega,by omega,by simpa using by omega⟩]
 simp
theorem P3 {x m:Int} (hx:0≤x) (hm:m≠0):vG .i64 x m=some (x % m):=by
 unfold vG
 rw[if_neg hm,Int.tmod_eq_emod_of_nonneg hx]
theorem TP {α:Type} {A B:List α} {i:Nat} {a:α} (hl:A.length=B.length) (ha:A[i]? = some a):(A.take i++B.drop i).set i a=A.take (i+1)++B.drop (i+1):=by
 have hi:=(List.getElem?_eq_some_iff.1 ha).1
 have e1:A.take (i+1)=A.take i++[a]:=by
  rw[List.take_succ_eq_append_getElem hi]
  have:=(List.getElem?_eq_some_iff.1 ha).2
  rw[this]
 have e2:B.drop i=B[i]'(by omega)::B.drop (i+1):=List.drop_eq_getElem_cons (by omega)
 have hlen:(A.take i).length=i:=by simp;omega
 rw[e1,e2,List.set_append_right _ _ (by omega),hlen,Nat.sub_self,List.set_cons_zero,List.append_assoc]
 rfl
theorem SY {α:Type} {A B:List α} {i:Nat} (hl:A.length=B.length) (hi:i<B.length):(A.take i++B.drop i)[i]? = B[i]?:=by
 have hlen:(A.take i).length=i:=by simp;omega
 rw[List.getElem?_append_right (by omega),hlen,Nat.sub_self,List.getElem?_drop,Nat.add_zero]
def Jd (rows:List (List Int)) (j:Nat):Int:=(rows.map fun r=>r.getD j 0).sum
def tp (rows:List (List Int)) (n:Int) (k:Nat):List Int:=(List.range k).map fun j=>Jd rows j % (n-(j:Nat))
def Zr (rows:List (List Int)) (n k:Int):Prop:=0≤k∧k≤100∧k≤n∧n≤1099511627776∧rows.length≤400∧∀r∈rows,(r.length:Int)=k∧Pr r n
theorem zm (rows:List (List Int)) (n:Int) (k:Nat):(tp rows n k).length=k:=by simp[tp]
theorem UA {rows:List (List Int)} {n:Int} {k j:Nat} (h:j<k):(tp rows n k)[j]? = some (Jd rows j % (n-(j:Nat))):=by simp[tp,h]
theorem Qh (rows:List (List Int)) (r:List Int) (j:Nat):Jd (rows++[r]) j=Jd rows j+r.getD j 0:=by simp[Jd]
theorem Xo (n:Int) (k:Nat):tp [] n k=List.replicate k 0:=by
 apply List.ext_getElem?
 intro j
 by_cases h:j<k
 ·rw[UA h];simp[Jd,h]
 ·rw[List.getElem?_eq_none (by rw[zm];omega),List.getElem?_eq_none (by simp;omega)]
theorem UW {pre:List (List Int)} {row:List Int} {n:Int} {k:Nat} (hk:k≤100) (hkn:(k:Int)≤n) (hn:n≤1099511627776) (hl:row.length=k) (hr:Pr row n) :
  aV (jA n row) (0,tp pre n k)=some (tp (pre++[row]) n k):=by
 have hlen:(tp (pre++[row]) n k).length=(tp pre n k).length:=by rw[zm,zm]
 have:=GO (body:=jA n row) k (fun i=>((i:Int),(tp (pre++[row]) n k).take i++(tp pre n k).drop i)) (r:=tp (pre++[row]) n k) (by omega) (fun i hi=>by
   have hx:row[i]? = some (row[i]'(by omega)):=List.getElem?_eq_getElem (by omega)
   obtain⟨b1,b2⟩:=hr.2.2.2.2 i _ hx
   have hy:=SY hlen (i:=i) (by rw[zm];exact hi)
   rw[UA hi]at hy
   have c1:0≤Jd pre i % (n-(i:Nat)):=Int.emod_nonneg _ (by omega)
   have c2:Jd pre i % (n-(i:Nat))<n-(i:Nat):=Int.emod_lt_of_pos _ (by omega)
   unfold jA
   dsimp only
   rw[if_pos (by simp;omega)]
   simp only[bC hx,bC hy,Option.bind_some,dw (show i<4611686018427387904 by omega)]
   rw[wrap64 (by omega) (by omega),wrap64 (by omega) (by omega),P3 (by omega) (by omega)]
   simp only[Option.bind_some,Int.toNat_natCast]
   rw[TP hlen (by
    rw[UA hi,Qh]
    have:row.getD i 0=row[i]'(by omega):=by simp[List.getD,hx]
    rw[this,Int.emod_add_emod])]) (by
   unfold jA
   dsimp only
   rw[if_neg (by simp;omega)]
   have e1:(tp (pre++[row]) n k).take k=tp (pre++[row]) n k:=List.take_of_length_le (by rw[zm];omega)
   have e2:(tp pre n k).drop k=[]:=List.drop_eq_nil_of_le (by rw[zm];omega)
   rw[e1,e2,List.append_nil])
 simpa using this
open Classical in
theorem UX {rows:List (List Int)} {n k:Int} (h1:rows.length<4611686018427387904) (h2:∀r∈rows,r.length<4611686018427387904):lQ rows n k=some (if Zr rows n k then (tp rows n k.toNat,0) else ([],1)):=by
 unfold lQ
 by_cases g1:k<0
 ·rw[if_pos (by simp;omega),if_neg (fun h=>by have:=h.1;omega)];rfl
 rw[if_neg (by simp;omega)]
 by_cases g2:k>100
 ·rw[if_pos (by simp;omega),if_neg (fun h=>by have:=h.2.1;omega)];rfl
 rw[if_neg (by simp;omega)]
 by_cases g3:n<k
 ·rw[if_pos (by simp;omega),if_neg (fun h=>by have:=h.2.2.1;omega)];rfl
 rw[if_neg (by simp;omega)]
 by_cases g4:n>1099511627776
 ·rw[if_pos (by simp;omega),if_neg (fun h=>by have:=h.2.2.2.1;omega)];rfl
 rw[if_neg (by simp;omega)]
 simp only[Option.bind_some]
 by_cases g5:(rows.length:Int)>400
 ·rw[if_pos (by simp;omega),if_neg (fun h=>by have:=h.2.2.2.2.1;omega)]
 rw[if_neg (by simp;omega)]
 obtain⟨K,rfl⟩:∃K:Nat,k=K:=⟨k.toNat,by omega⟩
 rw[Wt (by omega) (by omega),← Xo n K]
 simp only[Option.bind_some,Int.toNat_natCast]
 obtain⟨r,hr,hp⟩:=fU (body:=oa rows n (K:Int)) (fun s=>∃i:Nat,s=((i:Int),tp (rows.take i) n K)∧i≤rows.length∧∀j x,j<i→rows[j]? = some x→(x.length:Int)=K∧Pr x n) (fun s=>(rows.length-s.1).toNat)
  (fun r=>match r with | .inl l=>l=tp rows n K∧∀r∈rows,(r.length:Int)=K∧Pr r n | .inr b=>b=([],1)∧¬ ∀r∈rows,(r.length:Int)=K∧Pr r n) (s:=(0,tp [] n K)) ⟨0,rfl,by omega,fun j x h=>by omega⟩ (by have:FU=1000000000000000000000000:=rfl;dsimp only;omega)
  (by
   rintro s ⟨i,rfl,k1,k2⟩
   unfold oa
   dsimp only
   by_cases hi:i<rows.length
   ·rw[if_pos (by simp;omega)]
    have hx:rows[i]? = some rows[i]:=List.getElem?_eq_getElem hi
    simp only[bC hx,Option.bind_some]
    by_cases q1:(rows[i].length:Int)=K
    ·rw[if_neg (by simp[q1]),tj n (h2 _ (List.getElem_mem hi))]
     simp only[Option.bind_some]
     by_cases q2:Pr rows[i] n
     ·rw[if_neg (by simp[q2]),UW (by omega) (by omega) (by omega) (by omega) q2]
      simp only[Option.bind_some,dw (show i<4611686018427387904 by omega)]
      refine .inl ⟨_,rfl,⟨i+1,?_,by omega,fun j x hj hx' =>?_⟩,by omega⟩
      ·rw[List.take_succ_eq_append_getElem hi]
      ·by_cases hji:j=i
       ·subst hji;rw[hx]at hx';cases hx';exact⟨q1,q2⟩
       ·exact k2 j x (by omega) hx'
     ·rw[if_pos (by simp[q2])]
      exact .inr ⟨_,rfl,rfl,fun hall=>q2 (hall _ (List.getElem_mem hi)).2⟩
    ·rw[if_pos (by simp;omega)]
     simp only[Option.bind_some]
     rw[if_pos trivial]
     exact .inr ⟨_,rfl,rfl,fun hall=>q1 (hall _ (List.getElem_mem hi)).1⟩
   ·rw[if_neg (by simp;omega)]
    refine .inr ⟨_,rfl,?_,fun r hr =>?_⟩
    ·rw[List.take_of_length_le (by omega)]
    ·obtain⟨j,hj,rfl⟩:=List.getElem_of_mem hr
     exact k2 j _ (by omega) (List.getElem?_eq_getElem hj))
 rw[hr]
 simp only[Option.bind_some]
 cases r with
 | inl l =>
  obtain⟨rfl,hall⟩:=hp
  rw[if_pos ⟨by omega,by omega,by omega,by omega,by omega,hall⟩]
 | inr b =>
  obtain⟨rfl,hall⟩:=hp
  rw[if_neg (fun h=>hall h.2.2.2.2.2)]
end Go.Proofs.YtpkahnkoecbndaaGreatDoor.P.T
namespace Go.Proofs.YtpkahnkoecbndaaGreatDoor.P.T
open Go.RowKit
set_option linter.unusedSimpArgs false
set_option linter.unusedVariables false
theorem LZ {l:List Int} (hl:l.length*8≤140737488351232):jn l=some (decide (¬l.Nodup)):=by
 unfold jn jS b6 jk Be
 simp only[Option.bind_some]
 unfold yg
 rw[if_pos hl]
 simp only[Option.bind_some]
 unfold OO
 have hlen:=fP l
 rw[if_pos (by omega)]
 simp only[Option.bind_some]
 have hperm:(gF l).Perm l:=List.mergeSort_perm _ _
 have hsort:(gF l).Pairwise (fun a b=>decide (a≤b)=true):=List.pairwise_mergeSort (fun a b c h1 h2=>by simp at *;omega) (fun a b=>by simp;omega) l
 have hpos:∀(s:List Int) (h:s.length=s.length),(Lib.compact s).length≤s.length:=fun s _=>by
  unfold Lib.compact Lib.compactUpTo
  rw[List.length_map]
  refine Nat.le_trans (List.length_filter_le _ _) (by simp)
 by_cases hn:l.Nodup
 ·have hs:(gF l).Nodup:=hperm.nodup_iff.2 hn
  have:Lib.compact (gF l)=gF l:=Lib.compact_all _ fun j hj=>by
   unfold Lib.keeps
   by_cases h0:j=0
   ·simp[h0]
   ·have h1:j-1<(gF l).length:=by omega
    have:=(List.pairwise_iff_getElem.1 hs) (j-1) j h1 hj (by omega)
    simp only[decide_eq_true_eq]
    refine .inr ?_
    simp only[List.getElem!_toArray]
    rw[getElem!_pos (gF l) j hj,getElem!_pos (gF l) (j-1) h1]
    exact fun h=>this h.symm
  rw[this,hlen]
  simp[hn]
 ·have:(Lib.compact (gF l)).length<l.length:=by
   refine Nat.lt_of_le_of_ne (by rw[← hlen];exact hpos _ rfl) fun he=>hn (hperm.nodup_iff.1 ?_)
   unfold Lib.compact Lib.compactUpTo at he
   rw[List.length_map]at he
   have hall:=(List.length_filter_eq_length_iff (l:=List.range (gF l).length) (p:=Lib.keeps (gF l).toArray)).1 (by rw[he,List.length_range,hlen])
   refine List.pairwise_iff_getElem.2 fun i j hi hj hij =>?_
   have hk:=hall j (List.mem_range.2 hj)
   unfold Lib.keeps at hk
   simp only[decide_eq_true_eq]at hk
   have h1:j-1<(gF l).length:=by omega
   rcases hk with hk|hk
   ·omega
   ·simp only[List.getElem!_toArray]at hk
    rw[getElem!_pos (gF l) j hj,getElem!_pos (gF l) (j-1) h1]at hk
    have a2:=(List.pairwise_iff_getElem.1 hsort) (j-1) j h1 hj (by omega)
    simp only[decide_eq_true_eq]at a2
    by_cases hij':i=j-1
    ·subst hij';exact fun h=>hk h.symm
    ·have a1:=(List.pairwise_iff_getElem.1 hsort) i (j-1) hi h1 (by omega)
     simp only[decide_eq_true_eq]at a1
     omega
  simp[hn]
  omega
end Go.Proofs.YtpkahnkoecbndaaGreatDoor.P.T
namespace Go.Proofs.YtpkahnkoecbndaaGreatDoor.P.T
open Go.RowKit
set_option linter.unusedSimpArgs false
set_option linter.unusedVariables false
theorem qf {l:List Int} (hl:l.length≤1000):bk l=some l:=by
 unfold bk
 rw[mU (by simp;omega) (by omega)]
 rfl
end Go.Proofs.YtpkahnkoecbndaaGreatDoor.P.T
namespace Go.Proofs.YtpkahnkoecbndaaGreatDoor.P.T
open Go.RowKit
set_option linter.unusedSimpArgs false
set_option linter.unusedVariables false
def XI (l:List Int):Prop:=∀x∈l,-9223372036854775808≤x∧x≤9223372036854775807
theorem Ge:∀ {l:List Int},XI l→(iZ l).length≤22*l.length
 | [],_=>by simp[iZ]
 | x::l,h=>by
  have h1:=Lib.itoa_length_le x (h x (by simp)).1 (h x (by simp)).2
  have h2:=Ge (l:=l) fun y hy=>h y (by simp[hy])
  have e:iZ (x::l)=Lib.itoa x++[59]++iZ l:=by simp[iZ]
  rw[e]
  simp
  omega
theorem Gd {l:List Int} (h:XI l) (hl:l.length≤200):(ng l).length≤5000:=by
 have h1:=Ge h
 have h2:=Lib.itoa_length_le (l.length:Int) (by omega) (by omega)
 unfold ng
 simp
 omega
def UB (l:List Int):ByteArray:=⟨(ng l).toArray⟩
theorem UC {l:List Int} (h:XI l) (hl:l.length≤200):(UB l).size≤5000:=by
 have:=Gd h hl
 simpa [UB,ByteArray.size] using this
theorem Oe {l:List Int} (h:XI l) (hl:l.length≤200):kB l=some (UB l):=by
 unfold kB vv Ph
 have:=Gd h hl
 rw[if_pos ⟨h,by omega,by omega⟩]
 rfl
end Go.Proofs.YtpkahnkoecbndaaGreatDoor.P.T
namespace Go.Proofs.YtpkahnkoecbndaaGreatDoor.P.T
open Go.RowKit
set_option linter.unusedSimpArgs false
set_option linter.unusedVariables false
def WA (l:List al) (x:al) (u v:al):Prop:=P.idx l x.bn=some u∧P.idx l x.bg=some v∧x.cI=ByteArray.mk #[]∧x.aJ=IntKind.i64.wrap (u.aJ+v.aJ)∧x.aM=IntKind.i64.wrap (u.aM+v.aM)∧x.aJ≤1125899906842624∧x.aM≤1125899906842624
theorem zf {l:List al} {x:al} : wa l x.bn x.bg=(x,0)↔∃u v,WA l x u v:=by
 unfold wa WA
 constructor
 ·intro h
  split at h
  ·rename_i u v hu hv
   split at h
   ·exact absurd (congrArg Prod.snd h) (by simp)
   ·rename_i hc
    have e:=congrArg Prod.fst h
    simp only at e
    rw[not_or]at hc
    refine⟨u,v,hu,hv,by rw[← e],by rw[← e],by rw[← e],?_,?_⟩
    ·rw[← e];simp only;omega
    ·rw[← e];simp only;omega
  ·exact absurd (congrArg Prod.snd h) (by simp)
 ·rintro⟨u,v,hu,hv,h1,h2,h3,h4,h5⟩
  rw[hu,hv]
  simp only
  rw[if_neg (by rw[← h2,← h3];omega),← h1,← h2,← h3]
def kZ (l:List al) (i:Int) (t:ByteArray) (v b:Int):Prop:=dt l∧∃x,P.idx l i=some x∧x.cI=t∧x.aJ=v∧x.aM=b
open Classical in
theorem Iu {l:List al} (i:Int) (t:ByteArray) (v b:Int):ij ⟨l⟩ i t v b=some (decide (kZ l i t v b)):=by
 obtain⟨q,h1,h2⟩:=mu ⟨l⟩
 unfold ij
 rw[h1]
 simp only[Option.bind_some]
 cases q with
 | false =>
  have:¬kZ l i t v b:=fun h=>by have:=h2.2 h.1;cases this
  simp[this]
 | true =>
  have hs:dt l:=h2.1 rfl
  have hm:l.length≤maxLen:=Nat.le_trans hs.1 (by decide)
  have hw:IntKind.i64.wrap ((l.length:Int)-1)=(l.length:Int)-1:=wrap64 (by omega) (by have:=small hm;omega)
  simp only[Bool.not_true,Bool.false_eq_true,if_false,zo,hw,Option.bind_some]
  by_cases hi:0≤i∧i<l.length
  ·have hi':0≤i∧i≤(l.length:Int)-1:=by omega
   simp only[hi',and_self,decide_true,Bool.not_true,Bool.false_eq_true,if_false]
   have hx:=A8 (l:=l) hi.1 hi.2
   generalize l[i.toNat]'(by omega)=x at hx
   have hop:kZ l i t v b↔x.cI=t∧x.aJ=v∧x.aM=b:=by
    unfold kZ
    rw[hx]
    constructor
    ·rintro⟨_,y,e,h⟩;cases e;exact h
    ·intro h;exact⟨hs,x,rfl,h⟩
   simp only[hx,Option.bind_some,VN]
   by_cases g1:x.cI=t
   ·rw[if_pos (decide_eq_true g1)]
    by_cases g2:x.aJ=v
    ·rw[if_pos (by simp[g2])]
     congr 1
     by_cases g3:x.aM=b
     ·have:kZ l i t v b:=hop.2 ⟨g1,g2,g3⟩
      simp[this,g3]
     ·have:¬kZ l i t v b:=fun h=>g3 (hop.1 h).2.2
      simp[this,g3]
    ·have:¬kZ l i t v b:=fun h=>g2 (hop.1 h).2.1
     rw[if_neg (by simp[g2])]
     simp[this]
   ·have:¬kZ l i t v b:=fun h=>g1 (hop.1 h).1
    rw[if_neg (by simp[g1])]
    simp[this]
  ·have hi':¬(0≤i∧i≤(l.length:Int)-1):=by omega
   have:¬kZ l i t v b:=by
    rintro⟨_,x,e,_⟩
    rw[CC hi]at e
    cases e
   simp[hi',this]
theorem RD (v:ax) (n:Int) (hl:v.ah.length≤4611686018427387904-1):∃b,rV v n=some b∧(b=true→(v.ah.length:Int)≤n):=by
 unfold rV
 obtain⟨r,hr,hp⟩:=fU (body:=rW v n) (fun s=>∃i:Nat,s=i∧i≤v.ah.length) (fun s=>(v.ah.length-s).toNat) (fun r=>match r with | .inl _=>True | .inr b=>b=false) (s:=0) ⟨0,rfl,by omega⟩
  (by have:FU=1000000000000000000000000:=rfl;omega) (by
   rintro s ⟨i,rfl,h1⟩
   unfold rW
   dsimp only
   by_cases hi:i<v.ah.length
   ·rw[if_pos (by simp;omega)]
    simp only[Option.bind_some]
    by_cases hn:(i:Int)<n
    ·rw[if_pos (by simp;omega)]
     simp only[bC (List.getElem?_eq_getElem hi),Option.bind_some,dw (show i<4611686018427387904 by omega)]
     split
     ·exact .inr ⟨_,rfl,rfl⟩
     ·exact .inl ⟨_,rfl,⟨i+1,rfl,by omega⟩,by omega⟩
    ·rw[if_neg (by simp;omega)]
     exact .inr ⟨_,rfl,trivial⟩
   ·rw[if_neg (by simp;omega)]
    exact .inr ⟨_,rfl,trivial⟩)
 rw[hr]
 simp only[Option.bind_some]
 cases r with
 | inl u=>exact⟨_,rfl,fun h=>by simpa using h⟩
 | inr b=>subst hp;exact⟨_,rfl,fun h=>by cases h⟩
end Go.Proofs.YtpkahnkoecbndaaGreatDoor.P.T
namespace Go.Proofs.YtpkahnkoecbndaaGreatDoor.P.T
open Go.RowKit
set_option linter.unusedSimpArgs false
set_option linter.unusedVariables false
theorem XU {α ρ:Type} (l:List α) {body:Int→Option (Int⊕(Unit⊕ρ))} (p:Nat→α→Prop) (bad:ρ) [∀i x,Decidable (p i x)] (hlen:l.length<4611686018427387904)
  (hb:∀(i:Nat) x,l[i]? = some x→body (i:Int)=some (if p i x then .inl ((i+1:Nat):Int) else .inr (.inr bad))) (he:body (l.length:Int)=some (.inr (.inl ()))) :
  (∃h:(∀i x,l[i]? = some x→p i x),aV body 0=some (.inl ()))∨(∃h:¬(∀i x,l[i]? = some x→p i x),aV body 0=some (.inr bad)):=by
 have hs:=LC l (fun i x=>if p i x then none else some bad) hlen (fun i x hx=>by
  rw[hb i x hx]
  by_cases h:p i x
  ·rw[if_pos h,if_pos h]
  ·rw[if_neg h,if_neg h]) he
 cases hf:gR (fun i x=>if p i x then none else some bad) 0 l with
 | none =>
  refine .inl ⟨fun i x hx =>?_,by rw[hs,hf]⟩
  have:=po.1 hf i x hx
  simp only[Nat.zero_add]at this
  by_cases h:p i x
  ·exact h
  ·rw[if_neg h]at this;cases this
 | some r =>
  obtain⟨j,x,h1,h2⟩:=tN hf
  simp only[Nat.zero_add]at h2
  by_cases h:p j x
  ·rw[if_pos h]at h2;cases h2
  ·rw[if_neg h]at h2
   cases h2
   exact .inr ⟨fun hall=>h (hall j x h1),by rw[hs,hf]⟩
def GZ (v:ax) (seals:List Int) (rows:List (List Int)) (blinds:List Int):Prop:=∀i x,seals[i]? = some x→kZ v.ah x (UB (rows.getD i [])) 0 (blinds.getD i 0)
open Classical in
noncomputable def TB (v:ax) (seals:List Int) (rows:List (List Int)) (blinds:List Int) (n k:Int):List Int×Int :=
 if Zr rows n k then (if seals.length≠rows.length∨blinds.length≠rows.length then ([],2) else if ¬seals.Nodup then ([],5) else if GZ v seals rows blinds then (tp rows n k.toNat,0) else ([],22)) else ([],1)
open Classical in
theorem UT {v:ax} {seals:List Int} {rows:List (List Int)} {blinds:List Int} {n k:Int} (h1:rows.length<4611686018427387904) (h2:∀r∈rows,r.length<4611686018427387904∧XI r) (h3:seals.length*8≤140737488351232) :
  kA v seals rows blinds n k=some (TB v seals rows blinds n k):=by
 unfold kA TB
 rw[UX h1 fun r hr=>(h2 r hr).1]
 simp only[Option.bind_some]
 by_cases hok:Zr rows n k
 ·rw[if_pos hok,if_pos hok,if_neg (by simp)]
  by_cases q1:seals.length=rows.length
  ·rw[if_neg (by simp[q1])]
   simp only[Option.bind_some]
   by_cases q2:blinds.length=rows.length
   ·rw[if_neg (by simp[q2]),if_neg (by simp[q1,q2]),LZ h3]
    simp only[Option.bind_some]
    by_cases q3:seals.Nodup
    ·rw[if_neg (by simp[q3]),if_neg (by simp[q3])]
     rcases XU seals (body:=ly v seals rows blinds) (fun i x=>kZ v.ah x (UB (rows.getD i [])) 0 (blinds.getD i 0)) ([],22) (by omega) (fun i x hx=>by
       have hi:=(List.getElem?_eq_some_iff.1 hx).1
       have hr:rows[i]? = some (rows[i]'(by omega)):=List.getElem?_eq_getElem (by omega)
       have hb:blinds[i]? = some (blinds[i]'(by omega)):=List.getElem?_eq_getElem (by omega)
       have hm:=List.mem_of_getElem? hr
       unfold ly
       dsimp only
       rw[if_pos (by simp;omega)]
       simp only[bC hx,bC hr,Option.bind_some]
       rw[Oe (h2 _ hm).2 (by have:=(hok.2.2.2.2.2 _ hm).1;have:=hok.2.1;omega)]
       simp only[Option.bind_some,bC hb]
       rw[show v=⟨v.ah⟩ from rfl,Iu]
       have e1:rows.getD i []=rows[i]'(by omega):=by simp[List.getD,hr]
       have e2:blinds.getD i 0=blinds[i]'(by omega):=by simp[List.getD,hb]
       rw[e1,e2]
       simp only[Option.bind_some,dw (show i<4611686018427387904 by omega)]
       by_cases ho:kZ v.ah x (UB (rows[i]'(by omega))) 0 (blinds[i]'(by omega))
       ·rw[if_neg (by simp[ho]),if_pos ho]
       ·rw[if_pos (by simp[ho]),if_neg ho]) (by unfold ly;simp) with⟨h,e⟩|⟨h,e⟩
     ·rw[e,if_pos (show GZ v seals rows blinds from h)];rfl
     ·rw[e,if_neg (show ¬GZ v seals rows blinds from h)];rfl
    ·rw[if_pos (by simp[q3]),if_pos q3]
   ·rw[if_pos (by simp;omega),if_pos (.inr q2)]
  ·rw[if_pos (by simp;omega)]
   simp only[Option.bind_some]
   rw[if_pos trivial,if_pos (.inl q1)]
 ·rw[if_neg hok,if_neg hok,if_pos (by simp)]
theorem put_eq {l:List al} (hl:l.length<10000) (x:al):lT ⟨l⟩ x=some (⟨l++[x]⟩,(l.length:Int),0):=by
 have hm:=y6
 unfold lT dD kz iG
 simp only[List.length_nil,Nat.zero_add,List.nil_append,List.length_cons]
 rw[if_pos (by omega)]
 simp only[Option.bind_some]
 rw[if_pos (by omega)]
 simp only[Option.bind_some]
 rw[if_pos (by omega)]
 rfl
theorem LH {l:List al} {x:al} (hs:dt l) (hl:l.length<2000) (hx:nf x):dt (l++[x]):=by
 refine⟨by simp;omega,fun i hi y hy =>?_⟩
 simp only[List.length_append,List.length_cons,List.length_nil]at hi
 by_cases h:i<l.length
 ·rw[List.getElem?_append_left h]at hy
  rw[List.take_append_of_le_length (by omega)]
  exact hs.2 i h y hy
 ·have:i=l.length:=by omega
  subst this
  simp at hy
  subst hy
  exact .inl hx
theorem US {l:List al} (hs:dt l) (hl:l.length<1000) {t:ByteArray} (ht:(t.size:Int)≤8000) {b:Int} (hb:0≤b∧b≤1099511627776):kj ⟨l⟩ t 0 b=some (⟨l++[al.mk t 0 b (-1) (-1)]⟩,(l.length:Int),0):=by
 obtain⟨q,h1,h2⟩:=mu ⟨l⟩
 have hq:q=true:=h2.2 hs
 subst hq
 have hleaf:nf (al.mk t 0 b (-1) (-1)):=⟨rfl,rfl,ht,⟨by simp,by simp⟩,hb⟩
 unfold kj
 simp only[h1,Option.bind_some,Bool.not_true,Bool.false_eq_true,if_false,O5]
 simp only[hleaf,decide_true,Bool.not_true,Bool.false_eq_true,if_false]
 rw[if_neg (by simp;omega),put_eq (by omega)]
 rfl
theorem VO {r:List Int} {n k:Int} (h1:0≤k∧k≤100∧k≤n∧n≤1099511627776) (h2:(r.length:Int)=k) (h3:Pr r n):Zr [r] n k:=⟨h1.1,h1.2.1,h1.2.2.1,h1.2.2.2,by simp,fun x hx=>by simp at hx;subst hx;exact⟨h2,h3⟩⟩
theorem ZM {a b n:Int} (h:0≤a∧a<n∧0≤b∧b<n-1∧2≤n∧n≤1000):Pr [a,b] n:=by
 refine⟨by omega,by omega,by simp,by simp;omega,fun i x hx =>?_⟩
 match i with
 | 0=>simp at hx;subst hx;simp;omega
 | 1=>simp at hx;subst hx;simp;omega
 | i+2=>simp at hx
theorem UG {y:Int} (h:(Lit.int .i64 y).wf=true) : -9223372036854775808≤y∧y≤9223372036854775807:=by
 have h':(decide (IntKind.i64.min≤y)&&decide (y≤IntKind.i64.max))=true:=h
 simp only[Bool.and_eq_true,decide_eq_true_eq]at h'
 exact h'
end Go.Proofs.YtpkahnkoecbndaaGreatDoor.P.T
namespace Go.Proofs.YtpkahnkoecbndaaGreatDoor.P
open Go.RowKit
set_option linter.unusedSimpArgs false
set_option linter.unusedVariables false
def aD (n:Nat):List Int:=if h:n=0 then [] else ((n % 1048576:Nat):Int)::aD (n / 1048576)
termination_by n
decreasing_by omega
def dv:List Int→Int
 | []=>0
 | d::l=>d+1048576*dv l
def Dg (l:List Int):Prop:=∀d∈l,0≤d∧d<1048576
def pw (i:Nat):Int:=1048576 ^ i
theorem nS:pw 0=1:=rfl
theorem jy (i:Nat):pw (i+1)=1048576*pw i:=by unfold pw;rw[Int.pow_succ,Int.mul_comm]
theorem lN (i:Nat):0<pw i:=by unfold pw;exact Int.pow_pos (by decide)
theorem C8 (i j:Nat):pw (i+j)=pw i*pw j:=by unfold pw;rw[Int.pow_add]
theorem pI {i j:Nat} (h:i≤j):pw i≤pw j:=by
 obtain⟨k,rfl⟩:=Nat.le.dest h
 rw[C8]
 have h1:=lN i
 have h2:=lN k
 calc pw i=pw i*1:=by rw[Int.mul_one]
  _≤pw i*pw k:=Int.mul_le_mul_of_nonneg_left (by omega) (by omega)
theorem cy:aD 0=[]:=by rw[aD];rfl
theorem mv {n:Nat} (h:n≠0):aD n=((n % 1048576:Nat):Int)::aD (n / 1048576):=by rw[aD,dif_neg h]
theorem qh {n:Nat} : aD n=[]↔n=0:=by
 constructor
 ·intro h
  rcases Nat.eq_zero_or_pos n with h0|h0
  ·exact h0
  ·rw[mv (by omega)]at h;cases h
 ·rintro rfl;exact cy
theorem bf:∀n:Nat,dv (aD n)=n:=by
 intro n
 induction n using Nat.strongRecOn with
 | _ n ih =>
  rcases Nat.eq_zero_or_pos n with h0|h0
  ·subst h0;rw[cy];rfl
  ·rw[mv (by omega),dv,ih (n / 1048576) (by omega)]
   omega
theorem cd:∀n:Nat,Dg (aD n):=by
 intro n
 induction n using Nat.strongRecOn with
 | _ n ih =>
  rcases Nat.eq_zero_or_pos n with h0|h0
  ·subst h0;rw[cy];intro d hd;cases hd
  ·rw[mv (by omega)]
   intro d hd
   rcases List.mem_cons.1 hd with rfl|hd
   ·omega
   ·exact ih (n / 1048576) (by omega) d hd
theorem Dg.nil:Dg []:=fun d hd=>by cases hd
theorem Dg.cons {d:Int} {l:List Int} (h:Dg (d::l)):(0≤d∧d<1048576)∧Dg l:=⟨h d List.mem_cons_self,fun x hx=>h x (List.mem_cons_of_mem _ hx)⟩
theorem Dg.mk {d:Int} {l:List Int} (h:0≤d∧d<1048576) (hl:Dg l):Dg (d::l):=fun x hx=>by
 rcases List.mem_cons.1 hx with rfl|hx
 ·exact h
 ·exact hl x hx
theorem Dg.append {l m:List Int} (h:Dg l) (hm:Dg m):Dg (l++m):=fun x hx=>(List.mem_append.1 hx).elim (h x) (hm x)
theorem Dg.take {l:List Int} (h:Dg l) (n:Nat):Dg (l.take n):=fun x hx=>h x (List.mem_of_mem_take hx)
theorem Dg.drop {l:List Int} (h:Dg l) (n:Nat):Dg (l.drop n):=fun x hx=>h x (List.mem_of_mem_drop hx)
theorem Dg.rep (n:Nat):Dg (List.replicate n 0):=fun x hx=>by rw[(List.mem_replicate.1 hx).2];omega
theorem Dg.set {l:List Int} (h:Dg l) (i:Nat) {x:Int} (hx:0≤x∧x<1048576):Dg (l.set i x):=fun y hy=>by
 rcases List.mem_or_eq_of_mem_set hy with hy|rfl
 ·exact h y hy
 ·exact hx
theorem Dg.get {l:List Int} (h:Dg l) {i:Nat} (hi:i<l.length):0≤l[i]∧l[i]<1048576:=h _ (List.getElem_mem hi)
theorem cD:∀ {l:List Int},Dg l→0≤dv l
 | [],_=>Int.le_refl _
 | d::l,h=>by
  have h1:=h.cons
  have:=cD h1.2
  simp only[dv]
  omega
theorem nd:∀ {l:List Int},Dg l→dv l<pw l.length
 | [],_=>by simp[dv,nS]
 | d::l,h=>by
  have h1:=h.cons
  have:=nd h1.2
  simp only[dv,List.length_cons,jy]
  omega
theorem fM:∀l m:List Int,dv (l++m)=dv l+pw l.length*dv m
 | [],m=>by simp[dv,nS]
 | d::l,m=>by
  rw[List.cons_append,dv,dv,fM l m,List.length_cons,jy,Int.mul_add,Int.mul_assoc]
  omega
theorem yN:∀n:Nat,dv (List.replicate n 0)=0
 | 0=>rfl
 | n+1=>by rw[List.replicate_succ,dv,yN n];rfl
theorem fA {l:List Int} {i:Nat} (h:i<l.length):dv (l.take (i+1))=dv (l.take i)+pw i*l[i]:=by
 have e:l.take (i+1)=l.take i++[l[i]]:=by rw[List.take_add_one];simp[h]
 rw[e,fM,List.length_take,Nat.min_eq_left (by omega)]
 simp[dv]
theorem iH (l:List Int) {i:Nat} (h:i≤l.length):dv l=dv (l.take i)+pw i*dv (l.drop i):=by
 have:=fM (l.take i) (l.drop i)
 rw[List.take_append_drop,List.length_take,Nat.min_eq_left h]at this
 exact this
theorem rl {l:List Int} {i:Nat} (h:i<l.length) (x:Int):dv (l.set i x)=dv l+pw i*(x-l[i]):=by
 induction l generalizing i with
 | nil=>simp at h
 | cons d l ih =>
  cases i with
  | zero=>simp only[List.set_cons_zero,dv,nS,List.getElem_cons_zero];omega
  | succ i =>
   have:=ih (i:=i) (by simpa using h)
   simp only[List.set_cons_succ,dv,this,jy,List.getElem_cons_succ,Int.mul_add,Int.mul_assoc]
   omega
theorem A3:∀ {l:List Int},Dg l→(∀h:l≠[],l.getLast h≠0)→aD (dv l).toNat=l
 | [],_,_=>by simp[dv,cy]
 | d::l,h,hl=>by
  have h1:=h.cons
  have h2:=cD h1.2
  have hne:(dv (d::l)).toNat≠0:=by
   simp only[dv]
   intro h0
   have hd:d=0:=by omega
   have hv:dv l=0:=by omega
   cases l with
   | nil=>exact hl (by simp) (by simpa using hd)
   | cons e m =>
    have ih:=A3 h1.2 (fun hh=>by have:=hl (by simp);simpa using this)
    rw[hv]at ih
    simp[cy]at ih
  rw[mv hne]
  have e1:(dv (d::l)).toNat % 1048576=d.toNat:=by simp only[dv];omega
  have e2:(dv (d::l)).toNat / 1048576=(dv l).toNat:=by simp only[dv];omega
  rw[e1,e2]
  have hd:(d.toNat:Int)=d:=by omega
  rw[hd]
  cases l with
  | nil=>simp[dv,cy]
  | cons e m=>rw[A3 h1.2 (fun hh=>by have:=hl (by simp);simpa using this)]
theorem Qj:∀(n:Nat) (h:aD n≠[]),(aD n).getLast h≠0:=by
 intro n
 induction n using Nat.strongRecOn with
 | _ n ih =>
  intro h
  have hn:n≠0:=fun h0=>h (qh.2 h0)
  have e:=mv hn
  by_cases hq:n / 1048576=0
  ·have:aD n=[((n % 1048576:Nat):Int)]:=by rw[e,hq,cy]
   simp only[this,List.getLast_singleton]
   omega
  ·have hne:aD (n / 1048576)≠[]:=fun h0=>hq (qh.1 h0)
   have:=ih (n / 1048576) (by omega) hne
   simp only[e]
   rw[List.getLast_cons hne]
   exact this
theorem Sy {a b:Nat} (h:aD a=aD b):a=b:=by
 have:=congrArg dv h
 rw[bf,bf]at this
 omega
theorem gp {n k:Nat} (h:(n:Int)<pw k):(aD n).length≤k:=by
 induction k generalizing n with
 | zero =>
  rw[nS]at h
  have:n=0:=by omega
  rw[this,cy];simp
 | succ k ih =>
  by_cases h0:n=0
  ·rw[h0,cy];simp
  ·rw[mv h0,List.length_cons]
   rw[jy]at h
   have:=ih (n:=n / 1048576) (by omega)
   omega
theorem fl (n:Nat):(n:Int)<pw (aD n).length:=by
 have:=nd (cd n)
 rwa [bf]at this
theorem xq {n:Nat} (h:n≠0):pw ((aD n).length-1)≤n∧0<(aD n).length:=by
 induction n using Nat.strongRecOn with
 | _ n ih =>
  rw[mv h,List.length_cons]
  refine⟨?_,by omega⟩
  by_cases hq:n / 1048576=0
  ·rw[hq,cy];simp[nS];omega
  ·obtain⟨h1,h2⟩:=ih (n / 1048576) (by omega) hq
   have:(aD (n / 1048576)).length+1-1=((aD (n / 1048576)).length-1)+1:=by omega
   rw[this,jy]
   omega
theorem tk {x:Int} (h1 : -9223372036854775808≤x) (h2:x<9223372036854775808):jK .and .i64 x 1048575=x % 1048576:=by
 unfold jK
 simp only
 have e1:(BitVec.ofInt IntKind.i64.bits x &&& BitVec.ofInt IntKind.i64.bits 1048575).toNat=((x % 18446744073709551616).toNat) % 1048576:=by
  rw[BitVec.toNat_and,BitVec.toNat_ofInt,BitVec.toNat_ofInt]
  have e:((1048575:Int) % ((2 ^ IntKind.i64.bits:Nat):Int)).toNat=2 ^ 20-1:=by decide
  rw[e,Nat.and_two_pow_sub_one_eq_mod]
  rfl
 rw[e1,wrap64 (by omega) (by omega)]
 omega
theorem U0 {x:Int} (h1 : -9223372036854775808≤x) (h2:x<9223372036854775808):jK .and .i64 x 1=x % 2:=by
 unfold jK
 simp only
 have e1:(BitVec.ofInt IntKind.i64.bits x &&& BitVec.ofInt IntKind.i64.bits 1).toNat=((x % 18446744073709551616).toNat) % 2:=by
  rw[BitVec.toNat_and,BitVec.toNat_ofInt,BitVec.toNat_ofInt]
  have e:((1:Int) % ((2 ^ IntKind.i64.bits:Nat):Int)).toNat=2 ^ 1-1:=by decide
  rw[e,Nat.and_two_pow_sub_one_eq_mod]
  rfl
 rw[e1,wrap64 (by omega) (by omega)]
 omega
theorem LG (x:Int):xa .i64 x 20=some (x / 1048576):=by
 unfold xa
 rw[if_neg (by decide)]
 have e:(2:Int) ^ (min (Int.toNat 20) IntKind.i64.bits)=1048576:=by decide
 rw[e,Int.fdiv_eq_ediv_of_nonneg _ (by decide)]
theorem TQ {x:Int} (h0:0≤x) (h:x<8796093022208):EH .i64 x 20=some (1048576*x):=by
 unfold EH
 rw[if_neg (by decide)]
 have e:(2:Int) ^ (min (Int.toNat 20) IntKind.i64.bits)=1048576:=by decide
 rw[e,wrap64 (by omega) (by omega),Int.mul_comm]
theorem Nv {x y:Int} (h0:0≤x) (h:x<8796093022208) (hy:0≤y∧y<1048576):jK .or .i64 (1048576*x) y=1048576*x+y:=by
 unfold jK
 simp only
 have e1:(BitVec.ofInt IntKind.i64.bits (1048576*x) ||| BitVec.ofInt IntKind.i64.bits y).toNat=1048576*x.toNat+y.toNat:=by
  rw[BitVec.toNat_or,BitVec.toNat_ofInt,BitVec.toNat_ofInt]
  have e:((2 ^ IntKind.i64.bits:Nat):Int)=18446744073709551616:=by decide
  rw[e]
  have e2:((1048576*x) % 18446744073709551616).toNat=x.toNat <<< 20:=by rw[Nat.shiftLeft_eq];omega
  have e3:(y % 18446744073709551616).toNat=y.toNat:=by omega
  rw[e2,e3,← Nat.shiftLeft_add_eq_or_of_lt (by omega),Nat.shiftLeft_eq]
  omega
 rw[e1,wrap64 (by omega) (by omega)]
 omega
theorem XG {n:Nat} (h:n≤17592186044416):Ir 8 (n:Int) (n:Int) (0:Int)=some (List.replicate n 0):=by
 unfold Ir
 rw[if_pos]
 ·simp
 ·have:(17592186044416:Int)≤maxLen:=by decide
  refine⟨by omega,by omega,by omega,?_⟩
  simp only[Int.toNat_natCast]
  omega
theorem DU {l m:List Int} (h:l.length+m.length≤17592186044416):iG 8 l m=some (l++m):=by
 unfold iG
 have:(17592186044416:Nat)≤maxLen:=by decide
 rw[if_pos ⟨by omega,by omega⟩]
theorem dP {σ ρ:Type} {body:σ→Option (σ⊕ρ)} (I:Nat→σ→Prop) (n:Nat) (Q:ρ→Prop) {s:σ} (hI:I 0 s) (hn:n+1<FU)
  (hstep:∀i s,i≤n→I i s→(i<n∧∃s',body s=some (.inl s')∧I (i+1) s')∨(∃r,body s=some (.inr r)∧Q r)):∃r,aV body s=some r∧Q r:=by
 have key:∀(k i:Nat) (s:σ),i≤n→n-i<k→I i s→∃r,mz body k s=some r∧Q r:=by
  intro k
  induction k with
  | zero=>intro i s _ h;omega
  | succ k ih =>
   intro i s hi hk hI
   rcases hstep i s hi hI with⟨hlt,s',h1,h2⟩|⟨r,h1,h2⟩
   ·obtain⟨r,h3,h4⟩:=ih (i+1) s' (by omega) (by omega) h2
    exact⟨r,by simp only[mz,h1];exact h3,h4⟩
   ·exact⟨r,by simp only[mz,h1],h2⟩
 exact key FU 0 s (Nat.zero_le _) (by omega) hI
theorem Pq (i:Nat) (x:Int):pw (i+1)*x=pw i*(1048576*x):=by rw[jy,Int.mul_comm 1048576 (pw i),Int.mul_assoc]
theorem ug (i:Nat) (t:Int):pw i*(t % 1048576)+pw (i+1)*(t / 1048576)=pw i*t:=by
 rw[Pq,← Int.mul_add]
 congr 1
 omega
theorem kW {n:Nat} (h:n≤17592186044416):n+1<FU:=by unfold FU;omega
abbrev Fit (l:List Int):Prop:=l.length≤17592186044416
theorem gH {x:Int} (h : -4611686018427387904≤x∧x≤4611686018427387904):IntKind.i64.wrap x=x:=wrap64 (by omega) (by omega)
theorem mC {α:Type} (o:Option α):(o.bind fun r=>some r)=o:=by cases o<;>rfl
theorem GP {l:List Int} (hl:Fit l):∃r,aV (kv l) (l.length:Int)=some r∧∃k:Nat,r=k∧k≤l.length∧(∀j (hj:j<l.length),k≤j→l[j]=0)∧(∀h:0<k,∀hk:k-1<l.length,l[k-1]≠0):=by
 unfold Fit at hl
 refine dP (I:=fun i s=>s=((l.length-i:Nat):Int)∧(∀j (hj:j<l.length),l.length-i≤j→l[j]=0)) l.length _ ⟨rfl,fun j hj h=>by omega⟩ (kW hl) ?_
 rintro i s hi ⟨rfl,hz⟩
 generalize hk:l.length-i=k at *
 simp only[kv]
 by_cases h0:0<k
 ·have hk1:k-1<l.length:=by omega
  have e:IntKind.i64.wrap ((k:Int)-1)=((k-1:Nat):Int):=by rw[gH (by omega)];omega
  rw[if_pos (by simp;omega),e,b9 hk1,Option.bind_some]
  by_cases hx:l[k-1]=0
  ·left
   refine⟨by omega,_,by rw[if_pos (by simpa using hx)],by rw[show l.length-(i+1)=k-1 by omega],fun j hj h =>?_⟩
   by_cases hj':j=k-1
   ·subst hj';exact hx
   ·exact hz j hj (by omega)
  ·right
   exact⟨_,by rw[if_neg (by simpa using hx)],k,rfl,by omega,hz,fun _ _=>hx⟩
 ·right
  exact⟨_,by rw[if_neg (by simp;omega)],k,rfl,by omega,hz,fun h=>absurd h h0⟩
theorem SJ {l:List Int} {k:Nat} (hz:∀j (hj:j<l.length),k≤j→l[j]=0):dv (l.drop k)=0:=by
 have:l.drop k=List.replicate (l.drop k).length 0:=by
  refine List.eq_replicate_of_mem fun x hx =>?_
  obtain⟨i,hi,rfl⟩:=List.mem_iff_getElem.1 hx
  rw[List.getElem_drop]
  exact hz _ _ (by omega)
 rw[this,yN]
theorem sh {l:List Int} (hl:Fit l) (hd:Dg l):dL l=some (aD (dv l).toNat):=by
 obtain⟨r,h1,k,rfl,hk,hz,hlast⟩:=GP hl
 unfold dL
 rw[h1,Option.bind_some,Bc hk,Option.bind_some]
 congr 1
 have h2:dv l=dv (l.take k):=by rw[iH l hk,SJ hz];omega
 rw[h2]
 refine (A3 (hd.take k) fun hne =>?_).symm
 have hk0:0<k:=by
  rcases Nat.eq_zero_or_pos k with h|h
  ·subst h;simp at hne
  ·exact h
 have:=hlast hk0 (by omega)
 rw[List.getLast_eq_getElem]
 simp only[List.length_take,List.getElem_take,Nat.min_eq_left hk]
 exact this
theorem Bd {l:List Int} {n:Nat} (hl:Fit l) (hd:Dg l) (hn:dv l=n):dL l=some (aD n):=by
 rw[sh hl hd,hn];rfl
def gd (l:List Int) (i:Nat):Int:=if h:i<l.length then l[i] else 0
theorem FW {l:List Int} (h:Dg l) (i:Nat):0≤gd l i∧gd l i<1048576:=by
 unfold gd
 split
 ·exact h.get _
 ·omega
theorem pF {l:List Int} (i:Nat):dv (l.take (i+1))=dv (l.take i)+pw i*gd l i:=by
 unfold gd
 split
 ·exact fA _
 ·rw[List.take_of_length_le (by omega),List.take_of_length_le (by omega)];simp
theorem wR {l:List Int} {i:Nat} (h:l.length≤i):dv (l.take i)=dv l:=by rw[List.take_of_length_le h]
theorem RW {a b:List Int} (ha:Dg a) (hb:Dg b) (hf:a.length<17592186044416) (hab:b.length≤a.length) :
  ∃r,aV (ow a b) (0,0,List.replicate (a.length+1) 0)=some r∧r.2.length=a.length+1∧Dg r.2∧(∀j (hj:j<r.2.length),a.length≤j→r.2[j]=0)∧(0≤r.1∧r.1≤1)∧dv r.2+pw a.length*r.1=dv a+dv b:=by
 refine dP (I:=fun i s=>s.2.1=(i:Int)∧s.2.2.length=a.length+1∧Dg s.2.2∧(∀j (hj:j<s.2.2.length),i≤j→s.2.2[j]=0)∧(0≤s.1∧s.1≤1)∧dv s.2.2+pw i*s.1=dv (a.take i)+dv (b.take i))
  a.length _ ⟨rfl,by simp,Dg.rep _,fun j hj _=>by simp,by simp,by simp[yN,dv]⟩ (kW (by omega)) ?_
 rintro i ⟨c,s,l⟩ hi ⟨h1,hl,hd,hz,hc,he⟩
 simp only at h1 hl hd hz hc he
 subst h1
 simp only[ow]
 by_cases hlt:i<a.length
 ·left
  rw[if_pos (by simpa using hlt),b9 hlt,Option.bind_some]
  have ga:=ha.get hlt
  have gb:=FW hb i
  have hT:(if decide ((i:Int)<(b.length:Int))=true then (P.idx b (i:Int)).bind fun x22=>some (IntKind.i64.wrap ((IntKind.i64.wrap (c+a[i]))+x22)) else some (IntKind.i64.wrap (c+a[i])))=some (c+a[i]+gd b i):=by
   by_cases hib:i<b.length
   ·rw[if_pos (by simpa using hib),b9 hib,Option.bind_some]
    have:gd b i=b[i]:=by unfold gd;rw[dif_pos hib]
    rw[this]at gb ⊢
    rw[gH (x:=c+a[i]) (by omega),gH (by omega)]
   ·rw[if_neg (by simpa using hib)]
    have:gd b i=0:=by unfold gd;rw[dif_neg hib]
    rw[this,gH (by omega)];simp
  rw[hT,Option.bind_some,b9 (by omega),Option.bind_some,LG,Option.bind_some,tk (by omega) (by omega)]
  have hli:l[i]=0:=hz i (by omega) (Nat.le_refl _)
  have e1:IntKind.i64.wrap ((i:Int)+1)=((i+1:Nat):Int):=by rw[gH (by omega)];omega
  refine⟨hlt,_,rfl,e1,by simpa using hl,hd.set _ (by omega),fun j hj hij =>?_,by simp only;omega,?_⟩
  ·simp only[Int.toNat_natCast]at hj ⊢
   rw[List.getElem_set_ne (by omega)]
   exact hz j (by simpa using hj) (by omega)
  ·simp only[Int.toNat_natCast]
   rw[rl (by omega),hli,pF,pF]
   have hga:gd a i=a[i]:=by unfold gd;rw[dif_pos hlt]
   rw[hga]
   have hp:=ug i (c+a[i]+gd b i)
   rw[Int.mul_add,Int.mul_add]at hp
   rw[Int.sub_zero]
   omega
 ·right
  have hia:i=a.length:=by omega
  subst hia
  refine⟨_,by rw[if_neg (by simp)],hl,hd,fun j hj h=>hz j hj h,hc,?_⟩
  rw[he,wR (Nat.le_refl _),wR hab]
theorem add_eq {a b:List Int} (ha:Dg a) (hb:Dg b) (hfa:a.length<17592186044416) (hfb:b.length<17592186044416):pf a b=some (aD (dv a+dv b).toNat):=by
 have main:∀ {a b:List Int},Dg a→Dg b→a.length<17592186044416→b.length≤a.length →
   ((Ir 8 (IntKind.i64.wrap ((a.length:Int)+1)) (IntKind.i64.wrap ((a.length:Int)+1)) 0).bind fun x2 =>
    (aV (ow a b) (0,0,x2)).bind fun q=>match q with
    | (s6bx,l5bx) =>
     (P.idx l5bx (a.length:Int)).bind fun x23 =>
     (dL (l5bx.set ((a.length:Int)).toNat s6bx)).bind fun r26 =>
     some r26)=some (aD (dv a+dv b).toNat):=by
  intro a b ha hb hfa hab
  have e:IntKind.i64.wrap ((a.length:Int)+1)=((a.length+1:Nat):Int):=by rw[gH (by omega)];omega
  rw[e,XG (by omega),Option.bind_some]
  obtain⟨⟨c,l⟩,h1,h2,h3,h4,h5,h6⟩:=RW ha hb hfa hab
  rw[h1]
  simp only[Option.bind_some]at h2 h3 h4 h5 h6 ⊢
  have hlt:a.length<l.length:=by omega
  rw[b9 hlt,Option.bind_some,Int.toNat_natCast,mC]
  have hv:dv (l.set a.length c)=dv a+dv b:=by
   rw[rl hlt,h4 _ hlt (Nat.le_refl _),Int.sub_zero,h6]
  rw[sh (by simp[Fit];omega) (h3.set _ (by omega)),hv]
 unfold pf
 by_cases h:a.length<b.length
 ·rw[if_pos (by simpa using h),Option.bind_some,Int.add_comm]
  exact main hb ha hfb (by omega)
 ·rw[if_neg (by simpa using h),Option.bind_some]
  exact main ha hb hfa (by omega)
theorem qf {l:List Int} (h:Fit l):bk l=some l:=by
 unfold bk
 rw[DU (by simpa using h),List.nil_append]
theorem JJ {l:List Int} {i:Nat} (h:i<l.length):gd l i=l[i]:=by unfold gd;rw[dif_pos h]
theorem FX {l:List Int} {i:Nat} (h:l.length≤i):gd l i=0:=by unfold gd;rw[dif_neg (by omega)]
theorem TZ {a b:List Int} (ha:Dg a) (hb:Dg b) (hf:Fit a) (hab:b.length≤a.length) (hle:dv b≤dv a) :
  ∃l,aV (rh b a) (0,0,a)=some l∧l.length=a.length∧Dg l∧dv l=dv a-dv b:=by
 unfold Fit at hf
 refine dP (I:=fun i s=>s.2.1=(i:Int)∧s.2.2.length=a.length∧Dg s.2.2∧(∀j (hj:j<s.2.2.length) (hj':j<a.length),i≤j→s.2.2[j]=a[j])∧(0≤s.1∧s.1≤1)∧dv s.2.2+dv (b.take i)=dv a+pw i*s.1)
  a.length _ ⟨rfl,rfl,ha,fun j hj _ _=>rfl,by simp,by simp[dv]⟩ (kW (by omega)) ?_
 rintro i ⟨c,s,l⟩ hi ⟨h1,hl,hd,hz,hc,he⟩
 simp only at h1 hl hd hz hc he
 subst h1
 simp only[rh]
 by_cases hlt:i<a.length
 ·left
  have hli:i<l.length:=by omega
  rw[if_pos (by simpa using hlt),b9 hli,Option.bind_some,hz i hli hlt (Nat.le_refl _)]
  have ga:=ha.get hlt
  have gb:=FW hb i
  have hT:(if decide ((i:Int)<(b.length:Int))=true then (P.idx b (i:Int)).bind fun x18=>some (IntKind.i64.wrap ((IntKind.i64.wrap (a[i]-c))-x18)) else some (IntKind.i64.wrap (a[i]-c)))=some (a[i]-c-gd b i):=by
   by_cases hib:i<b.length
   ·rw[if_pos (by simpa using hib),b9 hib,Option.bind_some]
    rw[JJ hib]at gb ⊢
    rw[gH (x:=a[i]-c) (by omega),gH (by omega)]
   ·rw[if_neg (by simpa using hib),FX (by omega),gH (by omega)];simp
  rw[hT,Option.bind_some,LG,Option.bind_some,tk (by omega) (by omega),U0 (by omega) (by omega)]
  have e1:IntKind.i64.wrap ((i:Int)+1)=((i+1:Nat):Int):=by rw[gH (by omega)];omega
  refine⟨hlt,_,rfl,e1,by simpa using hl,hd.set _ (by omega),fun j hj hj' hij =>?_,by simp only;omega,?_⟩
  ·simp only[Int.toNat_natCast]at hj ⊢
   rw[List.getElem_set_ne (by omega)]
   exact hz j (by simpa using hj) hj' (by omega)
  ·simp only[Int.toNat_natCast]
   rw[rl hli,hz i hli hlt (Nat.le_refl _),pF]
   have hp:=ug i (a[i]-c-gd b i)
   have hb2:(a[i]-c-gd b i) / 1048576 % 2 = - ((a[i]-c-gd b i) / 1048576):=by omega
   rw[hb2,Int.mul_neg]
   rw[Int.mul_sub,Int.mul_sub]at hp
   rw[Int.mul_sub]
   omega
 ·right
  have hia:i=a.length:=by omega
  subst hia
  refine⟨l,by rw[if_neg (by simp)],hl,hd,?_⟩
  rw[wR hab]at he
  have h1:=nd hd
  rw[hl]at h1
  have hc0:c=0:=by
   rcases (show c=0∨c=1 by omega) with h|h
   ·exact h
   ·subst h;omega
  subst hc0
  omega
theorem sub_eq {a b:List Int} (ha:Dg a) (hb:Dg b) (hf:Fit a) (hab:b.length≤a.length) (hle:dv b≤dv a):nA a b=some (aD (dv a-dv b).toNat):=by
 obtain⟨l,h1,h2,h3,h4⟩:=TZ ha hb hf hab hle
 unfold nA
 rw[qf hf,Option.bind_some,h1,Option.bind_some,mC,sh (by unfold Fit at *;omega) h3,h4]
theorem ju {l:List Int} {i:Nat} (h:i<l.length):dv (l.drop i)=l[i]+1048576*dv (l.drop (i+1)):=by
 rw[List.drop_eq_getElem_cons h,dv]
theorem Vc {x d:Int} (h:0≤x) (hd:0<d) (hx:x<4611686018427387904):yL .i64 x d=some (x / d):=by
 unfold yL
 rw[if_neg (by omega),Int.tdiv_eq_ediv_of_nonneg h,gH]
 have:=Int.ediv_nonneg h (Int.le_of_lt hd)
 have:=Int.ediv_le_self d h
 omega
theorem Xd {x d:Int} (h:0≤x) (hd:0<d):vG .i64 x d=some (x % d):=by
 unfold vG
 rw[if_neg (by omega),Int.tmod_eq_emod_of_nonneg h]
theorem NC {a:List Int} {d:Int} (ha:Dg a) (hd:0<d∧d≤1048576) (hf:Fit a) :
  ∃r,aV (ny a d) (0,IntKind.i64.wrap ((a.length:Int)-1),List.replicate a.length 0)=some r∧r.2.length=a.length∧Dg r.2∧(0≤r.1∧r.1<d)∧dv a=d*dv r.2+r.1:=by
 unfold Fit at hf
 have e0:IntKind.i64.wrap ((a.length:Int)-1)=(a.length:Int)-1:=gH (by omega)
 rw[e0]
 refine dP (I:=fun i s=>s.2.1=((a.length-i:Nat):Int)-1∧s.2.2.length=a.length∧Dg s.2.2∧(0≤s.1∧s.1<d)∧dv (a.drop (a.length-i))=d*dv (s.2.2.drop (a.length-i))+s.1)
  a.length _ ⟨rfl,by simp,Dg.rep _,by simp;omega,by simp[dv]⟩ (kW (by omega)) ?_
 rintro i ⟨r,s,l⟩ hi ⟨h1,hl,hg,hr,he⟩
 simp only at h1 hl hg hr he
 subst h1
 generalize hk:a.length-i=k at *
 simp only[ny]
 by_cases h0:0<k
 ·left
  have hk1:k-1<a.length:=by omega
  have hk2:k-1<l.length:=by omega
  have ek:((k:Int)-1)=((k-1:Nat):Int):=by omega
  have ga:=ha.get hk1
  rw[ek,if_pos (by simp),TQ (by omega) (by omega),Option.bind_some,b9 hk1,Option.bind_some,Nv (by omega) (by omega) ga,Vc (by omega) hd.1 (by omega),Option.bind_some,b9 hk2,Option.bind_some,Xd (by omega) hd.1,Option.bind_some]
  have e1:IntKind.i64.wrap (((k-1:Nat):Int)-1)=((k-1:Nat):Int)-1:=gH (by omega)
  have hx0:0≤1048576*r+a[k-1]:=by omega
  have hq0:0≤(1048576*r+a[k-1]) / d:=Int.ediv_nonneg hx0 (by omega)
  have hq1:(1048576*r+a[k-1]) / d<1048576:=by
   apply Int.ediv_lt_of_lt_mul hd.1
   have:1048576*r≤1048576*(d-1):=Int.mul_le_mul_of_nonneg_left (by omega) (by omega)
   omega
  have hm0:=Int.emod_nonneg (1048576*r+a[k-1]) (show d≠0 by omega)
  have hm1:=Int.emod_lt_of_pos (1048576*r+a[k-1]) hd.1
  refine⟨by omega,_,rfl,by rw[e1,show a.length-(i+1)=k-1 by omega],by simpa using hl,hg.set _ ⟨hq0,hq1⟩,⟨hm0,hm1⟩,?_⟩
  simp only[Int.toNat_natCast]
  rw[show a.length-(i+1)=k-1 by omega,ju hk1,ju (l:=l.set (k-1) _) (i:=k-1) (by simpa using hk2),show k-1+1=k by omega,List.getElem_set_self,List.drop_set_of_lt (by omega),he]
  have:=Int.mul_ediv_add_emod (1048576*r+a[k-1]) d
  rw[Int.mul_add,Int.mul_add]
  have e3:d*(1048576*dv (l.drop k))=1048576*(d*dv (l.drop k)):=by rw[← Int.mul_assoc,Int.mul_comm d,Int.mul_assoc]
  rw[e3]
  omega
 ·right
  have:k=0:=by omega
  subst this
  refine⟨(r,l),by rw[if_neg (by simp)],hl,hg,hr,?_⟩
  simpa using he
theorem LD {a:List Int} {d:Int} (ha:Dg a) (hd:0<d∧d≤1048576) (hf:Fit a):ku a d=some (aD (dv a / d).toNat,dv a % d):=by
 obtain⟨⟨r,l⟩,h1,h2,h3,h4,h5⟩:=NC ha hd hf
 unfold ku
 rw[XG hf,Option.bind_some,h1,Option.bind_some]
 simp only at h2 h3 h4 h5 ⊢
 rw[sh (by unfold Fit at *;omega) h3,Option.bind_some]
 have e1:dv a / d=dv l:=by
  rw[h5,Int.mul_comm,Int.add_comm,Int.add_mul_ediv_right _ _ (by omega),Int.ediv_eq_zero_of_lt h4.1 h4.2];omega
 have e2:dv a % d=r:=by
  rw[h5,Int.mul_comm,Int.add_comm,Int.add_mul_emod_self_right]
  exact Int.emod_eq_of_lt h4.1 h4.2
 rw[e1,e2]
theorem QY {b l0:List Int} {x:Int} {i n:Nat} (hb:Dg b) (hx:0≤x∧x<1048576) (h0:Dg l0) (hn:l0.length=n) (hi:i+b.length<n) (hf:n≤17592186044416) (hz:∀j (hj:j<l0.length),i+b.length≤j→l0[j]=0) :
  ∃r,aV (rf b (i:Int) x) (0,0,l0)=some r∧r.2.length=n∧Dg r.2∧(0≤r.1∧r.1<1048576)∧(∀j (hj:j<r.2.length),i+b.length≤j→r.2[j]=0)∧dv r.2+pw (i+b.length)*r.1=dv l0+pw i*(x*dv b):=by
 refine dP (I:=fun k s=>s.2.1=(k:Int)∧s.2.2.length=n∧Dg s.2.2∧(0≤s.1∧s.1<1048576)∧(∀j (hj:j<s.2.2.length),i+b.length≤j→s.2.2[j]=0)∧dv s.2.2+pw (i+k)*s.1=dv l0+pw i*(x*dv (b.take k)))
  b.length _ ⟨rfl,hn,h0,by simp,hz,by simp[dv]⟩ (kW (by omega)) ?_
 rintro k ⟨c,s,l⟩ hk ⟨h1,hl,hd,hc,hz,he⟩
 simp only at h1 hl hd hc hz he
 subst h1
 simp only[rf]
 by_cases hlt:k<b.length
 ·left
  have hik:i+k<l.length:=by omega
  have ei:IntKind.i64.wrap ((i:Int)+(k:Int))=((i+k:Nat):Int):=by rw[gH (by omega)];omega
  have gb:=hb.get hlt
  have gl:=hd.get hik
  have hm0:0≤x*b[k]:=Int.mul_nonneg hx.1 gb.1
  have hm1:x*b[k]≤1048575*1048575:=Int.mul_le_mul (by omega) (by omega) gb.1 (by omega)
  rw[if_pos (by simpa using hlt),b9 hlt,Option.bind_some,ei,b9 hik,Option.bind_some,gH (x:=x*b[k]) (by omega),gH (x:=l[i+k]+x*b[k]) (by omega),gH (x:=l[i+k]+x*b[k]+c) (by omega),LG,Option.bind_some,tk (by omega) (by omega)]
  have e1:IntKind.i64.wrap ((k:Int)+1)=((k+1:Nat):Int):=by rw[gH (by omega)];omega
  refine⟨hlt,_,rfl,e1,by simpa using hl,hd.set _ (by omega),by simp only;omega,fun j hj hij =>?_,?_⟩
  ·simp only[Int.toNat_natCast]at hj ⊢
   rw[List.getElem_set_ne (by omega)]
   exact hz j (by simpa using hj) hij
  ·simp only[Int.toNat_natCast]
   rw[rl hik,fA hlt]
   have hp:=ug (i+k) (l[i+k]+x*b[k]+c)
   rw[Int.mul_add (pw (i+k)),Int.mul_add (pw (i+k))]at hp
   have e2:pw i*(x*(dv (b.take k)+pw k*b[k]))=pw i*(x*dv (b.take k))+pw (i+k)*(x*b[k]):=by
    rw[Int.mul_add,Int.mul_add,C8]
    congr 1
    rw[Int.mul_left_comm x,← Int.mul_assoc]
   rw[e2,Int.mul_sub,show i+(k+1)=i+k+1 by omega]
   omega
 ·right
  have hkb:k=b.length:=by omega
  subst hkb
  refine⟨(c,l),by rw[if_neg (by simp)],hl,hd,hc,hz,?_⟩
  rw[he,List.take_length]
theorem QX {a b:List Int} (ha:Dg a) (hb:Dg b) (hf:a.length+b.length≤17592186044416) :
  ∃l,aV (re a b) (0,List.replicate (a.length+b.length) 0)=some l∧l.length=a.length+b.length∧Dg l∧dv l=dv a*dv b:=by
 refine dP (I:=fun i s=>s.1=(i:Int)∧s.2.length=a.length+b.length∧Dg s.2∧(∀j (hj:j<s.2.length),i+b.length≤j→s.2[j]=0)∧dv s.2=dv (a.take i)*dv b)
  a.length _ ⟨rfl,by simp,Dg.rep _,fun j hj _=>by simp,by simp[dv,yN]⟩ (kW (by omega)) ?_
 rintro i ⟨s,l⟩ hi ⟨h1,hl,hd,hz,he⟩
 simp only at h1 hl hd hz he
 subst h1
 simp only[re]
 by_cases hlt:i<a.length
 ·left
  have ga:=ha.get hlt
  obtain⟨⟨c,m⟩,g1,g2,g3,g4,g5,g6⟩:=QY (i:=i) (n:=a.length+b.length) hb ga hd hl (by omega) hf hz
  rw[if_pos (by simpa using hlt),b9 hlt,Option.bind_some,g1,Option.bind_some]
  simp only at g2 g3 g4 g5 g6 ⊢
  have ei:IntKind.i64.wrap ((i:Int)+(b.length:Int))=((i+b.length:Nat):Int):=by rw[gH (by omega)];omega
  have hib:i+b.length<m.length:=by omega
  rw[ei,b9 hib,Option.bind_some,g5 _ hib (Nat.le_refl _),Int.zero_add,gH (x:=c) (by omega)]
  have e1:IntKind.i64.wrap ((i:Int)+1)=((i+1:Nat):Int):=by rw[gH (by omega)];omega
  refine⟨hlt,_,rfl,e1,by simpa using g2,g3.set _ g4,fun j hj hij =>?_,?_⟩
  ·simp only[Int.toNat_natCast]at hj ⊢
   rw[List.getElem_set_ne (by omega)]
   exact g5 j (by simpa using hj) (by omega)
  ·simp only[Int.toNat_natCast]
   rw[rl hib,g5 _ hib (Nat.le_refl _),Int.sub_zero,g6,he,fA hlt,Int.add_mul,Int.mul_assoc]
 ·right
  have hia:i=a.length:=by omega
  subst hia
  refine⟨l,by rw[if_neg (by simp)],hl,hd,?_⟩
  rw[he,List.take_length]
theorem mul_eq {a b:List Int} (ha:Dg a) (hb:Dg b) (hf:a.length+b.length≤17592186044416):nx a b=some (aD (dv a*dv b).toNat):=by
 obtain⟨l,h1,h2,h3,h4⟩:=QX ha hb hf
 unfold nx
 have e:IntKind.i64.wrap ((a.length:Int)+(b.length:Int))=((a.length+b.length:Nat):Int):=by rw[gH (by omega)];omega
 rw[e,XG hf,Option.bind_some,h1,Option.bind_some,mC,sh (by unfold Fit;omega) h3,h4]
def jL (x y:Int):Int:=if x<y then -1 else if y<x then 1 else 0
theorem Ml (x y:Int):gn x y=some (jL x y):=by
 unfold gn jt jL
 simp only[bne_self_eq_false,Option.bind_some,Bool.false_eq_true,if_false,decide_eq_true_eq]
 split
 ·rfl
 ·split<;>rfl
theorem Je {a b:List Int} (ha:Dg a) (hb:Dg b) (hf:Fit a) (hl:a.length=b.length):fb a b=some (jL (dv a) (dv b)):=by
 unfold Fit at hf
 unfold fb
 rw[if_neg (by simp;omega)]
 have e0:IntKind.i64.wrap ((a.length:Int)-1)=(a.length:Int)-1:=gH (by omega)
 rw[e0]
 have key:∃r,aV (kN a b) ((a.length:Int)-1)=some r∧(match r with | .inl _=>jL (dv a) (dv b)=0 | .inr x=>x=jL (dv a) (dv b)):=by
  refine dP (I:=fun i s=>s=((a.length-i:Nat):Int)-1∧a.drop (a.length-i)=b.drop (a.length-i)) a.length _ ⟨rfl,?_⟩ (kW hf) ?_
  ·rw[List.drop_eq_nil_of_le (by omega),List.drop_eq_nil_of_le (by omega)]
  rintro i s hi ⟨rfl,he⟩
  generalize hk:a.length-i=k at *
  simp only[kN]
  by_cases h0:0<k
  ·have h1:k-1<a.length:=by omega
   have h2:k-1<b.length:=by omega
   have ek:((k:Int)-1)=((k-1:Nat):Int):=by omega
   rw[ek,if_pos (by simp),b9 h1,Option.bind_some,b9 h2,Option.bind_some]
   by_cases hx:a[k-1]=b[k-1]
   ·left
    rw[if_neg (by simpa using hx)]
    refine⟨by omega,_,rfl,by rw[gH (by omega)];omega,?_⟩
    rw[show a.length-(i+1)=k-1 by omega,List.drop_eq_getElem_cons h1,List.drop_eq_getElem_cons h2,hx,show k-1+1=k by omega,he]
   ·right
    rw[if_pos (by simpa using hx),Ml,Option.bind_some]
    refine⟨_,rfl,?_⟩
    simp only
    have ea:=iH a (i:=k) (by omega)
    have eb:=iH b (i:=k) (by omega)
    have ta:=fA h1
    have tb:=fA h2
    rw[show k-1+1=k by omega]at ta tb
    have la:=nd (ha.take (k-1))
    have lb:=nd (hb.take (k-1))
    rw[List.length_take,Nat.min_eq_left (by omega)]at la lb
    have na:=cD (ha.take (k-1))
    have nb:=cD (hb.take (k-1))
    have hp:=lN (k-1)
    rw[ta]at ea
    rw[tb]at eb
    rw[he]at ea
    unfold jL
    rcases Int.lt_or_gt_of_ne hx with hlt|hlt
    ·have:pw (k-1)*a[k-1]+pw (k-1)≤pw (k-1)*b[k-1]:=by
      have:pw (k-1)*(a[k-1]+1)≤pw (k-1)*b[k-1]:=Int.mul_le_mul_of_nonneg_left (by omega) (by omega)
      rwa [Int.mul_add,Int.mul_one]at this
     rw[if_pos hlt,if_pos (by omega)]
    ·have:pw (k-1)*b[k-1]+pw (k-1)≤pw (k-1)*a[k-1]:=by
      have:pw (k-1)*(b[k-1]+1)≤pw (k-1)*a[k-1]:=Int.mul_le_mul_of_nonneg_left (by omega) (by omega)
      rwa [Int.mul_add,Int.mul_one]at this
     rw[if_neg (by omega),if_pos hlt,if_neg (by omega),if_pos (by omega)]
  ·right
   have:k=0:=by omega
   subst this
   refine⟨.inl (),by rw[if_neg (by simp)],?_⟩
   simp only[List.drop_zero]at he
   simp[he,jL]
 obtain⟨r,h1,h2⟩:=key
 rw[h1,Option.bind_some]
 cases r with
 | inl u=>simp only at h2 ⊢;rw[h2]
 | inr x=>simp only at h2 ⊢;rw[h2]
theorem tw {m n:Nat} (h:(aD m).length<(aD n).length):m<n:=by
 have h1:=fl m
 have hn:n≠0:=fun h0=>by subst h0;rw[cy]at h;simp at h
 have h2:=xq hn
 have h3:=pI (i:=(aD m).length) (j:=(aD n).length-1) (by omega)
 omega
theorem cq {m n:Nat} (h:m≤n):(aD m).length≤(aD n).length:=by
 rcases Nat.lt_or_ge (aD n).length (aD m).length with h1|h1
 ·have:=tw h1;omega
 ·exact h1
theorem wM {m n:Nat} (hm:Fit (aD m)) (hn:Fit (aD n)):fb (aD m) (aD n)=some (jL m n):=by
 by_cases hl:(aD m).length=(aD n).length
 ·rw[Je (cd m) (cd n) hm hl,bf,bf]
 ·unfold fb
  rw[if_pos (by simp;omega),Ml,mC]
  unfold jL
  rcases Nat.lt_or_gt_of_ne hl with h|h
  ·have:=tw h
   rw[if_pos (by omega),if_pos (by omega)]
  ·have:=tw h
   rw[if_neg (by omega),if_pos (by omega),if_neg (by omega),if_pos (by omega)]
theorem Ic {u v:List Int} {g:Int} (hu:Dg u) (hv:Dg v) (hg:0≤g∧g≤1048576) (hf:Fit u) (hl:v.length≤u.length) :
  ∃r,aV (jY u v g) (0,0,u)=some r∧r.2.length=u.length∧Dg r.2∧(0≤r.1∧r.1≤1048576)∧dv r.2+g*dv v=dv u+pw u.length*r.1:=by
 unfold Fit at hf
 refine dP (I:=fun i s=>s.2.1=(i:Int)∧s.2.2.length=u.length∧Dg s.2.2∧(∀j (hj:j<s.2.2.length) (hj':j<u.length),i≤j→s.2.2[j]=u[j])∧(0≤s.1∧s.1≤1048576)∧dv s.2.2+g*dv (v.take i)=dv u+pw i*s.1)
  u.length _ ⟨rfl,rfl,hu,fun j hj _ _=>rfl,by simp,by simp[dv]⟩ (kW (by omega)) ?_
 rintro i ⟨c,s,l⟩ hi ⟨h1,hll,hd,hz,hc,he⟩
 simp only at h1 hll hd hz hc he
 subst h1
 simp only[jY]
 by_cases hlt:i<u.length
 ·left
  have hli:i<l.length:=by omega
  rw[if_pos (by simpa using hlt),b9 hli,Option.bind_some,hz i hli hlt (Nat.le_refl _)]
  have ga:=hu.get hlt
  have gb:=FW hv i
  have hm0:0≤g*gd v i:=Int.mul_nonneg hg.1 gb.1
  have hm1:g*gd v i≤1048576*1048575:=Int.mul_le_mul (by omega) (by omega) gb.1 (by omega)
  have hT:(if decide ((i:Int)<(v.length:Int))=true then (P.idx v (i:Int)).bind fun x17=>some (IntKind.i64.wrap ((IntKind.i64.wrap (u[i]-c))-(IntKind.i64.wrap (g*x17)))) else some (IntKind.i64.wrap (u[i]-c)))=some (u[i]-c-g*gd v i):=by
   by_cases hib:i<v.length
   ·rw[if_pos (by simpa using hib),b9 hib,Option.bind_some]
    rw[JJ hib]at gb hm0 hm1 ⊢
    rw[gH (x:=u[i]-c) (by omega),gH (x:=g*v[i]) (by omega),gH (by omega)]
   ·rw[if_neg (by simpa using hib),FX (by omega),gH (by omega)];simp
  rw[hT,Option.bind_some,LG,Option.bind_some,tk (by omega) (by omega),gH (x:=0-_) (by omega)]
  have e1:IntKind.i64.wrap ((i:Int)+1)=((i+1:Nat):Int):=by rw[gH (by omega)];omega
  refine⟨hlt,_,rfl,e1,by simpa using hll,hd.set _ (by omega),fun j hj hj' hij =>?_,by simp only;omega,?_⟩
  ·simp only[Int.toNat_natCast]at hj ⊢
   rw[List.getElem_set_ne (by omega)]
   exact hz j (by simpa using hj) hj' (by omega)
  ·simp only[Int.toNat_natCast]
   rw[rl hli,hz i hli hlt (Nat.le_refl _),pF]
   have hp:=ug i (u[i]-c-g*gd v i)
   rw[Int.mul_sub (pw i),Int.mul_sub (pw i)]at hp
   have e2:g*(dv (v.take i)+pw i*gd v i)=g*dv (v.take i)+pw i*(g*gd v i):=by rw[Int.mul_add,Int.mul_left_comm]
   rw[e2,Int.mul_sub (pw i),Int.mul_sub (pw (i+1)),Int.mul_zero]
   omega
 ·right
  have hia:i=u.length:=by omega
  subst hia
  refine⟨(c,l),by rw[if_neg (by simp)],hll,hd,hc,?_⟩
  rw[wR hl]at he
  exact he
theorem Ie {u v:List Int} (hu:Dg u) (hv:Dg v) (hf:Fit u) (hl:v.length≤u.length) :
  ∃l,aV (jZ v u) (0,0,u)=some l∧l.length=u.length∧Dg l∧∃c,0≤c∧dv l+pw u.length*c=dv u+dv v:=by
 unfold Fit at hf
 refine dP (I:=fun i s=>s.2.1=(i:Int)∧s.2.2.length=u.length∧Dg s.2.2∧(∀j (hj:j<s.2.2.length) (hj':j<u.length),i≤j→s.2.2[j]=u[j])∧(0≤s.1∧s.1≤1)∧dv s.2.2+pw i*s.1=dv u+dv (v.take i))
  u.length _ ⟨rfl,rfl,hu,fun j hj _ _=>rfl,by simp,by simp[dv]⟩ (kW (by omega)) ?_
 rintro i ⟨c,s,l⟩ hi ⟨h1,hll,hd,hz,hc,he⟩
 simp only at h1 hll hd hz hc he
 subst h1
 simp only[jZ]
 by_cases hlt:i<u.length
 ·left
  have hli:i<l.length:=by omega
  rw[if_pos (by simpa using hlt),b9 hli,Option.bind_some,hz i hli hlt (Nat.le_refl _)]
  have ga:=hu.get hlt
  have gb:=FW hv i
  have hT:(if decide ((i:Int)<(v.length:Int))=true then (P.idx v (i:Int)).bind fun x35=>some (IntKind.i64.wrap ((IntKind.i64.wrap (c+u[i]))+x35)) else some (IntKind.i64.wrap (c+u[i])))=some (c+u[i]+gd v i):=by
   by_cases hib:i<v.length
   ·rw[if_pos (by simpa using hib),b9 hib,Option.bind_some]
    rw[JJ hib]at gb ⊢
    rw[gH (x:=c+u[i]) (by omega),gH (by omega)]
   ·rw[if_neg (by simpa using hib),FX (by omega),gH (by omega)];simp
  rw[hT,Option.bind_some,LG,Option.bind_some,tk (by omega) (by omega)]
  have e1:IntKind.i64.wrap ((i:Int)+1)=((i+1:Nat):Int):=by rw[gH (by omega)];omega
  refine⟨hlt,_,rfl,e1,by simpa using hll,hd.set _ (by omega),fun j hj hj' hij =>?_,by simp only;omega,?_⟩
  ·simp only[Int.toNat_natCast]at hj ⊢
   rw[List.getElem_set_ne (by omega)]
   exact hz j (by simpa using hj) hj' (by omega)
  ·simp only[Int.toNat_natCast]
   rw[rl hli,hz i hli hlt (Nat.le_refl _),pF]
   have hp:=ug i (c+u[i]+gd v i)
   rw[Int.mul_add (pw i),Int.mul_add (pw i)]at hp
   rw[Int.mul_sub (pw i)]
   omega
 ·right
  have hia:i=u.length:=by omega
  subst hia
  refine⟨l,by rw[if_neg (by simp)],hll,hd,c,hc.1,?_⟩
  rw[wR hl]at he
  exact he
theorem Rf {u v:List Int} {g:Int} (hu:Dg u) (hv:Dg v) (hf:Fit u) (hl:v.length≤u.length) (hV:0<dv v) (hg0:dv u / dv v≤g) (hg1:g≤dv u / dv v+1) (hgB:g≤1048576) :
  ∃l,fv u v g=some (l,dv u / dv v)∧l.length=u.length∧Dg l∧dv l=dv u % dv v:=by
 have hq0:0≤dv u / dv v:=Int.ediv_nonneg (cD hu) (by omega)
 obtain⟨⟨c,l⟩,h1,h2,h3,h4,h5⟩:=Ic hu hv ⟨by omega,hgB⟩ hf hl
 simp only at h2 h3 h4 h5
 have hm:=Int.mul_ediv_add_emod (dv u) (dv v)
 have hm0:=Int.emod_nonneg (dv u) (show dv v≠0 by omega)
 have hm1:=Int.emod_lt_of_pos (dv u) hV
 have hll:=nd h3
 have hl0:=cD h3
 rw[h2]at hll
 have hp:=lN u.length
 have hvl:dv v<pw u.length:=Int.lt_of_lt_of_le (nd hv) (pI hl)
 unfold fv ox
 rw[h1,Option.bind_some]
 simp only
 rcases (show g=dv u / dv v∨g=dv u / dv v+1 by omega) with hg|hg
 ·have hgv:g*dv v=dv v*(dv u / dv v):=by rw[hg,Int.mul_comm]
  have hc0:c=0:=by
   rcases (show c=0∨1≤c by omega) with h|h
   ·exact h
   ·have:pw u.length*1≤pw u.length*c:=Int.mul_le_mul_of_nonneg_left h (by omega)
    omega
  subst hc0
  rw[if_pos (by simp),Option.bind_some,if_pos (by simpa using h2)]
  exact⟨l,by rw[hg],h2,h3,by rw[Int.mul_zero]at h5;omega⟩
 ·have hgv:g*dv v=dv v*(dv u / dv v)+dv v:=by rw[hg,Int.add_mul,Int.one_mul,Int.mul_comm]
  have hc0:c≠0:=by
   intro h
   subst h
   rw[Int.mul_zero]at h5
   omega
  obtain⟨m,g1,g2,g3,d,g4,g5⟩:=Ie h3 hv (by unfold Fit at *;omega) (by omega)
  rw[if_neg (by simpa using hc0),g1,Option.bind_some,Option.bind_some,if_pos (by simp;omega)]
  refine⟨m,by rw[gH (by omega),hg];simp,by omega,g3,?_⟩
  rw[h2]at g5
  have hml:=nd g3
  have hm0':=cD g3
  rw[g2,h2]at hml
  have hcd:c=d:=by
   rcases Int.lt_trichotomy c d with h|h|h
   ·have:pw u.length*(c+1)≤pw u.length*d:=Int.mul_le_mul_of_nonneg_left (by omega) (by omega)
    rw[Int.mul_add,Int.mul_one]at this
    omega
   ·exact h
   ·have:pw u.length*(d+1)≤pw u.length*c:=Int.mul_le_mul_of_nonneg_left (by omega) (by omega)
    rw[Int.mul_add,Int.mul_one]at this
    omega
  subst hcd
  omega
theorem MN {v u:List Int} {s13:Int} {v1 v2 w2 T V W:Int} {n:Nat} (hn:2≤n) (hlen:v.length=n) (hfv:n≤17592186044416) (i:Nat) (hs:s13=i) (hfi:i+n≤17592186044416)
  (hv2:P.idx v (((n-2:Nat)):Int)=some v2) (hw2:P.idx u (((i+n-2:Nat)):Int)=some w2)
  (b1:524288≤v1∧v1<1048576) (b2:0≤v2∧v2<1048576) (bw:0≤w2∧w2<1048576) (hT0:0≤T) (hT1:T<1048576*1048576)
  (hV:pw (n-2)*(v1*1048576+v2)≤V∧V<pw (n-2)*(v1*1048576+v2+1)) (hW:pw (n-2)*(T*1048576+w2)≤W∧W<pw (n-2)*(T*1048576+w2+1)) (hWV:W<1048576*V) :
  ∃g,aV (q9 v s13 u v1) (T / v1,T % v1)=some g∧W / V≤g∧g≤W / V+1∧g≤1048576:=by
 subst hs
 have hp:=lN (n-2)
 have hVp:0<V:=by
  have:pw (n-2)*1≤pw (n-2)*(v1*1048576+v2):=Int.mul_le_mul_of_nonneg_left (by omega) (by omega)
  omega
 have hW0:0≤W:=by
  have:0≤pw (n-2)*(T*1048576+w2):=Int.mul_nonneg (by omega) (by omega)
  omega
 have hq0:0≤W / V:=Int.ediv_nonneg hW0 (by omega)
 have hqB:W / V<1048576:=Int.ediv_lt_of_lt_mul hVp hWV
 have hm:=Int.mul_ediv_add_emod T v1
 have hm0:=Int.emod_nonneg T (show v1≠0 by omega)
 have hm1:=Int.emod_lt_of_pos T (show 0<v1 by omega)
 have hd0:0≤T / v1:=Int.ediv_nonneg hT0 (by omega)
 have hd1:T / v1≤2097152:=by
  have:T / v1<2097153:=Int.ediv_lt_of_lt_mul (by omega) (by
   have:2097153*524288≤2097153*v1:=Int.mul_le_mul_of_nonneg_left b1.1 (by omega)
   omega)
  omega
 have hge:∀g r:Int,g*v1+r=T→W / V≤g→g*v2>r*1048576+w2→W / V≤g-1:=by
  intro g r h1 h2 h3
  have h4:W<g*V:=by
   have e1:g*(v1*1048576+v2)≥T*1048576+w2+1:=by
    rw[← h1]
    have:g*(v1*1048576+v2)=g*v1*1048576+g*v2:=by rw[Int.mul_add,Int.mul_assoc]
    rw[this,Int.add_mul]
    omega
   have e2:pw (n-2)*(T*1048576+w2+1)≤pw (n-2)*(g*(v1*1048576+v2)):=Int.mul_le_mul_of_nonneg_left e1 (by omega)
   have e3:g*(pw (n-2)*(v1*1048576+v2))≤g*V:=Int.mul_le_mul_of_nonneg_left hV.1 (by omega)
   have e4:pw (n-2)*(g*(v1*1048576+v2))=g*(pw (n-2)*(v1*1048576+v2)):=Int.mul_left_comm _ _ _
   omega
  have:=Int.ediv_lt_of_lt_mul hVp h4
  omega
 have hle:∀g r:Int,g*v1+r=T→0≤g→g≤1048576→g*v2≤r*1048576+w2→g≤W / V+1:=by
  intro g r h1 h0 hB h3
  have e1:g*(v1*1048576+v2)≤T*1048576+w2:=by
   rw[← h1]
   have:g*(v1*1048576+v2)=g*v1*1048576+g*v2:=by rw[Int.mul_add,Int.mul_assoc]
   rw[this,Int.add_mul]
   omega
  have e2:g*V≤W+V:=by
   have f1:g*V≤g*(pw (n-2)*(v1*1048576+v2+1)):=Int.mul_le_mul_of_nonneg_left (by omega) h0
   have f2:g*(pw (n-2)*(v1*1048576+v2+1))=pw (n-2)*(g*(v1*1048576+v2))+pw (n-2)*g:=by
    rw[Int.mul_left_comm,Int.mul_add g,Int.mul_one,Int.mul_add]
   have f3:pw (n-2)*(g*(v1*1048576+v2))≤pw (n-2)*(T*1048576+w2):=Int.mul_le_mul_of_nonneg_left e1 (by omega)
   have f4:pw (n-2)*g≤pw (n-2)*(v1*1048576+v2):=Int.mul_le_mul_of_nonneg_left (by omega) (by omega)
   omega
  have e3:(g-1)*V≤W:=by rw[Int.sub_mul,Int.one_mul];omega
  have:=Int.le_ediv_of_mul_le hVp e3
  omega
 have hbase:W / V≤T / v1:=by
  have e1:W<(T / v1+1)*V:=by
   have f1:T+1≤(T / v1+1)*v1:=by
    have:(T / v1+1)*v1=v1*(T / v1)+v1:=by rw[Int.add_mul,Int.one_mul,Int.mul_comm]
    omega
   have f2:T*1048576+w2+1≤(T / v1+1)*(v1*1048576+v2):=by
    have g1:(T+1)*1048576≤(T / v1+1)*v1*1048576:=Int.mul_le_mul_of_nonneg_right f1 (by omega)
    have g2:0≤(T / v1+1)*v2:=Int.mul_nonneg (by omega) b2.1
    rw[Int.mul_add,← Int.mul_assoc]
    omega
   have f3:pw (n-2)*(T*1048576+w2+1)≤pw (n-2)*((T / v1+1)*(v1*1048576+v2)):=Int.mul_le_mul_of_nonneg_left f2 (by omega)
   have f4:(T / v1+1)*(pw (n-2)*(v1*1048576+v2))≤(T / v1+1)*V:=Int.mul_le_mul_of_nonneg_left hV.1 (by omega)
   have f5:pw (n-2)*((T / v1+1)*(v1*1048576+v2))=(T / v1+1)*(pw (n-2)*(v1*1048576+v2)):=Int.mul_left_comm _ _ _
   omega
  have:=Int.ediv_lt_of_lt_mul hVp e1
  omega
 refine fU (I:=fun (s:Int×Int)=>s.1*v1+s.2=T∧W / V≤s.1∧s.1≤2097152∧0≤s.2) (μ:=fun (s:Int×Int)=>s.1.toNat) _ ⟨?_,hbase,hd1,hm0⟩ (by unfold FU;omega) ?_
 ·show T / v1*v1+T % v1=T
  rw[Int.mul_comm];exact hm
 rintro⟨g,r⟩ ⟨h1,h2,h3,h4⟩
 simp only at h1 h2 h3 h4
 have hgv:0≤g*v1:=Int.mul_nonneg (by omega) (by omega)
 simp only[q9]
 have el:IntKind.i64.wrap ((v.length:Int)-2)=((n-2:Nat):Int):=by rw[hlen,gH (by omega)];omega
 have ei:IntKind.i64.wrap ((IntKind.i64.wrap ((i:Int)+(v.length:Int)))-2)=((i+n-2:Nat):Int):=by rw[hlen,gH (x:=(i:Int)+n) (by omega),gH (by omega)];omega
 rw[el,ei]
 have hstep:W / V≤g-1→∃s':Int×Int,(some (Sum.inl (IntKind.i64.wrap (g-1),IntKind.i64.wrap (r+v1))):Option ((Int×Int)⊕Int))=some (.inl s')∧(s'.1*v1+s'.2=T∧W / V≤s'.1∧s'.1≤2097152∧0≤s'.2)∧s'.1.toNat<g.toNat:=by
  intro hlt
  refine⟨_,rfl,?_⟩
  rw[gH (x:=g-1) (by omega),gH (x:=r+v1) (by omega)]
  simp only
  refine⟨⟨by rw[Int.sub_mul,Int.one_mul];omega,hlt,by omega,by omega⟩,by omega⟩
 by_cases hgB:g≥1048576
 ·rw[if_pos (by simpa using hgB),Option.bind_some,if_pos rfl]
  exact .inl (hstep (by omega))
 ·rw[if_neg (by simpa using hgB)]
  by_cases hr:r<1048576
  ·have hgv2:0≤g*v2:=Int.mul_nonneg (by omega) b2.1
   have hgv2':g*v2≤1048576*1048576:=Int.mul_le_mul (by omega) (by omega) b2.1 (by omega)
   rw[if_pos (by simpa using hr),hv2,Option.bind_some,TQ h4 (by omega),Option.bind_some,hw2,Option.bind_some,gH (x:=g*v2) (by omega),Nv h4 (by omega) bw,Option.bind_some]
   by_cases ht:g*v2>1048576*r+w2
   ·rw[if_pos (by simpa using ht)]
    exact .inl (hstep (hge g r h1 h2 (by omega)))
   ·rw[if_neg (by simpa using ht)]
    exact .inr ⟨g,rfl,h2,hle g r h1 (by omega) (by omega) (by omega),by omega⟩
  ·rw[if_neg (by simpa using hr),Option.bind_some,if_neg (by simp)]
   refine .inr ⟨g,rfl,h2,hle g r h1 (by omega) (by omega) ?_,by omega⟩
   have:g*v2≤1048575*1048575:=Int.mul_le_mul (by omega) (by omega) b2.1 (by omega)
   have:1048576*1048576≤r*1048576:=Int.mul_le_mul_of_nonneg_right (by omega) (by omega)
   omega
theorem Xl {α:Type} {l:List α} {a b:Nat} (h:a≤b) (hb:b≤l.length):DA l (a:Int) (b:Int)=some ((l.drop a).take (b-a)):=by
 unfold DA
 rw[if_pos ⟨by omega,by omega,by omega⟩]
 simp
theorem Vf {l:List Int} {n:Nat} (hl:l.length=n) (hn:2≤n) (hd:Dg l) :
  pw (n-2)*((l[n-1]'(by omega))*1048576+l[n-2]'(by omega))≤dv l∧dv l<pw (n-2)*((l[n-1]'(by omega))*1048576+l[n-2]'(by omega)+1):=by
 have e:=iH l (i:=n-2) (by omega)
 rw[ju (by omega),ju (i:=n-2+1) (by omega),List.drop_eq_nil_of_le (by omega)]at e
 have e1:l[n-2+1]'(by omega)=l[n-1]'(by omega):=by congr 1;omega
 rw[e1]at e
 have h1:=cD (hd.take (n-2))
 have h2:=nd (hd.take (n-2))
 rw[List.length_take,Nat.min_eq_left (by omega)]at h2
 simp only[dv]at e
 have e2:l[n-2]'(by omega)+1048576*(l[n-1]'(by omega)+1048576*0)=(l[n-1]'(by omega))*1048576+l[n-2]'(by omega):=by omega
 rw[e2]at e
 rw[Int.mul_add (pw (n-2)) _ 1,Int.mul_one]
 omega
theorem Vg {l:List Int} {n:Nat} (hl:l.length=n+1) (hn:2≤n) (hd:Dg l) :
  pw (n-2)*((1048576*(l[n]'(by omega))+l[n-1]'(by omega))*1048576+l[n-2]'(by omega))≤dv l∧dv l<pw (n-2)*((1048576*(l[n]'(by omega))+l[n-1]'(by omega))*1048576+l[n-2]'(by omega)+1):=by
 have e:=iH l (i:=n-2) (by omega)
 rw[ju (by omega),ju (i:=n-2+1) (by omega),ju (i:=n-2+1+1) (by omega),List.drop_eq_nil_of_le (by omega)]at e
 have e1:l[n-2+1]'(by omega)=l[n-1]'(by omega):=by congr 1;omega
 have e3:l[n-2+1+1]'(by omega)=l[n]'(by omega):=by congr 1;omega
 rw[e1,e3]at e
 have h1:=cD (hd.take (n-2))
 have h2:=nd (hd.take (n-2))
 rw[List.length_take,Nat.min_eq_left (by omega)]at h2
 simp only[dv]at e
 have e2:l[n-2]'(by omega)+1048576*(l[n-1]'(by omega)+1048576*(l[n]'(by omega)+1048576*0))=(1048576*(l[n]'(by omega))+l[n-1]'(by omega))*1048576+l[n-2]'(by omega):=by omega
 rw[e2]at e
 rw[Int.mul_add (pw (n-2)) _ 1,Int.mul_one]
 omega
theorem Sz {v u0:List Int} {n m:Nat} (hv:Dg v) (hvl:v.length=n) (hn:2≤n) (hv1:524288≤v[n-1]'(by omega)) (hu:Dg u0) (hul:u0.length=m+n) (hf:m+n≤17592186044416) (hdr:dv (u0.drop m)<dv v) :
  ∃r,aV (q8 v) ((m:Int)-1,u0,List.replicate m 0)=some r∧r.1.length=m+n∧Dg r.1∧r.2.length=m∧Dg r.2∧dv r.1+dv v*dv r.2=dv u0∧dv r.1<dv v:=by
 have hvn:=nd hv
 rw[hvl]at hvn
 refine dP (I:=fun i s=>s.1=((m-i:Nat):Int)-1∧s.2.1.length=m+n∧Dg s.2.1∧s.2.2.length=m∧Dg s.2.2∧(∀j (hj:j<s.2.2.length),j<m-i→s.2.2[j]=0)∧dv s.2.1+dv v*dv s.2.2=dv u0∧dv (s.2.1.drop (m-i))<dv v)
  m _ ⟨rfl,hul,hu,by simp,Dg.rep _,fun j hj _=>by simp,by simp[yN],hdr⟩ (kW (by omega)) ?_
 rintro i ⟨s,u,q⟩ hi ⟨h1,hl,hd,hql,hqd,hz,he,hdr⟩
 simp only at h1 hl hd hql hqd hz he hdr
 subst h1
 generalize hk:m-i=k at *
 simp only[q8]
 by_cases h0:0<k
 ·left
  have ek:((k:Int)-1)=((k-1:Nat):Int):=by omega
  rw[ek,if_pos (by simp)]
  have e1:IntKind.i64.wrap (((k-1:Nat):Int)+(v.length:Int))=((k-1+n:Nat):Int):=by rw[hvl,gH (by omega)];omega
  have e2:IntKind.i64.wrap (((k-1+n:Nat):Int)-1)=((k-1+n-1:Nat):Int):=by rw[gH (by omega)];omega
  have e3:IntKind.i64.wrap ((v.length:Int)-1)=((n-1:Nat):Int):=by rw[hvl,gH (by omega)];omega
  have e4:IntKind.i64.wrap (((k-1+n:Nat):Int)+1)=((k-1+n+1:Nat):Int):=by rw[gH (by omega)];omega
  have e5:IntKind.i64.wrap (((k-1:Nat):Int)-1)=((k-1:Nat):Int)-1:=gH (by omega)
  rw[e1,e2,e3,e4,e5]
  have i1:k-1+n<u.length:=by omega
  have i2:k-1+n-1<u.length:=by omega
  have i3:k-1+n-2<u.length:=by omega
  have iv:n-1<v.length:=by omega
  have iv2:n-2<v.length:=by omega
  have g1:=hd.get i1
  have g2:=hd.get i2
  have g3:=hd.get i3
  have gv:=hv.get iv
  have gv2:=hv.get iv2
  rw[b9 i1,Option.bind_some,TQ g1.1 (by omega),Option.bind_some,b9 i2,Option.bind_some,b9 iv,Option.bind_some,Nv g1.1 (by omega) g2,Vc (by omega) (by omega) (by omega),Option.bind_some,Xd (by omega) (by omega),Option.bind_some,Xl (by omega) (by omega),show k-1+n+1-(k-1)=n+1 by omega]
  generalize hw:(u.drop (k-1)).take (n+1)=w
  have hwl:w.length=n+1:=by rw[← hw,List.length_take,List.length_drop];omega
  have hwd:Dg w:=by rw[← hw];exact (hd.drop _).take _
  have hwg:∀j (hj:j<n+1),w[j]'(by omega)=u[k-1+j]'(by omega):=by
   intro j hj
   subst hw
   rw[List.getElem_take,List.getElem_drop]
  have hup:dv (u.drop (k+n))=0:=by
   have s1:=iH (u.drop k) (i:=n) (by rw[List.length_drop];omega)
   rw[List.drop_drop]at s1
   have n1:=cD ((hd.drop k).take n)
   have n2:=cD (hd.drop (k+n))
   have hp:=lN n
   rcases (show dv (u.drop (k+n))=0∨1≤dv (u.drop (k+n)) by omega) with h|h
   ·exact h
   ·have:pw n*1≤pw n*dv (u.drop (k+n)):=Int.mul_le_mul_of_nonneg_left h (by omega)
    omega
  have hW:dv w=dv (u.drop (k-1)):=by
   have s1:=iH (u.drop (k-1)) (i:=n+1) (by rw[List.length_drop];omega)
   rw[List.drop_drop,show k-1+(n+1)=k+n by omega,hup,hw]at s1
   omega
  have hWk:dv w=u[k-1]+1048576*dv (u.drop k):=by
   rw[hW,ju (by omega),show k-1+1=k by omega]
  have gk:=hd.get (show k-1<u.length by omega)
  have hWV:dv w<1048576*dv v:=by omega
  have t2:=Vf hvl hn hv
  have t3:=Vg hwl hn hwd
  rw[hwg n (by omega),hwg (n-1) (by omega),hwg (n-2) (by omega)]at t3
  have a1:u[k-1+(n-1)]'(by omega)=u[k-1+n-1]'(by omega):=by congr 1;omega
  have a2:u[k-1+(n-2)]'(by omega)=u[k-1+n-2]'(by omega):=by congr 1;omega
  rw[a1,a2]at t3
  obtain⟨g,q1,q2,q3,q4⟩:=MN (s13:=((k-1:Nat):Int)) hn hvl (by omega) (k-1) rfl (by omega) (b9 iv2) (b9 i3) ⟨hv1,gv.2⟩ gv2 g3 (T:=1048576*u[k-1+n]+u[k-1+n-1]) (by omega) (by omega) t2 t3 hWV
  rw[q1,Option.bind_some,Option.bind_some]
  have hVp:0<dv v:=by
   have:=cD hwd
   omega
  obtain⟨l,r1,r2,r3,r4⟩:=Rf hwd hv (by unfold Fit;omega) (by omega) hVp q2 q3 q4
  have iq:k-1<q.length:=by omega
  rw[r1,Option.bind_some,b9 iq,Option.bind_some]
  simp only
  have hq0:0≤dv w / dv v:=Int.ediv_nonneg (cD hwd) (by omega)
  have hqB:dv w / dv v<1048576:=Int.ediv_lt_of_lt_mul hVp hWV
  have hmod:=Int.emod_lt_of_pos (dv w) hVp
  simp only[Int.toNat_natCast]
  have hdl:dv (l++u.drop (k-1+n+1))=dv w % dv v:=by
   rw[fM,show k-1+n+1=k+n by omega,hup,r4];omega
  have hut:(u.take (k-1)).length=k-1:=by rw[List.length_take];omega
  have hdu:dv (u.take (k-1)++(l++u.drop (k-1+n+1)))=dv (u.take (k-1))+pw (k-1)*(dv w % dv v):=by rw[fM,hut,hdl]
  refine⟨by omega,_,rfl,by rw[show m-(i+1)=k-1 by omega],?_,(hd.take _).append (r3.append (hd.drop _)),by simpa using hql,hqd.set _ ⟨hq0,hqB⟩,fun j hj hjk =>?_,?_,?_⟩
  ·simp only[List.length_append,List.length_take,List.length_drop];omega
  ·rw[List.getElem_set_ne (by omega)]
   exact hz j (by simpa using hj) (by omega)
  ·rw[hdu,rl iq,hz _ iq (by omega),Int.sub_zero,Int.mul_add]
   have s2:=iH u (i:=k-1) (by omega)
   rw[← hW]at s2
   have hm:=Int.mul_ediv_add_emod (dv w) (dv v)
   have:pw (k-1)*dv w=dv v*(pw (k-1)*(dv w / dv v))+pw (k-1)*(dv w % dv v):=by
    rw[Int.mul_left_comm,← Int.mul_add,hm]
   omega
  ·rw[show m-(i+1)=k-1 by omega,List.drop_append,hut,Nat.sub_self,List.drop_zero,List.drop_eq_nil_of_le (by omega),List.nil_append,hdl]
   exact hmod
 ·right
  have:k=0:=by omega
  subst this
  refine⟨(u,q),by rw[if_neg (by simp)],hl,hd,hql,hqd,he,?_⟩
  simpa using hdr
theorem NB {v:List Int} {t:Int} {n:Nat} (hl:v.length=n) (hn:0<n) (hf:n≤17592186044416) (ht:v[n-1]'(by omega)=t) (h1:1≤t) (h2:t<1048576) :
  ∃s,aV (qZ v) 1=some s∧∃j:Nat,s=2 ^ j∧j≤19∧524288≤t*s∧t*s<1048576:=by
 refine dP (I:=fun i s=>s=2 ^ i∧t*s<1048576) 20 _ ⟨rfl,by omega⟩ (by unfold FU;omega) ?_
 rintro i s hi ⟨rfl,hb⟩
 have hp:(0:Int)<2 ^ i:=Int.pow_pos (by decide)
 have hpt:(2:Int) ^ i≤t*2 ^ i:=by
  have:1*(2:Int) ^ i≤t*2 ^ i:=Int.mul_le_mul_of_nonneg_right h1 (by omega)
  omega
 have hi20:i≤19:=by
  rcases Nat.lt_or_ge 19 i with h|h
  ·have hx:i=20:=by omega
   subst hx
   omega
  ·exact h
 simp only[qZ]
 have e:IntKind.i64.wrap ((v.length:Int)-1)=((n-1:Nat):Int):=by rw[hl,gH (by omega)];omega
 rw[e,b9 (by omega),Option.bind_some,ht,gH (x:=t*2 ^ i) (by omega)]
 by_cases h:t*2 ^ i<524288
 ·left
  rw[if_pos (by simpa using h)]
  refine⟨by omega,_,rfl,by rw[gH (by omega),Int.pow_succ],?_⟩
  rw[gH (by omega),← Int.mul_assoc]
  omega
 ·right
  rw[if_neg (by simpa using h)]
  exact⟨_,rfl,i,rfl,hi20,by omega,hb⟩
theorem div_eq {m n:Nat} (hn:n≠0) (hfm:(aD m).length≤17592186043904) (hfn:(aD n).length≤17592186043904):pg (aD m) (aD n)=some (aD (m / n),aD (m % n)):=by
 unfold pg
 rw[wM (by unfold Fit;omega) (by unfold Fit;omega),Option.bind_some]
 by_cases hlt:m<n
 ·have:jL (m:Int) n<0:=by unfold jL;rw[if_pos (by omega)];decide
  rw[if_pos (by simpa using this),qf (by unfold Fit;omega),Option.bind_some,Nat.div_eq_of_lt hlt,Nat.mod_eq_of_lt hlt,cy]
 have:¬jL (m:Int) n<0:=by unfold jL;rw[if_neg (by omega)];split<;>decide
 rw[if_neg (by simpa using this)]
 obtain⟨hp1,hp2⟩:=xq hn
 have hnl:=fl n
 by_cases h1:(aD n).length=1
 ·rw[if_pos (by simp;omega)]
  have hnB:(n:Int)<1048576:=by rw[h1]at hnl;simpa [pw] using hnl
  have e:aD n=[(n:Int)]:=by
   rw[mv hn,Nat.div_eq_of_lt (by omega),cy,Nat.mod_eq_of_lt (by omega)]
  have ei:P.idx (aD n) 0=some (n:Int):=by rw[e];rfl
  rw[ei,Option.bind_some,LD (cd m) ⟨by omega,by omega⟩ (by unfold Fit;omega),Option.bind_some,bf]
  have hm1:(m:Int) % n=((m % n:Nat):Int):=(Int.natCast_emod m n).symm
  have hm2:((m:Int) / n).toNat=m / n:=by
   rw[← Int.natCast_ediv];rfl
  have hml:m % n<n:=Nat.mod_lt _ (by omega)
  simp only[hm1,hm2]
  rw[Bd (n:=m % n) (by simp[Fit]) (Dg.mk (by omega) Dg.nil) (by simp[dv]),Option.bind_some]
 ·rw[if_neg (by simp;omega)]
  generalize hN:(aD n).length=N at *
  have hN2:2≤N:=by omega
  have hdn:=cd n
  have gt:=hdn.get (show N-1<(aD n).length by omega)
  generalize ht:(aD n)[N-1]'(by omega)=t at gt
  have hsp:=iH (aD n) (i:=N-1) (by omega)
  rw[bf,ju (by omega),List.drop_eq_nil_of_le (by omega),ht]at hsp
  simp only[dv,Int.mul_zero,Int.add_zero]at hsp
  have lo0:=cD (hdn.take (N-1))
  have lo1:=nd (hdn.take (N-1))
  rw[List.length_take,Nat.min_eq_left (by omega)]at lo1
  have hpw:=lN (N-1)
  have ht1:1≤t:=by
   rcases (show t=0∨1≤t by omega) with h|h
   ·subst h;omega
   ·exact h
  obtain⟨s,hs1,j,hs2,hj,hs3,hs4⟩:=NB hN (by omega) (by omega) ht ht1 gt.2
  have hj2:(2:Int) ^ j≤524288:=by
   have:∀j:Nat,j≤19→(2:Int) ^ j≤524288:=by decide
   exact this j hj
  have hj1:(0:Int)<2 ^ j:=Int.pow_pos (by decide)
  have hts:(t+1)*s≤1048576:=by
   have h20:(1048576:Int)=2 ^ (20-j)*2 ^ j:=by rw[← Int.pow_add,Nat.sub_add_cancel (by omega)];rfl
   rw[h20]at hs4 ⊢
   rw[hs2]at hs4 ⊢
   have:t<2 ^ (20-j):=Int.lt_of_mul_lt_mul_right hs4 (by omega)
   exact Int.mul_le_mul_of_nonneg_right (by omega) (by omega)
  rw[← hs2]at hj1 hj2
  obtain⟨S,rfl⟩:∃S:Nat,s=S:=⟨s.toNat,by omega⟩
  have hSd:Dg [(S:Int)]:=Dg.mk (by omega) Dg.nil
  have hdvS:dv [(S:Int)]=S:=by simp[dv]
  rw[hs1,Option.bind_some,mul_eq (cd m) hSd (by simp;omega),Option.bind_some,bf,hdvS]
  have em:((m:Int)*S).toNat=m*S:=by rw[← Int.natCast_mul];rfl
  have en:((n:Int)*S).toNat=n*S:=by rw[← Int.natCast_mul];rfl
  rw[em]
  have hmS:(aD (m*S)).length≤(aD m).length+1:=by
   apply gp
   rw[jy,Int.natCast_mul]
   have a1:=fl m
   have:(m:Int)*S≤m*1048576:=Int.mul_le_mul_of_nonneg_left (by omega) (by omega)
   omega
  have hU:∃u,((if ((((aD (m*S)++[0]).length:Int))==((aD m).length:Int))=true then (iG 8 (aD (m*S)++[0]) [0]).bind fun x98=>some x98 else some (aD (m*S)++[0]))=some u)∧Dg u∧dv u=(m*S:Nat)∧dv u<pw (u.length-1)∧(aD (m*S)).length+1≤u.length∧u.length≤(aD m).length+3:=by
   have d1:Dg (aD (m*S)++[0]):=(cd _).append (Dg.mk (by omega) Dg.nil)
   have v1:dv (aD (m*S)++[0])=(m*S:Nat):=by rw[fM,bf];simp[dv]
   have v2:=fl (m*S)
   split
   ·rw[DU (by simp;omega),Option.bind_some]
    refine⟨_,rfl,d1.append (Dg.mk (by omega) Dg.nil),by rw[fM,v1];simp[dv],?_,by simp,by simp;omega⟩
    rw[fM,v1]
    simp only[dv,List.length_append,List.length_cons,List.length_nil]
    have:=pI (i:=(aD (m*S)).length) (j:=(aD (m*S)).length+1) (by omega)
    rw[show (aD (m*S)).length+(0+1)+(0+1)-1=(aD (m*S)).length+1 by omega]
    omega
   ·refine⟨_,rfl,d1,v1,?_,by simp,by simp;omega⟩
    rw[v1]
    simpa using v2
  obtain⟨u,hu1,hu2,hu3,hu4,hu5,hu6⟩:=hU
  rw[DU (by simp;omega),Option.bind_some,mul_eq (cd n) hSd (by simp;omega),Option.bind_some,bf,hdvS,en,hu1,Option.bind_some]
  have hVlo:524288*pw (N-1)≤((n*S:Nat):Int):=by
   rw[Int.natCast_mul,hsp,Int.add_mul]
   have a1:0≤dv ((aD n).take (N-1))*S:=Int.mul_nonneg lo0 (by omega)
   have a2:pw (N-1)*524288≤pw (N-1)*(t*S):=Int.mul_le_mul_of_nonneg_left hs3 (by omega)
   rw[Int.mul_assoc]
   omega
  have hVhi:((n*S:Nat):Int)<pw N:=by
   have a0:pw N=1048576*pw (N-1):=by rw[← jy];congr 1;omega
   rw[a0,Int.natCast_mul,hsp]
   have a1:(dv ((aD n).take (N-1))+pw (N-1)*t+1)*S≤(pw (N-1)*(t+1))*S:=Int.mul_le_mul_of_nonneg_right (by rw[Int.mul_add];omega) (by omega)
   have a2:pw (N-1)*((t+1)*S)≤pw (N-1)*1048576:=Int.mul_le_mul_of_nonneg_left hts (by omega)
   rw[Int.mul_assoc]at a1
   rw[Int.add_mul _ 1,Int.one_mul]at a1
   omega
  have hVN:(aD (n*S)).length=N:=by
   have a1:=gp hVhi
   rcases Nat.lt_or_ge (aD (n*S)).length N with h|h
   ·have a2:=fl (n*S)
    have a3:=pI (i:=(aD (n*S)).length) (j:=N-1) (by omega)
    omega
   ·omega
  have hV1:524288≤(aD (n*S))[N-1]'(by omega):=by
   have a1:=iH (aD (n*S)) (i:=N-1) (by omega)
   rw[bf,ju (by omega),List.drop_eq_nil_of_le (by omega)]at a1
   simp only[dv,Int.mul_zero,Int.add_zero]at a1
   have a2:=nd ((cd (n*S)).take (N-1))
   rw[List.length_take,Nat.min_eq_left (by omega)]at a2
   have a3:pw (N-1)*524288<pw (N-1)*((aD (n*S))[N-1]'(by omega)+1):=by rw[Int.mul_add];omega
   have:=Int.lt_of_mul_lt_mul_left a3 (by omega)
   omega
  have hlen:N+1≤u.length:=by
   have:n*S≤m*S:=Nat.mul_le_mul_right _ (by omega)
   have:=cq this
   omega
  obtain⟨M,hM⟩:∃M,u.length=M+N:=⟨u.length-N,by omega⟩
  have e1:IntKind.i64.wrap ((u.length:Int)-((aD (n*S)).length:Int))=(M:Int):=by rw[hVN,hM,gH (by omega)];omega
  rw[e1,XG (by omega),Option.bind_some,List.length_replicate,gH (x:=(M:Int)-1) (by omega)]
  have hdr:dv (u.drop M)<dv (aD (n*S)):=by
   rw[bf]
   have a1:=iH u (i:=M) (by omega)
   have a2:=cD (hu2.take M)
   have a3:pw M*dv (u.drop M)<pw M*pw (N-1):=by
    rw[← C8,show M+(N-1)=u.length-1 by omega]
    omega
   have:=Int.lt_of_mul_lt_mul_left a3 (by have:=lN M;omega)
   omega
  obtain⟨⟨U,Q⟩,r1,r2,r3,r4,r5,r6,r7⟩:=Sz (cd (n*S)) hVN hN2 hV1 hu2 hM (by omega) hdr
  simp only at r2 r3 r4 r5 r6 r7
  rw[r1,Option.bind_some]
  simp only
  rw[bf,hu3]at r6
  rw[bf]at r7
  have hU0:=cD r3
  have hQ0:=cD r5
  have hS:0<S:=by omega
  have hnS:0<n*S:=Nat.mul_pos (by omega) hS
  obtain⟨U',hU'⟩:∃k:Nat,dv U=k:=⟨(dv U).toNat,by omega⟩
  obtain⟨Q',hQ'⟩:∃k:Nat,dv Q=k:=⟨(dv Q).toNat,by omega⟩
  rw[hU',hQ']at r6
  rw[hU']at r7
  have hnat:U'+n*S*Q'=m*S:=by
   have:((U'+n*S*Q':Nat):Int)=((m*S:Nat):Int):=by rw[Int.natCast_add,Int.natCast_mul (n*S) Q'];exact r6
   omega
  have hUlt:U'<n*S:=by omega
  have hQe:Q'=m / n:=by
   have:m*S / (n*S)=Q':=by
    rw[← hnat,Nat.add_mul_div_left _ _ hnS,Nat.div_eq_of_lt hUlt,Nat.zero_add]
   rw[← this,Nat.mul_div_mul_right _ _ hS]
  have hUe:U'=(m % n)*S:=by
   have:m*S % (n*S)=U':=by rw[← hnat,Nat.add_mul_mod_self_left,Nat.mod_eq_of_lt hUlt]
   rw[← this,Nat.mul_mod_mul_right]
  rw[Bd (n:=U') (by unfold Fit;omega) r3 hU',Option.bind_some]
  have hUlen:(aD U').length≤N:=gp (by omega)
  rw[LD (cd U') ⟨by omega,by omega⟩ (by unfold Fit;omega),Option.bind_some,Bd (n:=Q') (by unfold Fit;omega) r5 hQ',Option.bind_some,bf,hQe,hUe]
  have:((((m % n)*S:Nat):Int) / (S:Int)).toNat=m % n:=by
   rw[Int.natCast_mul,Int.mul_ediv_cancel _ (by omega)];rfl
  rw[this]
def dF (x:Int):an:=an.mk x.sign (aD x.natAbs)
def Ln (x:Int):Nat:=(aD x.natAbs).length
def ff:Nat:=4398046511104
def jJ:Nat:=17592186043904
theorem p9 {n:Nat} (h:n≤ff):n≤jJ:=Nat.le_trans h (by decide)
theorem CR:dF 0=an.mk 0 []:=by unfold dF;rw[show (0:Int).natAbs=0 from rfl,cy];rfl
theorem HM {x y:Int} (h:dF x=dF y):x=y:=by
 unfold dF at h
 simp only[an.mk.injEq]at h
 have:=Sy h.2
 have h1:=Int.sign_mul_natAbs x
 have h2:=Int.sign_mul_natAbs y
 rw[← h1,← h2,h.1,this]
theorem It {x:Int} {k:Nat} (h:(x.natAbs:Int)<pw k):Ln x≤k:=gp h
theorem O9 (x:Int):(x.natAbs:Int)<pw (Ln x):=fl _
theorem N9 {x y:Int} (h:x.natAbs≤y.natAbs):Ln x≤Ln y:=cq h
theorem GW (x:Int):Ln (-x)=Ln x:=by unfold Ln;rw[Int.natAbs_neg]
theorem Mc (x y:Int):Ln (x+y)≤max (Ln x) (Ln y)+1:=by
 apply It
 have h1:=O9 x
 have h2:=O9 y
 have h3:=pI (i:=Ln x) (j:=max (Ln x) (Ln y)) (by omega)
 have h4:=pI (i:=Ln y) (j:=max (Ln x) (Ln y)) (by omega)
 have h5:=Int.natAbs_add_le x y
 rw[jy]
 omega
theorem mT (x y:Int):Ln (x*y)≤Ln x+Ln y:=by
 apply It
 have h1:=O9 x
 have h2:=O9 y
 rw[Int.natAbs_mul,Int.natCast_mul,C8]
 have hx:=lN (Ln x)
 calc (x.natAbs:Int)*y.natAbs≤pw (Ln x)*y.natAbs:=Int.mul_le_mul_of_nonneg_right (by omega) (by omega)
  _<pw (Ln x)*pw (Ln y):=Int.mul_lt_mul_of_pos_left h2 hx
theorem xh {x:Int} (h:x.natAbs<1048576):Ln x≤1:=It (by rw[jy,nS];omega)
instance (l:List Int):Decidable (Dg l):=by unfold Dg;infer_instance
def okB (b:an):Bool:=decide (Dg b.aa)&&(match b.aa.getLast? with|none=>b.ag==0|some d=>(b.ag==1||b.ag == -1)&&d != 0)
theorem rN {b:an} : okB b=true↔∃x,b=dF x:=by
 obtain⟨s,l⟩:=b
 unfold okB
 simp only[Bool.and_eq_true,decide_eq_true_eq]
 constructor
 ·rintro⟨hd,h⟩
  cases hl:l.getLast? with
  | none =>
   rw[hl]at h
   have:l=[]:=List.getLast?_eq_none_iff.1 hl
   subst this
   exact⟨0,by rw[CR];simpa using h⟩
  | some d =>
   rw[hl]at h
   simp only[Bool.and_eq_true,Bool.or_eq_true,beq_iff_eq,bne_iff_ne]at h
   have hne:l≠[]:=by intro h0;subst h0;simp at hl
   have hlast:∀h:l≠[],l.getLast h≠0:=by
    intro h'
    rw[List.getLast?_eq_some_getLast h']at hl
    cases hl
    exact h.2
   have e:=A3 hd hlast
   have h0:(dv l).toNat≠0:=by
    intro h0
    rw[h0,cy]at e
    exact hne e.symm
   have hn:=cD hd
   refine⟨s*dv l,?_⟩
   unfold dF
   rcases h.1 with rfl|rfl
   ·rw[Int.one_mul,Int.sign_eq_one_of_pos (by omega)]
    have:(dv l).natAbs=(dv l).toNat:=by omega
    rw[this,e]
   ·rw[Int.neg_mul,Int.one_mul,Int.sign_neg,Int.sign_eq_one_of_pos (by omega)]
    have:(-dv l).natAbs=(dv l).toNat:=by omega
    rw[this,e]
 ·rintro⟨x,hx⟩
  unfold dF at hx
  simp only[an.mk.injEq]at hx
  obtain⟨rfl,rfl⟩:=hx
  refine⟨cd _,?_⟩
  by_cases h0:x=0
  ·subst h0;simp[cy]
  ·have hne:aD x.natAbs≠[]:=fun h=>h0 (by have:=qh.1 h;omega)
   rw[List.getLast?_eq_some_getLast hne]
   have h1:=Qj _ hne
   simp only[Bool.and_eq_true,Bool.or_eq_true,beq_iff_eq,bne_iff_ne]
   refine⟨?_,h1⟩
   rcases Int.lt_trichotomy x 0 with h|h|h
   ·right;exact Int.sign_eq_neg_one_of_neg h
   ·exact absurd h h0
   ·left;exact Int.sign_eq_one_of_pos h
theorem HO (x:Int):okB (dF x)=true:=rN.2 ⟨x,rfl⟩
theorem Dq {b:an} (hf:Fit b.aa):cA b=some (okB b):=by
 obtain⟨s,l⟩:=b
 simp only[Fit]at hf
 have key:∃r,aV (nw ⟨s,l⟩) 0=some r∧(match r with | .inl _=>Dg l | .inr x=>x=false∧¬Dg l):=by
  refine dP (I:=fun i s=>s=(i:Int)∧Dg (l.take i)) l.length _ ⟨rfl,by simpa using Dg.nil⟩ (kW hf) ?_
  rintro i s hi ⟨rfl,hd⟩
  simp only[nw]
  by_cases hlt:i<l.length
  ·rw[if_pos (by simpa using hlt),b9 hlt,Option.bind_some]
   by_cases h1:l[i]<0
   ·right
    exact⟨.inr false,by rw[if_pos (by simpa using h1)],rfl,fun hh=>by have:=hh.get hlt;omega⟩
   ·by_cases h2:l[i]>1048575
    ·right
     exact⟨.inr false,by rw[if_neg (by simpa using h1),if_pos (by simpa using h2)],rfl,fun hh=>by have:=hh.get hlt;omega⟩
    ·left
     refine⟨hlt,_,by rw[if_neg (by simpa using h1),if_neg (by simpa using h2)],by rw[gH (by omega)];omega,?_⟩
     have e:l.take (i+1)=l.take i++[l[i]]:=by rw[List.take_add_one];simp[hlt]
     rw[e]
     exact hd.append (Dg.mk (by omega) Dg.nil)
  ·right
   have:i=l.length:=by omega
   subst this
   rw[List.take_length]at hd
   exact⟨.inl (),by rw[if_neg (by simp)],hd⟩
 obtain⟨r,h1,h2⟩:=key
 unfold cA okB
 rw[h1,Option.bind_some]
 cases r with
 | inr x =>
  obtain⟨rfl,h⟩:=h2
  simp[h]
 | inl u =>
  simp only at h2 ⊢
  simp only[h2,decide_true,Bool.true_and]
  by_cases h0:l=[]
  ·subst h0;simp
  ·have hp:0<l.length:=List.length_pos_iff.2 h0
   have e:IntKind.i64.wrap ((l.length:Int)-1)=((l.length-1:Nat):Int):=by rw[gH (by omega)];omega
   rw[if_neg (by simpa using h0),e,b9 (by omega),List.getLast?_eq_some_getLast h0,List.getLast_eq_getElem]
   simp only[Option.bind_some]
   by_cases hs:s=1
   ·subst hs;simp
   ·rw[if_neg (by simpa using hs)]
    by_cases hs':s = -1
    ·subst hs';simp
    ·rw[if_neg (by simpa using hs')]
     simp[hs,hs']
theorem gC {x:Int} (h:Ln x≤17592186044416):cA (dF x)=some true:=by
 rw[Dq (show Fit (dF x).aa from h),HO]
theorem qB {s:Int} {l:List Int} (x:Int) (hf:Fit l) (hd:Dg l) (hv:dv l=x.natAbs) (hs:x≠0→s=x.sign):cB s l=some (dF x):=by
 unfold cB
 rw[Bd hf hd hv,Option.bind_some]
 by_cases h0:x=0
 ·subst h0
  rw[show (0:Int).natAbs=0 from rfl,cy,CR];rfl
 ·have:aD x.natAbs≠[]:=fun h=>h0 (by have:=qh.1 h;omega)
  rw[if_neg (by simpa using this),hs h0];rfl
theorem kO (b:an):eg true b=some (b,0):=rfl
theorem j8 (x:Int):x.sign = -1∨x.sign=0∨x.sign=1:=by
 rcases Int.lt_trichotomy x 0 with h|h|h
 ·left;exact Int.sign_eq_neg_one_of_neg h
 ·subst h;right;left;rfl
 ·right;right;exact Int.sign_eq_one_of_pos h
theorem RL {x:Int} (h:Ln x≤ff):pe (dF x)=some (dF (-x)):=by
 unfold pe
 have hL:ff=4398046511104:=rfl
 rw[gC (by omega),Option.bind_some]
 simp only[Bool.not_true,Bool.false_eq_true,if_false]
 have hf:Fit (dF x).aa:=by unfold Fit;show Ln x≤_;omega
 rw[qf hf,Option.bind_some,qB (-x) hf (cd _) (by show dv (aD _)=_;rw[bf,Int.natAbs_neg]),Option.bind_some]
 intro h0
 show IntKind.i64.wrap (0-x.sign)=_
 rw[gH (by have:=j8 x;omega),Int.sign_neg,Int.zero_sub]
theorem XR (s t:Int):wL [s,t]=some (if s≠0 then s else t):=by
 have key:∃r,aV (uG [s,t]) 0=some r∧(match r with | .inl _=>s=0∧t=0 | .inr x=>x=if s≠0 then s else t):=by
  refine dP (I:=fun i j=>j=(i:Int)∧(1≤i→s=0)∧(2≤i→t=0)) 2 _ ⟨rfl,by omega,by omega⟩ (by unfold FU;omega) ?_
  rintro i j hi ⟨rfl,h1,h2⟩
  simp only[uG]
  rcases (show i=0∨i=1∨i=2 by omega) with rfl|rfl|rfl
  ·rw[if_pos (by simp)]
   show _∨∃r,((some s).bind _=_)∧_
   rw[show P.idx [s,t] ((0:Nat):Int)=some s from rfl,Option.bind_some]
   by_cases hs:s=0
   ·left;exact⟨by omega,_,by rw[if_neg (by simpa using hs)],by rw[gH (by omega)];rfl,fun _=>hs,by omega⟩
   ·right;exact⟨_,by rw[if_pos (by simpa using hs)],by simp[hs]⟩
  ·have hs:=h1 (by omega)
   rw[if_pos (by simp),show P.idx [s,t] ((1:Nat):Int)=some t from rfl,Option.bind_some]
   by_cases ht:t=0
   ·left;exact⟨by omega,_,by rw[if_neg (by simpa using ht)],by rw[gH (by omega)];rfl,fun _=>hs,fun _=>ht⟩
   ·right;exact⟨_,by rw[if_pos (by simpa using ht)],by simp[hs]⟩
  ·right
   exact⟨.inl (),by rw[if_neg (by simp)],h1 (by omega),h2 (by omega)⟩
 obtain⟨r,h1,h2⟩:=key
 unfold wL
 rw[h1,Option.bind_some]
 cases r with
 | inl u=>simp only at h2 ⊢;rw[if_neg (by simp[h2.1]),h2.2]
 | inr x=>simp only at h2 ⊢;rw[h2]
theorem eS (x:Int):x.sign=1∧x=x.natAbs∧0<x∨x.sign = -1∧x = -x.natAbs∧x<0∨x.sign=0∧x=0:=by
 rcases Int.lt_trichotomy x 0 with h|h|h
 ·right;left;exact⟨Int.sign_eq_neg_one_of_neg h,by omega,h⟩
 ·subst h;right;right;exact⟨rfl,rfl⟩
 ·left;exact⟨Int.sign_eq_one_of_pos h,by omega,h⟩
theorem og {x:Int} {s:Int} {n:Nat} (hn:n=x.natAbs) (hs:x≠0→s=x.sign) (hL:n≠0→(aD n).length≤17592186044416):cB s (aD n)=some (dF x):=by
 subst hn
 refine qB x ?_ (cd _) (bf _) hs
 unfold Fit
 by_cases h:x.natAbs=0
 ·rw[h,cy];simp
 ·exact hL h
theorem WJ {x y:Int} (hx:Ln x≤ff) (hy:Ln y≤ff):qV (dF x) (dF y)=some (dF (x+y),0):=by
 have hL:ff=4398046511104:=rfl
 have hLa:=Mc x y
 unfold qV
 rw[gC (by omega),Option.bind_some]
 simp only[Bool.not_true,Bool.false_eq_true,if_false]
 rw[gC (by omega),Option.bind_some,Option.bind_some]
 simp only[Bool.not_true,Bool.false_eq_true,if_false]
 show (if decide (IntKind.i64.wrap (x.sign*y.sign)≥0)=true then _ else _)=_
 have hxd:(dF x).aa=aD x.natAbs:=rfl
 have hyd:(dF y).aa=aD y.natAbs:=rfl
 have hxs:(dF x).ag=x.sign:=rfl
 have hys:(dF y).ag=y.sign:=rfl
 rw[hxd,hyd,hxs,hys]
 have fx:(aD x.natAbs).length≤4398046511104:=by show Ln x≤_;omega
 have fy:(aD y.natAbs).length≤4398046511104:=by show Ln y≤_;omega
 have sx:=eS x
 have sy:=eS y
 have hw:IntKind.i64.wrap (x.sign*y.sign)=x.sign*y.sign:=by
  apply gH
  rcases j8 x with h|h|h<;>rcases j8 y with g|g|g<;>rw[h,g]<;>decide
 rw[hw]
 by_cases hs:x.sign*y.sign≥0
 ·rw[if_pos (by simpa using hs),XR,Option.bind_some,add_eq (cd _) (cd _) (by omega) (by omega),Option.bind_some,bf,bf]
  have hn:((x.natAbs:Int)+y.natAbs).toNat=(x+y).natAbs:=by
   rcases sx with⟨a,b,c⟩|⟨a,b,c⟩|⟨a,b⟩<;>rcases sy with⟨a',b',c'⟩|⟨a',b',c'⟩|⟨a',b'⟩<;>first|omega|(rw[a,a']at hs;exact absurd hs (by decide))
  rw[hn,og (x:=x+y) rfl ?_ (fun _=>by show Ln (x+y)≤_;omega),Option.bind_some,kO,Option.bind_some]
  intro h0
  rcases sx with⟨a,b,c⟩|⟨a,b,c⟩|⟨a,b⟩<;>rcases sy with⟨a',b',c'⟩|⟨a',b',c'⟩|⟨a',b'⟩<;>(try (rw[a,a']at hs;exact absurd hs (by decide)))<;>rw[a,a']
  ·rw[if_pos (by decide),Int.sign_eq_one_of_pos (by omega)]
  ·rw[if_pos (by decide),Int.sign_eq_one_of_pos (by omega)]
  ·rw[if_pos (by decide),Int.sign_eq_neg_one_of_neg (by omega)]
  ·rw[if_pos (by decide),Int.sign_eq_neg_one_of_neg (by omega)]
  ·rw[if_neg (by decide),Int.sign_eq_one_of_pos (by omega)]
  ·rw[if_neg (by decide),Int.sign_eq_neg_one_of_neg (by omega)]
  ·omega
 ·rw[if_neg (by simpa using hs),wM (by unfold Fit;omega) (by unfold Fit;omega),Option.bind_some]
  have hsg:x.sign=1∧y.sign = -1∧0<x∧y<0∨x.sign = -1∧y.sign=1∧x<0∧0<y:=by
   rcases sx with⟨a,b,c⟩|⟨a,b,c⟩|⟨a,b⟩<;>rcases sy with⟨a',b',c'⟩|⟨a',b',c'⟩|⟨a',b'⟩<;>first|exact .inl ⟨a,a',c,c'⟩|exact .inr ⟨a,a',c,c'⟩|(rw[a,a']at hs;exact absurd (by decide) hs)
  by_cases hlt:x.natAbs<y.natAbs
  ·have:jL (x.natAbs:Int) y.natAbs<0:=by unfold jL;rw[if_pos (by omega)];decide
   rw[if_pos (by simpa using this),sub_eq (cd _) (cd _) (by unfold Fit;omega) (cq (by omega)) (by rw[bf,bf];omega),Option.bind_some,bf,bf]
   rw[og (x:=x+y) (by omega) ?_ (fun _=>by rw[show ((y.natAbs:Int)-x.natAbs).toNat=(x+y).natAbs by omega];show Ln (x+y)≤_;omega),Option.bind_some,kO,Option.bind_some]
   intro h0
   rcases hsg with⟨a,a',b,b'⟩|⟨a,a',b,b'⟩
   ·rw[a',Int.sign_eq_neg_one_of_neg (by omega)]
   ·rw[a',Int.sign_eq_one_of_pos (by omega)]
  ·have:¬jL (x.natAbs:Int) y.natAbs<0:=by unfold jL;rw[if_neg (by omega)];split<;>decide
   rw[if_neg (by simpa using this),sub_eq (cd _) (cd _) (by unfold Fit;omega) (cq (by omega)) (by rw[bf,bf];omega),Option.bind_some,bf,bf]
   rw[og (x:=x+y) (by omega) ?_ (fun _=>by rw[show ((x.natAbs:Int)-y.natAbs).toNat=(x+y).natAbs by omega];show Ln (x+y)≤_;omega),Option.bind_some,kO,Option.bind_some]
   intro h0
   rcases hsg with⟨a,a',b,b'⟩|⟨a,a',b,b'⟩
   ·rw[a,Int.sign_eq_one_of_pos (by omega)]
   ·rw[a,Int.sign_eq_neg_one_of_neg (by omega)]
theorem WK {x y:Int} (hx:Ln x≤ff) (hy:Ln y≤ff):qY (dF x) (dF y)=some (dF (x*y),0):=by
 have hL:ff=4398046511104:=rfl
 have hLa:=mT x y
 unfold qY
 rw[gC (by omega),Option.bind_some]
 simp only[Bool.not_true,Bool.false_eq_true,if_false]
 rw[gC (by omega),Option.bind_some,Option.bind_some]
 simp only[Bool.not_true,Bool.false_eq_true,if_false]
 have hxd:(dF x).aa=aD x.natAbs:=rfl
 have hyd:(dF y).aa=aD y.natAbs:=rfl
 have hxs:(dF x).ag=x.sign:=rfl
 have hys:(dF y).ag=y.sign:=rfl
 rw[hxd,hyd,hxs,hys]
 have fx:(aD x.natAbs).length≤4398046511104:=by show Ln x≤_;omega
 have fy:(aD y.natAbs).length≤4398046511104:=by show Ln y≤_;omega
 have hw:IntKind.i64.wrap (x.sign*y.sign)=(x*y).sign:=by
  rw[Int.sign_mul]
  apply gH
  rcases j8 x with h|h|h<;>rcases j8 y with g|g|g<;>rw[h,g]<;>decide
 rw[hw,mul_eq (cd _) (cd _) (by omega),Option.bind_some,bf,bf]
 have hn:((x.natAbs:Int)*y.natAbs).toNat=(x*y).natAbs:=by rw[Int.natAbs_mul,← Int.natCast_mul];rfl
 rw[hn,og (x:=x*y) rfl (fun _=>rfl) (fun _=>by show Ln (x*y)≤_;omega),Option.bind_some,kO,Option.bind_some]
theorem uu {x y:Int} (hx:Ln x≤ff) (hy:Ln y≤ff):dH (dF x) (dF y)=some (dF (x*y)):=by
 unfold dH
 rw[WK hx hy];rfl
theorem RB {x y:Int} (hx:Ln x≤ff) (hy:Ln y≤ff) (h0:0<y) (hd:y∣x):l3 (dF x) (dF y)=some (dF (x / y),dF 0,0):=by
 have hL:ff=4398046511104:=rfl
 unfold l3
 rw[gC (by omega),Option.bind_some]
 simp only[Bool.not_true,Bool.false_eq_true,if_false]
 rw[gC (by omega),Option.bind_some,Option.bind_some]
 simp only[Bool.not_true,Bool.false_eq_true,if_false]
 have hxd:(dF x).aa=aD x.natAbs:=rfl
 have hyd:(dF y).aa=aD y.natAbs:=rfl
 have hxs:(dF x).ag=x.sign:=rfl
 have hys:(dF y).ag=1:=Int.sign_eq_one_of_pos h0
 rw[hxd,hyd,hxs,hys]
 have fx:(aD x.natAbs).length≤4398046511104:=by show Ln x≤_;omega
 have fy:(aD y.natAbs).length≤4398046511104:=by show Ln y≤_;omega
 have fq:=cq (Nat.div_le_self x.natAbs y.natAbs)
 obtain⟨z,rfl⟩:=hd
 have hyz:y*z / y=z:=Int.mul_ediv_cancel_left _ (by omega)
 have hn:(y*z).natAbs=y.natAbs*z.natAbs:=Int.natAbs_mul _ _
 have hq:(y*z).natAbs / y.natAbs=z.natAbs:=by rw[hn,Nat.mul_div_cancel_left _ (by omega)]
 have hr:(y*z).natAbs % y.natAbs=0:=by rw[hn,Nat.mul_mod_right]
 have hsg:(y*z).sign=z.sign:=by rw[Int.sign_mul,Int.sign_eq_one_of_pos h0,Int.one_mul]
 rw[if_neg (by decide),div_eq (by omega) (by omega) (by omega),Option.bind_some,Int.mul_one,hsg,gH (x:=z.sign) (by have:=j8 z;omega),hyz,hq,hr,cy]
 rw[hq]at fq
 have hT:(if decide (z.sign<0)=true then some (decide ((([]:List Int).length:Int)>0)) else some false)=some false:=by split<;>rfl
 simp only[hT,Option.bind_some,Bool.false_eq_true,if_false]
 rw[og (x:=z) rfl (fun _=>rfl) (fun _=>by omega),Option.bind_some]
 have:cB z.sign []=some (dF 0):=qB 0 (by simp[Fit]) Dg.nil rfl (fun h=>absurd rfl h)
 rw[this,Option.bind_some]
def lg (n:Nat):Nat:=if n=0 then 0 else n.log2+1
theorem Wo {r x:Nat} (h:2*r<x):lg r<lg x:=by
 unfold lg
 rw[if_neg (show x≠0 by omega)]
 by_cases h0:r=0
 ·rw[if_pos h0];omega
 ·rw[if_neg h0]
  have h1:=Nat.log2_self_le h0
  have h2:=@Nat.lt_log2_self x
  have:2 ^ (r.log2+1)<2 ^ (x.log2+1):=by rw[Nat.pow_succ];omega
  have:=(Nat.pow_lt_pow_iff_right (by decide:1<2)).1 this
  omega
theorem O7 {n k:Nat} (h:(n:Int)<pw k):lg n≤20*k:=by
 unfold lg
 by_cases h0:n=0
 ·rw[if_pos h0];omega
 ·rw[if_neg h0]
  have:n<2 ^ (20*k):=by
   have:pw k=((2 ^ (20*k):Nat):Int):=by
    unfold pw
    rw[Nat.pow_mul,Int.natCast_pow];rfl
   omega
  have:=(Nat.log2_lt h0).2 this
  omega
theorem SW {a b:Nat} (ha:(aD a).length≤jJ) (hb:(aD b).length≤jJ):aV ov (aD a,aD b)=some (aD (Nat.gcd a b)):=by
 have hL:jJ=17592186043904:=rfl
 have key:∃r,aV ov (aD a,aD b)=some r∧r=aD (Nat.gcd a b):=by
  have la:=O7 (fl a)
  have lb:=O7 (fl b)
  let val:List Int→Nat:=fun l=>(dv l).toNat
  have hval:∀n,val (aD n)=n:=fun n=>by show (dv (aD n)).toNat=n;rw[bf];rfl
  refine fU (I:=fun (s:List Int×List Int)=>∃x y,s=(aD x,aD y)∧Nat.gcd x y=Nat.gcd a b∧(aD x).length≤jJ∧(aD y).length≤jJ)
   (μ:=fun (s:List Int×List Int)=>lg (val s.1)+lg (val s.2)+(if val s.1<val s.2 then 1 else 0)) _ ⟨a,b,rfl,rfl,ha,hb⟩ (by simp only[hval];unfold FU;split<;>omega) ?_
  rintro _ ⟨x,y,rfl,hg,hx,hy⟩
  simp only[ov]
  by_cases h0:y=0
  ·right
   subst h0
   refine⟨_,by rw[cy,if_neg (by simp)],?_⟩
   rw[← hg,Nat.gcd_zero_right]
  ·left
   have hne:0<(aD y).length:=List.length_pos_iff.2 (fun h=>h0 (qh.1 h))
   rw[if_pos (by simpa using hne),div_eq h0 (by omega) (by omega),Option.bind_some]
   have hlt:=Nat.mod_lt x (Nat.pos_of_ne_zero h0)
   refine⟨_,rfl,⟨y,x % y,rfl,?_,hy,?_⟩,?_⟩
   ·rw[← hg,Nat.gcd_comm y,← Nat.gcd_rec,Nat.gcd_comm]
   ·have:=cq (Nat.mod_le x y);omega
   ·simp only[hval]
    rw[if_neg (by omega)]
    by_cases hxy:x<y
    ·rw[if_pos hxy,Nat.mod_eq_of_lt hxy];omega
    ·rw[if_neg hxy]
     have:lg (x % y)<lg x:=by
      apply Wo
      have h1:=Nat.div_add_mod x y
      have h2:1≤x / y:=(Nat.one_le_div_iff (by omega)).2 (by omega)
      have h3:y*1≤y*(x / y):=Nat.mul_le_mul_left _ h2
      omega
     omega
 obtain⟨r,h1,rfl⟩:=key
 exact h1
theorem RE {x y:Int} (hx:Ln x≤jJ) (hy:Ln y≤jJ):nt (dF x) (dF y)=some (dF (Int.gcd x y),0):=by
 have hL:jJ=17592186043904:=rfl
 unfold nt
 rw[gC (by omega),Option.bind_some]
 simp only[Bool.not_true,Bool.false_eq_true,if_false]
 rw[gC (by omega),Option.bind_some,Option.bind_some]
 simp only[Bool.not_true,Bool.false_eq_true,if_false]
 have hxd:(dF x).aa=aD x.natAbs:=rfl
 have hyd:(dF y).aa=aD y.natAbs:=rfl
 rw[hxd,hyd]
 have fx:(aD x.natAbs).length≤17592186043904:=by show Ln x≤_;omega
 have fy:(aD y.natAbs).length≤17592186043904:=by show Ln y≤_;omega
 have fg:(aD (Nat.gcd x.natAbs y.natAbs)).length≤17592186043904:=by
  by_cases h:y.natAbs=0
  ·rw[h,Nat.gcd_zero_right];exact fx
  ·have:=cq (Nat.gcd_le_right x.natAbs (Nat.pos_of_ne_zero h));omega
 rw[qf (by unfold Fit;omega),Option.bind_some,SW (by omega) (by omega),Option.bind_some,qf (by unfold Fit;omega),Option.bind_some]
 have hgn:Nat.gcd x.natAbs y.natAbs=((Int.gcd x y:Nat):Int).natAbs:=rfl
 rw[og (x:=(Int.gcd x y:Int)) hgn ?_ (fun _=>by omega),Option.bind_some,kO,Option.bind_some]
 intro h
 rw[Int.sign_eq_one_of_pos (by omega)]
theorem Ma {x y:Int} (hx:Ln x≤ff) (hy:Ln y≤ff):jg (dF x) (dF y)=some (jL x y):=by
 have hL:ff=4398046511104:=rfl
 unfold jg
 rw[gC (by omega),Option.bind_some]
 simp only[Bool.not_true,Bool.false_eq_true,if_false]
 rw[gC (by omega),Option.bind_some,Option.bind_some]
 simp only[Bool.not_true,Bool.false_eq_true,if_false]
 have hxd:(dF x).aa=aD x.natAbs:=rfl
 have hyd:(dF y).aa=aD y.natAbs:=rfl
 have hxs:(dF x).ag=x.sign:=rfl
 have hys:(dF y).ag=y.sign:=rfl
 rw[hxd,hyd,hxs,hys]
 have fx:(aD x.natAbs).length≤4398046511104:=by show Ln x≤_;omega
 have fy:(aD y.natAbs).length≤4398046511104:=by show Ln y≤_;omega
 by_cases h:x.sign=y.sign
 ·rw[if_neg (by simpa using h),wM (by unfold Fit;omega) (by unfold Fit;omega),Option.bind_some]
  have hc:∀s:Int,s = -1∨s=0∨s=1→∀c:Int,c = -1∨c=0∨c=1→IntKind.i64.wrap (s*c)=s*c:=by
   rintro s (rfl|rfl|rfl) c (rfl|rfl|rfl)<;>exact gH (by decide)
  have hcm:∀a b:Int,jL a b = -1∨jL a b=0∨jL a b=1:=by
   intro a b;unfold jL;split
   ·simp
   ·split<;>simp
  rw[hc _ (j8 x) _ (hcm _ _)]
  congr 1
  unfold jL
  rcases eS x with⟨a,b,c⟩|⟨a,b,c⟩|⟨a,b⟩<;>rcases eS y with⟨a',b',c'⟩|⟨a',b',c'⟩|⟨a',b'⟩<;>(try (rw[a,a']at h;exact absurd h (by decide)))<;>rw[a]<;>split<;>(try split)<;>(try split)<;>(try split)<;>omega
 ·rw[if_pos (by simpa using h),Ml,Option.bind_some]
  congr 1
  unfold jL
  rcases eS x with⟨a,b,c⟩|⟨a,b,c⟩|⟨a,b⟩<;>rcases eS y with⟨a',b',c'⟩|⟨a',b',c'⟩|⟨a',b'⟩<;>(try (exact absurd (a.trans a'.symm) h))<;>rw[a,a']<;>split<;>(try split)<;>(try split)<;>(try split)<;>omega
theorem P8 (x:Int):IntKind.u64.wrap x=x % 18446744073709551616:=by
 unfold IntKind.wrap
 simp only[IntKind.bits,IntKind.signed,Bool.false_and,Bool.false_eq_true,if_false]
 rfl
theorem wu {x:Int} (h:0≤x∧x<18446744073709551616):IntKind.u64.wrap x=x:=by rw[P8];omega
theorem Qd {x:Int} (h:0≤x∧x<18446744073709551616):jK .and .u64 x 1048575=x % 1048576:=by
 unfold jK
 simp only
 have e1:(BitVec.ofInt IntKind.u64.bits x &&& BitVec.ofInt IntKind.u64.bits 1048575).toNat=((x % 18446744073709551616).toNat) % 1048576:=by
  rw[BitVec.toNat_and,BitVec.toNat_ofInt,BitVec.toNat_ofInt]
  have e:((1048575:Int) % ((2 ^ IntKind.u64.bits:Nat):Int)).toNat=2 ^ 20-1:=by decide
  rw[e,Nat.and_two_pow_sub_one_eq_mod]
  rfl
 rw[e1,wu (by omega)]
 omega
theorem Xk (x:Int):xa .u64 x 20=some (x / 1048576):=by
 unfold xa
 rw[if_neg (by decide)]
 have e:(2:Int) ^ (min (Int.toNat 20) IntKind.u64.bits)=1048576:=by decide
 rw[e,Int.fdiv_eq_ediv_of_nonneg _ (by decide)]
theorem ZL:pw 4=1208925819614629174706176:=by decide
theorem Vv {n:Nat} (hn:n<18446744073709551616):∃l,aV uE ((n:Int),[])=some l∧Dg l∧dv l=n∧l.length≤5:=by
 refine fU (I:=fun (s:Int×List Int)=>0≤s.1∧Dg s.2∧dv s.2+pw s.2.length*s.1=n∧s.2.length≤5∧(s.1=0∨s.2.length<5)) (μ:=fun (s:Int×List Int)=>s.1.toNat) _ ⟨by simp,Dg.nil,by simp[dv,nS],by simp,by simp⟩ (by simp only[Int.toNat_natCast];unfold FU;omega) ?_
 rintro⟨u,l⟩ ⟨h1,hd,h2,h3,h5⟩
 simp only at h1 hd h2 h3 h5
 have hp:=lN l.length
 have hdl:=cD hd
 have hu:u≤n:=by
  have:1*u≤pw l.length*u:=Int.mul_le_mul_of_nonneg_right (by omega) h1
  omega
 simp only[uE]
 by_cases h0:u>0
 ·left
  have hl5:l.length<5:=by omega
  have hl4:l.length<4:=by
   rcases Nat.lt_or_ge l.length 4 with h|h
   ·exact h
   ·have h4:l.length=4:=by omega
    rw[h4,ZL]at h2
    omega
  have hw:IntKind.i64.wrap (u % 1048576)=u % 1048576:=gH (by omega)
  rw[if_pos (by simpa using h0),Qd ⟨h1,by omega⟩,hw,DU (by simp;omega),Option.bind_some,Xk,Option.bind_some]
  refine⟨_,rfl,⟨by simp only;omega,hd.append (Dg.mk (by omega) Dg.nil),?_,by simp;omega,by right;simp;omega⟩,by simp only;omega⟩
  simp only[fM,dv,List.length_append,List.length_cons,List.length_nil,Int.mul_zero,Int.add_zero,Nat.zero_add]
  have:=ug l.length u
  omega
 ·right
  have:u=0:=by omega
  subst this
  refine⟨l,by rw[if_neg (by simp)],hd,?_,h3⟩
  rw[Int.mul_zero]at h2
  omega
theorem VZ {x:Int} (h : -9223372036854775808≤x∧x<9223372036854775808):tl x=some (dF x):=by
 have hT:(if decide (x<0)=true then some ((-1:Int),IntKind.u64.wrap (0-(IntKind.u64.wrap x))) else some (1,IntKind.u64.wrap x))=some (if x<0 then -1 else 1,((x.natAbs:Nat):Int)):=by
  by_cases hx:x<0
  ·rw[if_pos (by simpa using hx),if_pos hx,P8,P8]
   congr 2
   omega
  ·rw[if_neg (by simpa using hx),if_neg hx,P8]
   congr 2
   omega
 obtain⟨l,h1,h2,h3,h4⟩:=Vv (n:=x.natAbs) (by omega)
 unfold tl
 rw[hT,Option.bind_some]
 simp only
 rw[h1,Option.bind_some,mC]
 refine qB x (by unfold Fit;omega) h2 h3 (fun h0 =>?_)
 split
 ·rw[Int.sign_eq_neg_one_of_neg (by omega)]
 ·rw[Int.sign_eq_one_of_pos (by omega)]
theorem ZN {d:Int} {i:Nat} (hi:i≤3) (hd:0≤d∧d<1048576) (h8:i=3→d≤8):EH .u64 (IntKind.u64.wrap d) (IntKind.i64.wrap (20*(i:Int)))=some (pw i*d):=by
 rw[wu (by omega),gH (by omega)]
 unfold EH
 rw[if_neg (by omega)]
 have e:(2:Int) ^ (min (20*(i:Int)).toNat IntKind.u64.bits)=pw i:=by
  have:∀i:Nat,i≤3→(2:Int) ^ (min (20*(i:Int)).toNat IntKind.u64.bits)=pw i:=by decide
  exact this i hi
 rw[e,wu,Int.mul_comm]
 rcases (show i=0∨i=1∨i=2∨i=3 by omega) with rfl|rfl|rfl|rfl
 ·rw[show pw 0=1 by decide];omega
 ·rw[show pw 1=1048576 by decide];omega
 ·rw[show pw 2=1099511627776 by decide];omega
 ·rw[show pw 3=1152921504606846976 by decide];have:=h8 rfl;omega
theorem Yq {u d:Int} {i:Nat} (hi:i≤3) (hu:0≤u∧u<pw i) (hd:0≤d∧pw i*d<9223372036854775809):jK .or .u64 u (pw i*d)=u+pw i*d:=by
 have hp:=lN i
 have hpd:0≤pw i*d:=Int.mul_nonneg (by omega) hd.1
 have hpw:pw i=((2 ^ (20*i):Nat):Int):=by unfold pw;rw[Nat.pow_mul,Int.natCast_pow];rfl
 have hp3:pw i≤1152921504606846976:=by
  have:=pI hi
  rwa [show pw 3=1152921504606846976 by decide]at this
 unfold jK
 simp only
 have e1:(BitVec.ofInt IntKind.u64.bits u ||| BitVec.ofInt IntKind.u64.bits (pw i*d)).toNat=(u+pw i*d).toNat:=by
  rw[BitVec.toNat_or,BitVec.toNat_ofInt,BitVec.toNat_ofInt]
  have e:((2 ^ IntKind.u64.bits:Nat):Int)=18446744073709551616:=by decide
  rw[e]
  have e2:(u % 18446744073709551616).toNat=u.toNat:=by omega
  have e3:((pw i*d) % 18446744073709551616).toNat=d.toNat <<< (20*i):=by
   rw[Nat.shiftLeft_eq,Int.emod_eq_of_lt hpd (by omega),hpw]
   have:d=(d.toNat:Int):=by omega
   rw[this,← Int.natCast_mul,Int.toNat_natCast,Int.toNat_natCast,Nat.mul_comm]
  rw[e2,e3,Nat.or_comm,← Nat.shiftLeft_add_eq_or_of_lt (by omega),Nat.shiftLeft_eq]
  have:pw i*d=((d.toNat*2 ^ (20*i):Nat):Int):=by
   rw[hpw,Int.natCast_mul,Int.mul_comm]
   congr 1
   omega
  omega
 rw[e1,wu (by omega)]
 omega
theorem Xg {g:Nat} (h:(aD g).length≤jJ):oK (dF g)=some (decide (g=1)):=by
 have hL:jJ=17592186043904:=rfl
 have hgd:(dF (g:Int)).aa=aD g:=rfl
 have hLn:Ln (g:Int)=(aD g).length:=rfl
 unfold oK
 have hsmall:g=1→(aD g).length≤4:=by
  rintro rfl
  exact Nat.le_trans (gp (k:=1) (by decide)) (by decide)
 suffices hI:∃r,qW (dF g)=some r∧((if r.2=true then some (r.1==1) else some false)=some (decide (g=1))) by
  obtain⟨r,h1,h2⟩:=hI
  rw[h1,Option.bind_some,h2]
 unfold qW
 rw[gC (by rw[hLn];omega),Option.bind_some]
 simp only[Bool.not_true,Bool.false_eq_true,if_false,Option.bind_some,hgd]
 by_cases h4:(aD g).length>4
 ·rw[if_pos (by simp;omega)]
  refine⟨_,rfl,?_⟩
  have:g≠1:=fun hh=>by have:=hsmall hh;omega
  simp[this]
 rw[if_neg (by simp;omega)]
 have key:∃r,aV (qX (dF g)) (0,0)=some r∧(match r with | .inl u=>u=(g:Int) | .inr x=>x=(0,false)∧g≠1):=by
  refine dP (I:=fun i s=>s.2=(i:Int)∧s.1=dv ((aD g).take i)) (aD g).length _ ⟨rfl,rfl⟩ (kW (by omega)) ?_
  rintro i ⟨u,s⟩ hi ⟨h1,h2⟩
  simp only at h1 h2
  subst h1 h2
  simp only[qX,hgd]
  have hdg:=(cd g).take i
  have hu0:=cD hdg
  have hu1:=nd hdg
  rw[List.length_take,Nat.min_eq_left hi]at hu1
  by_cases hlt:i<(aD g).length
  ·have gd:=(cd g).get hlt
   rw[if_pos (by simpa using hlt),b9 hlt,Option.bind_some]
   have hT:(if ((i:Int)==3)=true then some (decide ((aD g)[i]>8)) else some false)=some (decide (i=3∧(aD g)[i]>8)):=by
    by_cases h3:i=3
    ·subst h3;simp
    ·rw[if_neg (by simp;omega)];simp[h3]
   rw[hT,Option.bind_some]
   by_cases h8:i=3∧(aD g)[i]>8
   ·right
    rw[if_pos (by simpa using h8)]
    refine⟨.inr (0,false),rfl,rfl,?_⟩
    rintro rfl
    have:=gp (n:=1) (k:=1) (by decide)
    omega
   ·left
    rw[if_neg (by simpa using h8),ZN (by omega) gd (by omega),Option.bind_some]
    have hb:pw i*(aD g)[i]<9223372036854775809:=by
     rcases (show i=0∨i=1∨i=2∨i=3 by omega) with h|h|h|h
     ·have:pw i=1:=by rw[h];decide
      rw[this];omega
     ·have:pw i=1048576:=by rw[h];decide
      rw[this];omega
     ·have:pw i=1099511627776:=by rw[h];decide
      rw[this];omega
     ·have:pw i=1152921504606846976:=by rw[h];decide
      rw[this];omega
    rw[Yq (by omega) ⟨hu0,hu1⟩ ⟨gd.1,hb⟩]
    exact⟨hlt,_,rfl,by rw[gH (by omega)];omega,by rw[fA hlt]⟩
  ·right
   have:i=(aD g).length:=by omega
   subst this
   exact⟨.inl (dv ((aD g).take (aD g).length)),by rw[if_neg (by simp)],by rw[List.take_length,bf]⟩
 obtain⟨r,h1,h2⟩:=key
 rw[h1,Option.bind_some]
 cases r with
 | inr x=>obtain⟨rfl,h⟩:=h2;exact⟨_,rfl,by simp[h]⟩
 | inl u =>
  simp only at h2
  subst h2
  have hs:(dF (g:Int)).ag=(g:Int).sign:=rfl
  have hs0:¬(g:Int).sign<0:=by have:=eS (g:Int);omega
  simp only[hs]
  rw[if_neg (by simp),Option.bind_some,if_neg (by simp),if_pos (by simp)]
  by_cases hg:(g:Int)<9223372036854775808
  ·rw[if_pos (by simpa using hg)]
   refine⟨_,rfl,?_⟩
   simp only[if_true]
   rw[wrap64 (by omega) hg]
   congr 1
   by_cases h:g=1
   ·subst h;rfl
   ·have:¬((g:Int)=1):=by omega
    simp[h,this]
  ·rw[if_neg (by simpa using hg)]
   have:g≠1:=by omega
   exact⟨_,rfl,by simp[this]⟩
def lF (q:Rat):aF:=aF.mk (dF q.num) (dF q.den)
def LF (q:Rat):Nat:=max (Ln q.num) (Ln q.den)
theorem vc {p q:Rat} (h:lF p=lF q):p=q:=by
 unfold lF at h
 simp only[aF.mk.injEq]at h
 have h1:=HM h.1
 have h2:=HM h.2
 exact Rat.ext h1 (by omega)
def okF (f:aF):Bool:=okB f.bx&&okB f.bt&&(f.bt.ag==1)&&decide (Nat.gcd (dv f.bx.aa).toNat (dv f.bt.aa).toNat=1)
theorem HP {f:aF} : okF f=true↔∃q,f=lF q:=by
 obtain⟨p,q⟩:=f
 unfold okF
 simp only[Bool.and_eq_true,beq_iff_eq,decide_eq_true_eq]
 constructor
 ·rintro⟨⟨⟨h1,h2⟩,h3⟩,h4⟩
  obtain⟨x,rfl⟩:=rN.1 h1
  obtain⟨y,rfl⟩:=rN.1 h2
  have hy:0<y:=by
   have:y.sign=1:=h3
   rcases eS y with⟨a,b,c⟩|⟨a,b,c⟩|⟨a,b⟩<;>omega
  have h5:(dv (dF x).aa).toNat=x.natAbs:=by show (dv (aD _)).toNat=_;rw[bf];rfl
  have h6:(dv (dF y).aa).toNat=y.natAbs:=by show (dv (aD _)).toNat=_;rw[bf];rfl
  rw[h5,h6]at h4
  refine⟨⟨x,y.natAbs,by omega,h4⟩,?_⟩
  unfold lF
  simp only
  congr 2
  omega
 ·rintro⟨q,hq⟩
  unfold lF at hq
  simp only[aF.mk.injEq]at hq
  obtain⟨rfl,rfl⟩:=hq
  have hd:=q.den_pos
  refine⟨⟨⟨HO _,HO _⟩,Int.sign_eq_one_of_pos (by omega)⟩,?_⟩
  have h5:(dv (dF q.num).aa).toNat=q.num.natAbs:=by show (dv (aD _)).toNat=_;rw[bf];rfl
  have h6:(dv (dF (q.den:Int)).aa).toNat=q.den:=by show (dv (aD _)).toNat=_;rw[bf];rfl
  rw[h5,h6]
  exact q.reduced
theorem y7 (q:Rat):okF (lF q)=true:=HP.2 ⟨q,rfl⟩
def P9 (f:aF):Prop:=f.bx.aa.length≤jJ∧f.bt.aa.length≤jJ
theorem A1 {q:Rat} (h:LF q≤ff):P9 (lF q):=by
 unfold LF at h
 exact⟨p9 (show Ln q.num≤_ by omega),p9 (show Ln q.den≤_ by omega)⟩
theorem tj {f:aF} (hf:P9 f):eA f=some (okF f):=by
 have hL:jJ=17592186043904:=rfl
 obtain⟨p,q⟩:=f
 simp only[P9]at hf
 unfold eA okF
 rw[Dq (show Fit p.aa by unfold Fit;omega),Option.bind_some]
 by_cases h1:okB p=true
 ·simp only[h1,Bool.not_true,Bool.false_eq_true,if_false,Bool.true_and]
  rw[Dq (show Fit q.aa by unfold Fit;omega),Option.bind_some]
  by_cases h2:okB q=true
  ·simp only[h2,Bool.not_true,Bool.false_eq_true,if_false,Bool.true_and,Option.bind_some]
   by_cases h3:q.ag=1
   ·rw[if_neg (by simp[h3])]
    obtain⟨x,rfl⟩:=rN.1 h1
    obtain⟨y,rfl⟩:=rN.1 h2
    rw[RE hf.1 hf.2,Option.bind_some]
    simp only[beq_self_eq_true,if_true]
    have h5:(dv (dF x).aa).toNat=x.natAbs:=by show (dv (aD _)).toNat=_;rw[bf];rfl
    have h6:(dv (dF y).aa).toNat=y.natAbs:=by show (dv (aD _)).toNat=_;rw[bf];rfl
    rw[Xg,Option.bind_some,h5,h6]
    ·rw[h3];rfl
    ·have hy:0<y.natAbs:=by
      have:y.sign=1:=h3
      rcases eS y with⟨a,b,c⟩|⟨a,b,c⟩|⟨a,b⟩<;>omega
     have:=cq (Nat.gcd_le_right x.natAbs hy)
     have h7:(aD y.natAbs).length≤jJ:=hf.2
     show (aD (Nat.gcd x.natAbs y.natAbs)).length≤_
     omega
   ·rw[if_pos (by simpa using h3)]
    simp[h3]
  ·simp only[h2,Bool.not_false,if_true,Option.bind_some,Bool.false_and]
 ·simp only[h1,Bool.not_false,if_true,Option.bind_some,Bool.false_and]
theorem mr {q:Rat} (h:LF q≤ff):eA (lF q)=some true:=by rw[tj (A1 h),y7]
theorem WL {p q:Int} (hp:Ln p≤ff) (hq:Ln q≤ff) (h0:q≠0):oJ (dF p) (dF q)=some (lF (Rat.divInt p q),0):=by
 have hL:ff=4398046511104:=rfl
 have main:∀ {p q:Int},Ln p≤ff→Ln q≤ff→0<q →
   ((nt (dF p) (dF q)).bind fun r6=>(l3 (dF p) r6.1).bind fun r7=>(l3 (dF q) r6.1).bind fun r8=>some ((aF.mk r7.1 r8.1),(0:Int)))=some (lF (Rat.divInt p q),0):=by
  intro p q hp hq h0
  have hg:0<Int.gcd p q:=Int.gcd_pos_of_ne_zero_right _ (by omega)
  have hgl:Ln (Int.gcd p q:Int)≤ff:=by
   have:=cq (Nat.gcd_le_right p.natAbs (show 0<q.natAbs by omega))
   show (aD (Nat.gcd p.natAbs q.natAbs)).length≤_
   have h7:(aD q.natAbs).length≤ff:=hq
   omega
  rw[RE (p9 hp) (p9 hq),Option.bind_some]
  simp only
  rw[RB hp hgl (by omega) (Int.gcd_dvd_left ..),Option.bind_some,RB hq hgl (by omega) (Int.gcd_dvd_right ..),Option.bind_some]
  have hd:((q.natAbs / Int.gcd p q:Nat):Int)=q / (Int.gcd p q:Int):=by
   rw[Int.natCast_ediv]
   congr 1
   omega
  unfold lF
  rw[Rat.num_divInt,Rat.den_divInt,if_neg (by omega),Int.sign_eq_one_of_pos h0,Int.one_mul,Int.gcd_comm q p,hd]
 unfold oJ
 rw[gC (by omega),Option.bind_some]
 simp only[Bool.not_true,Bool.false_eq_true,if_false]
 rw[gC (by omega),Option.bind_some,Option.bind_some]
 simp only[Bool.not_true,Bool.false_eq_true,if_false]
 have hqs:(dF q).ag=q.sign:=rfl
 rw[hqs]
 rcases eS q with⟨a,b,c⟩|⟨a,b,c⟩|⟨a,b⟩
 ·rw[if_neg (by rw[a];decide),if_neg (by rw[a];decide),Option.bind_some]
  exact main hp hq c
 ·rw[if_neg (by rw[a];decide),if_pos (by rw[a];decide),RL hp,Option.bind_some,RL hq,Option.bind_some,Option.bind_some]
  have:=main (p := -p) (q := -q) (by rw[GW];exact hp) (by rw[GW];exact hq) (by omega)
  rw[Rat.neg_divInt_neg]at this
  exact this
 ·exact absurd b h0
theorem ti (q:Rat):Ln q.num≤LF q:=by unfold LF;omega
theorem tf (q:Rat):Ln q.den≤LF q:=by unfold LF;omega
theorem Qb {p q:Int} (h0:q≠0):LF (Rat.divInt p q)≤max (Ln p) (Ln q):=by
 have hg:0<Int.gcd q p:=Int.gcd_pos_of_ne_zero_left _ h0
 have h1:Ln (Rat.divInt p q).num≤Ln p:=by
  apply N9
  rw[Rat.num_divInt]
  obtain⟨z,hz⟩:(Int.gcd q p:Int)∣q.sign*p:=Int.dvd_mul_of_dvd_right (Int.gcd_dvd_right ..)
  rw[hz,Int.mul_ediv_cancel_left _ (by omega)]
  have h2:(q.sign*p).natAbs=p.natAbs:=by
   rw[Int.natAbs_mul]
   have:q.sign.natAbs=1:=by
    rcases eS q with⟨a,b,c⟩|⟨a,b,c⟩|⟨a,b⟩
    ·rw[a];rfl
    ·rw[a];rfl
    ·exact absurd b h0
   rw[this,Nat.one_mul]
  rw[← h2,hz,Int.natAbs_mul]
  exact Nat.le_mul_of_pos_left _ (by omega)
 have h2:Ln ((Rat.divInt p q).den:Int)≤Ln q:=by
  apply N9
  rw[Rat.den_divInt,if_neg h0]
  exact Nat.div_le_self _ _
 unfold LF
 omega
theorem VX {a b:Rat} (h:LF a+LF b+1≤ff):my (lF a) (lF b)=some (lF (a+b),0):=by
 have n1:=ti a
 have n2:=ti b
 have d1:=tf a
 have d2:=tf b
 have m1:=mT a.num b.den
 have m2:=mT b.num a.den
 have m3:=mT a.den b.den
 have m4:=Mc (a.num*b.den) (b.num*a.den)
 unfold my
 rw[mr (by omega),Option.bind_some]
 simp only[Bool.not_true,Bool.false_eq_true,if_false]
 rw[mr (by omega),Option.bind_some,Option.bind_some]
 simp only[Bool.not_true,Bool.false_eq_true,if_false]
 show (dH (dF a.num) (dF b.den)).bind _=_
 rw[uu (by omega) (by omega),Option.bind_some]
 show (dH (dF b.num) (dF a.den)).bind _=_
 rw[uu (by omega) (by omega),Option.bind_some,WJ (by omega) (by omega),Option.bind_some]
 show (dH (dF a.den) (dF b.den)).bind _=_
 have hden:(a.den:Int)*b.den≠0:=by
  rw[← Int.natCast_mul]
  have:=Nat.mul_pos a.den_pos b.den_pos
  omega
 rw[uu (by omega) (by omega),Option.bind_some,WL (by omega) (by omega) hden,Option.bind_some]
 rw[Rat.add_def',← Rat.divInt_ofNat,Int.natCast_mul]
theorem RG (a b:Rat):LF (a+b)≤LF a+LF b+1:=by
 have n1:=ti a
 have n2:=ti b
 have d1:=tf a
 have d2:=tf b
 have m1:=mT a.num b.den
 have m2:=mT b.num a.den
 have m3:=mT a.den b.den
 have m4:=Mc (a.num*b.den) (b.num*a.den)
 have hden:(a.den:Int)*b.den≠0:=by
  rw[← Int.natCast_mul]
  have:=Nat.mul_pos a.den_pos b.den_pos
  omega
 rw[Rat.add_def',← Rat.divInt_ofNat,Int.natCast_mul]
 have:=Qb (p:=a.num*b.den+b.num*a.den) hden
 omega
theorem XM {n:Int} (h : -9223372036854775808≤n∧n<9223372036854775808):oI n=some (lF n):=by
 unfold oI
 rw[VZ h,Option.bind_some,VZ (by decide),Option.bind_some]
 unfold lF
 rw[Rat.num_intCast,Rat.den_intCast]
 rfl
theorem RI {n:Int} (h:n.natAbs<1048576):LF (n:Rat)≤1:=by
 unfold LF
 rw[Rat.num_intCast,Rat.den_intCast]
 have h1:=xh h
 have h2:=xh (x:=((1:Nat):Int)) (by decide)
 omega
def Qg (a b:Rat):Int:=if a<b then -1 else if b<a then 1 else 0
theorem ON (a b:Rat):jL (a.num*b.den) (b.num*a.den)=Qg a b:=by
 unfold jL Qg
 simp only[Rat.lt_iff]
theorem oc {a b:Rat} (h:LF a+LF b≤ff):fB (lF a) (lF b)=some (Qg a b):=by
 have n1:=ti a
 have n2:=ti b
 have d1:=tf a
 have d2:=tf b
 have m1:=mT a.num b.den
 have m2:=mT b.num a.den
 unfold fB
 rw[mr (by omega),Option.bind_some]
 simp only[Bool.not_true,Bool.false_eq_true,if_false]
 rw[mr (by omega),Option.bind_some,Option.bind_some]
 simp only[Bool.not_true,Bool.false_eq_true,if_false]
 show (dH (dF a.num) (dF b.den)).bind _=_
 rw[uu (by omega) (by omega),Option.bind_some]
 show (dH (dF b.num) (dF a.den)).bind _=_
 rw[uu (by omega) (by omega),Option.bind_some,Ma (by omega) (by omega),Option.bind_some,ON]
theorem P4 {l:List Int} (hl:Fit l) (hd:Dg l):gA l=some (aD (dv l).toNat):=by
 have h:=sh hl hd
 obtain⟨r,h1,k,rfl,hk,_⟩:=GP hl
 unfold dL at h
 unfold gA
 have e:uk l=kv l:=rfl
 rw[h1,Option.bind_some,Bc hk,Option.bind_some]at h
 rw[e,h1,Option.bind_some,Bc hk,Option.bind_some,DU (by unfold Fit at hl;simp;omega),Option.bind_some]
 exact h
theorem DJ {l:List Int} {n:Nat} (hl:Fit l) (hd:Dg l) (hn:dv l=n):gA l=some (aD n):=by
 rw[P4 hl hd,hn];rfl
theorem A9 {s:Int} {l:List Int} (x:Int) (hf:Fit l) (hd:Dg l) (hv:dv l=x.natAbs) (hs:x≠0→s=x.sign):fu s l=some (dF x):=by
 have h:=qB x hf hd hv hs
 unfold cB at h
 rw[sh hf hd]at h
 unfold fu
 rw[P4 hf hd]
 exact h
theorem wU {x:Int} {s:Int} {n:Nat} (hn:n=x.natAbs) (hs:x≠0→s=x.sign) (hL:n≠0→(aD n).length≤17592186044416):fu s (aD n)=some (dF x):=by
 subst hn
 refine A9 x ?_ (cd _) (bf _) hs
 unfold Fit
 by_cases h:x.natAbs=0
 ·rw[h,cy];simp
 ·exact hL h
theorem Lo {s:Int} {l:List Int} (hf:Fit l):∃r,aV (nX ⟨s,l⟩) 0=some r∧(match r with | .inl _=>Dg l | .inr x=>x=false∧¬Dg l):=by
 refine dP (I:=fun i s=>s=(i:Int)∧Dg (l.take i)) l.length _ ⟨rfl,by simpa using Dg.nil⟩ (kW hf) ?_
 unfold Fit at hf
 rintro i s hi ⟨rfl,hd⟩
 simp only[nX]
 by_cases hlt:i<l.length
 ·rw[if_pos (by simpa using hlt),b9 hlt,Option.bind_some]
  by_cases h1:l[i]<0
  ·right
   exact⟨.inr false,by rw[if_pos (by simpa using h1)],rfl,fun hh=>by have:=hh.get hlt;omega⟩
  ·by_cases h2:l[i]≥1048576
   ·right
    exact⟨.inr false,by rw[if_neg (by simpa using h1),if_pos (by simpa using h2)],rfl,fun hh=>by have:=hh.get hlt;omega⟩
   ·left
    refine⟨hlt,_,by rw[if_neg (by simpa using h1),if_neg (by simpa using h2)],by rw[gH (by omega)];omega,?_⟩
    have e:l.take (i+1)=l.take i++[l[i]]:=by rw[List.take_add_one];simp[hlt]
    rw[e]
    exact hd.append (Dg.mk (by omega) Dg.nil)
 ·right
  have:i=l.length:=by omega
  subst this
  rw[List.take_length]at hd
  exact⟨.inl (),by rw[if_neg (by simp)],hd⟩
theorem Nz {b:an} (hf:Fit b.aa):dm b=some (okB b):=by
 obtain⟨s,l⟩:=b
 simp only[Fit]at hf
 obtain⟨r,h1,h2⟩:=Lo (s:=s) (l:=l) hf
 unfold dm okB
 rw[h1,Option.bind_some]
 cases r with
 | inr x =>
  obtain⟨rfl,h⟩:=h2
  simp[h]
 | inl u =>
  simp only at h2 ⊢
  simp only[h2,decide_true,Bool.true_and]
  by_cases h0:l=[]
  ·subst h0
   by_cases hs0:s=0
   ·subst hs0;simp
   ·have:(s==0)=false:=by simpa using hs0
    simp only[List.length_nil,List.getLast?_nil,this]
    split<;>(try split)<;>simp
  ·have hp:0<l.length:=List.length_pos_iff.2 h0
   have e:IntKind.i64.wrap ((l.length:Int)-1)=((l.length-1:Nat):Int):=by rw[gH (by omega)];omega
   have hl0:((l.length:Int)==0)=false:=by simpa using h0
   rw[e,b9 (by omega),List.getLast?_eq_some_getLast h0,List.getLast_eq_getElem,hl0]
   simp only[Option.bind_some,Bool.false_eq_true,if_false]
   by_cases hs:s < -1
   ·rw[if_pos (by simpa using hs)]
    have h1:(s==1)=false:=by simp;omega
    have h2:(s == -1)=false:=by simp;omega
    simp[h1,h2]
   ·rw[if_neg (by simpa using hs)]
    by_cases hs':s>1
    ·rw[if_pos (by simpa using hs')]
     have h1:(s==1)=false:=by simp;omega
     have h2:(s == -1)=false:=by simp;omega
     simp[h1,h2]
    ·rw[if_neg (by simpa using hs')]
     rcases (show s = -1∨s=0∨s=1 by omega) with rfl|rfl|rfl<;>simp
theorem gU {x:Int} (h:Ln x≤17592186044416):dm (dF x)=some true:=by
 rw[Nz (show Fit (dF x).aa from h),HO]
theorem xp (l:List Int) (i:Nat):gh l (i:Int)=some (gd l i):=by
 unfold gh
 by_cases h:i<l.length
 ·rw[if_pos (by simpa using h),b9 h,Option.bind_some,JJ h]
 ·rw[if_neg (by simpa using h),FX (by omega)]
theorem LU {a b l0:List Int} {i n:Nat} (ha:Dg a) (hb:Dg b) (hia:i<a.length) (h0:Dg l0) (hn:l0.length=n) (hi:i+b.length<n) (hf:n≤17592186044416) (hz:∀j (hj:j<l0.length),i+b.length≤j→l0[j]=0) :
  ∃l,aV (n0 a b (i:Int)) (0,0,l0)=some l∧l.length=n∧Dg l∧(∀j (hj:j<l.length),i+b.length<j→l[j]=0)∧dv l=dv l0+pw i*(a[i]*dv b):=by
 have hx:=ha.get hia
 refine dP (I:=fun k s=>s.2.1=(k:Int)∧s.2.2.length=n∧Dg s.2.2∧(0≤s.1∧s.1<1048576)∧(∀j (hj:j<s.2.2.length),i+b.length≤j→i+k≤j→s.2.2[j]=0)∧(k=b.length+1→s.1=0)∧dv s.2.2+pw (i+k)*s.1=dv l0+pw i*(a[i]*dv (b.take k)))
  (b.length+1) _ ⟨rfl,hn,h0,by simp,fun j hj h _=>hz j hj h,by omega,by simp[dv]⟩ (kW (by omega)) ?_
 rintro k ⟨c,s,l⟩ hk ⟨h1,hl,hd,hc,hz,hend,he⟩
 simp only at h1 hl hd hc hz hend he
 subst h1
 simp only[n0]
 have hT:(if decide ((k:Int)<(b.length:Int))=true then some true else some (decide (c>0)))=some (decide (k<b.length∨c>0)):=by
  by_cases h:k<b.length
  ·rw[if_pos (by simpa using h)];simp[h]
  ·rw[if_neg (by simpa using h)];simp[h]
 rw[hT,Option.bind_some]
 by_cases hgo:k<b.length∨c>0
 ·left
  have hkb:k≤b.length:=by
   rcases hgo with h|h
   ·omega
   ·rcases Nat.lt_or_ge b.length k with h'|h'
    ·have:=hend (by omega);omega
    ·exact h'
  have hik:i+k<l.length:=by omega
  have ei:IntKind.i64.wrap ((i:Int)+(k:Int))=((i+k:Nat):Int):=by rw[gH (by omega)];omega
  have gb:=FW hb k
  have gl:=hd.get hik
  have hm0:0≤a[i]*gd b k:=Int.mul_nonneg hx.1 gb.1
  have hm1:a[i]*gd b k≤1048575*1048575:=Int.mul_le_mul (by omega) (by omega) gb.1 (by omega)
  rw[if_pos (by simpa using hgo),ei,b9 hik,Option.bind_some,b9 hia,Option.bind_some,xp,Option.bind_some,gH (x:=a[i]*gd b k) (by omega),gH (x:=l[i+k]+a[i]*gd b k) (by omega),gH (x:=l[i+k]+a[i]*gd b k+c) (by omega),Xd (by omega) (by omega),Option.bind_some,Vc (by omega) (by omega) (by omega),Option.bind_some]
  have e1:IntKind.i64.wrap ((k:Int)+1)=((k+1:Nat):Int):=by rw[gH (by omega)];omega
  refine⟨by omega,_,rfl,e1,by simpa using hl,hd.set _ (by omega),by simp only;omega,fun j hj hij hij2 =>?_,fun hk1 =>?_,?_⟩
  ·simp only[Int.toNat_natCast]at hj ⊢
   rw[List.getElem_set_ne (by omega)]
   exact hz j (by simpa using hj) hij (by omega)
  ·have hkl:k=b.length:=by omega
   simp only
   rw[FX (by omega),Int.mul_zero,hz _ hik (by omega) (Nat.le_refl _)]
   omega
  ·simp only[Int.toNat_natCast]
   rw[rl hik,pF]
   have hp:=ug (i+k) (l[i+k]+a[i]*gd b k+c)
   rw[Int.mul_add (pw (i+k)),Int.mul_add (pw (i+k))]at hp
   have e2:pw i*(a[i]*(dv (b.take k)+pw k*gd b k))=pw i*(a[i]*dv (b.take k))+pw (i+k)*(a[i]*gd b k):=by
    rw[Int.mul_add,Int.mul_add,C8]
    congr 1
    rw[Int.mul_left_comm a[i],← Int.mul_assoc]
   rw[e2,Int.mul_sub,show i+(k+1)=i+k+1 by omega]
   omega
 ·right
  have hkb:b.length≤k:=by omega
  have hc0:c=0:=by omega
  subst hc0
  refine⟨l,by rw[if_neg (by simpa using hgo)],hl,hd,fun j hj h=>hz j hj (by omega) (by omega),?_⟩
  rw[wR hkb,Int.mul_zero]at he
  omega
theorem NT {a b:List Int} (ha:Dg a) (hb:Dg b) (hf:a.length+b.length≤17592186044416):jz a b=some (aD (dv a*dv b).toNat):=by
 have key:∃l,aV (nZ a b) (0,List.replicate (a.length+b.length) 0)=some l∧l.length=a.length+b.length∧Dg l∧dv l=dv a*dv b:=by
  refine dP (I:=fun i s=>s.1=(i:Int)∧s.2.length=a.length+b.length∧Dg s.2∧(∀j (hj:j<s.2.length),i+b.length≤j→s.2[j]=0)∧dv s.2=dv (a.take i)*dv b)
   a.length _ ⟨rfl,by simp,Dg.rep _,fun j hj _=>by simp,by simp[dv,yN]⟩ (kW (by omega)) ?_
  rintro i ⟨s,l⟩ hi ⟨h1,hl,hd,hz,he⟩
  simp only at h1 hl hd hz he
  subst h1
  simp only[nZ]
  by_cases hlt:i<a.length
  ·left
   obtain⟨m,g1,g2,g3,g4,g5⟩:=LU (i:=i) (n:=a.length+b.length) ha hb hlt hd hl (by omega) hf hz
   rw[if_pos (by simpa using hlt),g1,Option.bind_some]
   have e1:IntKind.i64.wrap ((i:Int)+1)=((i+1:Nat):Int):=by rw[gH (by omega)];omega
   refine⟨hlt,_,rfl,e1,g2,g3,fun j hj hij=>g4 j hj (by omega),?_⟩
   rw[g5,he,fA hlt,Int.add_mul,Int.mul_assoc]
  ·right
   have hia:i=a.length:=by omega
   subst hia
   refine⟨l,by rw[if_neg (by simp)],hl,hd,?_⟩
   rw[he,List.take_length]
 obtain⟨l,h1,h2,h3,h4⟩:=key
 unfold jz
 have e:IntKind.i64.wrap ((a.length:Int)+(b.length:Int))=((a.length+b.length:Nat):Int):=by rw[gH (by omega)];omega
 rw[e,XG hf,Option.bind_some,h1,Option.bind_some,mC,P4 (by unfold Fit;omega) h3,h4]
theorem FB (l:List Int) (i:Nat):dv l=dv (l.take i)+pw i*dv (l.drop i):=by
 by_cases h:i≤l.length
 ·exact iH l h
 ·rw[List.take_of_length_le (by omega),List.drop_eq_nil_of_le (by omega)];simp[dv]
theorem wO (l:List Int) (i:Nat):dv (l.drop i)=gd l i+1048576*dv (l.drop (i+1)):=by
 by_cases h:i<l.length
 ·rw[ju h,JJ h]
 ·rw[List.drop_eq_nil_of_le (by omega),List.drop_eq_nil_of_le (by omega),FX (by omega)];simp[dv]
theorem B2 {l:List Int} (h:Dg l) (i:Nat):0≤dv (l.take i)∧dv (l.take i)<pw i:=by
 have h1:=nd (h.take i)
 have h2:=pI (show (l.take i).length≤i by rw[List.length_take];omega)
 exact⟨cD (h.take i),by omega⟩
theorem SI {a b:List Int} (ha:Dg a) (hb:Dg b) {k:Nat} (he:dv (a.drop (k+1))=dv (b.drop (k+1))) (hlt:gd a k<gd b k):dv a<dv b:=by
 have ea:=FB a k
 have eb:=FB b k
 rw[wO]at ea eb
 have la:=B2 ha k
 have lb:=B2 hb k
 have hp:=lN k
 have:pw k*(gd a k+1048576*dv (a.drop (k+1))+1)≤pw k*(gd b k+1048576*dv (b.drop (k+1))):=Int.mul_le_mul_of_nonneg_left (by omega) (by omega)
 rw[Int.mul_add _ _ 1,Int.mul_one]at this
 omega
theorem Wn {a b:List Int} (ha:Dg a) (hb:Dg b) (hfa:Fit a) (hfb:Fit b):mI a b=some (decide (dv a<dv b)):=by
 unfold Fit at hfa hfb
 generalize hm:max a.length b.length=m
 have em:(if (b.length:Int)>(a.length:Int) then (b.length:Int) else (a.length:Int))=(m:Int):=by split<;>omega
 have key:∃r,aV (pN a b) ((m:Int)-1)=some r∧(match r with | .inl _=>¬dv a<dv b | .inr x=>x=decide (dv a<dv b)):=by
  refine dP (I:=fun i s=>s=((m-i:Nat):Int)-1∧dv (a.drop (m-i))=dv (b.drop (m-i))) m _ ⟨rfl,?_⟩ (kW (by omega)) ?_
  ·rw[List.drop_eq_nil_of_le (by omega),List.drop_eq_nil_of_le (by omega)]
  rintro i s hi ⟨rfl,he⟩
  generalize hk:m-i=k at *
  simp only[pN]
  by_cases h0:0<k
  ·have ek:((k:Int)-1)=((k-1:Nat):Int):=by omega
   rw[ek,if_pos (by simp),xp,Option.bind_some,xp,Option.bind_some]
   rw[show k=k-1+1 by omega]at he
   by_cases hx:gd a (k-1)=gd b (k-1)
   ·left
    rw[if_neg (by simpa using hx)]
    refine⟨by omega,_,rfl,by rw[gH (by omega)];omega,?_⟩
    rw[show m-(i+1)=k-1 by omega,wO,wO b,hx,he]
   ·right
    rw[if_pos (by simpa using hx)]
    refine⟨.inr (decide (gd a (k-1)<gd b (k-1))),rfl,?_⟩
    rcases Int.lt_or_gt_of_ne hx with h|h
    ·have:=SI ha hb he h
     simp[h,this]
    ·have:=SI hb ha he.symm h
     have h1:¬gd a (k-1)<gd b (k-1):=by omega
     have h2:¬dv a<dv b:=by omega
     simp[h1,h2]
  ·right
   have:k=0:=by omega
   subst this
   refine⟨.inl (),by rw[if_neg (by simp)],?_⟩
   simp only[List.drop_zero]at he
   omega
 obtain⟨r,h1,h2⟩:=key
 unfold mI
 rw[em,gH (x:=(m:Int)-1) (by omega),h1,Option.bind_some]
 cases r with
 | inl u=>simp only at h2 ⊢;simp[h2]
 | inr x=>simp only at h2 ⊢;rw[h2]
theorem Xb {a b:List Int} (ha:Dg a) (hb:Dg b) (hf:Fit a) (hab:b.length≤a.length) (hle:dv b≤dv a):ky a b=some (aD (dv a-dv b).toNat):=by
 unfold Fit at hf
 have key:∃l,aV (nY a b) (0,0,[])=some l∧l.length=a.length∧Dg l∧dv l=dv a-dv b:=by
  refine dP (I:=fun i s=>s.2.1=(i:Int)∧s.2.2.length=i∧Dg s.2.2∧(0≤s.1∧s.1≤1)∧dv s.2.2+dv (b.take i)=dv (a.take i)+pw i*s.1)
   a.length _ ⟨rfl,rfl,Dg.nil,by simp,by simp[dv]⟩ (kW (by omega)) ?_
  rintro i ⟨c,s,l⟩ hi ⟨h1,hl,hd,hc,he⟩
  simp only at h1 hl hd hc he
  subst h1
  simp only[nY]
  by_cases hlt:i<a.length
  ·left
   have ga:=ha.get hlt
   have gb:=FW hb i
   rw[if_pos (by simpa using hlt),b9 hlt,Option.bind_some,xp,Option.bind_some,gH (x:=a[i]-gd b i) (by omega),gH (x:=a[i]-gd b i-c) (by omega)]
   have e1:IntKind.i64.wrap ((i:Int)+1)=((i+1:Nat):Int):=by rw[gH (by omega)];omega
   by_cases hn:a[i]-gd b i-c<0
   ·rw[if_pos (by simpa using hn),gH (by omega),DU (by simp;omega),Option.bind_some]
    refine⟨hlt,_,rfl,e1,by simp[hl],hd.append (Dg.mk (by omega) Dg.nil),by simp,?_⟩
    simp only
    rw[fM,pF,fA hlt,hl,Pq]
    simp only[dv,Int.mul_zero,Int.add_zero,Int.mul_one]
    rw[Int.mul_add,Int.mul_sub,Int.mul_sub]
    omega
   ·rw[if_neg (by simpa using hn),DU (by simp;omega),Option.bind_some]
    refine⟨hlt,_,rfl,e1,by simp[hl],hd.append (Dg.mk (by omega) Dg.nil),by simp,?_⟩
    simp only
    rw[fM,pF,fA hlt,hl]
    simp only[dv,Int.mul_zero,Int.add_zero]
    rw[Int.mul_sub,Int.mul_sub]
    omega
  ·right
   have hia:i=a.length:=by omega
   subst hia
   refine⟨l,by rw[if_neg (by simp)],hl,hd,?_⟩
   rw[wR hab,List.take_length]at he
   have h1:=nd hd
   rw[hl]at h1
   have hc0:c=0:=by
    rcases (show c=0∨c=1 by omega) with h|h
    ·exact h
    ·subst h;omega
   subst hc0
   omega
 obtain⟨l,h1,h2,h3,h4⟩:=key
 unfold ky
 rw[h1,Option.bind_some,mC,P4 (by unfold Fit;omega) h3,h4]
theorem Le {n R:Nat} (hn:n≠0) (hfn:(aD n).length≤17592186043904) (hfR:(aD R).length≤17592186043906) (hR:R<1048576*n):aV (mK (aD n) (aD R)) (0,1048576)=some ((R / n:Nat):Int):=by
 have key:∃r,aV (mK (aD n) (aD R)) (0,1048576)=some r∧r=((R / n:Nat):Int):=by
  refine fU (I:=fun (s:Int×Int)=>∃lo hi:Nat,s=((lo:Int),(hi:Int))∧lo<hi∧hi≤1048576∧lo*n≤R∧R<hi*n) (μ:=fun (s:Int×Int)=>(s.2-s.1).toNat) _ ⟨0,1048576,rfl,by omega,by omega,by omega,hR⟩ (by simp only;unfold FU;omega) ?_
  rintro _ ⟨lo,hi,rfl,h1,h2,h3,h4⟩
  simp only[mK]
  rw[gH (x:=(hi:Int)-lo) (by omega)]
  by_cases hgo:(hi:Int)-lo>1
  ·left
   have em:((lo:Int)+hi) / 2=(((lo+hi) / 2:Nat):Int):=by omega
   have hd:Dg [(((lo+hi) / 2:Nat):Int)]:=Dg.mk (by omega) Dg.nil
   have ed:dv (aD n)*dv [(((lo+hi) / 2:Nat):Int)]=((n*((lo+hi) / 2):Nat):Int):=by rw[bf,Int.natCast_mul];simp[dv]
   rw[if_pos (by simpa using hgo),gH (x:=(lo:Int)+hi) (by omega),Vc (by omega) (by omega) (by omega),Option.bind_some,em,NT (cd n) hd (by simp;omega),Option.bind_some,ed,Int.toNat_natCast]
   have hfl:(aD (n*((lo+hi) / 2))).length≤17592186043905:=by
    have:((n*((lo+hi) / 2):Nat):Int)<pw ((aD n).length+1):=by
     rw[jy,Int.natCast_mul]
     have a1:=fl n
     have:(n:Int)*((lo+hi) / 2:Nat)≤n*1048576:=Int.mul_le_mul_of_nonneg_left (by omega) (by omega)
     omega
    have:=gp this
    omega
   rw[Wn (cd R) (cd _) (by unfold Fit;omega) (by unfold Fit;omega),Option.bind_some,bf,bf]
   by_cases hc:R<n*((lo+hi) / 2)
   ·rw[if_pos (decide_eq_true (by omega))]
    refine⟨_,rfl,⟨lo,(lo+hi) / 2,rfl,by omega,by omega,h3,by rw[Nat.mul_comm];exact hc⟩,by simp only;omega⟩
   ·rw[if_neg (by rw[decide_eq_true_eq];omega)]
    refine⟨_,rfl,⟨(lo+hi) / 2,hi,rfl,by omega,by omega,by rw[Nat.mul_comm];omega,h4⟩,by simp only;omega⟩
  ·right
   refine⟨_,by rw[if_neg (by simpa using hgo)],?_⟩
   have:hi=lo+1:=by omega
   subst this
   congr 1
   have:R / n=lo:=by
    apply Nat.div_eq_of_lt_le
    ·exact h3
    ·exact h4
   exact this.symm
 obtain⟨r,h1,rfl⟩:=key
 exact h1
theorem Wz {m n:Nat} (hn:n≠0) (hfm:(aD m).length≤17592186043904) (hfn:(aD n).length≤17592186043904):mJ (aD m) (aD n)=some (aD (m / n),aD (m % n)):=by
 generalize ha:aD m=a at *
 have hda:Dg a:=by rw[← ha];exact cd m
 have key:∃r,aV (pO a (aD n)) ([],(a.length:Int)-1,List.replicate a.length 0)=some r∧r.2.length=a.length∧Dg r.2∧∃R:Nat,r.1=aD R∧R<n∧dv a=n*dv r.2+R:=by
  refine dP (I:=fun i s=>s.2.1=((a.length-i:Nat):Int)-1∧s.2.2.length=a.length∧Dg s.2.2∧∃R:Nat,s.1=aD R∧R<n∧dv (a.drop (a.length-i))=n*dv (s.2.2.drop (a.length-i))+R)
   a.length _ ⟨rfl,by simp,Dg.rep _,0,cy.symm,by omega,by simp[dv]⟩ (kW (by omega)) ?_
  rintro i ⟨r,s,l⟩ hi ⟨h1,hl,hg,R,h2,hR,he⟩
  simp only at h1 hl hg h2 he
  subst h1 h2
  generalize hk:a.length-i=k at *
  simp only[pO]
  by_cases h0:0<k
  ·left
   have hk1:k-1<a.length:=by omega
   have hk2:k-1<l.length:=by omega
   have ek:((k:Int)-1)=((k-1:Nat):Int):=by omega
   have ga:=hda.get hk1
   have hRl:=cq (show R≤n by omega)
   have hdR:Dg ([a[k-1]]++aD R):=(Dg.mk ga Dg.nil).append (cd R)
   obtain⟨X,hX⟩:∃X:Nat,a[k-1]+1048576*(R:Int)=X:=⟨(a[k-1]+1048576*(R:Int)).toNat,by omega⟩
   have hXn:X<1048576*n:=by omega
   have hXl:(aD X).length≤17592186043906:=by
    have:(X:Int)<pw ((aD n).length+1):=by
     rw[jy]
     have a1:=fl n
     omega
    have:=gp this
    omega
   rw[ek,if_pos (by simp),b9 hk1,Option.bind_some,DU (by simp;omega),Option.bind_some,DJ (n:=X) (by unfold Fit;simp;omega) hdR (by rw[fM,bf];simp only[dv,List.length_cons,List.length_nil];rw[show pw (0+1)=1048576 by decide];omega),Option.bind_some,Le hn hfn hXl hXn,Option.bind_some,b9 hk2,Option.bind_some]
   have hq:X / n<1048576:=Nat.div_lt_of_lt_mul (by rw[Nat.mul_comm];exact hXn)
   have hq0:(0:Int)≤((X / n:Nat):Int):=Int.natCast_nonneg _
   rw[DJ (n:=X / n) (by simp[Fit]) (Dg.mk (by omega) Dg.nil) (by simp[dv]),Option.bind_some]
   have hql:(aD (X / n)).length≤1:=gp (by rw[jy,nS];omega)
   have hprod:(dv (aD n)*dv (aD (X / n))).toNat=n*(X / n):=by rw[bf,bf,← Int.natCast_mul];rfl
   rw[NT (cd _) (cd _) (by omega),Option.bind_some,hprod]
   have hle:n*(X / n)≤X:=Nat.mul_div_le X n
   rw[Xb (cd _) (cd _) (by unfold Fit;omega) (cq hle) (by rw[bf,bf];omega),Option.bind_some,bf,bf]
   have hsub:((X:Int)-(n*(X / n):Nat)).toNat=X % n:=by
    have:=Nat.div_add_mod X n
    omega
   rw[hsub]
   have e1:IntKind.i64.wrap (((k-1:Nat):Int)-1)=((k-1:Nat):Int)-1:=gH (by omega)
   refine⟨by omega,_,rfl,by rw[e1,show a.length-(i+1)=k-1 by omega],by simpa using hl,hg.set _ (by omega),X % n,rfl,Nat.mod_lt _ (by omega),?_⟩
   simp only[Int.toNat_natCast]
   rw[show a.length-(i+1)=k-1 by omega,ju hk1,ju (l:=l.set (k-1) _) (i:=k-1) (by simpa using hk2),show k-1+1=k by omega,List.getElem_set_self,List.drop_set_of_lt (by omega),he,Int.mul_add,Int.mul_add]
   have h3:=Nat.div_add_mod X n
   have e3:(n:Int)*(1048576*dv (l.drop k))=1048576*(n*dv (l.drop k)):=Int.mul_left_comm _ _ _
   rw[e3,← Int.natCast_mul n (X / n)]
   omega
  ·right
   have:k=0:=by omega
   subst this
   refine⟨(aD R,l),by rw[if_neg (by simp)],hl,hg,R,rfl,hR,?_⟩
   simpa using he
 obtain⟨⟨r,l⟩,h1,h2,h3,R,h4,h5,h6⟩:=key
 simp only at h2 h3 h4 h6
 unfold mJ
 rw[XG (by omega),Option.bind_some,gH (x:=(a.length:Int)-1) (by omega),h1,Option.bind_some]
 simp only
 rw[← ha,bf]at h6
 have hl0:=cD h3
 obtain⟨Q,hQ⟩:∃Q:Nat,dv l=Q:=⟨(dv l).toNat,by omega⟩
 rw[hQ]at h6
 have hm:m=n*Q+R:=by
  have:((m:Nat):Int)=((n*Q+R:Nat):Int):=by rw[Int.natCast_add,Int.natCast_mul];exact h6
  omega
 have e1:m / n=Q:=by rw[hm,Nat.mul_add_div (by omega),Nat.div_eq_of_lt h5,Nat.add_zero]
 have e2:m % n=R:=by rw[hm,Nat.mul_add_mod,Nat.mod_eq_of_lt h5]
 rw[DJ (n:=Q) (by unfold Fit;omega) h3 hQ,Option.bind_some,h4,e1,e2]
theorem Qv {a b:Nat} (ha:(aD a).length≤jJ) (hb:(aD b).length≤jJ):aV oR (aD a,aD b)=some (aD (Nat.gcd a b)):=by
 have hL:jJ=17592186043904:=rfl
 have key:∃r,aV oR (aD a,aD b)=some r∧r=aD (Nat.gcd a b):=by
  have la:=O7 (fl a)
  have lb:=O7 (fl b)
  let val:List Int→Nat:=fun l=>(dv l).toNat
  have hval:∀n,val (aD n)=n:=fun n=>by show (dv (aD n)).toNat=n;rw[bf];rfl
  refine fU (I:=fun (s:List Int×List Int)=>∃x y,s=(aD x,aD y)∧Nat.gcd x y=Nat.gcd a b∧(aD x).length≤jJ∧(aD y).length≤jJ)
   (μ:=fun (s:List Int×List Int)=>lg (val s.1)+lg (val s.2)+(if val s.1<val s.2 then 1 else 0)) _ ⟨a,b,rfl,rfl,ha,hb⟩ (by simp only[hval];unfold FU;split<;>omega) ?_
  rintro _ ⟨x,y,rfl,hg,hx,hy⟩
  simp only[oR]
  by_cases h0:y=0
  ·right
   subst h0
   refine⟨_,by rw[cy,if_neg (by simp)],?_⟩
   rw[← hg,Nat.gcd_zero_right]
  ·left
   have hne:0<(aD y).length:=List.length_pos_iff.2 (fun h=>h0 (qh.1 h))
   rw[if_pos (by simpa using hne),Wz h0 (by omega) (by omega),Option.bind_some]
   have hlt:=Nat.mod_lt x (Nat.pos_of_ne_zero h0)
   refine⟨_,rfl,⟨y,x % y,rfl,?_,hy,?_⟩,?_⟩
   ·rw[← hg,Nat.gcd_comm y,← Nat.gcd_rec,Nat.gcd_comm]
   ·have:=cq (Nat.mod_le x y);omega
   ·simp only[hval]
    rw[if_neg (by omega)]
    by_cases hxy:x<y
    ·rw[if_pos hxy,Nat.mod_eq_of_lt hxy];omega
    ·rw[if_neg hxy]
     have:lg (x % y)<lg x:=by
      apply Wo
      have h1:=Nat.div_add_mod x y
      have h2:1≤x / y:=(Nat.one_le_div_iff (by omega)).2 (by omega)
      have h3:y*1≤y*(x / y):=Nat.mul_le_mul_left _ h2
      omega
     omega
 obtain⟨r,h1,rfl⟩:=key
 exact h1
theorem XK {x y:Int} (hx:Ln x≤jJ) (hy:Ln y≤jJ):nW (dF x) (dF y)=some (dF (Int.gcd x y),0):=by
 have hL:jJ=17592186043904:=rfl
 unfold nW
 rw[gU (by omega),Option.bind_some]
 simp only[Bool.not_true,Bool.false_eq_true,if_false]
 rw[gU (by omega),Option.bind_some,Option.bind_some]
 simp only[Bool.not_true,Bool.false_eq_true,if_false]
 have hxd:(dF x).aa=aD x.natAbs:=rfl
 have hyd:(dF y).aa=aD y.natAbs:=rfl
 rw[hxd,hyd]
 have fx:(aD x.natAbs).length≤17592186043904:=by show Ln x≤_;omega
 have fy:(aD y.natAbs).length≤17592186043904:=by show Ln y≤_;omega
 have fg:(aD (Nat.gcd x.natAbs y.natAbs)).length≤17592186043904:=by
  by_cases h:y.natAbs=0
  ·rw[h,Nat.gcd_zero_right];exact fx
  ·have:=cq (Nat.gcd_le_right x.natAbs (Nat.pos_of_ne_zero h));omega
 have hgn:Nat.gcd x.natAbs y.natAbs=((Int.gcd x y:Nat):Int).natAbs:=rfl
 rw[Qv (by omega) (by omega),Option.bind_some,wU (x:=(Int.gcd x y:Int)) hgn ?_ (fun _=>by omega),Option.bind_some]
 intro h
 rw[Int.sign_eq_one_of_pos (by omega)]
theorem XJ {x y:Int} (hx:Ln x≤ff) (hy:Ln y≤ff) (h0:0<y) (hd:y∣x):mo (dF x) (dF y)=some (dF (x / y),dF 0,0):=by
 have hL:ff=4398046511104:=rfl
 unfold mo
 rw[gU (by omega),Option.bind_some]
 simp only[Bool.not_true,Bool.false_eq_true,if_false]
 rw[gU (by omega),Option.bind_some,Option.bind_some]
 simp only[Bool.not_true,Bool.false_eq_true,if_false]
 have hxd:(dF x).aa=aD x.natAbs:=rfl
 have hyd:(dF y).aa=aD y.natAbs:=rfl
 have hxs:(dF x).ag=x.sign:=rfl
 have hys:(dF y).ag=1:=Int.sign_eq_one_of_pos h0
 rw[hxd,hyd,hxs,hys]
 have fx:(aD x.natAbs).length≤4398046511104:=by show Ln x≤_;omega
 have fy:(aD y.natAbs).length≤4398046511104:=by show Ln y≤_;omega
 have fq:=cq (Nat.div_le_self x.natAbs y.natAbs)
 obtain⟨z,rfl⟩:=hd
 have hyz:y*z / y=z:=Int.mul_ediv_cancel_left _ (by omega)
 have hn:(y*z).natAbs=y.natAbs*z.natAbs:=Int.natAbs_mul _ _
 have hq:(y*z).natAbs / y.natAbs=z.natAbs:=by rw[hn,Nat.mul_div_cancel_left _ (by omega)]
 have hr:(y*z).natAbs % y.natAbs=0:=by rw[hn,Nat.mul_mod_right]
 have hsg:(y*z).sign=z.sign:=by rw[Int.sign_mul,Int.sign_eq_one_of_pos h0,Int.one_mul]
 rw[if_neg (by decide),Wz (by omega) (by omega) (by omega),Option.bind_some,Int.mul_one,hsg,gH (x:=z.sign) (by have:=j8 z;omega),hyz,hq,hr,cy]
 rw[hq]at fq
 have hT:(if decide (z.sign≥0)=true then some true else some ((([]:List Int).length:Int)==0))=some true:=by split<;>rfl
 simp only[hT,Option.bind_some,if_true]
 rw[wU (x:=z) rfl (fun _=>rfl) (fun _=>by omega),Option.bind_some]
 have:fu z.sign []=some (dF 0):=A9 0 (by simp[Fit]) Dg.nil rfl (fun h=>absurd rfl h)
 rw[this,Option.bind_some]
theorem XP {x:Int} (h:Ln x≤ff):pM (dF x)=some (dF (-x)):=by
 unfold pM
 have hL:ff=4398046511104:=rfl
 rw[gU (by omega),Option.bind_some]
 simp only[Bool.not_true,Bool.false_eq_true,if_false]
 have hf:Fit (dF x).aa:=by unfold Fit;show Ln x≤_;omega
 rw[A9 (-x) hf (cd _) (by show dv (aD _)=_;rw[bf,Int.natAbs_neg]),Option.bind_some]
 intro h0
 show IntKind.i64.wrap (0-x.sign)=_
 rw[gH (by have:=j8 x;omega),Int.sign_neg,Int.zero_sub]
theorem Ts {x:Int} (hx : -9223372036854775808≤x∧x<9223372036854775808):∃l,aV vn (x,[])=some l∧Dg l∧dv l=x.natAbs∧l.length≤5:=by
 refine fU (I:=fun (s:Int×List Int)=>Dg s.2∧dv s.2+pw s.2.length*s.1.natAbs=x.natAbs∧s.2.length≤5∧(s.1=0∨s.2.length<5)) (μ:=fun (s:Int×List Int)=>s.1.natAbs) _ ⟨Dg.nil,by simp[dv,nS],by simp,by simp⟩ (by simp only;unfold FU;omega) ?_
 rintro⟨u,l⟩ ⟨hd,h2,h3,h5⟩
 simp only at hd h2 h3 h5
 have hp:=lN l.length
 have hdl:=cD hd
 have hu:(u.natAbs:Int)≤x.natAbs:=by
  have:1*(u.natAbs:Int)≤pw l.length*u.natAbs:=Int.mul_le_mul_of_nonneg_right (by omega) (by omega)
  omega
 simp only[vn]
 by_cases h0:u≠0
 ·left
  have hl4:l.length<4:=by
   rcases Nat.lt_or_ge l.length 4 with h|h
   ·exact h
   ·have h4:l.length=4:=by omega
    rw[h4,ZL]at h2
    omega
  have hm:vG .i64 u 1048576=some (u.tmod 1048576):=by unfold vG;rw[if_neg (by decide)]
  have hq:yL .i64 u 1048576=some (u.tdiv 1048576):=by
   unfold yL
   have:(u.tdiv 1048576).natAbs=u.natAbs / 1048576:=Int.natAbs_tdiv u 1048576
   rw[if_neg (by decide),gH (by omega)]
  have ha:(u.tmod 1048576).natAbs=u.natAbs % 1048576:=Int.natAbs_tmod u 1048576
  have hb:(u.tdiv 1048576).natAbs=u.natAbs / 1048576:=Int.natAbs_tdiv u 1048576
  have hpd:=ug l.length (u.natAbs:Int)
  rw[if_pos (by simpa using h0),hm,Option.bind_some]
  have fin:∀d:Int,d=((u.natAbs % 1048576:Nat):Int)→(Dg (l++[d])∧dv (l++[d])+pw (l++[d]).length*((u.tdiv 1048576).natAbs:Int)=x.natAbs∧(l++[d]).length≤5∧(u.tdiv 1048576=0∨(l++[d]).length<5))∧(u.tdiv 1048576).natAbs<u.natAbs:=by
   rintro d rfl
   refine⟨⟨hd.append (Dg.mk (by omega) Dg.nil),?_,by simp;omega,by right;simp;omega⟩,by omega⟩
   rw[hb]
   simp only[fM,dv,List.length_append,List.length_cons,List.length_nil,Int.mul_zero,Int.add_zero,Nat.zero_add]
   rw[Int.natCast_emod,Int.natCast_ediv]
   have:((1048576:Nat):Int)=1048576:=rfl
   rw[this]
   omega
  by_cases hneg:u.tmod 1048576<0
  ·rw[if_pos (by simpa using hneg),gH (x:=0-u.tmod 1048576) (by omega),DU (by simp;omega),Option.bind_some,hq,Option.bind_some]
   have:=fin (0-u.tmod 1048576) (by omega)
   exact⟨_,rfl,this.1,this.2⟩
  ·rw[if_neg (by simpa using hneg),DU (by simp;omega),Option.bind_some,hq,Option.bind_some]
   have:=fin (u.tmod 1048576) (by omega)
   exact⟨_,rfl,this.1,this.2⟩
 ·right
  have:u=0:=by omega
  subst this
  refine⟨l,by rw[if_neg (by simp)],hd,?_,h3⟩
  simp at h2
  omega
theorem Zu {x:Int} (h : -9223372036854775808≤x∧x<9223372036854775808):rS x=some (dF x):=by
 unfold rS
 by_cases h0:x=0
 ·subst h0;rw[CR];rfl
 ·have hT:(if decide (x<0)=true then some (-1:Int) else some 1)=some x.sign:=by
   rcases eS x with⟨a,b,c⟩|⟨a,b,c⟩|⟨a,b⟩
   ·rw[if_neg (by simp;omega),a]
   ·rw[if_pos (by simp;omega),a]
   ·exact absurd b h0
  obtain⟨l,h1,h2,h3,h4⟩:=Ts h
  rw[if_neg (by simpa using h0),hT,Option.bind_some,h1,Option.bind_some,mC,A9 x (by unfold Fit;omega) h2 h3 (fun _=>rfl)]
instance:DecidableEq an:=fun a b=>decidable_of_iff (a.ag=b.ag∧a.aa=b.aa) (by cases a;cases b;simp)
instance:DecidableEq aF:=fun a b=>decidable_of_iff (a.bx=b.bx∧a.bt=b.bt) (by cases a;cases b;simp)
theorem Rc {b c:an} (hf:Fit b.aa) (hl:b.aa.length=c.aa.length):∃r,aV (ui b c) 0=some r∧(match r with | .inl _=>b.aa=c.aa | .inr x=>x=false∧b.aa≠c.aa):=by
 refine dP (I:=fun i s=>s=(i:Int)∧b.aa.take i=c.aa.take i) b.aa.length _ ⟨rfl,by simp⟩ (kW hf) ?_
 unfold Fit at hf
 rintro i s hi ⟨rfl,he⟩
 simp only[ui]
 by_cases hlt:i<b.aa.length
 ·rw[if_pos (by simpa using hlt),b9 hlt,Option.bind_some,b9 (by omega),Option.bind_some]
  by_cases hx:b.aa[i]=c.aa[i]
  ·left
   rw[if_neg (by simpa using hx)]
   refine⟨hlt,_,rfl,by rw[gH (by omega)];omega,?_⟩
   rw[List.take_add_one,List.take_add_one,he]
   simp[hlt,show i<c.aa.length by omega,hx]
  ·right
   rw[if_pos (by simpa using hx)]
   refine⟨.inr false,rfl,rfl,fun h=>hx ?_⟩
   simp[h]
 ·right
  have:i=b.aa.length:=by omega
  subst this
  refine⟨.inl (),by rw[if_neg (by simp)],?_⟩
  rw[List.take_length,List.take_of_length_le (by omega)]at he
  exact he
theorem VG {b c:an} (hf:Fit b.aa):ye b c=some (decide (b=c)):=by
 have hiff:b=c↔b.ag=c.ag∧b.aa=c.aa:=by cases b;cases c;simp
 unfold ye
 by_cases h1:b.ag=c.ag
 ·rw[if_neg (by simpa using h1),Option.bind_some]
  by_cases h2:b.aa.length=c.aa.length
  ·rw[if_neg (by simp;omega)]
   obtain⟨r,h3,h4⟩:=Rc hf h2
   rw[h3,Option.bind_some]
   cases r with
   | inl u=>simp only at h4 ⊢;simp[hiff,h1,h4]
   | inr x=>simp only at h4 ⊢;simp[hiff,h1,h4.1,h4.2]
  ·rw[if_pos (by simp;omega)]
   have:b≠c:=fun h=>h2 (by rw[h])
   simp[this]
 ·rw[if_pos (by simpa using h1),Option.bind_some,if_pos rfl]
  have:b≠c:=fun h=>h1 (by rw[h])
  simp[this]
theorem Yt {b c:an} (hf:Fit b.aa):ye b c=some (decide (b=c)):=VG hf
theorem Is {x y:Int} (hx:Ln x≤jJ) (hy:Ln y≤jJ):mH (dF x) (dF y)=some (jL x y):=by
 have hL:jJ=17592186043904:=rfl
 unfold mH
 rw[gU (by omega),Option.bind_some]
 simp only[Bool.not_true,Bool.false_eq_true,if_false]
 rw[gU (by omega),Option.bind_some]
 simp only[Bool.not_true,Bool.false_eq_true,if_false]
 have fx:(aD x.natAbs).length≤17592186043904:=by show Ln x≤_;omega
 have fy:(aD y.natAbs).length≤17592186043904:=by show Ln y≤_;omega
 rw[Yt (by unfold Fit;show Ln x≤_;omega),Option.bind_some,Option.bind_some]
 have hxd:(dF x).aa=aD x.natAbs:=rfl
 have hyd:(dF y).aa=aD y.natAbs:=rfl
 have hxs:(dF x).ag=x.sign:=rfl
 have hys:(dF y).ag=y.sign:=rfl
 by_cases he:x=y
 ·subst he
  rw[if_pos (by simp)]
  simp[jL]
 ·rw[if_neg (by simp only[decide_eq_true_eq];exact fun h=>he (HM h)),hxd,hyd,hxs,hys]
  by_cases h:x.sign=y.sign
  ·rw[if_neg (by simpa using h),Wn (cd _) (cd _) (by unfold Fit;omega) (by unfold Fit;omega),Option.bind_some,bf,bf]
   have hc:jL x y=if x<y then -1 else 1:=by
    unfold jL
    split
    ·rfl
    ·rw[if_pos (by omega)]
   rcases eS x with⟨a,b,c⟩|⟨a,b,c⟩|⟨a,b⟩<;>rcases eS y with⟨a',b',c'⟩|⟨a',b',c'⟩|⟨a',b'⟩<;>(try (rw[a,a']at h;exact absurd h (by decide)))
   ·rw[a,hc]
    by_cases hlt:x<y
    ·have h1:(x.natAbs:Int)<y.natAbs:=by omega
     rw[if_pos hlt,decide_eq_true h1];rfl
    ·have h1:¬(x.natAbs:Int)<y.natAbs:=by omega
     rw[if_neg hlt,decide_eq_false h1];rfl
   ·rw[a,hc]
    by_cases hlt:x<y
    ·have h1:¬(x.natAbs:Int)<y.natAbs:=by omega
     rw[if_pos hlt,decide_eq_false h1];rfl
    ·have h1:(x.natAbs:Int)<y.natAbs:=by omega
     rw[if_neg hlt,decide_eq_true h1];rfl
   ·exact absurd (b.trans b'.symm) he
  ·rw[if_pos (by simpa using h)]
   unfold jL
   rcases eS x with⟨a,b,c⟩|⟨a,b,c⟩|⟨a,b⟩<;>rcases eS y with⟨a',b',c'⟩|⟨a',b',c'⟩|⟨a',b'⟩<;>(try (exact absurd (a.trans a'.symm) h))<;>rw[a,a']<;>(try rw[if_pos (show x<y by omega)])<;>(try rw[if_neg (show ¬x<y by omega),if_pos (show y<x by omega)])<;>rfl
theorem Bq {f:aF} (hf:P9 f):lP f=some (okF f):=by
 have hL:jJ=17592186043904:=rfl
 obtain⟨p,q⟩:=f
 simp only[P9]at hf
 unfold lP okF
 rw[Nz (show Fit p.aa by unfold Fit;omega),Option.bind_some]
 by_cases h1:okB p=true
 ·simp only[h1,Bool.not_true,Bool.false_eq_true,if_false,Bool.true_and]
  rw[Nz (show Fit q.aa by unfold Fit;omega),Option.bind_some]
  by_cases h2:okB q=true
  ·simp only[h2,Bool.not_true,Bool.false_eq_true,if_false,Bool.true_and,Option.bind_some]
   obtain⟨x,rfl⟩:=rN.1 h1
   obtain⟨y,rfl⟩:=rN.1 h2
   have hys:(dF y).ag=y.sign:=rfl
   by_cases h3:y.sign=1
   ·rw[if_neg (by rw[hys,h3];decide),XK hf.1 hf.2,Option.bind_some,Zu (by decide),Option.bind_some]
    have h5:(dv (dF x).aa).toNat=x.natAbs:=by show (dv (aD _)).toNat=_;rw[bf];rfl
    have h6:(dv (dF y).aa).toNat=y.natAbs:=by show (dv (aD _)).toNat=_;rw[bf];rfl
    have hy:0<y.natAbs:=by rcases eS y with⟨a,b,c⟩|⟨a,b,c⟩|⟨a,b⟩<;>omega
    have hgl:Ln (Int.gcd x y:Int)≤jJ:=by
     have:=cq (Nat.gcd_le_right x.natAbs hy)
     have h7:(aD y.natAbs).length≤jJ:=hf.2
     show (aD (Nat.gcd x.natAbs y.natAbs)).length≤_
     omega
    simp only
    rw[Is hgl (Nat.le_trans (xh (by decide)) (by decide)),Option.bind_some,h5,h6,hys,h3]
    have hg:Nat.gcd x.natAbs y.natAbs=Int.gcd x y:=rfl
    congr 1
    unfold jL
    by_cases h:Int.gcd x y=1
    ·rw[decide_eq_true (hg.trans h),h];rfl
    ·have h1:¬((Int.gcd x y:Nat):Int)=1:=by omega
     rw[decide_eq_false (fun h'=>h (hg.symm.trans h'))]
     split
     ·rfl
     ·rw[if_pos (by omega)];rfl
   ·have h4:((dF y).ag==1)=false:=by rw[hys];simpa using h3
    rw[if_pos (by rw[hys];have:=j8 y;simp;omega),h4]
    rfl
  ·simp only[h2,Bool.not_false,if_true,Option.bind_some,Bool.false_and]
 ·simp only[h1,Bool.not_false,if_true,Option.bind_some,Bool.false_and]
theorem Zt {p q:Int} (hp:Ln p≤ff) (hq:Ln q≤ff) (h0:q≠0):rT (dF p) (dF q)=some (lF (Rat.divInt p q),0):=by
 have hL:ff=4398046511104:=rfl
 have main:∀ {p q:Int},Ln p≤ff→Ln q≤ff→0<q →
   ((nW (dF p) (dF q)).bind fun r6=>(mo (dF p) r6.1).bind fun r7=>(mo (dF q) r6.1).bind fun r8=>some ((aF.mk r7.1 r8.1),(0:Int)))=some (lF (Rat.divInt p q),0):=by
  intro p q hp hq h0
  have hg:0<Int.gcd p q:=Int.gcd_pos_of_ne_zero_right _ (by omega)
  have hgl:Ln (Int.gcd p q:Int)≤ff:=by
   have:=cq (Nat.gcd_le_right p.natAbs (show 0<q.natAbs by omega))
   show (aD (Nat.gcd p.natAbs q.natAbs)).length≤_
   have h7:(aD q.natAbs).length≤ff:=hq
   omega
  rw[XK (p9 hp) (p9 hq),Option.bind_some]
  simp only
  rw[XJ hp hgl (by omega) (Int.gcd_dvd_left ..),Option.bind_some,XJ hq hgl (by omega) (Int.gcd_dvd_right ..),Option.bind_some]
  have hd:((q.natAbs / Int.gcd p q:Nat):Int)=q / (Int.gcd p q:Int):=by
   rw[Int.natCast_ediv]
   congr 1
   omega
  unfold lF
  rw[Rat.num_divInt,Rat.den_divInt,if_neg (by omega),Int.sign_eq_one_of_pos h0,Int.one_mul,Int.gcd_comm q p,hd]
 unfold rT
 rw[gU (by omega),Option.bind_some]
 simp only[Bool.not_true,Bool.false_eq_true,if_false]
 rw[gU (by omega),Option.bind_some,Option.bind_some]
 simp only[Bool.not_true,Bool.false_eq_true,if_false]
 have hqs:(dF q).ag=q.sign:=rfl
 rw[hqs]
 rcases eS q with⟨a,b,c⟩|⟨a,b,c⟩|⟨a,b⟩
 ·rw[if_neg (by rw[a];decide),if_neg (by rw[a];decide),Option.bind_some]
  exact main hp hq c
 ·rw[if_neg (by rw[a];decide),if_pos (by rw[a];decide),XP hp,Option.bind_some,XP hq,Option.bind_some,Option.bind_some]
  have:=main (p := -p) (q := -q) (by rw[GW];exact hp) (by rw[GW];exact hq) (by omega)
  rw[Rat.neg_divInt_neg]at this
  exact this
 ·exact absurd b h0
theorem RJ {x:Int} (h : -9223372036854775808≤x∧x<9223372036854775808):Ln x≤ff:=by
 have:Ln x≤4:=It (by rw[ZL];omega)
 have hL:ff=4398046511104:=rfl
 omega
theorem Of5 {p q:Int} (hp : -9223372036854775808≤p∧p<9223372036854775808) (hq : -9223372036854775808≤q∧q<9223372036854775808) (h0:q≠0):w6 p q=some (lF (Rat.divInt p q),0):=by
 unfold w6
 rw[Zu hp,Option.bind_some,Zu hq,Option.bind_some,Zt (RJ hp) (RJ hq) h0,Option.bind_some]
theorem XL {n:Int} (h : -9223372036854775808≤n∧n<9223372036854775808):n5 n=some (lF n):=by
 unfold n5
 rw[Of5 h (by decide) (by decide),Option.bind_some]
 simp only
 congr 2
 have:=Rat.num_divInt_den (n:Rat)
 rw[Rat.num_intCast,Rat.den_intCast]at this
 exact this
theorem X3 (f:aF) (n:Int):pP f n=some (decide ((f.bx.aa.length:Int)≤n∧(f.bt.aa.length:Int)≤n)):=by
 unfold pP
 by_cases h:(f.bx.aa.length:Int)≤n
 ·rw[if_pos (by simpa using h)];simp[h]
 ·rw[if_neg (by simpa using h)];simp[h]
end Go.Proofs.YtpkahnkoecbndaaGreatDoor.P
namespace Go.Proofs.YtpkahnkoecbndaaGreatDoor.P
open Go.RowKit T
set_option linter.unusedSimpArgs false
set_option linter.unusedVariables false
theorem least {Q:Nat→Prop} : ∀n,Q n→∃m,m≤n∧Q m∧∀j,j<m→¬Q j:=by
 intro n
 induction n using Nat.strongRecOn with
 | _ n ih =>
  intro hn
  by_cases h:∃j,j<n∧Q j
  ·obtain⟨j,h1,h2⟩:=h
   obtain⟨m,m1,m2⟩:=ih j h1 h2
   exact⟨m,by omega,m2⟩
  ·exact⟨n,Nat.le_refl _,hn,fun j hj hq=>h ⟨j,hj,hq⟩⟩
theorem allI {α ρ:Type} (l:List α) {body:Int→Option (Int⊕(Unit⊕ρ))} (p:Nat→α→Prop) (bad:ρ) [∀i x,Decidable (p i x)] (hlen:l.length<4611686018427387904)
  (hb:∀(i:Nat) x,l[i]? = some x→(∀j y,j<i→l[j]? = some y→p j y)→body (i:Int)=some (if p i x then .inl ((i+1:Nat):Int) else .inr (.inr bad))) (he:body (l.length:Int)=some (.inr (.inl ()))) :
  (∃h:(∀i x,l[i]? = some x→p i x),aV body 0=some (.inl ()))∨(∃h:¬(∀i x,l[i]? = some x→p i x),aV body 0=some (.inr bad)):=by
 by_cases hall:∀i x,l[i]? = some x→p i x
 ·refine .inl ⟨hall,GO l.length (fun i=>(i:Int)) hlen (fun i hi =>?_) he⟩
  rw[hb i l[i] (List.getElem?_eq_getElem hi) (fun j y _ hj=>hall j y hj),if_pos (hall i _ (List.getElem?_eq_getElem hi))]
 ·have:∃n x,l[n]? = some x∧¬p n x:=by
   refine Classical.byContradiction fun hc=>hall fun i x hx=>Classical.byContradiction fun hp=>hc ⟨i,x,hx,hp⟩
  obtain⟨n,hn⟩:=this
  obtain⟨m,-,⟨x,hx,hp⟩,hm⟩:=least (Q:=fun n=>∃x,l[n]? = some x∧¬p n x) n hn
  have hbefore:∀j y,j<m→l[j]? = some y→p j y:=fun j y hj hy=>Classical.byContradiction fun hq=>hm j hj ⟨y,hy,hq⟩
  have hml:=(List.getElem?_eq_some_iff.1 hx).1
  refine .inr ⟨hall,GO m (fun i=>(i:Int)) (by omega) (fun i hi =>?_) ?_⟩
  ·have hil:i<l.length:=by omega
   rw[hb i l[i] (List.getElem?_eq_getElem hil) (fun j y hj hy=>hbefore j y (by omega) hy),if_pos (hbefore i _ hi (List.getElem?_eq_getElem hil))]
  ·rw[hb m x hx hbefore,if_neg hp]
theorem OM {l:List Int} (h:l.length*8≤140737488351232):bk l=some l:=by
 unfold bk iG
 rw[if_pos ⟨by simp[maxLen];omega,by simp;omega⟩]
 rfl
theorem zn {l:List Int} (hl:l.length*8≤140737488351232):gj l=some (decide (¬l.Nodup)):=by
 have ht:=T.LZ hl
 unfold jn jS b6 Be at ht
 simp only[Option.bind_some]at ht
 unfold yg at ht
 rw[if_pos hl]at ht
 simp only[Option.bind_some]at ht
 unfold gj kf
 rw[OM hl]
 simp only[Option.bind_some]
 rw[if_pos (by omega)]
 exact ht
theorem has_eq (v:ax) (i:Int):lz v i=some (decide (0≤i∧i<v.ah.length)):=by
 unfold lz
 by_cases h:0≤i
 ·rw[if_pos (by simpa using h)];simp[h]
 ·rw[if_neg (by simpa using h)];simp[h]
def wk (l:List al) (path:List Int) (i:Nat) (a:Int):Prop:=(0≤a∧a<l.length)∧(i=0∨∃p x,path[i-1]? = some p∧P.idx l p=some x∧(x.bn=a∨x.bg=a))
def lU (l:List al) (path:List Int):Prop:=dt l∧path≠[]∧∀i a,path[i]? = some a→wk l path i a
theorem tR {α:Type} {l:List α} {i:Int} {x:α} (h:P.idx l i=some x):0≤i∧i<l.length:=by
 unfold P.idx at h
 split at h
 ·assumption
 ·cases h
theorem MO {α:Type} {l:List α} {i:Int} {x:α} (h:P.idx l i=some x):l[i.toNat]? = some x:=by
 unfold P.idx at h
 split at h
 ·exact h
 ·cases h
theorem MP {α:Type} {l:List α} {i:Int} (h:0≤i∧i<l.length):∃x,P.idx l i=some x:=by
 refine⟨l[i.toNat]'(by omega),tS h.1 ?_⟩
 exact List.getElem?_eq_getElem _
theorem Ki {path:List Int} (hl:path.length<4611686018427387904):P.idx path (IntKind.i64.wrap ((path.length:Int)-1))=path.getLast?:=by
 cases path with
 | nil=>rfl
 | cons a l =>
  have:IntKind.i64.wrap (((a::l).length:Int)-1)=((l.length:Nat):Int):=by
   rw[List.length_cons]at hl ⊢
   rw[wrap64 (by omega) (by omega)]
   omega
  rw[this,List.getLast?_eq_getElem?,bC (List.getElem?_eq_getElem (show l.length<(a::l).length by simp))]
  simp
open Classical in
theorem UF {l:List al} {path:List Int} (hl:path.length<4611686018427387904):ki ⟨l⟩ path=some (decide (lU l path)):=by
 unfold ki
 obtain⟨b,hb,hs⟩:=T.mu ⟨l⟩
 rw[hb]
 simp only[Option.bind_some]
 cases b with
 | false =>
  have:¬dt l:=fun h=>absurd (hs.2 h) (by simp)
  simp[lU,this]
 | true =>
  have hsd:=hs.1 rfl
  by_cases hp:path=[]
  ·subst hp;simp[lU]
  ·have:¬((path.length:Int)==0)=true:=by
    have:path.length≠0:=fun h=>hp (List.eq_nil_of_length_eq_zero h)
    simp;exact hp
   simp only[Bool.not_true,Bool.false_eq_true,if_false,Option.bind_some]
   rw[if_neg this]
   have hloop:=allI path (body:=jV ⟨l⟩ path) (wk l path) false hl (fun i a ha hbef=>by
    have hi:=(List.getElem?_eq_some_iff.1 ha).1
    simp only[jV]
    rw[if_pos (by simp;omega),bC ha]
    simp only[Option.bind_some,has_eq]
    by_cases hin:0≤a∧a<l.length
    ·have hd:decide (0≤a∧a<(({ ah:=l } : ax).ah.length:Int))=true:=decide_eq_true hin
     simp only[hd,Bool.not_true,Bool.false_eq_true,if_false]
     cases i with
     | zero =>
      rw[if_neg (by simp),if_pos (show wk l path 0 a from ⟨hin,.inl rfl⟩)]
      congr 2
     | succ i =>
      have hw:IntKind.i64.wrap (((i+1:Nat):Int)-1)=(i:Int):=by rw[wrap64 (by omega) (by omega)];omega
      have hpi:path[i]? = some (path[i]'(by omega)):=List.getElem?_eq_getElem _
      have hst:=hbef i _ (by omega) hpi
      obtain⟨x,hx⟩:=MP hst.1
      rw[if_pos (by simp),hw,bC hpi]
      simp only[Option.bind_some,hx]
      have hiff:wk l path (i+1) a↔(x.bn=a∨x.bg=a):=by
       constructor
       ·rintro⟨-,h|⟨p,y,h1,h2,h3⟩⟩
        ·omega
        ·simp only[Nat.add_sub_cancel]at h1
         rw[hpi]at h1;cases h1
         rw[hx]at h2;cases h2
         exact h3
       ·exact fun h=>⟨hin,.inr ⟨_,x,hpi,hx,h⟩⟩
      have hw2:IntKind.i64.wrap (((i+1:Nat):Int)+1)=((i+1+1:Nat):Int):=dw (by omega)
      by_cases h1:x.bn=a
      ·rw[if_neg (by simp[h1]),if_pos (hiff.2 (.inl h1)),hw2]
      ·rw[if_pos (by simp[h1])]
       by_cases h2:x.bg=a
       ·rw[if_neg (by simp[h2]),if_pos (hiff.2 (.inr h2)),hw2]
       ·rw[if_pos (by simp[h2]),if_neg (fun h=>(hiff.1 h).elim h1 h2)]
    ·have hd:decide (0≤a∧a<(({ ah:=l } : ax).ah.length:Int))=false:=decide_eq_false hin
     simp only[hd,Bool.not_false,if_true]
     rw[if_neg (fun h:wk l path i a=>hin h.1)]) (by simp only[jV];rw[if_neg (by simp)])
   rcases hloop with⟨h,he⟩|⟨h,he⟩
   ·rw[he];simp only[Option.bind_some];rw[decide_eq_true (show lU l path from ⟨hsd,hp,h⟩)]
   ·rw[he];simp only[Option.bind_some];rw[decide_eq_false (fun hw:lU l path=>h hw.2.2)]
def G2 (l:List al) (path:List Int) (total blind:Int) (text:ByteArray) (value own:Int):Prop :=
 lU l path∧∃a b x y,path.head? = some a∧path.getLast? = some b∧P.idx l a=some x∧P.idx l b=some y∧x.aJ=total∧x.aM=blind∧y.bn = -1∧kZ l b text value own
theorem N2 {l:List al} {path:List Int} (h:lU l path):∃a b x y,path.head? = some a∧path.getLast? = some b∧P.idx l a=some x∧P.idx l b=some y:=by
 obtain⟨-,h1,h2⟩:=h
 have hpos:0<path.length:=List.length_pos_iff.2 h1
 have ha:path[0]? = some path[0]:=List.getElem?_eq_getElem hpos
 have hb:path[path.length-1]? = some (path[path.length-1]'(by omega)):=List.getElem?_eq_getElem _
 obtain⟨x,hx⟩:=MP (h2 _ _ ha).1
 obtain⟨y,hy⟩:=MP (h2 _ _ hb).1
 exact⟨_,_,x,y,by rw[List.head?_eq_getElem?];exact ha,by rw[List.getLast?_eq_getElem?];exact hb,hx,hy⟩
theorem J2 (path:List Int):P.idx path 0=path.head?:=by
 cases path with
 | nil=>rfl
 | cons a l=>exact tS (by omega) (by simp)
open Classical in
theorem Sp {l:List al} {path:List Int} (hl:path.length<4611686018427387904) (total blind:Int) (text:ByteArray) (value own:Int):kg ⟨l⟩ path total blind text value own=some (decide (G2 l path total blind text value own)):=by
 unfold kg
 rw[UF hl]
 simp only[Option.bind_some]
 by_cases hw:lU l path
 ·rw[if_neg (by simp[hw])]
  obtain⟨a,b,x,y,ha,hb,hx,hy⟩:=N2 hw
  rw[J2,Ki hl,ha,hb]
  simp only[Option.bind_some,hx]
  have hiff:G2 l path total blind text value own↔x.aJ=total∧x.aM=blind∧y.bn = -1∧kZ l b text value own:=by
   constructor
   ·rintro⟨-,a',b',x',y',h1,h2,h3,h4,h5⟩
    rw[ha]at h1;cases h1
    rw[hb]at h2;cases h2
    rw[hx]at h3;cases h3
    rw[hy]at h4;cases h4
    exact h5
   ·exact fun h=>⟨hw,a,b,x,y,ha,hb,hx,hy,h⟩
  by_cases h1:x.aJ=total
  ·rw[if_pos (by simp[h1])]
   by_cases h2:x.aM=blind
   ·rw[if_pos (by simp[h2]),hy]
    simp only[Option.bind_some,fL]
    by_cases h3:y.bn = -1
    ·rw[if_pos (by simp[h3]),T.Iu]
     simp only[Option.bind_some]
     congr 1
     rw[decide_eq_decide,hiff]
     exact⟨fun h=>⟨h1,h2,h3,h⟩,fun h=>h.2.2.2⟩
    ·rw[if_neg (by simp[h3]),decide_eq_false (fun h=>h3 (hiff.1 h).2.2.1)]
   ·rw[if_neg (by simp[h2]),decide_eq_false (fun h=>h2 (hiff.1 h).2.1)]
  ·rw[if_neg (by simp[h1]),decide_eq_false (fun h=>h1 (hiff.1 h).1)]
 ·rw[if_pos (by simp[hw]),decide_eq_false (fun h:G2 l path total blind text value own=>hw h.1)]
def uq (l:List al) (root total blind:Int) (x:aN):Prop:=x.dO.head? = some root∧x.dO.getLast? = some x.ct∧G2 l x.dO total blind x.cI x.aJ x.aM
open Classical in
theorem TR {l:List al} {root total blind:Int} {x:aN} (hl:x.dO.length<4611686018427387904):ey ⟨⟨l⟩,root,total,blind⟩ x=some (decide (uq l root total blind x)):=by
 unfold ey
 by_cases hp:x.dO=[]
 ·rw[if_neg (by simp[hp]),decide_eq_false (fun h:uq l root total blind x=>by have:=h.1;rw[hp]at this;cases this)]
 ·have hpos:0<x.dO.length:=List.length_pos_iff.2 hp
  rw[if_pos (by simp;omega),J2]
  obtain⟨a,ha⟩:∃a,x.dO.head? = some a:=by cases h:x.dO with|nil=>exact absurd h hp|cons a l=>exact⟨a,rfl⟩
  obtain⟨b,hb⟩:∃b,x.dO.getLast? = some b:=⟨_,List.getLast?_eq_some_getLast hp⟩
  rw[ha]
  simp only[Option.bind_some]
  by_cases h1:a=root
  ·rw[if_pos (by simp[h1]),Ki hl,hb]
   simp only[Option.bind_some]
   by_cases h2:b=x.ct
   ·rw[if_pos (by simp[h2]),Sp hl]
    simp only[Option.bind_some]
    congr 1
    rw[decide_eq_decide]
    exact⟨fun h=>⟨by rw[ha,h1],by rw[hb,h2],h⟩,fun h=>h.2.2⟩
   ·rw[if_neg (by simp[h2]),decide_eq_false (fun h:uq l root total blind x=>h2 (by have:=h.2.1;rw[hb]at this;exact Option.some.inj this))]
  ·rw[if_neg (by simp[h1]),decide_eq_false (fun h:uq l root total blind x=>h1 (by have:=h.1;rw[ha]at this;exact Option.some.inj this))]
theorem XO {x y:Int} (hx:Ln x≤ff) (hy:Ln y≤ff):vk (dF x) (dF y)=some (dF (x*y),0):=by
 have hL:ff=4398046511104:=rfl
 have hLa:=mT x y
 unfold vk
 rw[gU (by omega),Option.bind_some]
 simp only[Bool.not_true,Bool.false_eq_true,if_false]
 rw[gU (by omega),Option.bind_some,Option.bind_some]
 simp only[Bool.not_true,Bool.false_eq_true,if_false]
 have hxd:(dF x).aa=aD x.natAbs:=rfl
 have hyd:(dF y).aa=aD y.natAbs:=rfl
 have hxs:(dF x).ag=x.sign:=rfl
 have hys:(dF y).ag=y.sign:=rfl
 rw[hxd,hyd,hxs,hys]
 have fx:(aD x.natAbs).length≤4398046511104:=by show Ln x≤_;omega
 have fy:(aD y.natAbs).length≤4398046511104:=by show Ln y≤_;omega
 have hw:IntKind.i64.wrap (x.sign*y.sign)=(x*y).sign:=by
  rw[Int.sign_mul]
  apply gH
  rcases j8 x with h|h|h<;>rcases j8 y with g|g|g<;>rw[h,g]<;>decide
 rw[hw,NT (cd _) (cd _) (by omega),Option.bind_some,bf,bf]
 have hn:((x.natAbs:Int)*y.natAbs).toNat=(x*y).natAbs:=by rw[Int.natAbs_mul,← Int.natCast_mul];rfl
 rw[hn,wU (x:=x*y) rfl (fun _=>rfl) (fun _=>by show Ln (x*y)≤_;omega),Option.bind_some]
theorem Bf {a b:Rat} (h:LF a+LF b≤ff):mL (lF a) (lF b)=some (Qg a b):=by
 have n1:=ti a
 have n2:=ti b
 have d1:=tf a
 have d2:=tf b
 have m1:=mT a.num b.den
 have m2:=mT b.num a.den
 have hL:ff=4398046511104:=rfl
 have hB:jJ=17592186043904:=rfl
 unfold mL
 rw[Bq (A1 (by omega)),y7,Option.bind_some]
 simp only[Bool.not_true,Bool.false_eq_true,if_false]
 rw[Bq (A1 (by omega)),y7,Option.bind_some,Option.bind_some]
 simp only[Bool.not_true,Bool.false_eq_true,if_false]
 show (vk (dF a.num) (dF b.den)).bind _=_
 rw[XO (by omega) (by omega),Option.bind_some]
 show (vk (dF b.num) (dF a.den)).bind _=_
 rw[XO (by omega) (by omega),Option.bind_some]
 show (mH (dF (a.num*b.den)) (dF (b.num*a.den))).bind _=_
 rw[Is (by omega) (by omega),Option.bind_some,ON]
def mW (f:aF):Prop:=f.bx.aa.length≤4∧f.bt.aa.length≤4
def sd (s:bK):Prop:=mW s.aH∧mW s.az
theorem mW.fit {f:aF} (h:mW f):P9 f:=by
 have hB:jJ=17592186043904:=rfl
 exact⟨by have:=h.1;omega,by have:=h.2;omega⟩
theorem mW.LF {q:Rat} (h:mW (lF q)):LF q≤4:=by
 have h1:Ln q.num≤4:=h.1
 have h2:Ln q.den≤4:=h.2
 unfold P.LF
 omega
theorem RH {n:Int} (h : -9223372036854775808≤n∧n<9223372036854775808):LF (n:Rat)≤5:=by
 have h1:Ln n≤5:=It (by
  have:pw 5=1267650600228229401496703205376:=by decide
  omega)
 have h2:=xh (x:=((1:Nat):Int)) (by decide)
 unfold P.LF
 rw[Rat.num_intCast,Rat.den_intCast]
 omega
theorem yK {a b:Rat} : decide (Qg a b≤0)=decide (a≤b):=by
 unfold Qg
 rw[decide_eq_decide]
 by_cases h1:a<b
 ·rw[if_pos h1];simp only[Int.reduceNeg,Int.reduceLE,true_iff];exact Rat.le_of_lt h1
 ·rw[if_neg h1]
  by_cases h2:b<a
  ·rw[if_pos h2];simp only[Int.reduceLE,false_iff];exact fun h=>absurd h2 (Rat.not_lt.2 h)
  ·rw[if_neg h2];simp only[Int.le_refl,true_iff];exact Rat.not_lt.1 h2
def sR (s:bK):Bool:=(dZ s).getD false
def sH (s:bK) (n:Int):Bool:=(iJ s (lF n)).getD false
def Zl (s:bK) (a b:Rat):Prop:=s.aH=lF a∧s.az=lF b∧a≤b
theorem zl {s:bK} (h:sd s):dZ s=some (sR s)∧vo s=some (sR s)∧(sR s=true↔∃a b,Zl s a b):=by
 have hL:ff=4398046511104:=rfl
 have key:∃c,dZ s=some c∧vo s=some c∧(c=true↔∃a b,Zl s a b):=by
  unfold dZ vo
  rw[tj h.1.fit,Bq h.1.fit]
  simp only[Option.bind_some]
  cases h1:okF s.aH with
  | false =>
   refine⟨false,by simp,by simp,by simp only[Bool.false_eq_true,false_iff];rintro⟨a,b,e,-⟩;rw[e,y7]at h1;cases h1⟩
  | true =>
   simp only[if_true]
   rw[tj h.2.fit,Bq h.2.fit]
   simp only[Option.bind_some]
   cases h2:okF s.az with
   | false =>
    refine⟨false,by simp,by simp,by simp only[Bool.false_eq_true,false_iff];rintro⟨a,b,-,e,-⟩;rw[e,y7]at h2;cases h2⟩
   | true =>
    obtain⟨a,ha⟩:=HP.1 h1
    obtain⟨b,hb⟩:=HP.1 h2
    have la:=mW.LF (ha ▸ h.1)
    have lb:=mW.LF (hb ▸ h.2)
    simp only[if_true]
    rw[ha,hb,oc (by omega),Bf (by omega)]
    simp only[Option.bind_some,yK]
    refine⟨_,rfl,rfl,?_⟩
    rw[decide_eq_true_eq]
    constructor
    ·exact fun hle=>⟨a,b,ha,hb,hle⟩
    ·rintro⟨a',b',e1,e2,e3⟩
     rw[vc (ha.symm.trans e1),vc (hb.symm.trans e2)]
     exact e3
 obtain⟨c,h1,h2,h3⟩:=key
 have:sR s=c:=by unfold sR;rw[h1];rfl
 rw[this]
 exact⟨h1,h2,h3⟩
theorem Pw {s:bK} (h:sd s) {n:Int} (hn : -9223372036854775808≤n∧n<9223372036854775808):iJ s (lF n)=some (sH s n)∧H8 s (lF n)=some (sH s n)∧(sH s n=true↔∃a b,Zl s a b∧a≤n∧(n:Rat)≤b):=by
 have hL:ff=4398046511104:=rfl
 have hB:jJ=17592186043904:=rfl
 obtain⟨r1,r2,r3⟩:=zl h
 have ln:=RH hn
 have key:∃c,iJ s (lF n)=some c∧H8 s (lF n)=some c∧(c=true↔∃a b,Zl s a b∧a≤n∧(n:Rat)≤b):=by
  unfold iJ H8
  rw[r1,r2]
  simp only[Option.bind_some]
  cases hr:sR s with
  | false =>
   refine⟨false,by simp,by simp,by simp only[Bool.false_eq_true,false_iff];rintro⟨a,b,hi,-⟩;have:=r3.2 ⟨a,b,hi⟩;rw[hr]at this;cases this⟩
  | true =>
   obtain⟨a,b,ha,hb,hle⟩:=r3.1 hr
   have la:=mW.LF (ha ▸ h.1)
   have lb:=mW.LF (hb ▸ h.2)
   simp only[if_true]
   rw[mr (by omega),Bq (A1 (by omega)),y7]
   simp only[Option.bind_some,if_true]
   rw[ha,hb,oc (by omega),Bf (by omega)]
   simp only[Option.bind_some,yK]
   by_cases h1:a≤n
   ·simp only[h1,decide_true,if_true]
    rw[oc (by omega),Bf (by omega)]
    simp only[Option.bind_some,yK]
    refine⟨_,rfl,rfl,?_⟩
    rw[decide_eq_true_eq]
    constructor
    ·exact fun h2=>⟨a,b,⟨ha,hb,hle⟩,h1,h2⟩
    ·rintro⟨a',b',⟨e1,e2,-⟩,-,e3⟩
     rw[vc (hb.symm.trans e2)]
     exact e3
   ·simp only[h1,decide_false,Bool.false_eq_true,if_false]
    refine⟨false,rfl,rfl,?_⟩
    simp only[Bool.false_eq_true,false_iff]
    rintro⟨a',b',⟨e1,-⟩,e3,-⟩
    rw[← vc (ha.symm.trans e1)]at e3
    exact h1 e3
 obtain⟨c,h1,h2,h3⟩:=key
 have:sH s n=c:=by unfold sH;rw[h1];rfl
 rw[this]
 exact⟨h1,h2,h3⟩
theorem X1 (s:bK):∃b,rU s 4=some b∧(b=true↔sd s):=by
 unfold rU
 rw[X3]
 simp only[Option.bind_some]
 by_cases h:((s.aH.bx.aa.length:Int)≤4∧(s.aH.bt.aa.length:Int)≤4)
 ·rw[if_pos (by simp[h]),X3]
  refine⟨_,rfl,?_⟩
  rw[decide_eq_true_eq]
  exact⟨fun h2=>⟨⟨by omega,by omega⟩,⟨by omega,by omega⟩⟩,fun h2=>⟨by have:=h2.2.1;omega,by have:=h2.2.2;omega⟩⟩
 ·rw[if_neg (by simpa using h)]
  refine⟨false,rfl,?_⟩
  simp only[Bool.false_eq_true,false_iff]
  exact fun h2=>h ⟨by have:=h2.1.1;omega,by have:=h2.1.2;omega⟩
theorem rm {α:Type} (q:α→Bool):∀(l:List α) (k:Nat),(l.find? q=none∧gR (fun i x=>if q x then some ((i:Nat):Int) else none) k l=none)∨∃(j:Nat) (x:α),l.find? q=some x∧l[j]? = some x∧gR (fun i x=>if q x then some ((i:Nat):Int) else none) k l=some ((k+j:Nat):Int)
 | [],k =>.inl ⟨rfl,rfl⟩
 | x::l,k=>by
  by_cases h:q x=true
  ·refine .inr ⟨0,x,by simp[h],rfl,?_⟩
   simp only[gR]
   rw[if_pos h]
   rfl
  ·have hf:(x::l).find? q=l.find? q:=by rw[List.find?_cons_of_neg h]
   have hs:gR (fun i x=>if q x then some ((i:Nat):Int) else none) k (x::l)=gR (fun i x=>if q x then some ((i:Nat):Int) else none) (k+1) l:=by
    simp only[gR]
    rw[if_neg h]
   rw[hf,hs]
   rcases rm q l (k+1) with h1|⟨j,y,h1,h2,h3⟩
   ·exact .inl h1
   ·exact .inr ⟨j+1,y,h1,by simpa using h2,by rw[h3];congr 2;omega⟩
theorem S8 {ops:List aN} (hl:ops.length<4611686018427387904) (leaf:Int):a7 ops leaf=some (match gR (fun i x=>if (x.ct==leaf:Bool) then some ((i:Nat):Int) else none) 0 ops with|none => -1|some r=>r):=by
 unfold a7
 rw[LC ops (fun i x=>if (x.ct==leaf:Bool) then some ((i:Nat):Int) else none) hl (fun i x hx=>by
  have hi:=(List.getElem?_eq_some_iff.1 hx).1
  simp only[ca,ee]
  rw[if_pos (by simp;omega),bC hx]
  simp only[Option.bind_some]
  by_cases h:(x.ct==leaf)=true
  ·rw[if_pos h,if_pos h]
  ·rw[if_neg h,if_neg h,dw (by omega)]) (by simp only[ca];rw[if_neg (by simp)])]
 simp only[Option.bind_some]
 split<;>rename_i h<;>split at h<;>simp_all
def off (ms:List aB) (leaf value:Int):Bool:=ms.any fun m=>m.ct==leaf && !sH m.bP value
def To (ms:List aB):Prop:=ms.length<4611686018427387904∧∀m∈ms,sd m.bP
theorem contains_eq {ms:List aB} (h:To ms) (leaf:Int) {value:Int} (hv : -9223372036854775808≤value∧value<9223372036854775808):a6 ms leaf (lF value)=some (off ms leaf value):=by
 unfold a6 bE
 rw[LC ms (fun i m=>if (m.ct==leaf && !sH m.bP value:Bool) then some ((i:Nat):Int) else none) h.1 (fun i x hx=>by
  have hi:=(List.getElem?_eq_some_iff.1 hx).1
  have:=h.1
  simp only[cm,ef]
  rw[if_pos (by simp;omega),bC hx]
  simp only[Option.bind_some]
  rw[(Pw (h.2 x (List.mem_of_getElem? hx)) hv).1]
  by_cases h1:(x.ct==leaf)=true
  ·simp only[h1,if_true,Option.bind_some,Bool.true_and]
   cases sH x.bP value<;>simp[dw (show i<4611686018427387904 by omega)]
  ·simp only[h1,Bool.false_eq_true,if_false,Option.bind_some,Bool.false_and]
   rw[dw (by omega)]) (by simp only[cm];rw[if_neg (by simp)])]
 simp only[Option.bind_some]
 rcases rm (fun m:aB=>m.ct==leaf && !sH m.bP value) ms 0 with⟨h1,h2⟩|⟨j,x,h1,h2,h3⟩
 ·rw[h2]
  simp only[Option.bind_some]
  have:off ms leaf value=false:=by
   unfold off
   rw[List.any_eq_false]
   intro m hm
   have:=List.find?_eq_none.1 h1 m hm
   simpa using this
  rw[this];rfl
 ·rw[h3]
  simp only[Option.bind_some]
  have:off ms leaf value=true:=by
   unfold off
   rw[List.any_eq_true]
   exact⟨x,List.mem_of_getElem? h2,by simpa using List.find?_some h1⟩
  rw[this]
  congr 1
open Classical in
noncomputable def pQ (l:List al) (root total blind leaf:Int) (ops:List aN) (ms:List aB):Int :=
 match ops.find? fun x=>x.ct==leaf with
 | none=>0
 | some x=>if uq l root total blind x then (if off ms leaf x.aJ then 2 else -1) else 1
def TC (ops:List aN):Prop:=ops.length<4611686018427387904∧∀x∈ops,x.dO.length<4611686018427387904 ∧ -9223372036854775808≤x.aJ∧x.aJ<9223372036854775808
theorem Q9 {ops:List aN} {ms:List aB} (ho:TC ops) (hm:To ms) (l:List al) (root total blind leaf:Int):dY ⟨⟨l⟩,root,total,blind⟩ leaf ops ms=some (pQ l root total blind leaf ops ms):=by
 unfold dY pQ
 rw[S8 ho.1]
 simp only[Option.bind_some]
 rcases rm (fun x:aN=>x.ct==leaf) ops 0 with⟨h1,h2⟩|⟨j,x,h1,h2,h3⟩
 ·rw[h2,h1];rfl
 ·rw[h3,h1]
  have hox:=ho.2 x (List.mem_of_getElem? h2)
  simp only[Nat.zero_add]
  rw[if_neg (by simp),bC h2]
  simp only[Option.bind_some]
  rw[TR hox.1]
  simp only[Option.bind_some]
  by_cases hs:uq l root total blind x
  ·rw[if_neg (by simp[hs]),if_pos hs,XM hox.2]
   simp only[Option.bind_some]
   rw[contains_eq hm leaf hox.2]
   simp only[Option.bind_some]
   cases off ms leaf x.aJ<;>rfl
  ·rw[if_pos (by simp[hs]),if_neg hs]
noncomputable def tM (l:List al) (root total blind:Int) (ops:List aN) (ms:List aB) (leaf:Int):Option bp :=
 if pQ l root total blind leaf ops ms = -1 then none else some ⟨leaf,pQ l root total blind leaf ops ms⟩
open Classical in
noncomputable def MR (l:List al) (root total blind:Int) (asked:List Int) (ops:List aN) (ms:List aB):List bp×Int :=
 if dt l∧0≤root∧root<l.length then (if ms.all fun m=>sR m.bP then (if asked.Nodup then (asked.filterMap (tM l root total blind ops ms),0) else ([],5)) else ([],1)) else ([],1)
theorem Cl {α β:Type} (f:α→Option β) {l:List α} {i:Nat} {x:α} (h:l[i]? = some x):(l.take (i+1)).filterMap f=(l.take i).filterMap f++(f x).toList:=by
 obtain⟨hi,rfl⟩:=List.getElem?_eq_some_iff.1 h
 rw[List.take_succ_eq_append_getElem hi,List.filterMap_append]
 congr 1
theorem Ra {ms:List aB} (h:To ms):aG ms=some (!(ms.all fun m=>sR m.bP)):=by
 unfold aG cj
 rw[LC ms (fun i m=>if (!sR m.bP:Bool) then some ((i:Nat):Int) else none) h.1 (fun i x hx=>by
  have hi:=(List.getElem?_eq_some_iff.1 hx).1
  have:=h.1
  simp only[cR,iL]
  rw[if_pos (by simp;omega),bC hx]
  simp only[Option.bind_some]
  rw[(zl (h.2 x (List.mem_of_getElem? hx))).1]
  simp only[Option.bind_some]
  cases sR x.bP<;>simp[dw (show i<4611686018427387904 by omega)]) (by simp only[cR];rw[if_neg (by simp)])]
 simp only[Option.bind_some]
 rcases rm (fun m:aB => !sR m.bP) ms 0 with⟨h1,h2⟩|⟨j,x,h1,h2,h3⟩
 ·rw[h2]
  have:(ms.all fun m=>sR m.bP)=true:=by
   rw[List.all_eq_true]
   intro m hm
   have:=List.find?_eq_none.1 h1 m hm
   simpa using this
  rw[this];rfl
 ·rw[h3]
  have:(ms.all fun m=>sR m.bP)=false:=by
   rw[List.all_eq_false]
   exact⟨x,List.mem_of_getElem? h2,by simpa using List.find?_some h1⟩
  rw[this]
  simp
open Classical in
theorem Tb {ops:List aN} {ms:List aB} {asked:List Int} (ho:TC ops) (hm:To ms) (ha:asked.length≤1000000) (l:List al) (root total blind:Int):eK ⟨l⟩ root total blind asked ops ms=some (MR l root total blind asked ops ms):=by
 unfold eK MR
 obtain⟨b,hb,hs⟩:=T.mu ⟨l⟩
 rw[hb]
 simp only[Option.bind_some]
 have hgo:∀c:Bool,(c=false↔(dt l∧0≤root∧root<l.length))→(if c then some (([]:List bp),(1:Int)) else (aG ms).bind fun r4=>if r4 then some ([],1) else (gj asked).bind fun r6=>if r6 then some ([],5) else (aV (ew ⟨l⟩ root total blind asked ops ms) (0,[])).bind fun l17bx=>some (l17bx,0))=some (if dt l∧0≤root∧root<l.length then (if ms.all fun m=>sR m.bP then (if asked.Nodup then (asked.filterMap (tM l root total blind ops ms),0) else ([],5)) else ([],1)) else ([],1)):=by
  intro c hc
  cases c with
  | true =>
   rw[if_pos rfl,if_neg (fun h=>absurd (hc.2 h) (by simp))]
  | false =>
   rw[if_neg (by simp),if_pos (hc.1 rfl),Ra hm]
   simp only[Option.bind_some]
   cases hall:ms.all fun m=>sR m.bP with
   | false=>simp
   | true =>
    simp only[Bool.not_true,Bool.false_eq_true,if_false,if_true]
    rw[zn (by omega)]
    simp only[Option.bind_some]
    by_cases hn:asked.Nodup
    ·rw[if_neg (by simp[hn]),if_pos hn]
     have hloop:=GO (body:=ew ⟨l⟩ root total blind asked ops ms) asked.length (fun i=>((i:Int),(asked.take i).filterMap (tM l root total blind ops ms))) (r:=asked.filterMap (tM l root total blind ops ms)) (by omega) (fun i hi=>by
      have hx:asked[i]? = some asked[i]:=List.getElem?_eq_getElem hi
      simp only[ew]
      rw[if_pos (by simp;omega),bC hx]
      simp only[Option.bind_some]
      rw[Q9 ho hm]
      simp only[Option.bind_some]
      rw[Cl _ hx]
      have hlen:((asked.take i).filterMap (tM l root total blind ops ms)).length≤1000000-1:=by
       have h1:=List.length_filterMap_le (tM l root total blind ops ms) (asked.take i)
       have h2:(asked.take i).length≤i:=by simp;omega
       omega
      by_cases hr:pQ l root total blind asked[i] ops ms = -1
      ·rw[if_neg (by simp[hr])]
       simp only[tM,hr,if_true,Option.toList_none,List.append_nil]
       rw[dw (by omega)]
      ·rw[if_pos (by simp[hr]),mU (by simp;omega) (by decide)]
       simp only[Option.bind_some]
       rw[show tM l root total blind ops ms asked[i]=some ⟨asked[i],pQ l root total blind asked[i] ops ms⟩ from if_neg hr,dw (by omega)]
       rfl) (by
      simp only[ew]
      rw[if_neg (by simp),List.take_length])
     have hloop':aV (ew ⟨l⟩ root total blind asked ops ms) (0,[])=some (asked.filterMap (tM l root total blind ops ms)):=hloop
     rw[hloop']
     rfl
    ·rw[if_pos (by simp[hn]),if_neg hn]
 cases b with
 | false =>
  have:¬dt l:=fun h=>absurd (hs.2 h) (by simp)
  exact hgo true ⟨fun h=>(by cases h),fun h=>absurd h.1 this⟩
 | true =>
  have hsd:=hs.1 rfl
  simp only[Bool.not_true,Bool.false_eq_true,if_false]
  by_cases h1:root<0
  ·rw[if_pos (by simp[h1])]
   exact hgo true ⟨fun h=>(by cases h),fun h=>(by omega)⟩
  ·rw[if_neg (by simp;omega)]
   refine hgo _ ?_
   rw[decide_eq_false_iff_not]
   exact⟨fun h=>⟨hsd,by omega,by omega⟩,fun h=>by omega⟩
theorem Cm (x y:bp):((x.ct==y.ct)&&(x.kS==y.kS))=true↔x=y:=by
 obtain⟨x1,x2⟩:=x
 obtain⟨y1,y2⟩:=y
 simp
open Classical in
theorem Xj {a b:List bp} (ha:a.length<4611686018427387904):oS a b=some (decide (a=b)):=by
 unfold oS
 by_cases hl:a.length=b.length
 ·rw[if_neg (by simp[hl])]
  have hloop:=allI a (body:=mM a b) (fun i x=>b[i]? = some x) false ha (fun i x hx _=>by
    have hi:=(List.getElem?_eq_some_iff.1 hx).1
    have hb:b[i]? = some (b[i]'(by omega)):=List.getElem?_eq_getElem _
    simp only[mM]
    rw[if_pos (by simp;omega),bC hx,bC hb]
    simp only[Option.bind_some]
    by_cases h:x=b[i]'(by omega)
    ·rw[if_neg (by rw[(Cm x _).2 h];decide),if_pos (by rw[hb,h]),dw (by omega)]
    ·have:((x.ct==(b[i]'(by omega)).ct)&&(x.kS==(b[i]'(by omega)).kS))=false:=by
      rw[Bool.eq_false_iff]
      exact fun hq=>h ((Cm _ _).1 hq)
     rw[this,if_pos (by decide),if_neg (fun hq=>h (by rw[hb]at hq;exact (Option.some.inj hq).symm))]) (by simp only[mM];rw[if_neg (by simp)])
  rcases hloop with⟨h,he⟩|⟨h,he⟩
  ·rw[he]
   simp only[Option.bind_some]
   have:a=b:=by
    apply List.ext_getElem hl
    intro i h1 h2
    have:=h i a[i] (List.getElem?_eq_getElem h1)
    rw[List.getElem?_eq_getElem h2]at this
    exact (Option.some.inj this).symm
   rw[decide_eq_true this]
  ·rw[he]
   simp only[Option.bind_some]
   have:¬a=b:=by
    rintro rfl
    exact h fun i x hx=>hx
   rw[decide_eq_false this]
 ·rw[if_pos (by simp;omega),decide_eq_false (fun h=>hl (by rw[h]))]
def Rx:List al:=[⟨⟨#[97]⟩,30,7,-1,-1⟩,⟨⟨#[98]⟩,20,8,-1,-1⟩,⟨⟨#[99]⟩,10,9,-1,-1⟩,⟨⟨#[]⟩,50,15,0,1⟩,⟨⟨#[]⟩,60,24,3,2⟩]
theorem SN:iA ⟨[]⟩ [ByteArray.mk #[97],ByteArray.mk #[98],ByteArray.mk #[99]] [30,20,10] [7,8,9]=some (⟨Rx⟩,4,[0,1,2],0):=by kernel_rfl
def L7 (n:Int):aF:=⟨⟨1,[n]⟩,⟨1,[1]⟩⟩
theorem Ck:fe 19 21=some ⟨L7 19,L7 21⟩∧fe 21 22=some ⟨L7 21,L7 22⟩:=⟨by kernel_rfl,by kernel_rfl⟩
def ZX (n:Int):List aN:=[⟨1,[4,3,1],⟨#[98]⟩,n,8⟩]
theorem JC:du ⟨Rx⟩=some true:=by kernel_rfl
theorem JB {asked:List Int} {ops:List aN} {ms:List aB} {b:Bool} {out:List bp} (h1:aG ms=some false) (h2:asked.length≤10) (h3:b=decide (¬asked.Nodup)) (h4:b=false→aV (ew ⟨Rx⟩ 4 60 24 asked ops ms) (0,[])=some out):eK ⟨Rx⟩ 4 60 24 asked ops ms=some (if b then ([],5) else (out,0)):=by
 unfold eK
 rw[JC]
 simp only[Option.bind_some,Bool.not_true,Bool.false_eq_true,if_false]
 rw[if_neg (by decide)]
 simp only[Option.bind_some]
 rw[if_neg (by decide),h1]
 simp only[Option.bind_some,Bool.false_eq_true,if_false]
 rw[zn (by omega),← h3]
 simp only[Option.bind_some]
 cases b with
 | true=>rfl
 | false =>
  simp only[Bool.false_eq_true,if_false]
  rw[h4 rfl]
  rfl
theorem A6 {asked:List Int} {n:Int} {ms:List aB} {out want:List bp} (h1:aG ms=some false) (h2:asked.length≤10) (h3:asked.Nodup) (h4:aV (ew ⟨Rx⟩ 4 60 24 asked (ZX n) ms) (0,[])=some out) (h5:out=want) (h6:out.length<10):jN ⟨Rx⟩ asked n ms want=some true:=by
 unfold jN
 have:=JB (b:=false) h1 h2 (by simp[h3]) (fun _=>h4)
 unfold ZX at this
 rw[this]
 simp only[Bool.false_eq_true,if_false,Option.bind_some,beq_self_eq_true,if_true]
 rw[Xj (by omega)]
 simp[h5]
theorem TS:lL=some true:=by
 have hsd:dt Rx:=by
  obtain⟨b,hb,hs⟩:=T.mu ⟨Rx⟩
  rw[JC]at hb
  cases hb
  exact hs.1 rfl
 have wf20:XI [2,0]:=fun x hx=>by simp at hx;omega
 have hs:(UB [2,0]).size≤5000:=UC wf20 (by simp)
 have hL:=US hsd (by decide) (t:=UB [2,0]) (by omega) (b:=5) (by omega)
 have hsd2:dt (Rx++[al.mk (UB [2,0]) 0 5 (-1) (-1)]):=LH hsd (by decide) ⟨rfl,rfl,by simp only;omega,⟨by simp,by simp⟩,⟨by simp,by simp⟩⟩
 have hT:tp [[2,0]] 3 2=[2,0]:=by decide
 have hO:kA ⟨Rx++[al.mk (UB [2,0]) 0 5 (-1) (-1)]⟩ [5] [[2,0]] [5] 3 2=some ([2,0],0):=by
  rw[T.UT (by simp) (fun r hr=>by simp at hr;subst hr;exact⟨by simp,wf20⟩) (by simp)]
  unfold TB
  rw[if_pos (VO (by omega) (by simp) (ZM (by omega))),if_neg (by simp),if_neg (by simp),if_pos]
  ·rw[← hT];rfl
  ·intro i x hx
   match i with
   | 0 =>
    simp at hx;subst hx
    exact⟨hsd2,_,rfl,rfl,rfl,rfl⟩
   | i+1=>simp at hx
 have hD:jf ⟨Rx++[al.mk (UB [2,0]) 0 5 (-1) (-1)]⟩ [5] [[2,0]] [5] [0,1,2] 2=some ([2,0],0):=by
  unfold jf
  rw[show (([0,1,2]:List Int).length:Int)=3 by rfl,hO]
  simp only[Option.bind_some]
  rw[if_neg (by decide),zn (by decide)]
  simp only[Option.bind_some]
  rw[if_neg (by decide),show oh [2,0] 3=some ([2,0],0) by kernel_rfl]
  simp only[Option.bind_some]
  rw[show aV (ou [0,1,2] ([2,0],0)) (0,[])=some [2,0] by kernel_rfl]
  rfl
 have c1:aG [⟨1,⟨L7 19,L7 21⟩⟩]=some false:=by kernel_rfl
 have c2:aG []=some false:=by kernel_rfl
 have c3:aG [⟨1,⟨L7 19,L7 21⟩⟩,⟨1,⟨L7 21,L7 22⟩⟩]=some false:=by kernel_rfl
 have s1:=A6 (asked:=[1]) (n:=20) (ms:=[⟨1,⟨L7 19,L7 21⟩⟩]) (out:=[]) (want:=[]) c1 (by decide) (by decide) (by kernel_rfl) rfl (by decide)
 have s2:=A6 (asked:=[1,2]) (n:=20) (ms:=[]) (out:=[⟨2,0⟩]) (want:=[⟨2,0⟩]) c2 (by decide) (by decide) (by kernel_rfl) rfl (by decide)
 have s3:=A6 (asked:=[1]) (n:=21) (ms:=[]) (out:=[⟨1,1⟩]) (want:=[⟨1,1⟩]) c2 (by decide) (by decide) (by kernel_rfl) rfl (by decide)
 have s4:=A6 (asked:=[1]) (n:=20) (ms:=[⟨1,⟨L7 19,L7 21⟩⟩,⟨1,⟨L7 21,L7 22⟩⟩]) (out:=[⟨1,2⟩]) (want:=[⟨1,2⟩]) c3 (by decide) (by decide) (by kernel_rfl) rfl (by decide)
 have j1:=JB (asked:=[1,1]) (ops:=[]) (ms:=[]) (b:=true) (out:=[]) c2 (by decide) (by decide) (fun h=>by cases h)
 have hI:gB [0,1,2] [0,1,2]=some true:=by kernel_rfl
 have hI2:gB [2,0] [2,0]=some true:=by kernel_rfl
 unfold lL
 rw[SN]
 simp only[Option.bind_some]
 rw[if_neg (by decide),if_neg (by decide),hI]
 simp only[Option.bind_some,Bool.not_true,Bool.false_eq_true,if_false]
 rw[Ck.1,Ck.2]
 simp only[Option.bind_some]
 rw[s1,s2,s3,s4,j1,T.Oe wf20 (by simp)]
 simp only[Option.bind_some,if_true]
 rw[hL]
 simp only[Option.bind_some]
 rw[show ((Rx.length:Nat):Int)=5 by rfl,hD]
 simp only[Option.bind_some]
 rw[if_pos (by decide),if_pos (by decide),if_pos (by decide),hI2]
 rfl
end Go.Proofs.YtpkahnkoecbndaaGreatDoor.P
