/- Part of a proof, made small by a program (wip/mini.py). -/
import Derived.Test.YtpkahnkoecbndaaGreatDoorZe
namespace Go.Proofs.YtpkahnkoecbndaaGreatDoor.Am
open Go.RowKit Go.Proofs.YtpkahnkoecbndaaGreatDoor.P
set_option maxRecDepth 100000
set_option maxHeartbeats 4000000
set_option linter.unusedSimpArgs false
set_option linter.unusedVariables false
theorem JK (r:Bool) (hh:lq=some r):aX .clean tab rY FU Tryz.f9 none []=some (.clean (.bool r),none):=by
 refine ay rfl Tryz.ntmps9 Tryz.results9 ?_
 unfold lq at hh
 have i1:=qu ([]) ([ByteArray.mk #[97],ByteArray.mk #[98],ByteArray.mk #[99]]) ([30,20,10]) ([7,8,9])
 simp only [aS,cl,List.length_cons,List.length_nil,Nat.zero_add,Nat.reduceAdd,List.length_set] at i1
 obtain ⟨r2,hr2,hh⟩:=ae hh
 try simp only [bh,seval,-Int.reduceToNat,i1,hr2]
 obtain ⟨o3,ho3,hh⟩:=ae hh
 refine bV 0 (fun s t H e=>match s with | s37j1=>∃ v1j1:Nat,t 1 = .ptr 1 v1j1 0∧t 3 = .sl false false r2.2.2.1.length (ab (eI .i64) r2.2.2.1)∧t 37 = .bool s37j1∧H 1=some ⟨v1j1,24,[.sl false false r2.1.ah.length (ab aq r2.1.ah)],false,false,false⟩) (fun s=>s=o3) ?_ ?_
 ·rintro s37j1 t H e ⟨v1j1,t1j1,t3j1,t37j1,H1j1⟩ rfl
  try dsimp only at hh
  try simp only [bh,seval,-Int.reduceToNat,i1,hr2,t1j1,t3j1,t37j1,H1j1]
  refine ai (fun hb4 => ?_) (fun hb4 => ?_)
  ·replace hh:=ak hb4 hh
   cases hh
   try simp only [bh,seval,-Int.reduceToNat,i1,hr2,t1j1,t3j1,t37j1,H1j1]
  ·replace hh:=aj hb4 hh
   obtain ⟨r5,hr5,hh⟩:=ae hh
   obtain ⟨r6,hr6,hh⟩:=ae hh
   have i7:=lv r2.1.ah ([1]) 20 ([(az.mk 1 r5)]) ([])
   simp only [aS,cl,List.length_cons,List.length_nil,Nat.zero_add,Nat.reduceAdd,List.length_set] at i7
   obtain ⟨r8,hr8,hh⟩:=ae hh
   try simp only [bh,seval,-Int.reduceToNat,i1,hr2,t1j1,t3j1,t37j1,H1j1,hr5,hr6,i7,hr8]
   obtain ⟨o9,ho9,hh⟩:=ae hh
   refine bV 0 (fun s t H e=>match s with | s7j2=>∃ v1j2:Nat,∃ v5j2:Nat,∃ v6j2:Nat,t 1 = .ptr 1 v1j2 0∧t 3 = .sl false false r2.2.2.1.length (ab (eI .i64) r2.2.2.1)∧t 5 = .ptr 5 v5j2 0∧t 6 = .ptr 6 v6j2 0∧t 7 = .bool s7j2∧H 1=some ⟨v1j2,24,[.sl false false r2.1.ah.length (ab aq r2.1.ah)],false,false,false⟩∧H 5=some ⟨v5j2,55,[.int .i64 1,.int .i64 r5.bx.cr.ag,.sl false false r5.bx.cr.aa.length (ab (eI .i64) r5.bx.cr.aa),.int .i64 r5.bx.cq.ag,.sl false false r5.bx.cq.aa.length (ab (eI .i64) r5.bx.cq.aa),.int .i64 r5.aT.cr.ag,.sl false false r5.aT.cr.aa.length (ab (eI .i64) r5.aT.cr.aa),.int .i64 r5.aT.cq.ag,.sl false false r5.aT.cq.aa.length (ab (eI .i64) r5.aT.cq.aa)],false,false,false⟩∧H 6=some ⟨v6j2,55,[.int .i64 1,.int .i64 r6.bx.cr.ag,.sl false false r6.bx.cr.aa.length (ab (eI .i64) r6.bx.cr.aa),.int .i64 r6.bx.cq.ag,.sl false false r6.bx.cq.aa.length (ab (eI .i64) r6.bx.cq.aa),.int .i64 r6.aT.cr.ag,.sl false false r6.aT.cr.aa.length (ab (eI .i64) r6.aT.cr.aa),.int .i64 r6.aT.cq.ag,.sl false false r6.aT.cq.aa.length (ab (eI .i64) r6.aT.cq.aa)],false,false,false⟩) (fun s=>s=o9) ?_ ?_
   ·rintro s7j2 t H e ⟨v1j2,v5j2,v6j2,t1j2,t3j2,t5j2,t6j2,t7j2,H1j2,H5j2,H6j2⟩ rfl
    try dsimp only at hh
    have i10:=lv r2.1.ah ([1]) 20 ([(az.mk 1 r5),(az.mk 1 r6)]) ([(bB.mk 1 2)])
    simp only [aS,cl,List.length_cons,List.length_nil,Nat.zero_add,Nat.reduceAdd,List.length_set] at i10
    obtain ⟨r11,hr11,hh⟩:=ae hh
    have i12:=eN r2.1.ah 4 60 24 ([1,1]) ([]) ([])
    simp only [aS,cl,List.length_cons,List.length_nil,Nat.zero_add,Nat.reduceAdd,List.length_set] at i12
    obtain ⟨r13,hr13,hh⟩:=ae hh
    have i14:=lV ([2,0])
    simp only [aS,cl,List.length_cons,List.length_nil,Nat.zero_add,Nat.reduceAdd,List.length_set] at i14
    obtain ⟨r15,hr15,hh⟩:=ae hh
    obtain ⟨r16,hr16,hh⟩:=ae hh
    try simp only [bh,seval,-Int.reduceToNat,i1,hr2,hr5,hr6,i7,hr8,t1j2,t3j2,t5j2,t6j2,t7j2,H1j2,H5j2,H6j2,i10,hr11,i12,hr13,i14,hr15,hr16]
    refine cI (by kernel_rfl) ?_
    have i17:=oP r16.1.ah ([r16.2.1]) ([[2,0]]) ([5]) r2.2.2.1 2
    simp only [aS,cl,List.length_cons,List.length_nil,Nat.zero_add,Nat.reduceAdd,List.length_set] at i17
    obtain ⟨r18,hr18,hh⟩:=ae hh
    try simp only [bh,seval,-Int.reduceToNat,i1,hr2,hr5,hr6,i7,hr8,t1j2,t3j2,t5j2,t6j2,t7j2,H1j2,H5j2,H6j2,i10,hr11,i12,hr13,i14,hr15,hr16,i17,hr18]
    refine bK (fun hb19 => ?_) (fun hb19 => ?_)
    ·replace hh:=ak hb19 hh
     try simp only [bh,seval,-Int.reduceToNat,i1,hr2,hr5,hr6,i7,hr8,t1j2,t3j2,t5j2,t6j2,t7j2,H1j2,H5j2,H6j2,i10,hr11,i12,hr13,i14,hr15,hr16,i17,hr18]
     refine bK (fun hb20 => ?_) (fun hb20 => ?_)
     ·replace hh:=ak hb20 hh
      try simp only [bh,seval,-Int.reduceToNat,i1,hr2,hr5,hr6,i7,hr8,t1j2,t3j2,t5j2,t6j2,t7j2,H1j2,H5j2,H6j2,i10,hr11,i12,hr13,i14,hr15,hr16,i17,hr18]
      refine bK (fun hb21 => ?_) (fun hb21 => ?_)
      ·replace hh:=ak hb21 hh
       try simp only [bh,seval,-Int.reduceToNat,i1,hr2,hr5,hr6,i7,hr8,t1j2,t3j2,t5j2,t6j2,t7j2,H1j2,H5j2,H6j2,i10,hr11,i12,hr13,i14,hr15,hr16,i17,hr18]
       refine bK (fun hb22 => ?_) (fun hb22 => ?_)
       ·replace hh:=ak hb22 hh
        try simp only [bh,seval,-Int.reduceToNat,i1,hr2,hr5,hr6,i7,hr8,t1j2,t3j2,t5j2,t6j2,t7j2,H1j2,H5j2,H6j2,i10,hr11,i12,hr13,i14,hr15,hr16,i17,hr18]
        refine bK (fun hb23 => ?_) (fun hb23 => ?_)
        ·replace hh:=ak hb23 hh
         have i24:=kJ r18.1 ([2,0])
         simp only [aS,cl,List.length_cons,List.length_nil,Nat.zero_add,Nat.reduceAdd,List.length_set] at i24
         obtain ⟨r25,hr25,hh⟩:=ae hh
         cases hh
         try simp only [bh,seval,-Int.reduceToNat,i1,hr2,hr5,hr6,i7,hr8,t1j2,t3j2,t5j2,t6j2,t7j2,H1j2,H5j2,H6j2,i10,hr11,i12,hr13,i14,hr15,hr16,i17,hr18,i24,hr25]
        ·replace hh:=aj hb23 hh
         cases hh
         try simp only [bh,seval,-Int.reduceToNat,i1,hr2,hr5,hr6,i7,hr8,t1j2,t3j2,t5j2,t6j2,t7j2,H1j2,H5j2,H6j2,i10,hr11,i12,hr13,i14,hr15,hr16,i17,hr18]
       ·replace hh:=aj hb22 hh
        cases hh
        try simp only [bh,seval,-Int.reduceToNat,i1,hr2,hr5,hr6,i7,hr8,t1j2,t3j2,t5j2,t6j2,t7j2,H1j2,H5j2,H6j2,i10,hr11,i12,hr13,i14,hr15,hr16,i17,hr18]
      ·replace hh:=aj hb21 hh
       cases hh
       try simp only [bh,seval,-Int.reduceToNat,i1,hr2,hr5,hr6,i7,hr8,t1j2,t3j2,t5j2,t6j2,t7j2,H1j2,H5j2,H6j2,i10,hr11,i12,hr13,i14,hr15,hr16,i17,hr18]
     ·replace hh:=aj hb20 hh
      cases hh
      try simp only [bh,seval,-Int.reduceToNat,i1,hr2,hr5,hr6,i7,hr8,t1j2,t3j2,t5j2,t6j2,t7j2,H1j2,H5j2,H6j2,i10,hr11,i12,hr13,i14,hr15,hr16,i17,hr18]
    ·replace hh:=aj hb19 hh
     cases hh
     try simp only [bh,seval,-Int.reduceToNat,i1,hr2,hr5,hr6,i7,hr8,t1j2,t3j2,t5j2,t6j2,t7j2,H1j2,H5j2,H6j2,i10,hr11,i12,hr13,i14,hr15,hr16,i17,hr18]
   ·
    clear hh
    have hh:=ho9
    try simp only [bh,seval,-Int.reduceToNat,i1,hr2,t1j1,t3j1,t37j1,H1j1,hr5,hr6,i7,hr8]
    refine bK (fun hb26 => ?_) (fun hb26 => ?_)
    ·replace hh:=ak hb26 hh
     have i27:=lv r2.1.ah ([1,2]) 20 ([]) ([(bB.mk 2 0)])
     simp only [aS,cl,List.length_cons,List.length_nil,Nat.zero_add,Nat.reduceAdd,List.length_set] at i27
     obtain ⟨r28,hr28,hh⟩:=ae hh
     try simp only [bh,seval,-Int.reduceToNat,i1,hr2,t1j1,t3j1,t37j1,H1j1,hr5,hr6,i7,hr8,i27,hr28]
     refine bK (fun hb29 => ?_) (fun hb29 => ?_)
     ·replace hh:=ak hb29 hh
      have i30:=lv r2.1.ah ([1]) 21 ([]) ([(bB.mk 1 1)])
      simp only [aS,cl,List.length_cons,List.length_nil,Nat.zero_add,Nat.reduceAdd,List.length_set] at i30
      obtain ⟨r31,hr31,hh⟩:=ae hh
      cases hh
      try simp only [bh,seval,-Int.reduceToNat,i1,hr2,t1j1,t3j1,t37j1,H1j1,hr5,hr6,i7,hr8,i27,hr28,i30,hr31]
      rw [an]
      refine ⟨_,rfl,?_⟩
      refine ⟨v1j1,e,e+1,?_,?_,?_,?_,?_,?_,?_,?_⟩
      all_goals (first | rfl | (simp only [bh,seval,-Int.reduceToNat,i1,hr2,t1j1,t3j1,t37j1,H1j1,hr5,hr6,i7,hr8,i27,hr28,i30,hr31] <;> rfl))
     ·replace hh:=aj hb29 hh
      cases hh
      try simp only [bh,seval,-Int.reduceToNat,i1,hr2,t1j1,t3j1,t37j1,H1j1,hr5,hr6,i7,hr8,i27,hr28]
      rw [an]
      refine ⟨_,rfl,?_⟩
      refine ⟨v1j1,e,e+1,?_,?_,?_,?_,?_,?_,?_,?_⟩
      all_goals (first | rfl | (simp only [bh,seval,-Int.reduceToNat,i1,hr2,t1j1,t3j1,t37j1,H1j1,hr5,hr6,i7,hr8,i27,hr28] <;> rfl))
    ·replace hh:=aj hb26 hh
     cases hh
     try simp only [bh,seval,-Int.reduceToNat,i1,hr2,t1j1,t3j1,t37j1,H1j1,hr5,hr6,i7,hr8]
     rw [an]
     refine ⟨_,rfl,?_⟩
     refine ⟨v1j1,e,e+1,?_,?_,?_,?_,?_,?_,?_,?_⟩
     all_goals (first | rfl | (simp only [bh,seval,-Int.reduceToNat,i1,hr2,t1j1,t3j1,t37j1,H1j1,hr5,hr6,i7,hr8] <;> rfl))
 ·
  clear hh
  have hh:=ho3
  try simp only [bh,seval,-Int.reduceToNat,i1,hr2]
  refine bj (fun hb32 => ?_) (fun hb32 => ?_)
  ·replace hh:=ak hb32 hh
   cases hh
   try simp only [bh,seval,-Int.reduceToNat,i1,hr2]
   rw [an]
   refine ⟨_,rfl,?_⟩
   refine ⟨1,?_,?_,?_,?_⟩
   all_goals (first | rfl | (simp only [bh,seval,-Int.reduceToNat,i1,hr2] <;> rfl))
  ·replace hh:=aj hb32 hh
   try simp only [bh,seval,-Int.reduceToNat,i1,hr2]
   refine bj (fun hb33 => ?_) (fun hb33 => ?_)
   ·replace hh:=ak hb33 hh
    cases hh
    try simp only [bh,seval,-Int.reduceToNat,i1,hr2]
    rw [an]
    refine ⟨_,rfl,?_⟩
    refine ⟨1,?_,?_,?_,?_⟩
    all_goals (first | rfl | (simp only [bh,seval,-Int.reduceToNat,i1,hr2] <;> rfl))
   ·replace hh:=aj hb33 hh
    have i34:=kJ r2.2.2.1 ([0,1,2])
    simp only [aS,cl,List.length_cons,List.length_nil,Nat.zero_add,Nat.reduceAdd,List.length_set] at i34
    obtain ⟨r35,hr35,hh⟩:=ae hh
    cases hh
    try simp only [bh,seval,-Int.reduceToNat,i1,hr2,i34,hr35]
    rw [an]
    refine ⟨_,rfl,?_⟩
    refine ⟨1,?_,?_,?_,?_⟩
    all_goals (first | rfl | (simp only [bh,seval,-Int.reduceToNat,i1,hr2,i34,hr35] <;> rfl))
theorem Hb:bW Tryz.prog 9 nS:=bW.of (mode := .clean) tok GD mixed Tryz.func9 (by kernel_rfl) ⟨by kernel_rfl,by kernel_rfl⟩ (fun _=>Nat.le_of_ble_eq_true (by kernel_rfl)) (fun x r h=>JK  r h)
noncomputable def tj:=eZ (eg (dO eS) (ef (aI .i64))) (fun x:aE×Int=>qy x.1 x.2) (fun r:Bool => .clean (.bool r))
theorem FH (p0_0:(List ax)) (p1:Int):tj none [.agg [.sl false false p0_0.length (ab aq p0_0)],.int .i64 p1]=(qy (aE.mk p0_0) p1).map fun r:Bool=>(.clean (.bool r),none):=aR _ _ _ ((aE.mk p0_0),p1)
theorem Pz (p0:aE) (p1:Int) (r:Bool) (hh:qy p0 p1=some r):aX .clean tab aB FU Tryz.f10 none [.agg [.sl false false p0.ah.length (ab aq p0.ah)],.int .i64 p1]=some (.clean (.bool r),none):=by
 refine ay rfl Tryz.ntmps10 Tryz.results10 ?_
 unfold qy at hh
 try simp only [w,seval,-Int.reduceToNat]
 obtain ⟨o6,ho6,hh⟩:=ae hh
 refine aD (fun s t H e=>match s with | s5a=>∃ v2a:Nat,t 1 = .int .i64 p1∧t 2 = .ptr 2 v2a 0∧t 5 = .int .i64 s5a∧H 2=some ⟨v2a,24,[.sl false false p0.ah.length (ab aq p0.ah)],false,false,false⟩) (fun o x t H e=>match o with | (.inl _)=>x = .exit 0∧∃ v2ax:Nat,t 1 = .int .i64 p1∧t 2 = .ptr 2 v2ax 0∧H 2=some ⟨v2ax,24,[.sl false false p0.ah.length (ab aq p0.ah)],false,false,false⟩ | (.inr r)=>x = .ret∧gG .clean tab none [.tmp 4] ⟨t,H,e⟩=some (.clean (.bool r),none)) ho6 ?_ ?_ ?_
 ·
  refine ⟨0,?_,?_,?_,?_⟩
  all_goals (first | rfl | (simp only [w,seval,-Int.reduceToNat] <;> rfl))
 ·rintro s5a t H e ⟨v2a,t1a,t2a,t5a,H2a⟩ c hh
  simp only [qz] at hh
  try simp only [w,seval,-Int.reduceToNat,t1a,t2a,t5a,H2a]
  obtain ⟨o7,ho7,hh⟩:=ae hh
  refine bV 0 (fun s t H e=>match s with | s15j3=>∃ v2j3:Nat,t 1 = .int .i64 p1∧t 2 = .ptr 2 v2j3 0∧t 5 = .int .i64 s5a∧t 15 = .bool s15j3∧H 2=some ⟨v2j3,24,[.sl false false p0.ah.length (ab aq p0.ah)],false,false,false⟩) (fun s=>s=o7) ?_ ?_
  ·rintro s15j3 t H e ⟨v2j3,t1j3,t2j3,t5j3,t15j3,H2j3⟩ rfl
   try dsimp only at hh
   try simp only [w,seval,-Int.reduceToNat,t1j3,t2j3,t5j3,t15j3,H2j3]
   refine ai (fun hb8 => ?_) (fun hb8 => ?_)
   ·replace hh:=ak hb8 hh
    obtain ⟨x9,hx9,hh⟩:=ae hh
    have bx9:=aJ hx9
    have ax9:=aC aq hx9
    have fx9:=aA aq hx9
    simp only [cl] at ax9 fx9
    skip
    try simp only [w,seval,-Int.reduceToNat,t1j3,t2j3,t5j3,t15j3,H2j3,bx9,ax9,fx9]
    refine ai (fun hb10 => ?_) (fun hb10 => ?_)
    ·replace hh:=ak hb10 hh
     cases hh
     try simp only [w,seval,-Int.reduceToNat,t1j3,t2j3,t5j3,t15j3,H2j3,bx9,ax9,fx9]
     rw [dQ]
     refine ⟨_,rfl,?_⟩
     refine ⟨rfl,?_⟩
     try simp only [w,seval,-Int.reduceToNat,t1j3,t2j3,t5j3,t15j3,H2j3,bx9,ax9,fx9]
    ·replace hh:=aj hb10 hh
     cases hh
     try simp only [w,seval,-Int.reduceToNat,t1j3,t2j3,t5j3,t15j3,H2j3,bx9,ax9,fx9]
     rw [aK]
     refine ⟨_,rfl,?_⟩
     refine ⟨v2j3,?_,?_,?_,?_⟩
     all_goals (first | rfl | (simp only [w,seval,-Int.reduceToNat,t1j3,t2j3,t5j3,t15j3,H2j3,bx9,ax9,fx9] <;> rfl))
   ·replace hh:=aj hb8 hh
    cases hh
    try simp only [w,seval,-Int.reduceToNat,t1j3,t2j3,t5j3,t15j3,H2j3]
    rw [bk]
    refine ⟨_,rfl,?_⟩
    refine ⟨rfl,⟨v2j3,?_,?_,?_⟩⟩
    all_goals (first | rfl | (simp only [w,seval,-Int.reduceToNat,t1j3,t2j3,t5j3,t15j3,H2j3] <;> rfl))
  ·
   clear hh
   have hh:=ho7
   try simp only [w,seval,-Int.reduceToNat,t1a,t2a,t5a,H2a]
   refine bK (fun hb11 => ?_) (fun hb11 => ?_)
   ·replace hh:=ak hb11 hh
    cases hh
    try simp only [w,seval,-Int.reduceToNat,t1a,t2a,t5a,H2a]
    rw [an]
    refine ⟨_,rfl,?_⟩
    refine ⟨v2a,?_,?_,?_,?_,?_⟩
    all_goals (first | rfl | (simp only [w,seval,-Int.reduceToNat,t1a,t2a,t5a,H2a] <;> rfl))
   ·replace hh:=aj hb11 hh
    cases hh
    try simp only [w,seval,-Int.reduceToNat,t1a,t2a,t5a,H2a]
    rw [an]
    refine ⟨_,rfl,?_⟩
    refine ⟨v2a,?_,?_,?_,?_,?_⟩
    all_goals (first | rfl | (simp only [w,seval,-Int.reduceToNat,t1a,t2a,t5a,H2a] <;> rfl))
 ·rintro x t H e hx
  rcases o6 with _ | ra
  ·
   dsimp only at hx hh
   obtain ⟨rfl,⟨v2ax,t1ax,t2ax,H2ax⟩⟩:=hx
   cases hh
   try simp only [w,seval,-Int.reduceToNat,t1ax,t2ax,H2ax]
  ·
   dsimp only at hx hh
   obtain ⟨rfl,hE⟩:=hx
   cases hh
   try simp only [bo,bf,bG,cY,cX]
   exact hE
theorem Mh:bW Tryz.prog 10 tj:=bW.of (mode := .clean) tok b7.none mixed Tryz.func10 (by kernel_rfl) ⟨by kernel_rfl,by kernel_rfl⟩ (fun _=>Nat.le_of_ble_eq_true (by kernel_rfl)) (fun x r h=>Pz x.1 x.2 r h)
noncomputable def te:=eZ (eg (dO lh) (ef (aI .i64))) (fun x:aY×Int=>ow x.1 x.2) (fun r:Bool => .clean (.bool r))
theorem FD (p0_0:Int) (p0_1:(List Int)) (p0_2:Int) (p0_3:(List Int)) (p1:Int):te none [.agg [.int .i64 p0_0,.sl false false p0_1.length (ab (eI .i64) p0_1),.int .i64 p0_2,.sl false false p0_3.length (ab (eI .i64) p0_3)],.int .i64 p1]=(ow (aY.mk (aw.mk p0_0 p0_1) (aw.mk p0_2 p0_3)) p1).map fun r:Bool=>(.clean (.bool r),none):=aR _ _ _ ((aY.mk (aw.mk p0_0 p0_1) (aw.mk p0_2 p0_3)),p1)
theorem Pv (p0:aY) (p1:Int) (r:Bool) (hh:ow p0 p1=some r):aX .clean tab aB FU Tryz.f56 none [.agg [.int .i64 p0.cr.ag,.sl false false p0.cr.aa.length (ab (eI .i64) p0.cr.aa),.int .i64 p0.cq.ag,.sl false false p0.cq.aa.length (ab (eI .i64) p0.cq.aa)],.int .i64 p1]=some (.clean (.bool r),none):=by
 refine ay rfl Tryz.ntmps56 Tryz.results56 ?_
 unfold ow at hh
 try simp only [w,seval,-Int.reduceToNat]
 refine bK (fun hb1 => ?_) (fun hb1 => ?_)
 ·replace hh:=ak hb1 hh
  cases hh
  try simp only [w,seval,-Int.reduceToNat]
 ·replace hh:=aj hb1 hh
  cases hh
  try simp only [w,seval,-Int.reduceToNat]
theorem Md:bW Tryz.prog 56 te:=bW.of (mode := .clean) tok b7.none mixed Tryz.func56 (by kernel_rfl) ⟨by kernel_rfl,by kernel_rfl⟩ (fun _=>Nat.le_of_ble_eq_true (by kernel_rfl)) (fun x r h=>Pv x.1 x.2 r h)
noncomputable def ti:=eZ (eg (dO lj) (ef (aI .i64))) (fun x:dL×Int=>qw x.1 x.2) (fun r:Bool => .clean (.bool r))
theorem FG (p0_0:Int) (p0_1:(List Int)) (p0_2:Int) (p0_3:(List Int)) (p0_4:Int) (p0_5:(List Int)) (p0_6:Int) (p0_7:(List Int)) (p1:Int):ti none [.agg [.int .i64 p0_0,.sl false false p0_1.length (ab (eI .i64) p0_1),.int .i64 p0_2,.sl false false p0_3.length (ab (eI .i64) p0_3),.int .i64 p0_4,.sl false false p0_5.length (ab (eI .i64) p0_5),.int .i64 p0_6,.sl false false p0_7.length (ab (eI .i64) p0_7)],.int .i64 p1]=(qw (dL.mk (aY.mk (aw.mk p0_0 p0_1) (aw.mk p0_2 p0_3)) (aY.mk (aw.mk p0_4 p0_5) (aw.mk p0_6 p0_7))) p1).map fun r:Bool=>(.clean (.bool r),none):=aR _ _ _ ((dL.mk (aY.mk (aw.mk p0_0 p0_1) (aw.mk p0_2 p0_3)) (aY.mk (aw.mk p0_4 p0_5) (aw.mk p0_6 p0_7))),p1)
noncomputable def xG:Env:=(Am.ext aB 56 false te)
theorem LG:b7 Tryz.prog xG:=(b7.none.add Md false)
theorem BR:xG=(Am.ext aB 56 false te):=Eq.trans rfl rfl
theorem yl:type_of% (And.intro @w <| And.intro @FD <| @BR):=And.intro @w <| And.intro @FD <| @BR
theorem Py (p0:dL) (p1:Int) (r:Bool) (hh:qw p0 p1=some r):aX .clean tab xG FU Tryz.f29 none [.agg [.int .i64 p0.bx.cr.ag,.sl false false p0.bx.cr.aa.length (ab (eI .i64) p0.bx.cr.aa),.int .i64 p0.bx.cq.ag,.sl false false p0.bx.cq.aa.length (ab (eI .i64) p0.bx.cq.aa),.int .i64 p0.aT.cr.ag,.sl false false p0.aT.cr.aa.length (ab (eI .i64) p0.aT.cr.aa),.int .i64 p0.aT.cq.ag,.sl false false p0.aT.cq.aa.length (ab (eI .i64) p0.aT.cq.aa)],.int .i64 p1]=some (.clean (.bool r),none):=by
 refine ay rfl Tryz.ntmps29 Tryz.results29 ?_
 unfold qw at hh
 obtain ⟨r1,hr1,hh⟩:=ae hh
 try simp only [yl,seval,-Int.reduceToNat,hr1]
 refine bK (fun hb2 => ?_) (fun hb2 => ?_)
 ·replace hh:=ak hb2 hh
  obtain ⟨r3,hr3,hh⟩:=ae hh
  cases hh
  try simp only [yl,seval,-Int.reduceToNat,hr1,hr3]
 ·replace hh:=aj hb2 hh
  cases hh
  try simp only [yl,seval,-Int.reduceToNat,hr1]
theorem Mg:bW Tryz.prog 29 ti:=bW.of (mode := .clean) tok LG mixed Tryz.func29 (by kernel_rfl) ⟨by kernel_rfl,by kernel_rfl⟩ (fun _=>Nat.le_of_ble_eq_true (by kernel_rfl)) (fun x r h=>Py x.1 x.2 r h)
noncomputable def tk:=eZ (eg (ie aL) (ef (ie aF))) (fun x:(List aG)×(List az)=>qA x.1 x.2) (fun r:Bool => .clean (.bool r))
theorem FI (p0:(List aG)) (p1:(List az)):tk none [.sl false false p0.length (ab aL p0),.sl false false p1.length (ab aF p1)]=(qA p0 p1).map fun r:Bool=>(.clean (.bool r),none):=aR _ _ _ (p0,p1)
noncomputable def xH:Env:=(Am.ext aB 29 false ti)
theorem LH:b7 Tryz.prog xH:=(b7.none.add Mg false)
theorem BS:xH=(Am.ext aB 29 false ti):=Eq.trans rfl rfl
theorem bq:type_of% (And.intro @w <| And.intro @FG <| @BS):=And.intro @w <| And.intro @FG <| @BS
theorem PA (p0:(List aG)) (p1:(List az)) (r:Bool) (hh:qA p0 p1=some r):aX .clean tab xH FU Tryz.f11 none [.sl false false p0.length (ab aL p0),.sl false false p1.length (ab aF p1)]=some (.clean (.bool r),none):=by
 refine ay rfl Tryz.ntmps11 Tryz.results11 ?_
 unfold qA at hh
 try simp only [bq,seval,-Int.reduceToNat]
 obtain ⟨o7,ho7,hh⟩:=ae hh
 refine aD (fun s t H e=>match s with | s5a=>t 0 = .sl false false p0.length (ab aL p0)∧t 1 = .sl false false p1.length (ab aF p1)∧t 5 = .int .i64 s5a) (fun o x t H e=>match o with | (.inl _)=>x = .exit 0∧t 0 = .sl false false p0.length (ab aL p0)∧t 1 = .sl false false p1.length (ab aF p1) | (.inr r)=>x = .ret∧gG .clean tab none [.tmp 4] ⟨t,H,e⟩=some (.clean (.bool r),none)) ho7 ?_ ?_ ?_
 ·
  refine ⟨?_,?_,?_⟩
  all_goals (first | rfl | (simp only [bq,seval,-Int.reduceToNat] <;> rfl))
 ·rintro s5a t H e ⟨t0a,t1a,t5a⟩ c hh
  simp only [qB] at hh
  try simp only [bq,seval,-Int.reduceToNat,t0a,t1a,t5a]
  obtain ⟨o8,ho8,hh⟩:=ae hh
  refine bV 0 (fun s t H e=>match s with | s14j3=>t 0 = .sl false false p0.length (ab aL p0)∧t 1 = .sl false false p1.length (ab aF p1)∧t 5 = .int .i64 s5a∧t 14 = .bool s14j3) (fun s=>s=o8) ?_ ?_
  ·rintro s14j3 t H e ⟨t0j3,t1j3,t5j3,t14j3⟩ rfl
   try dsimp only at hh
   try simp only [bq,seval,-Int.reduceToNat,t0j3,t1j3,t5j3,t14j3]
   refine ai (fun hb9 => ?_) (fun hb9 => ?_)
   ·replace hh:=ak hb9 hh
    obtain ⟨x10,hx10,hh⟩:=ae hh
    have bx10:=aJ hx10
    have ax10:=aC aL hx10
    have fx10:=aA aL hx10
    simp only [cl] at ax10 fx10
    skip
    try simp only [bq,seval,-Int.reduceToNat,t0j3,t1j3,t5j3,t14j3,bx10,ax10,fx10]
    refine bj (fun hb11 => ?_) (fun hb11 => ?_)
    ·replace hh:=ak hb11 hh
     cases hh
     try simp only [bq,seval,-Int.reduceToNat,t0j3,t1j3,t5j3,t14j3,bx10,ax10,fx10]
     rw [dQ]
     refine ⟨_,rfl,?_⟩
     refine ⟨rfl,?_⟩
     try simp only [bq,seval,-Int.reduceToNat,t0j3,t1j3,t5j3,t14j3,bx10,ax10,fx10]
    ·replace hh:=aj hb11 hh
     have bx10:=aJ hx10
     have ax10:=aC aL hx10
     have fx10:=aA aL hx10
     simp only [cl] at ax10 fx10
     skip
     try simp only [bq,seval,-Int.reduceToNat,t0j3,t1j3,t5j3,t14j3,bx10,ax10,fx10,bx10,ax10,fx10]
     refine ai (fun hb12 => ?_) (fun hb12 => ?_)
     ·replace hh:=ak hb12 hh
      cases hh
      try simp only [bq,seval,-Int.reduceToNat,t0j3,t1j3,t5j3,t14j3,bx10,ax10,fx10,bx10,ax10,fx10]
      rw [dQ]
      refine ⟨_,rfl,?_⟩
      refine ⟨rfl,?_⟩
      try simp only [bq,seval,-Int.reduceToNat,t0j3,t1j3,t5j3,t14j3,bx10,ax10,fx10,bx10,ax10,fx10]
     ·replace hh:=aj hb12 hh
      cases hh
      try simp only [bq,seval,-Int.reduceToNat,t0j3,t1j3,t5j3,t14j3,bx10,ax10,fx10,bx10,ax10,fx10]
      rw [aK]
      refine ⟨_,rfl,?_⟩
      refine ⟨?_,?_,?_⟩
      all_goals (first | rfl | (simp only [bq,seval,-Int.reduceToNat,t0j3,t1j3,t5j3,t14j3,bx10,ax10,fx10,bx10,ax10,fx10] <;> rfl))
   ·replace hh:=aj hb9 hh
    cases hh
    try simp only [bq,seval,-Int.reduceToNat,t0j3,t1j3,t5j3,t14j3]
    rw [bk]
    refine ⟨_,rfl,?_⟩
    refine ⟨rfl,⟨?_,?_⟩⟩
    all_goals (first | rfl | (simp only [bq,seval,-Int.reduceToNat,t0j3,t1j3,t5j3,t14j3] <;> rfl))
  ·
   clear hh
   have hh:=ho8
   try simp only [bq,seval,-Int.reduceToNat,t0a,t1a,t5a]
   refine bK (fun hb13 => ?_) (fun hb13 => ?_)
   ·replace hh:=ak hb13 hh
    cases hh
    try simp only [bq,seval,-Int.reduceToNat,t0a,t1a,t5a]
    rw [an]
    refine ⟨_,rfl,?_⟩
    refine ⟨?_,?_,?_,?_⟩
    all_goals (first | rfl | (simp only [bq,seval,-Int.reduceToNat,t0a,t1a,t5a] <;> rfl))
   ·replace hh:=aj hb13 hh
    cases hh
    try simp only [bq,seval,-Int.reduceToNat,t0a,t1a,t5a]
    rw [an]
    refine ⟨_,rfl,?_⟩
    refine ⟨?_,?_,?_,?_⟩
    all_goals (first | rfl | (simp only [bq,seval,-Int.reduceToNat,t0a,t1a,t5a] <;> rfl))
 ·rintro x t H e hx
  rcases o7 with _ | ra
  ·
   dsimp only at hx hh
   obtain ⟨rfl,⟨t0ax,t1ax⟩⟩:=hx
   try simp only [bq,seval,-Int.reduceToNat,t0ax,t1ax]
   obtain ⟨o20,ho20,hh⟩:=ae hh
   refine aD (fun s t H e=>match s with | s6d=>t 0 = .sl false false p0.length (ab aL p0)∧t 1 = .sl false false p1.length (ab aF p1)∧t 6 = .int .i64 s6d) (fun o x t H e=>match o with | (.inl _)=>x = .exit 2∧t 0 = .sl false false p0.length (ab aL p0)∧t 1 = .sl false false p1.length (ab aF p1) | (.inr r)=>x = .ret∧gG .clean tab none [.tmp 4] ⟨t,H,e⟩=some (.clean (.bool r),none)) ho20 ?_ ?_ ?_
   ·
    refine ⟨?_,?_,?_⟩
    all_goals (first | rfl | (simp only [bq,seval,-Int.reduceToNat,t0ax,t1ax] <;> rfl))
   ·rintro s6d t H e ⟨t0d,t1d,t6d⟩ c hh
    simp only [qC] at hh
    try simp only [bq,seval,-Int.reduceToNat,t0d,t1d,t6d]
    obtain ⟨o21,ho21,hh⟩:=ae hh
    refine bV 0 (fun s t H e=>match s with | s40j6=>t 0 = .sl false false p0.length (ab aL p0)∧t 1 = .sl false false p1.length (ab aF p1)∧t 6 = .int .i64 s6d∧t 40 = .bool s40j6) (fun s=>s=o21) ?_ ?_
    ·rintro s40j6 t H e ⟨t0j6,t1j6,t6j6,t40j6⟩ rfl
     try dsimp only at hh
     try simp only [bq,seval,-Int.reduceToNat,t0j6,t1j6,t6j6,t40j6]
     refine ai (fun hb22 => ?_) (fun hb22 => ?_)
     ·replace hh:=ak hb22 hh
      obtain ⟨x23,hx23,hh⟩:=ae hh
      have bx23:=aJ hx23
      have ax23:=aC aF hx23
      have fx23:=aA aF hx23
      simp only [cl] at ax23 fx23
      skip
      obtain ⟨r24,hr24,hh⟩:=ae hh
      try simp only [bq,seval,-Int.reduceToNat,t0j6,t1j6,t6j6,t40j6,bx23,ax23,fx23,hr24]
      refine ai (fun hb25 => ?_) (fun hb25 => ?_)
      ·replace hh:=ak hb25 hh
       cases hh
       try simp only [bq,seval,-Int.reduceToNat,t0j6,t1j6,t6j6,t40j6,bx23,ax23,fx23,hr24]
       rw [dQ]
       refine ⟨_,rfl,?_⟩
       refine ⟨rfl,?_⟩
       try simp only [bq,seval,-Int.reduceToNat,t0j6,t1j6,t6j6,t40j6,bx23,ax23,fx23,hr24]
      ·replace hh:=aj hb25 hh
       cases hh
       try simp only [bq,seval,-Int.reduceToNat,t0j6,t1j6,t6j6,t40j6,bx23,ax23,fx23,hr24]
       rw [aK]
       refine ⟨_,rfl,?_⟩
       refine ⟨?_,?_,?_⟩
       all_goals (first | rfl | (simp only [bq,seval,-Int.reduceToNat,t0j6,t1j6,t6j6,t40j6,bx23,ax23,fx23,hr24] <;> rfl))
     ·replace hh:=aj hb22 hh
      cases hh
      try simp only [bq,seval,-Int.reduceToNat,t0j6,t1j6,t6j6,t40j6]
      rw [bk]
      refine ⟨_,rfl,?_⟩
      refine ⟨rfl,⟨?_,?_⟩⟩
      all_goals (first | rfl | (simp only [bq,seval,-Int.reduceToNat,t0j6,t1j6,t6j6,t40j6] <;> rfl))
    ·
     clear hh
     have hh:=ho21
     try simp only [bq,seval,-Int.reduceToNat,t0d,t1d,t6d]
     refine bK (fun hb26 => ?_) (fun hb26 => ?_)
     ·replace hh:=ak hb26 hh
      cases hh
      try simp only [bq,seval,-Int.reduceToNat,t0d,t1d,t6d]
      rw [an]
      refine ⟨_,rfl,?_⟩
      refine ⟨?_,?_,?_,?_⟩
      all_goals (first | rfl | (simp only [bq,seval,-Int.reduceToNat,t0d,t1d,t6d] <;> rfl))
     ·replace hh:=aj hb26 hh
      cases hh
      try simp only [bq,seval,-Int.reduceToNat,t0d,t1d,t6d]
      rw [an]
      refine ⟨_,rfl,?_⟩
      refine ⟨?_,?_,?_,?_⟩
      all_goals (first | rfl | (simp only [bq,seval,-Int.reduceToNat,t0d,t1d,t6d] <;> rfl))
   ·rintro x t H e hx
    rcases o20 with _ | rd
    ·
     dsimp only at hx hh
     obtain ⟨rfl,⟨t0dx,t1dx⟩⟩:=hx
     try simp only [bq,seval,-Int.reduceToNat,t0dx,t1dx]
     refine bK (fun hb27 => ?_) (fun hb27 => ?_)
     ·replace hh:=ak hb27 hh
      cases hh
      try simp only [bq,seval,-Int.reduceToNat,t0dx,t1dx]
     ·replace hh:=aj hb27 hh
      cases hh
      try simp only [bq,seval,-Int.reduceToNat,t0dx,t1dx]
    ·
     dsimp only at hx hh
     obtain ⟨rfl,hE⟩:=hx
     cases hh
     try simp only [bo,bf,bG,cY,cX]
     exact hE
  ·
   dsimp only at hx hh
   obtain ⟨rfl,hE⟩:=hx
   cases hh
   try simp only [bo,bf,bG,cY,cX]
   exact hE
theorem Mi:bW Tryz.prog 11 tk:=bW.of (mode := .clean) tok LH mixed Tryz.func11 (by kernel_rfl) ⟨by kernel_rfl,by kernel_rfl⟩ (fun _=>Nat.le_of_ble_eq_true (by kernel_rfl)) (fun x r h=>PA x.1 x.2 r h)
end Go.Proofs.YtpkahnkoecbndaaGreatDoor.Am
namespace Go.Proofs.YtpkahnkoecbndaaGreatDoor.Am
open Go.RowKit Go.Proofs.YtpkahnkoecbndaaGreatDoor.P
set_option maxRecDepth 100000
set_option maxHeartbeats 4000000
set_option linter.unusedSimpArgs false
set_option linter.unusedVariables false
noncomputable def nR:=eZ (eg (ie aL) (ef (aI .i64))) (fun x:(List aG)×Int=>lp x.1 x.2) (fun r:(List aG) => .clean (.sl false false r.length (ab aL r)))
theorem y8 (p0:(List aG)) (p1:Int):nR none [.sl false false p0.length (ab aL p0),.int .i64 p1]=(lp p0 p1).map fun r:(List aG)=>(.clean (.sl false false r.length (ab aL r)),none):=aR _ _ _ (p0,p1)
theorem JJ (p0:(List aG)) (p1:Int) (r:(List aG)) (hh:lp p0 p1=some r):aX .clean tab aB FU Tryz.f25 none [.sl false false p0.length (ab aL p0),.int .i64 p1]=some (.clean (.sl false false r.length (ab aL r)),none):=by
 refine ay rfl Tryz.ntmps25 Tryz.results25 ?_
 unfold lp at hh
 try simp only [w,seval,-Int.reduceToNat]
 obtain ⟨o4,ho4,hh⟩:=ae hh
 refine aD (fun s t H e=>match s with | s5a=>t 0 = .sl false false p0.length (ab aL p0)∧t 1 = .int .i64 p1∧t 5 = .int .i64 s5a) (fun o x t H e=>match o with | (.inl _)=>x = .exit 0 | (.inr r)=>x = .ret∧gG .clean tab none [.tmp 4] ⟨t,H,e⟩=some (.clean (.sl false false r.length (ab aL r)),none)) ho4 ?_ ?_ ?_
 ·
  refine ⟨?_,?_,?_⟩
  all_goals (first | rfl | (simp only [w,seval,-Int.reduceToNat] <;> rfl))
 ·rintro s5a t H e ⟨t0a,t1a,t5a⟩ c hh
  simp only [mE] at hh
  try simp only [w,seval,-Int.reduceToNat,t0a,t1a,t5a]
  refine ai (fun hb5 => ?_) (fun hb5 => ?_)
  ·replace hh:=ak hb5 hh
   obtain ⟨x6,hx6,hh⟩:=ae hh
   have bx6:=aJ hx6
   have ax6:=aC aL hx6
   have fx6:=aA aL hx6
   simp only [cl] at ax6 fx6
   skip
   try simp only [w,seval,-Int.reduceToNat,t0a,t1a,t5a,bx6,ax6,fx6]
   refine ai (fun hb7 => ?_) (fun hb7 => ?_)
   ·replace hh:=ak hb7 hh
    have bx6:=aJ hx6
    have ax6:=aC aL hx6
    have fx6:=aA aL hx6
    simp only [cl] at ax6 fx6
    skip
    cases hh
    try simp only [w,seval,-Int.reduceToNat,t0a,t1a,t5a,bx6,ax6,fx6,bx6,ax6,fx6]
    rw [dQ]
    refine ⟨_,rfl,?_⟩
    refine ⟨rfl,?_⟩
    try simp only [w,seval,-Int.reduceToNat,t0a,t1a,t5a,bx6,ax6,fx6,bx6,ax6,fx6]
   ·replace hh:=aj hb7 hh
    cases hh
    try simp only [w,seval,-Int.reduceToNat,t0a,t1a,t5a,bx6,ax6,fx6]
    rw [aK]
    refine ⟨_,rfl,?_⟩
    refine ⟨?_,?_,?_⟩
    all_goals (first | rfl | (simp only [w,seval,-Int.reduceToNat,t0a,t1a,t5a,bx6,ax6,fx6] <;> rfl))
  ·replace hh:=aj hb5 hh
   cases hh
   try simp only [w,seval,-Int.reduceToNat,t0a,t1a,t5a]
   rw [bk]
   refine ⟨_,rfl,?_⟩
   exact rfl
 ·rintro x t H e hx
  rcases o4 with _ | ra
  ·
   dsimp only at hx hh
   subst hx
   cases hh
   try simp only [w,seval,-Int.reduceToNat]
  ·
   dsimp only at hx hh
   obtain ⟨rfl,hE⟩:=hx
   cases hh
   try simp only [bo,bf,bG,cY,cX]
   exact hE
theorem Ha:bW Tryz.prog 25 nR:=bW.of (mode := .clean) tok b7.none mixed Tryz.func25 (by kernel_rfl) ⟨by kernel_rfl,by kernel_rfl⟩ (fun _=>Nat.le_of_ble_eq_true (by kernel_rfl)) (fun x r h=>JJ x.1 x.2 r h)
noncomputable def xh:=eZ (eg (dO eS) (eg (aI .i64) (eg (aI .i64) (eg (aI .i64) (eg (ie (eI .i64)) (eg (ie aL) (ef (ie aF)))))))) (fun x:aE×Int×Int×Int×(List Int)×(List aG)×(List az)=>eQ x.1 x.2.1 x.2.2.1 x.2.2.2.1 x.2.2.2.2.1 x.2.2.2.2.2.1 x.2.2.2.2.2.2) (fun r:Bool => .clean (.bool r))
noncomputable def ll:Env:=(Am.ext (Am.ext (Am.ext (Am.ext (Am.ext (Am.ext aB 9 false nS) 10 false tj) 11 false tk) 13 false fk) 17 false k9) 25 false nR)
theorem wm:b7 Tryz.prog ll:=((((((b7.none.add Hb false).add Mh false).add Mi false).add nD false).add y4 false).add Ha false)
theorem oc:ll=(Am.ext (Am.ext (Am.ext (Am.ext (Am.ext (Am.ext aB 9 false nS) 10 false tj) 11 false tk) 13 false fk) 17 false k9) 25 false nR):=Eq.trans rfl rfl
theorem au:type_of% (And.intro @w <| And.intro @y9 <| And.intro @FH <| And.intro @FI <| And.intro @eN <| And.intro @qt <| And.intro @y8 <| @oc):=And.intro @w <| And.intro @y9 <| And.intro @FH <| And.intro @FI <| And.intro @eN <| And.intro @qt <| And.intro @y8 <| @oc
theorem xM (p0:aE) (p1:Int) (p2:Int) (p3:Int) (p4:(List Int)) (p5:(List aG)) (p6:(List az)) (r:Bool) (hh:eQ p0 p1 p2 p3 p4 p5 p6=some r):aX .clean tab ll FU Tryz.f5 none [.agg [.sl false false p0.ah.length (ab aq p0.ah)],.int .i64 p1,.int .i64 p2,.int .i64 p3,.sl false false p4.length (ab (eI .i64) p4),.sl false false p5.length (ab aL p5),.sl false false p6.length (ab aF p6)]=some (.clean (.bool r),none):=by
 refine ay rfl Tryz.ntmps5 Tryz.results5 ?_
 unfold eQ at hh
 obtain ⟨r1,hr1,hh⟩:=ae hh
 obtain ⟨r2,hr2,hh⟩:=ae hh
 try simp only [au,seval,-Int.reduceToNat,hr1,hr2]
 obtain ⟨o3,ho3,hh⟩:=ae hh
 refine bV 0 (fun s t H e=>match s with | s38j1=>∃ v7j1:Nat,t 1 = .int .i64 p1∧t 2 = .int .i64 p2∧t 3 = .int .i64 p3∧t 4 = .sl false false p4.length (ab (eI .i64) p4)∧t 5 = .sl false false p5.length (ab aL p5)∧t 6 = .sl false false p6.length (ab aF p6)∧t 7 = .ptr 7 v7j1 0∧t 15 = .bool r1∧t 38 = .bool s38j1∧H 7=some ⟨v7j1,24,[.sl false false p0.ah.length (ab aq p0.ah)],false,false,false⟩) (fun s=>s=o3) ?_ ?_
 ·rintro s38j1 t H e ⟨v7j1,t1j1,t2j1,t3j1,t4j1,t5j1,t6j1,t7j1,t15j1,t38j1,H7j1⟩ rfl
  try dsimp only at hh
  try simp only [au,seval,-Int.reduceToNat,hr1,hr2,t1j1,t2j1,t3j1,t4j1,t5j1,t6j1,t7j1,t15j1,t38j1,H7j1]
  refine ai (fun hb4 => ?_) (fun hb4 => ?_)
  ·replace hh:=ak hb4 hh
   cases hh
   try simp only [au,seval,-Int.reduceToNat,hr1,hr2,t1j1,t2j1,t3j1,t4j1,t5j1,t6j1,t7j1,t15j1,t38j1,H7j1]
  ·replace hh:=aj hb4 hh
   obtain ⟨r5,hr5,hh⟩:=ae hh
   try simp only [au,seval,-Int.reduceToNat,hr1,hr2,t1j1,t2j1,t3j1,t4j1,t5j1,t6j1,t7j1,t15j1,t38j1,H7j1,hr5]
   refine ai (fun hb6 => ?_) (fun hb6 => ?_)
   ·replace hh:=ak hb6 hh
    try simp only [au,seval,-Int.reduceToNat,hr1,hr2,t1j1,t2j1,t3j1,t4j1,t5j1,t6j1,t7j1,t15j1,t38j1,H7j1,hr5]
    obtain ⟨o7,ho7,hh⟩:=ae hh
    refine bV 0 (fun s t H e=>match s with | s14j2=>t 14 = .bool s14j2) (fun s=>s=o7) ?_ ?_
    ·rintro s14j2 t H e t14j2 rfl
     try dsimp only at hh
     cases hh
     try simp only [au,seval,-Int.reduceToNat,hr1,hr2,hr5,t14j2]
    ·
     clear hh
     have hh:=ho7
     try simp only [au,seval,-Int.reduceToNat,hr1,hr2,t1j1,t2j1,t3j1,t4j1,t5j1,t6j1,t7j1,t15j1,t38j1,H7j1,hr5]
     refine bK (fun hb8 => ?_) (fun hb8 => ?_)
     ·replace hh:=ak hb8 hh
      cases hh
      try simp only [au,seval,-Int.reduceToNat,hr1,hr2,t1j1,t2j1,t3j1,t4j1,t5j1,t6j1,t7j1,t15j1,t38j1,H7j1,hr5]
      rw [an]
      refine ⟨_,rfl,?_⟩
      refine ?_
      all_goals (first | rfl | (simp only [au,seval,-Int.reduceToNat,hr1,hr2,t1j1,t2j1,t3j1,t4j1,t5j1,t6j1,t7j1,t15j1,t38j1,H7j1,hr5] <;> rfl))
     ·replace hh:=aj hb8 hh
      cases hh
      try simp only [au,seval,-Int.reduceToNat,hr1,hr2,t1j1,t2j1,t3j1,t4j1,t5j1,t6j1,t7j1,t15j1,t38j1,H7j1,hr5]
      rw [an]
      refine ⟨_,rfl,?_⟩
      refine ?_
      all_goals (first | rfl | (simp only [au,seval,-Int.reduceToNat,hr1,hr2,t1j1,t2j1,t3j1,t4j1,t5j1,t6j1,t7j1,t15j1,t38j1,H7j1,hr5] <;> rfl))
   ·replace hh:=aj hb6 hh
    try simp only [au,seval,-Int.reduceToNat,hr1,hr2,t1j1,t2j1,t3j1,t4j1,t5j1,t6j1,t7j1,t15j1,t38j1,H7j1,hr5]
    obtain ⟨o31,ho31,hh⟩:=ae hh
    refine aD (fun s t H e=>match s with | (s19c,l18c)=>∃ v7c:Nat,∃ v18c:Nat,t 1 = .int .i64 p1∧t 2 = .int .i64 p2∧t 3 = .int .i64 p3∧t 4 = .sl false false p4.length (ab (eI .i64) p4)∧t 5 = .sl false false p5.length (ab aL p5)∧t 6 = .sl false false p6.length (ab aF p6)∧t 7 = .ptr 7 v7c 0∧t 15 = .bool r1∧t 16 = .sl false false r5.1.length (ab bp r5.1)∧t 18 = .buf 18 v18c 2 0 (l18c).length∧t 19 = .int .i64 s19c∧H 7=some ⟨v7c,24,[.sl false false p0.ah.length (ab aq p0.ah)],false,false,false⟩∧H 18=some ⟨v18c,74,ab bp l18c,false,true,false⟩) (fun o x t H e=>match o with | (.inl l18cx)=>x = .exit 0∧∃ v18cx:Nat,t 15 = .bool r1∧t 16 = .sl false false r5.1.length (ab bp r5.1)∧t 18 = .buf 18 v18cx 2 0 (l18cx).length∧H 18=some ⟨v18cx,74,ab bp l18cx,false,true,false⟩ | (.inr r)=>x = .ret∧gG .clean tab none [.tmp 14] ⟨t,H,e⟩=some (.clean (.bool r),none)) ho31 ?_ ?_ ?_
    ·
     refine ⟨v7j1,e+1+1,?_,?_,?_,?_,?_,?_,?_,?_,?_,?_,?_,?_,?_⟩
     all_goals (first | rfl | (simp only [au,seval,-Int.reduceToNat,hr1,hr2,t1j1,t2j1,t3j1,t4j1,t5j1,t6j1,t7j1,t15j1,t38j1,H7j1,hr5] <;> rfl))
    ·rintro ⟨s19c,l18c⟩ t H e ⟨v7c,v18c,t1c,t2c,t3c,t4c,t5c,t6c,t7c,t15c,t16c,t18c,t19c,H7c,H18c⟩ c hh
     simp only [dV] at hh
     try simp only [au,seval,-Int.reduceToNat,hr1,hr2,hr5,t1c,t2c,t3c,t4c,t5c,t6c,t7c,t15c,t16c,t18c,t19c,H7c,H18c]
     refine ai (fun hb32 => ?_) (fun hb32 => ?_)
     ·replace hh:=ak hb32 hh
      try simp only [au,seval,-Int.reduceToNat,hr1,hr2,hr5,t1c,t2c,t3c,t4c,t5c,t6c,t7c,t15c,t16c,t18c,t19c,H7c,H18c]
      obtain ⟨o39,ho39,hh⟩:=ae hh
      refine aD (fun s t H e=>match s with | (s21e,l20e)=>∃ v7e:Nat,∃ v18e:Nat,∃ v20e:Nat,t 1 = .int .i64 p1∧t 2 = .int .i64 p2∧t 3 = .int .i64 p3∧t 4 = .sl false false p4.length (ab (eI .i64) p4)∧t 5 = .sl false false p5.length (ab aL p5)∧t 6 = .sl false false p6.length (ab aF p6)∧t 7 = .ptr 7 v7e 0∧t 15 = .bool r1∧t 16 = .sl false false r5.1.length (ab bp r5.1)∧t 18 = .buf 18 v18e 2 0 (l18c).length∧t 19 = .int .i64 s19c∧t 20 = .buf 20 v20e 9 0 (l20e).length∧t 21 = .int .i64 s21e∧H 7=some ⟨v7e,24,[.sl false false p0.ah.length (ab aq p0.ah)],false,false,false⟩∧H 18=some ⟨v18e,74,ab bp l18c,false,true,false⟩∧H 20=some ⟨v20e,55,ab aF l20e,false,true,false⟩) (fun o x t H e=>match o with | l20ex=>x = .exit 2∧∃ v7ex:Nat,∃ v18ex:Nat,∃ v20ex:Nat,t 1 = .int .i64 p1∧t 2 = .int .i64 p2∧t 3 = .int .i64 p3∧t 4 = .sl false false p4.length (ab (eI .i64) p4)∧t 5 = .sl false false p5.length (ab aL p5)∧t 6 = .sl false false p6.length (ab aF p6)∧t 7 = .ptr 7 v7ex 0∧t 15 = .bool r1∧t 16 = .sl false false r5.1.length (ab bp r5.1)∧t 18 = .buf 18 v18ex 2 0 (l18c).length∧t 19 = .int .i64 s19c∧t 20 = .buf 20 v20ex 9 0 (l20ex).length∧H 7=some ⟨v7ex,24,[.sl false false p0.ah.length (ab aq p0.ah)],false,false,false⟩∧H 18=some ⟨v18ex,74,ab bp l18c,false,true,false⟩∧H 20=some ⟨v20ex,55,ab aF l20ex,false,true,false⟩) ho39 ?_ ?_ ?_
      ·
       refine ⟨v7c,v18c,e+1,?_,?_,?_,?_,?_,?_,?_,?_,?_,?_,?_,?_,?_,?_,?_,?_⟩
       all_goals (first | rfl | (simp only [au,seval,-Int.reduceToNat,hr1,hr2,hr5,t1c,t2c,t3c,t4c,t5c,t6c,t7c,t15c,t16c,t18c,t19c,H7c,H18c] <;> rfl))
      ·rintro ⟨s21e,l20e⟩ t H e ⟨v7e,v18e,v20e,t1e,t2e,t3e,t4e,t5e,t6e,t7e,t15e,t16e,t18e,t19e,t20e,t21e,H7e,H18e,H20e⟩ c hh
       simp only [eT] at hh
       try simp only [au,seval,-Int.reduceToNat,hr1,hr2,hr5,t1e,t2e,t3e,t4e,t5e,t6e,t7e,t15e,t16e,t18e,t19e,t20e,t21e,H7e,H18e,H20e]
       refine ai (fun hb40 => ?_) (fun hb40 => ?_)
       ·replace hh:=ak hb40 hh
        obtain ⟨x41,hx41,hh⟩:=ae hh
        have bx41:=aJ hx41
        have ax41:=aC aF hx41
        have fx41:=aA aF hx41
        simp only [cl] at ax41 fx41
        skip
        obtain ⟨x42,hx42,hh⟩:=ae hh
        have bx42:=aJ hx42
        have ax42:=aC (eI .i64) hx42
        have fx42:=aA (eI .i64) hx42
        simp only [cl] at ax42 fx42
        skip
        try simp only [au,seval,-Int.reduceToNat,hr1,hr2,hr5,t1e,t2e,t3e,t4e,t5e,t6e,t7e,t15e,t16e,t18e,t19e,t20e,t21e,H7e,H18e,H20e,bx41,ax41,fx41,bx42,ax42,fx42]
        refine cI (by kernel_rfl) ?_
        try simp only [au,seval,-Int.reduceToNat,hr1,hr2,hr5,t1e,t2e,t3e,t4e,t5e,t6e,t7e,t15e,t16e,t18e,t19e,t20e,t21e,H7e,H18e,H20e,bx41,ax41,fx41,bx42,ax42,fx42]
        refine ai (fun hb43 => ?_) (fun hb43 => ?_)
        ·replace hh:=ak hb43 hh
         have bx41:=aJ hx41
         have ax41:=aC aF hx41
         have fx41:=aA aF hx41
         simp only [cl] at ax41 fx41
         skip
         obtain ⟨x44,hx44,hh⟩:=ae hh
         obtain ⟨q45a,q45b,q45c,q45d⟩:=fS aF hx44
         simp only [cl] at q45b
         cases hh
         try simp only [au,seval,-Int.reduceToNat,hr1,hr2,hr5,t1e,t2e,t3e,t4e,t5e,t6e,t7e,t15e,t16e,t18e,t19e,t20e,t21e,H7e,H18e,H20e,bx41,ax41,fx41,bx42,ax42,fx42,bx41,ax41,fx41,q45a,q45b,q45c,q45d]
         rw [aK]
         refine ⟨_,rfl,?_⟩
         refine ⟨v7e,v18e,e+1+1,?_,?_,?_,?_,?_,?_,?_,?_,?_,?_,?_,?_,?_,?_,?_,?_⟩
         all_goals (first | rfl | (simp only [au,seval,-Int.reduceToNat,hr1,hr2,hr5,t1e,t2e,t3e,t4e,t5e,t6e,t7e,t15e,t16e,t18e,t19e,t20e,t21e,H7e,H18e,H20e,bx41,ax41,fx41,bx42,ax42,fx42,bx41,ax41,fx41,q45a,q45b,q45c,q45d] <;> rfl))
        ·replace hh:=aj hb43 hh
         cases hh
         try simp only [au,seval,-Int.reduceToNat,hr1,hr2,hr5,t1e,t2e,t3e,t4e,t5e,t6e,t7e,t15e,t16e,t18e,t19e,t20e,t21e,H7e,H18e,H20e,bx41,ax41,fx41,bx42,ax42,fx42]
         rw [aK]
         refine ⟨_,rfl,?_⟩
         refine ⟨v7e,v18e,v20e,?_,?_,?_,?_,?_,?_,?_,?_,?_,?_,?_,?_,?_,?_,?_,?_⟩
         all_goals (first | rfl | (simp only [au,seval,-Int.reduceToNat,hr1,hr2,hr5,t1e,t2e,t3e,t4e,t5e,t6e,t7e,t15e,t16e,t18e,t19e,t20e,t21e,H7e,H18e,H20e,bx41,ax41,fx41,bx42,ax42,fx42] <;> rfl))
       ·replace hh:=aj hb40 hh
        cases hh
        try simp only [au,seval,-Int.reduceToNat,hr1,hr2,hr5,t1e,t2e,t3e,t4e,t5e,t6e,t7e,t15e,t16e,t18e,t19e,t20e,t21e,H7e,H18e,H20e]
        rw [bk]
        refine ⟨_,rfl,?_⟩
        refine ⟨rfl,⟨v7e,v18e,v20e,?_,?_,?_,?_,?_,?_,?_,?_,?_,?_,?_,?_,?_,?_,?_⟩⟩
        all_goals (first | rfl | (simp only [au,seval,-Int.reduceToNat,hr1,hr2,hr5,t1e,t2e,t3e,t4e,t5e,t6e,t7e,t15e,t16e,t18e,t19e,t20e,t21e,H7e,H18e,H20e] <;> rfl))
      ·rintro x t H e hx
       obtain ⟨l20ex,rfl⟩ : ∃ z,z=o39:=⟨_,rfl⟩
       dsimp only at hx hh
       obtain ⟨rfl,⟨v7ex,v18ex,v20ex,t1ex,t2ex,t3ex,t4ex,t5ex,t6ex,t7ex,t15ex,t16ex,t18ex,t19ex,t20ex,H7ex,H18ex,H20ex⟩⟩:=hx
       obtain ⟨x46,hx46,hh⟩:=ae hh
       have bx46:=aJ hx46
       have ax46:=aC (eI .i64) hx46
       have fx46:=aA (eI .i64) hx46
       simp only [cl] at ax46 fx46
       skip
       have bx46:=aJ hx46
       have ax46:=aC (eI .i64) hx46
       have fx46:=aA (eI .i64) hx46
       simp only [cl] at ax46 fx46
       skip
       obtain ⟨r47,hr47,hh⟩:=ae hh
       have i48:=eN p0.ah p1 p2 p3 ([x46]) r47 l20ex
       simp only [aS,cl,List.length_cons,List.length_nil,Nat.zero_add,Nat.reduceAdd,List.length_set] at i48
       obtain ⟨r49,hr49,hh⟩:=ae hh
       try simp only [au,seval,-Int.reduceToNat,hr1,hr2,hr5,t1ex,t2ex,t3ex,t4ex,t5ex,t6ex,t7ex,t15ex,t16ex,t18ex,t19ex,t20ex,H7ex,H18ex,H20ex,bx46,ax46,fx46,bx46,ax46,fx46,hr47,i48,hr49]
       refine cI (by kernel_rfl) ?_
       try simp only [au,seval,-Int.reduceToNat,hr1,hr2,hr5,t1ex,t2ex,t3ex,t4ex,t5ex,t6ex,t7ex,t15ex,t16ex,t18ex,t19ex,t20ex,H7ex,H18ex,H20ex,bx46,ax46,fx46,bx46,ax46,fx46,hr47,i48,hr49]
       refine bj (fun hb50 => ?_) (fun hb50 => ?_)
       ·replace hh:=ak hb50 hh
        cases hh
        try simp only [au,seval,-Int.reduceToNat,hr1,hr2,hr5,t1ex,t2ex,t3ex,t4ex,t5ex,t6ex,t7ex,t15ex,t16ex,t18ex,t19ex,t20ex,H7ex,H18ex,H20ex,bx46,ax46,fx46,bx46,ax46,fx46,hr47,i48,hr49]
        rw [dQ]
        refine ⟨_,rfl,?_⟩
        refine ⟨rfl,?_⟩
        try simp only [au,seval,-Int.reduceToNat,hr1,hr2,hr5,t1ex,t2ex,t3ex,t4ex,t5ex,t6ex,t7ex,t15ex,t16ex,t18ex,t19ex,t20ex,H7ex,H18ex,H20ex,bx46,ax46,fx46,bx46,ax46,fx46,hr47,i48,hr49]
       ·replace hh:=aj hb50 hh
        try simp only [au,seval,-Int.reduceToNat,hr1,hr2,hr5,t1ex,t2ex,t3ex,t4ex,t5ex,t6ex,t7ex,t15ex,t16ex,t18ex,t19ex,t20ex,H7ex,H18ex,H20ex,bx46,ax46,fx46,bx46,ax46,fx46,hr47,i48,hr49]
        refine ai (fun hb51 => ?_) (fun hb51 => ?_)
        ·replace hh:=ak hb51 hh
         cases hh
         try simp only [au,seval,-Int.reduceToNat,hr1,hr2,hr5,t1ex,t2ex,t3ex,t4ex,t5ex,t6ex,t7ex,t15ex,t16ex,t18ex,t19ex,t20ex,H7ex,H18ex,H20ex,bx46,ax46,fx46,bx46,ax46,fx46,hr47,i48,hr49]
         rw [dQ]
         refine ⟨_,rfl,?_⟩
         refine ⟨rfl,?_⟩
         try simp only [au,seval,-Int.reduceToNat,hr1,hr2,hr5,t1ex,t2ex,t3ex,t4ex,t5ex,t6ex,t7ex,t15ex,t16ex,t18ex,t19ex,t20ex,H7ex,H18ex,H20ex,bx46,ax46,fx46,bx46,ax46,fx46,hr47,i48,hr49]
        ·replace hh:=aj hb51 hh
         obtain ⟨x52,hx52,hh⟩:=ae hh
         obtain ⟨q53a,q53b,q53c,q53d⟩:=M8 bp hx52
         cases hh
         try simp only [au,seval,-Int.reduceToNat,hr1,hr2,hr5,t1ex,t2ex,t3ex,t4ex,t5ex,t6ex,t7ex,t15ex,t16ex,t18ex,t19ex,t20ex,H7ex,H18ex,H20ex,bx46,ax46,fx46,bx46,ax46,fx46,hr47,i48,hr49,q53a,q53b,q53c,q53d]
         rw [aK]
         refine ⟨_,rfl,?_⟩
         refine ⟨v7ex,e+1+1,?_,?_,?_,?_,?_,?_,?_,?_,?_,?_,?_,?_,?_⟩
         all_goals (first | rfl | (simp only [au,seval,-Int.reduceToNat,hr1,hr2,hr5,t1ex,t2ex,t3ex,t4ex,t5ex,t6ex,t7ex,t15ex,t16ex,t18ex,t19ex,t20ex,H7ex,H18ex,H20ex,bx46,ax46,fx46,bx46,ax46,fx46,hr47,i48,hr49,q53a,q53b,q53c,q53d] <;> rfl))
     ·replace hh:=aj hb32 hh
      cases hh
      try simp only [au,seval,-Int.reduceToNat,hr1,hr2,hr5,t1c,t2c,t3c,t4c,t5c,t6c,t7c,t15c,t16c,t18c,t19c,H7c,H18c]
      rw [bk]
      refine ⟨_,rfl,?_⟩
      refine ⟨rfl,⟨v18c,?_,?_,?_,?_⟩⟩
      all_goals (first | rfl | (simp only [au,seval,-Int.reduceToNat,hr1,hr2,hr5,t1c,t2c,t3c,t4c,t5c,t6c,t7c,t15c,t16c,t18c,t19c,H7c,H18c] <;> rfl))
    ·rintro x t H e hx
     rcases o31 with l18cx | rc
     ·
      dsimp only at hx hh
      obtain ⟨rfl,⟨v18cx,t15cx,t16cx,t18cx,H18cx⟩⟩:=hx
      try simp only [au,seval,-Int.reduceToNat,hr1,hr2,hr5,t15cx,t16cx,t18cx,H18cx]
      refine bK (fun hb54 => ?_) (fun hb54 => ?_)
      ·replace hh:=ak hb54 hh
       obtain ⟨r55,hr55,hh⟩:=ae hh
       cases hh
       try simp only [au,seval,-Int.reduceToNat,hr1,hr2,hr5,t15cx,t16cx,t18cx,H18cx,hr55]
      ·replace hh:=aj hb54 hh
       cases hh
       try simp only [au,seval,-Int.reduceToNat,hr1,hr2,hr5,t15cx,t16cx,t18cx,H18cx]
     ·
      dsimp only at hx hh
      obtain ⟨rfl,hE⟩:=hx
      cases hh
      try simp only [bo,bf,bG,cY,cX]
      exact hE
 ·
  clear hh
  have hh:=ho3
  try simp only [au,seval,-Int.reduceToNat,hr1,hr2]
  refine bj (fun hb56 => ?_) (fun hb56 => ?_)
  ·replace hh:=ak hb56 hh
   cases hh
   try simp only [au,seval,-Int.reduceToNat,hr1,hr2]
   rw [an]
   refine ⟨_,rfl,?_⟩
   refine ⟨0,?_,?_,?_,?_,?_,?_,?_,?_,?_,?_⟩
   all_goals (first | rfl | (simp only [au,seval,-Int.reduceToNat,hr1,hr2] <;> rfl))
  ·replace hh:=aj hb56 hh
   try simp only [au,seval,-Int.reduceToNat,hr1,hr2]
   refine bj (fun hb57 => ?_) (fun hb57 => ?_)
   ·replace hh:=ak hb57 hh
    cases hh
    try simp only [au,seval,-Int.reduceToNat,hr1,hr2]
    rw [an]
    refine ⟨_,rfl,?_⟩
    refine ⟨0,?_,?_,?_,?_,?_,?_,?_,?_,?_,?_⟩
    all_goals (first | rfl | (simp only [au,seval,-Int.reduceToNat,hr1,hr2] <;> rfl))
   ·replace hh:=aj hb57 hh
    obtain ⟨r58,hr58,hh⟩:=ae hh
    cases hh
    try simp only [au,seval,-Int.reduceToNat,hr1,hr2,hr58]
    rw [an]
    refine ⟨_,rfl,?_⟩
    refine ⟨0,?_,?_,?_,?_,?_,?_,?_,?_,?_,?_⟩
    all_goals (first | rfl | (simp only [au,seval,-Int.reduceToNat,hr1,hr2,hr58] <;> rfl))
theorem wK:bW Tryz.prog 5 xh:=bW.of (mode := .clean) tok wm mixed Tryz.func5 (by kernel_rfl) ⟨by kernel_rfl,by kernel_rfl⟩ (fun _=>Nat.le_of_ble_eq_true (by kernel_rfl)) (fun x r h=>xM x.1 x.2.1 x.2.2.1 x.2.2.2.1 x.2.2.2.2.1 x.2.2.2.2.2.1 x.2.2.2.2.2.2 r h)
end Go.Proofs.YtpkahnkoecbndaaGreatDoor.Am
namespace Go.Proofs.YtpkahnkoecbndaaGreatDoor.Am
open Go.ChangeShapes Go.WideShapes Go.ChangeAt Go.RowKit Go.Proofs.YtpkahnkoecbndaaGreatDoor.P
set_option maxRecDepth 100000
set_option linter.unusedVariables false
theorem Tryz.own:ownKnob Tryz.prog.godebug=none:=by kernel_rfl
theorem Tryz.laidOut:laidOutB Tryz.prog=true:=by kernel_rfl
theorem Wh (n:Nat):C5 tab (n+1) 9 lM (fun x=>x.size≤140737488351232):=V8 Sw rfl rfl
theorem DP (n:Nat):C5 tab (n+1) 3 (eI .i64) (fun x=>(Lit.int .i64 x).wf=true):=X4 CR rfl rfl
def xS (x:ax):Prop:=x.cR.size≤140737488351232∧((Lit.int .i64 x.bd).wf=true∧((Lit.int .i64 x.bz).wf=true∧((Lit.int .i64 x.dp).wf=true∧((Lit.int .i64 x.cK).wf=true))))
theorem Wg (n:Nat):C5 tab (n+2) 87 aq (fun x=>xS x):=Vh (g:=fun y=>ax.mk y.1 y.2.1 y.2.2.1 y.2.2.2.1 y.2.2.2.2) Hz rfl rfl (fun _=>rfl) (zN (Wh n) rfl (zN (DP n) rfl (zN (DP n) rfl (zN (DP n) rfl (Mj (DP n))))))
theorem V9 (n:Nat):C5 tab (n+3) 22 (oS aq) (fun x=>(x.length*48≤140737488351232∧∀ y∈x,xS y)):=TF Ms rfl rfl (by rw [Hz]; rfl) (Wg n)
def pn (x:aE):Prop:=(x.ah.length*48≤140737488351232∧∀ y∈x.ah,xS y)
theorem Wa (n:Nat):C5 tab (n+4) 24 eS (fun x=>pn x):=Vh (g:=fun y=>aE.mk y) Hs rfl rfl (fun _=>rfl) (Mj (V9 n))
theorem RH (n:Nat):C5 tab (n+2) 25 (oS (eI .i64)) (fun x=>(x.length*8≤140737488351232∧∀ y∈x,(Lit.int .i64 y).wf=true)):=TF Ht rfl rfl (by rw [CR]; rfl) (DP n)
def kc (x:aG):Prop:=(Lit.int .i64 x.bn).wf=true∧((x.eG.length*8≤140737488351232∧∀ y∈x.eG,(Lit.int .i64 y).wf=true)∧(x.cR.size≤140737488351232∧((Lit.int .i64 x.bd).wf=true∧((Lit.int .i64 x.bz).wf=true))))
theorem Wf (n:Nat):C5 tab (n+3) 67 aL (fun x=>kc x):=Vh (g:=fun y=>aG.mk y.1 y.2.1 y.2.2.1 y.2.2.2.1 y.2.2.2.2) Hy rfl rfl (fun _=>rfl) (zN (DP (n+1)) rfl (zN (RH n) rfl (zN (Wh (n+1)) rfl (zN (DP (n+1)) rfl (Mj (DP (n+1)))))))
theorem Wb (n:Nat):C5 tab (n+4) 26 (oS aL) (fun x=>(x.length*64≤140737488351232∧∀ y∈x,kc y)):=TF Hu rfl rfl (by rw [Hy]; rfl) (Wf n)
def G8 (x:aw):Prop:=(Lit.int .i64 x.ag).wf=true∧((x.aa.length*8≤140737488351232∧∀ y∈x.aa,(Lit.int .i64 y).wf=true))
theorem UB (n:Nat):C5 tab (n+3) 49 ij (fun x=>G8 x):=Vh (g:=fun y=>aw.mk y.1 y.2) Mt rfl rfl (fun _=>rfl) (zN (DP (n+1)) rfl (Mj (RH n)))
def Ce (x:aY):Prop:=G8 x.cr∧(G8 x.cq)
theorem UC (n:Nat):C5 tab (n+4) 51 lh (fun x=>Ce x):=Vh (g:=fun y=>aY.mk y.1 y.2) Mu rfl rfl (fun _=>rfl) (zN (UB n) rfl (Mj (UB n)))
def J9 (x:dL):Prop:=Ce x.bx∧(Ce x.aT)
theorem Wd (n:Nat):C5 tab (n+5) 53 lj (fun x=>J9 x):=Vh (g:=fun y=>dL.mk y.1 y.2) Mv rfl rfl (fun _=>rfl) (zN (UC n) rfl (Mj (UC n)))
def kb (x:az):Prop:=(Lit.int .i64 x.bn).wf=true∧(J9 x.bD)
theorem We (n:Nat):C5 tab (n+6) 55 aF (fun x=>kb x):=Vh (g:=fun y=>az.mk y.1 y.2) Hw rfl rfl (fun _=>rfl) (zN (DP (n+4)) rfl (Mj (Wd n)))
theorem Wc (n:Nat):C5 tab (n+7) 27 (oS aF) (fun x=>(x.length*136≤140737488351232∧∀ y∈x,kb y)):=TF Hv rfl rfl (by rw [Hw]; rfl) (We n)
theorem sN:Qb tab 8 [24,3,3,3,25,26,27] (eg (dO eS) (eg (aI .i64) (eg (aI .i64) (eg (aI .i64) (eg (ie (eI .i64)) (eg (ie aL) (ef (ie aF)))))))) (fun x=>pn x.1∧((Lit.int .i64 x.2.1).wf=true∧((Lit.int .i64 x.2.2.1).wf=true∧((Lit.int .i64 x.2.2.2.1).wf=true∧((x.2.2.2.2.1.length*8≤140737488351232∧∀ y∈x.2.2.2.2.1,(Lit.int .i64 y).wf=true)∧((x.2.2.2.2.2.1.length*64≤140737488351232∧∀ y∈x.2.2.2.2.2.1,kc y)∧((x.2.2.2.2.2.2.length*136≤140737488351232∧∀ y∈x.2.2.2.2.2.2,kb y)))))))):=(PF (X3 Hs rfl (Wa 4)) (PF (Xx CR rfl) (PF (Xx CR rfl) (PF (Xx CR rfl) (PF (Ve Ht rfl (RH 6)) (PF (Ve Hu rfl (Wb 4)) (Xy (Ve Hv rfl (Wc 1)))))))))
theorem ru (law : ∀ (a0:aE) (a1:Int) (a2:Int) (a3:Int) (a4:(List Int)) (a5:(List aG)) (a6:(List az)),(pn a0)→((Lit.int .i64 a1).wf=true)→((Lit.int .i64 a2).wf=true)→((Lit.int .i64 a3).wf=true)→((a4.length*8≤140737488351232∧∀ y∈a4,(Lit.int .i64 y).wf=true))→((a5.length*64≤140737488351232∧∀ y∈a5,kc y))→((a6.length*136≤140737488351232∧∀ y∈a6,kb y))→P.eQ a0 a1 a2 a3 a4 a5 a6=some true) (os:Os) (started:os.Started) (H:Type) (enc:TypeId×Value→H) :
  ReturnsInHanded {} Tryz.checked os 5 .any (fun w args=>(Rows.auditAloneSpec.pre enc Tryz.prog Tryz.f5 Rows.auditAloneRow.domain false w args∧laidMetH Tryz.prog Js w)∧sizedMet enc Tryz.prog Tryz.f5 (OpenSpec.ofChange Rows.auditAloneSpec) false w args) (Rows.auditAloneSpec.post enc Tryz.prog Tryz.f5 false true false false):=by
 refine RS (C:=Tryz.checked) (X:=fun w _=>laidMetH Tryz.prog Js w) (fun _ _ _ hh h=>h.of_heap hh) (fun _ _ h=>Ro h) (T:=tab) (tb:=4) (n:=8) tok Tryz.own started (by kernel_rfl) Tryz.func5
  (ChangeSpec.witness_shaped (enc:=enc) (C:=Tryz.checked) (os:=os) (X:=fun w _=>laidMetH Tryz.prog Js w) false (World.doorLaid Tryz.prog 400 os) #[.agg #[.slice none 0 0],.int .i64 0,.int .i64 0,.int .i64 0,.slice none 0 0,.slice none 0 0,.slice none 0 0] 8 rfl (World.shaped_of_RefB (by kernel_rfl) (by kernel_rfl)) (by kernel_rfl) (by kernel_rfl) (by kernel_rfl) (Q0 os _)) Tryz.laidOut (by kernel_rfl) rfl (by kernel_rfl) rfl (fun ds hds => ?_) (fun ar hl hs => ?_)
 ·rw [Tryz.params5] at hds
  match ds,hds with
  | [d0,d1,d2,d3,d4,d5,d6],_=>exact ⟨rfl,rfl,rfl⟩
 ·rw [Tryz.params5] at hl hs
  exact U8 sN wK (fun x hx=>law x.1 x.2.1 x.2.2.1 x.2.2.2.1 x.2.2.2.2.1 x.2.2.2.2.2.1 x.2.2.2.2.2.2 hx.1 hx.2.1 hx.2.2.1 hx.2.2.2.1 hx.2.2.2.2.1 hx.2.2.2.2.2.1 hx.2.2.2.2.2.2) ar hl hs
theorem tX (law : ∀ (a0:aE) (a1:Int) (a2:Int) (a3:Int) (a4:(List Int)) (a5:(List aG)) (a6:(List az)),(pn a0)→((Lit.int .i64 a1).wf=true)→((Lit.int .i64 a2).wf=true)→((Lit.int .i64 a3).wf=true)→((a4.length*8≤140737488351232∧∀ y∈a4,(Lit.int .i64 y).wf=true))→((a5.length*64≤140737488351232∧∀ y∈a5,kc y))→((a6.length*136≤140737488351232∧∀ y∈a6,kb y))→P.eQ a0 a1 a2 a3 a4 a5 a6=some true):Rows.AuditAloneSaid :=
 OpenClaim.holds_of_wide 5 Tryz.f5 rfl rfl rfl rfl rfl rfl rfl ⟨rfl,rfl,rfl,rfl,rfl⟩ rfl rfl rfl rfl rfl (by kernel_rfl) Tryz.func5 (by kernel_rfl)
  (of_decide_eq_true (by kernel_rfl)) (by unfold Func.isWrapper; first | (rw [if_pos (by decide +kernel)]; kernel_rfl) | (rw [if_neg (by decide +kernel)]; exact ⟨rfl,rfl⟩))
  (fun os started H enc _=>ru law os started H enc)
theorem sx (law : ∀ (a0:aE) (a1:Int) (a2:Int) (a3:Int) (a4:(List Int)) (a5:(List aG)) (a6:(List az)),(pn a0)→((Lit.int .i64 a1).wf=true)→((Lit.int .i64 a2).wf=true)→((Lit.int .i64 a3).wf=true)→((a4.length*8≤140737488351232∧∀ y∈a4,(Lit.int .i64 y).wf=true))→((a5.length*64≤140737488351232∧∀ y∈a5,kc y))→((a6.length*136≤140737488351232∧∀ y∈a6,kb y))→P.eQ a0 a1 a2 a3 a4 a5 a6=some true):Rows.AuditAloneCardSaid :=
 Claim7.holds_tied_plain_at .later [] [.data,.data,.data] true Rows.auditAloneCard.stood.harness false
  (tX law) (fun _ h=>by cases h) (by kernel_rfl) (fun _ h=>by cases h) auditAlone_row_tie rfl ⟨rfl,rfl⟩ (by kernel_rfl) rfl
  (fun f fn hf hfn=>by
   obtain rfl:f=5:=Option.some.inj ((show Tryz.prog.funcNamed "kitbag/kitbaglaw51.AuditAlone" = some 5 by kernel_rfl).symm.trans hf) |>.symm
   obtain rfl:fn=Tryz.f5:=(Option.some.inj (Tryz.func5.symm.trans hfn)).symm
   exact ⟨by kernel_rfl,fun j t ht=>by
    rw [Tryz.params5] at ht
    have hm:t∈[24,3,3,3,25,26,27]:=by simpa using Array.mem_of_getElem? ht
    have hall:([24,3,3,3,25,26,27].all fun u => !Tryz.prog.wantsStandIn u)=true:=by kernel_rfl
    exact (show Tryz.prog.wantsStandIn t=false by simpa using List.all_eq_true.1 hall t hm)⟩)
  (by kernel_rfl)
end Go.Proofs.YtpkahnkoecbndaaGreatDoor.Am
namespace Go.Proofs.YtpkahnkoecbndaaGreatDoor.P.T
open Go.RowKit
set_option linter.unusedSimpArgs false
set_option linter.unusedVariables false
theorem yj (n h:Int):dZ n h=some (decide (0≤n∧n≤h)):=by
 unfold dZ
 by_cases h0:n≥0
 ·rw [if_pos (by simpa using h0)]
  have:(0≤n∧n≤h)↔n≤h:=by omega
  simp [this]
 ·rw [if_neg (by simpa using h0)]
  have : ¬ (0≤n∧n≤h):=by omega
  simp [this]
def sA (x:ax):Prop:=x.dp = -1∧x.cK = -1∧(x.cR.size:Int)≤8000∧(0≤x.bd∧x.bd≤1099511627776)∧(0≤x.bz∧x.bz≤1099511627776)
instance (x:ax):Decidable (sA x):=by unfold sA; infer_instance
theorem NV (x:ax):jh x=some (decide (sA x)):=by
 unfold jh
 simp only [yj,Option.bind_some]
 by_cases h1:x.dp = -1
 ·rw [if_pos (by simpa using h1),Option.bind_some]
  by_cases h2:x.cK = -1
  ·rw [if_pos (by simpa using h2)]
   by_cases h3:(x.cR.size:Int)≤8000
   ·rw [if_pos (decide_eq_true h3)]
    by_cases h4:0≤x.bd∧x.bd≤1099511627776
    ·rw [if_pos (decide_eq_true h4)]
     congr 1
     rw [decide_eq_decide]
     exact ⟨fun h=>⟨h1,h2,h3,h4,h⟩,fun h=>h.2.2.2.2⟩
    ·rw [if_neg (by simpa using h4),decide_eq_false (fun h:sA x=>h4 h.2.2.2.1)]
   ·rw [if_neg (by simpa using h3),decide_eq_false (fun h:sA x=>h3 h.2.2.1)]
  ·rw [if_neg (by simpa using h2),decide_eq_false (fun h:sA x=>h2 h.2.1)]
 ·rw [if_neg (by simpa using h1),Option.bind_some,if_neg (by simp),decide_eq_false (fun h:sA x=>h1 h.1)]
def SI:ax:=ax.mk (ByteArray.mk #[]) 0 0 0 0
def Cn (l:List ax) (a b:Int):ax×Int :=
 match P.idx l a,P.idx l b with
 | some x,some y =>
  if IntKind.i64.wrap (x.bd+y.bd) > 1125899906842624∨IntKind.i64.wrap (x.bz+y.bz) > 1125899906842624 then (SI,3)
  else (ax.mk (ByteArray.mk #[]) (IntKind.i64.wrap (x.bd+y.bd)) (IntKind.i64.wrap (x.bz+y.bz)) a b,0)
 | _,_=>(SI,4)
theorem BX {α:Type} {l:List α} {i:Int} (h : ¬ (0≤i∧i<l.length)):P.idx l i=none:=by
 unfold P.idx
 rw [if_neg h]
theorem small {n:Nat} (h:n≤maxLen):(n:Int)≤9223372036854775807:=by
 have:maxLen≤9223372036854775807:=by decide
 omega
theorem TG {l:List ax} (hl:l.length≤maxLen) (a b:Int):jW l a b=some (Cn l a b):=by
 unfold jW
 have hw:IntKind.i64.wrap ((l.length:Int) - 1)=(l.length:Int) - 1:=wrap64 (by omega) (by have:=small hl; omega)
 simp only [yj,hw,Option.bind_some]
 by_cases ha:0≤a∧a<l.length
 ·have ha':(0≤a∧a≤(l.length:Int) - 1):=by omega
  by_cases hb:0≤b∧b<l.length
  ·have hb':(0≤b∧b≤(l.length:Int) - 1):=by omega
   simp only [ha',hb',and_self,decide_true,Bool.not_true,Bool.false_eq_true,if_false,Aa ha.1 ha.2,Aa hb.1 hb.2,Option.bind_some,Cn,decide_eq_true_eq]
   split
   ·rename_i h; rw [if_pos (.inl h)]; rfl
   ·split
    ·rename_i h; rw [if_pos (.inr h)]; rfl
    ·rename_i h h'; rw [if_neg (by intro hh; rcases hh with hh | hh <;> contradiction)]
  ·have hb' : ¬ (0≤b∧b≤(l.length:Int) - 1):=by omega
   simp only [ha',hb',and_self,decide_true,decide_false,Bool.not_true,Bool.not_false,Bool.false_eq_true,if_false,if_true,Aa ha.1 ha.2,BX hb,Cn]
   rfl
 ·have ha' : ¬ (0≤a∧a≤(l.length:Int) - 1):=by omega
  simp only [ha',decide_false,Bool.not_false,if_true,BX ha,Cn]
  rfl
def TD (l:List ax) (i:Nat):Prop:=∀ x,l[i]? = some x→sA x∨Cn (l.take i) x.dp x.cK=(x,0)
def iJ (l:List ax):Prop:=l.length≤2000∧∀ i,i<l.length→TD l i
theorem Oh (x y:ax):((x.cR==y.cR)&&((x.bd==y.bd)&&((x.bz==y.bz)&&((x.dp==y.dp)&&(x.cK==y.cK)))))=true↔x=y:=by
 obtain ⟨a,b,c,d,e⟩:=x
 obtain ⟨a',b',c',d',e'⟩:=y
 simp [US]
theorem rA (v:aE) : ∃ b,dI v=some b∧(b=true↔iJ v.ah):=by
 obtain ⟨l⟩:=v
 unfold dI
 simp only
 by_cases hlen:l.length≤2000
 ·have hle : ¬ ((l.length:Int) > 2000):=by omega
  simp only [hle,decide_false,Bool.false_eq_true,if_false]
  have hm:l.length≤maxLen:=Nat.le_trans hlen (by decide)
  obtain ⟨r,h1,h2⟩:=ja (body:=kR ⟨l⟩) (fun s=>∃ i:Nat,s=i∧i≤l.length∧∀ j,j<i→TD l j) (fun s=>(l.length:Int).toNat - s.toNat)
   (fun r=>match r with | .inl _=>iJ l | .inr b=>b=false∧¬ iJ l) (s:=0) ⟨0,rfl,Nat.zero_le _,fun j hj=>by omega⟩ (by simp only [FU]; omega) (fun s hs=>by
    obtain ⟨i,rfl,hi,hok⟩:=hs
    simp only [kR]
    by_cases hlt:i<l.length
    ·rw [if_pos (by simp; omega)]
     simp only [cp hlt,Option.bind_some,NV]
     have hw:IntKind.i64.wrap ((i:Int)+1)=((i+1:Nat):Int):=by rw [wrap64 (by omega) (by omega)]; rfl
     have hnext:TD l i→(∃ i':Nat,IntKind.i64.wrap ((i:Int)+1)=i'∧i'≤l.length∧∀ j,j<i'→TD l j)∧(l.length:Int).toNat - (IntKind.i64.wrap ((i:Int)+1)).toNat<(l.length:Int).toNat - (i:Int).toNat:=by
      intro hk
      refine ⟨⟨i+1,hw,hlt,fun j hj => ?_⟩,by rw [hw]; omega⟩
      rcases Nat.lt_succ_iff_lt_or_eq.1 hj with h | rfl
      ·exact hok j h
      ·exact hk
     by_cases hleaf:sA l[i]
     ·left
      refine ⟨_,by simp only [hleaf,decide_true,if_true],hnext fun x hx => ?_⟩
      rw [List.getElem?_eq_getElem hlt,Option.some.injEq] at hx
      subst hx; exact .inl hleaf
     ·simp only [hleaf,decide_false,Bool.false_eq_true,if_false,Af hi,Option.bind_some,TG (show (l.take i).length≤maxLen by simp; omega)]
      have hbad:Cn (l.take i) l[i].dp l[i].cK≠(l[i],0)→¬ iJ l:=by
       intro hne hs
       rcases hs.2 i hlt _ (List.getElem?_eq_getElem hlt) with h | h
       ·exact hleaf h
       ·exact hne h
      generalize hp:Cn (l.take i) l[i].dp l[i].cK=p at *
      obtain ⟨y,e⟩:=p
      by_cases he:e=0
      ·subst he
       simp only [bne_self_eq_false,Bool.false_eq_true,if_false]
       by_cases hxy:l[i]=y
       ·left
        have:=(Oh l[i] y).2 hxy
        refine ⟨_,by simp only [this,Bool.not_true,Bool.false_eq_true,if_false],hnext fun x hx => ?_⟩
        rw [List.getElem?_eq_getElem hlt,Option.some.injEq] at hx
        subst hx
        exact .inr (by rw [hp,hxy])
       ·right
        have:=mt (Oh l[i] y).1 hxy
        refine ⟨.inr false,by rw [if_pos (by rw [Bool.not_eq_true] at this; rw [this]; rfl)],rfl,hbad fun h=>hxy ?_⟩
        simp only [Prod.mk.injEq] at h
        exact h.1.symm
      ·right
       refine ⟨.inr false,by rw [if_pos (by simpa using he)],rfl,hbad fun h=>he ?_⟩
       simp only [Prod.mk.injEq] at h
       exact h.2
    ·right
     refine ⟨.inl (),by rw [if_neg (by simp; omega)],hlen,fun j hj=>hok j (by omega)⟩)
  rw [h1]
  cases r with
  | inl u=>exact ⟨true,rfl,by simpa using h2⟩
  | inr b=>obtain ⟨rfl,h3⟩:=h2; exact ⟨false,rfl,by simpa using h3⟩
 ·have hle:((l.length:Int) > 2000):=by omega
  simp only [hle,decide_true,if_true]
  exact ⟨false,rfl,by simp only [Bool.false_eq_true,false_iff]; exact fun h=>hlen h.1⟩
end Go.Proofs.YtpkahnkoecbndaaGreatDoor.P.T
namespace Go.Proofs.YtpkahnkoecbndaaGreatDoor.P.T
open Go.RowKit
set_option linter.unusedSimpArgs false
set_option linter.unusedVariables false
theorem Jm {σ ρ:Type} {body:σ→Option (σ⊕ρ)} {n:Nat} {s s':σ} (h:body s=some (.inl s')):lP body (n+1) s=lP body n s':=by simp only [lP,h]
theorem BZ {σ ρ:Type} {body:σ→Option (σ⊕ρ)} {n:Nat} {s:σ} {r:ρ} (h:body s=some (.inr r)):lP body (n+1) s=some r:=by simp only [lP,h]
theorem eR {i:Nat} (h:i<4611686018427387904):IntKind.i64.wrap ((i:Int)+1)=((i+1:Nat):Int):=by rw [wrap64 (by omega) (by omega)]; omega
theorem fi {α:Type} {l:List α} {i:Nat} {x:α} (h:l[i]? = some x):P.idx l (i:Int)=some x:=sy (by omega) (by simpa using h)
theorem F3 {σ ρ:Type} {body:σ→Option (σ⊕ρ)} (n:Nat) (S:Nat→σ) {r:ρ} (hn:n<4611686018427387904) (hstep : ∀ i,i<n→body (S i)=some (.inl (S (i+1)))) (hend:body (S n)=some (.inr r)):a8 body (S 0)=some r:=by
 have key : ∀ (m i fuel:Nat),i+m=n→m<fuel→lP body fuel (S i)=some r:=by
  intro m
  induction m with
  | zero =>
   intro i fuel hi hf
   obtain ⟨f,rfl⟩ : ∃ f,fuel=f+1:=⟨fuel - 1,by omega⟩
   have:i=n:=by omega
   subst this
   exact BZ hend
  | succ m ih =>
   intro i fuel hi hf
   obtain ⟨f,rfl⟩ : ∃ f,fuel=f+1:=⟨fuel - 1,by omega⟩
   rw [Jm (hstep i (by omega))]
   exact ih (i+1) f (by omega) (by omega)
 exact key n 0 FU (by omega) (by have:FU=1000000000000000000000000:=rfl; omega)
def fK {α ρ:Type} (st:Nat→α→Option ρ):Nat→List α→Option ρ
 | _,[]=>none
 | i,x::l=>match st i x with | some r=>some r | none=>fK st (i+1) l
theorem oa {α ρ:Type} {st:Nat→α→Option ρ} : ∀ {l:List α} {i:Nat},fK st i l=none↔∀ j x,l[j]? = some x→st (i+j) x=none
 | [],i=>by simp [fK]
 | x::l,i=>by
  simp only [fK]
  constructor
  ·intro h j y hj
   cases hs:st i x with
   | some r=>rw [hs] at h; cases h
   | none =>
    rw [hs] at h
    cases j with
    | zero=>simp only [List.getElem?_cons_zero,Option.some.injEq] at hj; subst hj; exact hs
    | succ j =>
     have:=oa.1 h j y (by simpa using hj)
     rw [← this]; congr 1; omega
  ·intro h
   have h0:=h 0 x rfl
   simp only [Nat.add_zero] at h0
   rw [h0]
   refine oa.2 fun j y hj => ?_
   have:=h (j+1) y (by simpa using hj)
   rw [← this]; congr 1; omega
theorem rW {α ρ:Type} {st:Nat→α→Option ρ} {r:ρ} : ∀ {l:List α} {i:Nat},fK st i l=some r→∃ j x,l[j]? = some x∧st (i+j) x=some r
 | [],i,h=>by cases h
 | x::l,i,h=>by
  simp only [fK] at h
  cases hs:st i x with
  | some r' =>
   rw [hs] at h
   exact ⟨0,x,rfl,by rw [Nat.add_zero,hs]; exact h⟩
  | none =>
   rw [hs] at h
   obtain ⟨j,y,h1,h2⟩:=rW h
   exact ⟨j+1,y,by simpa using h1,by rw [← h2]; congr 1; omega⟩
theorem drop_cons {α:Type} {l rest:List α} {i:Nat} {x:α} (h:l.drop i=x::rest):i<l.length∧l[i]? = some x∧l.drop (i+1)=rest:=by
 have hi:i<l.length:=by
  rcases Nat.lt_or_ge i l.length with h1 | h1
  ·exact h1
  ·rw [List.drop_eq_nil_of_le h1] at h; cases h
 rw [List.drop_eq_getElem_cons hi] at h
 simp only [List.cons.injEq] at h
 exact ⟨hi,by rw [List.getElem?_eq_getElem hi,h.1],h.2⟩
theorem Wn {α ρ:Type} (l:List α) (n:Nat) {body:Int→Option (Int⊕(Unit⊕ρ))} (st:Nat→α→Option ρ) (hn:n≤l.length) (hlen:n<4611686018427387904)
  (hb : ∀ (i:Nat) x,i<n→l[i]? = some x→body (i:Int)=some (match st i x with | none => .inl ((i+1:Nat):Int) | some r => .inr (.inr r))) (he:body (n:Int)=some (.inr (.inl ()))) :
  a8 body 0=some (match fK st 0 (l.take n) with | none => .inl () | some r => .inr r):=by
 have key : ∀ (rest:List α) (i fuel:Nat),i≤n→(l.take n).drop i=rest→rest.length<fuel→lP body fuel (i:Int)=some (match fK st i rest with | none => .inl () | some r => .inr r):=by
  intro rest
  induction rest with
  | nil =>
   intro i fuel hi hd hf
   obtain ⟨f,rfl⟩ : ∃ f,fuel=f+1:=⟨fuel - 1,by simp at hf; omega⟩
   have h0:=congrArg List.length hd
   simp at h0
   have:i=n:=by omega
   subst this
   rw [BZ he]
   rfl
  | cons x rest ih =>
   intro i fuel hi hd hf
   obtain ⟨f,rfl⟩ : ∃ f,fuel=f+1:=⟨fuel - 1,by simp at hf; omega⟩
   obtain ⟨h1,h2,h3⟩:=drop_cons hd
   have hin:i<n:=by simp at h1; omega
   have h2':l[i]? = some x:=by rwa [List.getElem?_take_of_lt hin] at h2
   have:=hb i x hin h2'
   cases hs:st i x with
   | some r =>
    rw [hs] at this
    rw [BZ this]
    simp only [fK,hs]
   | none =>
    rw [hs] at this
    rw [Jm this,ih (i+1) f (by omega) h3 (by simp at hf; omega)]
    simp only [fK,hs]
 exact key (l.take n) 0 FU (Nat.zero_le _) rfl (by have:FU=1000000000000000000000000:=rfl; simp; omega)
theorem FW {α ρ:Type} (l:List α) {body:Int→Option (Int⊕(Unit⊕ρ))} (st:Nat→α→Option ρ) (hlen:l.length<4611686018427387904)
  (hb : ∀ (i:Nat) x,l[i]? = some x→body (i:Int)=some (match st i x with | none => .inl ((i+1:Nat):Int) | some r => .inr (.inr r))) (he:body (l.length:Int)=some (.inr (.inl ()))) :
  a8 body 0=some (match fK st 0 l with | none => .inl () | some r => .inr r):=by
 have:=Wn l l.length st (Nat.le_refl _) hlen (fun i x _ h=>hb i x h) he
 rwa [List.take_length] at this
theorem Xl {α:Type} (l:List α) {body:Int→Option (Int⊕(Unit⊕Bool))} (p:Nat→α→Prop) [∀ i x,Decidable (p i x)] (hlen:l.length<4611686018427387904)
  (hb : ∀ (i:Nat) x,l[i]? = some x→body (i:Int)=some (if p i x then .inl ((i+1:Nat):Int) else .inr (.inr false))) (he:body (l.length:Int)=some (.inr (.inl ()))) :
  (∃ h:(∀ i x,l[i]? = some x→p i x),a8 body 0=some (.inl ()))∨(∃ h : ¬ (∀ i x,l[i]? = some x→p i x),a8 body 0=some (.inr false)):=by
 have hs:=FW l (fun i x=>if p i x then none else some false) hlen (fun i x hx=>by
  rw [hb i x hx]
  by_cases h:p i x
  ·rw [if_pos h,if_pos h]
  ·rw [if_neg h,if_neg h]) he
 cases hf:fK (fun i x=>if p i x then none else some false) 0 l with
 | none =>
  refine .inl ⟨fun i x hx => ?_,by rw [hs,hf]⟩
  have:=oa.1 hf i x hx
  simp only [Nat.zero_add] at this
  by_cases h:p i x
  ·exact h
  ·rw [if_neg h] at this; cases this
 | some r =>
  obtain ⟨j,x,h1,h2⟩:=rW hf
  simp only [Nat.zero_add] at h2
  by_cases h:p j x
  ·rw [if_pos h] at h2; cases h2
  ·rw [if_neg h] at h2
   cases h2
   exact .inr ⟨fun hall=>h (hall j x h1),by rw [hs,hf]⟩
def Oe (row:List Int) (n:Int):Prop:=0≤n∧n≤1099511627776∧row.length≤100∧(row.length:Int)≤n∧∀ i x,row[i]? = some x→0≤x∧x<n - (i:Nat)
open Classical in
theorem rz {row:List Int} (n:Int) (hr:row.length<4611686018427387904):jf row n=some (decide (Oe row n)):=by
 unfold jf
 by_cases h1:n<0
 ·rw [if_pos (by simp [h1])]
  have : ¬ Oe row n:=fun h=>by have:=h.1; omega
  simp [this]
 rw [if_neg (by simp; omega)]
 by_cases h2:n > 1099511627776
 ·rw [if_pos (by simp; omega)]
  have : ¬ Oe row n:=fun h=>by have:=h.2.1; omega
  simp [this]
 rw [if_neg (by simp; omega)]
 have hm:(if 100<n then (100:Int) else n)=min 100 n:=by
  split <;> omega
 simp only [Option.bind_some,hm]
 by_cases h3:(row.length:Int) > min 100 n
 ·rw [if_pos (by simp; omega)]
  have : ¬ Oe row n:=fun h=>by have:=h.2.2.1; have:=h.2.2.2.1; omega
  simp [this]
 rw [if_neg (by simp; omega)]
 rcases Xl row (body:=jE row n) (fun i x=>0≤x∧x<n - (i:Nat)) hr (fun i x hx=>by
   have hi:=(List.getElem?_eq_some_iff.1 hx).1
   unfold jE
   simp only [fi hx,Option.bind_some,eR (show i<4611686018427387904 by omega)]
   rw [if_pos (by simp; omega),wrap64 (by omega) (by omega)]
   by_cases hx0:x<0
   ·rw [if_pos (by simp [hx0]),if_neg (by omega)]
   rw [if_neg (by simp; omega)]
   by_cases hx1:x≥n - (i:Nat)
   ·rw [if_pos (by simp; omega),if_neg (by omega)]
   ·rw [if_neg (by simp; omega),if_pos (by omega)]) (by unfold jE; simp) with ⟨h,e⟩ | ⟨h,e⟩
 ·rw [e]
  have:Oe row n:=⟨by omega,by omega,by omega,by omega,h⟩
  simp [this]
 ·rw [e]
  have : ¬ Oe row n:=fun k=>h k.2.2.2.2
  simp [this]
end Go.Proofs.YtpkahnkoecbndaaGreatDoor.P.T
namespace Go.Proofs.YtpkahnkoecbndaaGreatDoor.P.T
open Go.RowKit
set_option linter.unusedSimpArgs false
set_option linter.unusedVariables false
theorem xQ:maxLen=9223372036854775807:=rfl
theorem Gf {α:Type} {B:Nat} {l m:List α} (h1:l.length+m.length≤1000000) (h2:B≤1000000):iO B l m=some (l++m):=by
 unfold iO
 have:=xQ
 have h3:(l.length+m.length)*B≤1000000*1000000:=Nat.mul_le_mul h1 h2
 rw [if_pos ⟨by omega,by omega⟩]
theorem V6 {α:Type} {B k:Nat} {z:α} (h1:k≤1000000) (h2:B≤1000000):L5 B (k:Int) (k:Int) z=some (List.replicate k z):=by
 unfold L5
 have:=xQ
 have h3:k*B≤1000000*1000000:=Nat.mul_le_mul h1 h2
 rw [if_pos ⟨by omega,by omega,by omega,by simpa using by omega⟩]
 simp
theorem TT {x m:Int} (hx:0≤x) (hm:m≠0):vn .i64 x m=some (x % m):=by
 unfold vn
 rw [if_neg hm,Int.tmod_eq_emod_of_nonneg hx]
theorem RZ {α:Type} {A B:List α} {i:Nat} {a:α} (hl:A.length=B.length) (ha:A[i]? = some a):(A.take i++B.drop i).set i a=A.take (i+1)++B.drop (i+1):=by
 have hi:=(List.getElem?_eq_some_iff.1 ha).1
 have e1:A.take (i+1)=A.take i++[a]:=by
  rw [List.take_succ_eq_append_getElem hi]
  have:=(List.getElem?_eq_some_iff.1 ha).2
  rw [this]
 have e2:B.drop i=B[i]'(by omega)::B.drop (i+1):=List.drop_eq_getElem_cons (by omega)
 have hlen:(A.take i).length=i:=by simp; omega
 rw [e1,e2,List.set_append_right _ _ (by omega),hlen,Nat.sub_self,List.set_cons_zero,List.append_assoc]
 rfl
theorem Rj {α:Type} {A B:List α} {i:Nat} (hl:A.length=B.length) (hi:i<B.length):(A.take i++B.drop i)[i]? = B[i]?:=by
 have hlen:(A.take i).length=i:=by simp; omega
 rw [List.getElem?_append_right (by omega),hlen,Nat.sub_self,List.getElem?_drop,Nat.add_zero]
def Ir (rows:List (List Int)) (j:Nat):Int:=(rows.map fun r=>r.getD j 0).sum
def tp (rows:List (List Int)) (n:Int) (k:Nat):List Int:=(List.range k).map fun j=>Ir rows j % (n - (j:Nat))
def Xg (rows:List (List Int)) (n k:Int):Prop:=0≤k∧k≤100∧k≤n∧n≤1099511627776∧rows.length≤400∧∀ r∈rows,(r.length:Int)=k∧Oe r n
theorem yh (rows:List (List Int)) (n:Int) (k:Nat):(tp rows n k).length=k:=by simp [tp]
theorem SJ {rows:List (List Int)} {n:Int} {k j:Nat} (h:j<k):(tp rows n k)[j]? = some (Ir rows j % (n - (j:Nat))):=by simp [tp,h]
theorem OZ (rows:List (List Int)) (r:List Int) (j:Nat):Ir (rows++[r]) j=Ir rows j+r.getD j 0:=by simp [Ir]
theorem Vo (n:Int) (k:Nat):tp [] n k=List.replicate k 0:=by
 apply List.ext_getElem?
 intro j
 by_cases h:j<k
 ·rw [SJ h]; simp [Ir,h]
 ·rw [List.getElem?_eq_none (by rw [yh]; omega),List.getElem?_eq_none (by simp; omega)]
theorem S5 {pre:List (List Int)} {row:List Int} {n:Int} {k:Nat} (hk:k≤100) (hkn:(k:Int)≤n) (hn:n≤1099511627776) (hl:row.length=k) (hr:Oe row n) :
  a8 (js n row) (0,tp pre n k)=some (tp (pre++[row]) n k):=by
 have hlen:(tp (pre++[row]) n k).length=(tp pre n k).length:=by rw [yh,yh]
 have:=F3 (body:=js n row) k (fun i=>((i:Int),(tp (pre++[row]) n k).take i++(tp pre n k).drop i)) (r:=tp (pre++[row]) n k) (by omega) (fun i hi=>by
   have hx:row[i]? = some (row[i]'(by omega)):=List.getElem?_eq_getElem (by omega)
   obtain ⟨b1,b2⟩:=hr.2.2.2.2 i _ hx
   have hy:=Rj hlen (i:=i) (by rw [yh]; exact hi)
   rw [SJ hi] at hy
   have c1:0≤Ir pre i % (n - (i:Nat)):=Int.emod_nonneg _ (by omega)
   have c2:Ir pre i % (n - (i:Nat))<n - (i:Nat):=Int.emod_lt_of_pos _ (by omega)
   unfold js
   dsimp only
   rw [if_pos (by simp; omega)]
   simp only [fi hx,fi hy,Option.bind_some,eR (show i<4611686018427387904 by omega)]
   rw [wrap64 (by omega) (by omega),wrap64 (by omega) (by omega),TT (by omega) (by omega)]
   simp only [Option.bind_some,Int.toNat_natCast]
   rw [RZ hlen (by
    rw [SJ hi,OZ]
    have:row.getD i 0=row[i]'(by omega):=by simp [List.getD,hx]
    rw [this,Int.emod_add_emod])]) (by
   unfold js
   dsimp only
   rw [if_neg (by simp; omega)]
   have e1:(tp (pre++[row]) n k).take k=tp (pre++[row]) n k:=List.take_of_length_le (by rw [yh]; omega)
   have e2:(tp pre n k).drop k=[]:=List.drop_eq_nil_of_le (by rw [yh]; omega)
   rw [e1,e2,List.append_nil])
 simpa using this
open Classical in
theorem S6 {rows:List (List Int)} {n k:Int} (h1:rows.length<4611686018427387904) (h2 : ∀ r∈rows,r.length<4611686018427387904):ly rows n k=some (if Xg rows n k then (tp rows n k.toNat,0) else ([],1)):=by
 unfold ly
 by_cases g1:k<0
 ·rw [if_pos (by simp; omega),if_neg (fun h=>by have:=h.1; omega)]; rfl
 rw [if_neg (by simp; omega)]
 by_cases g2:k > 100
 ·rw [if_pos (by simp; omega),if_neg (fun h=>by have:=h.2.1; omega)]; rfl
 rw [if_neg (by simp; omega)]
 by_cases g3:n<k
 ·rw [if_pos (by simp; omega),if_neg (fun h=>by have:=h.2.2.1; omega)]; rfl
 rw [if_neg (by simp; omega)]
 by_cases g4:n > 1099511627776
 ·rw [if_pos (by simp; omega),if_neg (fun h=>by have:=h.2.2.2.1; omega)]; rfl
 rw [if_neg (by simp; omega)]
 simp only [Option.bind_some]
 by_cases g5:(rows.length:Int) > 400
 ·rw [if_pos (by simp; omega),if_neg (fun h=>by have:=h.2.2.2.2.1; omega)]
 rw [if_neg (by simp; omega)]
 obtain ⟨K,rfl⟩ : ∃ K:Nat,k=K:=⟨k.toNat,by omega⟩
 rw [V6 (by omega) (by omega),← Vo n K]
 simp only [Option.bind_some,Int.toNat_natCast]
 obtain ⟨r,hr,hp⟩:=ja (body:=mS rows n (K:Int)) (fun s=>∃ i:Nat,s=((i:Int),tp (rows.take i) n K)∧i≤rows.length∧∀ j x,j<i→rows[j]? = some x→(x.length:Int)=K∧Oe x n) (fun s=>(rows.length - s.1).toNat)
  (fun r=>match r with | .inl l=>l=tp rows n K∧∀ r∈rows,(r.length:Int)=K∧Oe r n | .inr b=>b=([],1)∧¬ ∀ r∈rows,(r.length:Int)=K∧Oe r n) (s:=(0,tp [] n K)) ⟨0,rfl,by omega,fun j x h=>by omega⟩ (by have:FU=1000000000000000000000000:=rfl; dsimp only; omega)
  (by
   rintro s ⟨i,rfl,k1,k2⟩
   unfold mS
   dsimp only
   by_cases hi:i<rows.length
   ·rw [if_pos (by simp; omega)]
    have hx:rows[i]? = some rows[i]:=List.getElem?_eq_getElem hi
    simp only [fi hx,Option.bind_some]
    by_cases q1:(rows[i].length:Int)=K
    ·rw [if_neg (by simp [q1]),rz n (h2 _ (List.getElem_mem hi))]
     simp only [Option.bind_some]
     by_cases q2:Oe rows[i] n
     ·rw [if_neg (by simp [q2]),S5 (by omega) (by omega) (by omega) (by omega) q2]
      simp only [Option.bind_some,eR (show i<4611686018427387904 by omega)]
      refine .inl ⟨_,rfl,⟨i+1,?_,by omega,fun j x hj hx' => ?_⟩,by omega⟩
      ·rw [List.take_succ_eq_append_getElem hi]
      ·by_cases hji:j=i
       ·subst hji; rw [hx] at hx'; cases hx'; exact ⟨q1,q2⟩
       ·exact k2 j x (by omega) hx'
     ·rw [if_pos (by simp [q2])]
      exact .inr ⟨_,rfl,rfl,fun hall=>q2 (hall _ (List.getElem_mem hi)).2⟩
    ·rw [if_pos (by simp; omega)]
     simp only [Option.bind_some]
     rw [if_pos trivial]
     exact .inr ⟨_,rfl,rfl,fun hall=>q1 (hall _ (List.getElem_mem hi)).1⟩
   ·rw [if_neg (by simp; omega)]
    refine .inr ⟨_,rfl,?_,fun r hr => ?_⟩
    ·rw [List.take_of_length_le (by omega)]
    ·obtain ⟨j,hj,rfl⟩:=List.getElem_of_mem hr
     exact k2 j _ (by omega) (List.getElem?_eq_getElem hj))
 rw [hr]
 simp only [Option.bind_some]
 cases r with
 | inl l =>
  obtain ⟨rfl,hall⟩:=hp
  rw [if_pos ⟨by omega,by omega,by omega,by omega,by omega,hall⟩]
 | inr b =>
  obtain ⟨rfl,hall⟩:=hp
  rw [if_neg (fun h=>hall h.2.2.2.2.2)]
end Go.Proofs.YtpkahnkoecbndaaGreatDoor.P.T
namespace Go.Proofs.YtpkahnkoecbndaaGreatDoor.P.T
open Go.RowKit
set_option linter.unusedSimpArgs false
set_option linter.unusedVariables false
theorem KV {l:List Int} (hl:l.length*8≤140737488351232):jg l=some (decide (¬ l.Nodup)):=by
 unfold jg jD bU jd Ah
 simp only [Option.bind_some]
 unfold wX
 rw [if_pos hl]
 simp only [Option.bind_some]
 unfold NA
 have hlen:=fA l
 rw [if_pos (by omega)]
 simp only [Option.bind_some]
 have hperm:(gn l).Perm l:=List.mergeSort_perm _ _
 have hsort:(gn l).Pairwise (fun a b=>decide (a≤b)=true):=List.pairwise_mergeSort (fun a b c h1 h2=>by simp at *; omega) (fun a b=>by simp; omega) l
 have hpos : ∀ (s:List Int) (h:s.length=s.length),(Lib.compact s).length≤s.length:=fun s _=>by
  unfold Lib.compact Lib.compactUpTo
  rw [List.length_map]
  refine Nat.le_trans (List.length_filter_le _ _) (by simp)
 by_cases hn:l.Nodup
 ·have hs:(gn l).Nodup:=hperm.nodup_iff.2 hn
  have:Lib.compact (gn l)=gn l:=Lib.compact_all _ fun j hj=>by
   unfold Lib.keeps
   by_cases h0:j=0
   ·simp [h0]
   ·have h1:j - 1<(gn l).length:=by omega
    have:=(List.pairwise_iff_getElem.1 hs) (j - 1) j h1 hj (by omega)
    simp only [decide_eq_true_eq]
    refine .inr ?_
    simp only [List.getElem!_toArray]
    rw [getElem!_pos (gn l) j hj,getElem!_pos (gn l) (j - 1) h1]
    exact fun h=>this h.symm
  rw [this,hlen]
  simp [hn]
 ·have:(Lib.compact (gn l)).length<l.length:=by
   refine Nat.lt_of_le_of_ne (by rw [← hlen]; exact hpos _ rfl) fun he=>hn (hperm.nodup_iff.1 ?_)
   unfold Lib.compact Lib.compactUpTo at he
   rw [List.length_map] at he
   have hall:=(List.length_filter_eq_length_iff (l:=List.range (gn l).length) (p:=Lib.keeps (gn l).toArray)).1 (by rw [he,List.length_range,hlen])
   refine List.pairwise_iff_getElem.2 fun i j hi hj hij => ?_
   have hk:=hall j (List.mem_range.2 hj)
   unfold Lib.keeps at hk
   simp only [decide_eq_true_eq] at hk
   have h1:j - 1<(gn l).length:=by omega
   rcases hk with hk | hk
   ·omega
   ·simp only [List.getElem!_toArray] at hk
    rw [getElem!_pos (gn l) j hj,getElem!_pos (gn l) (j - 1) h1] at hk
    have a2:=(List.pairwise_iff_getElem.1 hsort) (j - 1) j h1 hj (by omega)
    simp only [decide_eq_true_eq] at a2
    by_cases hij':i=j - 1
    ·subst hij'; exact fun h=>hk h.symm
    ·have a1:=(List.pairwise_iff_getElem.1 hsort) i (j - 1) hi h1 (by omega)
     simp only [decide_eq_true_eq] at a1
     omega
  simp [hn]
  omega
end Go.Proofs.YtpkahnkoecbndaaGreatDoor.P.T
namespace Go.Proofs.YtpkahnkoecbndaaGreatDoor.P.T
open Go.RowKit
set_option linter.unusedSimpArgs false
set_option linter.unusedVariables false
theorem vK {l:List Int} (hl:l.length≤1000):bA l=some l:=by
 unfold bA
 rw [Gf (by simp; omega) (by omega)]
 rfl
end Go.Proofs.YtpkahnkoecbndaaGreatDoor.P.T
namespace Go.Proofs.YtpkahnkoecbndaaGreatDoor.P.T
open Go.RowKit
set_option linter.unusedSimpArgs false
set_option linter.unusedVariables false
def VF (l:List Int):Prop:=∀ x∈l,-9223372036854775808≤x∧x≤9223372036854775807
theorem Fq : ∀ {l:List Int},VF l→(iM l).length≤22*l.length
 | [],_=>by simp [iM]
 | x::l,h=>by
  have h1:=Lib.itoa_length_le x (h x (by simp)).1 (h x (by simp)).2
  have h2:=Fq (l:=l) fun y hy=>h y (by simp [hy])
  have e:iM (x::l)=Lib.itoa x++[59]++iM l:=by simp [iM]
  rw [e]
  simp
  omega
theorem Fp {l:List Int} (h:VF l) (hl:l.length≤200):(ml l).length≤5000:=by
 have h1:=Fq h
 have h2:=Lib.itoa_length_le (l.length:Int) (by omega) (by omega)
 unfold ml
 simp
 omega
def SL (l:List Int):ByteArray:=⟨(ml l).toArray⟩
theorem SM {l:List Int} (h:VF l) (hl:l.length≤200):(SL l).size≤5000:=by
 have:=Fp h hl
 simpa [SL,ByteArray.size] using this
theorem M0 {l:List Int} (h:VF l) (hl:l.length≤200):kg l=some (SL l):=by
 unfold kg tO N5
 have:=Fp h hl
 rw [if_pos ⟨h,by omega,by omega⟩]
 rfl
end Go.Proofs.YtpkahnkoecbndaaGreatDoor.P.T
namespace Go.Proofs.YtpkahnkoecbndaaGreatDoor.P.T
open Go.RowKit
set_option linter.unusedSimpArgs false
set_option linter.unusedVariables false
def kE (l:List ax) (i:Int) (t:ByteArray) (v b:Int):Prop:=iJ l∧∃ x,P.idx l i=some x∧x.cR=t∧x.bd=v∧x.bz=b
open Classical in
theorem HH {l:List ax} (i:Int) (t:ByteArray) (v b:Int):gU ⟨l⟩ i t v b=some (decide (kE l i t v b)):=by
 obtain ⟨q,h1,h2⟩:=rA ⟨l⟩
 unfold gU
 rw [h1]
 simp only [Option.bind_some]
 cases q with
 | false =>
  have : ¬ kE l i t v b:=fun h=>by have:=h2.2 h.1; cases this
  simp [this]
 | true =>
  have hs:iJ l:=h2.1 rfl
  have hm:l.length≤maxLen:=Nat.le_trans hs.1 (by decide)
  have hw:IntKind.i64.wrap ((l.length:Int) - 1)=(l.length:Int) - 1:=wrap64 (by omega) (by have:=small hm; omega)
  simp only [Bool.not_true,Bool.false_eq_true,if_false,yj,hw,Option.bind_some]
  by_cases hi:0≤i∧i<l.length
  ·have hi':0≤i∧i≤(l.length:Int) - 1:=by omega
   simp only [hi',and_self,decide_true,Bool.not_true,Bool.false_eq_true,if_false]
   have hx:=Aa (l:=l) hi.1 hi.2
   generalize l[i.toNat]'(by omega)=x at hx
   have hop:kE l i t v b↔x.cR=t∧x.bd=v∧x.bz=b:=by
    unfold kE
    rw [hx]
    constructor
    ·rintro ⟨_,y,e,h⟩; cases e; exact h
    ·intro h; exact ⟨hs,x,rfl,h⟩
   simp only [hx,Option.bind_some,TS]
   by_cases g1:x.cR=t
   ·rw [if_pos (decide_eq_true g1)]
    by_cases g2:x.bd=v
    ·rw [if_pos (by simp [g2])]
     congr 1
     by_cases g3:x.bz=b
     ·have:kE l i t v b:=hop.2 ⟨g1,g2,g3⟩
      simp [this,g3]
     ·have : ¬ kE l i t v b:=fun h=>g3 (hop.1 h).2.2
      simp [this,g3]
    ·have : ¬ kE l i t v b:=fun h=>g2 (hop.1 h).2.1
     rw [if_neg (by simp [g2])]
     simp [this]
   ·have : ¬ kE l i t v b:=fun h=>g1 (hop.1 h).1
    rw [if_neg (by simp [g1])]
    simp [this]
  ·have hi' : ¬ (0≤i∧i≤(l.length:Int) - 1):=by omega
   have : ¬ kE l i t v b:=by
    rintro ⟨_,x,e,_⟩
    rw [BX hi] at e
    cases e
   simp [hi',this]
theorem P8 (v:aE) (n:Int) (hl:v.ah.length≤4611686018427387904 - 1) : ∃ b,qy v n=some b∧(b=true→(v.ah.length:Int)≤n):=by
 unfold qy
 obtain ⟨r,hr,hp⟩:=ja (body:=qz v n) (fun s=>∃ i:Nat,s=i∧i≤v.ah.length) (fun s=>(v.ah.length - s).toNat) (fun r=>match r with | .inl _=>True | .inr b=>b=false) (s:=0) ⟨0,rfl,by omega⟩
  (by have:FU=1000000000000000000000000:=rfl; omega) (by
   rintro s ⟨i,rfl,h1⟩
   unfold qz
   dsimp only
   by_cases hi:i<v.ah.length
   ·rw [if_pos (by simp; omega)]
    simp only [Option.bind_some]
    by_cases hn:(i:Int)<n
    ·rw [if_pos (by simp; omega)]
     simp only [fi (List.getElem?_eq_getElem hi),Option.bind_some,eR (show i<4611686018427387904 by omega)]
     split
     ·exact .inr ⟨_,rfl,rfl⟩
     ·exact .inl ⟨_,rfl,⟨i+1,rfl,by omega⟩,by omega⟩
    ·rw [if_neg (by simp; omega)]
     exact .inr ⟨_,rfl,trivial⟩
   ·rw [if_neg (by simp; omega)]
    exact .inr ⟨_,rfl,trivial⟩)
 rw [hr]
 simp only [Option.bind_some]
 cases r with
 | inl u=>exact ⟨_,rfl,fun h=>by simpa using h⟩
 | inr b=>subst hp; exact ⟨_,rfl,fun h=>by cases h⟩
end Go.Proofs.YtpkahnkoecbndaaGreatDoor.P.T
namespace Go.Proofs.YtpkahnkoecbndaaGreatDoor.P.T
open Go.RowKit
set_option linter.unusedSimpArgs false
set_option linter.unusedVariables false
theorem Xk {α ρ:Type} (l:List α) {body:Int→Option (Int⊕(Unit⊕ρ))} (p:Nat→α→Prop) (bad:ρ) [∀ i x,Decidable (p i x)] (hlen:l.length<4611686018427387904)
  (hb : ∀ (i:Nat) x,l[i]? = some x→body (i:Int)=some (if p i x then .inl ((i+1:Nat):Int) else .inr (.inr bad))) (he:body (l.length:Int)=some (.inr (.inl ()))) :
  (∃ h:(∀ i x,l[i]? = some x→p i x),a8 body 0=some (.inl ()))∨(∃ h : ¬ (∀ i x,l[i]? = some x→p i x),a8 body 0=some (.inr bad)):=by
 have hs:=FW l (fun i x=>if p i x then none else some bad) hlen (fun i x hx=>by
  rw [hb i x hx]
  by_cases h:p i x
  ·rw [if_pos h,if_pos h]
  ·rw [if_neg h,if_neg h]) he
 cases hf:fK (fun i x=>if p i x then none else some bad) 0 l with
 | none =>
  refine .inl ⟨fun i x hx => ?_,by rw [hs,hf]⟩
  have:=oa.1 hf i x hx
  simp only [Nat.zero_add] at this
  by_cases h:p i x
  ·exact h
  ·rw [if_neg h] at this; cases this
 | some r =>
  obtain ⟨j,x,h1,h2⟩:=rW hf
  simp only [Nat.zero_add] at h2
  by_cases h:p j x
  ·rw [if_pos h] at h2; cases h2
  ·rw [if_neg h] at h2
   cases h2
   exact .inr ⟨fun hall=>h (hall j x h1),by rw [hs,hf]⟩
def Ge (v:aE) (seals:List Int) (rows:List (List Int)) (blinds:List Int):Prop:=∀ i x,seals[i]? = some x→kE v.ah x (SL (rows.getD i [])) 0 (blinds.getD i 0)
open Classical in
noncomputable def RI (v:aE) (seals:List Int) (rows:List (List Int)) (blinds:List Int) (n k:Int):List Int×Int :=
 if Xg rows n k then (if seals.length≠rows.length∨blinds.length≠rows.length then ([],2) else if ¬ seals.Nodup then ([],5) else if Ge v seals rows blinds then (tp rows n k.toNat,0) else ([],22)) else ([],1)
open Classical in
theorem S4 {v:aE} {seals:List Int} {rows:List (List Int)} {blinds:List Int} {n k:Int} (h1:rows.length<4611686018427387904) (h2 : ∀ r∈rows,r.length<4611686018427387904∧VF r) (h3:seals.length*8≤140737488351232) :
  kf v seals rows blinds n k=some (RI v seals rows blinds n k):=by
 unfold kf RI
 rw [S6 h1 fun r hr=>(h2 r hr).1]
 simp only [Option.bind_some]
 by_cases hok:Xg rows n k
 ·rw [if_pos hok,if_pos hok,if_neg (by simp)]
  by_cases q1:seals.length=rows.length
  ·rw [if_neg (by simp [q1])]
   simp only [Option.bind_some]
   by_cases q2:blinds.length=rows.length
   ·rw [if_neg (by simp [q2]),if_neg (by simp [q1,q2]),KV h3]
    simp only [Option.bind_some]
    by_cases q3:seals.Nodup
    ·rw [if_neg (by simp [q3]),if_neg (by simp [q3])]
     rcases Xk seals (body:=kQ v seals rows blinds) (fun i x=>kE v.ah x (SL (rows.getD i [])) 0 (blinds.getD i 0)) ([],22) (by omega) (fun i x hx=>by
       have hi:=(List.getElem?_eq_some_iff.1 hx).1
       have hr:rows[i]? = some (rows[i]'(by omega)):=List.getElem?_eq_getElem (by omega)
       have hb:blinds[i]? = some (blinds[i]'(by omega)):=List.getElem?_eq_getElem (by omega)
       have hm:=List.mem_of_getElem? hr
       unfold kQ
       dsimp only
       rw [if_pos (by simp; omega)]
       simp only [fi hx,fi hr,Option.bind_some]
       rw [M0 (h2 _ hm).2 (by have:=(hok.2.2.2.2.2 _ hm).1; have:=hok.2.1; omega)]
       simp only [Option.bind_some,fi hb]
       rw [show v=⟨v.ah⟩ from rfl,HH]
       have e1:rows.getD i []=rows[i]'(by omega):=by simp [List.getD,hr]
       have e2:blinds.getD i 0=blinds[i]'(by omega):=by simp [List.getD,hb]
       rw [e1,e2]
       simp only [Option.bind_some,eR (show i<4611686018427387904 by omega)]
       by_cases ho:kE v.ah x (SL (rows[i]'(by omega))) 0 (blinds[i]'(by omega))
       ·rw [if_neg (by simp [ho]),if_pos ho]
       ·rw [if_pos (by simp [ho]),if_neg ho]) (by unfold kQ; simp) with ⟨h,e⟩ | ⟨h,e⟩
     ·rw [e,if_pos (show Ge v seals rows blinds from h)]; rfl
     ·rw [e,if_neg (show ¬ Ge v seals rows blinds from h)]; rfl
    ·rw [if_pos (by simp [q3]),if_pos q3]
   ·rw [if_pos (by simp; omega),if_pos (.inr q2)]
  ·rw [if_pos (by simp; omega)]
   simp only [Option.bind_some]
   rw [if_pos trivial,if_pos (.inl q1)]
 ·rw [if_neg hok,if_neg hok,if_pos (by simp)]
theorem put_eq {l:List ax} (hl:l.length<10000) (x:ax):lA ⟨l⟩ x=some (⟨l++[x]⟩,(l.length:Int),0):=by
 have hm:=xQ
 unfold lA dY ke iO
 simp only [List.length_nil,Nat.zero_add,List.nil_append,List.length_cons]
 rw [if_pos (by omega)]
 simp only [Option.bind_some]
 rw [if_pos (by omega)]
 simp only [Option.bind_some]
 rw [if_pos (by omega)]
 rfl
theorem KH {l:List ax} {x:ax} (hs:iJ l) (hl:l.length<2000) (hx:sA x):iJ (l++[x]):=by
 refine ⟨by simp; omega,fun i hi y hy => ?_⟩
 simp only [List.length_append,List.length_cons,List.length_nil] at hi
 by_cases h:i<l.length
 ·rw [List.getElem?_append_left h] at hy
  rw [List.take_append_of_le_length (by omega)]
  exact hs.2 i h y hy
 ·have:i=l.length:=by omega
  subst this
  simp at hy
  subst hy
  exact .inl hx
theorem S3 {l:List ax} (hs:iJ l) (hl:l.length<1000) {t:ByteArray} (ht:(t.size:Int)≤8000) {b:Int} (hb:0≤b∧b≤1099511627776):jV ⟨l⟩ t 0 b=some (⟨l++[ax.mk t 0 b (-1) (-1)]⟩,(l.length:Int),0):=by
 obtain ⟨q,h1,h2⟩:=rA ⟨l⟩
 have hq:q=true:=h2.2 hs
 subst hq
 have hleaf:sA (ax.mk t 0 b (-1) (-1)):=⟨rfl,rfl,ht,⟨by simp,by simp⟩,hb⟩
 unfold jV
 simp only [h1,Option.bind_some,Bool.not_true,Bool.false_eq_true,if_false,NV]
 simp only [hleaf,decide_true,Bool.not_true,Bool.false_eq_true,if_false]
 rw [if_neg (by simp; omega),put_eq (by omega)]
 rfl
theorem TU {r:List Int} {n k:Int} (h1:0≤k∧k≤100∧k≤n∧n≤1099511627776) (h2:(r.length:Int)=k) (h3:Oe r n):Xg [r] n k:=⟨h1.1,h1.2.1,h1.2.2.1,h1.2.2.2,by simp,fun x hx=>by simp at hx; subst hx; exact ⟨h2,h3⟩⟩
theorem Xz {a b n:Int} (h:0≤a∧a<n∧0≤b∧b<n - 1∧2≤n∧n≤1000):Oe [a,b] n:=by
 refine ⟨by omega,by omega,by simp,by simp; omega,fun i x hx => ?_⟩
 match i with
 | 0=>simp at hx; subst hx; simp; omega
 | 1=>simp at hx; subst hx; simp; omega
 | i+2=>simp at hx
theorem SQ {y:Int} (h:(Lit.int .i64 y).wf=true) : -9223372036854775808≤y∧y≤9223372036854775807:=by
 have h':(decide (IntKind.i64.min≤y)&&decide (y≤IntKind.i64.max))=true:=h
 simp only [Bool.and_eq_true,decide_eq_true_eq] at h'
 exact h'
end Go.Proofs.YtpkahnkoecbndaaGreatDoor.P.T
namespace Go.Proofs.YtpkahnkoecbndaaGreatDoor.P
open Go.RowKit
set_option linter.unusedSimpArgs false
set_option linter.unusedVariables false
def aP (n:Nat):List Int:=if h:n=0 then [] else ((n % 1048576:Nat):Int)::aP (n / 1048576)
termination_by n
decreasing_by omega
def dv:List Int→Int
 | []=>0
 | d::l=>d+1048576*dv l
def Dg (l:List Int):Prop:=∀ d∈l,0≤d∧d<1048576
def pw (i:Nat):Int:=1048576 ^ i
theorem mJ:pw 0=1:=rfl
theorem jO (i:Nat):pw (i+1)=1048576*pw i:=by unfold pw; rw [Int.pow_succ,Int.mul_comm]
theorem lu (i:Nat):0<pw i:=by unfold pw; exact Int.pow_pos (by decide)
theorem Cq (i j:Nat):pw (i+j)=pw i*pw j:=by unfold pw; rw [Int.pow_add]
theorem tB {i j:Nat} (h:i≤j):pw i≤pw j:=by
 obtain ⟨k,rfl⟩:=Nat.le.dest h
 rw [Cq]
 have h1:=lu i
 have h2:=lu k
 calc pw i=pw i*1:=by rw [Int.mul_one]
  _≤pw i*pw k:=Int.mul_le_mul_of_nonneg_left (by omega) (by omega)
theorem cB:aP 0=[]:=by rw [aP]; rfl
theorem lL {n:Nat} (h:n≠0):aP n=((n % 1048576:Nat):Int)::aP (n / 1048576):=by rw [aP,dif_neg h]
theorem oW {n:Nat} : aP n=[]↔n=0:=by
 constructor
 ·intro h
  rcases Nat.eq_zero_or_pos n with h0 | h0
  ·exact h0
  ·rw [lL (by omega)] at h; cases h
 ·rintro rfl; exact cB
theorem bI : ∀ n:Nat,dv (aP n)=n:=by
 intro n
 induction n using Nat.strongRecOn with
 | _ n ih =>
  rcases Nat.eq_zero_or_pos n with h0 | h0
  ·subst h0; rw [cB]; rfl
  ·rw [lL (by omega),dv,ih (n / 1048576) (by omega)]
   omega
theorem cF : ∀ n:Nat,Dg (aP n):=by
 intro n
 induction n using Nat.strongRecOn with
 | _ n ih =>
  rcases Nat.eq_zero_or_pos n with h0 | h0
  ·subst h0; rw [cB]; intro d hd; cases hd
  ·rw [lL (by omega)]
   intro d hd
   rcases List.mem_cons.1 hd with rfl | hd
   ·omega
   ·exact ih (n / 1048576) (by omega) d hd
theorem Dg.nil:Dg []:=fun d hd=>by cases hd
theorem Dg.cons {d:Int} {l:List Int} (h:Dg (d::l)):(0≤d∧d<1048576)∧Dg l:=⟨h d List.mem_cons_self,fun x hx=>h x (List.mem_cons_of_mem _ hx)⟩
theorem Dg.mk {d:Int} {l:List Int} (h:0≤d∧d<1048576) (hl:Dg l):Dg (d::l):=fun x hx=>by
 rcases List.mem_cons.1 hx with rfl | hx
 ·exact h
 ·exact hl x hx
theorem Dg.append {l m:List Int} (h:Dg l) (hm:Dg m):Dg (l++m):=fun x hx=>(List.mem_append.1 hx).elim (h x) (hm x)
theorem Dg.take {l:List Int} (h:Dg l) (n:Nat):Dg (l.take n):=fun x hx=>h x (List.mem_of_mem_take hx)
theorem Dg.drop {l:List Int} (h:Dg l) (n:Nat):Dg (l.drop n):=fun x hx=>h x (List.mem_of_mem_drop hx)
theorem Dg.rep (n:Nat):Dg (List.replicate n 0):=fun x hx=>by rw [(List.mem_replicate.1 hx).2]; omega
theorem Dg.set {l:List Int} (h:Dg l) (i:Nat) {x:Int} (hx:0≤x∧x<1048576):Dg (l.set i x):=fun y hy=>by
 rcases List.mem_or_eq_of_mem_set hy with hy | rfl
 ·exact h y hy
 ·exact hx
theorem Dg.get {l:List Int} (h:Dg l) {i:Nat} (hi:i<l.length):0≤l[i]∧l[i]<1048576:=h _ (List.getElem_mem hi)
theorem ct : ∀ {l:List Int},Dg l→0≤dv l
 | [],_=>Int.le_refl _
 | d::l,h=>by
  have h1:=h.cons
  have:=ct h1.2
  simp only [dv]
  omega
theorem nk : ∀ {l:List Int},Dg l→dv l<pw l.length
 | [],_=>by simp [dv,mJ]
 | d::l,h=>by
  have h1:=h.cons
  have:=nk h1.2
  simp only [dv,List.length_cons,jO]
  omega
theorem fw : ∀ l m:List Int,dv (l++m)=dv l+pw l.length*dv m
 | [],m=>by simp [dv,mJ]
 | d::l,m=>by
  rw [List.cons_append,dv,dv,fw l m,List.length_cons,jO,Int.mul_add,Int.mul_assoc]
  omega
theorem A6 : ∀ n:Nat,dv (List.replicate n 0)=0
 | 0=>rfl
 | n+1=>by rw [List.replicate_succ,dv,A6 n]; rfl
theorem ff {l:List Int} {i:Nat} (h:i<l.length):dv (l.take (i+1))=dv (l.take i)+pw i*l[i]:=by
 have e:l.take (i+1)=l.take i++[l[i]]:=by rw [List.take_add_one]; simp [h]
 rw [e,fw,List.length_take,Nat.min_eq_left (by omega)]
 simp [dv]
theorem ig (l:List Int) {i:Nat} (h:i≤l.length):dv l=dv (l.take i)+pw i*dv (l.drop i):=by
 have:=fw (l.take i) (l.drop i)
 rw [List.take_append_drop,List.length_take,Nat.min_eq_left h] at this
 exact this
theorem xp {l:List Int} {i:Nat} (h:i<l.length) (x:Int):dv (l.set i x)=dv l+pw i*(x - l[i]):=by
 induction l generalizing i with
 | nil=>simp at h
 | cons d l ih =>
  cases i with
  | zero=>simp only [List.set_cons_zero,dv,mJ,List.getElem_cons_zero]; omega
  | succ i =>
   have:=ih (i:=i) (by simpa using h)
   simp only [List.set_cons_succ,dv,this,jO,List.getElem_cons_succ,Int.mul_add,Int.mul_assoc]
   omega
theorem zX : ∀ {l:List Int},Dg l→(∀ h:l≠[],l.getLast h≠0)→aP (dv l).toNat=l
 | [],_,_=>by simp [dv,cB]
 | d::l,h,hl=>by
  have h1:=h.cons
  have h2:=ct h1.2
  have hne:(dv (d::l)).toNat≠0:=by
   simp only [dv]
   intro h0
   have hd:d=0:=by omega
   have hv:dv l=0:=by omega
   cases l with
   | nil=>exact hl (by simp) (by simpa using hd)
   | cons e m =>
    have ih:=zX h1.2 (fun hh=>by have:=hl (by simp); simpa using this)
    rw [hv] at ih
    simp [cB] at ih
  rw [lL hne]
  have e1:(dv (d::l)).toNat % 1048576=d.toNat:=by simp only [dv]; omega
  have e2:(dv (d::l)).toNat / 1048576=(dv l).toNat:=by simp only [dv]; omega
  rw [e1,e2]
  have hd:(d.toNat:Int)=d:=by omega
  rw [hd]
  cases l with
  | nil=>simp [dv,cB]
  | cons e m=>rw [zX h1.2 (fun hh=>by have:=hl (by simp); simpa using this)]
theorem O1 : ∀ (n:Nat) (h:aP n≠[]),(aP n).getLast h≠0:=by
 intro n
 induction n using Nat.strongRecOn with
 | _ n ih =>
  intro h
  have hn:n≠0:=fun h0=>h (oW.2 h0)
  have e:=lL hn
  by_cases hq:n / 1048576=0
  ·have:aP n=[((n % 1048576:Nat):Int)]:=by rw [e,hq,cB]
   simp only [this,List.getLast_singleton]
   omega
  ·have hne:aP (n / 1048576)≠[]:=fun h0=>hq (oW.1 h0)
   have:=ih (n / 1048576) (by omega) hne
   simp only [e]
   rw [List.getLast_cons hne]
   exact this
theorem QS {a b:Nat} (h:aP a=aP b):a=b:=by
 have:=congrArg dv h
 rw [bI,bI] at this
 omega
theorem fX {n k:Nat} (h:(n:Int)<pw k):(aP n).length≤k:=by
 induction k generalizing n with
 | zero =>
  rw [mJ] at h
  have:n=0:=by omega
  rw [this,cB]; simp
 | succ k ih =>
  by_cases h0:n=0
  ·rw [h0,cB]; simp
  ·rw [lL h0,List.length_cons]
   rw [jO] at h
   have:=ih (n:=n / 1048576) (by omega)
   omega
theorem eX (n:Nat):(n:Int)<pw (aP n).length:=by
 have:=nk (cF n)
 rwa [bI] at this
theorem vP {n:Nat} (h:n≠0):pw ((aP n).length - 1)≤n∧0<(aP n).length:=by
 induction n using Nat.strongRecOn with
 | _ n ih =>
  rw [lL h,List.length_cons]
  refine ⟨?_,by omega⟩
  by_cases hq:n / 1048576=0
  ·rw [hq,cB]; simp [mJ]; omega
  ·obtain ⟨h1,h2⟩:=ih (n / 1048576) (by omega) hq
   have:(aP (n / 1048576)).length+1 - 1=((aP (n / 1048576)).length - 1)+1:=by omega
   rw [this,jO]
   omega
theorem As {x:Int} (h1 : -9223372036854775808≤x) (h2:x<9223372036854775808):ng .and .i64 x 1048575=x % 1048576:=by
 unfold ng
 simp only
 have e1:(BitVec.ofInt IntKind.i64.bits x &&& BitVec.ofInt IntKind.i64.bits 1048575).toNat=((x % 18446744073709551616).toNat) % 1048576:=by
  rw [BitVec.toNat_and,BitVec.toNat_ofInt,BitVec.toNat_ofInt]
  have e:((1048575:Int) % ((2 ^ IntKind.i64.bits:Nat):Int)).toNat=2 ^ 20 - 1:=by decide
  rw [e,Nat.and_two_pow_sub_one_eq_mod]
  rfl
 rw [e1,wrap64 (by omega) (by omega)]
 omega
theorem R2 (x:Int):yd .i64 x 20=some (x / 1048576):=by
 unfold yd
 rw [if_neg (by decide)]
 have e:(2:Int) ^ (min (Int.toNat 20) IntKind.i64.bits)=1048576:=by decide
 rw [e,Int.fdiv_eq_ediv_of_nonneg _ (by decide)]
theorem R0 {x:Int} (h0:0≤x) (h:x<8796093022208):DT .i64 x 20=some (1048576*x):=by
 unfold DT
 rw [if_neg (by decide)]
 have e:(2:Int) ^ (min (Int.toNat 20) IntKind.i64.bits)=1048576:=by decide
 rw [e,wrap64 (by omega) (by omega),Int.mul_comm]
theorem Mk {x y:Int} (h0:0≤x) (h:x<8796093022208) (hy:0≤y∧y<1048576):ng .or .i64 (1048576*x) y=1048576*x+y:=by
 unfold ng
 simp only
 have e1:(BitVec.ofInt IntKind.i64.bits (1048576*x) ||| BitVec.ofInt IntKind.i64.bits y).toNat=1048576*x.toNat+y.toNat:=by
  rw [BitVec.toNat_or,BitVec.toNat_ofInt,BitVec.toNat_ofInt]
  have e:((2 ^ IntKind.i64.bits:Nat):Int)=18446744073709551616:=by decide
  rw [e]
  have e2:((1048576*x) % 18446744073709551616).toNat=x.toNat <<< 20:=by rw [Nat.shiftLeft_eq]; omega
  have e3:(y % 18446744073709551616).toNat=y.toNat:=by omega
  rw [e2,e3,← Nat.shiftLeft_add_eq_or_of_lt (by omega),Nat.shiftLeft_eq]
  omega
 rw [e1,wrap64 (by omega) (by omega)]
 omega
theorem V5 {n:Nat} (h:n≤17592186044416):L5 8 (n:Int) (n:Int) (0:Int)=some (List.replicate n 0):=by
 unfold L5
 rw [if_pos]
 ·simp
 ·have:(17592186044416:Int)≤maxLen:=by decide
  refine ⟨by omega,by omega,by omega,?_⟩
  simp only [Int.toNat_natCast]
  omega
theorem C6 {l m:List Int} (h:l.length+m.length≤17592186044416):iO 8 l m=some (l++m):=by
 unfold iO
 have:(17592186044416:Nat)≤maxLen:=by decide
 rw [if_pos ⟨by omega,by omega⟩]
theorem eD {σ ρ:Type} {body:σ→Option (σ⊕ρ)} (I:Nat→σ→Prop) (n:Nat) (Q:ρ→Prop) {s:σ} (hI:I 0 s) (hn:n+1<FU)
  (hstep : ∀ i s,i≤n→I i s→(i<n∧∃ s',body s=some (.inl s')∧I (i+1) s')∨(∃ r,body s=some (.inr r)∧Q r)) : ∃ r,a8 body s=some r∧Q r:=by
 have key : ∀ (k i:Nat) (s:σ),i≤n→n - i<k→I i s→∃ r,lP body k s=some r∧Q r:=by
  intro k
  induction k with
  | zero=>intro i s _ h; omega
  | succ k ih =>
   intro i s hi hk hI
   rcases hstep i s hi hI with ⟨hlt,s',h1,h2⟩ | ⟨r,h1,h2⟩
   ·obtain ⟨r,h3,h4⟩:=ih (i+1) s' (by omega) (by omega) h2
    exact ⟨r,by simp only [lP,h1]; exact h3,h4⟩
   ·exact ⟨r,by simp only [lP,h1],h2⟩
 exact key FU 0 s (Nat.zero_le _) (by omega) hI
theorem Od (i:Nat) (x:Int):pw (i+1)*x=pw i*(1048576*x):=by rw [jO,Int.mul_comm 1048576 (pw i),Int.mul_assoc]
theorem xY (i:Nat) (t:Int):pw i*(t % 1048576)+pw (i+1)*(t / 1048576)=pw i*t:=by
 rw [Od,← Int.mul_add]
 congr 1
 omega
theorem lQ {n:Nat} (h:n≤17592186044416):n+1<FU:=by unfold FU; omega
end Go.Proofs.YtpkahnkoecbndaaGreatDoor.P
namespace Go.Proofs.YtpkahnkoecbndaaGreatDoor.P
open Go.RowKit
set_option linter.unusedSimpArgs false
set_option linter.unusedVariables false
abbrev Fit (l:List Int):Prop:=l.length≤17592186044416
theorem iQ {x:Int} (h : -4611686018427387904≤x∧x≤4611686018427387904):IntKind.i64.wrap x=x:=wrap64 (by omega) (by omega)
theorem pg {α:Type} (o:Option α):(o.bind fun r=>some r)=o:=by cases o <;> rfl
theorem F4 {l:List Int} (hl:Fit l) : ∃ r,a8 (j8 l) (l.length:Int)=some r∧∃ k:Nat,r=k∧k≤l.length∧(∀ j (hj:j<l.length),k≤j→l[j]=0)∧(∀ h:0<k,∀ hk:k - 1<l.length,l[k - 1]≠0):=by
 unfold Fit at hl
 refine eD (I:=fun i s=>s=((l.length - i:Nat):Int)∧(∀ j (hj:j<l.length),l.length - i≤j→l[j]=0)) l.length _ ⟨rfl,fun j hj h=>by omega⟩ (lQ hl) ?_
 rintro i s hi ⟨rfl,hz⟩
 generalize hk:l.length - i=k at *
 simp only [j8]
 by_cases h0:0<k
 ·have hk1:k - 1<l.length:=by omega
  have e:IntKind.i64.wrap ((k:Int) - 1)=((k - 1:Nat):Int):=by rw [iQ (by omega)]; omega
  rw [if_pos (by simp; omega),e,cp hk1,Option.bind_some]
  by_cases hx:l[k - 1]=0
  ·left
   refine ⟨by omega,_,by rw [if_pos (by simpa using hx)],by rw [show l.length - (i+1)=k - 1 by omega],fun j hj h => ?_⟩
   by_cases hj':j=k - 1
   ·subst hj'; exact hx
   ·exact hz j hj (by omega)
  ·right
   exact ⟨_,by rw [if_neg (by simpa using hx)],k,rfl,by omega,hz,fun _ _=>hx⟩
 ·right
  exact ⟨_,by rw [if_neg (by simp; omega)],k,rfl,by omega,hz,fun h=>absurd h h0⟩
theorem Q3 {l:List Int} {k:Nat} (hz : ∀ j (hj:j<l.length),k≤j→l[j]=0):dv (l.drop k)=0:=by
 have:l.drop k=List.replicate (l.drop k).length 0:=by
  refine List.eq_replicate_of_mem fun x hx => ?_
  obtain ⟨i,hi,rfl⟩:=List.mem_iff_getElem.1 hx
  rw [List.getElem_drop]
  exact hz _ _ (by omega)
 rw [this,A6]
theorem w9 {l:List Int} (hl:Fit l) (hd:Dg l):eA l=some (aP (dv l).toNat):=by
 obtain ⟨r,h1,k,rfl,hk,hz,hlast⟩:=F4 hl
 unfold eA
 rw [h1,Option.bind_some,Af hk,Option.bind_some]
 congr 1
 have h2:dv l=dv (l.take k):=by rw [ig l hk,Q3 hz]; omega
 rw [h2]
 refine (zX (hd.take k) fun hne => ?_).symm
 have hk0:0<k:=by
  rcases Nat.eq_zero_or_pos k with h | h
  ·subst h; simp at hne
  ·exact h
 have:=hlast hk0 (by omega)
 rw [List.getLast_eq_getElem]
 simp only [List.length_take,List.getElem_take,Nat.min_eq_left hk]
 exact this
theorem Ag {l:List Int} {n:Nat} (hl:Fit l) (hd:Dg l) (hn:dv l=n):eA l=some (aP n):=by
 rw [w9 hl hd,hn]; rfl
def gd (l:List Int) (i:Nat):Int:=if h:i<l.length then l[i] else 0
theorem NN {l:List Int} (h:Dg l) (i:Nat):0≤gd l i∧gd l i<1048576:=by
 unfold gd
 split
 ·exact h.get _
 ·omega
theorem wk {l:List Int} (i:Nat):dv (l.take (i+1))=dv (l.take i)+pw i*gd l i:=by
 unfold gd
 split
 ·exact ff _
 ·rw [List.take_of_length_le (by omega),List.take_of_length_le (by omega)]; simp
theorem GB {l:List Int} {i:Nat} (h:l.length≤i):dv (l.take i)=dv l:=by rw [List.take_of_length_le h]
end Go.Proofs.YtpkahnkoecbndaaGreatDoor.P
namespace Go.Proofs.YtpkahnkoecbndaaGreatDoor.P
open Go.RowKit
set_option linter.unusedSimpArgs false
set_option linter.unusedVariables false
theorem vK {l:List Int} (h:Fit l):bA l=some l:=by
 unfold bA
 rw [C6 (by simpa using h),List.nil_append]
theorem NO {l:List Int} {i:Nat} (h:i<l.length):gd l i=l[i]:=by unfold gd; rw [dif_pos h]
theorem IX {l:List Int} {i:Nat} (h:l.length≤i):gd l i=0:=by unfold gd; rw [dif_neg (by omega)]
theorem jm {l:List Int} {i:Nat} (h:i<l.length):dv (l.drop i)=l[i]+1048576*dv (l.drop (i+1)):=by
 rw [List.drop_eq_getElem_cons h,dv]
theorem Tj {x d:Int} (h:0≤x) (hd:0<d) (hx:x<4611686018427387904):xn .i64 x d=some (x / d):=by
 unfold xn
 rw [if_neg (by omega),Int.tdiv_eq_ediv_of_nonneg h,iQ]
 have:=Int.ediv_nonneg h (Int.le_of_lt hd)
 have:=Int.ediv_le_self d h
 omega
theorem Vc {x d:Int} (h:0≤x) (hd:0<d):vn .i64 x d=some (x % d):=by
 unfold vn
 rw [if_neg (by omega),Int.tmod_eq_emod_of_nonneg h]
theorem Mr {a:List Int} {d:Int} (ha:Dg a) (hd:0<d∧d≤1048576) (hf:Fit a) :
  ∃ r,a8 (mD a d) (0,IntKind.i64.wrap ((a.length:Int) - 1),List.replicate a.length 0)=some r∧r.2.length=a.length∧Dg r.2∧(0≤r.1∧r.1<d)∧dv a=d*dv r.2+r.1:=by
 unfold Fit at hf
 have e0:IntKind.i64.wrap ((a.length:Int) - 1)=(a.length:Int) - 1:=iQ (by omega)
 rw [e0]
 refine eD (I:=fun i s=>s.2.1=((a.length - i:Nat):Int) - 1∧s.2.2.length=a.length∧Dg s.2.2∧(0≤s.1∧s.1<d)∧dv (a.drop (a.length - i))=d*dv (s.2.2.drop (a.length - i))+s.1)
  a.length _ ⟨rfl,by simp,Dg.rep _,by simp; omega,by simp [dv]⟩ (lQ (by omega)) ?_
 rintro i ⟨r,s,l⟩ hi ⟨h1,hl,hg,hr,he⟩
 simp only at h1 hl hg hr he
 subst h1
 generalize hk:a.length - i=k at *
 simp only [mD]
 by_cases h0:0<k
 ·left
  have hk1:k - 1<a.length:=by omega
  have hk2:k - 1<l.length:=by omega
  have ek:((k:Int) - 1)=((k - 1:Nat):Int):=by omega
  have ga:=ha.get hk1
  rw [ek,if_pos (by simp),R0 (by omega) (by omega),Option.bind_some,cp hk1,Option.bind_some,Mk (by omega) (by omega) ga,Tj (by omega) hd.1 (by omega),Option.bind_some,cp hk2,Option.bind_some,Vc (by omega) hd.1,Option.bind_some]
  have e1:IntKind.i64.wrap (((k - 1:Nat):Int) - 1)=((k - 1:Nat):Int) - 1:=iQ (by omega)
  have hx0:0≤1048576*r+a[k - 1]:=by omega
  have hq0:0≤(1048576*r+a[k - 1]) / d:=Int.ediv_nonneg hx0 (by omega)
  have hq1:(1048576*r+a[k - 1]) / d<1048576:=by
   apply Int.ediv_lt_of_lt_mul hd.1
   have:1048576*r≤1048576*(d - 1):=Int.mul_le_mul_of_nonneg_left (by omega) (by omega)
   omega
  have hm0:=Int.emod_nonneg (1048576*r+a[k - 1]) (show d≠0 by omega)
  have hm1:=Int.emod_lt_of_pos (1048576*r+a[k - 1]) hd.1
  refine ⟨by omega,_,rfl,by rw [e1,show a.length - (i+1)=k - 1 by omega],by simpa using hl,hg.set _ ⟨hq0,hq1⟩,⟨hm0,hm1⟩,?_⟩
  simp only [Int.toNat_natCast]
  rw [show a.length - (i+1)=k - 1 by omega,jm hk1,jm (l:=l.set (k - 1) _) (i:=k - 1) (by simpa using hk2),show k - 1+1=k by omega,List.getElem_set_self,List.drop_set_of_lt (by omega),he]
  have:=Int.mul_ediv_add_emod (1048576*r+a[k - 1]) d
  rw [Int.mul_add,Int.mul_add]
  have e3:d*(1048576*dv (l.drop k))=1048576*(d*dv (l.drop k)):=by rw [← Int.mul_assoc,Int.mul_comm d,Int.mul_assoc]
  rw [e3]
  omega
 ·right
  have:k=0:=by omega
  subst this
  refine ⟨(r,l),by rw [if_neg (by simp)],hl,hg,hr,?_⟩
  simpa using he
theorem KG {a:List Int} {d:Int} (ha:Dg a) (hd:0<d∧d≤1048576) (hf:Fit a):j7 a d=some (aP (dv a / d).toNat,dv a % d):=by
 obtain ⟨⟨r,l⟩,h1,h2,h3,h4,h5⟩:=Mr ha hd hf
 unfold j7
 rw [V5 hf,Option.bind_some,h1,Option.bind_some]
 simp only at h2 h3 h4 h5 ⊢
 rw [w9 (by unfold Fit at *; omega) h3,Option.bind_some]
 have e1:dv a / d=dv l:=by
  rw [h5,Int.mul_comm,Int.add_comm,Int.add_mul_ediv_right _ _ (by omega),Int.ediv_eq_zero_of_lt h4.1 h4.2]; omega
 have e2:dv a % d=r:=by
  rw [h5,Int.mul_comm,Int.add_comm,Int.add_mul_emod_self_right]
  exact Int.emod_eq_of_lt h4.1 h4.2
 rw [e1,e2]
theorem PE {b l0:List Int} {x:Int} {i n:Nat} (hb:Dg b) (hx:0≤x∧x<1048576) (h0:Dg l0) (hn:l0.length=n) (hi:i+b.length<n) (hf:n≤17592186044416) (hz : ∀ j (hj:j<l0.length),i+b.length≤j→l0[j]=0) :
  ∃ r,a8 (pS b (i:Int) x) (0,0,l0)=some r∧r.2.length=n∧Dg r.2∧(0≤r.1∧r.1<1048576)∧(∀ j (hj:j<r.2.length),i+b.length≤j→r.2[j]=0)∧dv r.2+pw (i+b.length)*r.1=dv l0+pw i*(x*dv b):=by
 refine eD (I:=fun k s=>s.2.1=(k:Int)∧s.2.2.length=n∧Dg s.2.2∧(0≤s.1∧s.1<1048576)∧(∀ j (hj:j<s.2.2.length),i+b.length≤j→s.2.2[j]=0)∧dv s.2.2+pw (i+k)*s.1=dv l0+pw i*(x*dv (b.take k)))
  b.length _ ⟨rfl,hn,h0,by simp,hz,by simp [dv]⟩ (lQ (by omega)) ?_
 rintro k ⟨c,s,l⟩ hk ⟨h1,hl,hd,hc,hz,he⟩
 simp only at h1 hl hd hc hz he
 subst h1
 simp only [pS]
 by_cases hlt:k<b.length
 ·left
  have hik:i+k<l.length:=by omega
  have ei:IntKind.i64.wrap ((i:Int)+(k:Int))=((i+k:Nat):Int):=by rw [iQ (by omega)]; omega
  have gb:=hb.get hlt
  have gl:=hd.get hik
  have hm0:0≤x*b[k]:=Int.mul_nonneg hx.1 gb.1
  have hm1:x*b[k]≤1048575*1048575:=Int.mul_le_mul (by omega) (by omega) gb.1 (by omega)
  rw [if_pos (by simpa using hlt),cp hlt,Option.bind_some,ei,cp hik,Option.bind_some,iQ (x:=x*b[k]) (by omega),iQ (x:=l[i+k]+x*b[k]) (by omega),iQ (x:=l[i+k]+x*b[k]+c) (by omega),R2,Option.bind_some,As (by omega) (by omega)]
  have e1:IntKind.i64.wrap ((k:Int)+1)=((k+1:Nat):Int):=by rw [iQ (by omega)]; omega
  refine ⟨hlt,_,rfl,e1,by simpa using hl,hd.set _ (by omega),by simp only; omega,fun j hj hij => ?_,?_⟩
  ·simp only [Int.toNat_natCast] at hj ⊢
   rw [List.getElem_set_ne (by omega)]
   exact hz j (by simpa using hj) hij
  ·simp only [Int.toNat_natCast]
   rw [xp hik,ff hlt]
   have hp:=xY (i+k) (l[i+k]+x*b[k]+c)
   rw [Int.mul_add (pw (i+k)),Int.mul_add (pw (i+k))] at hp
   have e2:pw i*(x*(dv (b.take k)+pw k*b[k]))=pw i*(x*dv (b.take k))+pw (i+k)*(x*b[k]):=by
    rw [Int.mul_add,Int.mul_add,Cq]
    congr 1
    rw [Int.mul_left_comm x,← Int.mul_assoc]
   rw [e2,Int.mul_sub,show i+(k+1)=i+k+1 by omega]
   omega
 ·right
  have hkb:k=b.length:=by omega
  subst hkb
  refine ⟨(c,l),by rw [if_neg (by simp)],hl,hd,hc,hz,?_⟩
  rw [he,List.take_length]
theorem PD {a b:List Int} (ha:Dg a) (hb:Dg b) (hf:a.length+b.length≤17592186044416) :
  ∃ l,a8 (pR a b) (0,List.replicate (a.length+b.length) 0)=some l∧l.length=a.length+b.length∧Dg l∧dv l=dv a*dv b:=by
 refine eD (I:=fun i s=>s.1=(i:Int)∧s.2.length=a.length+b.length∧Dg s.2∧(∀ j (hj:j<s.2.length),i+b.length≤j→s.2[j]=0)∧dv s.2=dv (a.take i)*dv b)
  a.length _ ⟨rfl,by simp,Dg.rep _,fun j hj _=>by simp,by simp [dv,A6]⟩ (lQ (by omega)) ?_
 rintro i ⟨s,l⟩ hi ⟨h1,hl,hd,hz,he⟩
 simp only at h1 hl hd hz he
 subst h1
 simp only [pR]
 by_cases hlt:i<a.length
 ·left
  have ga:=ha.get hlt
  obtain ⟨⟨c,m⟩,g1,g2,g3,g4,g5,g6⟩:=PE (i:=i) (n:=a.length+b.length) hb ga hd hl (by omega) hf hz
  rw [if_pos (by simpa using hlt),cp hlt,Option.bind_some,g1,Option.bind_some]
  simp only at g2 g3 g4 g5 g6 ⊢
  have ei:IntKind.i64.wrap ((i:Int)+(b.length:Int))=((i+b.length:Nat):Int):=by rw [iQ (by omega)]; omega
  have hib:i+b.length<m.length:=by omega
  rw [ei,cp hib,Option.bind_some,g5 _ hib (Nat.le_refl _),Int.zero_add,iQ (x:=c) (by omega)]
  have e1:IntKind.i64.wrap ((i:Int)+1)=((i+1:Nat):Int):=by rw [iQ (by omega)]; omega
  refine ⟨hlt,_,rfl,e1,by simpa using g2,g3.set _ g4,fun j hj hij => ?_,?_⟩
  ·simp only [Int.toNat_natCast] at hj ⊢
   rw [List.getElem_set_ne (by omega)]
   exact g5 j (by simpa using hj) (by omega)
  ·simp only [Int.toNat_natCast]
   rw [xp hib,g5 _ hib (Nat.le_refl _),Int.sub_zero,g6,he,ff hlt,Int.add_mul,Int.mul_assoc]
 ·right
  have hia:i=a.length:=by omega
  subst hia
  refine ⟨l,by rw [if_neg (by simp)],hl,hd,?_⟩
  rw [he,List.take_length]
theorem mul_eq {a b:List Int} (ha:Dg a) (hb:Dg b) (hf:a.length+b.length≤17592186044416):mC a b=some (aP (dv a*dv b).toNat):=by
 obtain ⟨l,h1,h2,h3,h4⟩:=PD ha hb hf
 unfold mC
 have e:IntKind.i64.wrap ((a.length:Int)+(b.length:Int))=((a.length+b.length:Nat):Int):=by rw [iQ (by omega)]; omega
 rw [e,V5 hf,Option.bind_some,h1,Option.bind_some,pg,w9 (by unfold Fit; omega) h3,h4]
end Go.Proofs.YtpkahnkoecbndaaGreatDoor.P
namespace Go.Proofs.YtpkahnkoecbndaaGreatDoor.P
open Go.RowKit
set_option linter.unusedSimpArgs false
set_option linter.unusedVariables false
def kU (x y:Int):Int:=if x<y then -1 else if y<x then 1 else 0
theorem Lf (x y:Int):fW x y=some (kU x y):=by
 unfold fW jl kU
 simp only [bne_self_eq_false,Option.bind_some,Bool.false_eq_true,if_false,decide_eq_true_eq]
 split
 ·rfl
 ·split <;> rfl
theorem Is {a b:List Int} (ha:Dg a) (hb:Dg b) (hf:Fit a) (hl:a.length=b.length):fp a b=some (kU (dv a) (dv b)):=by
 unfold Fit at hf
 unfold fp
 rw [if_neg (by simp; omega)]
 have e0:IntKind.i64.wrap ((a.length:Int) - 1)=(a.length:Int) - 1:=iQ (by omega)
 rw [e0]
 have key : ∃ r,a8 (kr a b) ((a.length:Int) - 1)=some r∧(match r with | .inl _=>kU (dv a) (dv b)=0 | .inr x=>x=kU (dv a) (dv b)):=by
  refine eD (I:=fun i s=>s=((a.length - i:Nat):Int) - 1∧a.drop (a.length - i)=b.drop (a.length - i)) a.length _ ⟨rfl,?_⟩ (lQ hf) ?_
  ·rw [List.drop_eq_nil_of_le (by omega),List.drop_eq_nil_of_le (by omega)]
  rintro i s hi ⟨rfl,he⟩
  generalize hk:a.length - i=k at *
  simp only [kr]
  by_cases h0:0<k
  ·have h1:k - 1<a.length:=by omega
   have h2:k - 1<b.length:=by omega
   have ek:((k:Int) - 1)=((k - 1:Nat):Int):=by omega
   rw [ek,if_pos (by simp),cp h1,Option.bind_some,cp h2,Option.bind_some]
   by_cases hx:a[k - 1]=b[k - 1]
   ·left
    rw [if_neg (by simpa using hx)]
    refine ⟨by omega,_,rfl,by rw [iQ (by omega)]; omega,?_⟩
    rw [show a.length - (i+1)=k - 1 by omega,List.drop_eq_getElem_cons h1,List.drop_eq_getElem_cons h2,hx,show k - 1+1=k by omega,he]
   ·right
    rw [if_pos (by simpa using hx),Lf,Option.bind_some]
    refine ⟨_,rfl,?_⟩
    simp only
    have ea:=ig a (i:=k) (by omega)
    have eb:=ig b (i:=k) (by omega)
    have ta:=ff h1
    have tb:=ff h2
    rw [show k - 1+1=k by omega] at ta tb
    have la:=nk (ha.take (k - 1))
    have lb:=nk (hb.take (k - 1))
    rw [List.length_take,Nat.min_eq_left (by omega)] at la lb
    have na:=ct (ha.take (k - 1))
    have nb:=ct (hb.take (k - 1))
    have hp:=lu (k - 1)
    rw [ta] at ea
    rw [tb] at eb
    rw [he] at ea
    unfold kU
    rcases Int.lt_or_gt_of_ne hx with hlt | hlt
    ·have:pw (k - 1)*a[k - 1]+pw (k - 1)≤pw (k - 1)*b[k - 1]:=by
      have:pw (k - 1)*(a[k - 1]+1)≤pw (k - 1)*b[k - 1]:=Int.mul_le_mul_of_nonneg_left (by omega) (by omega)
      rwa [Int.mul_add,Int.mul_one] at this
     rw [if_pos hlt,if_pos (by omega)]
    ·have:pw (k - 1)*b[k - 1]+pw (k - 1)≤pw (k - 1)*a[k - 1]:=by
      have:pw (k - 1)*(b[k - 1]+1)≤pw (k - 1)*a[k - 1]:=Int.mul_le_mul_of_nonneg_left (by omega) (by omega)
      rwa [Int.mul_add,Int.mul_one] at this
     rw [if_neg (by omega),if_pos hlt,if_neg (by omega),if_pos (by omega)]
  ·right
   have:k=0:=by omega
   subst this
   refine ⟨.inl (),by rw [if_neg (by simp)],?_⟩
   simp only [List.drop_zero] at he
   simp [he,kU]
 obtain ⟨r,h1,h2⟩:=key
 rw [h1,Option.bind_some]
 cases r with
 | inl u=>simp only at h2 ⊢; rw [h2]
 | inr x=>simp only at h2 ⊢; rw [h2]
theorem rH {m n:Nat} (h:(aP m).length<(aP n).length):m<n:=by
 have h1:=eX m
 have hn:n≠0:=fun h0=>by subst h0; rw [cB] at h; simp at h
 have h2:=vP hn
 have h3:=tB (i:=(aP m).length) (j:=(aP n).length - 1) (by omega)
 omega
theorem eM {m n:Nat} (h:m≤n):(aP m).length≤(aP n).length:=by
 rcases Nat.lt_or_ge (aP n).length (aP m).length with h1 | h1
 ·have:=rH h1; omega
 ·exact h1
theorem AU {m n:Nat} (hm:Fit (aP m)) (hn:Fit (aP n)):fp (aP m) (aP n)=some (kU m n):=by
 by_cases hl:(aP m).length=(aP n).length
 ·rw [Is (cF m) (cF n) hm hl,bI,bI]
 ·unfold fp
  rw [if_pos (by simp; omega),Lf,pg]
  unfold kU
  rcases Nat.lt_or_gt_of_ne hl with h | h
  ·have:=rH h
   rw [if_pos (by omega),if_pos (by omega)]
  ·have:=rH h
   rw [if_neg (by omega),if_pos (by omega),if_neg (by omega),if_pos (by omega)]
theorem Hq {u v:List Int} {g:Int} (hu:Dg u) (hv:Dg v) (hg:0≤g∧g≤1048576) (hf:Fit u) (hl:v.length≤u.length) :
  ∃ r,a8 (jL u v g) (0,0,u)=some r∧r.2.length=u.length∧Dg r.2∧(0≤r.1∧r.1≤1048576)∧dv r.2+g*dv v=dv u+pw u.length*r.1:=by
 unfold Fit at hf
 refine eD (I:=fun i s=>s.2.1=(i:Int)∧s.2.2.length=u.length∧Dg s.2.2∧(∀ j (hj:j<s.2.2.length) (hj':j<u.length),i≤j→s.2.2[j]=u[j])∧(0≤s.1∧s.1≤1048576)∧dv s.2.2+g*dv (v.take i)=dv u+pw i*s.1)
  u.length _ ⟨rfl,rfl,hu,fun j hj _ _=>rfl,by simp,by simp [dv]⟩ (lQ (by omega)) ?_
 rintro i ⟨c,s,l⟩ hi ⟨h1,hll,hd,hz,hc,he⟩
 simp only at h1 hll hd hz hc he
 subst h1
 simp only [jL]
 by_cases hlt:i<u.length
 ·left
  have hli:i<l.length:=by omega
  rw [if_pos (by simpa using hlt),cp hli,Option.bind_some,hz i hli hlt (Nat.le_refl _)]
  have ga:=hu.get hlt
  have gb:=NN hv i
  have hm0:0≤g*gd v i:=Int.mul_nonneg hg.1 gb.1
  have hm1:g*gd v i≤1048576*1048575:=Int.mul_le_mul (by omega) (by omega) gb.1 (by omega)
  have hT:(if decide ((i:Int)<(v.length:Int))=true then (P.idx v (i:Int)).bind fun x17=>some (IntKind.i64.wrap ((IntKind.i64.wrap (u[i] - c)) - (IntKind.i64.wrap (g*x17)))) else some (IntKind.i64.wrap (u[i] - c)))=some (u[i] - c - g*gd v i):=by
   by_cases hib:i<v.length
   ·rw [if_pos (by simpa using hib),cp hib,Option.bind_some]
    rw [NO hib] at gb hm0 hm1 ⊢
    rw [iQ (x:=u[i] - c) (by omega),iQ (x:=g*v[i]) (by omega),iQ (by omega)]
   ·rw [if_neg (by simpa using hib),IX (by omega),iQ (by omega)]; simp
  rw [hT,Option.bind_some,R2,Option.bind_some,As (by omega) (by omega),iQ (x:=0 - _) (by omega)]
  have e1:IntKind.i64.wrap ((i:Int)+1)=((i+1:Nat):Int):=by rw [iQ (by omega)]; omega
  refine ⟨hlt,_,rfl,e1,by simpa using hll,hd.set _ (by omega),fun j hj hj' hij => ?_,by simp only; omega,?_⟩
  ·simp only [Int.toNat_natCast] at hj ⊢
   rw [List.getElem_set_ne (by omega)]
   exact hz j (by simpa using hj) hj' (by omega)
  ·simp only [Int.toNat_natCast]
   rw [xp hli,hz i hli hlt (Nat.le_refl _),wk]
   have hp:=xY i (u[i] - c - g*gd v i)
   rw [Int.mul_sub (pw i),Int.mul_sub (pw i)] at hp
   have e2:g*(dv (v.take i)+pw i*gd v i)=g*dv (v.take i)+pw i*(g*gd v i):=by rw [Int.mul_add,Int.mul_left_comm]
   rw [e2,Int.mul_sub (pw i),Int.mul_sub (pw (i+1)),Int.mul_zero]
   omega
 ·right
  have hia:i=u.length:=by omega
  subst hia
  refine ⟨(c,l),by rw [if_neg (by simp)],hll,hd,hc,?_⟩
  rw [GB hl] at he
  exact he
theorem Hr {u v:List Int} (hu:Dg u) (hv:Dg v) (hf:Fit u) (hl:v.length≤u.length) :
  ∃ l,a8 (jM v u) (0,0,u)=some l∧l.length=u.length∧Dg l∧∃ c,0≤c∧dv l+pw u.length*c=dv u+dv v:=by
 unfold Fit at hf
 refine eD (I:=fun i s=>s.2.1=(i:Int)∧s.2.2.length=u.length∧Dg s.2.2∧(∀ j (hj:j<s.2.2.length) (hj':j<u.length),i≤j→s.2.2[j]=u[j])∧(0≤s.1∧s.1≤1)∧dv s.2.2+pw i*s.1=dv u+dv (v.take i))
  u.length _ ⟨rfl,rfl,hu,fun j hj _ _=>rfl,by simp,by simp [dv]⟩ (lQ (by omega)) ?_
 rintro i ⟨c,s,l⟩ hi ⟨h1,hll,hd,hz,hc,he⟩
 simp only at h1 hll hd hz hc he
 subst h1
 simp only [jM]
 by_cases hlt:i<u.length
 ·left
  have hli:i<l.length:=by omega
  rw [if_pos (by simpa using hlt),cp hli,Option.bind_some,hz i hli hlt (Nat.le_refl _)]
  have ga:=hu.get hlt
  have gb:=NN hv i
  have hT:(if decide ((i:Int)<(v.length:Int))=true then (P.idx v (i:Int)).bind fun x35=>some (IntKind.i64.wrap ((IntKind.i64.wrap (c+u[i]))+x35)) else some (IntKind.i64.wrap (c+u[i])))=some (c+u[i]+gd v i):=by
   by_cases hib:i<v.length
   ·rw [if_pos (by simpa using hib),cp hib,Option.bind_some]
    rw [NO hib] at gb ⊢
    rw [iQ (x:=c+u[i]) (by omega),iQ (by omega)]
   ·rw [if_neg (by simpa using hib),IX (by omega),iQ (by omega)]; simp
  rw [hT,Option.bind_some,R2,Option.bind_some,As (by omega) (by omega)]
  have e1:IntKind.i64.wrap ((i:Int)+1)=((i+1:Nat):Int):=by rw [iQ (by omega)]; omega
  refine ⟨hlt,_,rfl,e1,by simpa using hll,hd.set _ (by omega),fun j hj hj' hij => ?_,by simp only; omega,?_⟩
  ·simp only [Int.toNat_natCast] at hj ⊢
   rw [List.getElem_set_ne (by omega)]
   exact hz j (by simpa using hj) hj' (by omega)
  ·simp only [Int.toNat_natCast]
   rw [xp hli,hz i hli hlt (Nat.le_refl _),wk]
   have hp:=xY i (c+u[i]+gd v i)
   rw [Int.mul_add (pw i),Int.mul_add (pw i)] at hp
   rw [Int.mul_sub (pw i)]
   omega
 ·right
  have hia:i=u.length:=by omega
  subst hia
  refine ⟨l,by rw [if_neg (by simp)],hll,hd,c,hc.1,?_⟩
  rw [GB hl] at he
  exact he
theorem PS {u v:List Int} {g:Int} (hu:Dg u) (hv:Dg v) (hf:Fit u) (hl:v.length≤u.length) (hV:0<dv v) (hg0:dv u / dv v≤g) (hg1:g≤dv u / dv v+1) (hgB:g≤1048576) :
  ∃ l,fc u v g=some (l,dv u / dv v)∧l.length=u.length∧Dg l∧dv l=dv u % dv v:=by
 have hq0:0≤dv u / dv v:=Int.ediv_nonneg (ct hu) (by omega)
 obtain ⟨⟨c,l⟩,h1,h2,h3,h4,h5⟩:=Hq hu hv ⟨by omega,hgB⟩ hf hl
 simp only at h2 h3 h4 h5
 have hm:=Int.mul_ediv_add_emod (dv u) (dv v)
 have hm0:=Int.emod_nonneg (dv u) (show dv v≠0 by omega)
 have hm1:=Int.emod_lt_of_pos (dv u) hV
 have hll:=nk h3
 have hl0:=ct h3
 rw [h2] at hll
 have hp:=lu u.length
 have hvl:dv v<pw u.length:=Int.lt_of_lt_of_le (nk hv) (tB hl)
 unfold fc nf
 rw [h1,Option.bind_some]
 simp only
 rcases (show g=dv u / dv v∨g=dv u / dv v+1 by omega) with hg | hg
 ·
  have hgv:g*dv v=dv v*(dv u / dv v):=by rw [hg,Int.mul_comm]
  have hc0:c=0:=by
   rcases (show c=0∨1≤c by omega) with h | h
   ·exact h
   ·have:pw u.length*1≤pw u.length*c:=Int.mul_le_mul_of_nonneg_left h (by omega)
    omega
  subst hc0
  rw [if_pos (by simp),Option.bind_some,if_pos (by simpa using h2)]
  exact ⟨l,by rw [hg],h2,h3,by rw [Int.mul_zero] at h5; omega⟩
 ·
  have hgv:g*dv v=dv v*(dv u / dv v)+dv v:=by rw [hg,Int.add_mul,Int.one_mul,Int.mul_comm]
  have hc0:c≠0:=by
   intro h
   subst h
   rw [Int.mul_zero] at h5
   omega
  obtain ⟨m,g1,g2,g3,d,g4,g5⟩:=Hr h3 hv (by unfold Fit at *; omega) (by omega)
  rw [if_neg (by simpa using hc0),g1,Option.bind_some,Option.bind_some,if_pos (by simp; omega)]
  refine ⟨m,by rw [iQ (by omega),hg]; simp,by omega,g3,?_⟩
  rw [h2] at g5
  have hml:=nk g3
  have hm0':=ct g3
  rw [g2,h2] at hml
  have hcd:c=d:=by
   rcases Int.lt_trichotomy c d with h | h | h
   ·have:pw u.length*(c+1)≤pw u.length*d:=Int.mul_le_mul_of_nonneg_left (by omega) (by omega)
    rw [Int.mul_add,Int.mul_one] at this
    omega
   ·exact h
   ·have:pw u.length*(d+1)≤pw u.length*c:=Int.mul_le_mul_of_nonneg_left (by omega) (by omega)
    rw [Int.mul_add,Int.mul_one] at this
    omega
  subst hcd
  omega
end Go.Proofs.YtpkahnkoecbndaaGreatDoor.P
namespace Go.Proofs.YtpkahnkoecbndaaGreatDoor.P
open Go.RowKit
set_option linter.unusedSimpArgs false
set_option linter.unusedVariables false
theorem LI {v u:List Int} {s13:Int} {v1 v2 w2 T V W:Int} {n:Nat} (hn:2≤n) (hlen:v.length=n) (hfv:n≤17592186044416) (i:Nat) (hs:s13=i) (hfi:i+n≤17592186044416)
  (hv2:P.idx v (((n - 2:Nat)):Int)=some v2) (hw2:P.idx u (((i+n - 2:Nat)):Int)=some w2)
  (b1:524288≤v1∧v1<1048576) (b2:0≤v2∧v2<1048576) (bw:0≤w2∧w2<1048576) (hT0:0≤T) (hT1:T<1048576*1048576)
  (hV:pw (n - 2)*(v1*1048576+v2)≤V∧V<pw (n - 2)*(v1*1048576+v2+1)) (hW:pw (n - 2)*(T*1048576+w2)≤W∧W<pw (n - 2)*(T*1048576+w2+1)) (hWV:W<1048576*V) :
  ∃ g,a8 (pQ v s13 u v1) (T / v1,T % v1)=some g∧W / V≤g∧g≤W / V+1∧g≤1048576:=by
 subst hs
 have hp:=lu (n - 2)
 have hVp:0<V:=by
  have:pw (n - 2)*1≤pw (n - 2)*(v1*1048576+v2):=Int.mul_le_mul_of_nonneg_left (by omega) (by omega)
  omega
 have hW0:0≤W:=by
  have:0≤pw (n - 2)*(T*1048576+w2):=Int.mul_nonneg (by omega) (by omega)
  omega
 have hq0:0≤W / V:=Int.ediv_nonneg hW0 (by omega)
 have hqB:W / V<1048576:=Int.ediv_lt_of_lt_mul hVp hWV
 have hm:=Int.mul_ediv_add_emod T v1
 have hm0:=Int.emod_nonneg T (show v1≠0 by omega)
 have hm1:=Int.emod_lt_of_pos T (show 0<v1 by omega)
 have hd0:0≤T / v1:=Int.ediv_nonneg hT0 (by omega)
 have hd1:T / v1≤2097152:=by
  have:T / v1<2097153:=Int.ediv_lt_of_lt_mul (by omega) (by
   have:2097153*524288≤2097153*v1:=Int.mul_le_mul_of_nonneg_left b1.1 (by omega)
   omega)
  omega
 have hge : ∀ g r:Int,g*v1+r=T→W / V≤g→g*v2 > r*1048576+w2→W / V≤g - 1:=by
  intro g r h1 h2 h3
  have h4:W<g*V:=by
   have e1:g*(v1*1048576+v2)≥T*1048576+w2+1:=by
    rw [← h1]
    have:g*(v1*1048576+v2)=g*v1*1048576+g*v2:=by rw [Int.mul_add,Int.mul_assoc]
    rw [this,Int.add_mul]
    omega
   have e2:pw (n - 2)*(T*1048576+w2+1)≤pw (n - 2)*(g*(v1*1048576+v2)):=Int.mul_le_mul_of_nonneg_left e1 (by omega)
   have e3:g*(pw (n - 2)*(v1*1048576+v2))≤g*V:=Int.mul_le_mul_of_nonneg_left hV.1 (by omega)
   have e4:pw (n - 2)*(g*(v1*1048576+v2))=g*(pw (n - 2)*(v1*1048576+v2)):=Int.mul_left_comm _ _ _
   omega
  have:=Int.ediv_lt_of_lt_mul hVp h4
  omega
 have hle : ∀ g r:Int,g*v1+r=T→0≤g→g≤1048576→g*v2≤r*1048576+w2→g≤W / V+1:=by
  intro g r h1 h0 hB h3
  have e1:g*(v1*1048576+v2)≤T*1048576+w2:=by
   rw [← h1]
   have:g*(v1*1048576+v2)=g*v1*1048576+g*v2:=by rw [Int.mul_add,Int.mul_assoc]
   rw [this,Int.add_mul]
   omega
  have e2:g*V≤W+V:=by
   have f1:g*V≤g*(pw (n - 2)*(v1*1048576+v2+1)):=Int.mul_le_mul_of_nonneg_left (by omega) h0
   have f2:g*(pw (n - 2)*(v1*1048576+v2+1))=pw (n - 2)*(g*(v1*1048576+v2))+pw (n - 2)*g:=by
    rw [Int.mul_left_comm,Int.mul_add g,Int.mul_one,Int.mul_add]
   have f3:pw (n - 2)*(g*(v1*1048576+v2))≤pw (n - 2)*(T*1048576+w2):=Int.mul_le_mul_of_nonneg_left e1 (by omega)
   have f4:pw (n - 2)*g≤pw (n - 2)*(v1*1048576+v2):=Int.mul_le_mul_of_nonneg_left (by omega) (by omega)
   omega
  have e3:(g - 1)*V≤W:=by rw [Int.sub_mul,Int.one_mul]; omega
  have:=Int.le_ediv_of_mul_le hVp e3
  omega
 have hbase:W / V≤T / v1:=by
  have e1:W<(T / v1+1)*V:=by
   have f1:T+1≤(T / v1+1)*v1:=by
    have:(T / v1+1)*v1=v1*(T / v1)+v1:=by rw [Int.add_mul,Int.one_mul,Int.mul_comm]
    omega
   have f2:T*1048576+w2+1≤(T / v1+1)*(v1*1048576+v2):=by
    have g1:(T+1)*1048576≤(T / v1+1)*v1*1048576:=Int.mul_le_mul_of_nonneg_right f1 (by omega)
    have g2:0≤(T / v1+1)*v2:=Int.mul_nonneg (by omega) b2.1
    rw [Int.mul_add,← Int.mul_assoc]
    omega
   have f3:pw (n - 2)*(T*1048576+w2+1)≤pw (n - 2)*((T / v1+1)*(v1*1048576+v2)):=Int.mul_le_mul_of_nonneg_left f2 (by omega)
   have f4:(T / v1+1)*(pw (n - 2)*(v1*1048576+v2))≤(T / v1+1)*V:=Int.mul_le_mul_of_nonneg_left hV.1 (by omega)
   have f5:pw (n - 2)*((T / v1+1)*(v1*1048576+v2))=(T / v1+1)*(pw (n - 2)*(v1*1048576+v2)):=Int.mul_left_comm _ _ _
   omega
  have:=Int.ediv_lt_of_lt_mul hVp e1
  omega
 refine ja (I:=fun (s:Int×Int)=>s.1*v1+s.2=T∧W / V≤s.1∧s.1≤2097152∧0≤s.2) (μ:=fun (s:Int×Int)=>s.1.toNat) _ ⟨?_,hbase,hd1,hm0⟩ (by unfold FU; omega) ?_
 ·show T / v1*v1+T % v1=T
  rw [Int.mul_comm]; exact hm
 rintro ⟨g,r⟩ ⟨h1,h2,h3,h4⟩
 simp only at h1 h2 h3 h4
 have hgv:0≤g*v1:=Int.mul_nonneg (by omega) (by omega)
 simp only [pQ]
 have el:IntKind.i64.wrap ((v.length:Int) - 2)=((n - 2:Nat):Int):=by rw [hlen,iQ (by omega)]; omega
 have ei:IntKind.i64.wrap ((IntKind.i64.wrap ((i:Int)+(v.length:Int))) - 2)=((i+n - 2:Nat):Int):=by rw [hlen,iQ (x:=(i:Int)+n) (by omega),iQ (by omega)]; omega
 rw [el,ei]
 have hstep:W / V≤g - 1→∃ s':Int×Int,(some (Sum.inl (IntKind.i64.wrap (g - 1),IntKind.i64.wrap (r+v1))):Option ((Int×Int)⊕Int))=some (.inl s')∧(s'.1*v1+s'.2=T∧W / V≤s'.1∧s'.1≤2097152∧0≤s'.2)∧s'.1.toNat<g.toNat:=by
  intro hlt
  refine ⟨_,rfl,?_⟩
  rw [iQ (x:=g - 1) (by omega),iQ (x:=r+v1) (by omega)]
  simp only
  refine ⟨⟨by rw [Int.sub_mul,Int.one_mul]; omega,hlt,by omega,by omega⟩,by omega⟩
 by_cases hgB:g≥1048576
 ·rw [if_pos (by simpa using hgB),Option.bind_some,if_pos rfl]
  exact .inl (hstep (by omega))
 ·rw [if_neg (by simpa using hgB)]
  by_cases hr:r<1048576
  ·have hgv2:0≤g*v2:=Int.mul_nonneg (by omega) b2.1
   have hgv2':g*v2≤1048576*1048576:=Int.mul_le_mul (by omega) (by omega) b2.1 (by omega)
   rw [if_pos (by simpa using hr),hv2,Option.bind_some,R0 h4 (by omega),Option.bind_some,hw2,Option.bind_some,iQ (x:=g*v2) (by omega),Mk h4 (by omega) bw,Option.bind_some]
   by_cases ht:g*v2 > 1048576*r+w2
   ·rw [if_pos (by simpa using ht)]
    exact .inl (hstep (hge g r h1 h2 (by omega)))
   ·rw [if_neg (by simpa using ht)]
    exact .inr ⟨g,rfl,h2,hle g r h1 (by omega) (by omega) (by omega),by omega⟩
  ·rw [if_neg (by simpa using hr),Option.bind_some,if_neg (by simp)]
   refine .inr ⟨g,rfl,h2,hle g r h1 (by omega) (by omega) ?_,by omega⟩
   have:g*v2≤1048575*1048575:=Int.mul_le_mul (by omega) (by omega) b2.1 (by omega)
   have:1048576*1048576≤r*1048576:=Int.mul_le_mul_of_nonneg_right (by omega) (by omega)
   omega
end Go.Proofs.YtpkahnkoecbndaaGreatDoor.P
namespace Go.Proofs.YtpkahnkoecbndaaGreatDoor.P
open Go.RowKit
set_option linter.unusedSimpArgs false
set_option linter.unusedVariables false
theorem Vl {α:Type} {l:List α} {a b:Nat} (h:a≤b) (hb:b≤l.length):CN l (a:Int) (b:Int)=some ((l.drop a).take (b - a)):=by
 unfold CN
 rw [if_pos ⟨by omega,by omega,by omega⟩]
 simp
theorem Tl {l:List Int} {n:Nat} (hl:l.length=n) (hn:2≤n) (hd:Dg l) :
  pw (n - 2)*((l[n - 1]'(by omega))*1048576+l[n - 2]'(by omega))≤dv l∧dv l<pw (n - 2)*((l[n - 1]'(by omega))*1048576+l[n - 2]'(by omega)+1):=by
 have e:=ig l (i:=n - 2) (by omega)
 rw [jm (by omega),jm (i:=n - 2+1) (by omega),List.drop_eq_nil_of_le (by omega)] at e
 have e1:l[n - 2+1]'(by omega)=l[n - 1]'(by omega):=by congr 1; omega
 rw [e1] at e
 have h1:=ct (hd.take (n - 2))
 have h2:=nk (hd.take (n - 2))
 rw [List.length_take,Nat.min_eq_left (by omega)] at h2
 simp only [dv] at e
 have e2:l[n - 2]'(by omega)+1048576*(l[n - 1]'(by omega)+1048576*0)=(l[n - 1]'(by omega))*1048576+l[n - 2]'(by omega):=by omega
 rw [e2] at e
 rw [Int.mul_add (pw (n - 2)) _ 1,Int.mul_one]
 omega
theorem Tm {l:List Int} {n:Nat} (hl:l.length=n+1) (hn:2≤n) (hd:Dg l) :
  pw (n - 2)*((1048576*(l[n]'(by omega))+l[n - 1]'(by omega))*1048576+l[n - 2]'(by omega))≤dv l∧dv l<pw (n - 2)*((1048576*(l[n]'(by omega))+l[n - 1]'(by omega))*1048576+l[n - 2]'(by omega)+1):=by
 have e:=ig l (i:=n - 2) (by omega)
 rw [jm (by omega),jm (i:=n - 2+1) (by omega),jm (i:=n - 2+1+1) (by omega),List.drop_eq_nil_of_le (by omega)] at e
 have e1:l[n - 2+1]'(by omega)=l[n - 1]'(by omega):=by congr 1; omega
 have e3:l[n - 2+1+1]'(by omega)=l[n]'(by omega):=by congr 1; omega
 rw [e1,e3] at e
 have h1:=ct (hd.take (n - 2))
 have h2:=nk (hd.take (n - 2))
 rw [List.length_take,Nat.min_eq_left (by omega)] at h2
 simp only [dv] at e
 have e2:l[n - 2]'(by omega)+1048576*(l[n - 1]'(by omega)+1048576*(l[n]'(by omega)+1048576*0))=(1048576*(l[n]'(by omega))+l[n - 1]'(by omega))*1048576+l[n - 2]'(by omega):=by omega
 rw [e2] at e
 rw [Int.mul_add (pw (n - 2)) _ 1,Int.mul_one]
 omega
theorem QT {v u0:List Int} {n m:Nat} (hv:Dg v) (hvl:v.length=n) (hn:2≤n) (hv1:524288≤v[n - 1]'(by omega)) (hu:Dg u0) (hul:u0.length=m+n) (hf:m+n≤17592186044416) (hdr:dv (u0.drop m)<dv v) :
  ∃ r,a8 (pP v) ((m:Int) - 1,u0,List.replicate m 0)=some r∧r.1.length=m+n∧Dg r.1∧r.2.length=m∧Dg r.2∧dv r.1+dv v*dv r.2=dv u0∧dv r.1<dv v:=by
 have hvn:=nk hv
 rw [hvl] at hvn
 refine eD (I:=fun i s=>s.1=((m - i:Nat):Int) - 1∧s.2.1.length=m+n∧Dg s.2.1∧s.2.2.length=m∧Dg s.2.2∧(∀ j (hj:j<s.2.2.length),j<m - i→s.2.2[j]=0)∧dv s.2.1+dv v*dv s.2.2=dv u0∧dv (s.2.1.drop (m - i))<dv v)
  m _ ⟨rfl,hul,hu,by simp,Dg.rep _,fun j hj _=>by simp,by simp [A6],hdr⟩ (lQ (by omega)) ?_
 rintro i ⟨s,u,q⟩ hi ⟨h1,hl,hd,hql,hqd,hz,he,hdr⟩
 simp only at h1 hl hd hql hqd hz he hdr
 subst h1
 generalize hk:m - i=k at *
 simp only [pP]
 by_cases h0:0<k
 ·left
  have ek:((k:Int) - 1)=((k - 1:Nat):Int):=by omega
  rw [ek,if_pos (by simp)]
  have e1:IntKind.i64.wrap (((k - 1:Nat):Int)+(v.length:Int))=((k - 1+n:Nat):Int):=by rw [hvl,iQ (by omega)]; omega
  have e2:IntKind.i64.wrap (((k - 1+n:Nat):Int) - 1)=((k - 1+n - 1:Nat):Int):=by rw [iQ (by omega)]; omega
  have e3:IntKind.i64.wrap ((v.length:Int) - 1)=((n - 1:Nat):Int):=by rw [hvl,iQ (by omega)]; omega
  have e4:IntKind.i64.wrap (((k - 1+n:Nat):Int)+1)=((k - 1+n+1:Nat):Int):=by rw [iQ (by omega)]; omega
  have e5:IntKind.i64.wrap (((k - 1:Nat):Int) - 1)=((k - 1:Nat):Int) - 1:=iQ (by omega)
  rw [e1,e2,e3,e4,e5]
  have i1:k - 1+n<u.length:=by omega
  have i2:k - 1+n - 1<u.length:=by omega
  have i3:k - 1+n - 2<u.length:=by omega
  have iv:n - 1<v.length:=by omega
  have iv2:n - 2<v.length:=by omega
  have g1:=hd.get i1
  have g2:=hd.get i2
  have g3:=hd.get i3
  have gv:=hv.get iv
  have gv2:=hv.get iv2
  rw [cp i1,Option.bind_some,R0 g1.1 (by omega),Option.bind_some,cp i2,Option.bind_some,cp iv,Option.bind_some,Mk g1.1 (by omega) g2,Tj (by omega) (by omega) (by omega),Option.bind_some,Vc (by omega) (by omega),Option.bind_some,Vl (by omega) (by omega),show k - 1+n+1 - (k - 1)=n+1 by omega]
  generalize hw:(u.drop (k - 1)).take (n+1)=w
  have hwl:w.length=n+1:=by rw [← hw,List.length_take,List.length_drop]; omega
  have hwd:Dg w:=by rw [← hw]; exact (hd.drop _).take _
  have hwg : ∀ j (hj:j<n+1),w[j]'(by omega)=u[k - 1+j]'(by omega):=by
   intro j hj
   subst hw
   rw [List.getElem_take,List.getElem_drop]
  have hup:dv (u.drop (k+n))=0:=by
   have s1:=ig (u.drop k) (i:=n) (by rw [List.length_drop]; omega)
   rw [List.drop_drop] at s1
   have n1:=ct ((hd.drop k).take n)
   have n2:=ct (hd.drop (k+n))
   have hp:=lu n
   rcases (show dv (u.drop (k+n))=0∨1≤dv (u.drop (k+n)) by omega) with h | h
   ·exact h
   ·have:pw n*1≤pw n*dv (u.drop (k+n)):=Int.mul_le_mul_of_nonneg_left h (by omega)
    omega
  have hW:dv w=dv (u.drop (k - 1)):=by
   have s1:=ig (u.drop (k - 1)) (i:=n+1) (by rw [List.length_drop]; omega)
   rw [List.drop_drop,show k - 1+(n+1)=k+n by omega,hup,hw] at s1
   omega
  have hWk:dv w=u[k - 1]+1048576*dv (u.drop k):=by
   rw [hW,jm (by omega),show k - 1+1=k by omega]
  have gk:=hd.get (show k - 1<u.length by omega)
  have hWV:dv w<1048576*dv v:=by omega
  have t2:=Tl hvl hn hv
  have t3:=Tm hwl hn hwd
  rw [hwg n (by omega),hwg (n - 1) (by omega),hwg (n - 2) (by omega)] at t3
  have a1:u[k - 1+(n - 1)]'(by omega)=u[k - 1+n - 1]'(by omega):=by congr 1; omega
  have a2:u[k - 1+(n - 2)]'(by omega)=u[k - 1+n - 2]'(by omega):=by congr 1; omega
  rw [a1,a2] at t3
  obtain ⟨g,q1,q2,q3,q4⟩:=LI (s13:=((k - 1:Nat):Int)) hn hvl (by omega) (k - 1) rfl (by omega) (cp iv2) (cp i3) ⟨hv1,gv.2⟩ gv2 g3 (T:=1048576*u[k - 1+n]+u[k - 1+n - 1]) (by omega) (by omega) t2 t3 hWV
  rw [q1,Option.bind_some,Option.bind_some]
  have hVp:0<dv v:=by
   have:=ct hwd
   omega
  obtain ⟨l,r1,r2,r3,r4⟩:=PS hwd hv (by unfold Fit; omega) (by omega) hVp q2 q3 q4
  have iq:k - 1<q.length:=by omega
  rw [r1,Option.bind_some,cp iq,Option.bind_some]
  simp only
  have hq0:0≤dv w / dv v:=Int.ediv_nonneg (ct hwd) (by omega)
  have hqB:dv w / dv v<1048576:=Int.ediv_lt_of_lt_mul hVp hWV
  have hmod:=Int.emod_lt_of_pos (dv w) hVp
  simp only [Int.toNat_natCast]
  have hdl:dv (l++u.drop (k - 1+n+1))=dv w % dv v:=by
   rw [fw,show k - 1+n+1=k+n by omega,hup,r4]; omega
  have hut:(u.take (k - 1)).length=k - 1:=by rw [List.length_take]; omega
  have hdu:dv (u.take (k - 1)++(l++u.drop (k - 1+n+1)))=dv (u.take (k - 1))+pw (k - 1)*(dv w % dv v):=by rw [fw,hut,hdl]
  refine ⟨by omega,_,rfl,by rw [show m - (i+1)=k - 1 by omega],?_,(hd.take _).append (r3.append (hd.drop _)),by simpa using hql,hqd.set _ ⟨hq0,hqB⟩,fun j hj hjk => ?_,?_,?_⟩
  ·simp only [List.length_append,List.length_take,List.length_drop]; omega
  ·rw [List.getElem_set_ne (by omega)]
   exact hz j (by simpa using hj) (by omega)
  ·rw [hdu,xp iq,hz _ iq (by omega),Int.sub_zero,Int.mul_add]
   have s2:=ig u (i:=k - 1) (by omega)
   rw [← hW] at s2
   have hm:=Int.mul_ediv_add_emod (dv w) (dv v)
   have:pw (k - 1)*dv w=dv v*(pw (k - 1)*(dv w / dv v))+pw (k - 1)*(dv w % dv v):=by
    rw [Int.mul_left_comm,← Int.mul_add,hm]
   omega
  ·rw [show m - (i+1)=k - 1 by omega,List.drop_append,hut,Nat.sub_self,List.drop_zero,List.drop_eq_nil_of_le (by omega),List.nil_append,hdl]
   exact hmod
 ·right
  have:k=0:=by omega
  subst this
  refine ⟨(u,q),by rw [if_neg (by simp)],hl,hd,hql,hqd,he,?_⟩
  simpa using hdr
theorem Mq {v:List Int} {t:Int} {n:Nat} (hl:v.length=n) (hn:0<n) (hf:n≤17592186044416) (ht:v[n - 1]'(by omega)=t) (h1:1≤t) (h2:t<1048576) :
  ∃ s,a8 (pO v) 1=some s∧∃ j:Nat,s=2 ^ j∧j≤19∧524288≤t*s∧t*s<1048576:=by
 refine eD (I:=fun i s=>s=2 ^ i∧t*s<1048576) 20 _ ⟨rfl,by omega⟩ (by unfold FU; omega) ?_
 rintro i s hi ⟨rfl,hb⟩
 have hp:(0:Int)<2 ^ i:=Int.pow_pos (by decide)
 have hpt:(2:Int) ^ i≤t*2 ^ i:=by
  have:1*(2:Int) ^ i≤t*2 ^ i:=Int.mul_le_mul_of_nonneg_right h1 (by omega)
  omega
 have hi20:i≤19:=by
  rcases Nat.lt_or_ge 19 i with h | h
  ·have hx:i=20:=by omega
   subst hx
   omega
  ·exact h
 simp only [pO]
 have e:IntKind.i64.wrap ((v.length:Int) - 1)=((n - 1:Nat):Int):=by rw [hl,iQ (by omega)]; omega
 rw [e,cp (by omega),Option.bind_some,ht,iQ (x:=t*2 ^ i) (by omega)]
 by_cases h:t*2 ^ i<524288
 ·left
  rw [if_pos (by simpa using h)]
  refine ⟨by omega,_,rfl,by rw [iQ (by omega),Int.pow_succ],?_⟩
  rw [iQ (by omega),← Int.mul_assoc]
  omega
 ·right
  rw [if_neg (by simpa using h)]
  exact ⟨_,rfl,i,rfl,hi20,by omega,hb⟩
theorem div_eq {m n:Nat} (hn:n≠0) (hfm:(aP m).length≤17592186043904) (hfn:(aP n).length≤17592186043904):pN (aP m) (aP n)=some (aP (m / n),aP (m % n)):=by
 unfold pN
 rw [AU (by unfold Fit; omega) (by unfold Fit; omega),Option.bind_some]
 by_cases hlt:m<n
 ·have:kU (m:Int) n<0:=by unfold kU; rw [if_pos (by omega)]; decide
  rw [if_pos (by simpa using this),vK (by unfold Fit; omega),Option.bind_some,Nat.div_eq_of_lt hlt,Nat.mod_eq_of_lt hlt,cB]
 have : ¬ kU (m:Int) n<0:=by unfold kU; rw [if_neg (by omega)]; split <;> decide
 rw [if_neg (by simpa using this)]
 obtain ⟨hp1,hp2⟩:=vP hn
 have hnl:=eX n
 by_cases h1:(aP n).length=1
 ·rw [if_pos (by simp; omega)]
  have hnB:(n:Int)<1048576:=by rw [h1] at hnl; simpa [pw] using hnl
  have e:aP n=[(n:Int)]:=by
   rw [lL hn,Nat.div_eq_of_lt (by omega),cB,Nat.mod_eq_of_lt (by omega)]
  have ei:P.idx (aP n) 0=some (n:Int):=by rw [e]; rfl
  rw [ei,Option.bind_some,KG (cF m) ⟨by omega,by omega⟩ (by unfold Fit; omega),Option.bind_some,bI]
  have hm1:(m:Int) % n=((m % n:Nat):Int):=(Int.natCast_emod m n).symm
  have hm2:((m:Int) / n).toNat=m / n:=by
   rw [← Int.natCast_ediv]; rfl
  have hml:m % n<n:=Nat.mod_lt _ (by omega)
  simp only [hm1,hm2]
  rw [Ag (n:=m % n) (by simp [Fit]) (Dg.mk (by omega) Dg.nil) (by simp [dv]),Option.bind_some]
 ·rw [if_neg (by simp; omega)]
  generalize hN:(aP n).length=N at *
  have hN2:2≤N:=by omega
  have hdn:=cF n
  have gt:=hdn.get (show N - 1<(aP n).length by omega)
  generalize ht:(aP n)[N - 1]'(by omega)=t at gt
  have hsp:=ig (aP n) (i:=N - 1) (by omega)
  rw [bI,jm (by omega),List.drop_eq_nil_of_le (by omega),ht] at hsp
  simp only [dv,Int.mul_zero,Int.add_zero] at hsp
  have lo0:=ct (hdn.take (N - 1))
  have lo1:=nk (hdn.take (N - 1))
  rw [List.length_take,Nat.min_eq_left (by omega)] at lo1
  have hpw:=lu (N - 1)
  have ht1:1≤t:=by
   rcases (show t=0∨1≤t by omega) with h | h
   ·subst h; omega
   ·exact h
  obtain ⟨s,hs1,j,hs2,hj,hs3,hs4⟩:=Mq hN (by omega) (by omega) ht ht1 gt.2
  have hj2:(2:Int) ^ j≤524288:=by
   have : ∀ j:Nat,j≤19→(2:Int) ^ j≤524288:=by decide
   exact this j hj
  have hj1:(0:Int)<2 ^ j:=Int.pow_pos (by decide)
  have hts:(t+1)*s≤1048576:=by
   have h20:(1048576:Int)=2 ^ (20 - j)*2 ^ j:=by rw [← Int.pow_add,Nat.sub_add_cancel (by omega)]; rfl
   rw [h20] at hs4 ⊢
   rw [hs2] at hs4 ⊢
   have:t<2 ^ (20 - j):=Int.lt_of_mul_lt_mul_right hs4 (by omega)
   exact Int.mul_le_mul_of_nonneg_right (by omega) (by omega)
  rw [← hs2] at hj1 hj2
  obtain ⟨S,rfl⟩ : ∃ S:Nat,s=S:=⟨s.toNat,by omega⟩
  have hSd:Dg [(S:Int)]:=Dg.mk (by omega) Dg.nil
  have hdvS:dv [(S:Int)]=S:=by simp [dv]
  rw [hs1,Option.bind_some,mul_eq (cF m) hSd (by simp; omega),Option.bind_some,bI,hdvS]
  have em:((m:Int)*S).toNat=m*S:=by rw [← Int.natCast_mul]; rfl
  have en:((n:Int)*S).toNat=n*S:=by rw [← Int.natCast_mul]; rfl
  rw [em]
  have hmS:(aP (m*S)).length≤(aP m).length+1:=by
   apply fX
   rw [jO,Int.natCast_mul]
   have a1:=eX m
   have:(m:Int)*S≤m*1048576:=Int.mul_le_mul_of_nonneg_left (by omega) (by omega)
   omega
  have hU : ∃ u,((if ((((aP (m*S)++[0]).length:Int))==((aP m).length:Int))=true then (iO 8 (aP (m*S)++[0]) [0]).bind fun x98=>some x98 else some (aP (m*S)++[0]))=some u)∧Dg u∧dv u=(m*S:Nat)∧dv u<pw (u.length - 1)∧(aP (m*S)).length+1≤u.length∧u.length≤(aP m).length+3:=by
   have d1:Dg (aP (m*S)++[0]):=(cF _).append (Dg.mk (by omega) Dg.nil)
   have v1:dv (aP (m*S)++[0])=(m*S:Nat):=by rw [fw,bI]; simp [dv]
   have v2:=eX (m*S)
   split
   ·rw [C6 (by simp; omega),Option.bind_some]
    refine ⟨_,rfl,d1.append (Dg.mk (by omega) Dg.nil),by rw [fw,v1]; simp [dv],?_,by simp,by simp; omega⟩
    rw [fw,v1]
    simp only [dv,List.length_append,List.length_cons,List.length_nil]
    have:=tB (i:=(aP (m*S)).length) (j:=(aP (m*S)).length+1) (by omega)
    rw [show (aP (m*S)).length+(0+1)+(0+1) - 1=(aP (m*S)).length+1 by omega]
    omega
   ·refine ⟨_,rfl,d1,v1,?_,by simp,by simp; omega⟩
    rw [v1]
    simpa using v2
  obtain ⟨u,hu1,hu2,hu3,hu4,hu5,hu6⟩:=hU
  rw [C6 (by simp; omega),Option.bind_some,mul_eq (cF n) hSd (by simp; omega),Option.bind_some,bI,hdvS,en,hu1,Option.bind_some]
  have hVlo:524288*pw (N - 1)≤((n*S:Nat):Int):=by
   rw [Int.natCast_mul,hsp,Int.add_mul]
   have a1:0≤dv ((aP n).take (N - 1))*S:=Int.mul_nonneg lo0 (by omega)
   have a2:pw (N - 1)*524288≤pw (N - 1)*(t*S):=Int.mul_le_mul_of_nonneg_left hs3 (by omega)
   rw [Int.mul_assoc]
   omega
  have hVhi:((n*S:Nat):Int)<pw N:=by
   have a0:pw N=1048576*pw (N - 1):=by rw [← jO]; congr 1; omega
   rw [a0,Int.natCast_mul,hsp]
   have a1:(dv ((aP n).take (N - 1))+pw (N - 1)*t+1)*S≤(pw (N - 1)*(t+1))*S:=Int.mul_le_mul_of_nonneg_right (by rw [Int.mul_add]; omega) (by omega)
   have a2:pw (N - 1)*((t+1)*S)≤pw (N - 1)*1048576:=Int.mul_le_mul_of_nonneg_left hts (by omega)
   rw [Int.mul_assoc] at a1
   rw [Int.add_mul _ 1,Int.one_mul] at a1
   omega
  have hVN:(aP (n*S)).length=N:=by
   have a1:=fX hVhi
   rcases Nat.lt_or_ge (aP (n*S)).length N with h | h
   ·have a2:=eX (n*S)
    have a3:=tB (i:=(aP (n*S)).length) (j:=N - 1) (by omega)
    omega
   ·omega
  have hV1:524288≤(aP (n*S))[N - 1]'(by omega):=by
   have a1:=ig (aP (n*S)) (i:=N - 1) (by omega)
   rw [bI,jm (by omega),List.drop_eq_nil_of_le (by omega)] at a1
   simp only [dv,Int.mul_zero,Int.add_zero] at a1
   have a2:=nk ((cF (n*S)).take (N - 1))
   rw [List.length_take,Nat.min_eq_left (by omega)] at a2
   have a3:pw (N - 1)*524288<pw (N - 1)*((aP (n*S))[N - 1]'(by omega)+1):=by rw [Int.mul_add]; omega
   have:=Int.lt_of_mul_lt_mul_left a3 (by omega)
   omega
  have hlen:N+1≤u.length:=by
   have:n*S≤m*S:=Nat.mul_le_mul_right _ (by omega)
   have:=eM this
   omega
  obtain ⟨M,hM⟩ : ∃ M,u.length=M+N:=⟨u.length - N,by omega⟩
  have e1:IntKind.i64.wrap ((u.length:Int) - ((aP (n*S)).length:Int))=(M:Int):=by rw [hVN,hM,iQ (by omega)]; omega
  rw [e1,V5 (by omega),Option.bind_some,List.length_replicate,iQ (x:=(M:Int) - 1) (by omega)]
  have hdr:dv (u.drop M)<dv (aP (n*S)):=by
   rw [bI]
   have a1:=ig u (i:=M) (by omega)
   have a2:=ct (hu2.take M)
   have a3:pw M*dv (u.drop M)<pw M*pw (N - 1):=by
    rw [← Cq,show M+(N - 1)=u.length - 1 by omega]
    omega
   have:=Int.lt_of_mul_lt_mul_left a3 (by have:=lu M; omega)
   omega
  obtain ⟨⟨U,Q⟩,r1,r2,r3,r4,r5,r6,r7⟩:=QT (cF (n*S)) hVN hN2 hV1 hu2 hM (by omega) hdr
  simp only at r2 r3 r4 r5 r6 r7
  rw [r1,Option.bind_some]
  simp only
  rw [bI,hu3] at r6
  rw [bI] at r7
  have hU0:=ct r3
  have hQ0:=ct r5
  have hS:0<S:=by omega
  have hnS:0<n*S:=Nat.mul_pos (by omega) hS
  obtain ⟨U',hU'⟩ : ∃ k:Nat,dv U=k:=⟨(dv U).toNat,by omega⟩
  obtain ⟨Q',hQ'⟩ : ∃ k:Nat,dv Q=k:=⟨(dv Q).toNat,by omega⟩
  rw [hU',hQ'] at r6
  rw [hU'] at r7
  have hnat:U'+n*S*Q'=m*S:=by
   have:((U'+n*S*Q':Nat):Int)=((m*S:Nat):Int):=by rw [Int.natCast_add,Int.natCast_mul (n*S) Q']; exact r6
   omega
  have hUlt:U'<n*S:=by omega
  have hQe:Q'=m / n:=by
   have:m*S / (n*S)=Q':=by
    rw [← hnat,Nat.add_mul_div_left _ _ hnS,Nat.div_eq_of_lt hUlt,Nat.zero_add]
   rw [← this,Nat.mul_div_mul_right _ _ hS]
  have hUe:U'=(m % n)*S:=by
   have:m*S % (n*S)=U':=by rw [← hnat,Nat.add_mul_mod_self_left,Nat.mod_eq_of_lt hUlt]
   rw [← this,Nat.mul_mod_mul_right]
  rw [Ag (n:=U') (by unfold Fit; omega) r3 hU',Option.bind_some]
  have hUlen:(aP U').length≤N:=fX (by omega)
  rw [KG (cF U') ⟨by omega,by omega⟩ (by unfold Fit; omega),Option.bind_some,Ag (n:=Q') (by unfold Fit; omega) r5 hQ',Option.bind_some,bI,hQe,hUe]
  have:((((m % n)*S:Nat):Int) / (S:Int)).toNat=m % n:=by
   rw [Int.natCast_mul,Int.mul_ediv_cancel _ (by omega)]; rfl
  rw [this]
end Go.Proofs.YtpkahnkoecbndaaGreatDoor.P
namespace Go.Proofs.YtpkahnkoecbndaaGreatDoor.P
open Go.RowKit
set_option linter.unusedSimpArgs false
set_option linter.unusedVariables false
def gz (x:Int):aw:=aw.mk x.sign (aP x.natAbs)
def Ln (x:Int):Nat:=(aP x.natAbs).length
def pH:Nat:=4398046511104
def jx:Nat:=17592186043904
theorem HF {n:Nat} (h:n≤pH):n≤jx:=Nat.le_trans h (by decide)
theorem Ca:gz 0=aw.mk 0 []:=by unfold gz; rw [show (0:Int).natAbs=0 from rfl,cB]; rfl
theorem G3 {x y:Int} (h:gz x=gz y):x=y:=by
 unfold gz at h
 simp only [aw.mk.injEq] at h
 have:=QS h.2
 have h1:=Int.sign_mul_natAbs x
 have h2:=Int.sign_mul_natAbs y
 rw [← h1,← h2,h.1,this]
theorem Qa {x:Int} {k:Nat} (h:(x.natAbs:Int)<pw k):Ln x≤k:=fX h
theorem Uw (x:Int):(x.natAbs:Int)<pw (Ln x):=eX _
theorem xi (x y:Int):Ln (x*y)≤Ln x+Ln y:=by
 apply Qa
 have h1:=Uw x
 have h2:=Uw y
 rw [Int.natAbs_mul,Int.natCast_mul,Cq]
 have hx:=lu (Ln x)
 calc (x.natAbs:Int)*y.natAbs≤pw (Ln x)*y.natAbs:=Int.mul_le_mul_of_nonneg_right (by omega) (by omega)
  _<pw (Ln x)*pw (Ln y):=Int.mul_lt_mul_of_pos_left h2 hx
theorem HG {x:Int} (h:x.natAbs<1048576):Ln x≤1:=Qa (by rw [jO,mJ]; omega)
instance (l:List Int):Decidable (Dg l):=by unfold Dg; infer_instance
def okB (b:aw):Bool:=decide (Dg b.aa)&&(match b.aa.getLast? with | none=>b.ag==0 | some d=>(b.ag==1||b.ag == -1)&&d != 0)
theorem qo {b:aw} : okB b=true↔∃ x,b=gz x:=by
 obtain ⟨s,l⟩:=b
 unfold okB
 simp only [Bool.and_eq_true,decide_eq_true_eq]
 constructor
 ·rintro ⟨hd,h⟩
  cases hl:l.getLast? with
  | none =>
   rw [hl] at h
   have:l=[]:=List.getLast?_eq_none_iff.1 hl
   subst this
   exact ⟨0,by rw [Ca]; simpa using h⟩
  | some d =>
   rw [hl] at h
   simp only [Bool.and_eq_true,Bool.or_eq_true,beq_iff_eq,bne_iff_ne] at h
   have hne:l≠[]:=by intro h0; subst h0; simp at hl
   have hlast : ∀ h:l≠[],l.getLast h≠0:=by
    intro h'
    rw [List.getLast?_eq_some_getLast h'] at hl
    cases hl
    exact h.2
   have e:=zX hd hlast
   have h0:(dv l).toNat≠0:=by
    intro h0
    rw [h0,cB] at e
    exact hne e.symm
   have hn:=ct hd
   refine ⟨s*dv l,?_⟩
   unfold gz
   rcases h.1 with rfl | rfl
   ·rw [Int.one_mul,Int.sign_eq_one_of_pos (by omega)]
    have:(dv l).natAbs=(dv l).toNat:=by omega
    rw [this,e]
   ·rw [Int.neg_mul,Int.one_mul,Int.sign_neg,Int.sign_eq_one_of_pos (by omega)]
    have:(-dv l).natAbs=(dv l).toNat:=by omega
    rw [this,e]
 ·rintro ⟨x,hx⟩
  unfold gz at hx
  simp only [aw.mk.injEq] at hx
  obtain ⟨rfl,rfl⟩:=hx
  refine ⟨cF _,?_⟩
  by_cases h0:x=0
  ·subst h0; simp [cB]
  ·have hne:aP x.natAbs≠[]:=fun h=>h0 (by have:=oW.1 h; omega)
   rw [List.getLast?_eq_some_getLast hne]
   have h1:=O1 _ hne
   simp only [Bool.and_eq_true,Bool.or_eq_true,beq_iff_eq,bne_iff_ne]
   refine ⟨?_,h1⟩
   rcases Int.lt_trichotomy x 0 with h | h | h
   ·right; exact Int.sign_eq_neg_one_of_neg h
   ·exact absurd h h0
   ·left; exact Int.sign_eq_one_of_pos h
theorem G5 (x:Int):okB (gz x)=true:=qo.2 ⟨x,rfl⟩
theorem CD {b:aw} (hf:Fit b.aa):eh b=some (okB b):=by
 obtain ⟨s,l⟩:=b
 simp only [Fit] at hf
 have key : ∃ r,a8 (mB ⟨s,l⟩) 0=some r∧(match r with | .inl _=>Dg l | .inr x=>x=false∧¬ Dg l):=by
  refine eD (I:=fun i s=>s=(i:Int)∧Dg (l.take i)) l.length _ ⟨rfl,by simpa using Dg.nil⟩ (lQ hf) ?_
  rintro i s hi ⟨rfl,hd⟩
  simp only [mB]
  by_cases hlt:i<l.length
  ·rw [if_pos (by simpa using hlt),cp hlt,Option.bind_some]
   by_cases h1:l[i]<0
   ·right
    exact ⟨.inr false,by rw [if_pos (by simpa using h1)],rfl,fun hh=>by have:=hh.get hlt; omega⟩
   ·by_cases h2:l[i] > 1048575
    ·right
     exact ⟨.inr false,by rw [if_neg (by simpa using h1),if_pos (by simpa using h2)],rfl,fun hh=>by have:=hh.get hlt; omega⟩
    ·left
     refine ⟨hlt,_,by rw [if_neg (by simpa using h1),if_neg (by simpa using h2)],by rw [iQ (by omega)]; omega,?_⟩
     have e:l.take (i+1)=l.take i++[l[i]]:=by rw [List.take_add_one]; simp [hlt]
     rw [e]
     exact hd.append (Dg.mk (by omega) Dg.nil)
  ·right
   have:i=l.length:=by omega
   subst this
   rw [List.take_length] at hd
   exact ⟨.inl (),by rw [if_neg (by simp)],hd⟩
 obtain ⟨r,h1,h2⟩:=key
 unfold eh okB
 rw [h1,Option.bind_some]
 cases r with
 | inr x =>
  obtain ⟨rfl,h⟩:=h2
  simp [h]
 | inl u =>
  simp only at h2 ⊢
  simp only [h2,decide_true,Bool.true_and]
  by_cases h0:l=[]
  ·subst h0; simp
  ·have hp:0<l.length:=List.length_pos_iff.2 h0
   have e:IntKind.i64.wrap ((l.length:Int) - 1)=((l.length - 1:Nat):Int):=by rw [iQ (by omega)]; omega
   rw [if_neg (by simpa using h0),e,cp (by omega),List.getLast?_eq_some_getLast h0,List.getLast_eq_getElem]
   simp only [Option.bind_some]
   by_cases hs:s=1
   ·subst hs; simp
   ·rw [if_neg (by simpa using hs)]
    by_cases hs':s = -1
    ·subst hs'; simp
    ·rw [if_neg (by simpa using hs')]
     simp [hs,hs']
theorem nI {x:Int} (h:Ln x≤17592186044416):eh (gz x)=some true:=by
 rw [CD (show Fit (gz x).aa from h),G5]
theorem ye {s:Int} {l:List Int} (x:Int) (hf:Fit l) (hd:Dg l) (hv:dv l=x.natAbs) (hs:x≠0→s=x.sign):fD s l=some (gz x):=by
 unfold fD
 rw [Ag hf hd hv,Option.bind_some]
 by_cases h0:x=0
 ·subst h0
  rw [show (0:Int).natAbs=0 from rfl,cB,Ca]; rfl
 ·have:aP x.natAbs≠[]:=fun h=>h0 (by have:=oW.1 h; omega)
  rw [if_neg (by simpa using this),hs h0]; rfl
theorem vI (b:aw):fU true b=some (b,0):=rfl
theorem tM (x:Int):x.sign = -1∨x.sign=0∨x.sign=1:=by
 rcases Int.lt_trichotomy x 0 with h | h | h
 ·left; exact Int.sign_eq_neg_one_of_neg h
 ·subst h; right; left; rfl
 ·right; right; exact Int.sign_eq_one_of_pos h
theorem gJ (x:Int):x.sign=1∧x=x.natAbs∧0<x∨x.sign = -1∧x = -x.natAbs∧x<0∨x.sign=0∧x=0:=by
 rcases Int.lt_trichotomy x 0 with h | h | h
 ·right; left; exact ⟨Int.sign_eq_neg_one_of_neg h,by omega,h⟩
 ·subst h; right; right; exact ⟨rfl,rfl⟩
 ·left; exact ⟨Int.sign_eq_one_of_pos h,by omega,h⟩
theorem F0 {x:Int} {s:Int} {n:Nat} (hn:n=x.natAbs) (hs:x≠0→s=x.sign) (hL:n≠0→(aP n).length≤17592186044416):fD s (aP n)=some (gz x):=by
 subst hn
 refine ye x ?_ (cF _) (bI _) hs
 unfold Fit
 by_cases h:x.natAbs=0
 ·rw [h,cB]; simp
 ·exact hL h
theorem UM {x y:Int} (hx:Ln x≤pH) (hy:Ln y≤pH):pM (gz x) (gz y)=some (gz (x*y),0):=by
 have hL:pH=4398046511104:=rfl
 have hLa:=xi x y
 unfold pM
 rw [nI (by omega),Option.bind_some]
 simp only [Bool.not_true,Bool.false_eq_true,if_false]
 rw [nI (by omega),Option.bind_some,Option.bind_some]
 simp only [Bool.not_true,Bool.false_eq_true,if_false]
 have hxd:(gz x).aa=aP x.natAbs:=rfl
 have hyd:(gz y).aa=aP y.natAbs:=rfl
 have hxs:(gz x).ag=x.sign:=rfl
 have hys:(gz y).ag=y.sign:=rfl
 rw [hxd,hyd,hxs,hys]
 have fx:(aP x.natAbs).length≤4398046511104:=by show Ln x≤_; omega
 have fy:(aP y.natAbs).length≤4398046511104:=by show Ln y≤_; omega
 have hw:IntKind.i64.wrap (x.sign*y.sign)=(x*y).sign:=by
  rw [Int.sign_mul]
  apply iQ
  rcases tM x with h | h | h <;> rcases tM y with g | g | g <;> rw [h,g] <;> decide
 rw [hw,mul_eq (cF _) (cF _) (by omega),Option.bind_some,bI,bI]
 have hn:((x.natAbs:Int)*y.natAbs).toNat=(x*y).natAbs:=by rw [Int.natAbs_mul,← Int.natCast_mul]; rfl
 rw [hn,F0 (x:=x*y) rfl (fun _=>rfl) (fun _=>by show Ln (x*y)≤_; omega),Option.bind_some,vI,Option.bind_some]
theorem KQ {x y:Int} (hx:Ln x≤pH) (hy:Ln y≤pH):gr (gz x) (gz y)=some (gz (x*y)):=by
 unfold gr
 rw [UM hx hy]; rfl
def lg (n:Nat):Nat:=if n=0 then 0 else n.log2+1
theorem Us {r x:Nat} (h:2*r<x):lg r<lg x:=by
 unfold lg
 rw [if_neg (show x≠0 by omega)]
 by_cases h0:r=0
 ·rw [if_pos h0]; omega
 ·rw [if_neg h0]
  have h1:=Nat.log2_self_le h0
  have h2:=@Nat.lt_log2_self x
  have:2 ^ (r.log2+1)<2 ^ (x.log2+1):=by rw [Nat.pow_succ]; omega
  have:=(Nat.pow_lt_pow_iff_right (by decide:1<2)).1 this
  omega
theorem NX {n k:Nat} (h:(n:Int)<pw k):lg n≤20*k:=by
 unfold lg
 by_cases h0:n=0
 ·rw [if_pos h0]; omega
 ·rw [if_neg h0]
  have:n<2 ^ (20*k):=by
   have:pw k=((2 ^ (20*k):Nat):Int):=by
    unfold pw
    rw [Nat.pow_mul,Int.natCast_pow]; rfl
   omega
  have:=(Nat.log2_lt h0).2 this
  omega
theorem Rh {a b:Nat} (ha:(aP a).length≤jx) (hb:(aP b).length≤jx):a8 nd (aP a,aP b)=some (aP (Nat.gcd a b)):=by
 have hL:jx=17592186043904:=rfl
 have key : ∃ r,a8 nd (aP a,aP b)=some r∧r=aP (Nat.gcd a b):=by
  have la:=NX (eX a)
  have lb:=NX (eX b)
  let val:List Int→Nat:=fun l=>(dv l).toNat
  have hval : ∀ n,val (aP n)=n:=fun n=>by show (dv (aP n)).toNat=n; rw [bI]; rfl
  refine ja (I:=fun (s:List Int×List Int)=>∃ x y,s=(aP x,aP y)∧Nat.gcd x y=Nat.gcd a b∧(aP x).length≤jx∧(aP y).length≤jx)
   (μ:=fun (s:List Int×List Int)=>lg (val s.1)+lg (val s.2)+(if val s.1<val s.2 then 1 else 0)) _ ⟨a,b,rfl,rfl,ha,hb⟩ (by simp only [hval]; unfold FU; split <;> omega) ?_
  rintro _ ⟨x,y,rfl,hg,hx,hy⟩
  simp only [nd]
  by_cases h0:y=0
  ·right
   subst h0
   refine ⟨_,by rw [cB,if_neg (by simp)],?_⟩
   rw [← hg,Nat.gcd_zero_right]
  ·left
   have hne:0<(aP y).length:=List.length_pos_iff.2 (fun h=>h0 (oW.1 h))
   rw [if_pos (by simpa using hne),div_eq h0 (by omega) (by omega),Option.bind_some]
   have hlt:=Nat.mod_lt x (Nat.pos_of_ne_zero h0)
   refine ⟨_,rfl,⟨y,x % y,rfl,?_,hy,?_⟩,?_⟩
   ·rw [← hg,Nat.gcd_comm y,← Nat.gcd_rec,Nat.gcd_comm]
   ·have:=eM (Nat.mod_le x y); omega
   ·simp only [hval]
    rw [if_neg (by omega)]
    by_cases hxy:x<y
    ·rw [if_pos hxy,Nat.mod_eq_of_lt hxy]; omega
    ·rw [if_neg hxy]
     have:lg (x % y)<lg x:=by
      apply Us
      have h1:=Nat.div_add_mod x y
      have h2:1≤x / y:=(Nat.one_le_div_iff (by omega)).2 (by omega)
      have h3:y*1≤y*(x / y):=Nat.mul_le_mul_left _ h2
      omega
     omega
 obtain ⟨r,h1,rfl⟩:=key
 exact h1
theorem UK {x y:Int} (hx:Ln x≤jx) (hy:Ln y≤jx):pJ (gz x) (gz y)=some (gz (Int.gcd x y),0):=by
 have hL:jx=17592186043904:=rfl
 unfold pJ
 rw [nI (by omega),Option.bind_some]
 simp only [Bool.not_true,Bool.false_eq_true,if_false]
 rw [nI (by omega),Option.bind_some,Option.bind_some]
 simp only [Bool.not_true,Bool.false_eq_true,if_false]
 have hxd:(gz x).aa=aP x.natAbs:=rfl
 have hyd:(gz y).aa=aP y.natAbs:=rfl
 rw [hxd,hyd]
 have fx:(aP x.natAbs).length≤17592186043904:=by show Ln x≤_; omega
 have fy:(aP y.natAbs).length≤17592186043904:=by show Ln y≤_; omega
 have fg:(aP (Nat.gcd x.natAbs y.natAbs)).length≤17592186043904:=by
  by_cases h:y.natAbs=0
  ·rw [h,Nat.gcd_zero_right]; exact fx
  ·have:=eM (Nat.gcd_le_right x.natAbs (Nat.pos_of_ne_zero h)); omega
 rw [vK (by unfold Fit; omega),Option.bind_some,Rh (by omega) (by omega),Option.bind_some,vK (by unfold Fit; omega),Option.bind_some]
 have hgn:Nat.gcd x.natAbs y.natAbs=((Int.gcd x y:Nat):Int).natAbs:=rfl
 rw [F0 (x:=(Int.gcd x y:Int)) hgn ?_ (fun _=>by omega),Option.bind_some,vI,Option.bind_some]
 intro h
 rw [Int.sign_eq_one_of_pos (by omega)]
theorem K5 {x y:Int} (hx:Ln x≤pH) (hy:Ln y≤pH):iT (gz x) (gz y)=some (kU x y):=by
 have hL:pH=4398046511104:=rfl
 unfold iT
 rw [nI (by omega),Option.bind_some]
 simp only [Bool.not_true,Bool.false_eq_true,if_false]
 rw [nI (by omega),Option.bind_some,Option.bind_some]
 simp only [Bool.not_true,Bool.false_eq_true,if_false]
 have hxd:(gz x).aa=aP x.natAbs:=rfl
 have hyd:(gz y).aa=aP y.natAbs:=rfl
 have hxs:(gz x).ag=x.sign:=rfl
 have hys:(gz y).ag=y.sign:=rfl
 rw [hxd,hyd,hxs,hys]
 have fx:(aP x.natAbs).length≤4398046511104:=by show Ln x≤_; omega
 have fy:(aP y.natAbs).length≤4398046511104:=by show Ln y≤_; omega
 by_cases h:x.sign=y.sign
 ·rw [if_neg (by simpa using h),AU (by unfold Fit; omega) (by unfold Fit; omega),Option.bind_some]
  have hc : ∀ s:Int,s = -1∨s=0∨s=1→∀ c:Int,c = -1∨c=0∨c=1→IntKind.i64.wrap (s*c)=s*c:=by
   rintro s (rfl | rfl | rfl) c (rfl | rfl | rfl) <;> exact iQ (by decide)
  have hcm : ∀ a b:Int,kU a b = -1∨kU a b=0∨kU a b=1:=by
   intro a b; unfold kU; split
   ·simp
   ·split <;> simp
  rw [hc _ (tM x) _ (hcm _ _)]
  congr 1
  unfold kU
  rcases gJ x with ⟨a,b,c⟩ | ⟨a,b,c⟩ | ⟨a,b⟩ <;> rcases gJ y with ⟨a',b',c'⟩ | ⟨a',b',c'⟩ | ⟨a',b'⟩ <;> (try (rw [a,a'] at h; exact absurd h (by decide))) <;> rw [a] <;> split <;> (try split) <;> (try split) <;> (try split) <;> omega
 ·rw [if_pos (by simpa using h),Lf,Option.bind_some]
  congr 1
  unfold kU
  rcases gJ x with ⟨a,b,c⟩ | ⟨a,b,c⟩ | ⟨a,b⟩ <;> rcases gJ y with ⟨a',b',c'⟩ | ⟨a',b',c'⟩ | ⟨a',b'⟩ <;> (try (exact absurd (a.trans a'.symm) h)) <;> rw [a,a'] <;> split <;> (try split) <;> (try split) <;> (try split) <;> omega
end Go.Proofs.YtpkahnkoecbndaaGreatDoor.P
namespace Go.Proofs.YtpkahnkoecbndaaGreatDoor.P
open Go.RowKit
set_option linter.unusedSimpArgs false
set_option linter.unusedVariables false
theorem OS (x:Int):IntKind.u64.wrap x=x % 18446744073709551616:=by
 unfold IntKind.wrap
 simp only [IntKind.bits,IntKind.signed,Bool.false_and,Bool.false_eq_true,if_false]
 rfl
theorem wu {x:Int} (h:0≤x∧x<18446744073709551616):IntKind.u64.wrap x=x:=by rw [OS]; omega
theorem OV {x:Int} (h:0≤x∧x<18446744073709551616):ng .and .u64 x 1048575=x % 1048576:=by
 unfold ng
 simp only
 have e1:(BitVec.ofInt IntKind.u64.bits x &&& BitVec.ofInt IntKind.u64.bits 1048575).toNat=((x % 18446744073709551616).toNat) % 1048576:=by
  rw [BitVec.toNat_and,BitVec.toNat_ofInt,BitVec.toNat_ofInt]
  have e:((1048575:Int) % ((2 ^ IntKind.u64.bits:Nat):Int)).toNat=2 ^ 20 - 1:=by decide
  rw [e,Nat.and_two_pow_sub_one_eq_mod]
  rfl
 rw [e1,wu (by omega)]
 omega
theorem Vk (x:Int):yd .u64 x 20=some (x / 1048576):=by
 unfold yd
 rw [if_neg (by decide)]
 have e:(2:Int) ^ (min (Int.toNat 20) IntKind.u64.bits)=1048576:=by decide
 rw [e,Int.fdiv_eq_ediv_of_nonneg _ (by decide)]
theorem XM:pw 4=1208925819614629174706176:=by decide
theorem TB {n:Nat} (hn:n<18446744073709551616) : ∃ l,a8 tn ((n:Int),[])=some l∧Dg l∧dv l=n∧l.length≤5:=by
 refine ja (I:=fun (s:Int×List Int)=>0≤s.1∧Dg s.2∧dv s.2+pw s.2.length*s.1=n∧s.2.length≤5∧(s.1=0∨s.2.length<5)) (μ:=fun (s:Int×List Int)=>s.1.toNat) _ ⟨by simp,Dg.nil,by simp [dv,mJ],by simp,by simp⟩ (by simp only [Int.toNat_natCast]; unfold FU; omega) ?_
 rintro ⟨u,l⟩ ⟨h1,hd,h2,h3,h5⟩
 simp only at h1 hd h2 h3 h5
 have hp:=lu l.length
 have hdl:=ct hd
 have hu:u≤n:=by
  have:1*u≤pw l.length*u:=Int.mul_le_mul_of_nonneg_right (by omega) h1
  omega
 simp only [tn]
 by_cases h0:u > 0
 ·left
  have hl5:l.length<5:=by omega
  have hl4:l.length<4:=by
   rcases Nat.lt_or_ge l.length 4 with h | h
   ·exact h
   ·have h4:l.length=4:=by omega
    rw [h4,XM] at h2
    omega
  have hw:IntKind.i64.wrap (u % 1048576)=u % 1048576:=iQ (by omega)
  rw [if_pos (by simpa using h0),OV ⟨h1,by omega⟩,hw,C6 (by simp; omega),Option.bind_some,Vk,Option.bind_some]
  refine ⟨_,rfl,⟨by simp only; omega,hd.append (Dg.mk (by omega) Dg.nil),?_,by simp; omega,by right; simp; omega⟩,by simp only; omega⟩
  simp only [fw,dv,List.length_append,List.length_cons,List.length_nil,Int.mul_zero,Int.add_zero,Nat.zero_add]
  have:=xY l.length u
  omega
 ·right
  have:u=0:=by omega
  subst this
  refine ⟨l,by rw [if_neg (by simp)],hd,?_,h3⟩
  rw [Int.mul_zero] at h2
  omega
theorem T4 {x:Int} (h : -9223372036854775808≤x∧x<9223372036854775808):rB x=some (gz x):=by
 have hT:(if decide (x<0)=true then some ((-1:Int),IntKind.u64.wrap (0 - (IntKind.u64.wrap x))) else some (1,IntKind.u64.wrap x))=some (if x<0 then -1 else 1,((x.natAbs:Nat):Int)):=by
  by_cases hx:x<0
  ·rw [if_pos (by simpa using hx),if_pos hx,OS,OS]
   congr 2
   omega
  ·rw [if_neg (by simpa using hx),if_neg hx,OS]
   congr 2
   omega
 obtain ⟨l,h1,h2,h3,h4⟩:=TB (n:=x.natAbs) (by omega)
 unfold rB
 rw [hT,Option.bind_some]
 simp only
 rw [h1,Option.bind_some,pg]
 refine ye x (by unfold Fit; omega) h2 h3 (fun h0 => ?_)
 split
 ·rw [Int.sign_eq_neg_one_of_neg (by omega)]
 ·rw [Int.sign_eq_one_of_pos (by omega)]
theorem XA {d:Int} {i:Nat} (hi:i≤3) (hd:0≤d∧d<1048576) (h8:i=3→d≤8):DT .u64 (IntKind.u64.wrap d) (IntKind.i64.wrap (20*(i:Int)))=some (pw i*d):=by
 rw [wu (by omega),iQ (by omega)]
 unfold DT
 rw [if_neg (by omega)]
 have e:(2:Int) ^ (min (20*(i:Int)).toNat IntKind.u64.bits)=pw i:=by
  have : ∀ i:Nat,i≤3→(2:Int) ^ (min (20*(i:Int)).toNat IntKind.u64.bits)=pw i:=by decide
  exact this i hi
 rw [e,wu,Int.mul_comm]
 rcases (show i=0∨i=1∨i=2∨i=3 by omega) with rfl | rfl | rfl | rfl
 ·rw [show pw 0=1 by decide]; omega
 ·rw [show pw 1=1048576 by decide]; omega
 ·rw [show pw 2=1099511627776 by decide]; omega
 ·rw [show pw 3=1152921504606846976 by decide]; have:=h8 rfl; omega
theorem Wi {u d:Int} {i:Nat} (hi:i≤3) (hu:0≤u∧u<pw i) (hd:0≤d∧pw i*d<9223372036854775809):ng .or .u64 u (pw i*d)=u+pw i*d:=by
 have hp:=lu i
 have hpd:0≤pw i*d:=Int.mul_nonneg (by omega) hd.1
 have hpw:pw i=((2 ^ (20*i):Nat):Int):=by unfold pw; rw [Nat.pow_mul,Int.natCast_pow]; rfl
 have hp3:pw i≤1152921504606846976:=by
  have:=tB hi
  rwa [show pw 3=1152921504606846976 by decide] at this
 unfold ng
 simp only
 have e1:(BitVec.ofInt IntKind.u64.bits u ||| BitVec.ofInt IntKind.u64.bits (pw i*d)).toNat=(u+pw i*d).toNat:=by
  rw [BitVec.toNat_or,BitVec.toNat_ofInt,BitVec.toNat_ofInt]
  have e:((2 ^ IntKind.u64.bits:Nat):Int)=18446744073709551616:=by decide
  rw [e]
  have e2:(u % 18446744073709551616).toNat=u.toNat:=by omega
  have e3:((pw i*d) % 18446744073709551616).toNat=d.toNat <<< (20*i):=by
   rw [Nat.shiftLeft_eq,Int.emod_eq_of_lt hpd (by omega),hpw]
   have:d=(d.toNat:Int):=by omega
   rw [this,← Int.natCast_mul,Int.toNat_natCast,Int.toNat_natCast,Nat.mul_comm]
  rw [e2,e3,Nat.or_comm,← Nat.shiftLeft_add_eq_or_of_lt (by omega),Nat.shiftLeft_eq]
  have:pw i*d=((d.toNat*2 ^ (20*i):Nat):Int):=by
   rw [hpw,Int.natCast_mul,Int.mul_comm]
   congr 1
   omega
  omega
 rw [e1,wu (by omega)]
 omega
theorem Vg {g:Nat} (h:(aP g).length≤jx):nA (gz g)=some (decide (g=1)):=by
 have hL:jx=17592186043904:=rfl
 have hgd:(gz (g:Int)).aa=aP g:=rfl
 have hLn:Ln (g:Int)=(aP g).length:=rfl
 unfold nA
 have hsmall:g=1→(aP g).length≤4:=by
  rintro rfl
  exact Nat.le_trans (fX (k:=1) (by decide)) (by decide)
 suffices hI : ∃ r,pK (gz g)=some r∧((if r.2=true then some (r.1==1) else some false)=some (decide (g=1))) by
  obtain ⟨r,h1,h2⟩:=hI
  rw [h1,Option.bind_some,h2]
 unfold pK
 rw [nI (by rw [hLn]; omega),Option.bind_some]
 simp only [Bool.not_true,Bool.false_eq_true,if_false,Option.bind_some,hgd]
 by_cases h4:(aP g).length > 4
 ·rw [if_pos (by simp; omega)]
  refine ⟨_,rfl,?_⟩
  have:g≠1:=fun hh=>by have:=hsmall hh; omega
  simp [this]
 rw [if_neg (by simp; omega)]
 have key : ∃ r,a8 (pL (gz g)) (0,0)=some r∧(match r with | .inl u=>u=(g:Int) | .inr x=>x=(0,false)∧g≠1):=by
  refine eD (I:=fun i s=>s.2=(i:Int)∧s.1=dv ((aP g).take i)) (aP g).length _ ⟨rfl,rfl⟩ (lQ (by omega)) ?_
  rintro i ⟨u,s⟩ hi ⟨h1,h2⟩
  simp only at h1 h2
  subst h1 h2
  simp only [pL,hgd]
  have hdg:=(cF g).take i
  have hu0:=ct hdg
  have hu1:=nk hdg
  rw [List.length_take,Nat.min_eq_left hi] at hu1
  by_cases hlt:i<(aP g).length
  ·have gd:=(cF g).get hlt
   rw [if_pos (by simpa using hlt),cp hlt,Option.bind_some]
   have hT:(if ((i:Int)==3)=true then some (decide ((aP g)[i] > 8)) else some false)=some (decide (i=3∧(aP g)[i] > 8)):=by
    by_cases h3:i=3
    ·subst h3; simp
    ·rw [if_neg (by simp; omega)]; simp [h3]
   rw [hT,Option.bind_some]
   by_cases h8:i=3∧(aP g)[i] > 8
   ·right
    rw [if_pos (by simpa using h8)]
    refine ⟨.inr (0,false),rfl,rfl,?_⟩
    rintro rfl
    have:=fX (n:=1) (k:=1) (by decide)
    omega
   ·left
    rw [if_neg (by simpa using h8),XA (by omega) gd (by omega),Option.bind_some]
    have hb:pw i*(aP g)[i]<9223372036854775809:=by
     rcases (show i=0∨i=1∨i=2∨i=3 by omega) with h | h | h | h
     ·have:pw i=1:=by rw [h]; decide
      rw [this]; omega
     ·have:pw i=1048576:=by rw [h]; decide
      rw [this]; omega
     ·have:pw i=1099511627776:=by rw [h]; decide
      rw [this]; omega
     ·have:pw i=1152921504606846976:=by rw [h]; decide
      rw [this]; omega
    rw [Wi (by omega) ⟨hu0,hu1⟩ ⟨gd.1,hb⟩]
    exact ⟨hlt,_,rfl,by rw [iQ (by omega)]; omega,by rw [ff hlt]⟩
  ·right
   have:i=(aP g).length:=by omega
   subst this
   exact ⟨.inl (dv ((aP g).take (aP g).length)),by rw [if_neg (by simp)],by rw [List.take_length,bI]⟩
 obtain ⟨r,h1,h2⟩:=key
 rw [h1,Option.bind_some]
 cases r with
 | inr x=>obtain ⟨rfl,h⟩:=h2; exact ⟨_,rfl,by simp [h]⟩
 | inl u =>
  simp only at h2
  subst h2
  have hs:(gz (g:Int)).ag=(g:Int).sign:=rfl
  have hs0 : ¬ (g:Int).sign<0:=by have:=gJ (g:Int); omega
  simp only [hs]
  rw [if_neg (by simp),Option.bind_some,if_neg (by simp),if_pos (by simp)]
  by_cases hg:(g:Int)<9223372036854775808
  ·rw [if_pos (by simpa using hg)]
   refine ⟨_,rfl,?_⟩
   simp only [if_true]
   rw [wrap64 (by omega) hg]
   congr 1
   by_cases h:g=1
   ·subst h; rfl
   ·have : ¬ ((g:Int)=1):=by omega
    simp [h,this]
  ·rw [if_neg (by simpa using hg)]
   have:g≠1:=by omega
   exact ⟨_,rfl,by simp [this]⟩
def Ab (q:Rat):aY:=aY.mk (gz q.num) (gz q.den)
def LF (q:Rat):Nat:=max (Ln q.num) (Ln q.den)
theorem Ac {p q:Rat} (h:Ab p=Ab q):p=q:=by
 unfold Ab at h
 simp only [aY.mk.injEq] at h
 have h1:=G3 h.1
 have h2:=G3 h.2
 exact Rat.ext h1 (by omega)
def okF (f:aY):Bool:=okB f.cr&&okB f.cq&&(f.cq.ag==1)&&decide (Nat.gcd (dv f.cr.aa).toNat (dv f.cq.aa).toNat=1)
theorem G6 {f:aY} : okF f=true↔∃ q,f=Ab q:=by
 obtain ⟨p,q⟩:=f
 unfold okF
 simp only [Bool.and_eq_true,beq_iff_eq,decide_eq_true_eq]
 constructor
 ·rintro ⟨⟨⟨h1,h2⟩,h3⟩,h4⟩
  obtain ⟨x,rfl⟩:=qo.1 h1
  obtain ⟨y,rfl⟩:=qo.1 h2
  have hy:0<y:=by
   have:y.sign=1:=h3
   rcases gJ y with ⟨a,b,c⟩ | ⟨a,b,c⟩ | ⟨a,b⟩ <;> omega
  have h5:(dv (gz x).aa).toNat=x.natAbs:=by show (dv (aP _)).toNat=_; rw [bI]; rfl
  have h6:(dv (gz y).aa).toNat=y.natAbs:=by show (dv (aP _)).toNat=_; rw [bI]; rfl
  rw [h5,h6] at h4
  refine ⟨⟨x,y.natAbs,by omega,h4⟩,?_⟩
  unfold Ab
  simp only
  congr 2
  omega
 ·rintro ⟨q,hq⟩
  unfold Ab at hq
  simp only [aY.mk.injEq] at hq
  obtain ⟨rfl,rfl⟩:=hq
  have hd:=q.den_pos
  refine ⟨⟨⟨G5 _,G5 _⟩,Int.sign_eq_one_of_pos (by omega)⟩,?_⟩
  have h5:(dv (gz q.num).aa).toNat=q.num.natAbs:=by show (dv (aP _)).toNat=_; rw [bI]; rfl
  have h6:(dv (gz (q.den:Int)).aa).toNat=q.den:=by show (dv (aP _)).toNat=_; rw [bI]; rfl
  rw [h5,h6]
  exact q.reduced
theorem xR (q:Rat):okF (Ab q)=true:=G6.2 ⟨q,rfl⟩
def OT (f:aY):Prop:=f.cr.aa.length≤jx∧f.cq.aa.length≤jx
theorem zV {q:Rat} (h:LF q≤pH):OT (Ab q):=by
 unfold LF at h
 exact ⟨HF (show Ln q.num≤_ by omega),HF (show Ln q.den≤_ by omega)⟩
theorem rz {f:aY} (hf:OT f):eW f=some (okF f):=by
 have hL:jx=17592186043904:=rfl
 obtain ⟨p,q⟩:=f
 simp only [OT] at hf
 unfold eW okF
 rw [CD (show Fit p.aa by unfold Fit; omega),Option.bind_some]
 by_cases h1:okB p=true
 ·simp only [h1,Bool.not_true,Bool.false_eq_true,if_false,Bool.true_and]
  rw [CD (show Fit q.aa by unfold Fit; omega),Option.bind_some]
  by_cases h2:okB q=true
  ·simp only [h2,Bool.not_true,Bool.false_eq_true,if_false,Bool.true_and,Option.bind_some]
   by_cases h3:q.ag=1
   ·rw [if_neg (by simp [h3])]
    obtain ⟨x,rfl⟩:=qo.1 h1
    obtain ⟨y,rfl⟩:=qo.1 h2
    rw [UK hf.1 hf.2,Option.bind_some]
    simp only [beq_self_eq_true,if_true]
    have h5:(dv (gz x).aa).toNat=x.natAbs:=by show (dv (aP _)).toNat=_; rw [bI]; rfl
    have h6:(dv (gz y).aa).toNat=y.natAbs:=by show (dv (aP _)).toNat=_; rw [bI]; rfl
    rw [Vg,Option.bind_some,h5,h6]
    ·rw [h3]; rfl
    ·have hy:0<y.natAbs:=by
      have:y.sign=1:=h3
      rcases gJ y with ⟨a,b,c⟩ | ⟨a,b,c⟩ | ⟨a,b⟩ <;> omega
     have:=eM (Nat.gcd_le_right x.natAbs hy)
     have h7:(aP y.natAbs).length≤jx:=hf.2
     show (aP (Nat.gcd x.natAbs y.natAbs)).length≤_
     omega
   ·rw [if_pos (by simpa using h3)]
    simp [h3]
  ·simp only [h2,Bool.not_false,if_true,Option.bind_some,Bool.false_and]
 ·simp only [h1,Bool.not_false,if_true,Option.bind_some,Bool.false_and]
theorem Aq {q:Rat} (h:LF q≤pH):eW (Ab q)=some true:=by rw [rz (zV h),xR]
theorem Gb (q:Rat):Ln q.num≤LF q:=by unfold LF; omega
theorem Ga (q:Rat):Ln q.den≤LF q:=by unfold LF; omega
theorem VG {n:Int} (h : -9223372036854775808≤n∧n<9223372036854775808):ny n=some (Ab n):=by
 unfold ny
 rw [T4 h,Option.bind_some,T4 (by decide),Option.bind_some]
 unfold Ab
 rw [Rat.num_intCast,Rat.den_intCast]
 rfl
def OY (a b:Rat):Int:=if a<b then -1 else if b<a then 1 else 0
theorem Nz (a b:Rat):kU (a.num*b.den) (b.num*a.den)=OY a b:=by
 unfold kU OY
 simp only [Rat.lt_iff]
theorem xg {a b:Rat} (h:LF a+LF b≤pH):fh (Ab a) (Ab b)=some (OY a b):=by
 have n1:=Gb a
 have n2:=Gb b
 have d1:=Ga a
 have d2:=Ga b
 have m1:=xi a.num b.den
 have m2:=xi b.num a.den
 unfold fh
 rw [Aq (by omega),Option.bind_some]
 simp only [Bool.not_true,Bool.false_eq_true,if_false]
 rw [Aq (by omega),Option.bind_some,Option.bind_some]
 simp only [Bool.not_true,Bool.false_eq_true,if_false]
 show (gr (gz a.num) (gz b.den)).bind _=_
 rw [KQ (by omega) (by omega),Option.bind_some]
 show (gr (gz b.num) (gz a.den)).bind _=_
 rw [KQ (by omega) (by omega),Option.bind_some,K5 (by omega) (by omega),Option.bind_some,Nz]
end Go.Proofs.YtpkahnkoecbndaaGreatDoor.P
namespace Go.Proofs.YtpkahnkoecbndaaGreatDoor.P
open Go.RowKit
set_option linter.unusedSimpArgs false
set_option linter.unusedVariables false
theorem OO {l:List Int} (hl:Fit l) (hd:Dg l):gh l=some (aP (dv l).toNat):=by
 have h:=w9 hl hd
 obtain ⟨r,h1,k,rfl,hk,_⟩:=F4 hl
 unfold eA at h
 unfold gh
 have e:sT l=j8 l:=rfl
 rw [h1,Option.bind_some,Af hk,Option.bind_some] at h
 rw [e,h1,Option.bind_some,Af hk,Option.bind_some,C6 (by unfold Fit at hl; simp; omega),Option.bind_some]
 exact h
theorem CW {l:List Int} {n:Nat} (hl:Fit l) (hd:Dg l) (hn:dv l=n):gh l=some (aP n):=by
 rw [OO hl hd,hn]; rfl
theorem NZ {s:Int} {l:List Int} (x:Int) (hf:Fit l) (hd:Dg l) (hv:dv l=x.natAbs) (hs:x≠0→s=x.sign):fH s l=some (gz x):=by
 have h:=ye x hf hd hv hs
 unfold fD at h
 rw [w9 hf hd] at h
 unfold fH
 rw [OO hf hd]
 exact h
theorem B8 {x:Int} {s:Int} {n:Nat} (hn:n=x.natAbs) (hs:x≠0→s=x.sign) (hL:n≠0→(aP n).length≤17592186044416):fH s (aP n)=some (gz x):=by
 subst hn
 refine NZ x ?_ (cF _) (bI _) hs
 unfold Fit
 by_cases h:x.natAbs=0
 ·rw [h,cB]; simp
 ·exact hL h
theorem Ku {s:Int} {l:List Int} (hf:Fit l) : ∃ r,a8 (mN ⟨s,l⟩) 0=some r∧(match r with | .inl _=>Dg l | .inr x=>x=false∧¬ Dg l):=by
 refine eD (I:=fun i s=>s=(i:Int)∧Dg (l.take i)) l.length _ ⟨rfl,by simpa using Dg.nil⟩ (lQ hf) ?_
 unfold Fit at hf
 rintro i s hi ⟨rfl,hd⟩
 simp only [mN]
 by_cases hlt:i<l.length
 ·rw [if_pos (by simpa using hlt),cp hlt,Option.bind_some]
  by_cases h1:l[i]<0
  ·right
   exact ⟨.inr false,by rw [if_pos (by simpa using h1)],rfl,fun hh=>by have:=hh.get hlt; omega⟩
  ·by_cases h2:l[i]≥1048576
   ·right
    exact ⟨.inr false,by rw [if_neg (by simpa using h1),if_pos (by simpa using h2)],rfl,fun hh=>by have:=hh.get hlt; omega⟩
   ·left
    refine ⟨hlt,_,by rw [if_neg (by simpa using h1),if_neg (by simpa using h2)],by rw [iQ (by omega)]; omega,?_⟩
    have e:l.take (i+1)=l.take i++[l[i]]:=by rw [List.take_add_one]; simp [hlt]
    rw [e]
    exact hd.append (Dg.mk (by omega) Dg.nil)
 ·right
  have:i=l.length:=by omega
  subst this
  rw [List.take_length] at hd
  exact ⟨.inl (),by rw [if_neg (by simp)],hd⟩
theorem Mo {b:aw} (hf:Fit b.aa):dc b=some (okB b):=by
 obtain ⟨s,l⟩:=b
 simp only [Fit] at hf
 obtain ⟨r,h1,h2⟩:=Ku (s:=s) (l:=l) hf
 unfold dc okB
 rw [h1,Option.bind_some]
 cases r with
 | inr x =>
  obtain ⟨rfl,h⟩:=h2
  simp [h]
 | inl u =>
  simp only at h2 ⊢
  simp only [h2,decide_true,Bool.true_and]
  by_cases h0:l=[]
  ·subst h0
   by_cases hs0:s=0
   ·subst hs0; simp
   ·have:(s==0)=false:=by simpa using hs0
    simp only [List.length_nil,List.getLast?_nil,this]
    split <;> (try split) <;> simp
  ·have hp:0<l.length:=List.length_pos_iff.2 h0
   have e:IntKind.i64.wrap ((l.length:Int) - 1)=((l.length - 1:Nat):Int):=by rw [iQ (by omega)]; omega
   have hl0:((l.length:Int)==0)=false:=by simpa using h0
   rw [e,cp (by omega),List.getLast?_eq_some_getLast h0,List.getLast_eq_getElem,hl0]
   simp only [Option.bind_some,Bool.false_eq_true,if_false]
   by_cases hs:s < -1
   ·rw [if_pos (by simpa using hs)]
    have h1:(s==1)=false:=by simp; omega
    have h2:(s == -1)=false:=by simp; omega
    simp [h1,h2]
   ·rw [if_neg (by simpa using hs)]
    by_cases hs':s > 1
    ·rw [if_pos (by simpa using hs')]
     have h1:(s==1)=false:=by simp; omega
     have h2:(s == -1)=false:=by simp; omega
     simp [h1,h2]
    ·rw [if_neg (by simpa using hs')]
     rcases (show s = -1∨s=0∨s=1 by omega) with rfl | rfl | rfl <;> simp
theorem mV {x:Int} (h:Ln x≤17592186044416):dc (gz x)=some true:=by
 rw [Mo (show Fit (gz x).aa from h),G5]
theorem vO (l:List Int) (i:Nat):fO l (i:Int)=some (gd l i):=by
 unfold fO
 by_cases h:i<l.length
 ·rw [if_pos (by simpa using h),cp h,Option.bind_some,NO h]
 ·rw [if_neg (by simpa using h),IX (by omega)]
theorem KR {a b l0:List Int} {i n:Nat} (ha:Dg a) (hb:Dg b) (hia:i<a.length) (h0:Dg l0) (hn:l0.length=n) (hi:i+b.length<n) (hf:n≤17592186044416) (hz : ∀ j (hj:j<l0.length),i+b.length≤j→l0[j]=0) :
  ∃ l,a8 (mQ a b (i:Int)) (0,0,l0)=some l∧l.length=n∧Dg l∧(∀ j (hj:j<l.length),i+b.length<j→l[j]=0)∧dv l=dv l0+pw i*(a[i]*dv b):=by
 have hx:=ha.get hia
 refine eD (I:=fun k s=>s.2.1=(k:Int)∧s.2.2.length=n∧Dg s.2.2∧(0≤s.1∧s.1<1048576)∧(∀ j (hj:j<s.2.2.length),i+b.length≤j→i+k≤j→s.2.2[j]=0)∧(k=b.length+1→s.1=0)∧dv s.2.2+pw (i+k)*s.1=dv l0+pw i*(a[i]*dv (b.take k)))
  (b.length+1) _ ⟨rfl,hn,h0,by simp,fun j hj h _=>hz j hj h,by omega,by simp [dv]⟩ (lQ (by omega)) ?_
 rintro k ⟨c,s,l⟩ hk ⟨h1,hl,hd,hc,hz,hend,he⟩
 simp only at h1 hl hd hc hz hend he
 subst h1
 simp only [mQ]
 have hT:(if decide ((k:Int)<(b.length:Int))=true then some true else some (decide (c > 0)))=some (decide (k<b.length∨c > 0)):=by
  by_cases h:k<b.length
  ·rw [if_pos (by simpa using h)]; simp [h]
  ·rw [if_neg (by simpa using h)]; simp [h]
 rw [hT,Option.bind_some]
 by_cases hgo:k<b.length∨c > 0
 ·left
  have hkb:k≤b.length:=by
   rcases hgo with h | h
   ·omega
   ·rcases Nat.lt_or_ge b.length k with h' | h'
    ·have:=hend (by omega); omega
    ·exact h'
  have hik:i+k<l.length:=by omega
  have ei:IntKind.i64.wrap ((i:Int)+(k:Int))=((i+k:Nat):Int):=by rw [iQ (by omega)]; omega
  have gb:=NN hb k
  have gl:=hd.get hik
  have hm0:0≤a[i]*gd b k:=Int.mul_nonneg hx.1 gb.1
  have hm1:a[i]*gd b k≤1048575*1048575:=Int.mul_le_mul (by omega) (by omega) gb.1 (by omega)
  rw [if_pos (by simpa using hgo),ei,cp hik,Option.bind_some,cp hia,Option.bind_some,vO,Option.bind_some,iQ (x:=a[i]*gd b k) (by omega),iQ (x:=l[i+k]+a[i]*gd b k) (by omega),iQ (x:=l[i+k]+a[i]*gd b k+c) (by omega),Vc (by omega) (by omega),Option.bind_some,Tj (by omega) (by omega) (by omega),Option.bind_some]
  have e1:IntKind.i64.wrap ((k:Int)+1)=((k+1:Nat):Int):=by rw [iQ (by omega)]; omega
  refine ⟨by omega,_,rfl,e1,by simpa using hl,hd.set _ (by omega),by simp only; omega,fun j hj hij hij2 => ?_,fun hk1 => ?_,?_⟩
  ·simp only [Int.toNat_natCast] at hj ⊢
   rw [List.getElem_set_ne (by omega)]
   exact hz j (by simpa using hj) hij (by omega)
  ·have hkl:k=b.length:=by omega
   simp only
   rw [IX (by omega),Int.mul_zero,hz _ hik (by omega) (Nat.le_refl _)]
   omega
  ·simp only [Int.toNat_natCast]
   rw [xp hik,wk]
   have hp:=xY (i+k) (l[i+k]+a[i]*gd b k+c)
   rw [Int.mul_add (pw (i+k)),Int.mul_add (pw (i+k))] at hp
   have e2:pw i*(a[i]*(dv (b.take k)+pw k*gd b k))=pw i*(a[i]*dv (b.take k))+pw (i+k)*(a[i]*gd b k):=by
    rw [Int.mul_add,Int.mul_add,Cq]
    congr 1
    rw [Int.mul_left_comm a[i],← Int.mul_assoc]
   rw [e2,Int.mul_sub,show i+(k+1)=i+k+1 by omega]
   omega
 ·right
  have hkb:b.length≤k:=by omega
  have hc0:c=0:=by omega
  subst hc0
  refine ⟨l,by rw [if_neg (by simpa using hgo)],hl,hd,fun j hj h=>hz j hj (by omega) (by omega),?_⟩
  rw [GB hkb,Int.mul_zero] at he
  omega
theorem MF {a b:List Int} (ha:Dg a) (hb:Dg b) (hf:a.length+b.length≤17592186044416):jr a b=some (aP (dv a*dv b).toNat):=by
 have key : ∃ l,a8 (mP a b) (0,List.replicate (a.length+b.length) 0)=some l∧l.length=a.length+b.length∧Dg l∧dv l=dv a*dv b:=by
  refine eD (I:=fun i s=>s.1=(i:Int)∧s.2.length=a.length+b.length∧Dg s.2∧(∀ j (hj:j<s.2.length),i+b.length≤j→s.2[j]=0)∧dv s.2=dv (a.take i)*dv b)
   a.length _ ⟨rfl,by simp,Dg.rep _,fun j hj _=>by simp,by simp [dv,A6]⟩ (lQ (by omega)) ?_
  rintro i ⟨s,l⟩ hi ⟨h1,hl,hd,hz,he⟩
  simp only at h1 hl hd hz he
  subst h1
  simp only [mP]
  by_cases hlt:i<a.length
  ·left
   obtain ⟨m,g1,g2,g3,g4,g5⟩:=KR (i:=i) (n:=a.length+b.length) ha hb hlt hd hl (by omega) hf hz
   rw [if_pos (by simpa using hlt),g1,Option.bind_some]
   have e1:IntKind.i64.wrap ((i:Int)+1)=((i+1:Nat):Int):=by rw [iQ (by omega)]; omega
   refine ⟨hlt,_,rfl,e1,g2,g3,fun j hj hij=>g4 j hj (by omega),?_⟩
   rw [g5,he,ff hlt,Int.add_mul,Int.mul_assoc]
  ·right
   have hia:i=a.length:=by omega
   subst hia
   refine ⟨l,by rw [if_neg (by simp)],hl,hd,?_⟩
   rw [he,List.take_length]
 obtain ⟨l,h1,h2,h3,h4⟩:=key
 unfold jr
 have e:IntKind.i64.wrap ((a.length:Int)+(b.length:Int))=((a.length+b.length:Nat):Int):=by rw [iQ (by omega)]; omega
 rw [e,V5 hf,Option.bind_some,h1,Option.bind_some,pg,OO (by unfold Fit; omega) h3,h4]
theorem EL (l:List Int) (i:Nat):dv l=dv (l.take i)+pw i*dv (l.drop i):=by
 by_cases h:i≤l.length
 ·exact ig l h
 ·rw [List.take_of_length_le (by omega),List.drop_eq_nil_of_le (by omega)]; simp [dv]
theorem uX (l:List Int) (i:Nat):dv (l.drop i)=gd l i+1048576*dv (l.drop (i+1)):=by
 by_cases h:i<l.length
 ·rw [jm h,NO h]
 ·rw [List.drop_eq_nil_of_le (by omega),List.drop_eq_nil_of_le (by omega),IX (by omega)]; simp [dv]
theorem A7 {l:List Int} (h:Dg l) (i:Nat):0≤dv (l.take i)∧dv (l.take i)<pw i:=by
 have h1:=nk (h.take i)
 have h2:=tB (show (l.take i).length≤i by rw [List.length_take]; omega)
 exact ⟨ct (h.take i),by omega⟩
theorem Q2 {a b:List Int} (ha:Dg a) (hb:Dg b) {k:Nat} (he:dv (a.drop (k+1))=dv (b.drop (k+1))) (hlt:gd a k<gd b k):dv a<dv b:=by
 have ea:=EL a k
 have eb:=EL b k
 rw [uX] at ea eb
 have la:=A7 ha k
 have lb:=A7 hb k
 have hp:=lu k
 have:pw k*(gd a k+1048576*dv (a.drop (k+1))+1)≤pw k*(gd b k+1048576*dv (b.drop (k+1))):=Int.mul_le_mul_of_nonneg_left (by omega) (by omega)
 rw [Int.mul_add _ _ 1,Int.mul_one] at this
 omega
theorem Ur {a b:List Int} (ha:Dg a) (hb:Dg b) (hfa:Fit a) (hfb:Fit b):lX a b=some (decide (dv a<dv b)):=by
 unfold Fit at hfa hfb
 generalize hm:max a.length b.length=m
 have em:(if (b.length:Int) > (a.length:Int) then (b.length:Int) else (a.length:Int))=(m:Int):=by split <;> omega
 have key : ∃ r,a8 (ou a b) ((m:Int) - 1)=some r∧(match r with | .inl _=>¬ dv a<dv b | .inr x=>x=decide (dv a<dv b)):=by
  refine eD (I:=fun i s=>s=((m - i:Nat):Int) - 1∧dv (a.drop (m - i))=dv (b.drop (m - i))) m _ ⟨rfl,?_⟩ (lQ (by omega)) ?_
  ·rw [List.drop_eq_nil_of_le (by omega),List.drop_eq_nil_of_le (by omega)]
  rintro i s hi ⟨rfl,he⟩
  generalize hk:m - i=k at *
  simp only [ou]
  by_cases h0:0<k
  ·have ek:((k:Int) - 1)=((k - 1:Nat):Int):=by omega
   rw [ek,if_pos (by simp),vO,Option.bind_some,vO,Option.bind_some]
   rw [show k=k - 1+1 by omega] at he
   by_cases hx:gd a (k - 1)=gd b (k - 1)
   ·left
    rw [if_neg (by simpa using hx)]
    refine ⟨by omega,_,rfl,by rw [iQ (by omega)]; omega,?_⟩
    rw [show m - (i+1)=k - 1 by omega,uX,uX b,hx,he]
   ·right
    rw [if_pos (by simpa using hx)]
    refine ⟨.inr (decide (gd a (k - 1)<gd b (k - 1))),rfl,?_⟩
    rcases Int.lt_or_gt_of_ne hx with h | h
    ·have:=Q2 ha hb he h
     simp [h,this]
    ·have:=Q2 hb ha he.symm h
     have h1 : ¬ gd a (k - 1)<gd b (k - 1):=by omega
     have h2 : ¬ dv a<dv b:=by omega
     simp [h1,h2]
  ·right
   have:k=0:=by omega
   subst this
   refine ⟨.inl (),by rw [if_neg (by simp)],?_⟩
   simp only [List.drop_zero] at he
   omega
 obtain ⟨r,h1,h2⟩:=key
 unfold lX
 rw [em,iQ (x:=(m:Int) - 1) (by omega),h1,Option.bind_some]
 cases r with
 | inl u=>simp only at h2 ⊢; simp [h2]
 | inr x=>simp only at h2 ⊢; rw [h2]
theorem Va {a b:List Int} (ha:Dg a) (hb:Dg b) (hf:Fit a) (hab:b.length≤a.length) (hle:dv b≤dv a):kd a b=some (aP (dv a - dv b).toNat):=by
 unfold Fit at hf
 have key : ∃ l,a8 (mO a b) (0,0,[])=some l∧l.length=a.length∧Dg l∧dv l=dv a - dv b:=by
  refine eD (I:=fun i s=>s.2.1=(i:Int)∧s.2.2.length=i∧Dg s.2.2∧(0≤s.1∧s.1≤1)∧dv s.2.2+dv (b.take i)=dv (a.take i)+pw i*s.1)
   a.length _ ⟨rfl,rfl,Dg.nil,by simp,by simp [dv]⟩ (lQ (by omega)) ?_
  rintro i ⟨c,s,l⟩ hi ⟨h1,hl,hd,hc,he⟩
  simp only at h1 hl hd hc he
  subst h1
  simp only [mO]
  by_cases hlt:i<a.length
  ·left
   have ga:=ha.get hlt
   have gb:=NN hb i
   rw [if_pos (by simpa using hlt),cp hlt,Option.bind_some,vO,Option.bind_some,iQ (x:=a[i] - gd b i) (by omega),iQ (x:=a[i] - gd b i - c) (by omega)]
   have e1:IntKind.i64.wrap ((i:Int)+1)=((i+1:Nat):Int):=by rw [iQ (by omega)]; omega
   by_cases hn:a[i] - gd b i - c<0
   ·rw [if_pos (by simpa using hn),iQ (by omega),C6 (by simp; omega),Option.bind_some]
    refine ⟨hlt,_,rfl,e1,by simp [hl],hd.append (Dg.mk (by omega) Dg.nil),by simp,?_⟩
    simp only
    rw [fw,wk,ff hlt,hl,Od]
    simp only [dv,Int.mul_zero,Int.add_zero,Int.mul_one]
    rw [Int.mul_add,Int.mul_sub,Int.mul_sub]
    omega
   ·rw [if_neg (by simpa using hn),C6 (by simp; omega),Option.bind_some]
    refine ⟨hlt,_,rfl,e1,by simp [hl],hd.append (Dg.mk (by omega) Dg.nil),by simp,?_⟩
    simp only
    rw [fw,wk,ff hlt,hl]
    simp only [dv,Int.mul_zero,Int.add_zero]
    rw [Int.mul_sub,Int.mul_sub]
    omega
  ·right
   have hia:i=a.length:=by omega
   subst hia
   refine ⟨l,by rw [if_neg (by simp)],hl,hd,?_⟩
   rw [GB hab,List.take_length] at he
   have h1:=nk hd
   rw [hl] at h1
   have hc0:c=0:=by
    rcases (show c=0∨c=1 by omega) with h | h
    ·exact h
    ·subst h; omega
   subst hc0
   omega
 obtain ⟨l,h1,h2,h3,h4⟩:=key
 unfold kd
 rw [h1,Option.bind_some,pg,OO (by unfold Fit; omega) h3,h4]
end Go.Proofs.YtpkahnkoecbndaaGreatDoor.P
namespace Go.Proofs.YtpkahnkoecbndaaGreatDoor.P
open Go.RowKit
set_option linter.unusedSimpArgs false
set_option linter.unusedVariables false
theorem Kk {n R:Nat} (hn:n≠0) (hfn:(aP n).length≤17592186043904) (hfR:(aP R).length≤17592186043906) (hR:R<1048576*n):a8 (lZ (aP n) (aP R)) (0,1048576)=some ((R / n:Nat):Int):=by
 have key : ∃ r,a8 (lZ (aP n) (aP R)) (0,1048576)=some r∧r=((R / n:Nat):Int):=by
  refine ja (I:=fun (s:Int×Int)=>∃ lo hi:Nat,s=((lo:Int),(hi:Int))∧lo<hi∧hi≤1048576∧lo*n≤R∧R<hi*n) (μ:=fun (s:Int×Int)=>(s.2 - s.1).toNat) _ ⟨0,1048576,rfl,by omega,by omega,by omega,hR⟩ (by simp only; unfold FU; omega) ?_
  rintro _ ⟨lo,hi,rfl,h1,h2,h3,h4⟩
  simp only [lZ]
  rw [iQ (x:=(hi:Int) - lo) (by omega)]
  by_cases hgo:(hi:Int) - lo > 1
  ·left
   have em:((lo:Int)+hi) / 2=(((lo+hi) / 2:Nat):Int):=by omega
   have hd:Dg [(((lo+hi) / 2:Nat):Int)]:=Dg.mk (by omega) Dg.nil
   have ed:dv (aP n)*dv [(((lo+hi) / 2:Nat):Int)]=((n*((lo+hi) / 2):Nat):Int):=by rw [bI,Int.natCast_mul]; simp [dv]
   rw [if_pos (by simpa using hgo),iQ (x:=(lo:Int)+hi) (by omega),Tj (by omega) (by omega) (by omega),Option.bind_some,em,MF (cF n) hd (by simp; omega),Option.bind_some,ed,Int.toNat_natCast]
   have hfl:(aP (n*((lo+hi) / 2))).length≤17592186043905:=by
    have:((n*((lo+hi) / 2):Nat):Int)<pw ((aP n).length+1):=by
     rw [jO,Int.natCast_mul]
     have a1:=eX n
     have:(n:Int)*((lo+hi) / 2:Nat)≤n*1048576:=Int.mul_le_mul_of_nonneg_left (by omega) (by omega)
     omega
    have:=fX this
    omega
   rw [Ur (cF R) (cF _) (by unfold Fit; omega) (by unfold Fit; omega),Option.bind_some,bI,bI]
   by_cases hc:R<n*((lo+hi) / 2)
   ·rw [if_pos (decide_eq_true (by omega))]
    refine ⟨_,rfl,⟨lo,(lo+hi) / 2,rfl,by omega,by omega,h3,by rw [Nat.mul_comm]; exact hc⟩,by simp only; omega⟩
   ·rw [if_neg (by rw [decide_eq_true_eq]; omega)]
    refine ⟨_,rfl,⟨(lo+hi) / 2,hi,rfl,by omega,by omega,by rw [Nat.mul_comm]; omega,h4⟩,by simp only; omega⟩
  ·right
   refine ⟨_,by rw [if_neg (by simpa using hgo)],?_⟩
   have:hi=lo+1:=by omega
   subst this
   congr 1
   have:R / n=lo:=by
    apply Nat.div_eq_of_lt_le
    ·exact h3
    ·exact h4
   exact this.symm
 obtain ⟨r,h1,rfl⟩:=key
 exact h1
theorem Wj {m n:Nat} (hn:n≠0) (hfm:(aP m).length≤17592186043904) (hfn:(aP n).length≤17592186043904):lY (aP m) (aP n)=some (aP (m / n),aP (m % n)):=by
 generalize ha:aP m=a at *
 have hda:Dg a:=by rw [← ha]; exact cF m
 have key : ∃ r,a8 (ov a (aP n)) ([],(a.length:Int) - 1,List.replicate a.length 0)=some r∧r.2.length=a.length∧Dg r.2∧∃ R:Nat,r.1=aP R∧R<n∧dv a=n*dv r.2+R:=by
  refine eD (I:=fun i s=>s.2.1=((a.length - i:Nat):Int) - 1∧s.2.2.length=a.length∧Dg s.2.2∧∃ R:Nat,s.1=aP R∧R<n∧dv (a.drop (a.length - i))=n*dv (s.2.2.drop (a.length - i))+R)
   a.length _ ⟨rfl,by simp,Dg.rep _,0,cB.symm,by omega,by simp [dv]⟩ (lQ (by omega)) ?_
  rintro i ⟨r,s,l⟩ hi ⟨h1,hl,hg,R,h2,hR,he⟩
  simp only at h1 hl hg h2 he
  subst h1 h2
  generalize hk:a.length - i=k at *
  simp only [ov]
  by_cases h0:0<k
  ·left
   have hk1:k - 1<a.length:=by omega
   have hk2:k - 1<l.length:=by omega
   have ek:((k:Int) - 1)=((k - 1:Nat):Int):=by omega
   have ga:=hda.get hk1
   have hRl:=eM (show R≤n by omega)
   have hdR:Dg ([a[k - 1]]++aP R):=(Dg.mk ga Dg.nil).append (cF R)
   obtain ⟨X,hX⟩ : ∃ X:Nat,a[k - 1]+1048576*(R:Int)=X:=⟨(a[k - 1]+1048576*(R:Int)).toNat,by omega⟩
   have hXn:X<1048576*n:=by omega
   have hXl:(aP X).length≤17592186043906:=by
    have:(X:Int)<pw ((aP n).length+1):=by
     rw [jO]
     have a1:=eX n
     omega
    have:=fX this
    omega
   rw [ek,if_pos (by simp),cp hk1,Option.bind_some,C6 (by simp; omega),Option.bind_some,CW (n:=X) (by unfold Fit; simp; omega) hdR (by rw [fw,bI]; simp only [dv,List.length_cons,List.length_nil]; rw [show pw (0+1)=1048576 by decide]; omega),Option.bind_some,Kk hn hfn hXl hXn,Option.bind_some,cp hk2,Option.bind_some]
   have hq:X / n<1048576:=Nat.div_lt_of_lt_mul (by rw [Nat.mul_comm]; exact hXn)
   have hq0:(0:Int)≤((X / n:Nat):Int):=Int.natCast_nonneg _
   rw [CW (n:=X / n) (by simp [Fit]) (Dg.mk (by omega) Dg.nil) (by simp [dv]),Option.bind_some]
   have hql:(aP (X / n)).length≤1:=fX (by rw [jO,mJ]; omega)
   have hprod:(dv (aP n)*dv (aP (X / n))).toNat=n*(X / n):=by rw [bI,bI,← Int.natCast_mul]; rfl
   rw [MF (cF _) (cF _) (by omega),Option.bind_some,hprod]
   have hle:n*(X / n)≤X:=Nat.mul_div_le X n
   rw [Va (cF _) (cF _) (by unfold Fit; omega) (eM hle) (by rw [bI,bI]; omega),Option.bind_some,bI,bI]
   have hsub:((X:Int) - (n*(X / n):Nat)).toNat=X % n:=by
    have:=Nat.div_add_mod X n
    omega
   rw [hsub]
   have e1:IntKind.i64.wrap (((k - 1:Nat):Int) - 1)=((k - 1:Nat):Int) - 1:=iQ (by omega)
   refine ⟨by omega,_,rfl,by rw [e1,show a.length - (i+1)=k - 1 by omega],by simpa using hl,hg.set _ (by omega),X % n,rfl,Nat.mod_lt _ (by omega),?_⟩
   simp only [Int.toNat_natCast]
   rw [show a.length - (i+1)=k - 1 by omega,jm hk1,jm (l:=l.set (k - 1) _) (i:=k - 1) (by simpa using hk2),show k - 1+1=k by omega,List.getElem_set_self,List.drop_set_of_lt (by omega),he,Int.mul_add,Int.mul_add]
   have h3:=Nat.div_add_mod X n
   have e3:(n:Int)*(1048576*dv (l.drop k))=1048576*(n*dv (l.drop k)):=Int.mul_left_comm _ _ _
   rw [e3,← Int.natCast_mul n (X / n)]
   omega
  ·right
   have:k=0:=by omega
   subst this
   refine ⟨(aP R,l),by rw [if_neg (by simp)],hl,hg,R,rfl,hR,?_⟩
   simpa using he
 obtain ⟨⟨r,l⟩,h1,h2,h3,R,h4,h5,h6⟩:=key
 simp only at h2 h3 h4 h6
 unfold lY
 rw [V5 (by omega),Option.bind_some,iQ (x:=(a.length:Int) - 1) (by omega),h1,Option.bind_some]
 simp only
 rw [← ha,bI] at h6
 have hl0:=ct h3
 obtain ⟨Q,hQ⟩ : ∃ Q:Nat,dv l=Q:=⟨(dv l).toNat,by omega⟩
 rw [hQ] at h6
 have hm:m=n*Q+R:=by
  have:((m:Nat):Int)=((n*Q+R:Nat):Int):=by rw [Int.natCast_add,Int.natCast_mul]; exact h6
  omega
 have e1:m / n=Q:=by rw [hm,Nat.mul_add_div (by omega),Nat.div_eq_of_lt h5,Nat.add_zero]
 have e2:m % n=R:=by rw [hm,Nat.mul_add_mod,Nat.mod_eq_of_lt h5]
 rw [CW (n:=Q) (by unfold Fit; omega) h3 hQ,Option.bind_some,h4,e1,e2]
theorem Pf {a b:Nat} (ha:(aP a).length≤jx) (hb:(aP b).length≤jx):a8 nG (aP a,aP b)=some (aP (Nat.gcd a b)):=by
 have hL:jx=17592186043904:=rfl
 have key : ∃ r,a8 nG (aP a,aP b)=some r∧r=aP (Nat.gcd a b):=by
  have la:=NX (eX a)
  have lb:=NX (eX b)
  let val:List Int→Nat:=fun l=>(dv l).toNat
  have hval : ∀ n,val (aP n)=n:=fun n=>by show (dv (aP n)).toNat=n; rw [bI]; rfl
  refine ja (I:=fun (s:List Int×List Int)=>∃ x y,s=(aP x,aP y)∧Nat.gcd x y=Nat.gcd a b∧(aP x).length≤jx∧(aP y).length≤jx)
   (μ:=fun (s:List Int×List Int)=>lg (val s.1)+lg (val s.2)+(if val s.1<val s.2 then 1 else 0)) _ ⟨a,b,rfl,rfl,ha,hb⟩ (by simp only [hval]; unfold FU; split <;> omega) ?_
  rintro _ ⟨x,y,rfl,hg,hx,hy⟩
  simp only [nG]
  by_cases h0:y=0
  ·right
   subst h0
   refine ⟨_,by rw [cB,if_neg (by simp)],?_⟩
   rw [← hg,Nat.gcd_zero_right]
  ·left
   have hne:0<(aP y).length:=List.length_pos_iff.2 (fun h=>h0 (oW.1 h))
   rw [if_pos (by simpa using hne),Wj h0 (by omega) (by omega),Option.bind_some]
   have hlt:=Nat.mod_lt x (Nat.pos_of_ne_zero h0)
   refine ⟨_,rfl,⟨y,x % y,rfl,?_,hy,?_⟩,?_⟩
   ·rw [← hg,Nat.gcd_comm y,← Nat.gcd_rec,Nat.gcd_comm]
   ·have:=eM (Nat.mod_le x y); omega
   ·simp only [hval]
    rw [if_neg (by omega)]
    by_cases hxy:x<y
    ·rw [if_pos hxy,Nat.mod_eq_of_lt hxy]; omega
    ·rw [if_neg hxy]
     have:lg (x % y)<lg x:=by
      apply Us
      have h1:=Nat.div_add_mod x y
      have h2:1≤x / y:=(Nat.one_le_div_iff (by omega)).2 (by omega)
      have h3:y*1≤y*(x / y):=Nat.mul_le_mul_left _ h2
      omega
     omega
 obtain ⟨r,h1,rfl⟩:=key
 exact h1
theorem Xi {x y:Int} (hx:Ln x≤jx) (hy:Ln y≤jx):ot (gz x) (gz y)=some (gz (Int.gcd x y),0):=by
 have hL:jx=17592186043904:=rfl
 unfold ot
 rw [mV (by omega),Option.bind_some]
 simp only [Bool.not_true,Bool.false_eq_true,if_false]
 rw [mV (by omega),Option.bind_some,Option.bind_some]
 simp only [Bool.not_true,Bool.false_eq_true,if_false]
 have hxd:(gz x).aa=aP x.natAbs:=rfl
 have hyd:(gz y).aa=aP y.natAbs:=rfl
 rw [hxd,hyd]
 have fx:(aP x.natAbs).length≤17592186043904:=by show Ln x≤_; omega
 have fy:(aP y.natAbs).length≤17592186043904:=by show Ln y≤_; omega
 have fg:(aP (Nat.gcd x.natAbs y.natAbs)).length≤17592186043904:=by
  by_cases h:y.natAbs=0
  ·rw [h,Nat.gcd_zero_right]; exact fx
  ·have:=eM (Nat.gcd_le_right x.natAbs (Nat.pos_of_ne_zero h)); omega
 have hgn:Nat.gcd x.natAbs y.natAbs=((Int.gcd x y:Nat):Int).natAbs:=rfl
 rw [Pf (by omega) (by omega),Option.bind_some,B8 (x:=(Int.gcd x y:Int)) hgn ?_ (fun _=>by omega),Option.bind_some]
 intro h
 rw [Int.sign_eq_one_of_pos (by omega)]
theorem Rz {x:Int} (hx : -9223372036854775808≤x∧x<9223372036854775808) : ∃ l,a8 tF (x,[])=some l∧Dg l∧dv l=x.natAbs∧l.length≤5:=by
 refine ja (I:=fun (s:Int×List Int)=>Dg s.2∧dv s.2+pw s.2.length*s.1.natAbs=x.natAbs∧s.2.length≤5∧(s.1=0∨s.2.length<5)) (μ:=fun (s:Int×List Int)=>s.1.natAbs) _ ⟨Dg.nil,by simp [dv,mJ],by simp,by simp⟩ (by simp only; unfold FU; omega) ?_
 rintro ⟨u,l⟩ ⟨hd,h2,h3,h5⟩
 simp only at hd h2 h3 h5
 have hp:=lu l.length
 have hdl:=ct hd
 have hu:(u.natAbs:Int)≤x.natAbs:=by
  have:1*(u.natAbs:Int)≤pw l.length*u.natAbs:=Int.mul_le_mul_of_nonneg_right (by omega) (by omega)
  omega
 simp only [tF]
 by_cases h0:u≠0
 ·left
  have hl4:l.length<4:=by
   rcases Nat.lt_or_ge l.length 4 with h | h
   ·exact h
   ·have h4:l.length=4:=by omega
    rw [h4,XM] at h2
    omega
  have hm:vn .i64 u 1048576=some (u.tmod 1048576):=by unfold vn; rw [if_neg (by decide)]
  have hq:xn .i64 u 1048576=some (u.tdiv 1048576):=by
   unfold xn
   have:(u.tdiv 1048576).natAbs=u.natAbs / 1048576:=Int.natAbs_tdiv u 1048576
   rw [if_neg (by decide),iQ (by omega)]
  have ha:(u.tmod 1048576).natAbs=u.natAbs % 1048576:=Int.natAbs_tmod u 1048576
  have hb:(u.tdiv 1048576).natAbs=u.natAbs / 1048576:=Int.natAbs_tdiv u 1048576
  have hpd:=xY l.length (u.natAbs:Int)
  rw [if_pos (by simpa using h0),hm,Option.bind_some]
  have fin : ∀ d:Int,d=((u.natAbs % 1048576:Nat):Int)→(Dg (l++[d])∧dv (l++[d])+pw (l++[d]).length*((u.tdiv 1048576).natAbs:Int)=x.natAbs∧(l++[d]).length≤5∧(u.tdiv 1048576=0∨(l++[d]).length<5))∧(u.tdiv 1048576).natAbs<u.natAbs:=by
   rintro d rfl
   refine ⟨⟨hd.append (Dg.mk (by omega) Dg.nil),?_,by simp; omega,by right; simp; omega⟩,by omega⟩
   rw [hb]
   simp only [fw,dv,List.length_append,List.length_cons,List.length_nil,Int.mul_zero,Int.add_zero,Nat.zero_add]
   rw [Int.natCast_emod,Int.natCast_ediv]
   have:((1048576:Nat):Int)=1048576:=rfl
   rw [this]
   omega
  by_cases hneg:u.tmod 1048576<0
  ·rw [if_pos (by simpa using hneg),iQ (x:=0 - u.tmod 1048576) (by omega),C6 (by simp; omega),Option.bind_some,hq,Option.bind_some]
   have:=fin (0 - u.tmod 1048576) (by omega)
   exact ⟨_,rfl,this.1,this.2⟩
  ·rw [if_neg (by simpa using hneg),C6 (by simp; omega),Option.bind_some,hq,Option.bind_some]
   have:=fin (u.tmod 1048576) (by omega)
   exact ⟨_,rfl,this.1,this.2⟩
 ·right
  have:u=0:=by omega
  subst this
  refine ⟨l,by rw [if_neg (by simp)],hd,?_,h3⟩
  simp at h2
  omega
theorem X0 {x:Int} (h : -9223372036854775808≤x∧x<9223372036854775808):qv x=some (gz x):=by
 unfold qv
 by_cases h0:x=0
 ·subst h0; rw [Ca]; rfl
 ·have hT:(if decide (x<0)=true then some (-1:Int) else some 1)=some x.sign:=by
   rcases gJ x with ⟨a,b,c⟩ | ⟨a,b,c⟩ | ⟨a,b⟩
   ·rw [if_neg (by simp; omega),a]
   ·rw [if_pos (by simp; omega),a]
   ·exact absurd b h0
  obtain ⟨l,h1,h2,h3,h4⟩:=Rz h
  rw [if_neg (by simpa using h0),hT,Option.bind_some,h1,Option.bind_some,pg,NZ x (by unfold Fit; omega) h2 h3 (fun _=>rfl)]
instance:DecidableEq aw:=fun a b=>decidable_of_iff (a.ag=b.ag∧a.aa=b.aa) (by cases a; cases b; simp)
instance:DecidableEq aY:=fun a b=>decidable_of_iff (a.cr=b.cr∧a.cq=b.cq) (by cases a; cases b; simp)
theorem PR {b c:aw} (hf:Fit b.aa) (hl:b.aa.length=c.aa.length) : ∃ r,a8 (sQ b c) 0=some r∧(match r with | .inl _=>b.aa=c.aa | .inr x=>x=false∧b.aa≠c.aa):=by
 refine eD (I:=fun i s=>s=(i:Int)∧b.aa.take i=c.aa.take i) b.aa.length _ ⟨rfl,by simp⟩ (lQ hf) ?_
 unfold Fit at hf
 rintro i s hi ⟨rfl,he⟩
 simp only [sQ]
 by_cases hlt:i<b.aa.length
 ·rw [if_pos (by simpa using hlt),cp hlt,Option.bind_some,cp (by omega),Option.bind_some]
  by_cases hx:b.aa[i]=c.aa[i]
  ·left
   rw [if_neg (by simpa using hx)]
   refine ⟨hlt,_,rfl,by rw [iQ (by omega)]; omega,?_⟩
   rw [List.take_add_one,List.take_add_one,he]
   simp [hlt,show i<c.aa.length by omega,hx]
  ·right
   rw [if_pos (by simpa using hx)]
   refine ⟨.inr false,rfl,rfl,fun h=>hx ?_⟩
   simp [h]
 ·right
  have:i=b.aa.length:=by omega
  subst this
  refine ⟨.inl (),by rw [if_neg (by simp)],?_⟩
  rw [List.take_length,List.take_of_length_le (by omega)] at he
  exact he
theorem TK {b c:aw} (hf:Fit b.aa):wU b c=some (decide (b=c)):=by
 have hiff:b=c↔b.ag=c.ag∧b.aa=c.aa:=by cases b; cases c; simp
 unfold wU
 by_cases h1:b.ag=c.ag
 ·rw [if_neg (by simpa using h1),Option.bind_some]
  by_cases h2:b.aa.length=c.aa.length
  ·rw [if_neg (by simp; omega)]
   obtain ⟨r,h3,h4⟩:=PR hf h2
   rw [h3,Option.bind_some]
   cases r with
   | inl u=>simp only at h4 ⊢; simp [hiff,h1,h4]
   | inr x=>simp only at h4 ⊢; simp [hiff,h1,h4.1,h4.2]
  ·rw [if_pos (by simp; omega)]
   have:b≠c:=fun h=>h2 (by rw [h])
   simp [this]
 ·rw [if_pos (by simpa using h1),Option.bind_some,if_pos rfl]
  have:b≠c:=fun h=>h1 (by rw [h])
  simp [this]
theorem Wm {b c:aw} (hf:Fit b.aa):wU b c=some (decide (b=c)):=TK hf
theorem HE {x y:Int} (hx:Ln x≤jx) (hy:Ln y≤jx):lW (gz x) (gz y)=some (kU x y):=by
 have hL:jx=17592186043904:=rfl
 unfold lW
 rw [mV (by omega),Option.bind_some]
 simp only [Bool.not_true,Bool.false_eq_true,if_false]
 rw [mV (by omega),Option.bind_some]
 simp only [Bool.not_true,Bool.false_eq_true,if_false]
 have fx:(aP x.natAbs).length≤17592186043904:=by show Ln x≤_; omega
 have fy:(aP y.natAbs).length≤17592186043904:=by show Ln y≤_; omega
 rw [Wm (by unfold Fit; show Ln x≤_; omega),Option.bind_some,Option.bind_some]
 have hxd:(gz x).aa=aP x.natAbs:=rfl
 have hyd:(gz y).aa=aP y.natAbs:=rfl
 have hxs:(gz x).ag=x.sign:=rfl
 have hys:(gz y).ag=y.sign:=rfl
 by_cases he:x=y
 ·subst he
  rw [if_pos (by simp)]
  simp [kU]
 ·rw [if_neg (by simp only [decide_eq_true_eq]; exact fun h=>he (G3 h)),hxd,hyd,hxs,hys]
  by_cases h:x.sign=y.sign
  ·rw [if_neg (by simpa using h),Ur (cF _) (cF _) (by unfold Fit; omega) (by unfold Fit; omega),Option.bind_some,bI,bI]
   have hc:kU x y=if x<y then -1 else 1:=by
    unfold kU
    split
    ·rfl
    ·rw [if_pos (by omega)]
   rcases gJ x with ⟨a,b,c⟩ | ⟨a,b,c⟩ | ⟨a,b⟩ <;> rcases gJ y with ⟨a',b',c'⟩ | ⟨a',b',c'⟩ | ⟨a',b'⟩ <;> (try (rw [a,a'] at h; exact absurd h (by decide)))
   ·rw [a,hc]
    by_cases hlt:x<y
    ·have h1:(x.natAbs:Int)<y.natAbs:=by omega
     rw [if_pos hlt,decide_eq_true h1]; rfl
    ·have h1 : ¬ (x.natAbs:Int)<y.natAbs:=by omega
     rw [if_neg hlt,decide_eq_false h1]; rfl
   ·rw [a,hc]
    by_cases hlt:x<y
    ·have h1 : ¬ (x.natAbs:Int)<y.natAbs:=by omega
     rw [if_pos hlt,decide_eq_false h1]; rfl
    ·have h1:(x.natAbs:Int)<y.natAbs:=by omega
     rw [if_neg hlt,decide_eq_true h1]; rfl
   ·exact absurd (b.trans b'.symm) he
  ·rw [if_pos (by simpa using h)]
   unfold kU
   rcases gJ x with ⟨a,b,c⟩ | ⟨a,b,c⟩ | ⟨a,b⟩ <;> rcases gJ y with ⟨a',b',c'⟩ | ⟨a',b',c'⟩ | ⟨a',b'⟩ <;> (try (exact absurd (a.trans a'.symm) h)) <;> rw [a,a'] <;> (try rw [if_pos (show x<y by omega)]) <;> (try rw [if_neg (show ¬ x<y by omega),if_pos (show y<x by omega)]) <;> rfl
theorem Ap {f:aY} (hf:OT f):lx f=some (okF f):=by
 have hL:jx=17592186043904:=rfl
 obtain ⟨p,q⟩:=f
 simp only [OT] at hf
 unfold lx okF
 rw [Mo (show Fit p.aa by unfold Fit; omega),Option.bind_some]
 by_cases h1:okB p=true
 ·simp only [h1,Bool.not_true,Bool.false_eq_true,if_false,Bool.true_and]
  rw [Mo (show Fit q.aa by unfold Fit; omega),Option.bind_some]
  by_cases h2:okB q=true
  ·simp only [h2,Bool.not_true,Bool.false_eq_true,if_false,Bool.true_and,Option.bind_some]
   obtain ⟨x,rfl⟩:=qo.1 h1
   obtain ⟨y,rfl⟩:=qo.1 h2
   have hys:(gz y).ag=y.sign:=rfl
   by_cases h3:y.sign=1
   ·rw [if_neg (by rw [hys,h3]; decide),Xi hf.1 hf.2,Option.bind_some,X0 (by decide),Option.bind_some]
    have h5:(dv (gz x).aa).toNat=x.natAbs:=by show (dv (aP _)).toNat=_; rw [bI]; rfl
    have h6:(dv (gz y).aa).toNat=y.natAbs:=by show (dv (aP _)).toNat=_; rw [bI]; rfl
    have hy:0<y.natAbs:=by rcases gJ y with ⟨a,b,c⟩ | ⟨a,b,c⟩ | ⟨a,b⟩ <;> omega
    have hgl:Ln (Int.gcd x y:Int)≤jx:=by
     have:=eM (Nat.gcd_le_right x.natAbs hy)
     have h7:(aP y.natAbs).length≤jx:=hf.2
     show (aP (Nat.gcd x.natAbs y.natAbs)).length≤_
     omega
    simp only
    rw [HE hgl (Nat.le_trans (HG (by decide)) (by decide)),Option.bind_some,h5,h6,hys,h3]
    have hg:Nat.gcd x.natAbs y.natAbs=Int.gcd x y:=rfl
    congr 1
    unfold kU
    by_cases h:Int.gcd x y=1
    ·rw [decide_eq_true (hg.trans h),h]; rfl
    ·have h1 : ¬ ((Int.gcd x y:Nat):Int)=1:=by omega
     rw [decide_eq_false (fun h'=>h (hg.symm.trans h'))]
     split
     ·rfl
     ·rw [if_pos (by omega)]; rfl
   ·have h4:((gz y).ag==1)=false:=by rw [hys]; simpa using h3
    rw [if_pos (by rw [hys]; have:=tM y; simp; omega),h4]
    rfl
  ·simp only [h2,Bool.not_false,if_true,Option.bind_some,Bool.false_and]
 ·simp only [h1,Bool.not_false,if_true,Option.bind_some,Bool.false_and]
theorem VT (f:aY) (n:Int):ow f n=some (decide ((f.cr.aa.length:Int)≤n∧(f.cq.aa.length:Int)≤n)):=by
 unfold ow
 by_cases h:(f.cr.aa.length:Int)≤n
 ·rw [if_pos (by simpa using h)]; simp [h]
 ·rw [if_neg (by simpa using h)]; simp [h]
end Go.Proofs.YtpkahnkoecbndaaGreatDoor.P
namespace Go.Proofs.YtpkahnkoecbndaaGreatDoor.P
open Go.RowKit T
set_option linter.unusedSimpArgs false
set_option linter.unusedVariables false
theorem least {Q:Nat→Prop} : ∀ n,Q n→∃ m,m≤n∧Q m∧∀ j,j<m→¬ Q j:=by
 intro n
 induction n using Nat.strongRecOn with
 | _ n ih =>
  intro hn
  by_cases h : ∃ j,j<n∧Q j
  ·obtain ⟨j,h1,h2⟩:=h
   obtain ⟨m,m1,m2⟩:=ih j h1 h2
   exact ⟨m,by omega,m2⟩
  ·exact ⟨n,Nat.le_refl _,hn,fun j hj hq=>h ⟨j,hj,hq⟩⟩
theorem allI {α ρ:Type} (l:List α) {body:Int→Option (Int⊕(Unit⊕ρ))} (p:Nat→α→Prop) (bad:ρ) [∀ i x,Decidable (p i x)] (hlen:l.length<4611686018427387904)
  (hb : ∀ (i:Nat) x,l[i]? = some x→(∀ j y,j<i→l[j]? = some y→p j y)→body (i:Int)=some (if p i x then .inl ((i+1:Nat):Int) else .inr (.inr bad))) (he:body (l.length:Int)=some (.inr (.inl ()))) :
  (∃ h:(∀ i x,l[i]? = some x→p i x),a8 body 0=some (.inl ()))∨(∃ h : ¬ (∀ i x,l[i]? = some x→p i x),a8 body 0=some (.inr bad)):=by
 by_cases hall : ∀ i x,l[i]? = some x→p i x
 ·refine .inl ⟨hall,F3 l.length (fun i=>(i:Int)) hlen (fun i hi => ?_) he⟩
  rw [hb i l[i] (List.getElem?_eq_getElem hi) (fun j y _ hj=>hall j y hj),if_pos (hall i _ (List.getElem?_eq_getElem hi))]
 ·have : ∃ n x,l[n]? = some x∧¬ p n x:=by
   refine Classical.byContradiction fun hc=>hall fun i x hx=>Classical.byContradiction fun hp=>hc ⟨i,x,hx,hp⟩
  obtain ⟨n,hn⟩:=this
  obtain ⟨m,-,⟨x,hx,hp⟩,hm⟩:=least (Q:=fun n=>∃ x,l[n]? = some x∧¬ p n x) n hn
  have hbefore : ∀ j y,j<m→l[j]? = some y→p j y:=fun j y hj hy=>Classical.byContradiction fun hq=>hm j hj ⟨y,hy,hq⟩
  have hml:=(List.getElem?_eq_some_iff.1 hx).1
  refine .inr ⟨hall,F3 m (fun i=>(i:Int)) (by omega) (fun i hi => ?_) ?_⟩
  ·have hil:i<l.length:=by omega
   rw [hb i l[i] (List.getElem?_eq_getElem hil) (fun j y hj hy=>hbefore j y (by omega) hy),if_pos (hbefore i _ hi (List.getElem?_eq_getElem hil))]
  ·rw [hb m x hx hbefore,if_neg hp]
theorem Tg {l:List Int} (h:l.length*8≤140737488351232):bA l=some l:=by
 unfold bA iO
 rw [if_pos ⟨by simp [maxLen]; omega,by simp; omega⟩]
 rfl
theorem yi {l:List Int} (hl:l.length*8≤140737488351232):fT l=some (decide (¬ l.Nodup)):=by
 have ht:=T.KV hl
 unfold jg jD bU Ah at ht
 simp only [Option.bind_some] at ht
 unfold wX at ht
 rw [if_pos hl] at ht
 simp only [Option.bind_some] at ht
 unfold fT jS
 rw [Tg hl]
 simp only [Option.bind_some]
 rw [if_pos (by omega)]
 exact ht
theorem has_eq (v:aE) (i:Int):nK v i=some (decide (0≤i∧i<v.ah.length)):=by
 unfold nK
 by_cases h:0≤i
 ·rw [if_pos (by simpa using h)]; simp [h]
 ·rw [if_neg (by simpa using h)]; simp [h]
def KN (l:List ax) (path:List Int) (i:Nat) (a:Int):Prop:=(0≤a∧a<l.length)∧(i=0∨∃ p x,path[i - 1]? = some p∧P.idx l p=some x∧(x.dp=a∨x.cK=a))
def sX (l:List ax) (path:List Int):Prop:=iJ l∧path≠[]∧∀ i a,path[i]? = some a→KN l path i a
theorem aJ {α:Type} {l:List α} {i:Int} {x:α} (h:P.idx l i=some x):0≤i∧i<l.length:=by
 unfold P.idx at h
 split at h
 ·assumption
 ·cases h
theorem LJ {α:Type} {l:List α} {i:Int} {x:α} (h:P.idx l i=some x):l[i.toNat]? = some x:=by
 unfold P.idx at h
 split at h
 ·exact h
 ·cases h
theorem LM {α:Type} {l:List α} {i:Int} (h:0≤i∧i<l.length) : ∃ x,P.idx l i=some x:=by
 refine ⟨l[i.toNat]'(by omega),sy h.1 ?_⟩
 exact List.getElem?_eq_getElem _
theorem Jt {path:List Int} (hl:path.length<4611686018427387904):P.idx path (IntKind.i64.wrap ((path.length:Int) - 1))=path.getLast?:=by
 cases path with
 | nil=>rfl
 | cons a l =>
  have:IntKind.i64.wrap (((a::l).length:Int) - 1)=((l.length:Nat):Int):=by
   rw [List.length_cons] at hl ⊢
   rw [wrap64 (by omega) (by omega)]
   omega
  rw [this,List.getLast?_eq_getElem?,fi (List.getElem?_eq_getElem (show l.length<(a::l).length by simp))]
  simp
open Classical in
theorem SP {l:List ax} {path:List Int} (hl:path.length<4611686018427387904):jU ⟨l⟩ path=some (decide (sX l path)):=by
 unfold jU
 obtain ⟨b,hb,hs⟩:=T.rA ⟨l⟩
 rw [hb]
 simp only [Option.bind_some]
 cases b with
 | false =>
  have : ¬ iJ l:=fun h=>absurd (hs.2 h) (by simp)
  simp [sX,this]
 | true =>
  have hsd:=hs.1 rfl
  by_cases hp:path=[]
  ·subst hp; simp [sX]
  ·have : ¬ ((path.length:Int)==0)=true:=by
    have:path.length≠0:=fun h=>hp (List.eq_nil_of_length_eq_zero h)
    simp; exact hp
   simp only [Bool.not_true,Bool.false_eq_true,if_false,Option.bind_some]
   rw [if_neg this]
   have hloop:=allI path (body:=jF ⟨l⟩ path) (KN l path) false hl (fun i a ha hbef=>by
    have hi:=(List.getElem?_eq_some_iff.1 ha).1
    simp only [jF]
    rw [if_pos (by simp; omega),fi ha]
    simp only [Option.bind_some,has_eq]
    by_cases hin:0≤a∧a<l.length
    ·have hd:decide (0≤a∧a<(({ ah:=l } : aE).ah.length:Int))=true:=decide_eq_true hin
     simp only [hd,Bool.not_true,Bool.false_eq_true,if_false]
     cases i with
     | zero =>
      rw [if_neg (by simp),if_pos (show KN l path 0 a from ⟨hin,.inl rfl⟩)]
      congr 2
     | succ i =>
      have hw:IntKind.i64.wrap (((i+1:Nat):Int) - 1)=(i:Int):=by rw [wrap64 (by omega) (by omega)]; omega
      have hpi:path[i]? = some (path[i]'(by omega)):=List.getElem?_eq_getElem _
      have hst:=hbef i _ (by omega) hpi
      obtain ⟨x,hx⟩:=LM hst.1
      rw [if_pos (by simp),hw,fi hpi]
      simp only [Option.bind_some,hx]
      have hiff:KN l path (i+1) a↔(x.dp=a∨x.cK=a):=by
       constructor
       ·rintro ⟨-,h | ⟨p,y,h1,h2,h3⟩⟩
        ·omega
        ·simp only [Nat.add_sub_cancel] at h1
         rw [hpi] at h1; cases h1
         rw [hx] at h2; cases h2
         exact h3
       ·exact fun h=>⟨hin,.inr ⟨_,x,hpi,hx,h⟩⟩
      have hw2:IntKind.i64.wrap (((i+1:Nat):Int)+1)=((i+1+1:Nat):Int):=eR (by omega)
      by_cases h1:x.dp=a
      ·rw [if_neg (by simp [h1]),if_pos (hiff.2 (.inl h1)),hw2]
      ·rw [if_pos (by simp [h1])]
       by_cases h2:x.cK=a
       ·rw [if_neg (by simp [h2]),if_pos (hiff.2 (.inr h2)),hw2]
       ·rw [if_pos (by simp [h2]),if_neg (fun h=>(hiff.1 h).elim h1 h2)]
    ·have hd:decide (0≤a∧a<(({ ah:=l } : aE).ah.length:Int))=false:=decide_eq_false hin
     simp only [hd,Bool.not_false,if_true]
     rw [if_neg (fun h:KN l path i a=>hin h.1)]) (by simp only [jF]; rw [if_neg (by simp)])
   rcases hloop with ⟨h,he⟩ | ⟨h,he⟩
   ·rw [he]; simp only [Option.bind_some]; rw [decide_eq_true (show sX l path from ⟨hsd,hp,h⟩)]
   ·rw [he]; simp only [Option.bind_some]; rw [decide_eq_false (fun hw:sX l path=>h hw.2.2)]
def Gi (l:List ax) (path:List Int) (total blind:Int) (text:ByteArray) (value own:Int):Prop :=
 sX l path∧∃ a b x y,path.head? = some a∧path.getLast? = some b∧P.idx l a=some x∧P.idx l b=some y∧x.bd=total∧x.bz=blind∧y.dp = -1∧kE l b text value own
theorem MO {l:List ax} {path:List Int} (h:sX l path) : ∃ a b x y,path.head? = some a∧path.getLast? = some b∧P.idx l a=some x∧P.idx l b=some y:=by
 obtain ⟨-,h1,h2⟩:=h
 have hpos:0<path.length:=List.length_pos_iff.2 h1
 have ha:path[0]? = some path[0]:=List.getElem?_eq_getElem hpos
 have hb:path[path.length - 1]? = some (path[path.length - 1]'(by omega)):=List.getElem?_eq_getElem _
 obtain ⟨x,hx⟩:=LM (h2 _ _ ha).1
 obtain ⟨y,hy⟩:=LM (h2 _ _ hb).1
 exact ⟨_,_,x,y,by rw [List.head?_eq_getElem?]; exact ha,by rw [List.getLast?_eq_getElem?]; exact hb,hx,hy⟩
theorem Jc (path:List Int):P.idx path 0=path.head?:=by
 cases path with
 | nil=>rfl
 | cons a l=>exact sy (by omega) (by simp)
open Classical in
theorem QK {l:List ax} {path:List Int} (hl:path.length<4611686018427387904) (total blind:Int) (text:ByteArray) (value own:Int):jT ⟨l⟩ path total blind text value own=some (decide (Gi l path total blind text value own)):=by
 unfold jT
 rw [SP hl]
 simp only [Option.bind_some]
 by_cases hw:sX l path
 ·rw [if_neg (by simp [hw])]
  obtain ⟨a,b,x,y,ha,hb,hx,hy⟩:=MO hw
  rw [Jc,Jt hl,ha,hb]
  simp only [Option.bind_some,hx]
  have hiff:Gi l path total blind text value own↔x.bd=total∧x.bz=blind∧y.dp = -1∧kE l b text value own:=by
   constructor
   ·rintro ⟨-,a',b',x',y',h1,h2,h3,h4,h5⟩
    rw [ha] at h1; cases h1
    rw [hb] at h2; cases h2
    rw [hx] at h3; cases h3
    rw [hy] at h4; cases h4
    exact h5
   ·exact fun h=>⟨hw,a,b,x,y,ha,hb,hx,hy,h⟩
  by_cases h1:x.bd=total
  ·rw [if_pos (by simp [h1])]
   by_cases h2:x.bz=blind
   ·rw [if_pos (by simp [h2]),hy]
    simp only [Option.bind_some,kh]
    by_cases h3:y.dp = -1
    ·rw [if_pos (by simp [h3]),T.HH]
     simp only [Option.bind_some]
     congr 1
     rw [decide_eq_decide,hiff]
     exact ⟨fun h=>⟨h1,h2,h3,h⟩,fun h=>h.2.2.2⟩
    ·rw [if_neg (by simp [h3]),decide_eq_false (fun h=>h3 (hiff.1 h).2.2.1)]
   ·rw [if_neg (by simp [h2]),decide_eq_false (fun h=>h2 (hiff.1 h).2.1)]
  ·rw [if_neg (by simp [h1]),decide_eq_false (fun h=>h1 (hiff.1 h).1)]
 ·rw [if_pos (by simp [hw]),decide_eq_false (fun h:Gi l path total blind text value own=>hw h.1)]
def yc (l:List ax) (root total blind:Int) (x:aG):Prop:=x.eG.head? = some root∧x.eG.getLast? = some x.bn∧Gi l x.eG total blind x.cR x.bd x.bz
open Classical in
theorem R1 {l:List ax} {root total blind:Int} {x:aG} (hl:x.eG.length<4611686018427387904):dS ⟨⟨l⟩,root,total,blind⟩ x=some (decide (yc l root total blind x)):=by
 unfold dS
 by_cases hp:x.eG=[]
 ·rw [if_neg (by simp [hp]),decide_eq_false (fun h:yc l root total blind x=>by have:=h.1; rw [hp] at this; cases this)]
 ·have hpos:0<x.eG.length:=List.length_pos_iff.2 hp
  rw [if_pos (by simp; omega),Jc]
  obtain ⟨a,ha⟩ : ∃ a,x.eG.head? = some a:=by cases h:x.eG with | nil=>exact absurd h hp | cons a l=>exact ⟨a,rfl⟩
  obtain ⟨b,hb⟩ : ∃ b,x.eG.getLast? = some b:=⟨_,List.getLast?_eq_some_getLast hp⟩
  rw [ha]
  simp only [Option.bind_some]
  by_cases h1:a=root
  ·rw [if_pos (by simp [h1]),Jt hl,hb]
   simp only [Option.bind_some]
   by_cases h2:b=x.bn
   ·rw [if_pos (by simp [h2]),QK hl]
    simp only [Option.bind_some]
    congr 1
    rw [decide_eq_decide]
    exact ⟨fun h=>⟨by rw [ha,h1],by rw [hb,h2],h⟩,fun h=>h.2.2⟩
   ·rw [if_neg (by simp [h2]),decide_eq_false (fun h:yc l root total blind x=>h2 (by have:=h.2.1; rw [hb] at this; exact Option.some.inj this))]
  ·rw [if_neg (by simp [h1]),decide_eq_false (fun h:yc l root total blind x=>h1 (by have:=h.1; rw [ha] at this; exact Option.some.inj this))]
end Go.Proofs.YtpkahnkoecbndaaGreatDoor.P
namespace Go.Proofs.YtpkahnkoecbndaaGreatDoor.P
open Go.RowKit T
set_option linter.unusedSimpArgs false
set_option linter.unusedVariables false
theorem VI {x y:Int} (hx:Ln x≤pH) (hy:Ln y≤pH):tD (gz x) (gz y)=some (gz (x*y),0):=by
 have hL:pH=4398046511104:=rfl
 have hLa:=xi x y
 unfold tD
 rw [mV (by omega),Option.bind_some]
 simp only [Bool.not_true,Bool.false_eq_true,if_false]
 rw [mV (by omega),Option.bind_some,Option.bind_some]
 simp only [Bool.not_true,Bool.false_eq_true,if_false]
 have hxd:(gz x).aa=aP x.natAbs:=rfl
 have hyd:(gz y).aa=aP y.natAbs:=rfl
 have hxs:(gz x).ag=x.sign:=rfl
 have hys:(gz y).ag=y.sign:=rfl
 rw [hxd,hyd,hxs,hys]
 have fx:(aP x.natAbs).length≤4398046511104:=by show Ln x≤_; omega
 have fy:(aP y.natAbs).length≤4398046511104:=by show Ln y≤_; omega
 have hw:IntKind.i64.wrap (x.sign*y.sign)=(x*y).sign:=by
  rw [Int.sign_mul]
  apply iQ
  rcases tM x with h | h | h <;> rcases tM y with g | g | g <;> rw [h,g] <;> decide
 rw [hw,MF (cF _) (cF _) (by omega),Option.bind_some,bI,bI]
 have hn:((x.natAbs:Int)*y.natAbs).toNat=(x*y).natAbs:=by rw [Int.natAbs_mul,← Int.natCast_mul]; rfl
 rw [hn,B8 (x:=x*y) rfl (fun _=>rfl) (fun _=>by show Ln (x*y)≤_; omega),Option.bind_some]
theorem Ai {a b:Rat} (h:LF a+LF b≤pH):l3 (Ab a) (Ab b)=some (OY a b):=by
 have n1:=Gb a
 have n2:=Gb b
 have d1:=Ga a
 have d2:=Ga b
 have m1:=xi a.num b.den
 have m2:=xi b.num a.den
 have hL:pH=4398046511104:=rfl
 have hB:jx=17592186043904:=rfl
 unfold l3
 rw [Ap (zV (by omega)),xR,Option.bind_some]
 simp only [Bool.not_true,Bool.false_eq_true,if_false]
 rw [Ap (zV (by omega)),xR,Option.bind_some,Option.bind_some]
 simp only [Bool.not_true,Bool.false_eq_true,if_false]
 show (tD (gz a.num) (gz b.den)).bind _=_
 rw [VI (by omega) (by omega),Option.bind_some]
 show (tD (gz b.num) (gz a.den)).bind _=_
 rw [VI (by omega) (by omega),Option.bind_some]
 show (lW (gz (a.num*b.den)) (gz (b.num*a.den))).bind _=_
 rw [HE (by omega) (by omega),Option.bind_some,Nz]
def oD (f:aY):Prop:=f.cr.aa.length≤4∧f.cq.aa.length≤4
def vu (s:dL):Prop:=oD s.bx∧oD s.aT
theorem oD.fit {f:aY} (h:oD f):OT f:=by
 have hB:jx=17592186043904:=rfl
 exact ⟨by have:=h.1; omega,by have:=h.2; omega⟩
theorem oD.LF {q:Rat} (h:oD (Ab q)):LF q≤4:=by
 have h1:Ln q.num≤4:=h.1
 have h2:Ln q.den≤4:=h.2
 unfold P.LF
 omega
theorem UL {n:Int} (h : -9223372036854775808≤n∧n<9223372036854775808):LF (n:Rat)≤5:=by
 have h1:Ln n≤5:=Qa (by
  have:pw 5=1267650600228229401496703205376:=by decide
  omega)
 have h2:=HG (x:=((1:Nat):Int)) (by decide)
 unfold P.LF
 rw [Rat.num_intCast,Rat.den_intCast]
 omega
theorem Lg {a b:Rat} : decide (OY a b≤0)=decide (a≤b):=by
 unfold OY
 rw [decide_eq_decide]
 by_cases h1:a<b
 ·rw [if_pos h1]; simp only [Int.reduceNeg,Int.reduceLE,true_iff]; exact Rat.le_of_lt h1
 ·rw [if_neg h1]
  by_cases h2:b<a
  ·rw [if_pos h2]; simp only [Int.reduceLE,false_iff]; exact fun h=>absurd h2 (Rat.not_lt.2 h)
  ·rw [if_neg h2]; simp only [Int.le_refl,true_iff]; exact Rat.not_lt.1 h2
def sR (s:dL):Bool:=(gu s).getD false
def sH (s:dL) (n:Int):Bool:=(kP s (Ab n)).getD false
def Xa (s:dL) (a b:Rat):Prop:=s.bx=Ab a∧s.aT=Ab b∧a≤b
theorem FX {s:dL} (h:vu s):gu s=some (sR s)∧tH s=some (sR s)∧(sR s=true↔∃ a b,Xa s a b):=by
 have hL:pH=4398046511104:=rfl
 have key : ∃ c,gu s=some c∧tH s=some c∧(c=true↔∃ a b,Xa s a b):=by
  unfold gu tH
  rw [rz h.1.fit,Ap h.1.fit]
  simp only [Option.bind_some]
  cases h1:okF s.bx with
  | false =>
   refine ⟨false,by simp,by simp,by simp only [Bool.false_eq_true,false_iff]; rintro ⟨a,b,e,-⟩; rw [e,xR] at h1; cases h1⟩
  | true =>
   simp only [if_true]
   rw [rz h.2.fit,Ap h.2.fit]
   simp only [Option.bind_some]
   cases h2:okF s.aT with
   | false =>
    refine ⟨false,by simp,by simp,by simp only [Bool.false_eq_true,false_iff]; rintro ⟨a,b,-,e,-⟩; rw [e,xR] at h2; cases h2⟩
   | true =>
    obtain ⟨a,ha⟩:=G6.1 h1
    obtain ⟨b,hb⟩:=G6.1 h2
    have la:=oD.LF (ha ▸ h.1)
    have lb:=oD.LF (hb ▸ h.2)
    simp only [if_true]
    rw [ha,hb,xg (by omega),Ai (by omega)]
    simp only [Option.bind_some,Lg]
    refine ⟨_,rfl,rfl,?_⟩
    rw [decide_eq_true_eq]
    constructor
    ·exact fun hle=>⟨a,b,ha,hb,hle⟩
    ·rintro ⟨a',b',e1,e2,e3⟩
     rw [Ac (ha.symm.trans e1),Ac (hb.symm.trans e2)]
     exact e3
 obtain ⟨c,h1,h2,h3⟩:=key
 have:sR s=c:=by unfold sR; rw [h1]; rfl
 rw [this]
 exact ⟨h1,h2,h3⟩
theorem TP {s:dL} (h:vu s) {n:Int} (hn : -9223372036854775808≤n∧n<9223372036854775808):kP s (Ab n)=some (sH s n)∧Hm s (Ab n)=some (sH s n)∧(sH s n=true↔∃ a b,Xa s a b∧a≤n∧(n:Rat)≤b):=by
 have hL:pH=4398046511104:=rfl
 have hB:jx=17592186043904:=rfl
 obtain ⟨r1,r2,r3⟩:=FX h
 have ln:=UL hn
 have key : ∃ c,kP s (Ab n)=some c∧Hm s (Ab n)=some c∧(c=true↔∃ a b,Xa s a b∧a≤n∧(n:Rat)≤b):=by
  unfold kP Hm
  rw [r1,r2]
  simp only [Option.bind_some]
  cases hr:sR s with
  | false =>
   refine ⟨false,by simp,by simp,by simp only [Bool.false_eq_true,false_iff]; rintro ⟨a,b,hi,-⟩; have:=r3.2 ⟨a,b,hi⟩; rw [hr] at this; cases this⟩
  | true =>
   obtain ⟨a,b,ha,hb,hle⟩:=r3.1 hr
   have la:=oD.LF (ha ▸ h.1)
   have lb:=oD.LF (hb ▸ h.2)
   simp only [if_true]
   rw [Aq (by omega),Ap (zV (by omega)),xR]
   simp only [Option.bind_some,if_true]
   rw [ha,hb,xg (by omega),Ai (by omega)]
   simp only [Option.bind_some,Lg]
   by_cases h1:a≤n
   ·simp only [h1,decide_true,if_true]
    rw [xg (by omega),Ai (by omega)]
    simp only [Option.bind_some,Lg]
    refine ⟨_,rfl,rfl,?_⟩
    rw [decide_eq_true_eq]
    constructor
    ·exact fun h2=>⟨a,b,⟨ha,hb,hle⟩,h1,h2⟩
    ·rintro ⟨a',b',⟨e1,e2,-⟩,-,e3⟩
     rw [Ac (hb.symm.trans e2)]
     exact e3
   ·simp only [h1,decide_false,Bool.false_eq_true,if_false]
    refine ⟨false,rfl,rfl,?_⟩
    simp only [Bool.false_eq_true,false_iff]
    rintro ⟨a',b',⟨e1,-⟩,e3,-⟩
    rw [← Ac (ha.symm.trans e1)] at e3
    exact h1 e3
 obtain ⟨c,h1,h2,h3⟩:=key
 have:sH s n=c:=by unfold sH; rw [h1]; rfl
 rw [this]
 exact ⟨h1,h2,h3⟩
theorem VS (s:dL) : ∃ b,qw s 4=some b∧(b=true↔vu s):=by
 unfold qw
 rw [VT]
 simp only [Option.bind_some]
 by_cases h:((s.bx.cr.aa.length:Int)≤4∧(s.bx.cq.aa.length:Int)≤4)
 ·rw [if_pos (by simp [h]),VT]
  refine ⟨_,rfl,?_⟩
  rw [decide_eq_true_eq]
  exact ⟨fun h2=>⟨⟨by omega,by omega⟩,⟨by omega,by omega⟩⟩,fun h2=>⟨by have:=h2.2.1; omega,by have:=h2.2.2; omega⟩⟩
 ·rw [if_neg (by simpa using h)]
  refine ⟨false,rfl,?_⟩
  simp only [Bool.false_eq_true,false_iff]
  exact fun h2=>h ⟨by have:=h2.1.1; omega,by have:=h2.1.2; omega⟩
theorem pV {α:Type} (q:α→Bool) : ∀ (l:List α) (k:Nat),(l.find? q=none∧fK (fun i x=>if q x then some ((i:Nat):Int) else none) k l=none)∨∃ (j:Nat) (x:α),l.find? q=some x∧l[j]? = some x∧fK (fun i x=>if q x then some ((i:Nat):Int) else none) k l=some ((k+j:Nat):Int)
 | [],k => .inl ⟨rfl,rfl⟩
 | x::l,k=>by
  by_cases h:q x=true
  ·refine .inr ⟨0,x,by simp [h],rfl,?_⟩
   simp only [fK]
   rw [if_pos h]
   rfl
  ·have hf:(x::l).find? q=l.find? q:=by rw [List.find?_cons_of_neg h]
   have hs:fK (fun i x=>if q x then some ((i:Nat):Int) else none) k (x::l)=fK (fun i x=>if q x then some ((i:Nat):Int) else none) (k+1) l:=by
    simp only [fK]
    rw [if_neg h]
   rw [hf,hs]
   rcases pV q l (k+1) with h1 | ⟨j,y,h1,h2,h3⟩
   ·exact .inl h1
   ·exact .inr ⟨j+1,y,h1,by simpa using h2,by rw [h3]; congr 2; omega⟩
theorem Rl {ops:List aG} (hl:ops.length<4611686018427387904) (leaf:Int):bc ops leaf=some (match fK (fun i x=>if (x.bn==leaf:Bool) then some ((i:Nat):Int) else none) 0 ops with | none => -1 | some r=>r):=by
 unfold bc
 rw [FW ops (fun i x=>if (x.bn==leaf:Bool) then some ((i:Nat):Int) else none) hl (fun i x hx=>by
  have hi:=(List.getElem?_eq_some_iff.1 hx).1
  simp only [bZ,dG]
  rw [if_pos (by simp; omega),fi hx]
  simp only [Option.bind_some]
  by_cases h:(x.bn==leaf)=true
  ·rw [if_pos h,if_pos h]
  ·rw [if_neg h,if_neg h,eR (by omega)]) (by simp only [bZ]; rw [if_neg (by simp)])]
 simp only [Option.bind_some]
 split <;> rename_i h <;> split at h <;> simp_all
def off (ms:List az) (leaf value:Int):Bool:=ms.any fun m=>m.bn==leaf && !sH m.bD value
def PC (ms:List az):Prop:=ms.length<4611686018427387904∧∀ m∈ms,vu m.bD
theorem contains_eq {ms:List az} (h:PC ms) (leaf:Int) {value:Int} (hv : -9223372036854775808≤value∧value<9223372036854775808):ba ms leaf (Ab value)=some (off ms leaf value):=by
 unfold ba bH
 rw [FW ms (fun i m=>if (m.bn==leaf && !sH m.bD value:Bool) then some ((i:Nat):Int) else none) h.1 (fun i x hx=>by
  have hi:=(List.getElem?_eq_some_iff.1 hx).1
  have:=h.1
  simp only [cd,dH]
  rw [if_pos (by simp; omega),fi hx]
  simp only [Option.bind_some]
  rw [(TP (h.2 x (List.mem_of_getElem? hx)) hv).1]
  by_cases h1:(x.bn==leaf)=true
  ·simp only [h1,if_true,Option.bind_some,Bool.true_and]
   cases sH x.bD value <;> simp [eR (show i<4611686018427387904 by omega)]
  ·simp only [h1,Bool.false_eq_true,if_false,Option.bind_some,Bool.false_and]
   rw [eR (by omega)]) (by simp only [cd]; rw [if_neg (by simp)])]
 simp only [Option.bind_some]
 rcases pV (fun m:az=>m.bn==leaf && !sH m.bD value) ms 0 with ⟨h1,h2⟩ | ⟨j,x,h1,h2,h3⟩
 ·rw [h2]
  simp only [Option.bind_some]
  have:off ms leaf value=false:=by
   unfold off
   rw [List.any_eq_false]
   intro m hm
   have:=List.find?_eq_none.1 h1 m hm
   simpa using this
  rw [this]; rfl
 ·rw [h3]
  simp only [Option.bind_some]
  have:off ms leaf value=true:=by
   unfold off
   rw [List.any_eq_true]
   exact ⟨x,List.mem_of_getElem? h2,by simpa using List.find?_some h1⟩
  rw [this]
  congr 1
open Classical in
noncomputable def mR (l:List ax) (root total blind leaf:Int) (ops:List aG) (ms:List az):Int :=
 match ops.find? fun x=>x.bn==leaf with
 | none=>0
 | some x=>if yc l root total blind x then (if off ms leaf x.bd then 2 else -1) else 1
def Ob (ops:List aG):Prop:=ops.length<4611686018427387904∧∀ x∈ops,x.eG.length<4611686018427387904 ∧ -9223372036854775808≤x.bd∧x.bd<9223372036854775808
theorem PN {ops:List aG} {ms:List az} (ho:Ob ops) (hm:PC ms) (l:List ax) (root total blind leaf:Int):dF ⟨⟨l⟩,root,total,blind⟩ leaf ops ms=some (mR l root total blind leaf ops ms):=by
 unfold dF mR
 rw [Rl ho.1]
 simp only [Option.bind_some]
 rcases pV (fun x:aG=>x.bn==leaf) ops 0 with ⟨h1,h2⟩ | ⟨j,x,h1,h2,h3⟩
 ·rw [h2,h1]; rfl
 ·rw [h3,h1]
  have hox:=ho.2 x (List.mem_of_getElem? h2)
  simp only [Nat.zero_add]
  rw [if_neg (by simp),fi h2]
  simp only [Option.bind_some]
  rw [R1 hox.1]
  simp only [Option.bind_some]
  by_cases hs:yc l root total blind x
  ·rw [if_neg (by simp [hs]),if_pos hs,VG hox.2]
   simp only [Option.bind_some]
   rw [contains_eq hm leaf hox.2]
   simp only [Option.bind_some]
   cases off ms leaf x.bd <;> rfl
  ·rw [if_pos (by simp [hs]),if_neg hs]
noncomputable def ik (l:List ax) (root total blind:Int) (ops:List aG) (ms:List az) (leaf:Int):Option bB :=
 if mR l root total blind leaf ops ms = -1 then none else some ⟨leaf,mR l root total blind leaf ops ms⟩
open Classical in
noncomputable def GM (l:List ax) (root total blind:Int) (asked:List Int) (ops:List aG) (ms:List az):List bB×Int :=
 if iJ l∧0≤root∧root<l.length then (if ms.all fun m=>sR m.bD then (if asked.Nodup then (asked.filterMap (ik l root total blind ops ms),0) else ([],5)) else ([],1)) else ([],1)
theorem rU {α β:Type} (f:α→Option β) {l:List α} {i:Nat} {x:α} (h:l[i]? = some x):(l.take (i+1)).filterMap f=(l.take i).filterMap f++(f x).toList:=by
 obtain ⟨hi,rfl⟩:=List.getElem?_eq_some_iff.1 h
 rw [List.take_succ_eq_append_getElem hi,List.filterMap_append]
 congr 1
theorem PO {ms:List az} (h:PC ms):aN ms=some (!(ms.all fun m=>sR m.bD)):=by
 unfold aN ca
 rw [FW ms (fun i m=>if (!sR m.bD:Bool) then some ((i:Nat):Int) else none) h.1 (fun i x hx=>by
  have hi:=(List.getElem?_eq_some_iff.1 hx).1
  have:=h.1
  simp only [cL,iz]
  rw [if_pos (by simp; omega),fi hx]
  simp only [Option.bind_some]
  rw [(FX (h.2 x (List.mem_of_getElem? hx))).1]
  simp only [Option.bind_some]
  cases sR x.bD <;> simp [eR (show i<4611686018427387904 by omega)]) (by simp only [cL]; rw [if_neg (by simp)])]
 simp only [Option.bind_some]
 rcases pV (fun m:az => !sR m.bD) ms 0 with ⟨h1,h2⟩ | ⟨j,x,h1,h2,h3⟩
 ·rw [h2]
  have:(ms.all fun m=>sR m.bD)=true:=by
   rw [List.all_eq_true]
   intro m hm
   have:=List.find?_eq_none.1 h1 m hm
   simpa using this
  rw [this]; rfl
 ·rw [h3]
  have:(ms.all fun m=>sR m.bD)=false:=by
   rw [List.all_eq_false]
   exact ⟨x,List.mem_of_getElem? h2,by simpa using List.find?_some h1⟩
  rw [this]
  simp
open Classical in
theorem Jn {ops:List aG} {ms:List az} {asked:List Int} (ho:Ob ops) (hm:PC ms) (ha:asked.length≤1000000) (l:List ax) (root total blind:Int):er ⟨l⟩ root total blind asked ops ms=some (GM l root total blind asked ops ms):=by
 unfold er GM
 obtain ⟨b,hb,hs⟩:=T.rA ⟨l⟩
 rw [hb]
 simp only [Option.bind_some]
 have hgo : ∀ c:Bool,(c=false↔(iJ l∧0≤root∧root<l.length))→(if c then some (([]:List bB),(1:Int)) else (aN ms).bind fun r4=>if r4 then some ([],1) else (fT asked).bind fun r6=>if r6 then some ([],5) else (a8 (dR ⟨l⟩ root total blind asked ops ms) (0,[])).bind fun l17bx=>some (l17bx,0))=some (if iJ l∧0≤root∧root<l.length then (if ms.all fun m=>sR m.bD then (if asked.Nodup then (asked.filterMap (ik l root total blind ops ms),0) else ([],5)) else ([],1)) else ([],1)):=by
  intro c hc
  cases c with
  | true =>
   rw [if_pos rfl,if_neg (fun h=>absurd (hc.2 h) (by simp))]
  | false =>
   rw [if_neg (by simp),if_pos (hc.1 rfl),PO hm]
   simp only [Option.bind_some]
   cases hall:ms.all fun m=>sR m.bD with
   | false=>simp
   | true =>
    simp only [Bool.not_true,Bool.false_eq_true,if_false,if_true]
    rw [yi (by omega)]
    simp only [Option.bind_some]
    by_cases hn:asked.Nodup
    ·rw [if_neg (by simp [hn]),if_pos hn]
     have hloop:=F3 (body:=dR ⟨l⟩ root total blind asked ops ms) asked.length (fun i=>((i:Int),(asked.take i).filterMap (ik l root total blind ops ms))) (r:=asked.filterMap (ik l root total blind ops ms)) (by omega) (fun i hi=>by
      have hx:asked[i]? = some asked[i]:=List.getElem?_eq_getElem hi
      simp only [dR]
      rw [if_pos (by simp; omega),fi hx]
      simp only [Option.bind_some]
      rw [PN ho hm]
      simp only [Option.bind_some]
      rw [rU _ hx]
      have hlen:((asked.take i).filterMap (ik l root total blind ops ms)).length≤1000000 - 1:=by
       have h1:=List.length_filterMap_le (ik l root total blind ops ms) (asked.take i)
       have h2:(asked.take i).length≤i:=by simp; omega
       omega
      by_cases hr:mR l root total blind asked[i] ops ms = -1
      ·rw [if_neg (by simp [hr])]
       simp only [ik,hr,if_true,Option.toList_none,List.append_nil]
       rw [eR (by omega)]
      ·rw [if_pos (by simp [hr]),Gf (by simp; omega) (by decide)]
       simp only [Option.bind_some]
       rw [show ik l root total blind ops ms asked[i]=some ⟨asked[i],mR l root total blind asked[i] ops ms⟩ from if_neg hr,eR (by omega)]
       rfl) (by
      simp only [dR]
      rw [if_neg (by simp),List.take_length])
     have hloop':a8 (dR ⟨l⟩ root total blind asked ops ms) (0,[])=some (asked.filterMap (ik l root total blind ops ms)):=hloop
     rw [hloop']
     rfl
    ·rw [if_pos (by simp [hn]),if_neg hn]
 cases b with
 | false =>
  have : ¬ iJ l:=fun h=>absurd (hs.2 h) (by simp)
  exact hgo true ⟨fun h=>(by cases h),fun h=>absurd h.1 this⟩
 | true =>
  have hsd:=hs.1 rfl
  simp only [Bool.not_true,Bool.false_eq_true,if_false]
  by_cases h1:root<0
  ·rw [if_pos (by simp [h1])]
   exact hgo true ⟨fun h=>(by cases h),fun h=>(by omega)⟩
  ·rw [if_neg (by simp; omega)]
   refine hgo _ ?_
   rw [decide_eq_false_iff_not]
   exact ⟨fun h=>⟨hsd,by omega,by omega⟩,fun h=>by omega⟩
end Go.Proofs.YtpkahnkoecbndaaGreatDoor.P
namespace Go.Proofs.YtpkahnkoecbndaaGreatDoor.P
open Go.RowKit T
set_option linter.unusedSimpArgs false
set_option linter.unusedVariables false
theorem Br (x y:bB):((x.bn==y.bn)&&(x.ky==y.ky))=true↔x=y:=by
 obtain ⟨x1,x2⟩:=x
 obtain ⟨y1,y2⟩:=y
 simp
open Classical in
theorem RX {a b:List bB} (ha:a.length<4611686018427387904):l4 a b=some (decide (a=b)):=by
 unfold l4
 by_cases hl:a.length=b.length
 ·rw [if_neg (by simp [hl])]
  have hloop:=allI a (body:=l5 a b) (fun i x=>b[i]? = some x) false ha (fun i x hx _=>by
    have hi:=(List.getElem?_eq_some_iff.1 hx).1
    have hb:b[i]? = some (b[i]'(by omega)):=List.getElem?_eq_getElem _
    simp only [l5]
    rw [if_pos (by simp; omega),fi hx,fi hb]
    simp only [Option.bind_some]
    by_cases h:x=b[i]'(by omega)
    ·rw [if_neg (by rw [(Br x _).2 h]; decide),if_pos (by rw [hb,h]),eR (by omega)]
    ·have:((x.bn==(b[i]'(by omega)).bn)&&(x.ky==(b[i]'(by omega)).ky))=false:=by
      rw [Bool.eq_false_iff]
      exact fun hq=>h ((Br _ _).1 hq)
     rw [this,if_pos (by decide),if_neg (fun hq=>h (by rw [hb] at hq; exact (Option.some.inj hq).symm))]) (by simp only [l5]; rw [if_neg (by simp)])
  rcases hloop with ⟨h,he⟩ | ⟨h,he⟩
  ·rw [he]
   simp only [Option.bind_some]
   have:a=b:=by
    apply List.ext_getElem hl
    intro i h1 h2
    have:=h i a[i] (List.getElem?_eq_getElem h1)
    rw [List.getElem?_eq_getElem h2] at this
    exact (Option.some.inj this).symm
   rw [decide_eq_true this]
  ·rw [he]
   simp only [Option.bind_some]
   have : ¬ a=b:=by
    rintro rfl
    exact h fun i x hx=>hx
   rw [decide_eq_false this]
 ·rw [if_pos (by simp; omega),decide_eq_false (fun h=>hl (by rw [h]))]
theorem VU {ops:List aG} {ms:List az} (h1:ops.length<4611686018427387904) (h2:ms.length<4611686018427387904) : ∃ b,qA ops ms=some b∧(b=true→ops.length≤14∧ms.length≤14∧∀ m∈ms,vu m.bD):=by
 unfold qA
 obtain ⟨r,hr,hp⟩:=ja (body:=qB ops) (fun s=>∃ i:Nat,s=i∧i≤ops.length∧i≤15) (fun s=>(15 - s).toNat) (fun r=>match r with | .inl _=>True | .inr b=>b=false) (s:=0) ⟨0,rfl,by omega,by omega⟩
  (by have:FU=1000000000000000000000000:=rfl; omega) (by
   rintro s ⟨i,rfl,g1,g2⟩
   unfold qB
   dsimp only
   by_cases hi:i<ops.length∧i≤14
   ·rw [if_pos (by simp; omega)]
    simp only [Option.bind_some]
    rw [if_pos (by simp; omega)]
    simp only [fi (List.getElem?_eq_getElem hi.1),Option.bind_some,eR (show i<4611686018427387904 by omega)]
    split
    ·exact .inr ⟨_,rfl,rfl⟩
    ·split
     ·exact .inr ⟨_,rfl,rfl⟩
     ·exact .inl ⟨_,rfl,⟨i+1,rfl,by omega,by omega⟩,by omega⟩
   ·refine .inr ⟨.inl (),?_,trivial⟩
    by_cases hj:i<ops.length
    ·rw [if_pos (by simp; omega)]
     simp only [Option.bind_some]
     rw [if_neg (by simp; omega)]
    ·rw [if_neg (by simp; omega)]
     simp)
 rw [hr]
 simp only [Option.bind_some]
 cases r with
 | inr b=>subst hp; exact ⟨_,rfl,fun h=>by cases h⟩
 | inl u =>
  obtain ⟨r',hr',hp'⟩:=ja (body:=qC ms) (fun s=>∃ i:Nat,s=i∧i≤ms.length∧i≤15∧∀ j m,j<i→ms[j]? = some m→vu m.bD) (fun s=>(15 - s).toNat) (fun r=>match r with | .inl _=>ms.length≤14→∀ m∈ms,vu m.bD | .inr b=>b=false) (s:=0) ⟨0,rfl,by omega,by omega,fun j m hj=>by omega⟩
   (by have:FU=1000000000000000000000000:=rfl; omega) (by
    rintro s ⟨i,rfl,g1,g2,g3⟩
    unfold qC
    dsimp only
    by_cases hi:i<ms.length∧i≤14
    ·rw [if_pos (by simp; omega)]
     simp only [Option.bind_some]
     rw [if_pos (by simp; omega)]
     have hx:=List.getElem?_eq_getElem hi.1
     obtain ⟨b,hb,hb2⟩:=VS ms[i].bD
     simp only [fi hx,Option.bind_some,hb,eR (show i<4611686018427387904 by omega)]
     cases b with
     | false=>exact .inr ⟨_,rfl,rfl⟩
     | true =>
      refine .inl ⟨_,rfl,⟨i+1,rfl,by omega,by omega,fun j m hj hm => ?_⟩,by omega⟩
      by_cases hji:j=i
      ·subst hji; rw [hx] at hm; cases hm; exact hb2.1 rfl
      ·exact g3 j m (by omega) hm
    ·refine .inr ⟨.inl (),?_,fun hle m hm => ?_⟩
     ·by_cases hj:i<ms.length
      ·rw [if_pos (by simp; omega)]
       simp only [Option.bind_some]
       rw [if_neg (by simp; omega)]
      ·rw [if_neg (by simp; omega)]
       simp
     ·obtain ⟨j,hj,rfl⟩:=List.getElem_of_mem hm
      exact g3 j _ (by omega) (List.getElem?_eq_getElem hj))
  dsimp only
  rw [hr']
  simp only [Option.bind_some]
  cases r' with
  | inr b=>subst hp'; exact ⟨_,rfl,fun h=>by cases h⟩
  | inl u =>
   dsimp only
   by_cases q1:(ops.length:Int)≤14
   ·rw [if_pos (by simp; omega)]
    refine ⟨_,rfl,fun h => ?_⟩
    have q2:(ms.length:Int)≤14:=by simpa using h
    exact ⟨by omega,by omega,hp' (by omega)⟩
   ·rw [if_neg (by simp; omega)]
    exact ⟨_,rfl,fun h=>by cases h⟩
def P4:List ax:=[⟨⟨#[97]⟩,30,7,-1,-1⟩,⟨⟨#[98]⟩,20,8,-1,-1⟩,⟨⟨#[99]⟩,10,9,-1,-1⟩,⟨⟨#[]⟩,50,15,0,1⟩,⟨⟨#[]⟩,60,24,3,2⟩]
theorem Q8:lz ⟨[]⟩ [ByteArray.mk #[97],ByteArray.mk #[98],ByteArray.mk #[99]] [30,20,10] [7,8,9]=some (⟨P4⟩,4,[0,1,2],0):=by kernel_rfl
def K2 (n:Int):aY:=⟨⟨1,[n]⟩,⟨1,[1]⟩⟩
theorem Bq:gQ 19 21=some ⟨K2 19,K2 21⟩∧gQ 21 22=some ⟨K2 21,K2 22⟩:=⟨by kernel_rfl,by kernel_rfl⟩
def XK (n:Int):List aG:=[⟨1,[4,3,1],⟨#[98]⟩,n,8⟩]
theorem IQ:dI ⟨P4⟩=some true:=by kernel_rfl
theorem IP {asked:List Int} {ops:List aG} {ms:List az} {b:Bool} {out:List bB} (h1:aN ms=some false) (h2:asked.length≤10) (h3:b=decide (¬ asked.Nodup)) (h4:b=false→a8 (dR ⟨P4⟩ 4 60 24 asked ops ms) (0,[])=some out):er ⟨P4⟩ 4 60 24 asked ops ms=some (if b then ([],5) else (out,0)):=by
 unfold er
 rw [IQ]
 simp only [Option.bind_some,Bool.not_true,Bool.false_eq_true,if_false]
 rw [if_neg (by decide)]
 simp only [Option.bind_some]
 rw [if_neg (by decide),h1]
 simp only [Option.bind_some,Bool.false_eq_true,if_false]
 rw [yi (by omega),← h3]
 simp only [Option.bind_some]
 cases b with
 | true=>rfl
 | false =>
  simp only [Bool.false_eq_true,if_false]
  rw [h4 rfl]
  rfl
theorem z6 {asked:List Int} {n:Int} {ms:List az} {out want:List bB} (h1:aN ms=some false) (h2:asked.length≤10) (h3:asked.Nodup) (h4:a8 (dR ⟨P4⟩ 4 60 24 asked (XK n) ms) (0,[])=some out) (h5:out=want) (h6:out.length<10):jy ⟨P4⟩ asked n ms want=some true:=by
 unfold jy
 have:=IP (b:=false) h1 h2 (by simp [h3]) (fun _=>h4)
 unfold XK at this
 rw [this]
 simp only [Bool.false_eq_true,if_false,Option.bind_some,beq_self_eq_true,if_true]
 rw [RX (by omega)]
 simp [h5]
theorem R3:lq=some true:=by
 have hsd:iJ P4:=by
  obtain ⟨b,hb,hs⟩:=T.rA ⟨P4⟩
  rw [IQ] at hb
  cases hb
  exact hs.1 rfl
 have wf20:VF [2,0]:=fun x hx=>by simp at hx; omega
 have hs:(SL [2,0]).size≤5000:=SM wf20 (by simp)
 have hL:=S3 hsd (by decide) (t:=SL [2,0]) (by omega) (b:=5) (by omega)
 have hsd2:iJ (P4++[ax.mk (SL [2,0]) 0 5 (-1) (-1)]):=KH hsd (by decide) ⟨rfl,rfl,by simp only; omega,⟨by simp,by simp⟩,⟨by simp,by simp⟩⟩
 have hT:tp [[2,0]] 3 2=[2,0]:=by decide
 have hO:kf ⟨P4++[ax.mk (SL [2,0]) 0 5 (-1) (-1)]⟩ [5] [[2,0]] [5] 3 2=some ([2,0],0):=by
  rw [T.S4 (by simp) (fun r hr=>by simp at hr; subst hr; exact ⟨by simp,wf20⟩) (by simp)]
  unfold RI
  rw [if_pos (TU (by omega) (by simp) (Xz (by omega))),if_neg (by simp),if_neg (by simp),if_pos]
  ·rw [← hT]; rfl
  ·intro i x hx
   match i with
   | 0 =>
    simp at hx; subst hx
    exact ⟨hsd2,_,rfl,rfl,rfl,rfl⟩
   | i+1=>simp at hx
 have hD:iS ⟨P4++[ax.mk (SL [2,0]) 0 5 (-1) (-1)]⟩ [5] [[2,0]] [5] [0,1,2] 2=some ([2,0],0):=by
  unfold iS
  rw [show (([0,1,2]:List Int).length:Int)=3 by rfl,hO]
  simp only [Option.bind_some]
  rw [if_neg (by decide),yi (by decide)]
  simp only [Option.bind_some]
  rw [if_neg (by decide),show mX [2,0] 3=some ([2,0],0) by kernel_rfl]
  simp only [Option.bind_some]
  rw [show a8 (nc [0,1,2] ([2,0],0)) (0,[])=some [2,0] by kernel_rfl]
  rfl
 have c1:aN [⟨1,⟨K2 19,K2 21⟩⟩]=some false:=by kernel_rfl
 have c2:aN []=some false:=by kernel_rfl
 have c3:aN [⟨1,⟨K2 19,K2 21⟩⟩,⟨1,⟨K2 21,K2 22⟩⟩]=some false:=by kernel_rfl
 have s1:=z6 (asked:=[1]) (n:=20) (ms:=[⟨1,⟨K2 19,K2 21⟩⟩]) (out:=[]) (want:=[]) c1 (by decide) (by decide) (by kernel_rfl) rfl (by decide)
 have s2:=z6 (asked:=[1,2]) (n:=20) (ms:=[]) (out:=[⟨2,0⟩]) (want:=[⟨2,0⟩]) c2 (by decide) (by decide) (by kernel_rfl) rfl (by decide)
 have s3:=z6 (asked:=[1]) (n:=21) (ms:=[]) (out:=[⟨1,1⟩]) (want:=[⟨1,1⟩]) c2 (by decide) (by decide) (by kernel_rfl) rfl (by decide)
 have s4:=z6 (asked:=[1]) (n:=20) (ms:=[⟨1,⟨K2 19,K2 21⟩⟩,⟨1,⟨K2 21,K2 22⟩⟩]) (out:=[⟨1,2⟩]) (want:=[⟨1,2⟩]) c3 (by decide) (by decide) (by kernel_rfl) rfl (by decide)
 have j1:=IP (asked:=[1,1]) (ops:=[]) (ms:=[]) (b:=true) (out:=[]) c2 (by decide) (by decide) (fun h=>by cases h)
 have hI:gi [0,1,2] [0,1,2]=some true:=by kernel_rfl
 have hI2:gi [2,0] [2,0]=some true:=by kernel_rfl
 unfold lq
 rw [Q8]
 simp only [Option.bind_some]
 rw [if_neg (by decide),if_neg (by decide),hI]
 simp only [Option.bind_some,Bool.not_true,Bool.false_eq_true,if_false]
 rw [Bq.1,Bq.2]
 simp only [Option.bind_some]
 rw [s1,s2,s3,s4,j1,T.M0 wf20 (by simp)]
 simp only [Option.bind_some,if_true]
 rw [hL]
 simp only [Option.bind_some]
 rw [show ((P4.length:Nat):Int)=5 by rfl,hD]
 simp only [Option.bind_some]
 rw [if_pos (by decide),if_pos (by decide),if_pos (by decide),hI2]
 rfl
end Go.Proofs.YtpkahnkoecbndaaGreatDoor.P
namespace Go.Proofs.YtpkahnkoecbndaaGreatDoor.P
open Go.RowKit T
set_option linter.unusedSimpArgs false
set_option linter.unusedVariables false
theorem Qo {ops:List aG} (hl:ops.length<4611686018427387904) (leaf:Int):lp ops leaf=some (ops.find? fun x=>x.bn==leaf).toList:=by
 unfold lp
 rw [FW ops (fun i x=>if (x.bn==leaf:Bool) then some [x] else none) hl (fun i x hx=>by
  have hi:=(List.getElem?_eq_some_iff.1 hx).1
  simp only [mE]
  rw [if_pos (by simp; omega),fi hx]
  simp only [Option.bind_some]
  by_cases h:(x.bn==leaf)=true
  ·rw [if_pos h,if_pos h]
  ·rw [if_neg h,if_neg h,eR (by omega)]) (by simp only [mE]; rw [if_neg (by simp)])]
 simp only [Option.bind_some]
 have key : ∀ (l:List aG) (k:Nat),fK (fun i x=>if (x.bn==leaf:Bool) then some [x] else none) k l=(l.find? fun x=>x.bn==leaf).map fun x=>[x]:=by
  intro l
  induction l with
  | nil=>intro k; rfl
  | cons x l ih =>
   intro k
   simp only [fK]
   by_cases h:(x.bn==leaf)=true
   ·rw [if_pos h,List.find?_cons_of_pos (p:=fun x:aG=>x.bn==leaf) h]; rfl
   ·rw [if_neg h,List.find?_cons_of_neg (p:=fun x:aG=>x.bn==leaf) h]; exact ih (k+1)
 rw [key]
 cases ops.find? fun x=>x.bn==leaf <;> rfl
theorem RJ {asked:List Int} {ms:List az} {i:Nat} {leaf:Int} (hl:ms.length≤1000) (hx:asked[i]? = some leaf) :
  a8 (eT asked ms (i:Int)) (IntKind.i64.wrap ((ms.length:Int) - 1),[])=some (ms.filter fun m=>m.bn==leaf).reverse:=by
 have hloop:=F3 (body:=eT asked ms (i:Int)) ms.length (fun k=>((ms.length:Int) - 1 - k,((ms.drop (ms.length - k)).filter fun m=>m.bn==leaf).reverse)) (r:=(ms.filter fun m=>m.bn==leaf).reverse) (by omega) (fun k hk=>by
   have e1:ms.length - k=(ms.length - (k+1))+1:=by omega
   have hm:ms[ms.length - (k+1)]? = some (ms[ms.length - (k+1)]'(by omega)):=List.getElem?_eq_getElem _
   have hI:(ms.length:Int) - 1 - (k:Nat)=((ms.length - (k+1):Nat):Int):=by omega
   have hd:ms.drop (ms.length - (k+1))=(ms[ms.length - (k+1)]'(by omega))::ms.drop (ms.length - k):=by rw [e1]; exact List.drop_eq_getElem_cons (by omega)
   simp only [eT]
   rw [if_pos (by simp; omega),hI,fi hm,fi hx]
   simp only [Option.bind_some]
   have hw:IntKind.i64.wrap (((ms.length - (k+1):Nat):Int) - 1)=(ms.length:Int) - 1 - ((k+1:Nat):Int):=by rw [wrap64 (by omega) (by omega)]; omega
   rw [hw,hd]
   generalize ms[ms.length - (k+1)]'(by omega)=m
   by_cases h:(m.bn==leaf)=true
   ·rw [if_pos h,Gf (by
     have:=List.length_filter_le (fun m:az=>m.bn==leaf) (ms.drop (ms.length - k))
     simp only [List.length_reverse,List.length_cons,List.length_nil]
     simp only [List.length_drop] at this
     omega) (by decide)]
    simp only [Option.bind_some,List.filter_cons,h,if_true,List.reverse_cons]
   ·rw [if_neg h]
    simp only [List.filter_cons,h,Bool.false_eq_true,if_false]) (by
   simp only [eT]
   rw [if_neg (by simp; omega),Nat.sub_self,List.drop_zero])
 have h0:IntKind.i64.wrap ((ms.length:Int) - 1)=(ms.length:Int) - 1:=wrap64 (by omega) (by omega)
 rw [h0]
 have e2:((ms.length:Int) - 1 - ((0:Nat):Int),((ms.drop (ms.length - 0)).filter fun m=>m.bn==leaf).reverse)=((ms.length:Int) - 1,[]):=by
  rw [Nat.sub_zero,List.drop_length]; simp
 rw [← e2]
 exact hloop
theorem Au {α:Type} (p q:α→Bool) (l:List α):(l.filter p).reverse.any (fun m=>p m&&q m)=l.any fun m=>p m&&q m:=by
 rw [List.any_reverse,List.any_filter]
 congr 1
 funext m
 cases p m <;> simp
theorem TC (ms:List az) (leaf value:Int):off (ms.filter fun m=>m.bn==leaf).reverse leaf value=off ms leaf value:=Au _ _ ms
theorem Mm (l:List ax) (root total blind leaf:Int) (ops:List aG) (ms:List az) :
  mR l root total blind leaf (ops.find? fun x=>x.bn==leaf).toList (ms.filter fun m=>m.bn==leaf).reverse=mR l root total blind leaf ops ms:=by
 unfold mR
 cases h:ops.find? fun x=>x.bn==leaf with
 | none=>rfl
 | some x =>
  have hx:=List.find?_some h
  simp only [Option.toList_some,TC]
  rw [List.find?_cons_of_pos (p:=fun x:aG=>x.bn==leaf) hx]
theorem Pd (l:List ax) (root total blind leaf:Int) (ops:List aG) (ms:List az) :
  ik l root total blind (ops.find? fun x=>x.bn==leaf).toList (ms.filter fun m=>m.bn==leaf).reverse leaf=ik l root total blind ops ms leaf:=by
 unfold ik
 rw [Mm]
end Go.Proofs.YtpkahnkoecbndaaGreatDoor.P
