/- The machine computes the plain functions (written by wip/dec.py). -/
import Derived.Test.YtoclpeomlofcjaaDmc
namespace Go.Proofs.Ytoclpeomlofcjaa.Am
open Go.RowKit Go.Proofs.Ytoclpeomlofcjaa.P
set_option maxRecDepth 100000
set_option maxHeartbeats 4000000
set_option linter.unusedSimpArgs false
set_option linter.unusedVariables false

noncomputable def G_l44_BridgeSums := mkG (asC (aSl eTFrac) (asC (aSl eTFrac) (asC (aAgg eTFrac) (asC (aI .u8) (as1 (aI .u8)))))) (fun x : (List TFrac) × (List TFrac) × TFrac × Int × Int => l44_BridgeSums x.1 x.2.1 x.2.2.1 x.2.2.2.1 x.2.2.2.2) (fun r : Bool => .clean (.bool r))

theorem q_l44_BridgeSums (p0 : (List TFrac)) (p1 : (List TFrac)) (p2_0 : Int) (p2_1 : (List Int)) (p2_2 : Int) (p2_3 : (List Int)) (p3 : Int) (p4 : Int) : G_l44_BridgeSums none [.sl false false p0.length (encL eTFrac p0), .sl false false p1.length (encL eTFrac p1), .agg [.int .i64 p2_0, .sl false false p2_1.length (encL (eI .i64) p2_1), .int .i64 p2_2, .sl false false p2_3.length (encL (eI .i64) p2_3)], .int .u8 p3, .int .u8 p4] = (l44_BridgeSums p0 p1 (TFrac.mk (TBig.mk p2_0 p2_1) (TBig.mk p2_2 p2_3)) p3 p4).map fun r : Bool => (.clean (.bool r), none) := mkG_eq _ _ _ (p0, p1, (TFrac.mk (TBig.mk p2_0 p2_1) (TBig.mk p2_2 p2_3)), p3, p4)

noncomputable def g_l44_BridgeSums : Env := (Am.ext (Am.ext (Am.ext (Am.ext (Am.ext (Am.ext (Am.ext noEnv 13 false G_l44_small) 14 false G_l44_edits) 16 false G_bridge_Shares) 19 false G_r05_Same) 23 false G_r05_Few) 24 false G_frac_Right) 25 false G_frac_Add)

theorem ge_l44_BridgeSums : GOk Try.prog g_l44_BridgeSums := (((((((GOk.none.add ok_l44_small false).add ok_l44_edits false).add ok_bridge_Shares false).add ok_r05_Same false).add ok_r05_Few false).add ok_frac_Right false).add ok_frac_Add false)

theorem gg_l44_BridgeSums : g_l44_BridgeSums = (Am.ext (Am.ext (Am.ext (Am.ext (Am.ext (Am.ext (Am.ext noEnv 13 false G_l44_small) 14 false G_l44_edits) 16 false G_bridge_Shares) 19 false G_r05_Same) 23 false G_r05_Few) 24 false G_frac_Right) 25 false G_frac_Add) := Eq.trans rfl rfl

theorem x_l44_BridgeSums : type_of% (And.intro @w <| And.intro @q_l44_small <| And.intro @q_l44_edits <| And.intro @q_bridge_Shares <| And.intro @q_r05_Same <| And.intro @q_r05_Few <| And.intro @q_frac_Right <| And.intro @q_frac_Add <| @gg_l44_BridgeSums) := And.intro @w <| And.intro @q_l44_small <| And.intro @q_l44_edits <| And.intro @q_bridge_Shares <| And.intro @q_r05_Same <| And.intro @q_r05_Few <| And.intro @q_frac_Right <| And.intro @q_frac_Add <| @gg_l44_BridgeSums

theorem m_l44_BridgeSums (p0 : (List TFrac)) (p1 : (List TFrac)) (p2 : TFrac) (p3 : Int) (p4 : Int) (r : Bool) (hh : l44_BridgeSums p0 p1 p2 p3 p4 = some r) : vfunc .clean tab g_l44_BridgeSums FU Try.f4 none [.sl false false p0.length (encL eTFrac p0), .sl false false p1.length (encL eTFrac p1), .agg [.int .i64 p2.f_P.f_Sign, .sl false false p2.f_P.f_Digits.length (encL (eI .i64) p2.f_P.f_Digits), .int .i64 p2.f_Q.f_Sign, .sl false false p2.f_Q.f_Digits.length (encL (eI .i64) p2.f_Q.f_Digits)], .int .u8 p3, .int .u8 p4] = some (.clean (.bool r), none) := by
  refine vfunc_of rfl Try.ntmps4 Try.results4 ?_
  unfold l44_BridgeSums at hh
  obtain ⟨r1, hr1, hh⟩ := bindS hh
  obtain ⟨r2, hr2, hh⟩ := bindS hh
  try simp only [x_l44_BridgeSums, seval, -Int.reduceToNat, hr1, hr2]
  obtain ⟨o3, ho3, hh⟩ := bindS hh
  refine tstO_cut 0 (fun s t H e => match s with | s53j1 => ∃ v7j1 : Nat, t 0 = .sl false false p0.length (encL eTFrac p0) ∧ t 1 = .sl false false p1.length (encL eTFrac p1) ∧ t 3 = .int .u8 p3 ∧ t 4 = .int .u8 p4 ∧ t 7 = .ptr 7 v7j1 0 ∧ t 11 = .bool r1 ∧ t 12 = .int .i64 r2 ∧ t 53 = .bool s53j1 ∧ H 7 = some ⟨v7j1, 34, [.int .i64 p2.f_P.f_Sign, .sl false false p2.f_P.f_Digits.length (encL (eI .i64) p2.f_P.f_Digits), .int .i64 p2.f_Q.f_Sign, .sl false false p2.f_Q.f_Digits.length (encL (eI .i64) p2.f_Q.f_Digits)], false, false⟩) (fun s => s = o3) ?_ ?_
  · rintro s53j1 t H e ⟨v7j1, t0j1, t1j1, t3j1, t4j1, t7j1, t11j1, t12j1, t53j1, H7j1⟩ rfl
    try dsimp only at hh
    try simp only [x_l44_BridgeSums, seval, -Int.reduceToNat, hr1, hr2, t0j1, t1j1, t3j1, t4j1, t7j1, t11j1, t12j1, t53j1, H7j1]
    refine tstC_br (fun hb4 => ?_) (fun hb4 => ?_)
    · replace hh := ite_t hb4 hh
      cases hh
      try simp only [x_l44_BridgeSums, seval, -Int.reduceToNat, hr1, hr2, t0j1, t1j1, t3j1, t4j1, t7j1, t11j1, t12j1, t53j1, H7j1]
    · replace hh := ite_f hb4 hh
      obtain ⟨x5, hx5, hh⟩ := bindS hh
      obtain ⟨q6a, q6b⟩ := modI_ok hx5
      obtain ⟨x7, hx7, hh⟩ := bindS hh
      obtain ⟨q8a, q8b⟩ := modI_ok hx7
      obtain ⟨r9, hr9, hh⟩ := bindS hh
      obtain ⟨r10, hr10, hh⟩ := bindS hh
      try simp only [x_l44_BridgeSums, seval, -Int.reduceToNat, hr1, hr2, t0j1, t1j1, t3j1, t4j1, t7j1, t11j1, t12j1, t53j1, H7j1, q6a, q6b, q8a, q8b, hr9, hr10]
      obtain ⟨o33, ho33, hh⟩ := bindS hh
      refine runLoop_sim (fun s t H e => match s with | (s21b, l19b, l20b) => ∃ v7b : Nat, ∃ v19b : Nat, ∃ v20b : Nat, t 0 = .sl false false p0.length (encL eTFrac p0) ∧ t 1 = .sl false false p1.length (encL eTFrac p1) ∧ t 7 = .ptr 7 v7b 0 ∧ t 11 = .bool r1 ∧ t 12 = .int .i64 r2 ∧ t 13 = .int .i64 x5 ∧ t 14 = .int .i64 x7 ∧ t 15 = .sl false false r9.1.length (encL eTFrac r9.1) ∧ t 16 = .int .i64 r9.2 ∧ t 17 = .sl false false r10.1.length (encL eTFrac r10.1) ∧ t 18 = .int .i64 r10.2 ∧ t 19 = .buf 19 v19b 4 0 (l19b).length ∧ t 20 = .buf 20 v20b 4 0 (l20b).length ∧ t 21 = .int .i64 s21b ∧ H 7 = some ⟨v7b, 34, [.int .i64 p2.f_P.f_Sign, .sl false false p2.f_P.f_Digits.length (encL (eI .i64) p2.f_P.f_Digits), .int .i64 p2.f_Q.f_Sign, .sl false false p2.f_Q.f_Digits.length (encL (eI .i64) p2.f_Q.f_Digits)], false, false⟩ ∧ H 19 = some ⟨v19b, 34, encL eTFrac l19b, false, true⟩ ∧ H 20 = some ⟨v20b, 34, encL eTFrac l20b, false, true⟩) (fun o x t H e => match o with | (l19bx, l20bx) => x = .exit 0 ∧ ∃ v19bx : Nat, ∃ v20bx : Nat, t 11 = .bool r1 ∧ t 12 = .int .i64 r2 ∧ t 13 = .int .i64 x5 ∧ t 14 = .int .i64 x7 ∧ t 15 = .sl false false r9.1.length (encL eTFrac r9.1) ∧ t 16 = .int .i64 r9.2 ∧ t 17 = .sl false false r10.1.length (encL eTFrac r10.1) ∧ t 18 = .int .i64 r10.2 ∧ t 19 = .buf 19 v19bx 4 0 (l19bx).length ∧ t 20 = .buf 20 v20bx 4 0 (l20bx).length ∧ H 19 = some ⟨v19bx, 34, encL eTFrac l19bx, false, true⟩ ∧ H 20 = some ⟨v20bx, 34, encL eTFrac l20bx, false, true⟩) ho33 ?_ ?_ ?_
      ·
        refine ⟨v7j1, e + 1 + 1 + 1 + 1, e + 1 + 1 + 1 + 1 + 1, ?_, ?_, ?_, ?_, ?_, ?_, ?_, ?_, ?_, ?_, ?_, ?_, ?_, ?_, ?_, ?_, ?_⟩
        all_goals (first | rfl | (simp only [x_l44_BridgeSums, seval, -Int.reduceToNat, hr1, hr2, t0j1, t1j1, t3j1, t4j1, t7j1, t11j1, t12j1, t53j1, H7j1, q6a, q6b, q8a, q8b, hr9, hr10] <;> rfl))
      · rintro ⟨s21b, l19b, l20b⟩ t H e ⟨v7b, v19b, v20b, t0b, t1b, t7b, t11b, t12b, t13b, t14b, t15b, t16b, t17b, t18b, t19b, t20b, t21b, H7b, H19b, H20b⟩ c hh
        simp only [l44_BridgeSums_L2] at hh
        try simp only [x_l44_BridgeSums, seval, -Int.reduceToNat, hr1, hr2, q6a, q6b, q8a, q8b, hr9, hr10, t0b, t1b, t7b, t11b, t12b, t13b, t14b, t15b, t16b, t17b, t18b, t19b, t20b, t21b, H7b, H19b, H20b]
        refine tstC_br (fun hb34 => ?_) (fun hb34 => ?_)
        · replace hh := ite_t hb34 hh
          obtain ⟨x35, hx35, hh⟩ := bindS hh
          have bx35 := idx_bd hx35
          have ax35 := idx_enc eTFrac hx35
          have fx35 := idx_fit eTFrac hx35
          simp only [vmz] at ax35 fx35
          skip
          obtain ⟨x36, hx36, hh⟩ := bindS hh
          have bx36 := idx_bd hx36
          have ax36 := idx_enc eTFrac hx36
          have fx36 := idx_fit eTFrac hx36
          simp only [vmz] at ax36 fx36
          skip
          obtain ⟨r37, hr37, hh⟩ := bindS hh
          try simp only [x_l44_BridgeSums, seval, -Int.reduceToNat, hr1, hr2, q6a, q6b, q8a, q8b, hr9, hr10, t0b, t1b, t7b, t11b, t12b, t13b, t14b, t15b, t16b, t17b, t18b, t19b, t20b, t21b, H7b, H19b, H20b, bx35, ax35, fx35, bx36, ax36, fx36, hr37]
          refine dyn_ok (by kernel_rfl) ?_
          obtain ⟨r38, hr38, hh⟩ := bindS hh
          obtain ⟨x39, hx39, hh⟩ := bindS hh
          obtain ⟨q40a, q40b, q40c, q40d⟩ := app_one eTFrac hx39
          simp only [vmz] at q40b
          obtain ⟨x41, hx41, hh⟩ := bindS hh
          obtain ⟨q42a, q42b⟩ := shlI_ok hx41
          obtain ⟨x43, hx43, hh⟩ := bindS hh
          obtain ⟨q44a, q44b⟩ := shlI_ok hx43
          try simp only [x_l44_BridgeSums, seval, -Int.reduceToNat, hr1, hr2, q6a, q6b, q8a, q8b, hr9, hr10, t0b, t1b, t7b, t11b, t12b, t13b, t14b, t15b, t16b, t17b, t18b, t19b, t20b, t21b, H7b, H19b, H20b, bx35, ax35, fx35, bx36, ax36, fx36, hr37, hr38, q40a, q40b, q40c, q40d, q42a, q42b, q44a, q44b]
          refine dyn_ok (by kernel_rfl) ?_
          obtain ⟨x45, hx45, hh⟩ := bindS hh
          obtain ⟨q46a, q46b⟩ := shrI_ok hx45
          obtain ⟨x47, hx47, hh⟩ := bindS hh
          obtain ⟨q48a, q48b⟩ := shlI_ok hx47
          obtain ⟨x49, hx49, hh⟩ := bindS hh
          obtain ⟨q50a, q50b⟩ := shrI_ok hx49
          obtain ⟨x51, hx51, hh⟩ := bindS hh
          obtain ⟨q52a, q52b⟩ := shlI_ok hx51
          obtain ⟨x53, hx53, hh⟩ := bindS hh
          have bx53 := idx_bd hx53
          have ax53 := idx_enc eTFrac hx53
          have fx53 := idx_fit eTFrac hx53
          simp only [vmz] at ax53 fx53
          skip
          obtain ⟨x54, hx54, hh⟩ := bindS hh
          obtain ⟨q55a, q55b, q55c, q55d⟩ := app_one eTFrac hx54
          simp only [vmz] at q55b
          try simp only [x_l44_BridgeSums, seval, -Int.reduceToNat, hr1, hr2, q6a, q6b, q8a, q8b, hr9, hr10, t0b, t1b, t7b, t11b, t12b, t13b, t14b, t15b, t16b, t17b, t18b, t19b, t20b, t21b, H7b, H19b, H20b, bx35, ax35, fx35, bx36, ax36, fx36, hr37, hr38, q40a, q40b, q40c, q40d, q42a, q42b, q44a, q44b, q46a, q46b, q48a, q48b, q50a, q50b, q52a, q52b, bx53, ax53, fx53, q55a, q55b, q55c, q55d]
          refine dyn_ok (by kernel_rfl) ?_
          cases hh
          try simp only [x_l44_BridgeSums, seval, -Int.reduceToNat, hr1, hr2, q6a, q6b, q8a, q8b, hr9, hr10, t0b, t1b, t7b, t11b, t12b, t13b, t14b, t15b, t16b, t17b, t18b, t19b, t20b, t21b, H7b, H19b, H20b, bx35, ax35, fx35, bx36, ax36, fx36, hr37, hr38, q40a, q40b, q40c, q40d, q42a, q42b, q44a, q44b, q46a, q46b, q48a, q48b, q50a, q50b, q52a, q52b, bx53, ax53, fx53, q55a, q55b, q55c, q55d]
          rw [LK_normal]
          refine ⟨_, rfl, ?_⟩
          refine ⟨v7b, e + 1 + 1 + 1, e + 1 + 1 + 1 + 1 + 1, ?_, ?_, ?_, ?_, ?_, ?_, ?_, ?_, ?_, ?_, ?_, ?_, ?_, ?_, ?_, ?_, ?_⟩
          all_goals (first | rfl | (simp only [x_l44_BridgeSums, seval, -Int.reduceToNat, hr1, hr2, q6a, q6b, q8a, q8b, hr9, hr10, t0b, t1b, t7b, t11b, t12b, t13b, t14b, t15b, t16b, t17b, t18b, t19b, t20b, t21b, H7b, H19b, H20b, bx35, ax35, fx35, bx36, ax36, fx36, hr37, hr38, q40a, q40b, q40c, q40d, q42a, q42b, q44a, q44b, q46a, q46b, q48a, q48b, q50a, q50b, q52a, q52b, bx53, ax53, fx53, q55a, q55b, q55c, q55d] <;> rfl))
        · replace hh := ite_f hb34 hh
          cases hh
          try simp only [x_l44_BridgeSums, seval, -Int.reduceToNat, hr1, hr2, q6a, q6b, q8a, q8b, hr9, hr10, t0b, t1b, t7b, t11b, t12b, t13b, t14b, t15b, t16b, t17b, t18b, t19b, t20b, t21b, H7b, H19b, H20b]
          rw [LK_exit]
          refine ⟨_, rfl, ?_⟩
          refine ⟨rfl, ⟨v19b, v20b, ?_, ?_, ?_, ?_, ?_, ?_, ?_, ?_, ?_, ?_, ?_, ?_⟩⟩
          all_goals (first | rfl | (simp only [x_l44_BridgeSums, seval, -Int.reduceToNat, hr1, hr2, q6a, q6b, q8a, q8b, hr9, hr10, t0b, t1b, t7b, t11b, t12b, t13b, t14b, t15b, t16b, t17b, t18b, t19b, t20b, t21b, H7b, H19b, H20b] <;> rfl))
      · rintro x t H e hx
        rcases o33 with ⟨l19bx, l20bx⟩
        dsimp only at hx hh
        obtain ⟨rfl, ⟨v19bx, v20bx, t11bx, t12bx, t13bx, t14bx, t15bx, t16bx, t17bx, t18bx, t19bx, t20bx, H19bx, H20bx⟩⟩ := hx
        obtain ⟨r56, hr56, hh⟩ := bindS hh
        obtain ⟨r57, hr57, hh⟩ := bindS hh
        try simp only [x_l44_BridgeSums, seval, -Int.reduceToNat, hr1, hr2, q6a, q6b, q8a, q8b, hr9, hr10, t11bx, t12bx, t13bx, t14bx, t15bx, t16bx, t17bx, t18bx, t19bx, t20bx, H19bx, H20bx, hr56, hr57]
        obtain ⟨o58, ho58, hh⟩ := bindS hh
        refine tstO_cut 0 (fun s t H e => match s with | s178j3 => t 11 = .bool r1 ∧ t 12 = .int .i64 r2 ∧ t 13 = .int .i64 x5 ∧ t 14 = .int .i64 x7 ∧ t 15 = .sl false false r9.1.length (encL eTFrac r9.1) ∧ t 17 = .sl false false r10.1.length (encL eTFrac r10.1) ∧ t 25 = .sl false false r56.1.length (encL eTFrac r56.1) ∧ t 27 = .sl false false r57.1.length (encL eTFrac r57.1) ∧ t 178 = .bool s178j3) (fun s => s = o58) ?_ ?_
        · rintro s178j3 t H e ⟨t11j3, t12j3, t13j3, t14j3, t15j3, t17j3, t25j3, t27j3, t178j3⟩ rfl
          try dsimp only at hh
          try simp only [x_l44_BridgeSums, seval, -Int.reduceToNat, hr1, hr2, q6a, q6b, q8a, q8b, hr9, hr10, hr56, hr57, t11j3, t12j3, t13j3, t14j3, t15j3, t17j3, t25j3, t27j3, t178j3]
          refine tstC_br (fun hb59 => ?_) (fun hb59 => ?_)
          · replace hh := ite_t hb59 hh
            cases hh
            try simp only [x_l44_BridgeSums, seval, -Int.reduceToNat, hr1, hr2, q6a, q6b, q8a, q8b, hr9, hr10, hr56, hr57, t11j3, t12j3, t13j3, t14j3, t15j3, t17j3, t25j3, t27j3, t178j3]
          · replace hh := ite_f hb59 hh
            try simp only [x_l44_BridgeSums, seval, -Int.reduceToNat, hr1, hr2, q6a, q6b, q8a, q8b, hr9, hr10, hr56, hr57, t11j3, t12j3, t13j3, t14j3, t15j3, t17j3, t25j3, t27j3, t178j3]
            obtain ⟨o74, ho74, hh⟩ := bindS hh
            refine runLoop_sim (fun s t H e => match s with | s29d => t 11 = .bool r1 ∧ t 12 = .int .i64 r2 ∧ t 13 = .int .i64 x5 ∧ t 14 = .int .i64 x7 ∧ t 15 = .sl false false r9.1.length (encL eTFrac r9.1) ∧ t 17 = .sl false false r10.1.length (encL eTFrac r10.1) ∧ t 25 = .sl false false r56.1.length (encL eTFrac r56.1) ∧ t 27 = .sl false false r57.1.length (encL eTFrac r57.1) ∧ t 29 = .int .i64 s29d) (fun o x t H e => match o with | (.inl _) => x = .exit 2 ∧ t 11 = .bool r1 | (.inr r) => x = .ret ∧ endM .clean tab none [.tmp 10] ⟨t, H, e⟩ = some (.clean (.bool r), none)) ho74 ?_ ?_ ?_
            ·
              refine ⟨?_, ?_, ?_, ?_, ?_, ?_, ?_, ?_, ?_⟩
              all_goals (first | rfl | (simp only [x_l44_BridgeSums, seval, -Int.reduceToNat, hr1, hr2, q6a, q6b, q8a, q8b, hr9, hr10, hr56, hr57, t11j3, t12j3, t13j3, t14j3, t15j3, t17j3, t25j3, t27j3, t178j3] <;> rfl))
            · rintro s29d t H e ⟨t11d, t12d, t13d, t14d, t15d, t17d, t25d, t27d, t29d⟩ c hh
              simp only [l44_BridgeSums_L4] at hh
              try simp only [x_l44_BridgeSums, seval, -Int.reduceToNat, hr1, hr2, q6a, q6b, q8a, q8b, hr9, hr10, hr56, hr57, t11d, t12d, t13d, t14d, t15d, t17d, t25d, t27d, t29d]
              refine tstC_br (fun hb75 => ?_) (fun hb75 => ?_)
              · replace hh := ite_t hb75 hh
                obtain ⟨x76, hx76, hh⟩ := bindS hh
                have bx76 := idx_bd hx76
                have ax76 := idx_enc eTFrac hx76
                have fx76 := idx_fit eTFrac hx76
                simp only [vmz] at ax76 fx76
                skip
                obtain ⟨x77, hx77, hh⟩ := bindS hh
                have bx77 := idx_bd hx77
                have ax77 := idx_enc eTFrac hx77
                have fx77 := idx_fit eTFrac hx77
                simp only [vmz] at ax77 fx77
                skip
                obtain ⟨r78, hr78, hh⟩ := bindS hh
                try simp only [x_l44_BridgeSums, seval, -Int.reduceToNat, hr1, hr2, q6a, q6b, q8a, q8b, hr9, hr10, hr56, hr57, t11d, t12d, t13d, t14d, t15d, t17d, t25d, t27d, t29d, bx76, ax76, fx76, bx77, ax77, fx77, hr78]
                refine dyn_ok (by kernel_rfl) ?_
                obtain ⟨x79, hx79, hh⟩ := bindS hh
                have bx79 := idx_bd hx79
                have ax79 := idx_enc eTFrac hx79
                have fx79 := idx_fit eTFrac hx79
                simp only [vmz] at ax79 fx79
                skip
                obtain ⟨r80, hr80, hh⟩ := bindS hh
                try simp only [x_l44_BridgeSums, seval, -Int.reduceToNat, hr1, hr2, q6a, q6b, q8a, q8b, hr9, hr10, hr56, hr57, t11d, t12d, t13d, t14d, t15d, t17d, t25d, t27d, t29d, bx76, ax76, fx76, bx77, ax77, fx77, hr78, bx79, ax79, fx79, hr80]
                refine dyn_ok (by kernel_rfl) ?_
                try simp only [x_l44_BridgeSums, seval, -Int.reduceToNat, hr1, hr2, q6a, q6b, q8a, q8b, hr9, hr10, hr56, hr57, t11d, t12d, t13d, t14d, t15d, t17d, t25d, t27d, t29d, bx76, ax76, fx76, bx77, ax77, fx77, hr78, bx79, ax79, fx79, hr80]
                refine tstC_br (fun hb81 => ?_) (fun hb81 => ?_)
                · replace hh := ite_t hb81 hh
                  cases hh
                  try simp only [x_l44_BridgeSums, seval, -Int.reduceToNat, hr1, hr2, q6a, q6b, q8a, q8b, hr9, hr10, hr56, hr57, t11d, t12d, t13d, t14d, t15d, t17d, t25d, t27d, t29d, bx76, ax76, fx76, bx77, ax77, fx77, hr78, bx79, ax79, fx79, hr80]
                  rw [LK_ret]
                  refine ⟨_, rfl, ?_⟩
                  refine ⟨rfl, ?_⟩
                  try simp only [x_l44_BridgeSums, seval, -Int.reduceToNat, hr1, hr2, q6a, q6b, q8a, q8b, hr9, hr10, hr56, hr57, t11d, t12d, t13d, t14d, t15d, t17d, t25d, t27d, t29d, bx76, ax76, fx76, bx77, ax77, fx77, hr78, bx79, ax79, fx79, hr80]
                · replace hh := ite_f hb81 hh
                  try simp only [x_l44_BridgeSums, seval, -Int.reduceToNat, hr1, hr2, q6a, q6b, q8a, q8b, hr9, hr10, hr56, hr57, t11d, t12d, t13d, t14d, t15d, t17d, t25d, t27d, t29d, bx76, ax76, fx76, bx77, ax77, fx77, hr78, bx79, ax79, fx79, hr80]
                  obtain ⟨o82, ho82, hh⟩ := bindS hh
                  refine tstC_cut 0 (fun s t H e => match s with | s32j6 => t 11 = .bool r1 ∧ t 12 = .int .i64 r2 ∧ t 13 = .int .i64 x5 ∧ t 14 = .int .i64 x7 ∧ t 15 = .sl false false r9.1.length (encL eTFrac r9.1) ∧ t 17 = .sl false false r10.1.length (encL eTFrac r10.1) ∧ t 25 = .sl false false r56.1.length (encL eTFrac r56.1) ∧ t 27 = .sl false false r57.1.length (encL eTFrac r57.1) ∧ t 29 = .int .i64 s29d ∧ t 32 = .int .i64 s32j6) (fun s => s = o82) ?_ ?_
                  · rintro s32j6 t H e ⟨t11j6, t12j6, t13j6, t14j6, t15j6, t17j6, t25j6, t27j6, t29j6, t32j6⟩ rfl
                    try dsimp only at hh
                    obtain ⟨x83, hx83, hh⟩ := bindS hh
                    have bx83 := idx_bd hx83
                    have ax83 := idx_enc eTFrac hx83
                    have fx83 := idx_fit eTFrac hx83
                    simp only [vmz] at ax83 fx83
                    skip
                    obtain ⟨x84, hx84, hh⟩ := bindS hh
                    have bx84 := idx_bd hx84
                    have ax84 := idx_enc eTFrac hx84
                    have fx84 := idx_fit eTFrac hx84
                    simp only [vmz] at ax84 fx84
                    skip
                    obtain ⟨r85, hr85, hh⟩ := bindS hh
                    try simp only [x_l44_BridgeSums, seval, -Int.reduceToNat, hr1, hr2, q6a, q6b, q8a, q8b, hr9, hr10, hr56, hr57, bx76, ax76, fx76, bx77, ax77, fx77, hr78, bx79, ax79, fx79, hr80, t11j6, t12j6, t13j6, t14j6, t15j6, t17j6, t25j6, t27j6, t29j6, t32j6, bx83, ax83, fx83, bx84, ax84, fx84, hr85]
                    refine dyn_ok (by kernel_rfl) ?_
                    try simp only [x_l44_BridgeSums, seval, -Int.reduceToNat, hr1, hr2, q6a, q6b, q8a, q8b, hr9, hr10, hr56, hr57, bx76, ax76, fx76, bx77, ax77, fx77, hr78, bx79, ax79, fx79, hr80, t11j6, t12j6, t13j6, t14j6, t15j6, t17j6, t25j6, t27j6, t29j6, t32j6, bx83, ax83, fx83, bx84, ax84, fx84, hr85]
                    refine tstC_br (fun hb86 => ?_) (fun hb86 => ?_)
                    · replace hh := ite_t hb86 hh
                      cases hh
                      try simp only [x_l44_BridgeSums, seval, -Int.reduceToNat, hr1, hr2, q6a, q6b, q8a, q8b, hr9, hr10, hr56, hr57, bx76, ax76, fx76, bx77, ax77, fx77, hr78, bx79, ax79, fx79, hr80, t11j6, t12j6, t13j6, t14j6, t15j6, t17j6, t25j6, t27j6, t29j6, t32j6, bx83, ax83, fx83, bx84, ax84, fx84, hr85]
                      rw [LK_ret]
                      refine ⟨_, rfl, ?_⟩
                      refine ⟨rfl, ?_⟩
                      try simp only [x_l44_BridgeSums, seval, -Int.reduceToNat, hr1, hr2, q6a, q6b, q8a, q8b, hr9, hr10, hr56, hr57, bx76, ax76, fx76, bx77, ax77, fx77, hr78, bx79, ax79, fx79, hr80, t11j6, t12j6, t13j6, t14j6, t15j6, t17j6, t25j6, t27j6, t29j6, t32j6, bx83, ax83, fx83, bx84, ax84, fx84, hr85]
                    · replace hh := ite_f hb86 hh
                      cases hh
                      try simp only [x_l44_BridgeSums, seval, -Int.reduceToNat, hr1, hr2, q6a, q6b, q8a, q8b, hr9, hr10, hr56, hr57, bx76, ax76, fx76, bx77, ax77, fx77, hr78, bx79, ax79, fx79, hr80, t11j6, t12j6, t13j6, t14j6, t15j6, t17j6, t25j6, t27j6, t29j6, t32j6, bx83, ax83, fx83, bx84, ax84, fx84, hr85]
                      rw [LK_normal]
                      refine ⟨_, rfl, ?_⟩
                      refine ⟨?_, ?_, ?_, ?_, ?_, ?_, ?_, ?_, ?_⟩
                      all_goals (first | rfl | (simp only [x_l44_BridgeSums, seval, -Int.reduceToNat, hr1, hr2, q6a, q6b, q8a, q8b, hr9, hr10, hr56, hr57, bx76, ax76, fx76, bx77, ax77, fx77, hr78, bx79, ax79, fx79, hr80, t11j6, t12j6, t13j6, t14j6, t15j6, t17j6, t25j6, t27j6, t29j6, t32j6, bx83, ax83, fx83, bx84, ax84, fx84, hr85] <;> rfl))
                  ·
                    clear hh
                    have hh := ho82
                    try simp only [x_l44_BridgeSums, seval, -Int.reduceToNat, hr1, hr2, q6a, q6b, q8a, q8b, hr9, hr10, hr56, hr57, t11d, t12d, t13d, t14d, t15d, t17d, t25d, t27d, t29d, bx76, ax76, fx76, bx77, ax77, fx77, hr78, bx79, ax79, fx79, hr80]
                    refine tstC_br (fun hb87 => ?_) (fun hb87 => ?_)
                    · replace hh := ite_t hb87 hh
                      cases hh
                      try simp only [x_l44_BridgeSums, seval, -Int.reduceToNat, hr1, hr2, q6a, q6b, q8a, q8b, hr9, hr10, hr56, hr57, t11d, t12d, t13d, t14d, t15d, t17d, t25d, t27d, t29d, bx76, ax76, fx76, bx77, ax77, fx77, hr78, bx79, ax79, fx79, hr80]
                      rw [CK_normal]
                      refine ⟨_, rfl, ?_⟩
                      refine ⟨?_, ?_, ?_, ?_, ?_, ?_, ?_, ?_, ?_, ?_⟩
                      all_goals (first | rfl | (simp only [x_l44_BridgeSums, seval, -Int.reduceToNat, hr1, hr2, q6a, q6b, q8a, q8b, hr9, hr10, hr56, hr57, t11d, t12d, t13d, t14d, t15d, t17d, t25d, t27d, t29d, bx76, ax76, fx76, bx77, ax77, fx77, hr78, bx79, ax79, fx79, hr80] <;> rfl))
                    · replace hh := ite_f hb87 hh
                      try simp only [x_l44_BridgeSums, seval, -Int.reduceToNat, hr1, hr2, q6a, q6b, q8a, q8b, hr9, hr10, hr56, hr57, t11d, t12d, t13d, t14d, t15d, t17d, t25d, t27d, t29d, bx76, ax76, fx76, bx77, ax77, fx77, hr78, bx79, ax79, fx79, hr80]
                      refine tstC_br (fun hb88 => ?_) (fun hb88 => ?_)
                      · replace hh := ite_t hb88 hh
                        cases hh
                        try simp only [x_l44_BridgeSums, seval, -Int.reduceToNat, hr1, hr2, q6a, q6b, q8a, q8b, hr9, hr10, hr56, hr57, t11d, t12d, t13d, t14d, t15d, t17d, t25d, t27d, t29d, bx76, ax76, fx76, bx77, ax77, fx77, hr78, bx79, ax79, fx79, hr80]
                        rw [CK_normal]
                        refine ⟨_, rfl, ?_⟩
                        refine ⟨?_, ?_, ?_, ?_, ?_, ?_, ?_, ?_, ?_, ?_⟩
                        all_goals (first | rfl | (simp only [x_l44_BridgeSums, seval, -Int.reduceToNat, hr1, hr2, q6a, q6b, q8a, q8b, hr9, hr10, hr56, hr57, t11d, t12d, t13d, t14d, t15d, t17d, t25d, t27d, t29d, bx76, ax76, fx76, bx77, ax77, fx77, hr78, bx79, ax79, fx79, hr80] <;> rfl))
                      · replace hh := ite_f hb88 hh
                        cases hh
                        try simp only [x_l44_BridgeSums, seval, -Int.reduceToNat, hr1, hr2, q6a, q6b, q8a, q8b, hr9, hr10, hr56, hr57, t11d, t12d, t13d, t14d, t15d, t17d, t25d, t27d, t29d, bx76, ax76, fx76, bx77, ax77, fx77, hr78, bx79, ax79, fx79, hr80]
                        rw [CK_normal]
                        refine ⟨_, rfl, ?_⟩
                        refine ⟨?_, ?_, ?_, ?_, ?_, ?_, ?_, ?_, ?_, ?_⟩
                        all_goals (first | rfl | (simp only [x_l44_BridgeSums, seval, -Int.reduceToNat, hr1, hr2, q6a, q6b, q8a, q8b, hr9, hr10, hr56, hr57, t11d, t12d, t13d, t14d, t15d, t17d, t25d, t27d, t29d, bx76, ax76, fx76, bx77, ax77, fx77, hr78, bx79, ax79, fx79, hr80] <;> rfl))
              · replace hh := ite_f hb75 hh
                cases hh
                try simp only [x_l44_BridgeSums, seval, -Int.reduceToNat, hr1, hr2, q6a, q6b, q8a, q8b, hr9, hr10, hr56, hr57, t11d, t12d, t13d, t14d, t15d, t17d, t25d, t27d, t29d]
                rw [LK_exit]
                refine ⟨_, rfl, ?_⟩
                refine ⟨rfl, ?_⟩
                all_goals (first | rfl | (simp only [x_l44_BridgeSums, seval, -Int.reduceToNat, hr1, hr2, q6a, q6b, q8a, q8b, hr9, hr10, hr56, hr57, t11d, t12d, t13d, t14d, t15d, t17d, t25d, t27d, t29d] <;> rfl))
            · rintro x t H e hx
              rcases o74 with _ | rd
              ·
                dsimp only at hx hh
                obtain ⟨rfl, t11dx⟩ := hx
                cases hh
                try simp only [x_l44_BridgeSums, seval, -Int.reduceToNat, hr1, hr2, q6a, q6b, q8a, q8b, hr9, hr10, hr56, hr57, t11dx]
              ·
                dsimp only at hx hh
                obtain ⟨rfl, hE⟩ := hx
                cases hh
                try simp only [runW_pass_ret, runW_pass_exit, runW_blk_ret, runW_nil, endW_ret]
                exact hE
        ·
          clear hh
          have hh := ho58
          try simp only [x_l44_BridgeSums, seval, -Int.reduceToNat, hr1, hr2, q6a, q6b, q8a, q8b, hr9, hr10, t11bx, t12bx, t13bx, t14bx, t15bx, t16bx, t17bx, t18bx, t19bx, t20bx, H19bx, H20bx, hr56, hr57]
          refine tstO_br' (fun hb89 => ?_) (fun hb89 => ?_)
          · replace hh := ite_t hb89 hh
            cases hh
            try simp only [x_l44_BridgeSums, seval, -Int.reduceToNat, hr1, hr2, q6a, q6b, q8a, q8b, hr9, hr10, t11bx, t12bx, t13bx, t14bx, t15bx, t16bx, t17bx, t18bx, t19bx, t20bx, H19bx, H20bx, hr56, hr57]
            rw [CK_normal]
            refine ⟨_, rfl, ?_⟩
            refine ⟨?_, ?_, ?_, ?_, ?_, ?_, ?_, ?_, ?_⟩
            all_goals (first | rfl | (simp only [x_l44_BridgeSums, seval, -Int.reduceToNat, hr1, hr2, q6a, q6b, q8a, q8b, hr9, hr10, t11bx, t12bx, t13bx, t14bx, t15bx, t16bx, t17bx, t18bx, t19bx, t20bx, H19bx, H20bx, hr56, hr57] <;> rfl))
          · replace hh := ite_f hb89 hh
            try simp only [x_l44_BridgeSums, seval, -Int.reduceToNat, hr1, hr2, q6a, q6b, q8a, q8b, hr9, hr10, t11bx, t12bx, t13bx, t14bx, t15bx, t16bx, t17bx, t18bx, t19bx, t20bx, H19bx, H20bx, hr56, hr57]
            refine tstO_br' (fun hb90 => ?_) (fun hb90 => ?_)
            · replace hh := ite_t hb90 hh
              cases hh
              try simp only [x_l44_BridgeSums, seval, -Int.reduceToNat, hr1, hr2, q6a, q6b, q8a, q8b, hr9, hr10, t11bx, t12bx, t13bx, t14bx, t15bx, t16bx, t17bx, t18bx, t19bx, t20bx, H19bx, H20bx, hr56, hr57]
              rw [CK_normal]
              refine ⟨_, rfl, ?_⟩
              refine ⟨?_, ?_, ?_, ?_, ?_, ?_, ?_, ?_, ?_⟩
              all_goals (first | rfl | (simp only [x_l44_BridgeSums, seval, -Int.reduceToNat, hr1, hr2, q6a, q6b, q8a, q8b, hr9, hr10, t11bx, t12bx, t13bx, t14bx, t15bx, t16bx, t17bx, t18bx, t19bx, t20bx, H19bx, H20bx, hr56, hr57] <;> rfl))
            · replace hh := ite_f hb90 hh
              try simp only [x_l44_BridgeSums, seval, -Int.reduceToNat, hr1, hr2, q6a, q6b, q8a, q8b, hr9, hr10, t11bx, t12bx, t13bx, t14bx, t15bx, t16bx, t17bx, t18bx, t19bx, t20bx, H19bx, H20bx, hr56, hr57]
              refine tstO_br' (fun hb91 => ?_) (fun hb91 => ?_)
              · replace hh := ite_t hb91 hh
                cases hh
                try simp only [x_l44_BridgeSums, seval, -Int.reduceToNat, hr1, hr2, q6a, q6b, q8a, q8b, hr9, hr10, t11bx, t12bx, t13bx, t14bx, t15bx, t16bx, t17bx, t18bx, t19bx, t20bx, H19bx, H20bx, hr56, hr57]
                rw [CK_normal]
                refine ⟨_, rfl, ?_⟩
                refine ⟨?_, ?_, ?_, ?_, ?_, ?_, ?_, ?_, ?_⟩
                all_goals (first | rfl | (simp only [x_l44_BridgeSums, seval, -Int.reduceToNat, hr1, hr2, q6a, q6b, q8a, q8b, hr9, hr10, t11bx, t12bx, t13bx, t14bx, t15bx, t16bx, t17bx, t18bx, t19bx, t20bx, H19bx, H20bx, hr56, hr57] <;> rfl))
              · replace hh := ite_f hb91 hh
                try simp only [x_l44_BridgeSums, seval, -Int.reduceToNat, hr1, hr2, q6a, q6b, q8a, q8b, hr9, hr10, t11bx, t12bx, t13bx, t14bx, t15bx, t16bx, t17bx, t18bx, t19bx, t20bx, H19bx, H20bx, hr56, hr57]
                refine tstO_br' (fun hb92 => ?_) (fun hb92 => ?_)
                · replace hh := ite_t hb92 hh
                  cases hh
                  try simp only [x_l44_BridgeSums, seval, -Int.reduceToNat, hr1, hr2, q6a, q6b, q8a, q8b, hr9, hr10, t11bx, t12bx, t13bx, t14bx, t15bx, t16bx, t17bx, t18bx, t19bx, t20bx, H19bx, H20bx, hr56, hr57]
                  rw [CK_normal]
                  refine ⟨_, rfl, ?_⟩
                  refine ⟨?_, ?_, ?_, ?_, ?_, ?_, ?_, ?_, ?_⟩
                  all_goals (first | rfl | (simp only [x_l44_BridgeSums, seval, -Int.reduceToNat, hr1, hr2, q6a, q6b, q8a, q8b, hr9, hr10, t11bx, t12bx, t13bx, t14bx, t15bx, t16bx, t17bx, t18bx, t19bx, t20bx, H19bx, H20bx, hr56, hr57] <;> rfl))
                · replace hh := ite_f hb92 hh
                  try simp only [x_l44_BridgeSums, seval, -Int.reduceToNat, hr1, hr2, q6a, q6b, q8a, q8b, hr9, hr10, t11bx, t12bx, t13bx, t14bx, t15bx, t16bx, t17bx, t18bx, t19bx, t20bx, H19bx, H20bx, hr56, hr57]
                  refine tstO_br' (fun hb93 => ?_) (fun hb93 => ?_)
                  · replace hh := ite_t hb93 hh
                    cases hh
                    try simp only [x_l44_BridgeSums, seval, -Int.reduceToNat, hr1, hr2, q6a, q6b, q8a, q8b, hr9, hr10, t11bx, t12bx, t13bx, t14bx, t15bx, t16bx, t17bx, t18bx, t19bx, t20bx, H19bx, H20bx, hr56, hr57]
                    rw [CK_normal]
                    refine ⟨_, rfl, ?_⟩
                    refine ⟨?_, ?_, ?_, ?_, ?_, ?_, ?_, ?_, ?_⟩
                    all_goals (first | rfl | (simp only [x_l44_BridgeSums, seval, -Int.reduceToNat, hr1, hr2, q6a, q6b, q8a, q8b, hr9, hr10, t11bx, t12bx, t13bx, t14bx, t15bx, t16bx, t17bx, t18bx, t19bx, t20bx, H19bx, H20bx, hr56, hr57] <;> rfl))
                  · replace hh := ite_f hb93 hh
                    try simp only [x_l44_BridgeSums, seval, -Int.reduceToNat, hr1, hr2, q6a, q6b, q8a, q8b, hr9, hr10, t11bx, t12bx, t13bx, t14bx, t15bx, t16bx, t17bx, t18bx, t19bx, t20bx, H19bx, H20bx, hr56, hr57]
                    refine tstO_br' (fun hb94 => ?_) (fun hb94 => ?_)
                    · replace hh := ite_t hb94 hh
                      cases hh
                      try simp only [x_l44_BridgeSums, seval, -Int.reduceToNat, hr1, hr2, q6a, q6b, q8a, q8b, hr9, hr10, t11bx, t12bx, t13bx, t14bx, t15bx, t16bx, t17bx, t18bx, t19bx, t20bx, H19bx, H20bx, hr56, hr57]
                      rw [CK_normal]
                      refine ⟨_, rfl, ?_⟩
                      refine ⟨?_, ?_, ?_, ?_, ?_, ?_, ?_, ?_, ?_⟩
                      all_goals (first | rfl | (simp only [x_l44_BridgeSums, seval, -Int.reduceToNat, hr1, hr2, q6a, q6b, q8a, q8b, hr9, hr10, t11bx, t12bx, t13bx, t14bx, t15bx, t16bx, t17bx, t18bx, t19bx, t20bx, H19bx, H20bx, hr56, hr57] <;> rfl))
                    · replace hh := ite_f hb94 hh
                      try simp only [x_l44_BridgeSums, seval, -Int.reduceToNat, hr1, hr2, q6a, q6b, q8a, q8b, hr9, hr10, t11bx, t12bx, t13bx, t14bx, t15bx, t16bx, t17bx, t18bx, t19bx, t20bx, H19bx, H20bx, hr56, hr57]
                      refine tstO_br' (fun hb95 => ?_) (fun hb95 => ?_)
                      · replace hh := ite_t hb95 hh
                        cases hh
                        try simp only [x_l44_BridgeSums, seval, -Int.reduceToNat, hr1, hr2, q6a, q6b, q8a, q8b, hr9, hr10, t11bx, t12bx, t13bx, t14bx, t15bx, t16bx, t17bx, t18bx, t19bx, t20bx, H19bx, H20bx, hr56, hr57]
                        rw [CK_normal]
                        refine ⟨_, rfl, ?_⟩
                        refine ⟨?_, ?_, ?_, ?_, ?_, ?_, ?_, ?_, ?_⟩
                        all_goals (first | rfl | (simp only [x_l44_BridgeSums, seval, -Int.reduceToNat, hr1, hr2, q6a, q6b, q8a, q8b, hr9, hr10, t11bx, t12bx, t13bx, t14bx, t15bx, t16bx, t17bx, t18bx, t19bx, t20bx, H19bx, H20bx, hr56, hr57] <;> rfl))
                      · replace hh := ite_f hb95 hh
                        cases hh
                        try simp only [x_l44_BridgeSums, seval, -Int.reduceToNat, hr1, hr2, q6a, q6b, q8a, q8b, hr9, hr10, t11bx, t12bx, t13bx, t14bx, t15bx, t16bx, t17bx, t18bx, t19bx, t20bx, H19bx, H20bx, hr56, hr57]
                        rw [CK_normal]
                        refine ⟨_, rfl, ?_⟩
                        refine ⟨?_, ?_, ?_, ?_, ?_, ?_, ?_, ?_, ?_⟩
                        all_goals (first | rfl | (simp only [x_l44_BridgeSums, seval, -Int.reduceToNat, hr1, hr2, q6a, q6b, q8a, q8b, hr9, hr10, t11bx, t12bx, t13bx, t14bx, t15bx, t16bx, t17bx, t18bx, t19bx, t20bx, H19bx, H20bx, hr56, hr57] <;> rfl))
  ·
    clear hh
    have hh := ho3
    try simp only [x_l44_BridgeSums, seval, -Int.reduceToNat, hr1, hr2]
    refine tstO_br' (fun hb96 => ?_) (fun hb96 => ?_)
    · replace hh := ite_t hb96 hh
      cases hh
      try simp only [x_l44_BridgeSums, seval, -Int.reduceToNat, hr1, hr2]
      rw [CK_normal]
      refine ⟨_, rfl, ?_⟩
      refine ⟨0, ?_, ?_, ?_, ?_, ?_, ?_, ?_, ?_, ?_⟩
      all_goals (first | rfl | (simp only [x_l44_BridgeSums, seval, -Int.reduceToNat, hr1, hr2] <;> rfl))
    · replace hh := ite_f hb96 hh
      obtain ⟨r97, hr97, hh⟩ := bindS hh
      try simp only [x_l44_BridgeSums, seval, -Int.reduceToNat, hr1, hr2, hr97]
      refine tstO_br' (fun hb98 => ?_) (fun hb98 => ?_)
      · replace hh := ite_t hb98 hh
        cases hh
        try simp only [x_l44_BridgeSums, seval, -Int.reduceToNat, hr1, hr2, hr97]
        rw [CK_normal]
        refine ⟨_, rfl, ?_⟩
        refine ⟨0, ?_, ?_, ?_, ?_, ?_, ?_, ?_, ?_, ?_⟩
        all_goals (first | rfl | (simp only [x_l44_BridgeSums, seval, -Int.reduceToNat, hr1, hr2, hr97] <;> rfl))
      · replace hh := ite_f hb98 hh
        obtain ⟨r99, hr99, hh⟩ := bindS hh
        try simp only [x_l44_BridgeSums, seval, -Int.reduceToNat, hr1, hr2, hr97, hr99]
        refine tstO_br' (fun hb100 => ?_) (fun hb100 => ?_)
        · replace hh := ite_t hb100 hh
          cases hh
          try simp only [x_l44_BridgeSums, seval, -Int.reduceToNat, hr1, hr2, hr97, hr99]
          rw [CK_normal]
          refine ⟨_, rfl, ?_⟩
          refine ⟨0, ?_, ?_, ?_, ?_, ?_, ?_, ?_, ?_, ?_⟩
          all_goals (first | rfl | (simp only [x_l44_BridgeSums, seval, -Int.reduceToNat, hr1, hr2, hr97, hr99] <;> rfl))
        · replace hh := ite_f hb100 hh
          obtain ⟨r101, hr101, hh⟩ := bindS hh
          cases hh
          try simp only [x_l44_BridgeSums, seval, -Int.reduceToNat, hr1, hr2, hr97, hr99, hr101]
          rw [CK_normal]
          refine ⟨_, rfl, ?_⟩
          refine ⟨0, ?_, ?_, ?_, ?_, ?_, ?_, ?_, ?_, ?_⟩
          all_goals (first | rfl | (simp only [x_l44_BridgeSums, seval, -Int.reduceToNat, hr1, hr2, hr97, hr99, hr101] <;> rfl))

theorem ok_l44_BridgeSums : COk Try.prog 4 G_l44_BridgeSums := COk.of (mode := .clean) tok ge_l44_BridgeSums mixed Try.func4 (by kernel_rfl) ⟨by kernel_rfl, by kernel_rfl⟩ (fun _ => Nat.le_of_ble_eq_true (by kernel_rfl)) (fun x r h => m_l44_BridgeSums x.1 x.2.1 x.2.2.1 x.2.2.2.1 x.2.2.2.2 r h)

noncomputable def G_l44_without := mkG (asC (aSl eTFrac) (as1 (aI .i64))) (fun x : (List TFrac) × Int => l44_without x.1 x.2) (fun r : (List TFrac) => .clean (.sl false false r.length (encL eTFrac r)))

theorem q_l44_without (p0 : (List TFrac)) (p1 : Int) : G_l44_without none [.sl false false p0.length (encL eTFrac p0), .int .i64 p1] = (l44_without p0 p1).map fun r : (List TFrac) => (.clean (.sl false false r.length (encL eTFrac r)), none) := mkG_eq _ _ _ (p0, p1)

theorem m_l44_without (p0 : (List TFrac)) (p1 : Int) (r : (List TFrac)) (hh : l44_without p0 p1 = some r) : vfunc .clean tab noEnv FU Try.f26 none [.sl false false p0.length (encL eTFrac p0), .int .i64 p1] = some (.clean (.sl false false r.length (encL eTFrac r)), none) := by
  refine vfunc_of rfl Try.ntmps26 Try.results26 ?_
  unfold l44_without at hh
  try simp only [w, seval, -Int.reduceToNat]
  obtain ⟨o8, ho8, hh⟩ := bindS hh
  refine runLoop_sim (fun s t H e => match s with | (s6a, l5a) => ∃ v5a : Nat, t 0 = .sl false false p0.length (encL eTFrac p0) ∧ t 1 = .int .i64 p1 ∧ t 5 = .buf 5 v5a 4 0 (l5a).length ∧ t 6 = .int .i64 s6a ∧ H 5 = some ⟨v5a, 34, encL eTFrac l5a, false, true⟩) (fun o x t H e => match o with | l5ax => x = .exit 0 ∧ ∃ v5ax : Nat, t 5 = .buf 5 v5ax 4 0 (l5ax).length ∧ H 5 = some ⟨v5ax, 34, encL eTFrac l5ax, false, true⟩) ho8 ?_ ?_ ?_
  ·
    refine ⟨1, ?_, ?_, ?_, ?_, ?_⟩
    all_goals (first | rfl | (simp only [w, seval, -Int.reduceToNat] <;> rfl))
  · rintro ⟨s6a, l5a⟩ t H e ⟨v5a, t0a, t1a, t5a, t6a, H5a⟩ c hh
    simp only [l44_without_L1] at hh
    try simp only [w, seval, -Int.reduceToNat, t0a, t1a, t5a, t6a, H5a]
    refine tstC_br (fun hb9 => ?_) (fun hb9 => ?_)
    · replace hh := ite_t hb9 hh
      obtain ⟨x10, hx10, hh⟩ := bindS hh
      obtain ⟨q11a, q11b⟩ := shrI_ok hx10
      try simp only [w, seval, -Int.reduceToNat, t0a, t1a, t5a, t6a, H5a, q11a, q11b]
      refine tstC_br (fun hb12 => ?_) (fun hb12 => ?_)
      · replace hh := ite_t hb12 hh
        obtain ⟨x13, hx13, hh⟩ := bindS hh
        have bx13 := idx_bd hx13
        have ax13 := idx_enc eTFrac hx13
        have fx13 := idx_fit eTFrac hx13
        simp only [vmz] at ax13 fx13
        skip
        obtain ⟨x14, hx14, hh⟩ := bindS hh
        obtain ⟨q15a, q15b, q15c, q15d⟩ := app_one eTFrac hx14
        simp only [vmz] at q15b
        cases hh
        try simp only [w, seval, -Int.reduceToNat, t0a, t1a, t5a, t6a, H5a, q11a, q11b, bx13, ax13, fx13, q15a, q15b, q15c, q15d]
        rw [LK_normal]
        refine ⟨_, rfl, ?_⟩
        refine ⟨e + 1 + 1, ?_, ?_, ?_, ?_, ?_⟩
        all_goals (first | rfl | (simp only [w, seval, -Int.reduceToNat, t0a, t1a, t5a, t6a, H5a, q11a, q11b, bx13, ax13, fx13, q15a, q15b, q15c, q15d] <;> rfl))
      · replace hh := ite_f hb12 hh
        cases hh
        try simp only [w, seval, -Int.reduceToNat, t0a, t1a, t5a, t6a, H5a, q11a, q11b]
        rw [LK_normal]
        refine ⟨_, rfl, ?_⟩
        refine ⟨v5a, ?_, ?_, ?_, ?_, ?_⟩
        all_goals (first | rfl | (simp only [w, seval, -Int.reduceToNat, t0a, t1a, t5a, t6a, H5a, q11a, q11b] <;> rfl))
    · replace hh := ite_f hb9 hh
      cases hh
      try simp only [w, seval, -Int.reduceToNat, t0a, t1a, t5a, t6a, H5a]
      rw [LK_exit]
      refine ⟨_, rfl, ?_⟩
      refine ⟨rfl, ⟨v5a, ?_, ?_⟩⟩
      all_goals (first | rfl | (simp only [w, seval, -Int.reduceToNat, t0a, t1a, t5a, t6a, H5a] <;> rfl))
  · rintro x t H e hx
    obtain ⟨l5ax, rfl⟩ : ∃ z, z = o8 := ⟨_, rfl⟩
    dsimp only at hx hh
    obtain ⟨rfl, ⟨v5ax, t5ax, H5ax⟩⟩ := hx
    cases hh
    try simp only [w, seval, -Int.reduceToNat, t5ax, H5ax]

theorem ok_l44_without : COk Try.prog 26 G_l44_without := COk.of (mode := .clean) tok GOk.none mixed Try.func26 (by kernel_rfl) ⟨by kernel_rfl, by kernel_rfl⟩ (fun _ => Nat.le_of_ble_eq_true (by kernel_rfl)) (fun x r h => m_l44_without x.1 x.2 r h)

noncomputable def G_l44_BridgeLoses := mkG (asC (aSl eTFrac) (asC (aI .u8) (as1 (aI .u8)))) (fun x : (List TFrac) × Int × Int => l44_BridgeLoses x.1 x.2.1 x.2.2) (fun r : Bool => .clean (.bool r))

theorem q_l44_BridgeLoses (p0 : (List TFrac)) (p1 : Int) (p2 : Int) : G_l44_BridgeLoses none [.sl false false p0.length (encL eTFrac p0), .int .u8 p1, .int .u8 p2] = (l44_BridgeLoses p0 p1 p2).map fun r : Bool => (.clean (.bool r), none) := mkG_eq _ _ _ (p0, p1, p2)

noncomputable def g_l44_BridgeLoses : Env := (Am.ext (Am.ext (Am.ext (Am.ext (Am.ext (Am.ext noEnv 13 false G_l44_small) 14 false G_l44_edits) 16 false G_bridge_Shares) 18 false G_frac_Sub) 19 false G_r05_Same) 26 false G_l44_without)

theorem ge_l44_BridgeLoses : GOk Try.prog g_l44_BridgeLoses := ((((((GOk.none.add ok_l44_small false).add ok_l44_edits false).add ok_bridge_Shares false).add ok_frac_Sub false).add ok_r05_Same false).add ok_l44_without false)

theorem gg_l44_BridgeLoses : g_l44_BridgeLoses = (Am.ext (Am.ext (Am.ext (Am.ext (Am.ext (Am.ext noEnv 13 false G_l44_small) 14 false G_l44_edits) 16 false G_bridge_Shares) 18 false G_frac_Sub) 19 false G_r05_Same) 26 false G_l44_without) := Eq.trans rfl rfl

theorem x_l44_BridgeLoses : type_of% (And.intro @w <| And.intro @q_l44_small <| And.intro @q_l44_edits <| And.intro @q_bridge_Shares <| And.intro @q_frac_Sub <| And.intro @q_r05_Same <| And.intro @q_l44_without <| @gg_l44_BridgeLoses) := And.intro @w <| And.intro @q_l44_small <| And.intro @q_l44_edits <| And.intro @q_bridge_Shares <| And.intro @q_frac_Sub <| And.intro @q_r05_Same <| And.intro @q_l44_without <| @gg_l44_BridgeLoses

theorem m_l44_BridgeLoses (p0 : (List TFrac)) (p1 : Int) (p2 : Int) (r : Bool) (hh : l44_BridgeLoses p0 p1 p2 = some r) : vfunc .clean tab g_l44_BridgeLoses FU Try.f5 none [.sl false false p0.length (encL eTFrac p0), .int .u8 p1, .int .u8 p2] = some (.clean (.bool r), none) := by
  refine vfunc_of rfl Try.ntmps5 Try.results5 ?_
  unfold l44_BridgeLoses at hh
  obtain ⟨r1, hr1, hh⟩ := bindS hh
  obtain ⟨r2, hr2, hh⟩ := bindS hh
  try simp only [x_l44_BridgeLoses, seval, -Int.reduceToNat, hr1, hr2]
  refine tstC_br (fun hb3 => ?_) (fun hb3 => ?_)
  · replace hh := ite_t hb3 hh
    cases hh
    try simp only [x_l44_BridgeLoses, seval, -Int.reduceToNat, hr1, hr2]
  · replace hh := ite_f hb3 hh
    obtain ⟨x4, hx4, hh⟩ := bindS hh
    obtain ⟨q5a, q5b⟩ := modI_ok hx4
    obtain ⟨x6, hx6, hh⟩ := bindS hh
    obtain ⟨q7a, q7b⟩ := modI_ok hx6
    try simp only [x_l44_BridgeLoses, seval, -Int.reduceToNat, hr1, hr2, q5a, q5b, q7a, q7b]
    refine tstC_br (fun hb8 => ?_) (fun hb8 => ?_)
    · replace hh := ite_t hb8 hh
      cases hh
      try simp only [x_l44_BridgeLoses, seval, -Int.reduceToNat, hr1, hr2, q5a, q5b, q7a, q7b]
    · replace hh := ite_f hb8 hh
      obtain ⟨r9, hr9, hh⟩ := bindS hh
      obtain ⟨r10, hr10, hh⟩ := bindS hh
      obtain ⟨r11, hr11, hh⟩ := bindS hh
      obtain ⟨r12, hr12, hh⟩ := bindS hh
      obtain ⟨r13, hr13, hh⟩ := bindS hh
      try simp only [x_l44_BridgeLoses, seval, -Int.reduceToNat, hr1, hr2, q5a, q5b, q7a, q7b, hr9, hr10, hr11, hr12, hr13]
      obtain ⟨o14, ho14, hh⟩ := bindS hh
      refine tstO_cut 0 (fun s t H e => match s with | s89j1 => t 7 = .bool r1 ∧ t 9 = .int .i64 x4 ∧ t 10 = .int .i64 x6 ∧ t 11 = .sl false false r9.1.length (encL eTFrac r9.1) ∧ t 13 = .sl false false r11.1.length (encL eTFrac r11.1) ∧ t 15 = .sl false false r13.1.length (encL eTFrac r13.1) ∧ t 89 = .bool s89j1) (fun s => s = o14) ?_ ?_
      · rintro s89j1 t H e ⟨t7j1, t9j1, t10j1, t11j1, t13j1, t15j1, t89j1⟩ rfl
        try dsimp only at hh
        try simp only [x_l44_BridgeLoses, seval, -Int.reduceToNat, hr1, hr2, q5a, q5b, q7a, q7b, hr9, hr10, hr11, hr12, hr13, t7j1, t9j1, t10j1, t11j1, t13j1, t15j1, t89j1]
        refine tstC_br (fun hb15 => ?_) (fun hb15 => ?_)
        · replace hh := ite_t hb15 hh
          cases hh
          try simp only [x_l44_BridgeLoses, seval, -Int.reduceToNat, hr1, hr2, q5a, q5b, q7a, q7b, hr9, hr10, hr11, hr12, hr13, t7j1, t9j1, t10j1, t11j1, t13j1, t15j1, t89j1]
        · replace hh := ite_f hb15 hh
          try simp only [x_l44_BridgeLoses, seval, -Int.reduceToNat, hr1, hr2, q5a, q5b, q7a, q7b, hr9, hr10, hr11, hr12, hr13, t7j1, t9j1, t10j1, t11j1, t13j1, t15j1, t89j1]
          obtain ⟨o16, ho16, hh⟩ := bindS hh
          refine tstC_cut 0 (fun s t H e => match s with | s17j2 => t 7 = .bool r1 ∧ t 9 = .int .i64 x4 ∧ t 10 = .int .i64 x6 ∧ t 11 = .sl false false r9.1.length (encL eTFrac r9.1) ∧ t 13 = .sl false false r11.1.length (encL eTFrac r11.1) ∧ t 15 = .sl false false r13.1.length (encL eTFrac r13.1) ∧ t 17 = .int .i64 s17j2) (fun s => s = o16) ?_ ?_
          · rintro s17j2 t H e ⟨t7j2, t9j2, t10j2, t11j2, t13j2, t15j2, t17j2⟩ rfl
            try dsimp only at hh
            try simp only [x_l44_BridgeLoses, seval, -Int.reduceToNat, hr1, hr2, q5a, q5b, q7a, q7b, hr9, hr10, hr11, hr12, hr13, t7j2, t9j2, t10j2, t11j2, t13j2, t15j2, t17j2]
            obtain ⟨o17, ho17, hh⟩ := bindS hh
            refine tstC_cut 0 (fun s t H e => match s with | s18j3 => t 7 = .bool r1 ∧ t 9 = .int .i64 x4 ∧ t 10 = .int .i64 x6 ∧ t 11 = .sl false false r9.1.length (encL eTFrac r9.1) ∧ t 13 = .sl false false r11.1.length (encL eTFrac r11.1) ∧ t 15 = .sl false false r13.1.length (encL eTFrac r13.1) ∧ t 17 = .int .i64 s17j2 ∧ t 18 = .int .i64 s18j3) (fun s => s = o17) ?_ ?_
            · rintro s18j3 t H e ⟨t7j3, t9j3, t10j3, t11j3, t13j3, t15j3, t17j3, t18j3⟩ rfl
              try dsimp only at hh
              obtain ⟨x18, hx18, hh⟩ := bindS hh
              have bx18 := idx_bd hx18
              have ax18 := idx_enc eTFrac hx18
              have fx18 := idx_fit eTFrac hx18
              simp only [vmz] at ax18 fx18
              skip
              obtain ⟨x19, hx19, hh⟩ := bindS hh
              have bx19 := idx_bd hx19
              have ax19 := idx_enc eTFrac hx19
              have fx19 := idx_fit eTFrac hx19
              simp only [vmz] at ax19 fx19
              skip
              obtain ⟨r20, hr20, hh⟩ := bindS hh
              try simp only [x_l44_BridgeLoses, seval, -Int.reduceToNat, hr1, hr2, q5a, q5b, q7a, q7b, hr9, hr10, hr11, hr12, hr13, t7j3, t9j3, t10j3, t11j3, t13j3, t15j3, t17j3, t18j3, bx18, ax18, fx18, bx19, ax19, fx19, hr20]
              refine dyn_ok (by kernel_rfl) ?_
              obtain ⟨x21, hx21, hh⟩ := bindS hh
              have bx21 := idx_bd hx21
              have ax21 := idx_enc eTFrac hx21
              have fx21 := idx_fit eTFrac hx21
              simp only [vmz] at ax21 fx21
              skip
              obtain ⟨x22, hx22, hh⟩ := bindS hh
              have bx22 := idx_bd hx22
              have ax22 := idx_enc eTFrac hx22
              have fx22 := idx_fit eTFrac hx22
              simp only [vmz] at ax22 fx22
              skip
              obtain ⟨r23, hr23, hh⟩ := bindS hh
              try simp only [x_l44_BridgeLoses, seval, -Int.reduceToNat, hr1, hr2, q5a, q5b, q7a, q7b, hr9, hr10, hr11, hr12, hr13, t7j3, t9j3, t10j3, t11j3, t13j3, t15j3, t17j3, t18j3, bx18, ax18, fx18, bx19, ax19, fx19, hr20, bx21, ax21, fx21, bx22, ax22, fx22, hr23]
              refine dyn_ok (by kernel_rfl) ?_
              try simp only [x_l44_BridgeLoses, seval, -Int.reduceToNat, hr1, hr2, q5a, q5b, q7a, q7b, hr9, hr10, hr11, hr12, hr13, t7j3, t9j3, t10j3, t11j3, t13j3, t15j3, t17j3, t18j3, bx18, ax18, fx18, bx19, ax19, fx19, hr20, bx21, ax21, fx21, bx22, ax22, fx22, hr23]
              refine tstO_br (fun hb24 => ?_) (fun hb24 => ?_)
              · replace hh := ite_t hb24 hh
                obtain ⟨r25, hr25, hh⟩ := bindS hh
                cases hh
                try simp only [x_l44_BridgeLoses, seval, -Int.reduceToNat, hr1, hr2, q5a, q5b, q7a, q7b, hr9, hr10, hr11, hr12, hr13, t7j3, t9j3, t10j3, t11j3, t13j3, t15j3, t17j3, t18j3, bx18, ax18, fx18, bx19, ax19, fx19, hr20, bx21, ax21, fx21, bx22, ax22, fx22, hr23, hr25]
              · replace hh := ite_f hb24 hh
                cases hh
                try simp only [x_l44_BridgeLoses, seval, -Int.reduceToNat, hr1, hr2, q5a, q5b, q7a, q7b, hr9, hr10, hr11, hr12, hr13, t7j3, t9j3, t10j3, t11j3, t13j3, t15j3, t17j3, t18j3, bx18, ax18, fx18, bx19, ax19, fx19, hr20, bx21, ax21, fx21, bx22, ax22, fx22, hr23]
            ·
              clear hh
              have hh := ho17
              try simp only [x_l44_BridgeLoses, seval, -Int.reduceToNat, hr1, hr2, q5a, q5b, q7a, q7b, hr9, hr10, hr11, hr12, hr13, t7j2, t9j2, t10j2, t11j2, t13j2, t15j2, t17j2]
              refine tstC_br (fun hb26 => ?_) (fun hb26 => ?_)
              · replace hh := ite_t hb26 hh
                cases hh
                try simp only [x_l44_BridgeLoses, seval, -Int.reduceToNat, hr1, hr2, q5a, q5b, q7a, q7b, hr9, hr10, hr11, hr12, hr13, t7j2, t9j2, t10j2, t11j2, t13j2, t15j2, t17j2]
                rw [CK_normal]
                refine ⟨_, rfl, ?_⟩
                refine ⟨?_, ?_, ?_, ?_, ?_, ?_, ?_, ?_⟩
                all_goals (first | rfl | (simp only [x_l44_BridgeLoses, seval, -Int.reduceToNat, hr1, hr2, q5a, q5b, q7a, q7b, hr9, hr10, hr11, hr12, hr13, t7j2, t9j2, t10j2, t11j2, t13j2, t15j2, t17j2] <;> rfl))
              · replace hh := ite_f hb26 hh
                cases hh
                try simp only [x_l44_BridgeLoses, seval, -Int.reduceToNat, hr1, hr2, q5a, q5b, q7a, q7b, hr9, hr10, hr11, hr12, hr13, t7j2, t9j2, t10j2, t11j2, t13j2, t15j2, t17j2]
                rw [CK_normal]
                refine ⟨_, rfl, ?_⟩
                refine ⟨?_, ?_, ?_, ?_, ?_, ?_, ?_, ?_⟩
                all_goals (first | rfl | (simp only [x_l44_BridgeLoses, seval, -Int.reduceToNat, hr1, hr2, q5a, q5b, q7a, q7b, hr9, hr10, hr11, hr12, hr13, t7j2, t9j2, t10j2, t11j2, t13j2, t15j2, t17j2] <;> rfl))
          ·
            clear hh
            have hh := ho16
            try simp only [x_l44_BridgeLoses, seval, -Int.reduceToNat, hr1, hr2, q5a, q5b, q7a, q7b, hr9, hr10, hr11, hr12, hr13, t7j1, t9j1, t10j1, t11j1, t13j1, t15j1, t89j1]
            refine tstC_br (fun hb27 => ?_) (fun hb27 => ?_)
            · replace hh := ite_t hb27 hh
              cases hh
              try simp only [x_l44_BridgeLoses, seval, -Int.reduceToNat, hr1, hr2, q5a, q5b, q7a, q7b, hr9, hr10, hr11, hr12, hr13, t7j1, t9j1, t10j1, t11j1, t13j1, t15j1, t89j1]
              rw [CK_normal]
              refine ⟨_, rfl, ?_⟩
              refine ⟨?_, ?_, ?_, ?_, ?_, ?_, ?_⟩
              all_goals (first | rfl | (simp only [x_l44_BridgeLoses, seval, -Int.reduceToNat, hr1, hr2, q5a, q5b, q7a, q7b, hr9, hr10, hr11, hr12, hr13, t7j1, t9j1, t10j1, t11j1, t13j1, t15j1, t89j1] <;> rfl))
            · replace hh := ite_f hb27 hh
              cases hh
              try simp only [x_l44_BridgeLoses, seval, -Int.reduceToNat, hr1, hr2, q5a, q5b, q7a, q7b, hr9, hr10, hr11, hr12, hr13, t7j1, t9j1, t10j1, t11j1, t13j1, t15j1, t89j1]
              rw [CK_normal]
              refine ⟨_, rfl, ?_⟩
              refine ⟨?_, ?_, ?_, ?_, ?_, ?_, ?_⟩
              all_goals (first | rfl | (simp only [x_l44_BridgeLoses, seval, -Int.reduceToNat, hr1, hr2, q5a, q5b, q7a, q7b, hr9, hr10, hr11, hr12, hr13, t7j1, t9j1, t10j1, t11j1, t13j1, t15j1, t89j1] <;> rfl))
      ·
        clear hh
        have hh := ho14
        try simp only [x_l44_BridgeLoses, seval, -Int.reduceToNat, hr1, hr2, q5a, q5b, q7a, q7b, hr9, hr10, hr11, hr12, hr13]
        refine tstO_br' (fun hb28 => ?_) (fun hb28 => ?_)
        · replace hh := ite_t hb28 hh
          cases hh
          try simp only [x_l44_BridgeLoses, seval, -Int.reduceToNat, hr1, hr2, q5a, q5b, q7a, q7b, hr9, hr10, hr11, hr12, hr13]
          rw [CK_normal]
          refine ⟨_, rfl, ?_⟩
          refine ⟨?_, ?_, ?_, ?_, ?_, ?_, ?_⟩
          all_goals (first | rfl | (simp only [x_l44_BridgeLoses, seval, -Int.reduceToNat, hr1, hr2, q5a, q5b, q7a, q7b, hr9, hr10, hr11, hr12, hr13] <;> rfl))
        · replace hh := ite_f hb28 hh
          try simp only [x_l44_BridgeLoses, seval, -Int.reduceToNat, hr1, hr2, q5a, q5b, q7a, q7b, hr9, hr10, hr11, hr12, hr13]
          refine tstO_br' (fun hb29 => ?_) (fun hb29 => ?_)
          · replace hh := ite_t hb29 hh
            cases hh
            try simp only [x_l44_BridgeLoses, seval, -Int.reduceToNat, hr1, hr2, q5a, q5b, q7a, q7b, hr9, hr10, hr11, hr12, hr13]
            rw [CK_normal]
            refine ⟨_, rfl, ?_⟩
            refine ⟨?_, ?_, ?_, ?_, ?_, ?_, ?_⟩
            all_goals (first | rfl | (simp only [x_l44_BridgeLoses, seval, -Int.reduceToNat, hr1, hr2, q5a, q5b, q7a, q7b, hr9, hr10, hr11, hr12, hr13] <;> rfl))
          · replace hh := ite_f hb29 hh
            try simp only [x_l44_BridgeLoses, seval, -Int.reduceToNat, hr1, hr2, q5a, q5b, q7a, q7b, hr9, hr10, hr11, hr12, hr13]
            refine tstO_br' (fun hb30 => ?_) (fun hb30 => ?_)
            · replace hh := ite_t hb30 hh
              cases hh
              try simp only [x_l44_BridgeLoses, seval, -Int.reduceToNat, hr1, hr2, q5a, q5b, q7a, q7b, hr9, hr10, hr11, hr12, hr13]
              rw [CK_normal]
              refine ⟨_, rfl, ?_⟩
              refine ⟨?_, ?_, ?_, ?_, ?_, ?_, ?_⟩
              all_goals (first | rfl | (simp only [x_l44_BridgeLoses, seval, -Int.reduceToNat, hr1, hr2, q5a, q5b, q7a, q7b, hr9, hr10, hr11, hr12, hr13] <;> rfl))
            · replace hh := ite_f hb30 hh
              try simp only [x_l44_BridgeLoses, seval, -Int.reduceToNat, hr1, hr2, q5a, q5b, q7a, q7b, hr9, hr10, hr11, hr12, hr13]
              refine tstO_br' (fun hb31 => ?_) (fun hb31 => ?_)
              · replace hh := ite_t hb31 hh
                cases hh
                try simp only [x_l44_BridgeLoses, seval, -Int.reduceToNat, hr1, hr2, q5a, q5b, q7a, q7b, hr9, hr10, hr11, hr12, hr13]
                rw [CK_normal]
                refine ⟨_, rfl, ?_⟩
                refine ⟨?_, ?_, ?_, ?_, ?_, ?_, ?_⟩
                all_goals (first | rfl | (simp only [x_l44_BridgeLoses, seval, -Int.reduceToNat, hr1, hr2, q5a, q5b, q7a, q7b, hr9, hr10, hr11, hr12, hr13] <;> rfl))
              · replace hh := ite_f hb31 hh
                try simp only [x_l44_BridgeLoses, seval, -Int.reduceToNat, hr1, hr2, q5a, q5b, q7a, q7b, hr9, hr10, hr11, hr12, hr13]
                refine tstO_br' (fun hb32 => ?_) (fun hb32 => ?_)
                · replace hh := ite_t hb32 hh
                  cases hh
                  try simp only [x_l44_BridgeLoses, seval, -Int.reduceToNat, hr1, hr2, q5a, q5b, q7a, q7b, hr9, hr10, hr11, hr12, hr13]
                  rw [CK_normal]
                  refine ⟨_, rfl, ?_⟩
                  refine ⟨?_, ?_, ?_, ?_, ?_, ?_, ?_⟩
                  all_goals (first | rfl | (simp only [x_l44_BridgeLoses, seval, -Int.reduceToNat, hr1, hr2, q5a, q5b, q7a, q7b, hr9, hr10, hr11, hr12, hr13] <;> rfl))
                · replace hh := ite_f hb32 hh
                  cases hh
                  try simp only [x_l44_BridgeLoses, seval, -Int.reduceToNat, hr1, hr2, q5a, q5b, q7a, q7b, hr9, hr10, hr11, hr12, hr13]
                  rw [CK_normal]
                  refine ⟨_, rfl, ?_⟩
                  refine ⟨?_, ?_, ?_, ?_, ?_, ?_, ?_⟩
                  all_goals (first | rfl | (simp only [x_l44_BridgeLoses, seval, -Int.reduceToNat, hr1, hr2, q5a, q5b, q7a, q7b, hr9, hr10, hr11, hr12, hr13] <;> rfl))

theorem ok_l44_BridgeLoses : COk Try.prog 5 G_l44_BridgeLoses := COk.of (mode := .clean) tok ge_l44_BridgeLoses mixed Try.func5 (by kernel_rfl) ⟨by kernel_rfl, by kernel_rfl⟩ (fun _ => Nat.le_of_ble_eq_true (by kernel_rfl)) (fun x r h => m_l44_BridgeLoses x.1 x.2.1 x.2.2 r h)

noncomputable def G_frac_Mul := mkG (asC (aAgg eTFrac) (as1 (aAgg eTFrac))) (fun x : TFrac × TFrac => frac_Mul x.1 x.2) (fun r : TFrac × Int => .clean (.tup [.agg [.int .i64 r.1.f_P.f_Sign, .sl false false r.1.f_P.f_Digits.length (encL (eI .i64) r.1.f_P.f_Digits), .int .i64 r.1.f_Q.f_Sign, .sl false false r.1.f_Q.f_Digits.length (encL (eI .i64) r.1.f_Q.f_Digits)], .int .i64 r.2]))

theorem q_frac_Mul (p0_0 : Int) (p0_1 : (List Int)) (p0_2 : Int) (p0_3 : (List Int)) (p1_0 : Int) (p1_1 : (List Int)) (p1_2 : Int) (p1_3 : (List Int)) : G_frac_Mul none [.agg [.int .i64 p0_0, .sl false false p0_1.length (encL (eI .i64) p0_1), .int .i64 p0_2, .sl false false p0_3.length (encL (eI .i64) p0_3)], .agg [.int .i64 p1_0, .sl false false p1_1.length (encL (eI .i64) p1_1), .int .i64 p1_2, .sl false false p1_3.length (encL (eI .i64) p1_3)]] = (frac_Mul (TFrac.mk (TBig.mk p0_0 p0_1) (TBig.mk p0_2 p0_3)) (TFrac.mk (TBig.mk p1_0 p1_1) (TBig.mk p1_2 p1_3))).map fun r : TFrac × Int => (.clean (.tup [.agg [.int .i64 r.1.f_P.f_Sign, .sl false false r.1.f_P.f_Digits.length (encL (eI .i64) r.1.f_P.f_Digits), .int .i64 r.1.f_Q.f_Sign, .sl false false r.1.f_Q.f_Digits.length (encL (eI .i64) r.1.f_Q.f_Digits)], .int .i64 r.2]), none) := mkG_eq _ _ _ ((TFrac.mk (TBig.mk p0_0 p0_1) (TBig.mk p0_2 p0_3)), (TFrac.mk (TBig.mk p1_0 p1_1) (TBig.mk p1_2 p1_3)))

noncomputable def g_frac_Mul : Env := (Am.ext (Am.ext (Am.ext noEnv 24 false G_frac_Right) 62 false G_frac_times) 63 false G_frac_New)

theorem ge_frac_Mul : GOk Try.prog g_frac_Mul := (((GOk.none.add ok_frac_Right false).add ok_frac_times false).add ok_frac_New false)

theorem gg_frac_Mul : g_frac_Mul = (Am.ext (Am.ext (Am.ext noEnv 24 false G_frac_Right) 62 false G_frac_times) 63 false G_frac_New) := Eq.trans rfl rfl

theorem x_frac_Mul : type_of% (And.intro @w <| And.intro @q_frac_Right <| And.intro @q_frac_times <| And.intro @q_frac_New <| @gg_frac_Mul) := And.intro @w <| And.intro @q_frac_Right <| And.intro @q_frac_times <| And.intro @q_frac_New <| @gg_frac_Mul

theorem m_frac_Mul (p0 : TFrac) (p1 : TFrac) (r : TFrac × Int) (hh : frac_Mul p0 p1 = some r) : vfunc .clean tab g_frac_Mul FU Try.f42 none [.agg [.int .i64 p0.f_P.f_Sign, .sl false false p0.f_P.f_Digits.length (encL (eI .i64) p0.f_P.f_Digits), .int .i64 p0.f_Q.f_Sign, .sl false false p0.f_Q.f_Digits.length (encL (eI .i64) p0.f_Q.f_Digits)], .agg [.int .i64 p1.f_P.f_Sign, .sl false false p1.f_P.f_Digits.length (encL (eI .i64) p1.f_P.f_Digits), .int .i64 p1.f_Q.f_Sign, .sl false false p1.f_Q.f_Digits.length (encL (eI .i64) p1.f_Q.f_Digits)]] = some (.clean (.tup [.agg [.int .i64 r.1.f_P.f_Sign, .sl false false r.1.f_P.f_Digits.length (encL (eI .i64) r.1.f_P.f_Digits), .int .i64 r.1.f_Q.f_Sign, .sl false false r.1.f_Q.f_Digits.length (encL (eI .i64) r.1.f_Q.f_Digits)], .int .i64 r.2]), none) := by
  refine vfunc_of rfl Try.ntmps42 Try.results42 ?_
  unfold frac_Mul at hh
  obtain ⟨r1, hr1, hh⟩ := bindS hh
  try simp only [x_frac_Mul, seval, -Int.reduceToNat, hr1]
  obtain ⟨o2, ho2, hh⟩ := bindS hh
  refine tstO_cut 0 (fun s t H e => match s with | s13j1 => ∃ v2j1 : Nat, ∃ v3j1 : Nat, ∃ v4j1 : Nat, t 2 = .ptr 2 v2j1 0 ∧ t 3 = .ptr 3 v3j1 0 ∧ t 4 = .ptr 4 v4j1 0 ∧ t 13 = .bool s13j1 ∧ H 2 = some ⟨v2j1, 34, [.int .i64 p0.f_P.f_Sign, .sl false false p0.f_P.f_Digits.length (encL (eI .i64) p0.f_P.f_Digits), .int .i64 p0.f_Q.f_Sign, .sl false false p0.f_Q.f_Digits.length (encL (eI .i64) p0.f_Q.f_Digits)], false, false⟩ ∧ H 3 = some ⟨v3j1, 34, [.int .i64 p1.f_P.f_Sign, .sl false false p1.f_P.f_Digits.length (encL (eI .i64) p1.f_P.f_Digits), .int .i64 p1.f_Q.f_Sign, .sl false false p1.f_Q.f_Digits.length (encL (eI .i64) p1.f_Q.f_Digits)], false, false⟩ ∧ H 4 = some ⟨v4j1, 34, [.int .i64 0, .sl true true 0 [], .int .i64 0, .sl true true 0 []], false, false⟩) (fun s => s = o2) ?_ ?_
  · rintro s13j1 t H e ⟨v2j1, v3j1, v4j1, t2j1, t3j1, t4j1, t13j1, H2j1, H3j1, H4j1⟩ rfl
    try dsimp only at hh
    try simp only [x_frac_Mul, seval, -Int.reduceToNat, hr1, t2j1, t3j1, t4j1, t13j1, H2j1, H3j1, H4j1]
    refine tstC_br (fun hb3 => ?_) (fun hb3 => ?_)
    · replace hh := ite_t hb3 hh
      cases hh
      try simp only [x_frac_Mul, seval, -Int.reduceToNat, hr1, t2j1, t3j1, t4j1, t13j1, H2j1, H3j1, H4j1]
    · replace hh := ite_f hb3 hh
      obtain ⟨r4, hr4, hh⟩ := bindS hh
      obtain ⟨r5, hr5, hh⟩ := bindS hh
      obtain ⟨r6, hr6, hh⟩ := bindS hh
      try simp only [x_frac_Mul, seval, -Int.reduceToNat, hr1, t2j1, t3j1, t4j1, t13j1, H2j1, H3j1, H4j1, hr4, hr5, hr6]
      refine dyn_ok (by kernel_rfl) ?_
      cases hh
      try simp only [x_frac_Mul, seval, -Int.reduceToNat, hr1, t2j1, t3j1, t4j1, t13j1, H2j1, H3j1, H4j1, hr4, hr5, hr6]
  ·
    clear hh
    have hh := ho2
    try simp only [x_frac_Mul, seval, -Int.reduceToNat, hr1]
    refine tstO_br' (fun hb7 => ?_) (fun hb7 => ?_)
    · replace hh := ite_t hb7 hh
      cases hh
      try simp only [x_frac_Mul, seval, -Int.reduceToNat, hr1]
      rw [CK_normal]
      refine ⟨_, rfl, ?_⟩
      refine ⟨0, 0, 0, ?_, ?_, ?_, ?_, ?_, ?_, ?_⟩
      all_goals (first | rfl | (simp only [x_frac_Mul, seval, -Int.reduceToNat, hr1] <;> rfl))
    · replace hh := ite_f hb7 hh
      obtain ⟨r8, hr8, hh⟩ := bindS hh
      cases hh
      try simp only [x_frac_Mul, seval, -Int.reduceToNat, hr1, hr8]
      rw [CK_normal]
      refine ⟨_, rfl, ?_⟩
      refine ⟨0, 0, 0, ?_, ?_, ?_, ?_, ?_, ?_, ?_⟩
      all_goals (first | rfl | (simp only [x_frac_Mul, seval, -Int.reduceToNat, hr1, hr8] <;> rfl))

theorem ok_frac_Mul : COk Try.prog 42 G_frac_Mul := COk.of (mode := .clean) tok ge_frac_Mul mixed Try.func42 (by kernel_rfl) ⟨by kernel_rfl, by kernel_rfl⟩ (fun _ => Nat.le_of_ble_eq_true (by kernel_rfl)) (fun x r h => m_frac_Mul x.1 x.2 r h)

noncomputable def G_l44_orders (n : Nat) := mkG (asC (aSl eTFrac) (asC (aI .i64) (asC (aI .i64) (as1 (aI .i64))))) (fun x : (List TFrac) × Int × Int × Int => l44_orders n x.1 x.2.1 x.2.2.1 x.2.2.2) (fun r : TFrac × Int => .clean (.tup [.agg [.int .i64 r.1.f_P.f_Sign, .sl false false r.1.f_P.f_Digits.length (encL (eI .i64) r.1.f_P.f_Digits), .int .i64 r.1.f_Q.f_Sign, .sl false false r.1.f_Q.f_Digits.length (encL (eI .i64) r.1.f_Q.f_Digits)], .int .i64 r.2]))

theorem q_l44_orders (n : Nat) (p0 : (List TFrac)) (p1 : Int) (p2 : Int) (p3 : Int) : G_l44_orders n none [.sl false false p0.length (encL eTFrac p0), .int .i64 p1, .int .i64 p2, .int .i64 p3] = (l44_orders n p0 p1 p2 p3).map fun r : TFrac × Int => (.clean (.tup [.agg [.int .i64 r.1.f_P.f_Sign, .sl false false r.1.f_P.f_Digits.length (encL (eI .i64) r.1.f_P.f_Digits), .int .i64 r.1.f_Q.f_Sign, .sl false false r.1.f_Q.f_Digits.length (encL (eI .i64) r.1.f_Q.f_Digits)], .int .i64 r.2]), none) := mkG_eq _ _ _ (p0, p1, p2, p3)

noncomputable def g_l44_orders (n : Nat) : Env := (Am.ext (Am.ext (Am.ext (Am.ext (Am.ext noEnv 18 false G_frac_Sub) 25 false G_frac_Add) 29 false G_r05_Int) 42 false G_frac_Mul) 27 false (G_l44_orders n))

theorem ge_l44_orders (n : Nat) (h : COk Try.prog 27 (G_l44_orders n)) : GOk Try.prog (g_l44_orders n) := (((((GOk.none.add ok_frac_Sub false).add ok_frac_Add false).add ok_r05_Int false).add ok_frac_Mul false).add h false)

theorem gg_l44_orders (n : Nat) : g_l44_orders n = (Am.ext (Am.ext (Am.ext (Am.ext (Am.ext noEnv 18 false G_frac_Sub) 25 false G_frac_Add) 29 false G_r05_Int) 42 false G_frac_Mul) 27 false (G_l44_orders n)) := Eq.trans rfl rfl

theorem x_l44_orders : type_of% (And.intro @w <| And.intro @q_frac_Sub <| And.intro @q_frac_Add <| And.intro @q_l44_orders <| And.intro @q_r05_Int <| And.intro @q_frac_Mul <| @gg_l44_orders) := And.intro @w <| And.intro @q_frac_Sub <| And.intro @q_frac_Add <| And.intro @q_l44_orders <| And.intro @q_r05_Int <| And.intro @q_frac_Mul <| @gg_l44_orders

theorem m_l44_orders (n : Nat) (p0 : (List TFrac)) (p1 : Int) (p2 : Int) (p3 : Int) (r : TFrac × Int) (hh : l44_orders (n + 1) p0 p1 p2 p3 = some r) : vfunc .clean tab (g_l44_orders n) FU Try.f27 none [.sl false false p0.length (encL eTFrac p0), .int .i64 p1, .int .i64 p2, .int .i64 p3] = some (.clean (.tup [.agg [.int .i64 r.1.f_P.f_Sign, .sl false false r.1.f_P.f_Digits.length (encL (eI .i64) r.1.f_P.f_Digits), .int .i64 r.1.f_Q.f_Sign, .sl false false r.1.f_Q.f_Digits.length (encL (eI .i64) r.1.f_Q.f_Digits)], .int .i64 r.2]), none) := by
  refine vfunc_of rfl Try.ntmps27 Try.results27 ?_
  have hh : l44_orders_B (l44_orders n) p0 p1 p2 p3 = some r := hh
  unfold l44_orders_B at hh
  obtain ⟨r1, hr1, hh⟩ := bindS hh
  try simp only [x_l44_orders, seval, -Int.reduceToNat, hr1]
  obtain ⟨o19, ho19, hh⟩ := bindS hh
  refine runLoop_sim (fun s t H e => match s with | (s11a, s12a, r10_0a, r10_1a, r10_2a, r10_3a) => ∃ v8a : Nat, ∃ v10a : Nat, t 0 = .sl false false p0.length (encL eTFrac p0) ∧ t 1 = .int .i64 p1 ∧ t 2 = .int .i64 p2 ∧ t 3 = .int .i64 p3 ∧ t 8 = .ptr 8 v8a 0 ∧ t 10 = .ptr 10 v10a 0 ∧ t 11 = .int .i64 s11a ∧ t 12 = .int .i64 s12a ∧ H 8 = some ⟨v8a, 34, [.int .i64 0, .sl true true 0 [], .int .i64 0, .sl true true 0 []], false, false⟩ ∧ H 10 = some ⟨v10a, 34, [.int .i64 r10_0a, .sl false false r10_1a.length (encL (eI .i64) r10_1a), .int .i64 r10_2a, .sl false false r10_3a.length (encL (eI .i64) r10_3a)], false, false⟩) (fun o x t H e => match o with | (s11ax, r10_0ax, r10_1ax, r10_2ax, r10_3ax) => x = .exit 0 ∧ ∃ v8ax : Nat, ∃ v10ax : Nat, t 8 = .ptr 8 v8ax 0 ∧ t 10 = .ptr 10 v10ax 0 ∧ t 11 = .int .i64 s11ax ∧ H 8 = some ⟨v8ax, 34, [.int .i64 0, .sl true true 0 [], .int .i64 0, .sl true true 0 []], false, false⟩ ∧ H 10 = some ⟨v10ax, 34, [.int .i64 r10_0ax, .sl false false r10_1ax.length (encL (eI .i64) r10_1ax), .int .i64 r10_2ax, .sl false false r10_3ax.length (encL (eI .i64) r10_3ax)], false, false⟩) ho19 ?_ ?_ ?_
  ·
    refine ⟨0, 1, ?_, ?_, ?_, ?_, ?_, ?_, ?_, ?_, ?_, ?_⟩
    all_goals (first | rfl | (simp only [x_l44_orders, seval, -Int.reduceToNat, hr1] <;> rfl))
  · rintro ⟨s11a, s12a, r10_0a, r10_1a, r10_2a, r10_3a⟩ t H e ⟨v8a, v10a, t0a, t1a, t2a, t3a, t8a, t10a, t11a, t12a, H8a, H10a⟩ c hh
    simp only [l44_orders_L1] at hh
    try simp only [x_l44_orders, seval, -Int.reduceToNat, hr1, t0a, t1a, t2a, t3a, t8a, t10a, t11a, t12a, H8a, H10a]
    refine tstC_br (fun hb20 => ?_) (fun hb20 => ?_)
    · replace hh := ite_t hb20 hh
      obtain ⟨x21, hx21, hh⟩ := bindS hh
      obtain ⟨q22a, q22b⟩ := shrI_ok hx21
      try simp only [x_l44_orders, seval, -Int.reduceToNat, hr1, t0a, t1a, t2a, t3a, t8a, t10a, t11a, t12a, H8a, H10a, q22a, q22b]
      refine tstC_br (fun hb23 => ?_) (fun hb23 => ?_)
      · replace hh := ite_t hb23 hh
        cases hh
        try simp only [x_l44_orders, seval, -Int.reduceToNat, hr1, t0a, t1a, t2a, t3a, t8a, t10a, t11a, t12a, H8a, H10a, q22a, q22b]
        rw [LK_normal]
        refine ⟨_, rfl, ?_⟩
        refine ⟨v8a, v10a, ?_, ?_, ?_, ?_, ?_, ?_, ?_, ?_, ?_, ?_⟩
        all_goals (first | rfl | (simp only [x_l44_orders, seval, -Int.reduceToNat, hr1, t0a, t1a, t2a, t3a, t8a, t10a, t11a, t12a, H8a, H10a, q22a, q22b] <;> rfl))
      · replace hh := ite_f hb23 hh
        obtain ⟨x24, hx24, hh⟩ := bindS hh
        obtain ⟨q25a, q25b⟩ := shlI_ok hx24
        obtain ⟨r26, hr26, hh⟩ := bindS hh
        try simp only [x_l44_orders, seval, -Int.reduceToNat, hr1, t0a, t1a, t2a, t3a, t8a, t10a, t11a, t12a, H8a, H10a, q22a, q22b, q25a, q25b, hr26]
        obtain ⟨o27, ho27, hh⟩ := bindS hh
        refine tstC_cut 0 (fun s t H e => match s with | (r13_0j3, r13_1j3, r13_2j3, r13_3j3) => ∃ v8j3 : Nat, ∃ v10j3 : Nat, ∃ v13j3 : Nat, t 0 = .sl false false p0.length (encL eTFrac p0) ∧ t 1 = .int .i64 p1 ∧ t 2 = .int .i64 p2 ∧ t 3 = .int .i64 p3 ∧ t 8 = .ptr 8 v8j3 0 ∧ t 10 = .ptr 10 v10j3 0 ∧ t 11 = .int .i64 s11a ∧ t 12 = .int .i64 s12a ∧ t 13 = .ptr 13 v13j3 0 ∧ t 14 = .int .i64 r26.2 ∧ H 8 = some ⟨v8j3, 34, [.int .i64 0, .sl true true 0 [], .int .i64 0, .sl true true 0 []], false, false⟩ ∧ H 10 = some ⟨v10j3, 34, [.int .i64 r10_0a, .sl false false r10_1a.length (encL (eI .i64) r10_1a), .int .i64 r10_2a, .sl false false r10_3a.length (encL (eI .i64) r10_3a)], false, false⟩ ∧ H 13 = some ⟨v13j3, 34, [.int .i64 r13_0j3, .sl false false r13_1j3.length (encL (eI .i64) r13_1j3), .int .i64 r13_2j3, .sl false false r13_3j3.length (encL (eI .i64) r13_3j3)], false, false⟩) (fun s => s = o27) ?_ ?_
        · rintro ⟨r13_0j3, r13_1j3, r13_2j3, r13_3j3⟩ t H e ⟨v8j3, v10j3, v13j3, t0j3, t1j3, t2j3, t3j3, t8j3, t10j3, t11j3, t12j3, t13j3, t14j3, H8j3, H10j3, H13j3⟩ rfl
          try dsimp only at hh
          obtain ⟨r28, hr28, hh⟩ := bindS hh
          cases hh
          try simp only [x_l44_orders, seval, -Int.reduceToNat, hr1, q22a, q22b, q25a, q25b, hr26, t0j3, t1j3, t2j3, t3j3, t8j3, t10j3, t11j3, t12j3, t13j3, t14j3, H8j3, H10j3, H13j3, hr28]
          rw [LK_normal]
          refine ⟨_, rfl, ?_⟩
          refine ⟨v8j3, v10j3, ?_, ?_, ?_, ?_, ?_, ?_, ?_, ?_, ?_, ?_⟩
          all_goals (first | rfl | (simp only [x_l44_orders, seval, -Int.reduceToNat, hr1, q22a, q22b, q25a, q25b, hr26, t0j3, t1j3, t2j3, t3j3, t8j3, t10j3, t11j3, t12j3, t13j3, t14j3, H8j3, H10j3, H13j3, hr28] <;> rfl))
        ·
          clear hh
          have hh := ho27
          try simp only [x_l44_orders, seval, -Int.reduceToNat, hr1, t0a, t1a, t2a, t3a, t8a, t10a, t11a, t12a, H8a, H10a, q22a, q22b, q25a, q25b, hr26]
          refine tstC_br (fun hb29 => ?_) (fun hb29 => ?_)
          · replace hh := ite_t hb29 hh
            obtain ⟨q30a, q30b⟩ := shlI_ok hx24
            obtain ⟨x31, hx31, hh⟩ := bindS hh
            have bx31 := idx_bd hx31
            have ax31 := idx_enc eTFrac hx31
            have fx31 := idx_fit eTFrac hx31
            simp only [vmz] at ax31 fx31
            skip
            obtain ⟨x32, hx32, hh⟩ := bindS hh
            have bx32 := idx_bd hx32
            have ax32 := idx_enc eTFrac hx32
            have fx32 := idx_fit eTFrac hx32
            simp only [vmz] at ax32 fx32
            skip
            obtain ⟨r33, hr33, hh⟩ := bindS hh
            try simp only [x_l44_orders, seval, -Int.reduceToNat, hr1, t0a, t1a, t2a, t3a, t8a, t10a, t11a, t12a, H8a, H10a, q22a, q22b, q25a, q25b, hr26, q30a, q30b, bx31, ax31, fx31, bx32, ax32, fx32, hr33]
            refine dyn_ok (by kernel_rfl) ?_
            obtain ⟨r34, hr34, hh⟩ := bindS hh
            obtain ⟨r35, hr35, hh⟩ := bindS hh
            try simp only [x_l44_orders, seval, -Int.reduceToNat, hr1, t0a, t1a, t2a, t3a, t8a, t10a, t11a, t12a, H8a, H10a, q22a, q22b, q25a, q25b, hr26, q30a, q30b, bx31, ax31, fx31, bx32, ax32, fx32, hr33, hr34, hr35]
            refine dyn_ok (by kernel_rfl) ?_
            obtain ⟨r36, hr36, hh⟩ := bindS hh
            cases hh
            try simp only [x_l44_orders, seval, -Int.reduceToNat, hr1, t0a, t1a, t2a, t3a, t8a, t10a, t11a, t12a, H8a, H10a, q22a, q22b, q25a, q25b, hr26, q30a, q30b, bx31, ax31, fx31, bx32, ax32, fx32, hr33, hr34, hr35, hr36]
            rw [CK_normal]
            refine ⟨_, rfl, ?_⟩
            refine ⟨v8a, v10a, e + 1 + 1, ?_, ?_, ?_, ?_, ?_, ?_, ?_, ?_, ?_, ?_, ?_, ?_, ?_⟩
            all_goals (first | rfl | (simp only [x_l44_orders, seval, -Int.reduceToNat, hr1, t0a, t1a, t2a, t3a, t8a, t10a, t11a, t12a, H8a, H10a, q22a, q22b, q25a, q25b, hr26, q30a, q30b, bx31, ax31, fx31, bx32, ax32, fx32, hr33, hr34, hr35, hr36] <;> rfl))
          · replace hh := ite_f hb29 hh
            cases hh
            try simp only [x_l44_orders, seval, -Int.reduceToNat, hr1, t0a, t1a, t2a, t3a, t8a, t10a, t11a, t12a, H8a, H10a, q22a, q22b, q25a, q25b, hr26]
            rw [CK_normal]
            refine ⟨_, rfl, ?_⟩
            refine ⟨v8a, v10a, e + 1 + 1, ?_, ?_, ?_, ?_, ?_, ?_, ?_, ?_, ?_, ?_, ?_, ?_, ?_⟩
            all_goals (first | rfl | (simp only [x_l44_orders, seval, -Int.reduceToNat, hr1, t0a, t1a, t2a, t3a, t8a, t10a, t11a, t12a, H8a, H10a, q22a, q22b, q25a, q25b, hr26] <;> rfl))
    · replace hh := ite_f hb20 hh
      cases hh
      try simp only [x_l44_orders, seval, -Int.reduceToNat, hr1, t0a, t1a, t2a, t3a, t8a, t10a, t11a, t12a, H8a, H10a]
      rw [LK_exit]
      refine ⟨_, rfl, ?_⟩
      refine ⟨rfl, ⟨v8a, v10a, ?_, ?_, ?_, ?_, ?_⟩⟩
      all_goals (first | rfl | (simp only [x_l44_orders, seval, -Int.reduceToNat, hr1, t0a, t1a, t2a, t3a, t8a, t10a, t11a, t12a, H8a, H10a] <;> rfl))
  · rintro x t H e hx
    rcases o19 with ⟨s11ax, r10_0ax, r10_1ax, r10_2ax, r10_3ax⟩
    dsimp only at hx hh
    obtain ⟨rfl, ⟨v8ax, v10ax, t8ax, t10ax, t11ax, H8ax, H10ax⟩⟩ := hx
    try simp only [x_l44_orders, seval, -Int.reduceToNat, hr1, t8ax, t10ax, t11ax, H8ax, H10ax]
    refine tstC_br (fun hb37 => ?_) (fun hb37 => ?_)
    · replace hh := ite_t hb37 hh
      cases hh
      try simp only [x_l44_orders, seval, -Int.reduceToNat, hr1, t8ax, t10ax, t11ax, H8ax, H10ax]
    · replace hh := ite_f hb37 hh
      cases hh
      try simp only [x_l44_orders, seval, -Int.reduceToNat, hr1, t8ax, t10ax, t11ax, H8ax, H10ax]

theorem ok_l44_orders : ∀ n, COk Try.prog 27 (G_l44_orders n)
  | 0 => COk.zero Try.func27 ⟨by kernel_rfl, by kernel_rfl⟩ (fun _ => rfl)
  | n + 1 => COk.of (mode := .clean) tok (ge_l44_orders n (ok_l44_orders n)) mixed Try.func27 (by kernel_rfl) ⟨by kernel_rfl, by kernel_rfl⟩ (fun _ => Nat.le_of_ble_eq_true (by kernel_rfl)) (fun x r h => m_l44_orders n x.1 x.2.1 x.2.2.1 x.2.2.2 r h)

noncomputable def G_l44_BridgeOrders := mkG (asC (aSl eTFrac) (as1 (aI .u8))) (fun x : (List TFrac) × Int => l44_BridgeOrders x.1 x.2) (fun r : Bool => .clean (.bool r))

theorem q_l44_BridgeOrders (p0 : (List TFrac)) (p1 : Int) : G_l44_BridgeOrders none [.sl false false p0.length (encL eTFrac p0), .int .u8 p1] = (l44_BridgeOrders p0 p1).map fun r : Bool => (.clean (.bool r), none) := mkG_eq _ _ _ (p0, p1)

noncomputable def g_l44_BridgeOrders : Env := (Am.ext (Am.ext (Am.ext (Am.ext (Am.ext (Am.ext (Am.ext noEnv 13 false G_l44_small) 14 false G_l44_edits) 16 false G_bridge_Shares) 19 false G_r05_Same) 27 false (G_l44_orders 100)) 28 false G_frac_Div) 29 false G_r05_Int)

theorem ge_l44_BridgeOrders : GOk Try.prog g_l44_BridgeOrders := (((((((GOk.none.add ok_l44_small false).add ok_l44_edits false).add ok_bridge_Shares false).add ok_r05_Same false).add (ok_l44_orders 100) false).add ok_frac_Div false).add ok_r05_Int false)

theorem gg_l44_BridgeOrders : g_l44_BridgeOrders = (Am.ext (Am.ext (Am.ext (Am.ext (Am.ext (Am.ext (Am.ext noEnv 13 false G_l44_small) 14 false G_l44_edits) 16 false G_bridge_Shares) 19 false G_r05_Same) 27 false (G_l44_orders 100)) 28 false G_frac_Div) 29 false G_r05_Int) := Eq.trans rfl rfl

theorem x_l44_BridgeOrders : type_of% (And.intro @w <| And.intro @q_l44_small <| And.intro @q_l44_edits <| And.intro @q_bridge_Shares <| And.intro @q_r05_Same <| And.intro @q_l44_orders <| And.intro @q_frac_Div <| And.intro @q_r05_Int <| @gg_l44_BridgeOrders) := And.intro @w <| And.intro @q_l44_small <| And.intro @q_l44_edits <| And.intro @q_bridge_Shares <| And.intro @q_r05_Same <| And.intro @q_l44_orders <| And.intro @q_frac_Div <| And.intro @q_r05_Int <| @gg_l44_BridgeOrders

theorem m_l44_BridgeOrders (p0 : (List TFrac)) (p1 : Int) (r : Bool) (hh : l44_BridgeOrders p0 p1 = some r) : vfunc .clean tab g_l44_BridgeOrders FU Try.f6 none [.sl false false p0.length (encL eTFrac p0), .int .u8 p1] = some (.clean (.bool r), none) := by
  refine vfunc_of rfl Try.ntmps6 Try.results6 ?_
  unfold l44_BridgeOrders at hh
  obtain ⟨r1, hr1, hh⟩ := bindS hh
  obtain ⟨r2, hr2, hh⟩ := bindS hh
  try simp only [x_l44_BridgeOrders, seval, -Int.reduceToNat, hr1, hr2]
  refine tstC_br (fun hb3 => ?_) (fun hb3 => ?_)
  · replace hh := ite_t hb3 hh
    cases hh
    try simp only [x_l44_BridgeOrders, seval, -Int.reduceToNat, hr1, hr2]
  · replace hh := ite_f hb3 hh
    obtain ⟨x4, hx4, hh⟩ := bindS hh
    obtain ⟨q5a, q5b⟩ := modI_ok hx4
    obtain ⟨r6, hr6, hh⟩ := bindS hh
    obtain ⟨r7, hr7, hh⟩ := bindS hh
    obtain ⟨r8, hr8, hh⟩ := bindS hh
    obtain ⟨r9, hr9, hh⟩ := bindS hh
    try simp only [x_l44_BridgeOrders, seval, -Int.reduceToNat, hr1, hr2, q5a, q5b, hr6, hr7, hr8, hr9]
    refine dyn_ok (by kernel_rfl) ?_
    try simp only [x_l44_BridgeOrders, seval, -Int.reduceToNat, hr1, hr2, q5a, q5b, hr6, hr7, hr8, hr9]
    refine tstP_br (fun hb10 => ?_) (fun hb10 => ?_)
    · replace hh := ite_t hb10 hh
      try simp only [x_l44_BridgeOrders, seval, -Int.reduceToNat, hr1, hr2, q5a, q5b, hr6, hr7, hr8, hr9]
      refine tstP_br (fun hb11 => ?_) (fun hb11 => ?_)
      · replace hh := ite_t hb11 hh
        try simp only [x_l44_BridgeOrders, seval, -Int.reduceToNat, hr1, hr2, q5a, q5b, hr6, hr7, hr8, hr9]
        refine tstP_br (fun hb12 => ?_) (fun hb12 => ?_)
        · replace hh := ite_t hb12 hh
          try simp only [x_l44_BridgeOrders, seval, -Int.reduceToNat, hr1, hr2, q5a, q5b, hr6, hr7, hr8, hr9]
          refine tstP_br (fun hb13 => ?_) (fun hb13 => ?_)
          · replace hh := ite_t hb13 hh
            obtain ⟨x14, hx14, hh⟩ := bindS hh
            have bx14 := idx_bd hx14
            have ax14 := idx_enc eTFrac hx14
            have fx14 := idx_fit eTFrac hx14
            simp only [vmz] at ax14 fx14
            skip
            obtain ⟨r15, hr15, hh⟩ := bindS hh
            try simp only [x_l44_BridgeOrders, seval, -Int.reduceToNat, hr1, hr2, q5a, q5b, hr6, hr7, hr8, hr9, bx14, ax14, fx14, hr15]
            refine dyn_ok (by kernel_rfl) ?_
            cases hh
            try simp only [x_l44_BridgeOrders, seval, -Int.reduceToNat, hr1, hr2, q5a, q5b, hr6, hr7, hr8, hr9, bx14, ax14, fx14, hr15]
          · replace hh := ite_f hb13 hh
            try simp only [x_l44_BridgeOrders, seval, -Int.reduceToNat, hr1, hr2, q5a, q5b, hr6, hr7, hr8, hr9]
            refine dyn_ok (by kernel_rfl) ?_
            cases hh
            try simp only [x_l44_BridgeOrders, seval, -Int.reduceToNat, hr1, hr2, q5a, q5b, hr6, hr7, hr8, hr9]
        · replace hh := ite_f hb12 hh
          try simp only [x_l44_BridgeOrders, seval, -Int.reduceToNat, hr1, hr2, q5a, q5b, hr6, hr7, hr8, hr9]
          refine dyn_ok (by kernel_rfl) ?_
          cases hh
          try simp only [x_l44_BridgeOrders, seval, -Int.reduceToNat, hr1, hr2, q5a, q5b, hr6, hr7, hr8, hr9]
      · replace hh := ite_f hb11 hh
        try simp only [x_l44_BridgeOrders, seval, -Int.reduceToNat, hr1, hr2, q5a, q5b, hr6, hr7, hr8, hr9]
        refine dyn_ok (by kernel_rfl) ?_
        cases hh
        try simp only [x_l44_BridgeOrders, seval, -Int.reduceToNat, hr1, hr2, q5a, q5b, hr6, hr7, hr8, hr9]
    · replace hh := ite_f hb10 hh
      try simp only [x_l44_BridgeOrders, seval, -Int.reduceToNat, hr1, hr2, q5a, q5b, hr6, hr7, hr8, hr9]
      refine dyn_ok (by kernel_rfl) ?_
      cases hh
      try simp only [x_l44_BridgeOrders, seval, -Int.reduceToNat, hr1, hr2, q5a, q5b, hr6, hr7, hr8, hr9]

theorem ok_l44_BridgeOrders : COk Try.prog 6 G_l44_BridgeOrders := COk.of (mode := .clean) tok ge_l44_BridgeOrders mixed Try.func6 (by kernel_rfl) ⟨by kernel_rfl, by kernel_rfl⟩ (fun _ => Nat.le_of_ble_eq_true (by kernel_rfl)) (fun x r h => m_l44_BridgeOrders x.1 x.2 r h)

noncomputable def G_frac_slim := mkG (as1 (aAgg eTBig)) (fun x : TBig => frac_slim x) (fun r : TBig => .clean (.agg [.int .i64 r.f_Sign, .sl false false r.f_Digits.length (encL (eI .i64) r.f_Digits)]))

theorem q_frac_slim (p0_0 : Int) (p0_1 : (List Int)) : G_frac_slim none [.agg [.int .i64 p0_0, .sl false false p0_1.length (encL (eI .i64) p0_1)]] = (frac_slim (TBig.mk p0_0 p0_1)).map fun r : TBig => (.clean (.agg [.int .i64 r.f_Sign, .sl false false r.f_Digits.length (encL (eI .i64) r.f_Digits)]), none) := mkG_eq _ _ _ ((TBig.mk p0_0 p0_1))

noncomputable def g_frac_slim : Env := (Am.ext noEnv 55 false G_big_Neg)

theorem ge_frac_slim : GOk Try.prog g_frac_slim := (GOk.none.add ok_big_Neg false)

theorem gg_frac_slim : g_frac_slim = (Am.ext noEnv 55 false G_big_Neg) := Eq.trans rfl rfl

theorem x_frac_slim : type_of% (And.intro @w <| And.intro @q_big_Neg <| @gg_frac_slim) := And.intro @w <| And.intro @q_big_Neg <| @gg_frac_slim

theorem m_frac_slim (p0 : TBig) (r : TBig) (hh : frac_slim p0 = some r) : vfunc .clean tab g_frac_slim FU Try.f102 none [.agg [.int .i64 p0.f_Sign, .sl false false p0.f_Digits.length (encL (eI .i64) p0.f_Digits)]] = some (.clean (.agg [.int .i64 r.f_Sign, .sl false false r.f_Digits.length (encL (eI .i64) r.f_Digits)]), none) := by
  refine vfunc_of rfl Try.ntmps102 Try.results102 ?_
  unfold frac_slim at hh
  obtain ⟨r1, hr1, hh⟩ := bindS hh
  obtain ⟨r2, hr2, hh⟩ := bindS hh
  cases hh
  try simp only [x_frac_slim, seval, -Int.reduceToNat, hr1, hr2]

theorem ok_frac_slim : COk Try.prog 102 G_frac_slim := COk.of (mode := .clean) tok ge_frac_slim mixed Try.func102 (by kernel_rfl) ⟨by kernel_rfl, by kernel_rfl⟩ (fun _ => Nat.le_of_ble_eq_true (by kernel_rfl)) (fun x r h => m_frac_slim x r h)

noncomputable def G_frac_either := mkG (asC (aAgg eTFrac) (asC (aAgg eTFrac) (as1 (aI .i64)))) (fun x : TFrac × TFrac × Int => frac_either x.1 x.2.1 x.2.2) (fun r : TFrac × Int => .clean (.tup [.agg [.int .i64 r.1.f_P.f_Sign, .sl false false r.1.f_P.f_Digits.length (encL (eI .i64) r.1.f_P.f_Digits), .int .i64 r.1.f_Q.f_Sign, .sl false false r.1.f_Q.f_Digits.length (encL (eI .i64) r.1.f_Q.f_Digits)], .int .i64 r.2]))

theorem q_frac_either (p0_0 : Int) (p0_1 : (List Int)) (p0_2 : Int) (p0_3 : (List Int)) (p1_0 : Int) (p1_1 : (List Int)) (p1_2 : Int) (p1_3 : (List Int)) (p2 : Int) : G_frac_either none [.agg [.int .i64 p0_0, .sl false false p0_1.length (encL (eI .i64) p0_1), .int .i64 p0_2, .sl false false p0_3.length (encL (eI .i64) p0_3)], .agg [.int .i64 p1_0, .sl false false p1_1.length (encL (eI .i64) p1_1), .int .i64 p1_2, .sl false false p1_3.length (encL (eI .i64) p1_3)], .int .i64 p2] = (frac_either (TFrac.mk (TBig.mk p0_0 p0_1) (TBig.mk p0_2 p0_3)) (TFrac.mk (TBig.mk p1_0 p1_1) (TBig.mk p1_2 p1_3)) p2).map fun r : TFrac × Int => (.clean (.tup [.agg [.int .i64 r.1.f_P.f_Sign, .sl false false r.1.f_P.f_Digits.length (encL (eI .i64) r.1.f_P.f_Digits), .int .i64 r.1.f_Q.f_Sign, .sl false false r.1.f_Q.f_Digits.length (encL (eI .i64) r.1.f_Q.f_Digits)], .int .i64 r.2]), none) := mkG_eq _ _ _ ((TFrac.mk (TBig.mk p0_0 p0_1) (TBig.mk p0_2 p0_3)), (TFrac.mk (TBig.mk p1_0 p1_1) (TBig.mk p1_2 p1_3)), p2)

noncomputable def g_frac_either : Env := (Am.ext (Am.ext (Am.ext noEnv 24 false G_frac_Right) 32 false G_frac_Compare) 102 false G_frac_slim)

theorem ge_frac_either : GOk Try.prog g_frac_either := (((GOk.none.add ok_frac_Right false).add ok_frac_Compare false).add ok_frac_slim false)

theorem gg_frac_either : g_frac_either = (Am.ext (Am.ext (Am.ext noEnv 24 false G_frac_Right) 32 false G_frac_Compare) 102 false G_frac_slim) := Eq.trans rfl rfl

theorem x_frac_either : type_of% (And.intro @w <| And.intro @q_frac_Right <| And.intro @q_frac_Compare <| And.intro @q_frac_slim <| @gg_frac_either) := And.intro @w <| And.intro @q_frac_Right <| And.intro @q_frac_Compare <| And.intro @q_frac_slim <| @gg_frac_either

theorem m_frac_either (p0 : TFrac) (p1 : TFrac) (p2 : Int) (r : TFrac × Int) (hh : frac_either p0 p1 p2 = some r) : vfunc .clean tab g_frac_either FU Try.f65 none [.agg [.int .i64 p0.f_P.f_Sign, .sl false false p0.f_P.f_Digits.length (encL (eI .i64) p0.f_P.f_Digits), .int .i64 p0.f_Q.f_Sign, .sl false false p0.f_Q.f_Digits.length (encL (eI .i64) p0.f_Q.f_Digits)], .agg [.int .i64 p1.f_P.f_Sign, .sl false false p1.f_P.f_Digits.length (encL (eI .i64) p1.f_P.f_Digits), .int .i64 p1.f_Q.f_Sign, .sl false false p1.f_Q.f_Digits.length (encL (eI .i64) p1.f_Q.f_Digits)], .int .i64 p2] = some (.clean (.tup [.agg [.int .i64 r.1.f_P.f_Sign, .sl false false r.1.f_P.f_Digits.length (encL (eI .i64) r.1.f_P.f_Digits), .int .i64 r.1.f_Q.f_Sign, .sl false false r.1.f_Q.f_Digits.length (encL (eI .i64) r.1.f_Q.f_Digits)], .int .i64 r.2]), none) := by
  refine vfunc_of rfl Try.ntmps65 Try.results65 ?_
  unfold frac_either at hh
  obtain ⟨r1, hr1, hh⟩ := bindS hh
  try simp only [x_frac_either, seval, -Int.reduceToNat, hr1]
  obtain ⟨o2, ho2, hh⟩ := bindS hh
  refine tstO_cut 0 (fun s t H e => match s with | s15j1 => ∃ v3j1 : Nat, ∃ v4j1 : Nat, ∃ v6j1 : Nat, t 2 = .int .i64 p2 ∧ t 3 = .ptr 3 v3j1 0 ∧ t 4 = .ptr 4 v4j1 0 ∧ t 6 = .ptr 6 v6j1 0 ∧ t 15 = .bool s15j1 ∧ H 3 = some ⟨v3j1, 34, [.int .i64 p0.f_P.f_Sign, .sl false false p0.f_P.f_Digits.length (encL (eI .i64) p0.f_P.f_Digits), .int .i64 p0.f_Q.f_Sign, .sl false false p0.f_Q.f_Digits.length (encL (eI .i64) p0.f_Q.f_Digits)], false, false⟩ ∧ H 4 = some ⟨v4j1, 34, [.int .i64 p1.f_P.f_Sign, .sl false false p1.f_P.f_Digits.length (encL (eI .i64) p1.f_P.f_Digits), .int .i64 p1.f_Q.f_Sign, .sl false false p1.f_Q.f_Digits.length (encL (eI .i64) p1.f_Q.f_Digits)], false, false⟩ ∧ H 6 = some ⟨v6j1, 34, [.int .i64 0, .sl true true 0 [], .int .i64 0, .sl true true 0 []], false, false⟩) (fun s => s = o2) ?_ ?_
  · rintro s15j1 t H e ⟨v3j1, v4j1, v6j1, t2j1, t3j1, t4j1, t6j1, t15j1, H3j1, H4j1, H6j1⟩ rfl
    try dsimp only at hh
    try simp only [x_frac_either, seval, -Int.reduceToNat, hr1, t2j1, t3j1, t4j1, t6j1, t15j1, H3j1, H4j1, H6j1]
    refine tstC_br (fun hb3 => ?_) (fun hb3 => ?_)
    · replace hh := ite_t hb3 hh
      cases hh
      try simp only [x_frac_either, seval, -Int.reduceToNat, hr1, t2j1, t3j1, t4j1, t6j1, t15j1, H3j1, H4j1, H6j1]
    · replace hh := ite_f hb3 hh
      obtain ⟨r4, hr4, hh⟩ := bindS hh
      try simp only [x_frac_either, seval, -Int.reduceToNat, hr1, t2j1, t3j1, t4j1, t6j1, t15j1, H3j1, H4j1, H6j1, hr4]
      refine tstC_br (fun hb5 => ?_) (fun hb5 => ?_)
      · replace hh := ite_t hb5 hh
        obtain ⟨r6, hr6, hh⟩ := bindS hh
        obtain ⟨r7, hr7, hh⟩ := bindS hh
        try simp only [x_frac_either, seval, -Int.reduceToNat, hr1, t2j1, t3j1, t4j1, t6j1, t15j1, H3j1, H4j1, H6j1, hr4, hr6, hr7]
        refine dyn_ok (by kernel_rfl) ?_
        cases hh
        try simp only [x_frac_either, seval, -Int.reduceToNat, hr1, t2j1, t3j1, t4j1, t6j1, t15j1, H3j1, H4j1, H6j1, hr4, hr6, hr7]
      · replace hh := ite_f hb5 hh
        obtain ⟨r8, hr8, hh⟩ := bindS hh
        obtain ⟨r9, hr9, hh⟩ := bindS hh
        try simp only [x_frac_either, seval, -Int.reduceToNat, hr1, t2j1, t3j1, t4j1, t6j1, t15j1, H3j1, H4j1, H6j1, hr4, hr8, hr9]
        refine dyn_ok (by kernel_rfl) ?_
        cases hh
        try simp only [x_frac_either, seval, -Int.reduceToNat, hr1, t2j1, t3j1, t4j1, t6j1, t15j1, H3j1, H4j1, H6j1, hr4, hr8, hr9]
  ·
    clear hh
    have hh := ho2
    try simp only [x_frac_either, seval, -Int.reduceToNat, hr1]
    refine tstO_br' (fun hb10 => ?_) (fun hb10 => ?_)
    · replace hh := ite_t hb10 hh
      cases hh
      try simp only [x_frac_either, seval, -Int.reduceToNat, hr1]
      rw [CK_normal]
      refine ⟨_, rfl, ?_⟩
      refine ⟨0, 0, 0, ?_, ?_, ?_, ?_, ?_, ?_, ?_, ?_⟩
      all_goals (first | rfl | (simp only [x_frac_either, seval, -Int.reduceToNat, hr1] <;> rfl))
    · replace hh := ite_f hb10 hh
      obtain ⟨r11, hr11, hh⟩ := bindS hh
      cases hh
      try simp only [x_frac_either, seval, -Int.reduceToNat, hr1, hr11]
      rw [CK_normal]
      refine ⟨_, rfl, ?_⟩
      refine ⟨0, 0, 0, ?_, ?_, ?_, ?_, ?_, ?_, ?_, ?_⟩
      all_goals (first | rfl | (simp only [x_frac_either, seval, -Int.reduceToNat, hr1, hr11] <;> rfl))

theorem ok_frac_either : COk Try.prog 65 G_frac_either := COk.of (mode := .clean) tok ge_frac_either mixed Try.func65 (by kernel_rfl) ⟨by kernel_rfl, by kernel_rfl⟩ (fun _ => Nat.le_of_ble_eq_true (by kernel_rfl)) (fun x r h => m_frac_either x.1 x.2.1 x.2.2 r h)

noncomputable def G_frac_Min := mkG (asC (aAgg eTFrac) (as1 (aAgg eTFrac))) (fun x : TFrac × TFrac => frac_Min x.1 x.2) (fun r : TFrac × Int => .clean (.tup [.agg [.int .i64 r.1.f_P.f_Sign, .sl false false r.1.f_P.f_Digits.length (encL (eI .i64) r.1.f_P.f_Digits), .int .i64 r.1.f_Q.f_Sign, .sl false false r.1.f_Q.f_Digits.length (encL (eI .i64) r.1.f_Q.f_Digits)], .int .i64 r.2]))

theorem q_frac_Min (p0_0 : Int) (p0_1 : (List Int)) (p0_2 : Int) (p0_3 : (List Int)) (p1_0 : Int) (p1_1 : (List Int)) (p1_2 : Int) (p1_3 : (List Int)) : G_frac_Min none [.agg [.int .i64 p0_0, .sl false false p0_1.length (encL (eI .i64) p0_1), .int .i64 p0_2, .sl false false p0_3.length (encL (eI .i64) p0_3)], .agg [.int .i64 p1_0, .sl false false p1_1.length (encL (eI .i64) p1_1), .int .i64 p1_2, .sl false false p1_3.length (encL (eI .i64) p1_3)]] = (frac_Min (TFrac.mk (TBig.mk p0_0 p0_1) (TBig.mk p0_2 p0_3)) (TFrac.mk (TBig.mk p1_0 p1_1) (TBig.mk p1_2 p1_3))).map fun r : TFrac × Int => (.clean (.tup [.agg [.int .i64 r.1.f_P.f_Sign, .sl false false r.1.f_P.f_Digits.length (encL (eI .i64) r.1.f_P.f_Digits), .int .i64 r.1.f_Q.f_Sign, .sl false false r.1.f_Q.f_Digits.length (encL (eI .i64) r.1.f_Q.f_Digits)], .int .i64 r.2]), none) := mkG_eq _ _ _ ((TFrac.mk (TBig.mk p0_0 p0_1) (TBig.mk p0_2 p0_3)), (TFrac.mk (TBig.mk p1_0 p1_1) (TBig.mk p1_2 p1_3)))

noncomputable def g_frac_Min : Env := (Am.ext noEnv 65 false G_frac_either)

theorem ge_frac_Min : GOk Try.prog g_frac_Min := (GOk.none.add ok_frac_either false)

theorem gg_frac_Min : g_frac_Min = (Am.ext noEnv 65 false G_frac_either) := Eq.trans rfl rfl

theorem x_frac_Min : type_of% (And.intro @w <| And.intro @q_frac_either <| @gg_frac_Min) := And.intro @w <| And.intro @q_frac_either <| @gg_frac_Min

theorem m_frac_Min (p0 : TFrac) (p1 : TFrac) (r : TFrac × Int) (hh : frac_Min p0 p1 = some r) : vfunc .clean tab g_frac_Min FU Try.f30 none [.agg [.int .i64 p0.f_P.f_Sign, .sl false false p0.f_P.f_Digits.length (encL (eI .i64) p0.f_P.f_Digits), .int .i64 p0.f_Q.f_Sign, .sl false false p0.f_Q.f_Digits.length (encL (eI .i64) p0.f_Q.f_Digits)], .agg [.int .i64 p1.f_P.f_Sign, .sl false false p1.f_P.f_Digits.length (encL (eI .i64) p1.f_P.f_Digits), .int .i64 p1.f_Q.f_Sign, .sl false false p1.f_Q.f_Digits.length (encL (eI .i64) p1.f_Q.f_Digits)]] = some (.clean (.tup [.agg [.int .i64 r.1.f_P.f_Sign, .sl false false r.1.f_P.f_Digits.length (encL (eI .i64) r.1.f_P.f_Digits), .int .i64 r.1.f_Q.f_Sign, .sl false false r.1.f_Q.f_Digits.length (encL (eI .i64) r.1.f_Q.f_Digits)], .int .i64 r.2]), none) := by
  refine vfunc_of rfl Try.ntmps30 Try.results30 ?_
  unfold frac_Min at hh
  obtain ⟨r1, hr1, hh⟩ := bindS hh
  cases hh
  try simp only [x_frac_Min, seval, -Int.reduceToNat, hr1]

theorem ok_frac_Min : COk Try.prog 30 G_frac_Min := COk.of (mode := .clean) tok ge_frac_Min mixed Try.func30 (by kernel_rfl) ⟨by kernel_rfl, by kernel_rfl⟩ (fun _ => Nat.le_of_ble_eq_true (by kernel_rfl)) (fun x r h => m_frac_Min x.1 x.2 r h)

noncomputable def G_frac_Max := mkG (asC (aAgg eTFrac) (as1 (aAgg eTFrac))) (fun x : TFrac × TFrac => frac_Max x.1 x.2) (fun r : TFrac × Int => .clean (.tup [.agg [.int .i64 r.1.f_P.f_Sign, .sl false false r.1.f_P.f_Digits.length (encL (eI .i64) r.1.f_P.f_Digits), .int .i64 r.1.f_Q.f_Sign, .sl false false r.1.f_Q.f_Digits.length (encL (eI .i64) r.1.f_Q.f_Digits)], .int .i64 r.2]))

theorem q_frac_Max (p0_0 : Int) (p0_1 : (List Int)) (p0_2 : Int) (p0_3 : (List Int)) (p1_0 : Int) (p1_1 : (List Int)) (p1_2 : Int) (p1_3 : (List Int)) : G_frac_Max none [.agg [.int .i64 p0_0, .sl false false p0_1.length (encL (eI .i64) p0_1), .int .i64 p0_2, .sl false false p0_3.length (encL (eI .i64) p0_3)], .agg [.int .i64 p1_0, .sl false false p1_1.length (encL (eI .i64) p1_1), .int .i64 p1_2, .sl false false p1_3.length (encL (eI .i64) p1_3)]] = (frac_Max (TFrac.mk (TBig.mk p0_0 p0_1) (TBig.mk p0_2 p0_3)) (TFrac.mk (TBig.mk p1_0 p1_1) (TBig.mk p1_2 p1_3))).map fun r : TFrac × Int => (.clean (.tup [.agg [.int .i64 r.1.f_P.f_Sign, .sl false false r.1.f_P.f_Digits.length (encL (eI .i64) r.1.f_P.f_Digits), .int .i64 r.1.f_Q.f_Sign, .sl false false r.1.f_Q.f_Digits.length (encL (eI .i64) r.1.f_Q.f_Digits)], .int .i64 r.2]), none) := mkG_eq _ _ _ ((TFrac.mk (TBig.mk p0_0 p0_1) (TBig.mk p0_2 p0_3)), (TFrac.mk (TBig.mk p1_0 p1_1) (TBig.mk p1_2 p1_3)))

noncomputable def g_frac_Max : Env := (Am.ext noEnv 65 false G_frac_either)

theorem ge_frac_Max : GOk Try.prog g_frac_Max := (GOk.none.add ok_frac_either false)

theorem gg_frac_Max : g_frac_Max = (Am.ext noEnv 65 false G_frac_either) := Eq.trans rfl rfl

theorem x_frac_Max : type_of% (And.intro @w <| And.intro @q_frac_either <| @gg_frac_Max) := And.intro @w <| And.intro @q_frac_either <| @gg_frac_Max

theorem m_frac_Max (p0 : TFrac) (p1 : TFrac) (r : TFrac × Int) (hh : frac_Max p0 p1 = some r) : vfunc .clean tab g_frac_Max FU Try.f31 none [.agg [.int .i64 p0.f_P.f_Sign, .sl false false p0.f_P.f_Digits.length (encL (eI .i64) p0.f_P.f_Digits), .int .i64 p0.f_Q.f_Sign, .sl false false p0.f_Q.f_Digits.length (encL (eI .i64) p0.f_Q.f_Digits)], .agg [.int .i64 p1.f_P.f_Sign, .sl false false p1.f_P.f_Digits.length (encL (eI .i64) p1.f_P.f_Digits), .int .i64 p1.f_Q.f_Sign, .sl false false p1.f_Q.f_Digits.length (encL (eI .i64) p1.f_Q.f_Digits)]] = some (.clean (.tup [.agg [.int .i64 r.1.f_P.f_Sign, .sl false false r.1.f_P.f_Digits.length (encL (eI .i64) r.1.f_P.f_Digits), .int .i64 r.1.f_Q.f_Sign, .sl false false r.1.f_Q.f_Digits.length (encL (eI .i64) r.1.f_Q.f_Digits)], .int .i64 r.2]), none) := by
  refine vfunc_of rfl Try.ntmps31 Try.results31 ?_
  unfold frac_Max at hh
  obtain ⟨r1, hr1, hh⟩ := bindS hh
  cases hh
  try simp only [x_frac_Max, seval, -Int.reduceToNat, hr1]

theorem ok_frac_Max : COk Try.prog 31 G_frac_Max := COk.of (mode := .clean) tok ge_frac_Max mixed Try.func31 (by kernel_rfl) ⟨by kernel_rfl, by kernel_rfl⟩ (fun _ => Nat.le_of_ble_eq_true (by kernel_rfl)) (fun x r h => m_frac_Max x.1 x.2 r h)

noncomputable def G_l44_BridgeFair := mkG (asC (aSl eTFrac) (asC (aI .u8) (as1 (aI .u8)))) (fun x : (List TFrac) × Int × Int => l44_BridgeFair x.1 x.2.1 x.2.2) (fun r : Bool => .clean (.bool r))

theorem q_l44_BridgeFair (p0 : (List TFrac)) (p1 : Int) (p2 : Int) : G_l44_BridgeFair none [.sl false false p0.length (encL eTFrac p0), .int .u8 p1, .int .u8 p2] = (l44_BridgeFair p0 p1 p2).map fun r : Bool => (.clean (.bool r), none) := mkG_eq _ _ _ (p0, p1, p2)

noncomputable def g_l44_BridgeFair : Env := (Am.ext (Am.ext (Am.ext (Am.ext (Am.ext (Am.ext (Am.ext (Am.ext noEnv 13 false G_l44_small) 14 false G_l44_edits) 16 false G_bridge_Shares) 18 false G_frac_Sub) 19 false G_r05_Same) 30 false G_frac_Min) 31 false G_frac_Max) 32 false G_frac_Compare)

theorem ge_l44_BridgeFair : GOk Try.prog g_l44_BridgeFair := ((((((((GOk.none.add ok_l44_small false).add ok_l44_edits false).add ok_bridge_Shares false).add ok_frac_Sub false).add ok_r05_Same false).add ok_frac_Min false).add ok_frac_Max false).add ok_frac_Compare false)

theorem gg_l44_BridgeFair : g_l44_BridgeFair = (Am.ext (Am.ext (Am.ext (Am.ext (Am.ext (Am.ext (Am.ext (Am.ext noEnv 13 false G_l44_small) 14 false G_l44_edits) 16 false G_bridge_Shares) 18 false G_frac_Sub) 19 false G_r05_Same) 30 false G_frac_Min) 31 false G_frac_Max) 32 false G_frac_Compare) := Eq.trans rfl rfl

theorem x_l44_BridgeFair : type_of% (And.intro @w <| And.intro @q_l44_small <| And.intro @q_l44_edits <| And.intro @q_bridge_Shares <| And.intro @q_frac_Sub <| And.intro @q_r05_Same <| And.intro @q_frac_Min <| And.intro @q_frac_Max <| And.intro @q_frac_Compare <| @gg_l44_BridgeFair) := And.intro @w <| And.intro @q_l44_small <| And.intro @q_l44_edits <| And.intro @q_bridge_Shares <| And.intro @q_frac_Sub <| And.intro @q_r05_Same <| And.intro @q_frac_Min <| And.intro @q_frac_Max <| And.intro @q_frac_Compare <| @gg_l44_BridgeFair

theorem m_l44_BridgeFair (p0 : (List TFrac)) (p1 : Int) (p2 : Int) (r : Bool) (hh : l44_BridgeFair p0 p1 p2 = some r) : vfunc .clean tab g_l44_BridgeFair FU Try.f7 none [.sl false false p0.length (encL eTFrac p0), .int .u8 p1, .int .u8 p2] = some (.clean (.bool r), none) := by
  refine vfunc_of rfl Try.ntmps7 Try.results7 ?_
  unfold l44_BridgeFair at hh
  obtain ⟨r1, hr1, hh⟩ := bindS hh
  obtain ⟨r2, hr2, hh⟩ := bindS hh
  try simp only [x_l44_BridgeFair, seval, -Int.reduceToNat, hr1, hr2]
  refine tstC_br (fun hb3 => ?_) (fun hb3 => ?_)
  · replace hh := ite_t hb3 hh
    cases hh
    try simp only [x_l44_BridgeFair, seval, -Int.reduceToNat, hr1, hr2]
  · replace hh := ite_f hb3 hh
    obtain ⟨x4, hx4, hh⟩ := bindS hh
    obtain ⟨q5a, q5b⟩ := modI_ok hx4
    obtain ⟨x6, hx6, hh⟩ := bindS hh
    obtain ⟨q7a, q7b⟩ := modI_ok hx6
    obtain ⟨r8, hr8, hh⟩ := bindS hh
    try simp only [x_l44_BridgeFair, seval, -Int.reduceToNat, hr1, hr2, q5a, q5b, q7a, q7b, hr8]
    obtain ⟨o9, ho9, hh⟩ := bindS hh
    refine tstO_cut 0 (fun s t H e => match s with | s46j1 => t 0 = .sl false false p0.length (encL eTFrac p0) ∧ t 7 = .bool r1 ∧ t 9 = .int .i64 x4 ∧ t 10 = .int .i64 x6 ∧ t 11 = .sl false false r8.1.length (encL eTFrac r8.1) ∧ t 46 = .bool s46j1) (fun s => s = o9) ?_ ?_
    · rintro s46j1 t H e ⟨t0j1, t7j1, t9j1, t10j1, t11j1, t46j1⟩ rfl
      try dsimp only at hh
      try simp only [x_l44_BridgeFair, seval, -Int.reduceToNat, hr1, hr2, q5a, q5b, q7a, q7b, hr8, t0j1, t7j1, t9j1, t10j1, t11j1, t46j1]
      refine tstC_br (fun hb10 => ?_) (fun hb10 => ?_)
      · replace hh := ite_t hb10 hh
        cases hh
        try simp only [x_l44_BridgeFair, seval, -Int.reduceToNat, hr1, hr2, q5a, q5b, q7a, q7b, hr8, t0j1, t7j1, t9j1, t10j1, t11j1, t46j1]
      · replace hh := ite_f hb10 hh
        obtain ⟨x11, hx11, hh⟩ := bindS hh
        obtain ⟨q12a, q12b⟩ := shlI_ok hx11
        obtain ⟨x13, hx13, hh⟩ := bindS hh
        have bx13 := idx_bd hx13
        have ax13 := idx_enc eTFrac hx13
        have fx13 := idx_fit eTFrac hx13
        simp only [vmz] at ax13 fx13
        skip
        obtain ⟨x14, hx14, hh⟩ := bindS hh
        have bx14 := idx_bd hx14
        have ax14 := idx_enc eTFrac hx14
        have fx14 := idx_fit eTFrac hx14
        simp only [vmz] at ax14 fx14
        skip
        obtain ⟨r15, hr15, hh⟩ := bindS hh
        try simp only [x_l44_BridgeFair, seval, -Int.reduceToNat, hr1, hr2, q5a, q5b, q7a, q7b, hr8, t0j1, t7j1, t9j1, t10j1, t11j1, t46j1, q12a, q12b, bx13, ax13, fx13, bx14, ax14, fx14, hr15]
        refine dyn_ok (by kernel_rfl) ?_
        try simp only [x_l44_BridgeFair, seval, -Int.reduceToNat, hr1, hr2, q5a, q5b, q7a, q7b, hr8, t0j1, t7j1, t9j1, t10j1, t11j1, t46j1, q12a, q12b, bx13, ax13, fx13, bx14, ax14, fx14, hr15]
        obtain ⟨o36, ho36, hh⟩ := bindS hh
        refine runLoop_sim (fun s t H e => match s with | (s13b, s17b, r14_0b, r14_1b, r14_2b, r14_3b, r16_0b, r16_1b, r16_2b, r16_3b) => ∃ v14b : Nat, ∃ v16b : Nat, t 0 = .sl false false p0.length (encL eTFrac p0) ∧ t 7 = .bool r1 ∧ t 9 = .int .i64 x4 ∧ t 10 = .int .i64 x6 ∧ t 11 = .sl false false r8.1.length (encL eTFrac r8.1) ∧ t 13 = .bool s13b ∧ t 14 = .ptr 14 v14b 0 ∧ t 16 = .ptr 16 v16b 0 ∧ t 17 = .int .i64 s17b ∧ H 14 = some ⟨v14b, 34, [.int .i64 r14_0b, .sl false false r14_1b.length (encL (eI .i64) r14_1b), .int .i64 r14_2b, .sl false false r14_3b.length (encL (eI .i64) r14_3b)], false, false⟩ ∧ H 16 = some ⟨v16b, 34, [.int .i64 r16_0b, .sl false false r16_1b.length (encL (eI .i64) r16_1b), .int .i64 r16_2b, .sl false false r16_3b.length (encL (eI .i64) r16_3b)], false, false⟩) (fun o x t H e => match o with | (s13bx, r14_0bx, r14_1bx, r14_2bx, r14_3bx, r16_0bx, r16_1bx, r16_2bx, r16_3bx) => x = .exit 0 ∧ ∃ v14bx : Nat, ∃ v16bx : Nat, t 7 = .bool r1 ∧ t 9 = .int .i64 x4 ∧ t 10 = .int .i64 x6 ∧ t 11 = .sl false false r8.1.length (encL eTFrac r8.1) ∧ t 13 = .bool s13bx ∧ t 14 = .ptr 14 v14bx 0 ∧ t 16 = .ptr 16 v16bx 0 ∧ H 14 = some ⟨v14bx, 34, [.int .i64 r14_0bx, .sl false false r14_1bx.length (encL (eI .i64) r14_1bx), .int .i64 r14_2bx, .sl false false r14_3bx.length (encL (eI .i64) r14_3bx)], false, false⟩ ∧ H 16 = some ⟨v16bx, 34, [.int .i64 r16_0bx, .sl false false r16_1bx.length (encL (eI .i64) r16_1bx), .int .i64 r16_2bx, .sl false false r16_3bx.length (encL (eI .i64) r16_3bx)], false, false⟩) ho36 ?_ ?_ ?_
        ·
          refine ⟨e + 1, e + 1 + 1, ?_, ?_, ?_, ?_, ?_, ?_, ?_, ?_, ?_, ?_, ?_⟩
          all_goals (first | rfl | (simp only [x_l44_BridgeFair, seval, -Int.reduceToNat, hr1, hr2, q5a, q5b, q7a, q7b, hr8, t0j1, t7j1, t9j1, t10j1, t11j1, t46j1, q12a, q12b, bx13, ax13, fx13, bx14, ax14, fx14, hr15] <;> rfl))
        · rintro ⟨s13b, s17b, r14_0b, r14_1b, r14_2b, r14_3b, r16_0b, r16_1b, r16_2b, r16_3b⟩ t H e ⟨v14b, v16b, t0b, t7b, t9b, t10b, t11b, t13b, t14b, t16b, t17b, H14b, H16b⟩ c hh
          simp only [l44_BridgeFair_L2] at hh
          try simp only [x_l44_BridgeFair, seval, -Int.reduceToNat, hr1, hr2, q5a, q5b, q7a, q7b, hr8, q12a, q12b, bx13, ax13, fx13, bx14, ax14, fx14, hr15, t0b, t7b, t9b, t10b, t11b, t13b, t14b, t16b, t17b, H14b, H16b]
          refine tstC_br (fun hb37 => ?_) (fun hb37 => ?_)
          · replace hh := ite_t hb37 hh
            obtain ⟨x38, hx38, hh⟩ := bindS hh
            obtain ⟨q39a, q39b⟩ := shrI_ok hx38
            try simp only [x_l44_BridgeFair, seval, -Int.reduceToNat, hr1, hr2, q5a, q5b, q7a, q7b, hr8, q12a, q12b, bx13, ax13, fx13, bx14, ax14, fx14, hr15, t0b, t7b, t9b, t10b, t11b, t13b, t14b, t16b, t17b, H14b, H16b, q39a, q39b]
            refine tstC_br (fun hb40 => ?_) (fun hb40 => ?_)
            · replace hh := ite_t hb40 hh
              cases hh
              try simp only [x_l44_BridgeFair, seval, -Int.reduceToNat, hr1, hr2, q5a, q5b, q7a, q7b, hr8, q12a, q12b, bx13, ax13, fx13, bx14, ax14, fx14, hr15, t0b, t7b, t9b, t10b, t11b, t13b, t14b, t16b, t17b, H14b, H16b, q39a, q39b]
              rw [LK_normal]
              refine ⟨_, rfl, ?_⟩
              refine ⟨v14b, v16b, ?_, ?_, ?_, ?_, ?_, ?_, ?_, ?_, ?_, ?_, ?_⟩
              all_goals (first | rfl | (simp only [x_l44_BridgeFair, seval, -Int.reduceToNat, hr1, hr2, q5a, q5b, q7a, q7b, hr8, q12a, q12b, bx13, ax13, fx13, bx14, ax14, fx14, hr15, t0b, t7b, t9b, t10b, t11b, t13b, t14b, t16b, t17b, H14b, H16b, q39a, q39b] <;> rfl))
            · replace hh := ite_f hb40 hh
              obtain ⟨q41a, q41b⟩ := shlI_ok hx11
              obtain ⟨x42, hx42, hh⟩ := bindS hh
              have bx42 := idx_bd hx42
              have ax42 := idx_enc eTFrac hx42
              have fx42 := idx_fit eTFrac hx42
              simp only [vmz] at ax42 fx42
              skip
              obtain ⟨x43, hx43, hh⟩ := bindS hh
              have bx43 := idx_bd hx43
              have ax43 := idx_enc eTFrac hx43
              have fx43 := idx_fit eTFrac hx43
              simp only [vmz] at ax43 fx43
              skip
              obtain ⟨r44, hr44, hh⟩ := bindS hh
              try simp only [x_l44_BridgeFair, seval, -Int.reduceToNat, hr1, hr2, q5a, q5b, q7a, q7b, hr8, q12a, q12b, bx13, ax13, fx13, bx14, ax14, fx14, hr15, t0b, t7b, t9b, t10b, t11b, t13b, t14b, t16b, t17b, H14b, H16b, q39a, q39b, q41a, q41b, bx42, ax42, fx42, bx43, ax43, fx43, hr44]
              refine dyn_ok (by kernel_rfl) ?_
              obtain ⟨r45, hr45, hh⟩ := bindS hh
              obtain ⟨r46, hr46, hh⟩ := bindS hh
              obtain ⟨x47, hx47, hh⟩ := bindS hh
              obtain ⟨q48a, q48b⟩ := shrI_ok hx47
              try simp only [x_l44_BridgeFair, seval, -Int.reduceToNat, hr1, hr2, q5a, q5b, q7a, q7b, hr8, q12a, q12b, bx13, ax13, fx13, bx14, ax14, fx14, hr15, t0b, t7b, t9b, t10b, t11b, t13b, t14b, t16b, t17b, H14b, H16b, q39a, q39b, q41a, q41b, bx42, ax42, fx42, bx43, ax43, fx43, hr44, hr45, hr46, q48a, q48b]
              refine tstC_br (fun hb49 => ?_) (fun hb49 => ?_)
              · replace hh := ite_t hb49 hh
                try simp only [x_l44_BridgeFair, seval, -Int.reduceToNat, hr1, hr2, q5a, q5b, q7a, q7b, hr8, q12a, q12b, bx13, ax13, fx13, bx14, ax14, fx14, hr15, t0b, t7b, t9b, t10b, t11b, t13b, t14b, t16b, t17b, H14b, H16b, q39a, q39b, q41a, q41b, bx42, ax42, fx42, bx43, ax43, fx43, hr44, hr45, hr46, q48a, q48b]
                refine tstP_br (fun hb50 => ?_) (fun hb50 => ?_)
                · replace hh := ite_t hb50 hh
                  obtain ⟨q51a, q51b⟩ := shlI_ok hx11
                  have bx42 := idx_bd hx42
                  have ax42 := idx_enc eTFrac hx42
                  have fx42 := idx_fit eTFrac hx42
                  simp only [vmz] at ax42 fx42
                  skip
                  obtain ⟨x52, hx52, hh⟩ := bindS hh
                  obtain ⟨q53a, q53b⟩ := shlI_ok hx52
                  obtain ⟨x54, hx54, hh⟩ := bindS hh
                  have bx54 := idx_bd hx54
                  have ax54 := idx_enc eTFrac hx54
                  have fx54 := idx_fit eTFrac hx54
                  simp only [vmz] at ax54 fx54
                  skip
                  obtain ⟨r55, hr55, hh⟩ := bindS hh
                  try simp only [x_l44_BridgeFair, seval, -Int.reduceToNat, hr1, hr2, q5a, q5b, q7a, q7b, hr8, q12a, q12b, bx13, ax13, fx13, bx14, ax14, fx14, hr15, t0b, t7b, t9b, t10b, t11b, t13b, t14b, t16b, t17b, H14b, H16b, q39a, q39b, q41a, q41b, bx42, ax42, fx42, bx43, ax43, fx43, hr44, hr45, hr46, q48a, q48b, q51a, q51b, bx42, ax42, fx42, q53a, q53b, bx54, ax54, fx54, hr55]
                  refine dyn_ok (by kernel_rfl) ?_
                  cases hh
                  try simp only [x_l44_BridgeFair, seval, -Int.reduceToNat, hr1, hr2, q5a, q5b, q7a, q7b, hr8, q12a, q12b, bx13, ax13, fx13, bx14, ax14, fx14, hr15, t0b, t7b, t9b, t10b, t11b, t13b, t14b, t16b, t17b, H14b, H16b, q39a, q39b, q41a, q41b, bx42, ax42, fx42, bx43, ax43, fx43, hr44, hr45, hr46, q48a, q48b, q51a, q51b, bx42, ax42, fx42, q53a, q53b, bx54, ax54, fx54, hr55]
                  rw [LK_normal]
                  refine ⟨_, rfl, ?_⟩
                  refine ⟨v14b, v16b, ?_, ?_, ?_, ?_, ?_, ?_, ?_, ?_, ?_, ?_, ?_⟩
                  all_goals (first | rfl | (simp only [x_l44_BridgeFair, seval, -Int.reduceToNat, hr1, hr2, q5a, q5b, q7a, q7b, hr8, q12a, q12b, bx13, ax13, fx13, bx14, ax14, fx14, hr15, t0b, t7b, t9b, t10b, t11b, t13b, t14b, t16b, t17b, H14b, H16b, q39a, q39b, q41a, q41b, bx42, ax42, fx42, bx43, ax43, fx43, hr44, hr45, hr46, q48a, q48b, q51a, q51b, bx42, ax42, fx42, q53a, q53b, bx54, ax54, fx54, hr55] <;> rfl))
                · replace hh := ite_f hb50 hh
                  try simp only [x_l44_BridgeFair, seval, -Int.reduceToNat, hr1, hr2, q5a, q5b, q7a, q7b, hr8, q12a, q12b, bx13, ax13, fx13, bx14, ax14, fx14, hr15, t0b, t7b, t9b, t10b, t11b, t13b, t14b, t16b, t17b, H14b, H16b, q39a, q39b, q41a, q41b, bx42, ax42, fx42, bx43, ax43, fx43, hr44, hr45, hr46, q48a, q48b]
                  refine dyn_ok (by kernel_rfl) ?_
                  cases hh
                  try simp only [x_l44_BridgeFair, seval, -Int.reduceToNat, hr1, hr2, q5a, q5b, q7a, q7b, hr8, q12a, q12b, bx13, ax13, fx13, bx14, ax14, fx14, hr15, t0b, t7b, t9b, t10b, t11b, t13b, t14b, t16b, t17b, H14b, H16b, q39a, q39b, q41a, q41b, bx42, ax42, fx42, bx43, ax43, fx43, hr44, hr45, hr46, q48a, q48b]
                  rw [LK_normal]
                  refine ⟨_, rfl, ?_⟩
                  refine ⟨v14b, v16b, ?_, ?_, ?_, ?_, ?_, ?_, ?_, ?_, ?_, ?_, ?_⟩
                  all_goals (first | rfl | (simp only [x_l44_BridgeFair, seval, -Int.reduceToNat, hr1, hr2, q5a, q5b, q7a, q7b, hr8, q12a, q12b, bx13, ax13, fx13, bx14, ax14, fx14, hr15, t0b, t7b, t9b, t10b, t11b, t13b, t14b, t16b, t17b, H14b, H16b, q39a, q39b, q41a, q41b, bx42, ax42, fx42, bx43, ax43, fx43, hr44, hr45, hr46, q48a, q48b] <;> rfl))
              · replace hh := ite_f hb49 hh
                cases hh
                try simp only [x_l44_BridgeFair, seval, -Int.reduceToNat, hr1, hr2, q5a, q5b, q7a, q7b, hr8, q12a, q12b, bx13, ax13, fx13, bx14, ax14, fx14, hr15, t0b, t7b, t9b, t10b, t11b, t13b, t14b, t16b, t17b, H14b, H16b, q39a, q39b, q41a, q41b, bx42, ax42, fx42, bx43, ax43, fx43, hr44, hr45, hr46, q48a, q48b]
                rw [LK_normal]
                refine ⟨_, rfl, ?_⟩
                refine ⟨v14b, v16b, ?_, ?_, ?_, ?_, ?_, ?_, ?_, ?_, ?_, ?_, ?_⟩
                all_goals (first | rfl | (simp only [x_l44_BridgeFair, seval, -Int.reduceToNat, hr1, hr2, q5a, q5b, q7a, q7b, hr8, q12a, q12b, bx13, ax13, fx13, bx14, ax14, fx14, hr15, t0b, t7b, t9b, t10b, t11b, t13b, t14b, t16b, t17b, H14b, H16b, q39a, q39b, q41a, q41b, bx42, ax42, fx42, bx43, ax43, fx43, hr44, hr45, hr46, q48a, q48b] <;> rfl))
          · replace hh := ite_f hb37 hh
            cases hh
            try simp only [x_l44_BridgeFair, seval, -Int.reduceToNat, hr1, hr2, q5a, q5b, q7a, q7b, hr8, q12a, q12b, bx13, ax13, fx13, bx14, ax14, fx14, hr15, t0b, t7b, t9b, t10b, t11b, t13b, t14b, t16b, t17b, H14b, H16b]
            rw [LK_exit]
            refine ⟨_, rfl, ?_⟩
            refine ⟨rfl, ⟨v14b, v16b, ?_, ?_, ?_, ?_, ?_, ?_, ?_, ?_, ?_⟩⟩
            all_goals (first | rfl | (simp only [x_l44_BridgeFair, seval, -Int.reduceToNat, hr1, hr2, q5a, q5b, q7a, q7b, hr8, q12a, q12b, bx13, ax13, fx13, bx14, ax14, fx14, hr15, t0b, t7b, t9b, t10b, t11b, t13b, t14b, t16b, t17b, H14b, H16b] <;> rfl))
        · rintro x t H e hx
          rcases o36 with ⟨s13bx, r14_0bx, r14_1bx, r14_2bx, r14_3bx, r16_0bx, r16_1bx, r16_2bx, r16_3bx⟩
          dsimp only at hx hh
          obtain ⟨rfl, ⟨v14bx, v16bx, t7bx, t9bx, t10bx, t11bx, t13bx, t14bx, t16bx, H14bx, H16bx⟩⟩ := hx
          obtain ⟨x56, hx56, hh⟩ := bindS hh
          have bx56 := idx_bd hx56
          have ax56 := idx_enc eTFrac hx56
          have fx56 := idx_fit eTFrac hx56
          simp only [vmz] at ax56 fx56
          skip
          obtain ⟨r57, hr57, hh⟩ := bindS hh
          try simp only [x_l44_BridgeFair, seval, -Int.reduceToNat, hr1, hr2, q5a, q5b, q7a, q7b, hr8, q12a, q12b, bx13, ax13, fx13, bx14, ax14, fx14, hr15, t7bx, t9bx, t10bx, t11bx, t13bx, t14bx, t16bx, H14bx, H16bx, bx56, ax56, fx56, hr57]
          obtain ⟨o58, ho58, hh⟩ := bindS hh
          refine tstP_cut 0 (fun s t H e => match s with | s136j3 => t 7 = .bool r1 ∧ t 9 = .int .i64 x4 ∧ t 10 = .int .i64 x6 ∧ t 11 = .sl false false r8.1.length (encL eTFrac r8.1) ∧ t 13 = .bool s13bx ∧ t 136 = .bool s136j3) (fun s => s = o58) ?_ ?_
          · rintro s136j3 t H e ⟨t7j3, t9j3, t10j3, t11j3, t13j3, t136j3⟩ rfl
            try dsimp only at hh
            try simp only [x_l44_BridgeFair, seval, -Int.reduceToNat, hr1, hr2, q5a, q5b, q7a, q7b, hr8, q12a, q12b, bx13, ax13, fx13, bx14, ax14, fx14, hr15, bx56, ax56, fx56, hr57, t7j3, t9j3, t10j3, t11j3, t13j3, t136j3]
            refine tstC_br (fun hb59 => ?_) (fun hb59 => ?_)
            · replace hh := ite_t hb59 hh
              cases hh
              try simp only [x_l44_BridgeFair, seval, -Int.reduceToNat, hr1, hr2, q5a, q5b, q7a, q7b, hr8, q12a, q12b, bx13, ax13, fx13, bx14, ax14, fx14, hr15, bx56, ax56, fx56, hr57, t7j3, t9j3, t10j3, t11j3, t13j3, t136j3]
            · replace hh := ite_f hb59 hh
              try simp only [x_l44_BridgeFair, seval, -Int.reduceToNat, hr1, hr2, q5a, q5b, q7a, q7b, hr8, q12a, q12b, bx13, ax13, fx13, bx14, ax14, fx14, hr15, bx56, ax56, fx56, hr57, t7j3, t9j3, t10j3, t11j3, t13j3, t136j3]
              refine tstP_br (fun hb60 => ?_) (fun hb60 => ?_)
              · replace hh := ite_t hb60 hh
                try simp only [x_l44_BridgeFair, seval, -Int.reduceToNat, hr1, hr2, q5a, q5b, q7a, q7b, hr8, q12a, q12b, bx13, ax13, fx13, bx14, ax14, fx14, hr15, bx56, ax56, fx56, hr57, t7j3, t9j3, t10j3, t11j3, t13j3, t136j3]
                refine tstP_br' (fun hb61 => ?_) (fun hb61 => ?_)
                · replace hh := ite_t hb61 hh
                  try simp only [x_l44_BridgeFair, seval, -Int.reduceToNat, hr1, hr2, q5a, q5b, q7a, q7b, hr8, q12a, q12b, bx13, ax13, fx13, bx14, ax14, fx14, hr15, bx56, ax56, fx56, hr57, t7j3, t9j3, t10j3, t11j3, t13j3, t136j3]
                  refine dyn_ok (by kernel_rfl) ?_
                  cases hh
                  try simp only [x_l44_BridgeFair, seval, -Int.reduceToNat, hr1, hr2, q5a, q5b, q7a, q7b, hr8, q12a, q12b, bx13, ax13, fx13, bx14, ax14, fx14, hr15, bx56, ax56, fx56, hr57, t7j3, t9j3, t10j3, t11j3, t13j3, t136j3]
                · replace hh := ite_f hb61 hh
                  have bx56 := idx_bd hx56
                  have ax56 := idx_enc eTFrac hx56
                  have fx56 := idx_fit eTFrac hx56
                  simp only [vmz] at ax56 fx56
                  skip
                  obtain ⟨x62, hx62, hh⟩ := bindS hh
                  have bx62 := idx_bd hx62
                  have ax62 := idx_enc eTFrac hx62
                  have fx62 := idx_fit eTFrac hx62
                  simp only [vmz] at ax62 fx62
                  skip
                  obtain ⟨r63, hr63, hh⟩ := bindS hh
                  try simp only [x_l44_BridgeFair, seval, -Int.reduceToNat, hr1, hr2, q5a, q5b, q7a, q7b, hr8, q12a, q12b, bx13, ax13, fx13, bx14, ax14, fx14, hr15, bx56, ax56, fx56, hr57, t7j3, t9j3, t10j3, t11j3, t13j3, t136j3, bx56, ax56, fx56, bx62, ax62, fx62, hr63]
                  refine dyn_ok (by kernel_rfl) ?_
                  cases hh
                  try simp only [x_l44_BridgeFair, seval, -Int.reduceToNat, hr1, hr2, q5a, q5b, q7a, q7b, hr8, q12a, q12b, bx13, ax13, fx13, bx14, ax14, fx14, hr15, bx56, ax56, fx56, hr57, t7j3, t9j3, t10j3, t11j3, t13j3, t136j3, bx56, ax56, fx56, bx62, ax62, fx62, hr63]
              · replace hh := ite_f hb60 hh
                try simp only [x_l44_BridgeFair, seval, -Int.reduceToNat, hr1, hr2, q5a, q5b, q7a, q7b, hr8, q12a, q12b, bx13, ax13, fx13, bx14, ax14, fx14, hr15, bx56, ax56, fx56, hr57, t7j3, t9j3, t10j3, t11j3, t13j3, t136j3]
                refine dyn_ok (by kernel_rfl) ?_
                cases hh
                try simp only [x_l44_BridgeFair, seval, -Int.reduceToNat, hr1, hr2, q5a, q5b, q7a, q7b, hr8, q12a, q12b, bx13, ax13, fx13, bx14, ax14, fx14, hr15, bx56, ax56, fx56, hr57, t7j3, t9j3, t10j3, t11j3, t13j3, t136j3]
          ·
            clear hh
            have hh := ho58
            try simp only [x_l44_BridgeFair, seval, -Int.reduceToNat, hr1, hr2, q5a, q5b, q7a, q7b, hr8, q12a, q12b, bx13, ax13, fx13, bx14, ax14, fx14, hr15, t7bx, t9bx, t10bx, t11bx, t13bx, t14bx, t16bx, H14bx, H16bx, bx56, ax56, fx56, hr57]
            refine tstP_br' (fun hb64 => ?_) (fun hb64 => ?_)
            · replace hh := ite_t hb64 hh
              try simp only [x_l44_BridgeFair, seval, -Int.reduceToNat, hr1, hr2, q5a, q5b, q7a, q7b, hr8, q12a, q12b, bx13, ax13, fx13, bx14, ax14, fx14, hr15, t7bx, t9bx, t10bx, t11bx, t13bx, t14bx, t16bx, H14bx, H16bx, bx56, ax56, fx56, hr57]
              refine dyn_ok (by kernel_rfl) ?_
              cases hh
              try simp only [x_l44_BridgeFair, seval, -Int.reduceToNat, hr1, hr2, q5a, q5b, q7a, q7b, hr8, q12a, q12b, bx13, ax13, fx13, bx14, ax14, fx14, hr15, t7bx, t9bx, t10bx, t11bx, t13bx, t14bx, t16bx, H14bx, H16bx, bx56, ax56, fx56, hr57]
              rw [CK_normal]
              refine ⟨_, rfl, ?_⟩
              refine ⟨?_, ?_, ?_, ?_, ?_, ?_⟩
              all_goals (first | rfl | (simp only [x_l44_BridgeFair, seval, -Int.reduceToNat, hr1, hr2, q5a, q5b, q7a, q7b, hr8, q12a, q12b, bx13, ax13, fx13, bx14, ax14, fx14, hr15, t7bx, t9bx, t10bx, t11bx, t13bx, t14bx, t16bx, H14bx, H16bx, bx56, ax56, fx56, hr57] <;> rfl))
            · replace hh := ite_f hb64 hh
              have bx56 := idx_bd hx56
              have ax56 := idx_enc eTFrac hx56
              have fx56 := idx_fit eTFrac hx56
              simp only [vmz] at ax56 fx56
              skip
              obtain ⟨r65, hr65, hh⟩ := bindS hh
              try simp only [x_l44_BridgeFair, seval, -Int.reduceToNat, hr1, hr2, q5a, q5b, q7a, q7b, hr8, q12a, q12b, bx13, ax13, fx13, bx14, ax14, fx14, hr15, t7bx, t9bx, t10bx, t11bx, t13bx, t14bx, t16bx, H14bx, H16bx, bx56, ax56, fx56, hr57, bx56, ax56, fx56, hr65]
              refine dyn_ok (by kernel_rfl) ?_
              cases hh
              try simp only [x_l44_BridgeFair, seval, -Int.reduceToNat, hr1, hr2, q5a, q5b, q7a, q7b, hr8, q12a, q12b, bx13, ax13, fx13, bx14, ax14, fx14, hr15, t7bx, t9bx, t10bx, t11bx, t13bx, t14bx, t16bx, H14bx, H16bx, bx56, ax56, fx56, hr57, bx56, ax56, fx56, hr65]
              rw [CK_normal]
              refine ⟨_, rfl, ?_⟩
              refine ⟨?_, ?_, ?_, ?_, ?_, ?_⟩
              all_goals (first | rfl | (simp only [x_l44_BridgeFair, seval, -Int.reduceToNat, hr1, hr2, q5a, q5b, q7a, q7b, hr8, q12a, q12b, bx13, ax13, fx13, bx14, ax14, fx14, hr15, t7bx, t9bx, t10bx, t11bx, t13bx, t14bx, t16bx, H14bx, H16bx, bx56, ax56, fx56, hr57, bx56, ax56, fx56, hr65] <;> rfl))
    ·
      clear hh
      have hh := ho9
      try simp only [x_l44_BridgeFair, seval, -Int.reduceToNat, hr1, hr2, q5a, q5b, q7a, q7b, hr8]
      refine tstO_br' (fun hb66 => ?_) (fun hb66 => ?_)
      · replace hh := ite_t hb66 hh
        cases hh
        try simp only [x_l44_BridgeFair, seval, -Int.reduceToNat, hr1, hr2, q5a, q5b, q7a, q7b, hr8]
        rw [CK_normal]
        refine ⟨_, rfl, ?_⟩
        refine ⟨?_, ?_, ?_, ?_, ?_, ?_⟩
        all_goals (first | rfl | (simp only [x_l44_BridgeFair, seval, -Int.reduceToNat, hr1, hr2, q5a, q5b, q7a, q7b, hr8] <;> rfl))
      · replace hh := ite_f hb66 hh
        cases hh
        try simp only [x_l44_BridgeFair, seval, -Int.reduceToNat, hr1, hr2, q5a, q5b, q7a, q7b, hr8]
        rw [CK_normal]
        refine ⟨_, rfl, ?_⟩
        refine ⟨?_, ?_, ?_, ?_, ?_, ?_⟩
        all_goals (first | rfl | (simp only [x_l44_BridgeFair, seval, -Int.reduceToNat, hr1, hr2, q5a, q5b, q7a, q7b, hr8] <;> rfl))

theorem ok_l44_BridgeFair : COk Try.prog 7 G_l44_BridgeFair := COk.of (mode := .clean) tok ge_l44_BridgeFair mixed Try.func7 (by kernel_rfl) ⟨by kernel_rfl, by kernel_rfl⟩ (fun _ => Nat.le_of_ble_eq_true (by kernel_rfl)) (fun x r h => m_l44_BridgeFair x.1 x.2.1 x.2.2 r h)
end Go.Proofs.Ytoclpeomlofcjaa.Am
