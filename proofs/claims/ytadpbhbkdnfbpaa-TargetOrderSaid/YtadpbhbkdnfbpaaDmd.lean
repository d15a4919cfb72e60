/- The machine computes the plain functions (written by wip/dec.py). -/
import Derived.Test.YtadpbhbkdnfbpaaDmc
namespace Go.Proofs.Ytadpbhbkdnfbpaa.Am
open Go.RowKit Go.Proofs.Ytadpbhbkdnfbpaa.P
set_option maxRecDepth 100000
set_option maxHeartbeats 4000000
set_option linter.unusedSimpArgs false
set_option linter.unusedVariables false

noncomputable def G_l47_TargetGreater := mkG (asC (aSl eTFrac) (asC (aAgg eTFrac) (as1 (aAgg eTFrac)))) (fun x : (List TFrac) × TFrac × TFrac => l47_TargetGreater x.1 x.2.1 x.2.2) (fun r : Bool => .clean (.bool r))

theorem q_l47_TargetGreater (p0 : (List TFrac)) (p1_0 : Int) (p1_1 : (List Int)) (p1_2 : Int) (p1_3 : (List Int)) (p2_0 : Int) (p2_1 : (List Int)) (p2_2 : Int) (p2_3 : (List Int)) : G_l47_TargetGreater none [.sl false false p0.length (encL eTFrac p0), .agg [.int .i64 p1_0, .sl false false p1_1.length (encL (eI .i64) p1_1), .int .i64 p1_2, .sl false false p1_3.length (encL (eI .i64) p1_3)], .agg [.int .i64 p2_0, .sl false false p2_1.length (encL (eI .i64) p2_1), .int .i64 p2_2, .sl false false p2_3.length (encL (eI .i64) p2_3)]] = (l47_TargetGreater p0 (TFrac.mk (TBig.mk p1_0 p1_1) (TBig.mk p1_2 p1_3)) (TFrac.mk (TBig.mk p2_0 p2_1) (TBig.mk p2_2 p2_3))).map fun r : Bool => (.clean (.bool r), none) := mkG_eq _ _ _ (p0, (TFrac.mk (TBig.mk p1_0 p1_1) (TBig.mk p1_2 p1_3)), (TFrac.mk (TBig.mk p2_0 p2_1) (TBig.mk p2_2 p2_3)))

noncomputable def g_l47_TargetGreater : Env := (Am.ext (Am.ext (Am.ext (Am.ext (Am.ext (Am.ext (Am.ext noEnv 8 false G_l47_small) 9 false G_r47_Few) 11 false G_target_Sets) 16 false G_target_Edits) 20 false G_frac_Right) 21 false G_frac_Compare) 26 false G_frac_Min)

theorem ge_l47_TargetGreater : GOk Try.prog g_l47_TargetGreater := (((((((GOk.none.add ok_l47_small false).add ok_r47_Few false).add ok_target_Sets false).add ok_target_Edits false).add ok_frac_Right false).add ok_frac_Compare false).add ok_frac_Min false)

theorem gg_l47_TargetGreater : g_l47_TargetGreater = (Am.ext (Am.ext (Am.ext (Am.ext (Am.ext (Am.ext (Am.ext noEnv 8 false G_l47_small) 9 false G_r47_Few) 11 false G_target_Sets) 16 false G_target_Edits) 20 false G_frac_Right) 21 false G_frac_Compare) 26 false G_frac_Min) := Eq.trans rfl rfl

theorem x_l47_TargetGreater : type_of% (And.intro @w <| And.intro @q_l47_small <| And.intro @q_r47_Few <| And.intro @q_target_Sets <| And.intro @q_target_Edits <| And.intro @q_frac_Right <| And.intro @q_frac_Compare <| And.intro @q_frac_Min <| @gg_l47_TargetGreater) := And.intro @w <| And.intro @q_l47_small <| And.intro @q_r47_Few <| And.intro @q_target_Sets <| And.intro @q_target_Edits <| And.intro @q_frac_Right <| And.intro @q_frac_Compare <| And.intro @q_frac_Min <| @gg_l47_TargetGreater

theorem m_l47_TargetGreater (p0 : (List TFrac)) (p1 : TFrac) (p2 : TFrac) (r : Bool) (hh : l47_TargetGreater p0 p1 p2 = some r) : vfunc .clean tab g_l47_TargetGreater FU Try.f7 none [.sl false false p0.length (encL eTFrac p0), .agg [.int .i64 p1.f_P.f_Sign, .sl false false p1.f_P.f_Digits.length (encL (eI .i64) p1.f_P.f_Digits), .int .i64 p1.f_Q.f_Sign, .sl false false p1.f_Q.f_Digits.length (encL (eI .i64) p1.f_Q.f_Digits)], .agg [.int .i64 p2.f_P.f_Sign, .sl false false p2.f_P.f_Digits.length (encL (eI .i64) p2.f_P.f_Digits), .int .i64 p2.f_Q.f_Sign, .sl false false p2.f_Q.f_Digits.length (encL (eI .i64) p2.f_Q.f_Digits)]] = some (.clean (.bool r), none) := by
  refine vfunc_of rfl Try.ntmps7 Try.results7 ?_
  unfold l47_TargetGreater at hh
  obtain ⟨r1, hr1, hh⟩ := bindS hh
  obtain ⟨r2, hr2, hh⟩ := bindS hh
  try simp only [x_l47_TargetGreater, seval, -Int.reduceToNat, hr1, hr2]
  obtain ⟨o3, ho3, hh⟩ := bindS hh
  refine tstO_cut 0 (fun s t H e => match s with | s27j1 => ∃ v4j1 : Nat, ∃ v5j1 : Nat, t 0 = .sl false false p0.length (encL eTFrac p0) ∧ t 4 = .ptr 4 v4j1 0 ∧ t 5 = .ptr 5 v5j1 0 ∧ t 7 = .bool r1 ∧ t 27 = .bool s27j1 ∧ H 4 = some ⟨v4j1, 27, [.int .i64 p1.f_P.f_Sign, .sl false false p1.f_P.f_Digits.length (encL (eI .i64) p1.f_P.f_Digits), .int .i64 p1.f_Q.f_Sign, .sl false false p1.f_Q.f_Digits.length (encL (eI .i64) p1.f_Q.f_Digits)], false, false⟩ ∧ H 5 = some ⟨v5j1, 27, [.int .i64 p2.f_P.f_Sign, .sl false false p2.f_P.f_Digits.length (encL (eI .i64) p2.f_P.f_Digits), .int .i64 p2.f_Q.f_Sign, .sl false false p2.f_Q.f_Digits.length (encL (eI .i64) p2.f_Q.f_Digits)], false, false⟩) (fun s => s = o3) ?_ ?_
  · rintro s27j1 t H e ⟨v4j1, v5j1, t0j1, t4j1, t5j1, t7j1, t27j1, H4j1, H5j1⟩ rfl
    try dsimp only at hh
    try simp only [x_l47_TargetGreater, seval, -Int.reduceToNat, hr1, hr2, t0j1, t4j1, t5j1, t7j1, t27j1, H4j1, H5j1]
    refine tstC_br (fun hb4 => ?_) (fun hb4 => ?_)
    · replace hh := ite_t hb4 hh
      cases hh
      try simp only [x_l47_TargetGreater, seval, -Int.reduceToNat, hr1, hr2, t0j1, t4j1, t5j1, t7j1, t27j1, H4j1, H5j1]
    · replace hh := ite_f hb4 hh
      obtain ⟨r5, hr5, hh⟩ := bindS hh
      try simp only [x_l47_TargetGreater, seval, -Int.reduceToNat, hr1, hr2, t0j1, t4j1, t5j1, t7j1, t27j1, H4j1, H5j1, hr5]
      obtain ⟨o6, ho6, hh⟩ := bindS hh
      refine tstO_cut 0 (fun s t H e => match s with | s57j2 => ∃ v4j2 : Nat, ∃ v5j2 : Nat, t 0 = .sl false false p0.length (encL eTFrac p0) ∧ t 4 = .ptr 4 v4j2 0 ∧ t 5 = .ptr 5 v5j2 0 ∧ t 7 = .bool r1 ∧ t 57 = .bool s57j2 ∧ H 4 = some ⟨v4j2, 27, [.int .i64 p1.f_P.f_Sign, .sl false false p1.f_P.f_Digits.length (encL (eI .i64) p1.f_P.f_Digits), .int .i64 p1.f_Q.f_Sign, .sl false false p1.f_Q.f_Digits.length (encL (eI .i64) p1.f_Q.f_Digits)], false, false⟩ ∧ H 5 = some ⟨v5j2, 27, [.int .i64 p2.f_P.f_Sign, .sl false false p2.f_P.f_Digits.length (encL (eI .i64) p2.f_P.f_Digits), .int .i64 p2.f_Q.f_Sign, .sl false false p2.f_Q.f_Digits.length (encL (eI .i64) p2.f_Q.f_Digits)], false, false⟩) (fun s => s = o6) ?_ ?_
      · rintro s57j2 t H e ⟨v4j2, v5j2, t0j2, t4j2, t5j2, t7j2, t57j2, H4j2, H5j2⟩ rfl
        try dsimp only at hh
        try simp only [x_l47_TargetGreater, seval, -Int.reduceToNat, hr1, hr2, hr5, t0j2, t4j2, t5j2, t7j2, t57j2, H4j2, H5j2]
        refine tstC_br (fun hb7 => ?_) (fun hb7 => ?_)
        · replace hh := ite_t hb7 hh
          cases hh
          try simp only [x_l47_TargetGreater, seval, -Int.reduceToNat, hr1, hr2, hr5, t0j2, t4j2, t5j2, t7j2, t57j2, H4j2, H5j2]
        · replace hh := ite_f hb7 hh
          obtain ⟨r8, hr8, hh⟩ := bindS hh
          obtain ⟨r9, hr9, hh⟩ := bindS hh
          obtain ⟨x10, hx10, hh⟩ := bindS hh
          have bx10 := idx_bd hx10
          have ax10 := idx_enc eTFrac hx10
          have fx10 := idx_fit eTFrac hx10
          simp only [vmz] at ax10 fx10
          skip
          try simp only [x_l47_TargetGreater, seval, -Int.reduceToNat, hr1, hr2, hr5, t0j2, t4j2, t5j2, t7j2, t57j2, H4j2, H5j2, hr8, hr9, bx10, ax10, fx10]
          obtain ⟨o14, ho14, hh⟩ := bindS hh
          refine runLoop_sim (fun s t H e => match s with | (s14c, r13_0c, r13_1c, r13_2c, r13_3c) => ∃ v4c : Nat, ∃ v13c : Nat, t 0 = .sl false false p0.length (encL eTFrac p0) ∧ t 4 = .ptr 4 v4c 0 ∧ t 7 = .bool r1 ∧ t 9 = .sl false false r8.1.length (encL (eSl (eI .i64)) r8.1) ∧ t 10 = .int .i64 r8.2 ∧ t 11 = .sl false false r9.1.length (encL (eSl (eI .i64)) r9.1) ∧ t 12 = .int .i64 r9.2 ∧ t 13 = .ptr 13 v13c 0 ∧ t 14 = .int .i64 s14c ∧ H 4 = some ⟨v4c, 27, [.int .i64 p1.f_P.f_Sign, .sl false false p1.f_P.f_Digits.length (encL (eI .i64) p1.f_P.f_Digits), .int .i64 p1.f_Q.f_Sign, .sl false false p1.f_Q.f_Digits.length (encL (eI .i64) p1.f_Q.f_Digits)], false, false⟩ ∧ H 13 = some ⟨v13c, 27, [.int .i64 r13_0c, .sl false false r13_1c.length (encL (eI .i64) r13_1c), .int .i64 r13_2c, .sl false false r13_3c.length (encL (eI .i64) r13_3c)], false, false⟩) (fun o x t H e => match o with | (r13_0cx, r13_1cx, r13_2cx, r13_3cx) => x = .exit 0 ∧ ∃ v4cx : Nat, ∃ v13cx : Nat, t 0 = .sl false false p0.length (encL eTFrac p0) ∧ t 4 = .ptr 4 v4cx 0 ∧ t 7 = .bool r1 ∧ t 9 = .sl false false r8.1.length (encL (eSl (eI .i64)) r8.1) ∧ t 10 = .int .i64 r8.2 ∧ t 11 = .sl false false r9.1.length (encL (eSl (eI .i64)) r9.1) ∧ t 12 = .int .i64 r9.2 ∧ t 13 = .ptr 13 v13cx 0 ∧ H 4 = some ⟨v4cx, 27, [.int .i64 p1.f_P.f_Sign, .sl false false p1.f_P.f_Digits.length (encL (eI .i64) p1.f_P.f_Digits), .int .i64 p1.f_Q.f_Sign, .sl false false p1.f_Q.f_Digits.length (encL (eI .i64) p1.f_Q.f_Digits)], false, false⟩ ∧ H 13 = some ⟨v13cx, 27, [.int .i64 r13_0cx, .sl false false r13_1cx.length (encL (eI .i64) r13_1cx), .int .i64 r13_2cx, .sl false false r13_3cx.length (encL (eI .i64) r13_3cx)], false, false⟩) ho14 ?_ ?_ ?_
          ·
            refine ⟨v4j2, e + 1 + 1, ?_, ?_, ?_, ?_, ?_, ?_, ?_, ?_, ?_, ?_, ?_⟩
            all_goals (first | rfl | (simp only [x_l47_TargetGreater, seval, -Int.reduceToNat, hr1, hr2, hr5, t0j2, t4j2, t5j2, t7j2, t57j2, H4j2, H5j2, hr8, hr9, bx10, ax10, fx10] <;> rfl))
          · rintro ⟨s14c, r13_0c, r13_1c, r13_2c, r13_3c⟩ t H e ⟨v4c, v13c, t0c, t4c, t7c, t9c, t10c, t11c, t12c, t13c, t14c, H4c, H13c⟩ c hh
            simp only [l47_TargetGreater_L3] at hh
            try simp only [x_l47_TargetGreater, seval, -Int.reduceToNat, hr1, hr2, hr5, hr8, hr9, bx10, ax10, fx10, t0c, t4c, t7c, t9c, t10c, t11c, t12c, t13c, t14c, H4c, H13c]
            refine tstC_br (fun hb15 => ?_) (fun hb15 => ?_)
            · replace hh := ite_t hb15 hh
              obtain ⟨x16, hx16, hh⟩ := bindS hh
              have bx16 := idx_bd hx16
              have ax16 := idx_enc eTFrac hx16
              have fx16 := idx_fit eTFrac hx16
              simp only [vmz] at ax16 fx16
              skip
              obtain ⟨r17, hr17, hh⟩ := bindS hh
              try simp only [x_l47_TargetGreater, seval, -Int.reduceToNat, hr1, hr2, hr5, hr8, hr9, bx10, ax10, fx10, t0c, t4c, t7c, t9c, t10c, t11c, t12c, t13c, t14c, H4c, H13c, bx16, ax16, fx16, hr17]
              refine dyn_ok (by kernel_rfl) ?_
              cases hh
              try simp only [x_l47_TargetGreater, seval, -Int.reduceToNat, hr1, hr2, hr5, hr8, hr9, bx10, ax10, fx10, t0c, t4c, t7c, t9c, t10c, t11c, t12c, t13c, t14c, H4c, H13c, bx16, ax16, fx16, hr17]
              rw [LK_normal]
              refine ⟨_, rfl, ?_⟩
              refine ⟨v4c, v13c, ?_, ?_, ?_, ?_, ?_, ?_, ?_, ?_, ?_, ?_, ?_⟩
              all_goals (first | rfl | (simp only [x_l47_TargetGreater, seval, -Int.reduceToNat, hr1, hr2, hr5, hr8, hr9, bx10, ax10, fx10, t0c, t4c, t7c, t9c, t10c, t11c, t12c, t13c, t14c, H4c, H13c, bx16, ax16, fx16, hr17] <;> rfl))
            · replace hh := ite_f hb15 hh
              cases hh
              try simp only [x_l47_TargetGreater, seval, -Int.reduceToNat, hr1, hr2, hr5, hr8, hr9, bx10, ax10, fx10, t0c, t4c, t7c, t9c, t10c, t11c, t12c, t13c, t14c, H4c, H13c]
              rw [LK_exit]
              refine ⟨_, rfl, ?_⟩
              refine ⟨rfl, ⟨v4c, v13c, ?_, ?_, ?_, ?_, ?_, ?_, ?_, ?_, ?_, ?_⟩⟩
              all_goals (first | rfl | (simp only [x_l47_TargetGreater, seval, -Int.reduceToNat, hr1, hr2, hr5, hr8, hr9, bx10, ax10, fx10, t0c, t4c, t7c, t9c, t10c, t11c, t12c, t13c, t14c, H4c, H13c] <;> rfl))
          · rintro x t H e hx
            rcases o14 with ⟨r13_0cx, r13_1cx, r13_2cx, r13_3cx⟩
            dsimp only at hx hh
            obtain ⟨rfl, ⟨v4cx, v13cx, t0cx, t4cx, t7cx, t9cx, t10cx, t11cx, t12cx, t13cx, H4cx, H13cx⟩⟩ := hx
            obtain ⟨r18, hr18, hh⟩ := bindS hh
            try simp only [x_l47_TargetGreater, seval, -Int.reduceToNat, hr1, hr2, hr5, hr8, hr9, bx10, ax10, fx10, t0cx, t4cx, t7cx, t9cx, t10cx, t11cx, t12cx, t13cx, H4cx, H13cx, hr18]
            obtain ⟨o19, ho19, hh⟩ := bindS hh
            refine tstO_cut 0 (fun s t H e => match s with | s110j4 => t 7 = .bool r1 ∧ t 9 = .sl false false r8.1.length (encL (eSl (eI .i64)) r8.1) ∧ t 10 = .int .i64 r8.2 ∧ t 11 = .sl false false r9.1.length (encL (eSl (eI .i64)) r9.1) ∧ t 12 = .int .i64 r9.2 ∧ t 110 = .bool s110j4) (fun s => s = o19) ?_ ?_
            · rintro s110j4 t H e ⟨t7j4, t9j4, t10j4, t11j4, t12j4, t110j4⟩ rfl
              try dsimp only at hh
              try simp only [x_l47_TargetGreater, seval, -Int.reduceToNat, hr1, hr2, hr5, hr8, hr9, bx10, ax10, fx10, hr18, t7j4, t9j4, t10j4, t11j4, t12j4, t110j4]
              refine tstC_br (fun hb20 => ?_) (fun hb20 => ?_)
              · replace hh := ite_t hb20 hh
                cases hh
                try simp only [x_l47_TargetGreater, seval, -Int.reduceToNat, hr1, hr2, hr5, hr8, hr9, bx10, ax10, fx10, hr18, t7j4, t9j4, t10j4, t11j4, t12j4, t110j4]
              · replace hh := ite_f hb20 hh
                try simp only [x_l47_TargetGreater, seval, -Int.reduceToNat, hr1, hr2, hr5, hr8, hr9, bx10, ax10, fx10, hr18, t7j4, t9j4, t10j4, t11j4, t12j4, t110j4]
                refine tstP_br (fun hb21 => ?_) (fun hb21 => ?_)
                · replace hh := ite_t hb21 hh
                  try simp only [x_l47_TargetGreater, seval, -Int.reduceToNat, hr1, hr2, hr5, hr8, hr9, bx10, ax10, fx10, hr18, t7j4, t9j4, t10j4, t11j4, t12j4, t110j4]
                  refine tstP_br' (fun hb22 => ?_) (fun hb22 => ?_)
                  · replace hh := ite_t hb22 hh
                    try simp only [x_l47_TargetGreater, seval, -Int.reduceToNat, hr1, hr2, hr5, hr8, hr9, bx10, ax10, fx10, hr18, t7j4, t9j4, t10j4, t11j4, t12j4, t110j4]
                    refine dyn_ok (by kernel_rfl) ?_
                    cases hh
                    try simp only [x_l47_TargetGreater, seval, -Int.reduceToNat, hr1, hr2, hr5, hr8, hr9, bx10, ax10, fx10, hr18, t7j4, t9j4, t10j4, t11j4, t12j4, t110j4]
                  · replace hh := ite_f hb22 hh
                    try simp only [x_l47_TargetGreater, seval, -Int.reduceToNat, hr1, hr2, hr5, hr8, hr9, bx10, ax10, fx10, hr18, t7j4, t9j4, t10j4, t11j4, t12j4, t110j4]
                    refine tstP_br (fun hb23 => ?_) (fun hb23 => ?_)
                    · replace hh := ite_t hb23 hh
                      try simp only [x_l47_TargetGreater, seval, -Int.reduceToNat, hr1, hr2, hr5, hr8, hr9, bx10, ax10, fx10, hr18, t7j4, t9j4, t10j4, t11j4, t12j4, t110j4]
                      refine tstP_br (fun hb24 => ?_) (fun hb24 => ?_)
                      · replace hh := ite_t hb24 hh
                        try simp only [x_l47_TargetGreater, seval, -Int.reduceToNat, hr1, hr2, hr5, hr8, hr9, bx10, ax10, fx10, hr18, t7j4, t9j4, t10j4, t11j4, t12j4, t110j4]
                        refine tstP_br (fun hb25 => ?_) (fun hb25 => ?_)
                        · replace hh := ite_t hb25 hh
                          obtain ⟨x26, hx26, hh⟩ := bindS hh
                          have bx26 := idx_bd hx26
                          have ax26 := idx_enc (eSl (eI .i64)) hx26
                          have fx26 := idx_fit (eSl (eI .i64)) hx26
                          simp only [vmz] at ax26 fx26
                          skip
                          obtain ⟨x27, hx27, hh⟩ := bindS hh
                          have bx27 := idx_bd hx27
                          have ax27 := idx_enc (eSl (eI .i64)) hx27
                          have fx27 := idx_fit (eSl (eI .i64)) hx27
                          simp only [vmz] at ax27 fx27
                          skip
                          try simp only [x_l47_TargetGreater, seval, -Int.reduceToNat, hr1, hr2, hr5, hr8, hr9, bx10, ax10, fx10, hr18, t7j4, t9j4, t10j4, t11j4, t12j4, t110j4, bx26, ax26, fx26, bx27, ax27, fx27]
                          refine dyn_ok (by kernel_rfl) ?_
                          cases hh
                          try simp only [x_l47_TargetGreater, seval, -Int.reduceToNat, hr1, hr2, hr5, hr8, hr9, bx10, ax10, fx10, hr18, t7j4, t9j4, t10j4, t11j4, t12j4, t110j4, bx26, ax26, fx26, bx27, ax27, fx27]
                        · replace hh := ite_f hb25 hh
                          try simp only [x_l47_TargetGreater, seval, -Int.reduceToNat, hr1, hr2, hr5, hr8, hr9, bx10, ax10, fx10, hr18, t7j4, t9j4, t10j4, t11j4, t12j4, t110j4]
                          refine dyn_ok (by kernel_rfl) ?_
                          cases hh
                          try simp only [x_l47_TargetGreater, seval, -Int.reduceToNat, hr1, hr2, hr5, hr8, hr9, bx10, ax10, fx10, hr18, t7j4, t9j4, t10j4, t11j4, t12j4, t110j4]
                      · replace hh := ite_f hb24 hh
                        try simp only [x_l47_TargetGreater, seval, -Int.reduceToNat, hr1, hr2, hr5, hr8, hr9, bx10, ax10, fx10, hr18, t7j4, t9j4, t10j4, t11j4, t12j4, t110j4]
                        refine dyn_ok (by kernel_rfl) ?_
                        cases hh
                        try simp only [x_l47_TargetGreater, seval, -Int.reduceToNat, hr1, hr2, hr5, hr8, hr9, bx10, ax10, fx10, hr18, t7j4, t9j4, t10j4, t11j4, t12j4, t110j4]
                    · replace hh := ite_f hb23 hh
                      try simp only [x_l47_TargetGreater, seval, -Int.reduceToNat, hr1, hr2, hr5, hr8, hr9, bx10, ax10, fx10, hr18, t7j4, t9j4, t10j4, t11j4, t12j4, t110j4]
                      refine dyn_ok (by kernel_rfl) ?_
                      cases hh
                      try simp only [x_l47_TargetGreater, seval, -Int.reduceToNat, hr1, hr2, hr5, hr8, hr9, bx10, ax10, fx10, hr18, t7j4, t9j4, t10j4, t11j4, t12j4, t110j4]
                · replace hh := ite_f hb21 hh
                  try simp only [x_l47_TargetGreater, seval, -Int.reduceToNat, hr1, hr2, hr5, hr8, hr9, bx10, ax10, fx10, hr18, t7j4, t9j4, t10j4, t11j4, t12j4, t110j4]
                  refine dyn_ok (by kernel_rfl) ?_
                  cases hh
                  try simp only [x_l47_TargetGreater, seval, -Int.reduceToNat, hr1, hr2, hr5, hr8, hr9, bx10, ax10, fx10, hr18, t7j4, t9j4, t10j4, t11j4, t12j4, t110j4]
            ·
              clear hh
              have hh := ho19
              try simp only [x_l47_TargetGreater, seval, -Int.reduceToNat, hr1, hr2, hr5, hr8, hr9, bx10, ax10, fx10, t0cx, t4cx, t7cx, t9cx, t10cx, t11cx, t12cx, t13cx, H4cx, H13cx, hr18]
              refine tstO_br' (fun hb28 => ?_) (fun hb28 => ?_)
              · replace hh := ite_t hb28 hh
                cases hh
                try simp only [x_l47_TargetGreater, seval, -Int.reduceToNat, hr1, hr2, hr5, hr8, hr9, bx10, ax10, fx10, t0cx, t4cx, t7cx, t9cx, t10cx, t11cx, t12cx, t13cx, H4cx, H13cx, hr18]
                rw [CK_normal]
                refine ⟨_, rfl, ?_⟩
                refine ⟨?_, ?_, ?_, ?_, ?_, ?_⟩
                all_goals (first | rfl | (simp only [x_l47_TargetGreater, seval, -Int.reduceToNat, hr1, hr2, hr5, hr8, hr9, bx10, ax10, fx10, t0cx, t4cx, t7cx, t9cx, t10cx, t11cx, t12cx, t13cx, H4cx, H13cx, hr18] <;> rfl))
              · replace hh := ite_f hb28 hh
                try simp only [x_l47_TargetGreater, seval, -Int.reduceToNat, hr1, hr2, hr5, hr8, hr9, bx10, ax10, fx10, t0cx, t4cx, t7cx, t9cx, t10cx, t11cx, t12cx, t13cx, H4cx, H13cx, hr18]
                refine tstO_br' (fun hb29 => ?_) (fun hb29 => ?_)
                · replace hh := ite_t hb29 hh
                  cases hh
                  try simp only [x_l47_TargetGreater, seval, -Int.reduceToNat, hr1, hr2, hr5, hr8, hr9, bx10, ax10, fx10, t0cx, t4cx, t7cx, t9cx, t10cx, t11cx, t12cx, t13cx, H4cx, H13cx, hr18]
                  rw [CK_normal]
                  refine ⟨_, rfl, ?_⟩
                  refine ⟨?_, ?_, ?_, ?_, ?_, ?_⟩
                  all_goals (first | rfl | (simp only [x_l47_TargetGreater, seval, -Int.reduceToNat, hr1, hr2, hr5, hr8, hr9, bx10, ax10, fx10, t0cx, t4cx, t7cx, t9cx, t10cx, t11cx, t12cx, t13cx, H4cx, H13cx, hr18] <;> rfl))
                · replace hh := ite_f hb29 hh
                  obtain ⟨r30, hr30, hh⟩ := bindS hh
                  cases hh
                  try simp only [x_l47_TargetGreater, seval, -Int.reduceToNat, hr1, hr2, hr5, hr8, hr9, bx10, ax10, fx10, t0cx, t4cx, t7cx, t9cx, t10cx, t11cx, t12cx, t13cx, H4cx, H13cx, hr18, hr30]
                  rw [CK_normal]
                  refine ⟨_, rfl, ?_⟩
                  refine ⟨?_, ?_, ?_, ?_, ?_, ?_⟩
                  all_goals (first | rfl | (simp only [x_l47_TargetGreater, seval, -Int.reduceToNat, hr1, hr2, hr5, hr8, hr9, bx10, ax10, fx10, t0cx, t4cx, t7cx, t9cx, t10cx, t11cx, t12cx, t13cx, H4cx, H13cx, hr18, hr30] <;> rfl))
      ·
        clear hh
        have hh := ho6
        try simp only [x_l47_TargetGreater, seval, -Int.reduceToNat, hr1, hr2, t0j1, t4j1, t5j1, t7j1, t27j1, H4j1, H5j1, hr5]
        refine tstO_br' (fun hb31 => ?_) (fun hb31 => ?_)
        · replace hh := ite_t hb31 hh
          cases hh
          try simp only [x_l47_TargetGreater, seval, -Int.reduceToNat, hr1, hr2, t0j1, t4j1, t5j1, t7j1, t27j1, H4j1, H5j1, hr5]
          rw [CK_normal]
          refine ⟨_, rfl, ?_⟩
          refine ⟨v4j1, v5j1, ?_, ?_, ?_, ?_, ?_, ?_, ?_⟩
          all_goals (first | rfl | (simp only [x_l47_TargetGreater, seval, -Int.reduceToNat, hr1, hr2, t0j1, t4j1, t5j1, t7j1, t27j1, H4j1, H5j1, hr5] <;> rfl))
        · replace hh := ite_f hb31 hh
          try simp only [x_l47_TargetGreater, seval, -Int.reduceToNat, hr1, hr2, t0j1, t4j1, t5j1, t7j1, t27j1, H4j1, H5j1, hr5]
          refine tstO_br' (fun hb32 => ?_) (fun hb32 => ?_)
          · replace hh := ite_t hb32 hh
            cases hh
            try simp only [x_l47_TargetGreater, seval, -Int.reduceToNat, hr1, hr2, t0j1, t4j1, t5j1, t7j1, t27j1, H4j1, H5j1, hr5]
            rw [CK_normal]
            refine ⟨_, rfl, ?_⟩
            refine ⟨v4j1, v5j1, ?_, ?_, ?_, ?_, ?_, ?_, ?_⟩
            all_goals (first | rfl | (simp only [x_l47_TargetGreater, seval, -Int.reduceToNat, hr1, hr2, t0j1, t4j1, t5j1, t7j1, t27j1, H4j1, H5j1, hr5] <;> rfl))
          · replace hh := ite_f hb32 hh
            try simp only [x_l47_TargetGreater, seval, -Int.reduceToNat, hr1, hr2, t0j1, t4j1, t5j1, t7j1, t27j1, H4j1, H5j1, hr5]
            refine tstO_br' (fun hb33 => ?_) (fun hb33 => ?_)
            · replace hh := ite_t hb33 hh
              cases hh
              try simp only [x_l47_TargetGreater, seval, -Int.reduceToNat, hr1, hr2, t0j1, t4j1, t5j1, t7j1, t27j1, H4j1, H5j1, hr5]
              rw [CK_normal]
              refine ⟨_, rfl, ?_⟩
              refine ⟨v4j1, v5j1, ?_, ?_, ?_, ?_, ?_, ?_, ?_⟩
              all_goals (first | rfl | (simp only [x_l47_TargetGreater, seval, -Int.reduceToNat, hr1, hr2, t0j1, t4j1, t5j1, t7j1, t27j1, H4j1, H5j1, hr5] <;> rfl))
            · replace hh := ite_f hb33 hh
              obtain ⟨r34, hr34, hh⟩ := bindS hh
              try simp only [x_l47_TargetGreater, seval, -Int.reduceToNat, hr1, hr2, t0j1, t4j1, t5j1, t7j1, t27j1, H4j1, H5j1, hr5, hr34]
              refine tstO_br' (fun hb35 => ?_) (fun hb35 => ?_)
              · replace hh := ite_t hb35 hh
                cases hh
                try simp only [x_l47_TargetGreater, seval, -Int.reduceToNat, hr1, hr2, t0j1, t4j1, t5j1, t7j1, t27j1, H4j1, H5j1, hr5, hr34]
                rw [CK_normal]
                refine ⟨_, rfl, ?_⟩
                refine ⟨v4j1, v5j1, ?_, ?_, ?_, ?_, ?_, ?_, ?_⟩
                all_goals (first | rfl | (simp only [x_l47_TargetGreater, seval, -Int.reduceToNat, hr1, hr2, t0j1, t4j1, t5j1, t7j1, t27j1, H4j1, H5j1, hr5, hr34] <;> rfl))
              · replace hh := ite_f hb35 hh
                obtain ⟨r36, hr36, hh⟩ := bindS hh
                try simp only [x_l47_TargetGreater, seval, -Int.reduceToNat, hr1, hr2, t0j1, t4j1, t5j1, t7j1, t27j1, H4j1, H5j1, hr5, hr34, hr36]
                refine tstO_br' (fun hb37 => ?_) (fun hb37 => ?_)
                · replace hh := ite_t hb37 hh
                  cases hh
                  try simp only [x_l47_TargetGreater, seval, -Int.reduceToNat, hr1, hr2, t0j1, t4j1, t5j1, t7j1, t27j1, H4j1, H5j1, hr5, hr34, hr36]
                  rw [CK_normal]
                  refine ⟨_, rfl, ?_⟩
                  refine ⟨v4j1, v5j1, ?_, ?_, ?_, ?_, ?_, ?_, ?_⟩
                  all_goals (first | rfl | (simp only [x_l47_TargetGreater, seval, -Int.reduceToNat, hr1, hr2, t0j1, t4j1, t5j1, t7j1, t27j1, H4j1, H5j1, hr5, hr34, hr36] <;> rfl))
                · replace hh := ite_f hb37 hh
                  obtain ⟨r38, hr38, hh⟩ := bindS hh
                  cases hh
                  try simp only [x_l47_TargetGreater, seval, -Int.reduceToNat, hr1, hr2, t0j1, t4j1, t5j1, t7j1, t27j1, H4j1, H5j1, hr5, hr34, hr36, hr38]
                  rw [CK_normal]
                  refine ⟨_, rfl, ?_⟩
                  refine ⟨v4j1, v5j1, ?_, ?_, ?_, ?_, ?_, ?_, ?_⟩
                  all_goals (first | rfl | (simp only [x_l47_TargetGreater, seval, -Int.reduceToNat, hr1, hr2, t0j1, t4j1, t5j1, t7j1, t27j1, H4j1, H5j1, hr5, hr34, hr36, hr38] <;> rfl))
  ·
    clear hh
    have hh := ho3
    try simp only [x_l47_TargetGreater, seval, -Int.reduceToNat, hr1, hr2]
    refine tstO_br' (fun hb39 => ?_) (fun hb39 => ?_)
    · replace hh := ite_t hb39 hh
      cases hh
      try simp only [x_l47_TargetGreater, seval, -Int.reduceToNat, hr1, hr2]
      rw [CK_normal]
      refine ⟨_, rfl, ?_⟩
      refine ⟨0, 0, ?_, ?_, ?_, ?_, ?_, ?_, ?_⟩
      all_goals (first | rfl | (simp only [x_l47_TargetGreater, seval, -Int.reduceToNat, hr1, hr2] <;> rfl))
    · replace hh := ite_f hb39 hh
      obtain ⟨r40, hr40, hh⟩ := bindS hh
      cases hh
      try simp only [x_l47_TargetGreater, seval, -Int.reduceToNat, hr1, hr2, hr40]
      rw [CK_normal]
      refine ⟨_, rfl, ?_⟩
      refine ⟨0, 0, ?_, ?_, ?_, ?_, ?_, ?_, ?_⟩
      all_goals (first | rfl | (simp only [x_l47_TargetGreater, seval, -Int.reduceToNat, hr1, hr2, hr40] <;> rfl))

theorem ok_l47_TargetGreater : COk Try.prog 7 G_l47_TargetGreater := COk.of (mode := .clean) tok ge_l47_TargetGreater mixed Try.func7 (by kernel_rfl) ⟨by kernel_rfl, by kernel_rfl⟩ (fun _ => Nat.le_of_ble_eq_true (by kernel_rfl)) (fun x r h => m_l47_TargetGreater x.1 x.2.1 x.2.2 r h)
end Go.Proofs.Ytadpbhbkdnfbpaa.Am
