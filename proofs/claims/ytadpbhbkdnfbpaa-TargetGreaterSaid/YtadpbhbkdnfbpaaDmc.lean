/- The machine computes the plain functions (written by wip/dec.py). -/
import Derived.Test.YtadpbhbkdnfbpaaDmb
namespace Go.Proofs.Ytadpbhbkdnfbpaa.Am
open Go.RowKit Go.Proofs.Ytadpbhbkdnfbpaa.P
set_option maxRecDepth 100000
set_option maxHeartbeats 4000000
set_option linter.unusedSimpArgs false
set_option linter.unusedVariables false

noncomputable def G_l47_TargetFewest := mkG (asC (aSl eTFrac) (asC (aAgg eTFrac) (as1 (aI .u8)))) (fun x : (List TFrac) × TFrac × Int => l47_TargetFewest x.1 x.2.1 x.2.2) (fun r : Bool => .clean (.bool r))

theorem q_l47_TargetFewest (p0 : (List TFrac)) (p1_0 : Int) (p1_1 : (List Int)) (p1_2 : Int) (p1_3 : (List Int)) (p2 : Int) : G_l47_TargetFewest none [.sl false false p0.length (encL eTFrac p0), .agg [.int .i64 p1_0, .sl false false p1_1.length (encL (eI .i64) p1_1), .int .i64 p1_2, .sl false false p1_3.length (encL (eI .i64) p1_3)], .int .u8 p2] = (l47_TargetFewest p0 (TFrac.mk (TBig.mk p1_0 p1_1) (TBig.mk p1_2 p1_3)) p2).map fun r : Bool => (.clean (.bool r), none) := mkG_eq _ _ _ (p0, (TFrac.mk (TBig.mk p1_0 p1_1) (TBig.mk p1_2 p1_3)), p2)

noncomputable def g_l47_TargetFewest : Env := (Am.ext (Am.ext (Am.ext (Am.ext (Am.ext (Am.ext (Am.ext (Am.ext (Am.ext noEnv 8 false G_l47_small) 9 false G_r47_Few) 11 false G_target_Sets) 13 false G_target_Minimal) 16 false G_target_Edits) 20 false G_frac_Right) 21 false G_frac_Compare) 22 false G_l47_bits) 23 false G_l47_many)

theorem ge_l47_TargetFewest : GOk Try.prog g_l47_TargetFewest := (((((((((GOk.none.add ok_l47_small false).add ok_r47_Few false).add ok_target_Sets false).add ok_target_Minimal false).add ok_target_Edits false).add ok_frac_Right false).add ok_frac_Compare false).add ok_l47_bits false).add ok_l47_many false)

theorem gg_l47_TargetFewest : g_l47_TargetFewest = (Am.ext (Am.ext (Am.ext (Am.ext (Am.ext (Am.ext (Am.ext (Am.ext (Am.ext noEnv 8 false G_l47_small) 9 false G_r47_Few) 11 false G_target_Sets) 13 false G_target_Minimal) 16 false G_target_Edits) 20 false G_frac_Right) 21 false G_frac_Compare) 22 false G_l47_bits) 23 false G_l47_many) := Eq.trans rfl rfl

theorem x_l47_TargetFewest : type_of% (And.intro @w <| And.intro @q_l47_small <| And.intro @q_r47_Few <| And.intro @q_target_Sets <| And.intro @q_target_Minimal <| And.intro @q_target_Edits <| And.intro @q_frac_Right <| And.intro @q_frac_Compare <| And.intro @q_l47_bits <| And.intro @q_l47_many <| @gg_l47_TargetFewest) := And.intro @w <| And.intro @q_l47_small <| And.intro @q_r47_Few <| And.intro @q_target_Sets <| And.intro @q_target_Minimal <| And.intro @q_target_Edits <| And.intro @q_frac_Right <| And.intro @q_frac_Compare <| And.intro @q_l47_bits <| And.intro @q_l47_many <| @gg_l47_TargetFewest

theorem m_l47_TargetFewest (p0 : (List TFrac)) (p1 : TFrac) (p2 : Int) (r : Bool) (hh : l47_TargetFewest p0 p1 p2 = some r) : vfunc .clean tab g_l47_TargetFewest FU Try.f4 none [.sl false false p0.length (encL eTFrac p0), .agg [.int .i64 p1.f_P.f_Sign, .sl false false p1.f_P.f_Digits.length (encL (eI .i64) p1.f_P.f_Digits), .int .i64 p1.f_Q.f_Sign, .sl false false p1.f_Q.f_Digits.length (encL (eI .i64) p1.f_Q.f_Digits)], .int .u8 p2] = some (.clean (.bool r), none) := by
  refine vfunc_of rfl Try.ntmps4 Try.results4 ?_
  unfold l47_TargetFewest at hh
  obtain ⟨r1, hr1, hh⟩ := bindS hh
  obtain ⟨r2, hr2, hh⟩ := bindS hh
  try simp only [x_l47_TargetFewest, seval, -Int.reduceToNat, hr1, hr2]
  refine tstC_br (fun hb3 => ?_) (fun hb3 => ?_)
  · replace hh := ite_t hb3 hh
    cases hh
    try simp only [x_l47_TargetFewest, seval, -Int.reduceToNat, hr1, hr2]
  · replace hh := ite_f hb3 hh
    obtain ⟨r4, hr4, hh⟩ := bindS hh
    try simp only [x_l47_TargetFewest, seval, -Int.reduceToNat, hr1, hr2, hr4]
    obtain ⟨o5, ho5, hh⟩ := bindS hh
    refine tstO_cut 0 (fun s t H e => match s with | s47j1 => ∃ v4j1 : Nat, t 0 = .sl false false p0.length (encL eTFrac p0) ∧ t 2 = .int .u8 p2 ∧ t 4 = .ptr 4 v4j1 0 ∧ t 7 = .bool r1 ∧ t 8 = .int .i64 r4 ∧ t 47 = .bool s47j1 ∧ H 4 = some ⟨v4j1, 27, [.int .i64 p1.f_P.f_Sign, .sl false false p1.f_P.f_Digits.length (encL (eI .i64) p1.f_P.f_Digits), .int .i64 p1.f_Q.f_Sign, .sl false false p1.f_Q.f_Digits.length (encL (eI .i64) p1.f_Q.f_Digits)], false, false⟩) (fun s => s = o5) ?_ ?_
    · rintro s47j1 t H e ⟨v4j1, t0j1, t2j1, t4j1, t7j1, t8j1, t47j1, H4j1⟩ rfl
      try dsimp only at hh
      try simp only [x_l47_TargetFewest, seval, -Int.reduceToNat, hr1, hr2, hr4, t0j1, t2j1, t4j1, t7j1, t8j1, t47j1, H4j1]
      refine tstC_br (fun hb6 => ?_) (fun hb6 => ?_)
      · replace hh := ite_t hb6 hh
        cases hh
        try simp only [x_l47_TargetFewest, seval, -Int.reduceToNat, hr1, hr2, hr4, t0j1, t2j1, t4j1, t7j1, t8j1, t47j1, H4j1]
      · replace hh := ite_f hb6 hh
        obtain ⟨r7, hr7, hh⟩ := bindS hh
        obtain ⟨r8, hr8, hh⟩ := bindS hh
        obtain ⟨x9, hx9, hh⟩ := bindS hh
        obtain ⟨q10a, q10b⟩ := modI_ok hx9
        obtain ⟨x11, hx11, hh⟩ := bindS hh
        have bx11 := idx_bd hx11
        have ax11 := idx_enc eTFrac hx11
        have fx11 := idx_fit eTFrac hx11
        simp only [vmz] at ax11 fx11
        skip
        obtain ⟨r12, hr12, hh⟩ := bindS hh
        try simp only [x_l47_TargetFewest, seval, -Int.reduceToNat, hr1, hr2, hr4, t0j1, t2j1, t4j1, t7j1, t8j1, t47j1, H4j1, hr7, hr8, q10a, q10b, bx11, ax11, fx11, hr12]
        refine dyn_ok (by kernel_rfl) ?_
        try simp only [x_l47_TargetFewest, seval, -Int.reduceToNat, hr1, hr2, hr4, t0j1, t2j1, t4j1, t7j1, t8j1, t47j1, H4j1, hr7, hr8, q10a, q10b, bx11, ax11, fx11, hr12]
        obtain ⟨o13, ho13, hh⟩ := bindS hh
        refine tstO_cut 0 (fun s t H e => match s with | s78j2 => ∃ v4j2 : Nat, t 0 = .sl false false p0.length (encL eTFrac p0) ∧ t 4 = .ptr 4 v4j2 0 ∧ t 7 = .bool r1 ∧ t 8 = .int .i64 r4 ∧ t 9 = .sl false false r7.1.length (encL (eSl (eI .i64)) r7.1) ∧ t 10 = .int .i64 r7.2 ∧ t 11 = .sl false false r8.1.length (encL (eSl (eI .i64)) r8.1) ∧ t 12 = .int .i64 r8.2 ∧ t 13 = .int .i64 x9 ∧ t 14 = .bool (decide (r12 ≤ 0)) ∧ t 78 = .bool s78j2 ∧ H 4 = some ⟨v4j2, 27, [.int .i64 p1.f_P.f_Sign, .sl false false p1.f_P.f_Digits.length (encL (eI .i64) p1.f_P.f_Digits), .int .i64 p1.f_Q.f_Sign, .sl false false p1.f_Q.f_Digits.length (encL (eI .i64) p1.f_Q.f_Digits)], false, false⟩) (fun s => s = o13) ?_ ?_
        · rintro s78j2 t H e ⟨v4j2, t0j2, t4j2, t7j2, t8j2, t9j2, t10j2, t11j2, t12j2, t13j2, t14j2, t78j2, H4j2⟩ rfl
          try dsimp only at hh
          try simp only [x_l47_TargetFewest, seval, -Int.reduceToNat, hr1, hr2, hr4, hr7, hr8, q10a, q10b, bx11, ax11, fx11, hr12, t0j2, t4j2, t7j2, t8j2, t9j2, t10j2, t11j2, t12j2, t13j2, t14j2, t78j2, H4j2]
          refine tstC_br (fun hb14 => ?_) (fun hb14 => ?_)
          · replace hh := ite_t hb14 hh
            try simp only [x_l47_TargetFewest, seval, -Int.reduceToNat, hr1, hr2, hr4, hr7, hr8, q10a, q10b, bx11, ax11, fx11, hr12, t0j2, t4j2, t7j2, t8j2, t9j2, t10j2, t11j2, t12j2, t13j2, t14j2, t78j2, H4j2]
            obtain ⟨o15, ho15, hh⟩ := bindS hh
            refine tstO_cut 0 (fun s t H e => match s with | s6j3 => t 6 = .bool s6j3) (fun s => s = o15) ?_ ?_
            · rintro s6j3 t H e t6j3 rfl
              try dsimp only at hh
              cases hh
              try simp only [x_l47_TargetFewest, seval, -Int.reduceToNat, hr1, hr2, hr4, hr7, hr8, q10a, q10b, bx11, ax11, fx11, hr12, t6j3]
            ·
              clear hh
              have hh := ho15
              try simp only [x_l47_TargetFewest, seval, -Int.reduceToNat, hr1, hr2, hr4, hr7, hr8, q10a, q10b, bx11, ax11, fx11, hr12, t0j2, t4j2, t7j2, t8j2, t9j2, t10j2, t11j2, t12j2, t13j2, t14j2, t78j2, H4j2]
              refine tstO_br (fun hb16 => ?_) (fun hb16 => ?_)
              · replace hh := ite_t hb16 hh
                try simp only [x_l47_TargetFewest, seval, -Int.reduceToNat, hr1, hr2, hr4, hr7, hr8, q10a, q10b, bx11, ax11, fx11, hr12, t0j2, t4j2, t7j2, t8j2, t9j2, t10j2, t11j2, t12j2, t13j2, t14j2, t78j2, H4j2]
                refine tstO_br (fun hb17 => ?_) (fun hb17 => ?_)
                · replace hh := ite_t hb17 hh
                  try simp only [x_l47_TargetFewest, seval, -Int.reduceToNat, hr1, hr2, hr4, hr7, hr8, q10a, q10b, bx11, ax11, fx11, hr12, t0j2, t4j2, t7j2, t8j2, t9j2, t10j2, t11j2, t12j2, t13j2, t14j2, t78j2, H4j2]
                  refine tstO_br (fun hb18 => ?_) (fun hb18 => ?_)
                  · replace hh := ite_t hb18 hh
                    try simp only [x_l47_TargetFewest, seval, -Int.reduceToNat, hr1, hr2, hr4, hr7, hr8, q10a, q10b, bx11, ax11, fx11, hr12, t0j2, t4j2, t7j2, t8j2, t9j2, t10j2, t11j2, t12j2, t13j2, t14j2, t78j2, H4j2]
                    refine tstO_br (fun hb19 => ?_) (fun hb19 => ?_)
                    · replace hh := ite_t hb19 hh
                      try simp only [x_l47_TargetFewest, seval, -Int.reduceToNat, hr1, hr2, hr4, hr7, hr8, q10a, q10b, bx11, ax11, fx11, hr12, t0j2, t4j2, t7j2, t8j2, t9j2, t10j2, t11j2, t12j2, t13j2, t14j2, t78j2, H4j2]
                      refine tstO_br (fun hb20 => ?_) (fun hb20 => ?_)
                      · replace hh := ite_t hb20 hh
                        cases hh
                        try simp only [x_l47_TargetFewest, seval, -Int.reduceToNat, hr1, hr2, hr4, hr7, hr8, q10a, q10b, bx11, ax11, fx11, hr12, t0j2, t4j2, t7j2, t8j2, t9j2, t10j2, t11j2, t12j2, t13j2, t14j2, t78j2, H4j2]
                        rw [CK_normal]
                        refine ⟨_, rfl, ?_⟩
                        refine ?_
                        all_goals (first | rfl | (simp only [x_l47_TargetFewest, seval, -Int.reduceToNat, hr1, hr2, hr4, hr7, hr8, q10a, q10b, bx11, ax11, fx11, hr12, t0j2, t4j2, t7j2, t8j2, t9j2, t10j2, t11j2, t12j2, t13j2, t14j2, t78j2, H4j2] <;> rfl))
                      · replace hh := ite_f hb20 hh
                        cases hh
                        try simp only [x_l47_TargetFewest, seval, -Int.reduceToNat, hr1, hr2, hr4, hr7, hr8, q10a, q10b, bx11, ax11, fx11, hr12, t0j2, t4j2, t7j2, t8j2, t9j2, t10j2, t11j2, t12j2, t13j2, t14j2, t78j2, H4j2]
                        rw [CK_normal]
                        refine ⟨_, rfl, ?_⟩
                        refine ?_
                        all_goals (first | rfl | (simp only [x_l47_TargetFewest, seval, -Int.reduceToNat, hr1, hr2, hr4, hr7, hr8, q10a, q10b, bx11, ax11, fx11, hr12, t0j2, t4j2, t7j2, t8j2, t9j2, t10j2, t11j2, t12j2, t13j2, t14j2, t78j2, H4j2] <;> rfl))
                    · replace hh := ite_f hb19 hh
                      cases hh
                      try simp only [x_l47_TargetFewest, seval, -Int.reduceToNat, hr1, hr2, hr4, hr7, hr8, q10a, q10b, bx11, ax11, fx11, hr12, t0j2, t4j2, t7j2, t8j2, t9j2, t10j2, t11j2, t12j2, t13j2, t14j2, t78j2, H4j2]
                      rw [CK_normal]
                      refine ⟨_, rfl, ?_⟩
                      refine ?_
                      all_goals (first | rfl | (simp only [x_l47_TargetFewest, seval, -Int.reduceToNat, hr1, hr2, hr4, hr7, hr8, q10a, q10b, bx11, ax11, fx11, hr12, t0j2, t4j2, t7j2, t8j2, t9j2, t10j2, t11j2, t12j2, t13j2, t14j2, t78j2, H4j2] <;> rfl))
                  · replace hh := ite_f hb18 hh
                    cases hh
                    try simp only [x_l47_TargetFewest, seval, -Int.reduceToNat, hr1, hr2, hr4, hr7, hr8, q10a, q10b, bx11, ax11, fx11, hr12, t0j2, t4j2, t7j2, t8j2, t9j2, t10j2, t11j2, t12j2, t13j2, t14j2, t78j2, H4j2]
                    rw [CK_normal]
                    refine ⟨_, rfl, ?_⟩
                    refine ?_
                    all_goals (first | rfl | (simp only [x_l47_TargetFewest, seval, -Int.reduceToNat, hr1, hr2, hr4, hr7, hr8, q10a, q10b, bx11, ax11, fx11, hr12, t0j2, t4j2, t7j2, t8j2, t9j2, t10j2, t11j2, t12j2, t13j2, t14j2, t78j2, H4j2] <;> rfl))
                · replace hh := ite_f hb17 hh
                  cases hh
                  try simp only [x_l47_TargetFewest, seval, -Int.reduceToNat, hr1, hr2, hr4, hr7, hr8, q10a, q10b, bx11, ax11, fx11, hr12, t0j2, t4j2, t7j2, t8j2, t9j2, t10j2, t11j2, t12j2, t13j2, t14j2, t78j2, H4j2]
                  rw [CK_normal]
                  refine ⟨_, rfl, ?_⟩
                  refine ?_
                  all_goals (first | rfl | (simp only [x_l47_TargetFewest, seval, -Int.reduceToNat, hr1, hr2, hr4, hr7, hr8, q10a, q10b, bx11, ax11, fx11, hr12, t0j2, t4j2, t7j2, t8j2, t9j2, t10j2, t11j2, t12j2, t13j2, t14j2, t78j2, H4j2] <;> rfl))
              · replace hh := ite_f hb16 hh
                cases hh
                try simp only [x_l47_TargetFewest, seval, -Int.reduceToNat, hr1, hr2, hr4, hr7, hr8, q10a, q10b, bx11, ax11, fx11, hr12, t0j2, t4j2, t7j2, t8j2, t9j2, t10j2, t11j2, t12j2, t13j2, t14j2, t78j2, H4j2]
                rw [CK_normal]
                refine ⟨_, rfl, ?_⟩
                refine ?_
                all_goals (first | rfl | (simp only [x_l47_TargetFewest, seval, -Int.reduceToNat, hr1, hr2, hr4, hr7, hr8, q10a, q10b, bx11, ax11, fx11, hr12, t0j2, t4j2, t7j2, t8j2, t9j2, t10j2, t11j2, t12j2, t13j2, t14j2, t78j2, H4j2] <;> rfl))
          · replace hh := ite_f hb14 hh
            obtain ⟨x21, hx21, hh⟩ := bindS hh
            obtain ⟨q22a, q22b, q22c⟩ := app_nil hx21
            subst q22a
            obtain ⟨x23, hx23, hh⟩ := bindS hh
            obtain ⟨q24a, q24b, q24c, q24d⟩ := app_two (eSl (eI .i64)) hx23
            try simp only [x_l47_TargetFewest, seval, -Int.reduceToNat, hr1, hr2, hr4, hr7, hr8, q10a, q10b, bx11, ax11, fx11, hr12, t0j2, t4j2, t7j2, t8j2, t9j2, t10j2, t11j2, t12j2, t13j2, t14j2, t78j2, H4j2, q22b, q22c, q24a, q24b, q24c, q24d]
            obtain ⟨o57, ho57, hh⟩ := bindS hh
            refine runLoop_sim (fun s t H e => match s with | (s15d, s17d) => ∃ v4d : Nat, ∃ v16d : Nat, t 0 = .sl false false p0.length (encL eTFrac p0) ∧ t 4 = .ptr 4 v4d 0 ∧ t 7 = .bool r1 ∧ t 8 = .int .i64 r4 ∧ t 9 = .sl false false r7.1.length (encL (eSl (eI .i64)) r7.1) ∧ t 13 = .int .i64 x9 ∧ t 14 = .bool (decide (r12 ≤ 0)) ∧ t 15 = .bool s15d ∧ t 16 = .buf 16 v16d 1 0 (x23).length ∧ t 17 = .int .i64 s17d ∧ H 4 = some ⟨v4d, 27, [.int .i64 p1.f_P.f_Sign, .sl false false p1.f_P.f_Digits.length (encL (eI .i64) p1.f_P.f_Digits), .int .i64 p1.f_Q.f_Sign, .sl false false p1.f_Q.f_Digits.length (encL (eI .i64) p1.f_Q.f_Digits)], false, false⟩ ∧ H 16 = some ⟨v16d, 23, encL (eSl (eI .i64)) x23, false, true⟩) (fun o x t H e => match o with | (.inl s15dx) => x = .exit 0 ∧ t 7 = .bool r1 ∧ t 14 = .bool (decide (r12 ≤ 0)) ∧ t 15 = .bool s15dx | (.inr r) => x = .ret ∧ endM .clean tab none [.tmp 6] ⟨t, H, e⟩ = some (.clean (.bool r), none)) ho57 ?_ ?_ ?_
            ·
              refine ⟨v4j2, e + 1, ?_, ?_, ?_, ?_, ?_, ?_, ?_, ?_, ?_, ?_, ?_, ?_⟩
              all_goals (first | rfl | (simp only [x_l47_TargetFewest, seval, -Int.reduceToNat, hr1, hr2, hr4, hr7, hr8, q10a, q10b, bx11, ax11, fx11, hr12, t0j2, t4j2, t7j2, t8j2, t9j2, t10j2, t11j2, t12j2, t13j2, t14j2, t78j2, H4j2, q22b, q22c, q24a, q24b, q24c, q24d] <;> rfl))
            · rintro ⟨s15d, s17d⟩ t H e ⟨v4d, v16d, t0d, t4d, t7d, t8d, t9d, t13d, t14d, t15d, t16d, t17d, H4d, H16d⟩ c hh
              simp only [l47_TargetFewest_L4] at hh
              try simp only [x_l47_TargetFewest, seval, -Int.reduceToNat, hr1, hr2, hr4, hr7, hr8, q10a, q10b, bx11, ax11, fx11, hr12, q22b, q22c, q24a, q24b, q24c, q24d, t0d, t4d, t7d, t8d, t9d, t13d, t14d, t15d, t16d, t17d, H4d, H16d]
              refine tstC_br (fun hb58 => ?_) (fun hb58 => ?_)
              · replace hh := ite_t hb58 hh
                obtain ⟨x59, hx59, hh⟩ := bindS hh
                have bx59 := idx_bd hx59
                have ax59 := idx_enc (eSl (eI .i64)) hx59
                have fx59 := idx_fit (eSl (eI .i64)) hx59
                simp only [vmz] at ax59 fx59
                skip
                obtain ⟨r60, hr60, hh⟩ := bindS hh
                try simp only [x_l47_TargetFewest, seval, -Int.reduceToNat, hr1, hr2, hr4, hr7, hr8, q10a, q10b, bx11, ax11, fx11, hr12, q22b, q22c, q24a, q24b, q24c, q24d, t0d, t4d, t7d, t8d, t9d, t13d, t14d, t15d, t16d, t17d, H4d, H16d, bx59, ax59, fx59, hr60]
                obtain ⟨o61, ho61, hh⟩ := bindS hh
                refine tstO_cut 0 (fun s t H e => match s with | s126j8 => ∃ v4j8 : Nat, ∃ v16j8 : Nat, t 0 = .sl false false p0.length (encL eTFrac p0) ∧ t 4 = .ptr 4 v4j8 0 ∧ t 7 = .bool r1 ∧ t 8 = .int .i64 r4 ∧ t 9 = .sl false false r7.1.length (encL (eSl (eI .i64)) r7.1) ∧ t 13 = .int .i64 x9 ∧ t 14 = .bool (decide (r12 ≤ 0)) ∧ t 15 = .bool s15d ∧ t 16 = .buf 16 v16j8 1 0 (x23).length ∧ t 17 = .int .i64 s17d ∧ t 18 = .int .i64 r60 ∧ t 126 = .bool s126j8 ∧ H 4 = some ⟨v4j8, 27, [.int .i64 p1.f_P.f_Sign, .sl false false p1.f_P.f_Digits.length (encL (eI .i64) p1.f_P.f_Digits), .int .i64 p1.f_Q.f_Sign, .sl false false p1.f_Q.f_Digits.length (encL (eI .i64) p1.f_Q.f_Digits)], false, false⟩ ∧ H 16 = some ⟨v16j8, 23, encL (eSl (eI .i64)) x23, false, true⟩) (fun s => s = o61) ?_ ?_
                · rintro s126j8 t H e ⟨v4j8, v16j8, t0j8, t4j8, t7j8, t8j8, t9j8, t13j8, t14j8, t15j8, t16j8, t17j8, t18j8, t126j8, H4j8, H16j8⟩ rfl
                  try dsimp only at hh
                  try simp only [x_l47_TargetFewest, seval, -Int.reduceToNat, hr1, hr2, hr4, hr7, hr8, q10a, q10b, bx11, ax11, fx11, hr12, q22b, q22c, q24a, q24b, q24c, q24d, bx59, ax59, fx59, hr60, t0j8, t4j8, t7j8, t8j8, t9j8, t13j8, t14j8, t15j8, t16j8, t17j8, t18j8, t126j8, H4j8, H16j8]
                  refine tstC_br (fun hb62 => ?_) (fun hb62 => ?_)
                  · replace hh := ite_t hb62 hh
                    cases hh
                    try simp only [x_l47_TargetFewest, seval, -Int.reduceToNat, hr1, hr2, hr4, hr7, hr8, q10a, q10b, bx11, ax11, fx11, hr12, q22b, q22c, q24a, q24b, q24c, q24d, bx59, ax59, fx59, hr60, t0j8, t4j8, t7j8, t8j8, t9j8, t13j8, t14j8, t15j8, t16j8, t17j8, t18j8, t126j8, H4j8, H16j8]
                    rw [LK_ret]
                    refine ⟨_, rfl, ?_⟩
                    refine ⟨rfl, ?_⟩
                    try simp only [x_l47_TargetFewest, seval, -Int.reduceToNat, hr1, hr2, hr4, hr7, hr8, q10a, q10b, bx11, ax11, fx11, hr12, q22b, q22c, q24a, q24b, q24c, q24d, bx59, ax59, fx59, hr60, t0j8, t4j8, t7j8, t8j8, t9j8, t13j8, t14j8, t15j8, t16j8, t17j8, t18j8, t126j8, H4j8, H16j8]
                  · replace hh := ite_f hb62 hh
                    obtain ⟨x63, hx63, hh⟩ := bindS hh
                    have bx63 := idx_bd hx63
                    have ax63 := idx_enc eTFrac hx63
                    have fx63 := idx_fit eTFrac hx63
                    simp only [vmz] at ax63 fx63
                    skip
                    obtain ⟨r64, hr64, hh⟩ := bindS hh
                    try simp only [x_l47_TargetFewest, seval, -Int.reduceToNat, hr1, hr2, hr4, hr7, hr8, q10a, q10b, bx11, ax11, fx11, hr12, q22b, q22c, q24a, q24b, q24c, q24d, bx59, ax59, fx59, hr60, t0j8, t4j8, t7j8, t8j8, t9j8, t13j8, t14j8, t15j8, t16j8, t17j8, t18j8, t126j8, H4j8, H16j8, bx63, ax63, fx63, hr64]
                    obtain ⟨o65, ho65, hh⟩ := bindS hh
                    refine tstP_cut 0 (fun s t H e => match s with | s152j9 => ∃ v4j9 : Nat, ∃ v16j9 : Nat, t 0 = .sl false false p0.length (encL eTFrac p0) ∧ t 4 = .ptr 4 v4j9 0 ∧ t 7 = .bool r1 ∧ t 8 = .int .i64 r4 ∧ t 9 = .sl false false r7.1.length (encL (eSl (eI .i64)) r7.1) ∧ t 13 = .int .i64 x9 ∧ t 14 = .bool (decide (r12 ≤ 0)) ∧ t 15 = .bool s15d ∧ t 16 = .buf 16 v16j9 1 0 (x23).length ∧ t 17 = .int .i64 s17d ∧ t 18 = .int .i64 r60 ∧ t 152 = .bool s152j9 ∧ H 4 = some ⟨v4j9, 27, [.int .i64 p1.f_P.f_Sign, .sl false false p1.f_P.f_Digits.length (encL (eI .i64) p1.f_P.f_Digits), .int .i64 p1.f_Q.f_Sign, .sl false false p1.f_Q.f_Digits.length (encL (eI .i64) p1.f_Q.f_Digits)], false, false⟩ ∧ H 16 = some ⟨v16j9, 23, encL (eSl (eI .i64)) x23, false, true⟩) (fun s => s = o65) ?_ ?_
                    · rintro s152j9 t H e ⟨v4j9, v16j9, t0j9, t4j9, t7j9, t8j9, t9j9, t13j9, t14j9, t15j9, t16j9, t17j9, t18j9, t152j9, H4j9, H16j9⟩ rfl
                      try dsimp only at hh
                      try simp only [x_l47_TargetFewest, seval, -Int.reduceToNat, hr1, hr2, hr4, hr7, hr8, q10a, q10b, bx11, ax11, fx11, hr12, q22b, q22c, q24a, q24b, q24c, q24d, bx59, ax59, fx59, hr60, bx63, ax63, fx63, hr64, t0j9, t4j9, t7j9, t8j9, t9j9, t13j9, t14j9, t15j9, t16j9, t17j9, t18j9, t152j9, H4j9, H16j9]
                      refine tstC_br (fun hb66 => ?_) (fun hb66 => ?_)
                      · replace hh := ite_t hb66 hh
                        cases hh
                        try simp only [x_l47_TargetFewest, seval, -Int.reduceToNat, hr1, hr2, hr4, hr7, hr8, q10a, q10b, bx11, ax11, fx11, hr12, q22b, q22c, q24a, q24b, q24c, q24d, bx59, ax59, fx59, hr60, bx63, ax63, fx63, hr64, t0j9, t4j9, t7j9, t8j9, t9j9, t13j9, t14j9, t15j9, t16j9, t17j9, t18j9, t152j9, H4j9, H16j9]
                        rw [LK_ret]
                        refine ⟨_, rfl, ?_⟩
                        refine ⟨rfl, ?_⟩
                        try simp only [x_l47_TargetFewest, seval, -Int.reduceToNat, hr1, hr2, hr4, hr7, hr8, q10a, q10b, bx11, ax11, fx11, hr12, q22b, q22c, q24a, q24b, q24c, q24d, bx59, ax59, fx59, hr60, bx63, ax63, fx63, hr64, t0j9, t4j9, t7j9, t8j9, t9j9, t13j9, t14j9, t15j9, t16j9, t17j9, t18j9, t152j9, H4j9, H16j9]
                      · replace hh := ite_f hb66 hh
                        try simp only [x_l47_TargetFewest, seval, -Int.reduceToNat, hr1, hr2, hr4, hr7, hr8, q10a, q10b, bx11, ax11, fx11, hr12, q22b, q22c, q24a, q24b, q24c, q24d, bx59, ax59, fx59, hr60, bx63, ax63, fx63, hr64, t0j9, t4j9, t7j9, t8j9, t9j9, t13j9, t14j9, t15j9, t16j9, t17j9, t18j9, t152j9, H4j9, H16j9]
                        obtain ⟨o75, ho75, hh⟩ := bindS hh
                        refine runLoop_sim (fun s t H e => match s with | s19j => ∃ v4j : Nat, ∃ v16j : Nat, t 0 = .sl false false p0.length (encL eTFrac p0) ∧ t 4 = .ptr 4 v4j 0 ∧ t 7 = .bool r1 ∧ t 8 = .int .i64 r4 ∧ t 9 = .sl false false r7.1.length (encL (eSl (eI .i64)) r7.1) ∧ t 13 = .int .i64 x9 ∧ t 14 = .bool (decide (r12 ≤ 0)) ∧ t 15 = .bool s15d ∧ t 16 = .buf 16 v16j 1 0 (x23).length ∧ t 17 = .int .i64 s17d ∧ t 18 = .int .i64 r60 ∧ t 19 = .int .i64 s19j ∧ H 4 = some ⟨v4j, 27, [.int .i64 p1.f_P.f_Sign, .sl false false p1.f_P.f_Digits.length (encL (eI .i64) p1.f_P.f_Digits), .int .i64 p1.f_Q.f_Sign, .sl false false p1.f_Q.f_Digits.length (encL (eI .i64) p1.f_Q.f_Digits)], false, false⟩ ∧ H 16 = some ⟨v16j, 23, encL (eSl (eI .i64)) x23, false, true⟩) (fun o x t H e => match o with | (.inl _) => x = .exit 2 ∧ ∃ v4jx : Nat, ∃ v16jx : Nat, t 0 = .sl false false p0.length (encL eTFrac p0) ∧ t 4 = .ptr 4 v4jx 0 ∧ t 7 = .bool r1 ∧ t 8 = .int .i64 r4 ∧ t 9 = .sl false false r7.1.length (encL (eSl (eI .i64)) r7.1) ∧ t 13 = .int .i64 x9 ∧ t 14 = .bool (decide (r12 ≤ 0)) ∧ t 15 = .bool s15d ∧ t 16 = .buf 16 v16jx 1 0 (x23).length ∧ t 17 = .int .i64 s17d ∧ t 18 = .int .i64 r60 ∧ H 4 = some ⟨v4jx, 27, [.int .i64 p1.f_P.f_Sign, .sl false false p1.f_P.f_Digits.length (encL (eI .i64) p1.f_P.f_Digits), .int .i64 p1.f_Q.f_Sign, .sl false false p1.f_Q.f_Digits.length (encL (eI .i64) p1.f_Q.f_Digits)], false, false⟩ ∧ H 16 = some ⟨v16jx, 23, encL (eSl (eI .i64)) x23, false, true⟩ | (.inr r) => x = .ret ∧ endM .clean tab none [.tmp 6] ⟨t, H, e⟩ = some (.clean (.bool r), none)) ho75 ?_ ?_ ?_
                        ·
                          refine ⟨v4j9, v16j9, ?_, ?_, ?_, ?_, ?_, ?_, ?_, ?_, ?_, ?_, ?_, ?_, ?_, ?_⟩
                          all_goals (first | rfl | (simp only [x_l47_TargetFewest, seval, -Int.reduceToNat, hr1, hr2, hr4, hr7, hr8, q10a, q10b, bx11, ax11, fx11, hr12, q22b, q22c, q24a, q24b, q24c, q24d, bx59, ax59, fx59, hr60, bx63, ax63, fx63, hr64, t0j9, t4j9, t7j9, t8j9, t9j9, t13j9, t14j9, t15j9, t16j9, t17j9, t18j9, t152j9, H4j9, H16j9] <;> rfl))
                        · rintro s19j t H e ⟨v4j, v16j, t0j, t4j, t7j, t8j, t9j, t13j, t14j, t15j, t16j, t17j, t18j, t19j, H4j, H16j⟩ c hh
                          simp only [l47_TargetFewest_L10] at hh
                          have bx59 := idx_bd hx59
                          have ax59 := idx_enc (eSl (eI .i64)) hx59
                          have fx59 := idx_fit (eSl (eI .i64)) hx59
                          simp only [vmz] at ax59 fx59
                          skip
                          try simp only [x_l47_TargetFewest, seval, -Int.reduceToNat, hr1, hr2, hr4, hr7, hr8, q10a, q10b, bx11, ax11, fx11, hr12, q22b, q22c, q24a, q24b, q24c, q24d, bx59, ax59, fx59, hr60, bx63, ax63, fx63, hr64, t0j, t4j, t7j, t8j, t9j, t13j, t14j, t15j, t16j, t17j, t18j, t19j, H4j, H16j, bx59, ax59, fx59]
                          refine tstC_br (fun hb76 => ?_) (fun hb76 => ?_)
                          · replace hh := ite_t hb76 hh
                            have bx59 := idx_bd hx59
                            have ax59 := idx_enc (eSl (eI .i64)) hx59
                            have fx59 := idx_fit (eSl (eI .i64)) hx59
                            simp only [vmz] at ax59 fx59
                            skip
                            obtain ⟨x77, hx77, hh⟩ := bindS hh
                            have bx77 := idx_bd hx77
                            have ax77 := idx_enc (eI .i64) hx77
                            have fx77 := idx_fit (eI .i64) hx77
                            simp only [vmz] at ax77 fx77
                            skip
                            obtain ⟨x78, hx78, hh⟩ := bindS hh
                            obtain ⟨q79a, q79b⟩ := shlI_ok hx78
                            obtain ⟨x80, hx80, hh⟩ := bindS hh
                            have bx80 := idx_bd hx80
                            have ax80 := idx_enc eTFrac hx80
                            have fx80 := idx_fit eTFrac hx80
                            simp only [vmz] at ax80 fx80
                            skip
                            obtain ⟨r81, hr81, hh⟩ := bindS hh
                            try simp only [x_l47_TargetFewest, seval, -Int.reduceToNat, hr1, hr2, hr4, hr7, hr8, q10a, q10b, bx11, ax11, fx11, hr12, q22b, q22c, q24a, q24b, q24c, q24d, bx59, ax59, fx59, hr60, bx63, ax63, fx63, hr64, t0j, t4j, t7j, t8j, t9j, t13j, t14j, t15j, t16j, t17j, t18j, t19j, H4j, H16j, bx59, ax59, fx59, bx59, ax59, fx59, bx77, ax77, fx77, q79a, q79b, bx80, ax80, fx80, hr81]
                            refine dyn_ok (by kernel_rfl) ?_
                            try simp only [x_l47_TargetFewest, seval, -Int.reduceToNat, hr1, hr2, hr4, hr7, hr8, q10a, q10b, bx11, ax11, fx11, hr12, q22b, q22c, q24a, q24b, q24c, q24d, bx59, ax59, fx59, hr60, bx63, ax63, fx63, hr64, t0j, t4j, t7j, t8j, t9j, t13j, t14j, t15j, t16j, t17j, t18j, t19j, H4j, H16j, bx59, ax59, fx59, bx59, ax59, fx59, bx77, ax77, fx77, q79a, q79b, bx80, ax80, fx80, hr81]
                            refine tstC_br (fun hb82 => ?_) (fun hb82 => ?_)
                            · replace hh := ite_t hb82 hh
                              cases hh
                              try simp only [x_l47_TargetFewest, seval, -Int.reduceToNat, hr1, hr2, hr4, hr7, hr8, q10a, q10b, bx11, ax11, fx11, hr12, q22b, q22c, q24a, q24b, q24c, q24d, bx59, ax59, fx59, hr60, bx63, ax63, fx63, hr64, t0j, t4j, t7j, t8j, t9j, t13j, t14j, t15j, t16j, t17j, t18j, t19j, H4j, H16j, bx59, ax59, fx59, bx59, ax59, fx59, bx77, ax77, fx77, q79a, q79b, bx80, ax80, fx80, hr81]
                              rw [LK_ret]
                              refine ⟨_, rfl, ?_⟩
                              refine ⟨rfl, ?_⟩
                              try simp only [x_l47_TargetFewest, seval, -Int.reduceToNat, hr1, hr2, hr4, hr7, hr8, q10a, q10b, bx11, ax11, fx11, hr12, q22b, q22c, q24a, q24b, q24c, q24d, bx59, ax59, fx59, hr60, bx63, ax63, fx63, hr64, t0j, t4j, t7j, t8j, t9j, t13j, t14j, t15j, t16j, t17j, t18j, t19j, H4j, H16j, bx59, ax59, fx59, bx59, ax59, fx59, bx77, ax77, fx77, q79a, q79b, bx80, ax80, fx80, hr81]
                            · replace hh := ite_f hb82 hh
                              cases hh
                              try simp only [x_l47_TargetFewest, seval, -Int.reduceToNat, hr1, hr2, hr4, hr7, hr8, q10a, q10b, bx11, ax11, fx11, hr12, q22b, q22c, q24a, q24b, q24c, q24d, bx59, ax59, fx59, hr60, bx63, ax63, fx63, hr64, t0j, t4j, t7j, t8j, t9j, t13j, t14j, t15j, t16j, t17j, t18j, t19j, H4j, H16j, bx59, ax59, fx59, bx59, ax59, fx59, bx77, ax77, fx77, q79a, q79b, bx80, ax80, fx80, hr81]
                              rw [LK_normal]
                              refine ⟨_, rfl, ?_⟩
                              refine ⟨v4j, v16j, ?_, ?_, ?_, ?_, ?_, ?_, ?_, ?_, ?_, ?_, ?_, ?_, ?_, ?_⟩
                              all_goals (first | rfl | (simp only [x_l47_TargetFewest, seval, -Int.reduceToNat, hr1, hr2, hr4, hr7, hr8, q10a, q10b, bx11, ax11, fx11, hr12, q22b, q22c, q24a, q24b, q24c, q24d, bx59, ax59, fx59, hr60, bx63, ax63, fx63, hr64, t0j, t4j, t7j, t8j, t9j, t13j, t14j, t15j, t16j, t17j, t18j, t19j, H4j, H16j, bx59, ax59, fx59, bx59, ax59, fx59, bx77, ax77, fx77, q79a, q79b, bx80, ax80, fx80, hr81] <;> rfl))
                          · replace hh := ite_f hb76 hh
                            cases hh
                            try simp only [x_l47_TargetFewest, seval, -Int.reduceToNat, hr1, hr2, hr4, hr7, hr8, q10a, q10b, bx11, ax11, fx11, hr12, q22b, q22c, q24a, q24b, q24c, q24d, bx59, ax59, fx59, hr60, bx63, ax63, fx63, hr64, t0j, t4j, t7j, t8j, t9j, t13j, t14j, t15j, t16j, t17j, t18j, t19j, H4j, H16j, bx59, ax59, fx59]
                            rw [LK_exit]
                            refine ⟨_, rfl, ?_⟩
                            refine ⟨rfl, ⟨v4j, v16j, ?_, ?_, ?_, ?_, ?_, ?_, ?_, ?_, ?_, ?_, ?_, ?_, ?_⟩⟩
                            all_goals (first | rfl | (simp only [x_l47_TargetFewest, seval, -Int.reduceToNat, hr1, hr2, hr4, hr7, hr8, q10a, q10b, bx11, ax11, fx11, hr12, q22b, q22c, q24a, q24b, q24c, q24d, bx59, ax59, fx59, hr60, bx63, ax63, fx63, hr64, t0j, t4j, t7j, t8j, t9j, t13j, t14j, t15j, t16j, t17j, t18j, t19j, H4j, H16j, bx59, ax59, fx59] <;> rfl))
                        · rintro x t H e hx
                          rcases o75 with _ | rj
                          ·
                            dsimp only at hx hh
                            obtain ⟨rfl, ⟨v4jx, v16jx, t0jx, t4jx, t7jx, t8jx, t9jx, t13jx, t14jx, t15jx, t16jx, t17jx, t18jx, H4jx, H16jx⟩⟩ := hx
                            try simp only [x_l47_TargetFewest, seval, -Int.reduceToNat, hr1, hr2, hr4, hr7, hr8, q10a, q10b, bx11, ax11, fx11, hr12, q22b, q22c, q24a, q24b, q24c, q24d, bx59, ax59, fx59, hr60, bx63, ax63, fx63, hr64, t0jx, t4jx, t7jx, t8jx, t9jx, t13jx, t14jx, t15jx, t16jx, t17jx, t18jx, H4jx, H16jx]
                            refine tstO_br' (fun hb83 => ?_) (fun hb83 => ?_)
                            · replace hh := ite_t hb83 hh
                              cases hh
                              try simp only [x_l47_TargetFewest, seval, -Int.reduceToNat, hr1, hr2, hr4, hr7, hr8, q10a, q10b, bx11, ax11, fx11, hr12, q22b, q22c, q24a, q24b, q24c, q24d, bx59, ax59, fx59, hr60, bx63, ax63, fx63, hr64, t0jx, t4jx, t7jx, t8jx, t9jx, t13jx, t14jx, t15jx, t16jx, t17jx, t18jx, H4jx, H16jx]
                              rw [LK_normal]
                              refine ⟨_, rfl, ?_⟩
                              refine ⟨v4jx, v16jx, ?_, ?_, ?_, ?_, ?_, ?_, ?_, ?_, ?_, ?_, ?_, ?_⟩
                              all_goals (first | rfl | (simp only [x_l47_TargetFewest, seval, -Int.reduceToNat, hr1, hr2, hr4, hr7, hr8, q10a, q10b, bx11, ax11, fx11, hr12, q22b, q22c, q24a, q24b, q24c, q24d, bx59, ax59, fx59, hr60, bx63, ax63, fx63, hr64, t0jx, t4jx, t7jx, t8jx, t9jx, t13jx, t14jx, t15jx, t16jx, t17jx, t18jx, H4jx, H16jx] <;> rfl))
                            · replace hh := ite_f hb83 hh
                              try simp only [x_l47_TargetFewest, seval, -Int.reduceToNat, hr1, hr2, hr4, hr7, hr8, q10a, q10b, bx11, ax11, fx11, hr12, q22b, q22c, q24a, q24b, q24c, q24d, bx59, ax59, fx59, hr60, bx63, ax63, fx63, hr64, t0jx, t4jx, t7jx, t8jx, t9jx, t13jx, t14jx, t15jx, t16jx, t17jx, t18jx, H4jx, H16jx]
                              refine tstO_br (fun hb84 => ?_) (fun hb84 => ?_)
                              · replace hh := ite_t hb84 hh
                                cases hh
                                try simp only [x_l47_TargetFewest, seval, -Int.reduceToNat, hr1, hr2, hr4, hr7, hr8, q10a, q10b, bx11, ax11, fx11, hr12, q22b, q22c, q24a, q24b, q24c, q24d, bx59, ax59, fx59, hr60, bx63, ax63, fx63, hr64, t0jx, t4jx, t7jx, t8jx, t9jx, t13jx, t14jx, t15jx, t16jx, t17jx, t18jx, H4jx, H16jx]
                                rw [LK_normal]
                                refine ⟨_, rfl, ?_⟩
                                refine ⟨v4jx, v16jx, ?_, ?_, ?_, ?_, ?_, ?_, ?_, ?_, ?_, ?_, ?_, ?_⟩
                                all_goals (first | rfl | (simp only [x_l47_TargetFewest, seval, -Int.reduceToNat, hr1, hr2, hr4, hr7, hr8, q10a, q10b, bx11, ax11, fx11, hr12, q22b, q22c, q24a, q24b, q24c, q24d, bx59, ax59, fx59, hr60, bx63, ax63, fx63, hr64, t0jx, t4jx, t7jx, t8jx, t9jx, t13jx, t14jx, t15jx, t16jx, t17jx, t18jx, H4jx, H16jx] <;> rfl))
                              · replace hh := ite_f hb84 hh
                                cases hh
                                try simp only [x_l47_TargetFewest, seval, -Int.reduceToNat, hr1, hr2, hr4, hr7, hr8, q10a, q10b, bx11, ax11, fx11, hr12, q22b, q22c, q24a, q24b, q24c, q24d, bx59, ax59, fx59, hr60, bx63, ax63, fx63, hr64, t0jx, t4jx, t7jx, t8jx, t9jx, t13jx, t14jx, t15jx, t16jx, t17jx, t18jx, H4jx, H16jx]
                                rw [LK_normal]
                                refine ⟨_, rfl, ?_⟩
                                refine ⟨v4jx, v16jx, ?_, ?_, ?_, ?_, ?_, ?_, ?_, ?_, ?_, ?_, ?_, ?_⟩
                                all_goals (first | rfl | (simp only [x_l47_TargetFewest, seval, -Int.reduceToNat, hr1, hr2, hr4, hr7, hr8, q10a, q10b, bx11, ax11, fx11, hr12, q22b, q22c, q24a, q24b, q24c, q24d, bx59, ax59, fx59, hr60, bx63, ax63, fx63, hr64, t0jx, t4jx, t7jx, t8jx, t9jx, t13jx, t14jx, t15jx, t16jx, t17jx, t18jx, H4jx, H16jx] <;> rfl))
                          ·
                            dsimp only at hx hh
                            obtain ⟨rfl, hE⟩ := hx
                            cases hh
                            try simp only [runW_pass_ret, runW_pass_exit, runW_blk_ret, runW_nil, endW_ret]
                            rw [LK_ret]
                            refine ⟨_, rfl, ?_⟩
                            first | exact ⟨rfl, hE⟩ | (simp only [x_l47_TargetFewest, seval, -Int.reduceToNat] at hE; exact ⟨rfl, hE⟩)
                    ·
                      clear hh
                      have hh := ho65
                      try simp only [x_l47_TargetFewest, seval, -Int.reduceToNat, hr1, hr2, hr4, hr7, hr8, q10a, q10b, bx11, ax11, fx11, hr12, q22b, q22c, q24a, q24b, q24c, q24d, bx59, ax59, fx59, hr60, t0j8, t4j8, t7j8, t8j8, t9j8, t13j8, t14j8, t15j8, t16j8, t17j8, t18j8, t126j8, H4j8, H16j8, bx63, ax63, fx63, hr64]
                      refine tstP_br' (fun hb85 => ?_) (fun hb85 => ?_)
                      · replace hh := ite_t hb85 hh
                        try simp only [x_l47_TargetFewest, seval, -Int.reduceToNat, hr1, hr2, hr4, hr7, hr8, q10a, q10b, bx11, ax11, fx11, hr12, q22b, q22c, q24a, q24b, q24c, q24d, bx59, ax59, fx59, hr60, t0j8, t4j8, t7j8, t8j8, t9j8, t13j8, t14j8, t15j8, t16j8, t17j8, t18j8, t126j8, H4j8, H16j8, bx63, ax63, fx63, hr64]
                        refine dyn_ok (by kernel_rfl) ?_
                        cases hh
                        try simp only [x_l47_TargetFewest, seval, -Int.reduceToNat, hr1, hr2, hr4, hr7, hr8, q10a, q10b, bx11, ax11, fx11, hr12, q22b, q22c, q24a, q24b, q24c, q24d, bx59, ax59, fx59, hr60, t0j8, t4j8, t7j8, t8j8, t9j8, t13j8, t14j8, t15j8, t16j8, t17j8, t18j8, t126j8, H4j8, H16j8, bx63, ax63, fx63, hr64]
                        rw [CK_normal]
                        refine ⟨_, rfl, ?_⟩
                        refine ⟨v4j8, v16j8, ?_, ?_, ?_, ?_, ?_, ?_, ?_, ?_, ?_, ?_, ?_, ?_, ?_, ?_⟩
                        all_goals (first | rfl | (simp only [x_l47_TargetFewest, seval, -Int.reduceToNat, hr1, hr2, hr4, hr7, hr8, q10a, q10b, bx11, ax11, fx11, hr12, q22b, q22c, q24a, q24b, q24c, q24d, bx59, ax59, fx59, hr60, t0j8, t4j8, t7j8, t8j8, t9j8, t13j8, t14j8, t15j8, t16j8, t17j8, t18j8, t126j8, H4j8, H16j8, bx63, ax63, fx63, hr64] <;> rfl))
                      · replace hh := ite_f hb85 hh
                        try simp only [x_l47_TargetFewest, seval, -Int.reduceToNat, hr1, hr2, hr4, hr7, hr8, q10a, q10b, bx11, ax11, fx11, hr12, q22b, q22c, q24a, q24b, q24c, q24d, bx59, ax59, fx59, hr60, t0j8, t4j8, t7j8, t8j8, t9j8, t13j8, t14j8, t15j8, t16j8, t17j8, t18j8, t126j8, H4j8, H16j8, bx63, ax63, fx63, hr64]
                        refine tstP_br (fun hb86 => ?_) (fun hb86 => ?_)
                        · replace hh := ite_t hb86 hh
                          try simp only [x_l47_TargetFewest, seval, -Int.reduceToNat, hr1, hr2, hr4, hr7, hr8, q10a, q10b, bx11, ax11, fx11, hr12, q22b, q22c, q24a, q24b, q24c, q24d, bx59, ax59, fx59, hr60, t0j8, t4j8, t7j8, t8j8, t9j8, t13j8, t14j8, t15j8, t16j8, t17j8, t18j8, t126j8, H4j8, H16j8, bx63, ax63, fx63, hr64]
                          refine tstP_br (fun hb87 => ?_) (fun hb87 => ?_)
                          · replace hh := ite_t hb87 hh
                            obtain ⟨r88, hr88, hh⟩ := bindS hh
                            have bx59 := idx_bd hx59
                            have ax59 := idx_enc (eSl (eI .i64)) hx59
                            have fx59 := idx_fit (eSl (eI .i64)) hx59
                            simp only [vmz] at ax59 fx59
                            skip
                            try simp only [x_l47_TargetFewest, seval, -Int.reduceToNat, hr1, hr2, hr4, hr7, hr8, q10a, q10b, bx11, ax11, fx11, hr12, q22b, q22c, q24a, q24b, q24c, q24d, bx59, ax59, fx59, hr60, t0j8, t4j8, t7j8, t8j8, t9j8, t13j8, t14j8, t15j8, t16j8, t17j8, t18j8, t126j8, H4j8, H16j8, bx63, ax63, fx63, hr64, hr88, bx59, ax59, fx59]
                            refine dyn_ok (by kernel_rfl) ?_
                            cases hh
                            try simp only [x_l47_TargetFewest, seval, -Int.reduceToNat, hr1, hr2, hr4, hr7, hr8, q10a, q10b, bx11, ax11, fx11, hr12, q22b, q22c, q24a, q24b, q24c, q24d, bx59, ax59, fx59, hr60, t0j8, t4j8, t7j8, t8j8, t9j8, t13j8, t14j8, t15j8, t16j8, t17j8, t18j8, t126j8, H4j8, H16j8, bx63, ax63, fx63, hr64, hr88, bx59, ax59, fx59]
                            rw [CK_normal]
                            refine ⟨_, rfl, ?_⟩
                            refine ⟨v4j8, v16j8, ?_, ?_, ?_, ?_, ?_, ?_, ?_, ?_, ?_, ?_, ?_, ?_, ?_, ?_⟩
                            all_goals (first | rfl | (simp only [x_l47_TargetFewest, seval, -Int.reduceToNat, hr1, hr2, hr4, hr7, hr8, q10a, q10b, bx11, ax11, fx11, hr12, q22b, q22c, q24a, q24b, q24c, q24d, bx59, ax59, fx59, hr60, t0j8, t4j8, t7j8, t8j8, t9j8, t13j8, t14j8, t15j8, t16j8, t17j8, t18j8, t126j8, H4j8, H16j8, bx63, ax63, fx63, hr64, hr88, bx59, ax59, fx59] <;> rfl))
                          · replace hh := ite_f hb87 hh
                            try simp only [x_l47_TargetFewest, seval, -Int.reduceToNat, hr1, hr2, hr4, hr7, hr8, q10a, q10b, bx11, ax11, fx11, hr12, q22b, q22c, q24a, q24b, q24c, q24d, bx59, ax59, fx59, hr60, t0j8, t4j8, t7j8, t8j8, t9j8, t13j8, t14j8, t15j8, t16j8, t17j8, t18j8, t126j8, H4j8, H16j8, bx63, ax63, fx63, hr64]
                            refine dyn_ok (by kernel_rfl) ?_
                            cases hh
                            try simp only [x_l47_TargetFewest, seval, -Int.reduceToNat, hr1, hr2, hr4, hr7, hr8, q10a, q10b, bx11, ax11, fx11, hr12, q22b, q22c, q24a, q24b, q24c, q24d, bx59, ax59, fx59, hr60, t0j8, t4j8, t7j8, t8j8, t9j8, t13j8, t14j8, t15j8, t16j8, t17j8, t18j8, t126j8, H4j8, H16j8, bx63, ax63, fx63, hr64]
                            rw [CK_normal]
                            refine ⟨_, rfl, ?_⟩
                            refine ⟨v4j8, v16j8, ?_, ?_, ?_, ?_, ?_, ?_, ?_, ?_, ?_, ?_, ?_, ?_, ?_, ?_⟩
                            all_goals (first | rfl | (simp only [x_l47_TargetFewest, seval, -Int.reduceToNat, hr1, hr2, hr4, hr7, hr8, q10a, q10b, bx11, ax11, fx11, hr12, q22b, q22c, q24a, q24b, q24c, q24d, bx59, ax59, fx59, hr60, t0j8, t4j8, t7j8, t8j8, t9j8, t13j8, t14j8, t15j8, t16j8, t17j8, t18j8, t126j8, H4j8, H16j8, bx63, ax63, fx63, hr64] <;> rfl))
                        · replace hh := ite_f hb86 hh
                          try simp only [x_l47_TargetFewest, seval, -Int.reduceToNat, hr1, hr2, hr4, hr7, hr8, q10a, q10b, bx11, ax11, fx11, hr12, q22b, q22c, q24a, q24b, q24c, q24d, bx59, ax59, fx59, hr60, t0j8, t4j8, t7j8, t8j8, t9j8, t13j8, t14j8, t15j8, t16j8, t17j8, t18j8, t126j8, H4j8, H16j8, bx63, ax63, fx63, hr64]
                          refine dyn_ok (by kernel_rfl) ?_
                          cases hh
                          try simp only [x_l47_TargetFewest, seval, -Int.reduceToNat, hr1, hr2, hr4, hr7, hr8, q10a, q10b, bx11, ax11, fx11, hr12, q22b, q22c, q24a, q24b, q24c, q24d, bx59, ax59, fx59, hr60, t0j8, t4j8, t7j8, t8j8, t9j8, t13j8, t14j8, t15j8, t16j8, t17j8, t18j8, t126j8, H4j8, H16j8, bx63, ax63, fx63, hr64]
                          rw [CK_normal]
                          refine ⟨_, rfl, ?_⟩
                          refine ⟨v4j8, v16j8, ?_, ?_, ?_, ?_, ?_, ?_, ?_, ?_, ?_, ?_, ?_, ?_, ?_, ?_⟩
                          all_goals (first | rfl | (simp only [x_l47_TargetFewest, seval, -Int.reduceToNat, hr1, hr2, hr4, hr7, hr8, q10a, q10b, bx11, ax11, fx11, hr12, q22b, q22c, q24a, q24b, q24c, q24d, bx59, ax59, fx59, hr60, t0j8, t4j8, t7j8, t8j8, t9j8, t13j8, t14j8, t15j8, t16j8, t17j8, t18j8, t126j8, H4j8, H16j8, bx63, ax63, fx63, hr64] <;> rfl))
                ·
                  clear hh
                  have hh := ho61
                  try simp only [x_l47_TargetFewest, seval, -Int.reduceToNat, hr1, hr2, hr4, hr7, hr8, q10a, q10b, bx11, ax11, fx11, hr12, q22b, q22c, q24a, q24b, q24c, q24d, t0d, t4d, t7d, t8d, t9d, t13d, t14d, t15d, t16d, t17d, H4d, H16d, bx59, ax59, fx59, hr60]
                  refine tstO_br' (fun hb89 => ?_) (fun hb89 => ?_)
                  · replace hh := ite_t hb89 hh
                    cases hh
                    try simp only [x_l47_TargetFewest, seval, -Int.reduceToNat, hr1, hr2, hr4, hr7, hr8, q10a, q10b, bx11, ax11, fx11, hr12, q22b, q22c, q24a, q24b, q24c, q24d, t0d, t4d, t7d, t8d, t9d, t13d, t14d, t15d, t16d, t17d, H4d, H16d, bx59, ax59, fx59, hr60]
                    rw [CK_normal]
                    refine ⟨_, rfl, ?_⟩
                    refine ⟨v4d, v16d, ?_, ?_, ?_, ?_, ?_, ?_, ?_, ?_, ?_, ?_, ?_, ?_, ?_, ?_⟩
                    all_goals (first | rfl | (simp only [x_l47_TargetFewest, seval, -Int.reduceToNat, hr1, hr2, hr4, hr7, hr8, q10a, q10b, bx11, ax11, fx11, hr12, q22b, q22c, q24a, q24b, q24c, q24d, t0d, t4d, t7d, t8d, t9d, t13d, t14d, t15d, t16d, t17d, H4d, H16d, bx59, ax59, fx59, hr60] <;> rfl))
                  · replace hh := ite_f hb89 hh
                    cases hh
                    try simp only [x_l47_TargetFewest, seval, -Int.reduceToNat, hr1, hr2, hr4, hr7, hr8, q10a, q10b, bx11, ax11, fx11, hr12, q22b, q22c, q24a, q24b, q24c, q24d, t0d, t4d, t7d, t8d, t9d, t13d, t14d, t15d, t16d, t17d, H4d, H16d, bx59, ax59, fx59, hr60]
                    rw [CK_normal]
                    refine ⟨_, rfl, ?_⟩
                    refine ⟨v4d, v16d, ?_, ?_, ?_, ?_, ?_, ?_, ?_, ?_, ?_, ?_, ?_, ?_, ?_, ?_⟩
                    all_goals (first | rfl | (simp only [x_l47_TargetFewest, seval, -Int.reduceToNat, hr1, hr2, hr4, hr7, hr8, q10a, q10b, bx11, ax11, fx11, hr12, q22b, q22c, q24a, q24b, q24c, q24d, t0d, t4d, t7d, t8d, t9d, t13d, t14d, t15d, t16d, t17d, H4d, H16d, bx59, ax59, fx59, hr60] <;> rfl))
              · replace hh := ite_f hb58 hh
                cases hh
                try simp only [x_l47_TargetFewest, seval, -Int.reduceToNat, hr1, hr2, hr4, hr7, hr8, q10a, q10b, bx11, ax11, fx11, hr12, q22b, q22c, q24a, q24b, q24c, q24d, t0d, t4d, t7d, t8d, t9d, t13d, t14d, t15d, t16d, t17d, H4d, H16d]
                rw [LK_exit]
                refine ⟨_, rfl, ?_⟩
                refine ⟨rfl, ⟨?_, ?_, ?_⟩⟩
                all_goals (first | rfl | (simp only [x_l47_TargetFewest, seval, -Int.reduceToNat, hr1, hr2, hr4, hr7, hr8, q10a, q10b, bx11, ax11, fx11, hr12, q22b, q22c, q24a, q24b, q24c, q24d, t0d, t4d, t7d, t8d, t9d, t13d, t14d, t15d, t16d, t17d, H4d, H16d] <;> rfl))
            · rintro x t H e hx
              rcases o57 with s15dx | rd
              ·
                dsimp only at hx hh
                obtain ⟨rfl, ⟨t7dx, t14dx, t15dx⟩⟩ := hx
                try simp only [x_l47_TargetFewest, seval, -Int.reduceToNat, hr1, hr2, hr4, hr7, hr8, q10a, q10b, bx11, ax11, fx11, hr12, q22b, q22c, q24a, q24b, q24c, q24d, t7dx, t14dx, t15dx]
                refine tstO_br (fun hb90 => ?_) (fun hb90 => ?_)
                · replace hh := ite_t hb90 hh
                  try simp only [x_l47_TargetFewest, seval, -Int.reduceToNat, hr1, hr2, hr4, hr7, hr8, q10a, q10b, bx11, ax11, fx11, hr12, q22b, q22c, q24a, q24b, q24c, q24d, t7dx, t14dx, t15dx]
                  refine tstO_br' (fun hb91 => ?_) (fun hb91 => ?_)
                  · replace hh := ite_t hb91 hh
                    cases hh
                    try simp only [x_l47_TargetFewest, seval, -Int.reduceToNat, hr1, hr2, hr4, hr7, hr8, q10a, q10b, bx11, ax11, fx11, hr12, q22b, q22c, q24a, q24b, q24c, q24d, t7dx, t14dx, t15dx]
                  · replace hh := ite_f hb91 hh
                    cases hh
                    try simp only [x_l47_TargetFewest, seval, -Int.reduceToNat, hr1, hr2, hr4, hr7, hr8, q10a, q10b, bx11, ax11, fx11, hr12, q22b, q22c, q24a, q24b, q24c, q24d, t7dx, t14dx, t15dx]
                · replace hh := ite_f hb90 hh
                  cases hh
                  try simp only [x_l47_TargetFewest, seval, -Int.reduceToNat, hr1, hr2, hr4, hr7, hr8, q10a, q10b, bx11, ax11, fx11, hr12, q22b, q22c, q24a, q24b, q24c, q24d, t7dx, t14dx, t15dx]
              ·
                dsimp only at hx hh
                obtain ⟨rfl, hE⟩ := hx
                cases hh
                try simp only [runW_pass_ret, runW_pass_exit, runW_blk_ret, runW_nil, endW_ret]
                exact hE
        ·
          clear hh
          have hh := ho13
          try simp only [x_l47_TargetFewest, seval, -Int.reduceToNat, hr1, hr2, hr4, t0j1, t2j1, t4j1, t7j1, t8j1, t47j1, H4j1, hr7, hr8, q10a, q10b, bx11, ax11, fx11, hr12]
          refine tstO_br' (fun hb92 => ?_) (fun hb92 => ?_)
          · replace hh := ite_t hb92 hh
            cases hh
            try simp only [x_l47_TargetFewest, seval, -Int.reduceToNat, hr1, hr2, hr4, t0j1, t2j1, t4j1, t7j1, t8j1, t47j1, H4j1, hr7, hr8, q10a, q10b, bx11, ax11, fx11, hr12]
            rw [CK_normal]
            refine ⟨_, rfl, ?_⟩
            refine ⟨v4j1, ?_, ?_, ?_, ?_, ?_, ?_, ?_, ?_, ?_, ?_, ?_, ?_⟩
            all_goals (first | rfl | (simp only [x_l47_TargetFewest, seval, -Int.reduceToNat, hr1, hr2, hr4, t0j1, t2j1, t4j1, t7j1, t8j1, t47j1, H4j1, hr7, hr8, q10a, q10b, bx11, ax11, fx11, hr12] <;> rfl))
          · replace hh := ite_f hb92 hh
            cases hh
            try simp only [x_l47_TargetFewest, seval, -Int.reduceToNat, hr1, hr2, hr4, t0j1, t2j1, t4j1, t7j1, t8j1, t47j1, H4j1, hr7, hr8, q10a, q10b, bx11, ax11, fx11, hr12]
            rw [CK_normal]
            refine ⟨_, rfl, ?_⟩
            refine ⟨v4j1, ?_, ?_, ?_, ?_, ?_, ?_, ?_, ?_, ?_, ?_, ?_, ?_⟩
            all_goals (first | rfl | (simp only [x_l47_TargetFewest, seval, -Int.reduceToNat, hr1, hr2, hr4, t0j1, t2j1, t4j1, t7j1, t8j1, t47j1, H4j1, hr7, hr8, q10a, q10b, bx11, ax11, fx11, hr12] <;> rfl))
    ·
      clear hh
      have hh := ho5
      try simp only [x_l47_TargetFewest, seval, -Int.reduceToNat, hr1, hr2, hr4]
      refine tstO_br' (fun hb93 => ?_) (fun hb93 => ?_)
      · replace hh := ite_t hb93 hh
        cases hh
        try simp only [x_l47_TargetFewest, seval, -Int.reduceToNat, hr1, hr2, hr4]
        rw [CK_normal]
        refine ⟨_, rfl, ?_⟩
        refine ⟨0, ?_, ?_, ?_, ?_, ?_, ?_, ?_⟩
        all_goals (first | rfl | (simp only [x_l47_TargetFewest, seval, -Int.reduceToNat, hr1, hr2, hr4] <;> rfl))
      · replace hh := ite_f hb93 hh
        try simp only [x_l47_TargetFewest, seval, -Int.reduceToNat, hr1, hr2, hr4]
        refine tstO_br' (fun hb94 => ?_) (fun hb94 => ?_)
        · replace hh := ite_t hb94 hh
          cases hh
          try simp only [x_l47_TargetFewest, seval, -Int.reduceToNat, hr1, hr2, hr4]
          rw [CK_normal]
          refine ⟨_, rfl, ?_⟩
          refine ⟨0, ?_, ?_, ?_, ?_, ?_, ?_, ?_⟩
          all_goals (first | rfl | (simp only [x_l47_TargetFewest, seval, -Int.reduceToNat, hr1, hr2, hr4] <;> rfl))
        · replace hh := ite_f hb94 hh
          obtain ⟨x95, hx95, hh⟩ := bindS hh
          obtain ⟨q96a, q96b⟩ := shlI_ok hx95
          try simp only [x_l47_TargetFewest, seval, -Int.reduceToNat, hr1, hr2, hr4, q96a, q96b]
          refine tstO_br' (fun hb97 => ?_) (fun hb97 => ?_)
          · replace hh := ite_t hb97 hh
            cases hh
            try simp only [x_l47_TargetFewest, seval, -Int.reduceToNat, hr1, hr2, hr4, q96a, q96b]
            rw [CK_normal]
            refine ⟨_, rfl, ?_⟩
            refine ⟨0, ?_, ?_, ?_, ?_, ?_, ?_, ?_⟩
            all_goals (first | rfl | (simp only [x_l47_TargetFewest, seval, -Int.reduceToNat, hr1, hr2, hr4, q96a, q96b] <;> rfl))
          · replace hh := ite_f hb97 hh
            obtain ⟨r98, hr98, hh⟩ := bindS hh
            cases hh
            try simp only [x_l47_TargetFewest, seval, -Int.reduceToNat, hr1, hr2, hr4, q96a, q96b, hr98]
            rw [CK_normal]
            refine ⟨_, rfl, ?_⟩
            refine ⟨0, ?_, ?_, ?_, ?_, ?_, ?_, ?_⟩
            all_goals (first | rfl | (simp only [x_l47_TargetFewest, seval, -Int.reduceToNat, hr1, hr2, hr4, q96a, q96b, hr98] <;> rfl))

theorem ok_l47_TargetFewest : COk Try.prog 4 G_l47_TargetFewest := COk.of (mode := .clean) tok ge_l47_TargetFewest mixed Try.func4 (by kernel_rfl) ⟨by kernel_rfl, by kernel_rfl⟩ (fun _ => Nat.le_of_ble_eq_true (by kernel_rfl)) (fun x r h => m_l47_TargetFewest x.1 x.2.1 x.2.2 r h)

noncomputable def G_l47_TargetOrder := mkG (asC (aSl eTFrac) (as1 (aAgg eTFrac))) (fun x : (List TFrac) × TFrac => l47_TargetOrder x.1 x.2) (fun r : Bool => .clean (.bool r))

theorem q_l47_TargetOrder (p0 : (List TFrac)) (p1_0 : Int) (p1_1 : (List Int)) (p1_2 : Int) (p1_3 : (List Int)) : G_l47_TargetOrder none [.sl false false p0.length (encL eTFrac p0), .agg [.int .i64 p1_0, .sl false false p1_1.length (encL (eI .i64) p1_1), .int .i64 p1_2, .sl false false p1_3.length (encL (eI .i64) p1_3)]] = (l47_TargetOrder p0 (TFrac.mk (TBig.mk p1_0 p1_1) (TBig.mk p1_2 p1_3))).map fun r : Bool => (.clean (.bool r), none) := mkG_eq _ _ _ (p0, (TFrac.mk (TBig.mk p1_0 p1_1) (TBig.mk p1_2 p1_3)))

noncomputable def g_l47_TargetOrder : Env := (Am.ext (Am.ext (Am.ext (Am.ext (Am.ext (Am.ext (Am.ext (Am.ext (Am.ext (Am.ext noEnv 8 false G_l47_small) 9 false G_r47_Few) 11 false G_target_Sets) 13 false G_target_Minimal) 15 false G_r47_Same) 16 false G_target_Edits) 18 false G_target_Check) 21 false G_frac_Compare) 22 false G_l47_bits) 24 false G_r47_Before)

theorem ge_l47_TargetOrder : GOk Try.prog g_l47_TargetOrder := ((((((((((GOk.none.add ok_l47_small false).add ok_r47_Few false).add ok_target_Sets false).add ok_target_Minimal false).add ok_r47_Same false).add ok_target_Edits false).add ok_target_Check false).add ok_frac_Compare false).add ok_l47_bits false).add ok_r47_Before false)

theorem gg_l47_TargetOrder : g_l47_TargetOrder = (Am.ext (Am.ext (Am.ext (Am.ext (Am.ext (Am.ext (Am.ext (Am.ext (Am.ext (Am.ext noEnv 8 false G_l47_small) 9 false G_r47_Few) 11 false G_target_Sets) 13 false G_target_Minimal) 15 false G_r47_Same) 16 false G_target_Edits) 18 false G_target_Check) 21 false G_frac_Compare) 22 false G_l47_bits) 24 false G_r47_Before) := Eq.trans rfl rfl

theorem x_l47_TargetOrder : type_of% (And.intro @w <| And.intro @q_l47_small <| And.intro @q_r47_Few <| And.intro @q_target_Sets <| And.intro @q_target_Minimal <| And.intro @q_r47_Same <| And.intro @q_target_Edits <| And.intro @q_target_Check <| And.intro @q_frac_Compare <| And.intro @q_l47_bits <| And.intro @q_r47_Before <| @gg_l47_TargetOrder) := And.intro @w <| And.intro @q_l47_small <| And.intro @q_r47_Few <| And.intro @q_target_Sets <| And.intro @q_target_Minimal <| And.intro @q_r47_Same <| And.intro @q_target_Edits <| And.intro @q_target_Check <| And.intro @q_frac_Compare <| And.intro @q_l47_bits <| And.intro @q_r47_Before <| @gg_l47_TargetOrder

theorem m_l47_TargetOrder (p0 : (List TFrac)) (p1 : TFrac) (r : Bool) (hh : l47_TargetOrder p0 p1 = some r) : vfunc .clean tab g_l47_TargetOrder FU Try.f5 none [.sl false false p0.length (encL eTFrac p0), .agg [.int .i64 p1.f_P.f_Sign, .sl false false p1.f_P.f_Digits.length (encL (eI .i64) p1.f_P.f_Digits), .int .i64 p1.f_Q.f_Sign, .sl false false p1.f_Q.f_Digits.length (encL (eI .i64) p1.f_Q.f_Digits)]] = some (.clean (.bool r), none) := by
  refine vfunc_of rfl Try.ntmps5 Try.results5 ?_
  unfold l47_TargetOrder at hh
  obtain ⟨r1, hr1, hh⟩ := bindS hh
  obtain ⟨r2, hr2, hh⟩ := bindS hh
  try simp only [x_l47_TargetOrder, seval, -Int.reduceToNat, hr1, hr2]
  refine tstC_br (fun hb3 => ?_) (fun hb3 => ?_)
  · replace hh := ite_t hb3 hh
    cases hh
    try simp only [x_l47_TargetOrder, seval, -Int.reduceToNat, hr1, hr2]
  · replace hh := ite_f hb3 hh
    obtain ⟨r4, hr4, hh⟩ := bindS hh
    try simp only [x_l47_TargetOrder, seval, -Int.reduceToNat, hr1, hr2, hr4]
    obtain ⟨o5, ho5, hh⟩ := bindS hh
    refine tstO_cut 0 (fun s t H e => match s with | s33j1 => ∃ v3j1 : Nat, t 0 = .sl false false p0.length (encL eTFrac p0) ∧ t 3 = .ptr 3 v3j1 0 ∧ t 5 = .bool r1 ∧ t 6 = .int .i64 r4 ∧ t 33 = .bool s33j1 ∧ H 3 = some ⟨v3j1, 27, [.int .i64 p1.f_P.f_Sign, .sl false false p1.f_P.f_Digits.length (encL (eI .i64) p1.f_P.f_Digits), .int .i64 p1.f_Q.f_Sign, .sl false false p1.f_Q.f_Digits.length (encL (eI .i64) p1.f_Q.f_Digits)], false, false⟩) (fun s => s = o5) ?_ ?_
    · rintro s33j1 t H e ⟨v3j1, t0j1, t3j1, t5j1, t6j1, t33j1, H3j1⟩ rfl
      try dsimp only at hh
      try simp only [x_l47_TargetOrder, seval, -Int.reduceToNat, hr1, hr2, hr4, t0j1, t3j1, t5j1, t6j1, t33j1, H3j1]
      refine tstC_br (fun hb6 => ?_) (fun hb6 => ?_)
      · replace hh := ite_t hb6 hh
        cases hh
        try simp only [x_l47_TargetOrder, seval, -Int.reduceToNat, hr1, hr2, hr4, t0j1, t3j1, t5j1, t6j1, t33j1, H3j1]
      · replace hh := ite_f hb6 hh
        obtain ⟨r7, hr7, hh⟩ := bindS hh
        obtain ⟨r8, hr8, hh⟩ := bindS hh
        try simp only [x_l47_TargetOrder, seval, -Int.reduceToNat, hr1, hr2, hr4, t0j1, t3j1, t5j1, t6j1, t33j1, H3j1, hr7, hr8]
        obtain ⟨o9, ho9, hh⟩ := bindS hh
        refine tstO_cut 0 (fun s t H e => match s with | s52j2 => ∃ v3j2 : Nat, t 0 = .sl false false p0.length (encL eTFrac p0) ∧ t 3 = .ptr 3 v3j2 0 ∧ t 5 = .bool r1 ∧ t 6 = .int .i64 r4 ∧ t 7 = .sl false false r7.1.length (encL (eSl (eI .i64)) r7.1) ∧ t 8 = .int .i64 r7.2 ∧ t 9 = .sl false false r8.1.length (encL (eSl (eI .i64)) r8.1) ∧ t 10 = .int .i64 r8.2 ∧ t 52 = .bool s52j2 ∧ H 3 = some ⟨v3j2, 27, [.int .i64 p1.f_P.f_Sign, .sl false false p1.f_P.f_Digits.length (encL (eI .i64) p1.f_P.f_Digits), .int .i64 p1.f_Q.f_Sign, .sl false false p1.f_Q.f_Digits.length (encL (eI .i64) p1.f_Q.f_Digits)], false, false⟩) (fun s => s = o9) ?_ ?_
        · rintro s52j2 t H e ⟨v3j2, t0j2, t3j2, t5j2, t6j2, t7j2, t8j2, t9j2, t10j2, t52j2, H3j2⟩ rfl
          try dsimp only at hh
          try simp only [x_l47_TargetOrder, seval, -Int.reduceToNat, hr1, hr2, hr4, hr7, hr8, t0j2, t3j2, t5j2, t6j2, t7j2, t8j2, t9j2, t10j2, t52j2, H3j2]
          refine tstC_br (fun hb10 => ?_) (fun hb10 => ?_)
          · replace hh := ite_t hb10 hh
            try simp only [x_l47_TargetOrder, seval, -Int.reduceToNat, hr1, hr2, hr4, hr7, hr8, t0j2, t3j2, t5j2, t6j2, t7j2, t8j2, t9j2, t10j2, t52j2, H3j2]
            obtain ⟨o11, ho11, hh⟩ := bindS hh
            refine tstO_cut 0 (fun s t H e => match s with | s4j3 => t 4 = .bool s4j3) (fun s => s = o11) ?_ ?_
            · rintro s4j3 t H e t4j3 rfl
              try dsimp only at hh
              cases hh
              try simp only [x_l47_TargetOrder, seval, -Int.reduceToNat, hr1, hr2, hr4, hr7, hr8, t4j3]
            ·
              clear hh
              have hh := ho11
              try simp only [x_l47_TargetOrder, seval, -Int.reduceToNat, hr1, hr2, hr4, hr7, hr8, t0j2, t3j2, t5j2, t6j2, t7j2, t8j2, t9j2, t10j2, t52j2, H3j2]
              refine tstO_br (fun hb12 => ?_) (fun hb12 => ?_)
              · replace hh := ite_t hb12 hh
                try simp only [x_l47_TargetOrder, seval, -Int.reduceToNat, hr1, hr2, hr4, hr7, hr8, t0j2, t3j2, t5j2, t6j2, t7j2, t8j2, t9j2, t10j2, t52j2, H3j2]
                refine tstO_br (fun hb13 => ?_) (fun hb13 => ?_)
                · replace hh := ite_t hb13 hh
                  obtain ⟨r14, hr14, hh⟩ := bindS hh
                  cases hh
                  try simp only [x_l47_TargetOrder, seval, -Int.reduceToNat, hr1, hr2, hr4, hr7, hr8, t0j2, t3j2, t5j2, t6j2, t7j2, t8j2, t9j2, t10j2, t52j2, H3j2, hr14]
                  rw [CK_normal]
                  refine ⟨_, rfl, ?_⟩
                  refine ?_
                  all_goals (first | rfl | (simp only [x_l47_TargetOrder, seval, -Int.reduceToNat, hr1, hr2, hr4, hr7, hr8, t0j2, t3j2, t5j2, t6j2, t7j2, t8j2, t9j2, t10j2, t52j2, H3j2, hr14] <;> rfl))
                · replace hh := ite_f hb13 hh
                  cases hh
                  try simp only [x_l47_TargetOrder, seval, -Int.reduceToNat, hr1, hr2, hr4, hr7, hr8, t0j2, t3j2, t5j2, t6j2, t7j2, t8j2, t9j2, t10j2, t52j2, H3j2]
                  rw [CK_normal]
                  refine ⟨_, rfl, ?_⟩
                  refine ?_
                  all_goals (first | rfl | (simp only [x_l47_TargetOrder, seval, -Int.reduceToNat, hr1, hr2, hr4, hr7, hr8, t0j2, t3j2, t5j2, t6j2, t7j2, t8j2, t9j2, t10j2, t52j2, H3j2] <;> rfl))
              · replace hh := ite_f hb12 hh
                cases hh
                try simp only [x_l47_TargetOrder, seval, -Int.reduceToNat, hr1, hr2, hr4, hr7, hr8, t0j2, t3j2, t5j2, t6j2, t7j2, t8j2, t9j2, t10j2, t52j2, H3j2]
                rw [CK_normal]
                refine ⟨_, rfl, ?_⟩
                refine ?_
                all_goals (first | rfl | (simp only [x_l47_TargetOrder, seval, -Int.reduceToNat, hr1, hr2, hr4, hr7, hr8, t0j2, t3j2, t5j2, t6j2, t7j2, t8j2, t9j2, t10j2, t52j2, H3j2] <;> rfl))
          · replace hh := ite_f hb10 hh
            try simp only [x_l47_TargetOrder, seval, -Int.reduceToNat, hr1, hr2, hr4, hr7, hr8, t0j2, t3j2, t5j2, t6j2, t7j2, t8j2, t9j2, t10j2, t52j2, H3j2]
            obtain ⟨o15, ho15, hh⟩ := bindS hh
            refine tstP_cut 0 (fun s t H e => match s with | s99j4 => ∃ v3j4 : Nat, t 0 = .sl false false p0.length (encL eTFrac p0) ∧ t 3 = .ptr 3 v3j4 0 ∧ t 5 = .bool r1 ∧ t 6 = .int .i64 r4 ∧ t 7 = .sl false false r7.1.length (encL (eSl (eI .i64)) r7.1) ∧ t 9 = .sl false false r8.1.length (encL (eSl (eI .i64)) r8.1) ∧ t 99 = .bool s99j4 ∧ H 3 = some ⟨v3j4, 27, [.int .i64 p1.f_P.f_Sign, .sl false false p1.f_P.f_Digits.length (encL (eI .i64) p1.f_P.f_Digits), .int .i64 p1.f_Q.f_Sign, .sl false false p1.f_Q.f_Digits.length (encL (eI .i64) p1.f_Q.f_Digits)], false, false⟩) (fun s => s = o15) ?_ ?_
            · rintro s99j4 t H e ⟨v3j4, t0j4, t3j4, t5j4, t6j4, t7j4, t9j4, t99j4, H3j4⟩ rfl
              try dsimp only at hh
              try simp only [x_l47_TargetOrder, seval, -Int.reduceToNat, hr1, hr2, hr4, hr7, hr8, t0j4, t3j4, t5j4, t6j4, t7j4, t9j4, t99j4, H3j4]
              refine tstC_br (fun hb16 => ?_) (fun hb16 => ?_)
              · replace hh := ite_t hb16 hh
                cases hh
                try simp only [x_l47_TargetOrder, seval, -Int.reduceToNat, hr1, hr2, hr4, hr7, hr8, t0j4, t3j4, t5j4, t6j4, t7j4, t9j4, t99j4, H3j4]
              · replace hh := ite_f hb16 hh
                obtain ⟨x17, hx17, hh⟩ := bindS hh
                have bx17 := idx_bd hx17
                have ax17 := idx_enc eTFrac hx17
                have fx17 := idx_fit eTFrac hx17
                simp only [vmz] at ax17 fx17
                skip
                obtain ⟨r18, hr18, hh⟩ := bindS hh
                obtain ⟨x19, hx19, hh⟩ := bindS hh
                have bx19 := idx_bd hx19
                have ax19 := idx_enc (eSl (eI .i64)) hx19
                have fx19 := idx_fit (eSl (eI .i64)) hx19
                simp only [vmz] at ax19 fx19
                skip
                try simp only [x_l47_TargetOrder, seval, -Int.reduceToNat, hr1, hr2, hr4, hr7, hr8, t0j4, t3j4, t5j4, t6j4, t7j4, t9j4, t99j4, H3j4, bx17, ax17, fx17, hr18, bx19, ax19, fx19]
                obtain ⟨o20, ho20, hh⟩ := bindS hh
                refine tstP_cut 0 (fun s t H e => match s with | s123j5 => t 5 = .bool r1 ∧ t 6 = .int .i64 r4 ∧ t 7 = .sl false false r7.1.length (encL (eSl (eI .i64)) r7.1) ∧ t 9 = .sl false false r8.1.length (encL (eSl (eI .i64)) r8.1) ∧ t 123 = .bool s123j5) (fun s => s = o20) ?_ ?_
                · rintro s123j5 t H e ⟨t5j5, t6j5, t7j5, t9j5, t123j5⟩ rfl
                  try dsimp only at hh
                  try simp only [x_l47_TargetOrder, seval, -Int.reduceToNat, hr1, hr2, hr4, hr7, hr8, bx17, ax17, fx17, hr18, bx19, ax19, fx19, t5j5, t6j5, t7j5, t9j5, t123j5]
                  refine tstC_br (fun hb21 => ?_) (fun hb21 => ?_)
                  · replace hh := ite_t hb21 hh
                    cases hh
                    try simp only [x_l47_TargetOrder, seval, -Int.reduceToNat, hr1, hr2, hr4, hr7, hr8, bx17, ax17, fx17, hr18, bx19, ax19, fx19, t5j5, t6j5, t7j5, t9j5, t123j5]
                  · replace hh := ite_f hb21 hh
                    try simp only [x_l47_TargetOrder, seval, -Int.reduceToNat, hr1, hr2, hr4, hr7, hr8, bx17, ax17, fx17, hr18, bx19, ax19, fx19, t5j5, t6j5, t7j5, t9j5, t123j5]
                    obtain ⟨o56, ho56, hh⟩ := bindS hh
                    refine runLoop_sim (fun s t H e => match s with | s11f => t 5 = .bool r1 ∧ t 6 = .int .i64 r4 ∧ t 7 = .sl false false r7.1.length (encL (eSl (eI .i64)) r7.1) ∧ t 9 = .sl false false r8.1.length (encL (eSl (eI .i64)) r8.1) ∧ t 11 = .int .i64 s11f) (fun o x t H e => match o with | (.inl _) => x = .exit 0 ∧ t 5 = .bool r1 | (.inr r) => x = .ret ∧ endM .clean tab none [.tmp 4] ⟨t, H, e⟩ = some (.clean (.bool r), none)) ho56 ?_ ?_ ?_
                    ·
                      refine ⟨?_, ?_, ?_, ?_, ?_⟩
                      all_goals (first | rfl | (simp only [x_l47_TargetOrder, seval, -Int.reduceToNat, hr1, hr2, hr4, hr7, hr8, bx17, ax17, fx17, hr18, bx19, ax19, fx19, t5j5, t6j5, t7j5, t9j5, t123j5] <;> rfl))
                    · rintro s11f t H e ⟨t5f, t6f, t7f, t9f, t11f⟩ c hh
                      simp only [l47_TargetOrder_L6] at hh
                      try simp only [x_l47_TargetOrder, seval, -Int.reduceToNat, hr1, hr2, hr4, hr7, hr8, bx17, ax17, fx17, hr18, bx19, ax19, fx19, t5f, t6f, t7f, t9f, t11f]
                      refine tstC_br (fun hb57 => ?_) (fun hb57 => ?_)
                      · replace hh := ite_t hb57 hh
                        obtain ⟨x58, hx58, hh⟩ := bindS hh
                        have bx58 := idx_bd hx58
                        have ax58 := idx_enc (eSl (eI .i64)) hx58
                        have fx58 := idx_fit (eSl (eI .i64)) hx58
                        simp only [vmz] at ax58 fx58
                        skip
                        have bx19 := idx_bd hx19
                        have ax19 := idx_enc (eSl (eI .i64)) hx19
                        have fx19 := idx_fit (eSl (eI .i64)) hx19
                        simp only [vmz] at ax19 fx19
                        skip
                        try simp only [x_l47_TargetOrder, seval, -Int.reduceToNat, hr1, hr2, hr4, hr7, hr8, bx17, ax17, fx17, hr18, bx19, ax19, fx19, t5f, t6f, t7f, t9f, t11f, bx58, ax58, fx58, bx19, ax19, fx19]
                        obtain ⟨o59, ho59, hh⟩ := bindS hh
                        refine tstP_cut 0 (fun s t H e => match s with | s168j9 => t 5 = .bool r1 ∧ t 6 = .int .i64 r4 ∧ t 7 = .sl false false r7.1.length (encL (eSl (eI .i64)) r7.1) ∧ t 9 = .sl false false r8.1.length (encL (eSl (eI .i64)) r8.1) ∧ t 11 = .int .i64 s11f ∧ t 168 = .bool s168j9) (fun s => s = o59) ?_ ?_
                        · rintro s168j9 t H e ⟨t5j9, t6j9, t7j9, t9j9, t11j9, t168j9⟩ rfl
                          try dsimp only at hh
                          try simp only [x_l47_TargetOrder, seval, -Int.reduceToNat, hr1, hr2, hr4, hr7, hr8, bx17, ax17, fx17, hr18, bx19, ax19, fx19, bx58, ax58, fx58, bx19, ax19, fx19, t5j9, t6j9, t7j9, t9j9, t11j9, t168j9]
                          refine tstC_br (fun hb60 => ?_) (fun hb60 => ?_)
                          · replace hh := ite_t hb60 hh
                            cases hh
                            try simp only [x_l47_TargetOrder, seval, -Int.reduceToNat, hr1, hr2, hr4, hr7, hr8, bx17, ax17, fx17, hr18, bx19, ax19, fx19, bx58, ax58, fx58, bx19, ax19, fx19, t5j9, t6j9, t7j9, t9j9, t11j9, t168j9]
                            rw [LK_ret]
                            refine ⟨_, rfl, ?_⟩
                            refine ⟨rfl, ?_⟩
                            try simp only [x_l47_TargetOrder, seval, -Int.reduceToNat, hr1, hr2, hr4, hr7, hr8, bx17, ax17, fx17, hr18, bx19, ax19, fx19, bx58, ax58, fx58, bx19, ax19, fx19, t5j9, t6j9, t7j9, t9j9, t11j9, t168j9]
                          · replace hh := ite_f hb60 hh
                            try simp only [x_l47_TargetOrder, seval, -Int.reduceToNat, hr1, hr2, hr4, hr7, hr8, bx17, ax17, fx17, hr18, bx19, ax19, fx19, bx58, ax58, fx58, bx19, ax19, fx19, t5j9, t6j9, t7j9, t9j9, t11j9, t168j9]
                            obtain ⟨o72, ho72, hh⟩ := bindS hh
                            refine runLoop_sim (fun s t H e => match s with | s12j => t 5 = .bool r1 ∧ t 6 = .int .i64 r4 ∧ t 7 = .sl false false r7.1.length (encL (eSl (eI .i64)) r7.1) ∧ t 9 = .sl false false r8.1.length (encL (eSl (eI .i64)) r8.1) ∧ t 11 = .int .i64 s11f ∧ t 12 = .int .i64 s12j) (fun o x t H e => match o with | (.inl _) => x = .exit 2 ∧ t 5 = .bool r1 ∧ t 6 = .int .i64 r4 ∧ t 7 = .sl false false r7.1.length (encL (eSl (eI .i64)) r7.1) ∧ t 9 = .sl false false r8.1.length (encL (eSl (eI .i64)) r8.1) ∧ t 11 = .int .i64 s11f | (.inr r) => x = .ret ∧ endM .clean tab none [.tmp 4] ⟨t, H, e⟩ = some (.clean (.bool r), none)) ho72 ?_ ?_ ?_
                            ·
                              refine ⟨?_, ?_, ?_, ?_, ?_, ?_⟩
                              all_goals (first | rfl | (simp only [x_l47_TargetOrder, seval, -Int.reduceToNat, hr1, hr2, hr4, hr7, hr8, bx17, ax17, fx17, hr18, bx19, ax19, fx19, bx58, ax58, fx58, bx19, ax19, fx19, t5j9, t6j9, t7j9, t9j9, t11j9, t168j9] <;> rfl))
                            · rintro s12j t H e ⟨t5j, t6j, t7j, t9j, t11j, t12j⟩ c hh
                              simp only [l47_TargetOrder_L10] at hh
                              try simp only [x_l47_TargetOrder, seval, -Int.reduceToNat, hr1, hr2, hr4, hr7, hr8, bx17, ax17, fx17, hr18, bx19, ax19, fx19, bx58, ax58, fx58, bx19, ax19, fx19, t5j, t6j, t7j, t9j, t11j, t12j]
                              refine tstC_br (fun hb73 => ?_) (fun hb73 => ?_)
                              · replace hh := ite_t hb73 hh
                                obtain ⟨x74, hx74, hh⟩ := bindS hh
                                have bx74 := idx_bd hx74
                                have ax74 := idx_enc (eSl (eI .i64)) hx74
                                have fx74 := idx_fit (eSl (eI .i64)) hx74
                                simp only [vmz] at ax74 fx74
                                skip
                                obtain ⟨r75, hr75, hh⟩ := bindS hh
                                have bx58 := idx_bd hx58
                                have ax58 := idx_enc (eSl (eI .i64)) hx58
                                have fx58 := idx_fit (eSl (eI .i64)) hx58
                                simp only [vmz] at ax58 fx58
                                skip
                                obtain ⟨r76, hr76, hh⟩ := bindS hh
                                have bx74 := idx_bd hx74
                                have ax74 := idx_enc (eSl (eI .i64)) hx74
                                have fx74 := idx_fit (eSl (eI .i64)) hx74
                                simp only [vmz] at ax74 fx74
                                skip
                                have bx58 := idx_bd hx58
                                have ax58 := idx_enc (eSl (eI .i64)) hx58
                                have fx58 := idx_fit (eSl (eI .i64)) hx58
                                simp only [vmz] at ax58 fx58
                                skip
                                obtain ⟨r77, hr77, hh⟩ := bindS hh
                                try simp only [x_l47_TargetOrder, seval, -Int.reduceToNat, hr1, hr2, hr4, hr7, hr8, bx17, ax17, fx17, hr18, bx19, ax19, fx19, bx58, ax58, fx58, bx19, ax19, fx19, t5j, t6j, t7j, t9j, t11j, t12j, bx74, ax74, fx74, hr75, bx58, ax58, fx58, hr76, bx74, ax74, fx74, bx58, ax58, fx58, hr77]
                                refine tstP_br' (fun hb78 => ?_) (fun hb78 => ?_)
                                · replace hh := ite_t hb78 hh
                                  try simp only [x_l47_TargetOrder, seval, -Int.reduceToNat, hr1, hr2, hr4, hr7, hr8, bx17, ax17, fx17, hr18, bx19, ax19, fx19, bx58, ax58, fx58, bx19, ax19, fx19, t5j, t6j, t7j, t9j, t11j, t12j, bx74, ax74, fx74, hr75, bx58, ax58, fx58, hr76, bx74, ax74, fx74, bx58, ax58, fx58, hr77]
                                  refine dyn_ok (by kernel_rfl) ?_
                                  cases hh
                                  try simp only [x_l47_TargetOrder, seval, -Int.reduceToNat, hr1, hr2, hr4, hr7, hr8, bx17, ax17, fx17, hr18, bx19, ax19, fx19, bx58, ax58, fx58, bx19, ax19, fx19, t5j, t6j, t7j, t9j, t11j, t12j, bx74, ax74, fx74, hr75, bx58, ax58, fx58, hr76, bx74, ax74, fx74, bx58, ax58, fx58, hr77]
                                  rw [LK_ret]
                                  refine ⟨_, rfl, ?_⟩
                                  refine ⟨rfl, ?_⟩
                                  try simp only [x_l47_TargetOrder, seval, -Int.reduceToNat, hr1, hr2, hr4, hr7, hr8, bx17, ax17, fx17, hr18, bx19, ax19, fx19, bx58, ax58, fx58, bx19, ax19, fx19, t5j, t6j, t7j, t9j, t11j, t12j, bx74, ax74, fx74, hr75, bx58, ax58, fx58, hr76, bx74, ax74, fx74, bx58, ax58, fx58, hr77]
                                · replace hh := ite_f hb78 hh
                                  try simp only [x_l47_TargetOrder, seval, -Int.reduceToNat, hr1, hr2, hr4, hr7, hr8, bx17, ax17, fx17, hr18, bx19, ax19, fx19, bx58, ax58, fx58, bx19, ax19, fx19, t5j, t6j, t7j, t9j, t11j, t12j, bx74, ax74, fx74, hr75, bx58, ax58, fx58, hr76, bx74, ax74, fx74, bx58, ax58, fx58, hr77]
                                  refine tstP_br' (fun hb79 => ?_) (fun hb79 => ?_)
                                  · replace hh := ite_t hb79 hh
                                    try simp only [x_l47_TargetOrder, seval, -Int.reduceToNat, hr1, hr2, hr4, hr7, hr8, bx17, ax17, fx17, hr18, bx19, ax19, fx19, bx58, ax58, fx58, bx19, ax19, fx19, t5j, t6j, t7j, t9j, t11j, t12j, bx74, ax74, fx74, hr75, bx58, ax58, fx58, hr76, bx74, ax74, fx74, bx58, ax58, fx58, hr77]
                                    refine dyn_ok (by kernel_rfl) ?_
                                    cases hh
                                    try simp only [x_l47_TargetOrder, seval, -Int.reduceToNat, hr1, hr2, hr4, hr7, hr8, bx17, ax17, fx17, hr18, bx19, ax19, fx19, bx58, ax58, fx58, bx19, ax19, fx19, t5j, t6j, t7j, t9j, t11j, t12j, bx74, ax74, fx74, hr75, bx58, ax58, fx58, hr76, bx74, ax74, fx74, bx58, ax58, fx58, hr77]
                                    rw [LK_ret]
                                    refine ⟨_, rfl, ?_⟩
                                    refine ⟨rfl, ?_⟩
                                    try simp only [x_l47_TargetOrder, seval, -Int.reduceToNat, hr1, hr2, hr4, hr7, hr8, bx17, ax17, fx17, hr18, bx19, ax19, fx19, bx58, ax58, fx58, bx19, ax19, fx19, t5j, t6j, t7j, t9j, t11j, t12j, bx74, ax74, fx74, hr75, bx58, ax58, fx58, hr76, bx74, ax74, fx74, bx58, ax58, fx58, hr77]
                                  · replace hh := ite_f hb79 hh
                                    try simp only [x_l47_TargetOrder, seval, -Int.reduceToNat, hr1, hr2, hr4, hr7, hr8, bx17, ax17, fx17, hr18, bx19, ax19, fx19, bx58, ax58, fx58, bx19, ax19, fx19, t5j, t6j, t7j, t9j, t11j, t12j, bx74, ax74, fx74, hr75, bx58, ax58, fx58, hr76, bx74, ax74, fx74, bx58, ax58, fx58, hr77]
                                    refine tstP_br' (fun hb80 => ?_) (fun hb80 => ?_)
                                    · replace hh := ite_t hb80 hh
                                      try simp only [x_l47_TargetOrder, seval, -Int.reduceToNat, hr1, hr2, hr4, hr7, hr8, bx17, ax17, fx17, hr18, bx19, ax19, fx19, bx58, ax58, fx58, bx19, ax19, fx19, t5j, t6j, t7j, t9j, t11j, t12j, bx74, ax74, fx74, hr75, bx58, ax58, fx58, hr76, bx74, ax74, fx74, bx58, ax58, fx58, hr77]
                                      refine dyn_ok (by kernel_rfl) ?_
                                      cases hh
                                      try simp only [x_l47_TargetOrder, seval, -Int.reduceToNat, hr1, hr2, hr4, hr7, hr8, bx17, ax17, fx17, hr18, bx19, ax19, fx19, bx58, ax58, fx58, bx19, ax19, fx19, t5j, t6j, t7j, t9j, t11j, t12j, bx74, ax74, fx74, hr75, bx58, ax58, fx58, hr76, bx74, ax74, fx74, bx58, ax58, fx58, hr77]
                                      rw [LK_ret]
                                      refine ⟨_, rfl, ?_⟩
                                      refine ⟨rfl, ?_⟩
                                      try simp only [x_l47_TargetOrder, seval, -Int.reduceToNat, hr1, hr2, hr4, hr7, hr8, bx17, ax17, fx17, hr18, bx19, ax19, fx19, bx58, ax58, fx58, bx19, ax19, fx19, t5j, t6j, t7j, t9j, t11j, t12j, bx74, ax74, fx74, hr75, bx58, ax58, fx58, hr76, bx74, ax74, fx74, bx58, ax58, fx58, hr77]
                                    · replace hh := ite_f hb80 hh
                                      try simp only [x_l47_TargetOrder, seval, -Int.reduceToNat, hr1, hr2, hr4, hr7, hr8, bx17, ax17, fx17, hr18, bx19, ax19, fx19, bx58, ax58, fx58, bx19, ax19, fx19, t5j, t6j, t7j, t9j, t11j, t12j, bx74, ax74, fx74, hr75, bx58, ax58, fx58, hr76, bx74, ax74, fx74, bx58, ax58, fx58, hr77]
                                      refine tstP_br' (fun hb81 => ?_) (fun hb81 => ?_)
                                      · replace hh := ite_t hb81 hh
                                        try simp only [x_l47_TargetOrder, seval, -Int.reduceToNat, hr1, hr2, hr4, hr7, hr8, bx17, ax17, fx17, hr18, bx19, ax19, fx19, bx58, ax58, fx58, bx19, ax19, fx19, t5j, t6j, t7j, t9j, t11j, t12j, bx74, ax74, fx74, hr75, bx58, ax58, fx58, hr76, bx74, ax74, fx74, bx58, ax58, fx58, hr77]
                                        refine dyn_ok (by kernel_rfl) ?_
                                        cases hh
                                        try simp only [x_l47_TargetOrder, seval, -Int.reduceToNat, hr1, hr2, hr4, hr7, hr8, bx17, ax17, fx17, hr18, bx19, ax19, fx19, bx58, ax58, fx58, bx19, ax19, fx19, t5j, t6j, t7j, t9j, t11j, t12j, bx74, ax74, fx74, hr75, bx58, ax58, fx58, hr76, bx74, ax74, fx74, bx58, ax58, fx58, hr77]
                                        rw [LK_ret]
                                        refine ⟨_, rfl, ?_⟩
                                        refine ⟨rfl, ?_⟩
                                        try simp only [x_l47_TargetOrder, seval, -Int.reduceToNat, hr1, hr2, hr4, hr7, hr8, bx17, ax17, fx17, hr18, bx19, ax19, fx19, bx58, ax58, fx58, bx19, ax19, fx19, t5j, t6j, t7j, t9j, t11j, t12j, bx74, ax74, fx74, hr75, bx58, ax58, fx58, hr76, bx74, ax74, fx74, bx58, ax58, fx58, hr77]
                                      · replace hh := ite_f hb81 hh
                                        try simp only [x_l47_TargetOrder, seval, -Int.reduceToNat, hr1, hr2, hr4, hr7, hr8, bx17, ax17, fx17, hr18, bx19, ax19, fx19, bx58, ax58, fx58, bx19, ax19, fx19, t5j, t6j, t7j, t9j, t11j, t12j, bx74, ax74, fx74, hr75, bx58, ax58, fx58, hr76, bx74, ax74, fx74, bx58, ax58, fx58, hr77]
                                        refine dyn_ok (by kernel_rfl) ?_
                                        try simp only [x_l47_TargetOrder, seval, -Int.reduceToNat, hr1, hr2, hr4, hr7, hr8, bx17, ax17, fx17, hr18, bx19, ax19, fx19, bx58, ax58, fx58, bx19, ax19, fx19, t5j, t6j, t7j, t9j, t11j, t12j, bx74, ax74, fx74, hr75, bx58, ax58, fx58, hr76, bx74, ax74, fx74, bx58, ax58, fx58, hr77]
                                        refine tstC_br (fun hb82 => ?_) (fun hb82 => ?_)
                                        · replace hh := ite_t hb82 hh
                                          cases hh
                                          try simp only [x_l47_TargetOrder, seval, -Int.reduceToNat, hr1, hr2, hr4, hr7, hr8, bx17, ax17, fx17, hr18, bx19, ax19, fx19, bx58, ax58, fx58, bx19, ax19, fx19, t5j, t6j, t7j, t9j, t11j, t12j, bx74, ax74, fx74, hr75, bx58, ax58, fx58, hr76, bx74, ax74, fx74, bx58, ax58, fx58, hr77]
                                          rw [LK_ret]
                                          refine ⟨_, rfl, ?_⟩
                                          refine ⟨rfl, ?_⟩
                                          try simp only [x_l47_TargetOrder, seval, -Int.reduceToNat, hr1, hr2, hr4, hr7, hr8, bx17, ax17, fx17, hr18, bx19, ax19, fx19, bx58, ax58, fx58, bx19, ax19, fx19, t5j, t6j, t7j, t9j, t11j, t12j, bx74, ax74, fx74, hr75, bx58, ax58, fx58, hr76, bx74, ax74, fx74, bx58, ax58, fx58, hr77]
                                        · replace hh := ite_f hb82 hh
                                          cases hh
                                          try simp only [x_l47_TargetOrder, seval, -Int.reduceToNat, hr1, hr2, hr4, hr7, hr8, bx17, ax17, fx17, hr18, bx19, ax19, fx19, bx58, ax58, fx58, bx19, ax19, fx19, t5j, t6j, t7j, t9j, t11j, t12j, bx74, ax74, fx74, hr75, bx58, ax58, fx58, hr76, bx74, ax74, fx74, bx58, ax58, fx58, hr77]
                                          rw [LK_normal]
                                          refine ⟨_, rfl, ?_⟩
                                          refine ⟨?_, ?_, ?_, ?_, ?_, ?_⟩
                                          all_goals (first | rfl | (simp only [x_l47_TargetOrder, seval, -Int.reduceToNat, hr1, hr2, hr4, hr7, hr8, bx17, ax17, fx17, hr18, bx19, ax19, fx19, bx58, ax58, fx58, bx19, ax19, fx19, t5j, t6j, t7j, t9j, t11j, t12j, bx74, ax74, fx74, hr75, bx58, ax58, fx58, hr76, bx74, ax74, fx74, bx58, ax58, fx58, hr77] <;> rfl))
                              · replace hh := ite_f hb73 hh
                                cases hh
                                try simp only [x_l47_TargetOrder, seval, -Int.reduceToNat, hr1, hr2, hr4, hr7, hr8, bx17, ax17, fx17, hr18, bx19, ax19, fx19, bx58, ax58, fx58, bx19, ax19, fx19, t5j, t6j, t7j, t9j, t11j, t12j]
                                rw [LK_exit]
                                refine ⟨_, rfl, ?_⟩
                                refine ⟨rfl, ⟨?_, ?_, ?_, ?_, ?_⟩⟩
                                all_goals (first | rfl | (simp only [x_l47_TargetOrder, seval, -Int.reduceToNat, hr1, hr2, hr4, hr7, hr8, bx17, ax17, fx17, hr18, bx19, ax19, fx19, bx58, ax58, fx58, bx19, ax19, fx19, t5j, t6j, t7j, t9j, t11j, t12j] <;> rfl))
                            · rintro x t H e hx
                              rcases o72 with _ | rj
                              ·
                                dsimp only at hx hh
                                obtain ⟨rfl, ⟨t5jx, t6jx, t7jx, t9jx, t11jx⟩⟩ := hx
                                cases hh
                                try simp only [x_l47_TargetOrder, seval, -Int.reduceToNat, hr1, hr2, hr4, hr7, hr8, bx17, ax17, fx17, hr18, bx19, ax19, fx19, bx58, ax58, fx58, bx19, ax19, fx19, t5jx, t6jx, t7jx, t9jx, t11jx]
                                rw [LK_normal]
                                refine ⟨_, rfl, ?_⟩
                                refine ⟨?_, ?_, ?_, ?_, ?_⟩
                                all_goals (first | rfl | (simp only [x_l47_TargetOrder, seval, -Int.reduceToNat, hr1, hr2, hr4, hr7, hr8, bx17, ax17, fx17, hr18, bx19, ax19, fx19, bx58, ax58, fx58, bx19, ax19, fx19, t5jx, t6jx, t7jx, t9jx, t11jx] <;> rfl))
                              ·
                                dsimp only at hx hh
                                obtain ⟨rfl, hE⟩ := hx
                                cases hh
                                try simp only [runW_pass_ret, runW_pass_exit, runW_blk_ret, runW_nil, endW_ret]
                                rw [LK_ret]
                                refine ⟨_, rfl, ?_⟩
                                first | exact ⟨rfl, hE⟩ | (simp only [x_l47_TargetOrder, seval, -Int.reduceToNat] at hE; exact ⟨rfl, hE⟩)
                        ·
                          clear hh
                          have hh := ho59
                          try simp only [x_l47_TargetOrder, seval, -Int.reduceToNat, hr1, hr2, hr4, hr7, hr8, bx17, ax17, fx17, hr18, bx19, ax19, fx19, t5f, t6f, t7f, t9f, t11f, bx58, ax58, fx58, bx19, ax19, fx19]
                          refine tstP_br' (fun hb83 => ?_) (fun hb83 => ?_)
                          · replace hh := ite_t hb83 hh
                            try simp only [x_l47_TargetOrder, seval, -Int.reduceToNat, hr1, hr2, hr4, hr7, hr8, bx17, ax17, fx17, hr18, bx19, ax19, fx19, t5f, t6f, t7f, t9f, t11f, bx58, ax58, fx58, bx19, ax19, fx19]
                            refine dyn_ok (by kernel_rfl) ?_
                            cases hh
                            try simp only [x_l47_TargetOrder, seval, -Int.reduceToNat, hr1, hr2, hr4, hr7, hr8, bx17, ax17, fx17, hr18, bx19, ax19, fx19, t5f, t6f, t7f, t9f, t11f, bx58, ax58, fx58, bx19, ax19, fx19]
                            rw [CK_normal]
                            refine ⟨_, rfl, ?_⟩
                            refine ⟨?_, ?_, ?_, ?_, ?_, ?_⟩
                            all_goals (first | rfl | (simp only [x_l47_TargetOrder, seval, -Int.reduceToNat, hr1, hr2, hr4, hr7, hr8, bx17, ax17, fx17, hr18, bx19, ax19, fx19, t5f, t6f, t7f, t9f, t11f, bx58, ax58, fx58, bx19, ax19, fx19] <;> rfl))
                          · replace hh := ite_f hb83 hh
                            try simp only [x_l47_TargetOrder, seval, -Int.reduceToNat, hr1, hr2, hr4, hr7, hr8, bx17, ax17, fx17, hr18, bx19, ax19, fx19, t5f, t6f, t7f, t9f, t11f, bx58, ax58, fx58, bx19, ax19, fx19]
                            refine tstP_br (fun hb84 => ?_) (fun hb84 => ?_)
                            · replace hh := ite_t hb84 hh
                              obtain ⟨x85, hx85, hh⟩ := bindS hh
                              have bx85 := idx_bd hx85
                              have ax85 := idx_enc (eSl (eI .i64)) hx85
                              have fx85 := idx_fit (eSl (eI .i64)) hx85
                              simp only [vmz] at ax85 fx85
                              skip
                              obtain ⟨x86, hx86, hh⟩ := bindS hh
                              obtain ⟨q87a, q87b, q87c, q87d, q87e⟩ := slc_lh (eSl (eI .i64)) hx86
                              simp only [vmz] at q87e
                              have q87h := q87e
                              try simp only [ax58] at q87h
                              have i88 := q_r47_Same ([x85]) x86
                              simp only [encL_cons, vmz, List.length_cons, List.length_nil, Nat.zero_add, Nat.reduceAdd, List.length_set] at i88
                              obtain ⟨r89, hr89, hh⟩ := bindS hh
                              try simp only [x_l47_TargetOrder, seval, -Int.reduceToNat, hr1, hr2, hr4, hr7, hr8, bx17, ax17, fx17, hr18, bx19, ax19, fx19, t5f, t6f, t7f, t9f, t11f, bx58, ax58, fx58, bx19, ax19, fx19, bx85, ax85, fx85, q87a, q87b, q87c, q87d, q87e, q87h, i88, hr89]
                              refine dyn_ok (by kernel_rfl) ?_
                              cases hh
                              try simp only [x_l47_TargetOrder, seval, -Int.reduceToNat, hr1, hr2, hr4, hr7, hr8, bx17, ax17, fx17, hr18, bx19, ax19, fx19, t5f, t6f, t7f, t9f, t11f, bx58, ax58, fx58, bx19, ax19, fx19, bx85, ax85, fx85, q87a, q87b, q87c, q87d, q87e, q87h, i88, hr89]
                              rw [CK_normal]
                              refine ⟨_, rfl, ?_⟩
                              refine ⟨?_, ?_, ?_, ?_, ?_, ?_⟩
                              all_goals (first | rfl | (simp only [x_l47_TargetOrder, seval, -Int.reduceToNat, hr1, hr2, hr4, hr7, hr8, bx17, ax17, fx17, hr18, bx19, ax19, fx19, t5f, t6f, t7f, t9f, t11f, bx58, ax58, fx58, bx19, ax19, fx19, bx85, ax85, fx85, q87a, q87b, q87c, q87d, q87e, q87h, i88, hr89] <;> rfl))
                            · replace hh := ite_f hb84 hh
                              try simp only [x_l47_TargetOrder, seval, -Int.reduceToNat, hr1, hr2, hr4, hr7, hr8, bx17, ax17, fx17, hr18, bx19, ax19, fx19, t5f, t6f, t7f, t9f, t11f, bx58, ax58, fx58, bx19, ax19, fx19]
                              refine dyn_ok (by kernel_rfl) ?_
                              cases hh
                              try simp only [x_l47_TargetOrder, seval, -Int.reduceToNat, hr1, hr2, hr4, hr7, hr8, bx17, ax17, fx17, hr18, bx19, ax19, fx19, t5f, t6f, t7f, t9f, t11f, bx58, ax58, fx58, bx19, ax19, fx19]
                              rw [CK_normal]
                              refine ⟨_, rfl, ?_⟩
                              refine ⟨?_, ?_, ?_, ?_, ?_, ?_⟩
                              all_goals (first | rfl | (simp only [x_l47_TargetOrder, seval, -Int.reduceToNat, hr1, hr2, hr4, hr7, hr8, bx17, ax17, fx17, hr18, bx19, ax19, fx19, t5f, t6f, t7f, t9f, t11f, bx58, ax58, fx58, bx19, ax19, fx19] <;> rfl))
                      · replace hh := ite_f hb57 hh
                        cases hh
                        try simp only [x_l47_TargetOrder, seval, -Int.reduceToNat, hr1, hr2, hr4, hr7, hr8, bx17, ax17, fx17, hr18, bx19, ax19, fx19, t5f, t6f, t7f, t9f, t11f]
                        rw [LK_exit]
                        refine ⟨_, rfl, ?_⟩
                        refine ⟨rfl, ?_⟩
                        all_goals (first | rfl | (simp only [x_l47_TargetOrder, seval, -Int.reduceToNat, hr1, hr2, hr4, hr7, hr8, bx17, ax17, fx17, hr18, bx19, ax19, fx19, t5f, t6f, t7f, t9f, t11f] <;> rfl))
                    · rintro x t H e hx
                      rcases o56 with _ | rf
                      ·
                        dsimp only at hx hh
                        obtain ⟨rfl, t5fx⟩ := hx
                        cases hh
                        try simp only [x_l47_TargetOrder, seval, -Int.reduceToNat, hr1, hr2, hr4, hr7, hr8, bx17, ax17, fx17, hr18, bx19, ax19, fx19, t5fx]
                      ·
                        dsimp only at hx hh
                        obtain ⟨rfl, hE⟩ := hx
                        cases hh
                        try simp only [runW_pass_ret, runW_pass_exit, runW_blk_ret, runW_nil, endW_ret]
                        exact hE
                ·
                  clear hh
                  have hh := ho20
                  try simp only [x_l47_TargetOrder, seval, -Int.reduceToNat, hr1, hr2, hr4, hr7, hr8, t0j4, t3j4, t5j4, t6j4, t7j4, t9j4, t99j4, H3j4, bx17, ax17, fx17, hr18, bx19, ax19, fx19]
                  refine tstP_br' (fun hb90 => ?_) (fun hb90 => ?_)
                  · replace hh := ite_t hb90 hh
                    try simp only [x_l47_TargetOrder, seval, -Int.reduceToNat, hr1, hr2, hr4, hr7, hr8, t0j4, t3j4, t5j4, t6j4, t7j4, t9j4, t99j4, H3j4, bx17, ax17, fx17, hr18, bx19, ax19, fx19]
                    refine dyn_ok (by kernel_rfl) ?_
                    cases hh
                    try simp only [x_l47_TargetOrder, seval, -Int.reduceToNat, hr1, hr2, hr4, hr7, hr8, t0j4, t3j4, t5j4, t6j4, t7j4, t9j4, t99j4, H3j4, bx17, ax17, fx17, hr18, bx19, ax19, fx19]
                    rw [CK_normal]
                    refine ⟨_, rfl, ?_⟩
                    refine ⟨?_, ?_, ?_, ?_, ?_⟩
                    all_goals (first | rfl | (simp only [x_l47_TargetOrder, seval, -Int.reduceToNat, hr1, hr2, hr4, hr7, hr8, t0j4, t3j4, t5j4, t6j4, t7j4, t9j4, t99j4, H3j4, bx17, ax17, fx17, hr18, bx19, ax19, fx19] <;> rfl))
                  · replace hh := ite_f hb90 hh
                    have bx19 := idx_bd hx19
                    have ax19 := idx_enc (eSl (eI .i64)) hx19
                    have fx19 := idx_fit (eSl (eI .i64)) hx19
                    simp only [vmz] at ax19 fx19
                    skip
                    try simp only [x_l47_TargetOrder, seval, -Int.reduceToNat, hr1, hr2, hr4, hr7, hr8, t0j4, t3j4, t5j4, t6j4, t7j4, t9j4, t99j4, H3j4, bx17, ax17, fx17, hr18, bx19, ax19, fx19, bx19, ax19, fx19]
                    refine tstP_br (fun hb91 => ?_) (fun hb91 => ?_)
                    · replace hh := ite_t hb91 hh
                      try simp only [x_l47_TargetOrder, seval, -Int.reduceToNat, hr1, hr2, hr4, hr7, hr8, t0j4, t3j4, t5j4, t6j4, t7j4, t9j4, t99j4, H3j4, bx17, ax17, fx17, hr18, bx19, ax19, fx19, bx19, ax19, fx19]
                      refine dyn_ok (by kernel_rfl) ?_
                      cases hh
                      try simp only [x_l47_TargetOrder, seval, -Int.reduceToNat, hr1, hr2, hr4, hr7, hr8, t0j4, t3j4, t5j4, t6j4, t7j4, t9j4, t99j4, H3j4, bx17, ax17, fx17, hr18, bx19, ax19, fx19, bx19, ax19, fx19]
                      rw [CK_normal]
                      refine ⟨_, rfl, ?_⟩
                      refine ⟨?_, ?_, ?_, ?_, ?_⟩
                      all_goals (first | rfl | (simp only [x_l47_TargetOrder, seval, -Int.reduceToNat, hr1, hr2, hr4, hr7, hr8, t0j4, t3j4, t5j4, t6j4, t7j4, t9j4, t99j4, H3j4, bx17, ax17, fx17, hr18, bx19, ax19, fx19, bx19, ax19, fx19] <;> rfl))
                    · replace hh := ite_f hb91 hh
                      try simp only [x_l47_TargetOrder, seval, -Int.reduceToNat, hr1, hr2, hr4, hr7, hr8, t0j4, t3j4, t5j4, t6j4, t7j4, t9j4, t99j4, H3j4, bx17, ax17, fx17, hr18, bx19, ax19, fx19, bx19, ax19, fx19]
                      refine dyn_ok (by kernel_rfl) ?_
                      cases hh
                      try simp only [x_l47_TargetOrder, seval, -Int.reduceToNat, hr1, hr2, hr4, hr7, hr8, t0j4, t3j4, t5j4, t6j4, t7j4, t9j4, t99j4, H3j4, bx17, ax17, fx17, hr18, bx19, ax19, fx19, bx19, ax19, fx19]
                      rw [CK_normal]
                      refine ⟨_, rfl, ?_⟩
                      refine ⟨?_, ?_, ?_, ?_, ?_⟩
                      all_goals (first | rfl | (simp only [x_l47_TargetOrder, seval, -Int.reduceToNat, hr1, hr2, hr4, hr7, hr8, t0j4, t3j4, t5j4, t6j4, t7j4, t9j4, t99j4, H3j4, bx17, ax17, fx17, hr18, bx19, ax19, fx19, bx19, ax19, fx19] <;> rfl))
            ·
              clear hh
              have hh := ho15
              try simp only [x_l47_TargetOrder, seval, -Int.reduceToNat, hr1, hr2, hr4, hr7, hr8, t0j2, t3j2, t5j2, t6j2, t7j2, t8j2, t9j2, t10j2, t52j2, H3j2]
              refine tstP_br' (fun hb92 => ?_) (fun hb92 => ?_)
              · replace hh := ite_t hb92 hh
                try simp only [x_l47_TargetOrder, seval, -Int.reduceToNat, hr1, hr2, hr4, hr7, hr8, t0j2, t3j2, t5j2, t6j2, t7j2, t8j2, t9j2, t10j2, t52j2, H3j2]
                refine dyn_ok (by kernel_rfl) ?_
                cases hh
                try simp only [x_l47_TargetOrder, seval, -Int.reduceToNat, hr1, hr2, hr4, hr7, hr8, t0j2, t3j2, t5j2, t6j2, t7j2, t8j2, t9j2, t10j2, t52j2, H3j2]
                rw [CK_normal]
                refine ⟨_, rfl, ?_⟩
                refine ⟨v3j2, ?_, ?_, ?_, ?_, ?_, ?_, ?_, ?_⟩
                all_goals (first | rfl | (simp only [x_l47_TargetOrder, seval, -Int.reduceToNat, hr1, hr2, hr4, hr7, hr8, t0j2, t3j2, t5j2, t6j2, t7j2, t8j2, t9j2, t10j2, t52j2, H3j2] <;> rfl))
              · replace hh := ite_f hb92 hh
                try simp only [x_l47_TargetOrder, seval, -Int.reduceToNat, hr1, hr2, hr4, hr7, hr8, t0j2, t3j2, t5j2, t6j2, t7j2, t8j2, t9j2, t10j2, t52j2, H3j2]
                refine tstP_br' (fun hb93 => ?_) (fun hb93 => ?_)
                · replace hh := ite_t hb93 hh
                  try simp only [x_l47_TargetOrder, seval, -Int.reduceToNat, hr1, hr2, hr4, hr7, hr8, t0j2, t3j2, t5j2, t6j2, t7j2, t8j2, t9j2, t10j2, t52j2, H3j2]
                  refine dyn_ok (by kernel_rfl) ?_
                  cases hh
                  try simp only [x_l47_TargetOrder, seval, -Int.reduceToNat, hr1, hr2, hr4, hr7, hr8, t0j2, t3j2, t5j2, t6j2, t7j2, t8j2, t9j2, t10j2, t52j2, H3j2]
                  rw [CK_normal]
                  refine ⟨_, rfl, ?_⟩
                  refine ⟨v3j2, ?_, ?_, ?_, ?_, ?_, ?_, ?_, ?_⟩
                  all_goals (first | rfl | (simp only [x_l47_TargetOrder, seval, -Int.reduceToNat, hr1, hr2, hr4, hr7, hr8, t0j2, t3j2, t5j2, t6j2, t7j2, t8j2, t9j2, t10j2, t52j2, H3j2] <;> rfl))
                · replace hh := ite_f hb93 hh
                  obtain ⟨r94, hr94, hh⟩ := bindS hh
                  try simp only [x_l47_TargetOrder, seval, -Int.reduceToNat, hr1, hr2, hr4, hr7, hr8, t0j2, t3j2, t5j2, t6j2, t7j2, t8j2, t9j2, t10j2, t52j2, H3j2, hr94]
                  refine tstP_br' (fun hb95 => ?_) (fun hb95 => ?_)
                  · replace hh := ite_t hb95 hh
                    try simp only [x_l47_TargetOrder, seval, -Int.reduceToNat, hr1, hr2, hr4, hr7, hr8, t0j2, t3j2, t5j2, t6j2, t7j2, t8j2, t9j2, t10j2, t52j2, H3j2, hr94]
                    refine dyn_ok (by kernel_rfl) ?_
                    cases hh
                    try simp only [x_l47_TargetOrder, seval, -Int.reduceToNat, hr1, hr2, hr4, hr7, hr8, t0j2, t3j2, t5j2, t6j2, t7j2, t8j2, t9j2, t10j2, t52j2, H3j2, hr94]
                    rw [CK_normal]
                    refine ⟨_, rfl, ?_⟩
                    refine ⟨v3j2, ?_, ?_, ?_, ?_, ?_, ?_, ?_, ?_⟩
                    all_goals (first | rfl | (simp only [x_l47_TargetOrder, seval, -Int.reduceToNat, hr1, hr2, hr4, hr7, hr8, t0j2, t3j2, t5j2, t6j2, t7j2, t8j2, t9j2, t10j2, t52j2, H3j2, hr94] <;> rfl))
                  · replace hh := ite_f hb95 hh
                    obtain ⟨x96, hx96, hh⟩ := bindS hh
                    obtain ⟨q97a, q97b, q97c, q97d, q97e⟩ := slc_ln (eSl (eI .i64)) hx96
                    simp only [vmz] at q97e
                    obtain ⟨r98, hr98, hh⟩ := bindS hh
                    try simp only [x_l47_TargetOrder, seval, -Int.reduceToNat, hr1, hr2, hr4, hr7, hr8, t0j2, t3j2, t5j2, t6j2, t7j2, t8j2, t9j2, t10j2, t52j2, H3j2, hr94, q97a, q97b, q97c, q97d, q97e, hr98]
                    refine tstP_br' (fun hb99 => ?_) (fun hb99 => ?_)
                    · replace hh := ite_t hb99 hh
                      try simp only [x_l47_TargetOrder, seval, -Int.reduceToNat, hr1, hr2, hr4, hr7, hr8, t0j2, t3j2, t5j2, t6j2, t7j2, t8j2, t9j2, t10j2, t52j2, H3j2, hr94, q97a, q97b, q97c, q97d, q97e, hr98]
                      refine dyn_ok (by kernel_rfl) ?_
                      cases hh
                      try simp only [x_l47_TargetOrder, seval, -Int.reduceToNat, hr1, hr2, hr4, hr7, hr8, t0j2, t3j2, t5j2, t6j2, t7j2, t8j2, t9j2, t10j2, t52j2, H3j2, hr94, q97a, q97b, q97c, q97d, q97e, hr98]
                      rw [CK_normal]
                      refine ⟨_, rfl, ?_⟩
                      refine ⟨v3j2, ?_, ?_, ?_, ?_, ?_, ?_, ?_, ?_⟩
                      all_goals (first | rfl | (simp only [x_l47_TargetOrder, seval, -Int.reduceToNat, hr1, hr2, hr4, hr7, hr8, t0j2, t3j2, t5j2, t6j2, t7j2, t8j2, t9j2, t10j2, t52j2, H3j2, hr94, q97a, q97b, q97c, q97d, q97e, hr98] <;> rfl))
                    · replace hh := ite_f hb99 hh
                      obtain ⟨x100, hx100, hh⟩ := bindS hh
                      obtain ⟨q101a, q101b, q101c, q101d, q101e⟩ := slc_nh (eSl (eI .i64)) hx100
                      simp only [vmz] at q101e
                      obtain ⟨r102, hr102, hh⟩ := bindS hh
                      try simp only [x_l47_TargetOrder, seval, -Int.reduceToNat, hr1, hr2, hr4, hr7, hr8, t0j2, t3j2, t5j2, t6j2, t7j2, t8j2, t9j2, t10j2, t52j2, H3j2, hr94, q97a, q97b, q97c, q97d, q97e, hr98, q101a, q101b, q101c, q101d, q101e, hr102]
                      refine dyn_ok (by kernel_rfl) ?_
                      cases hh
                      try simp only [x_l47_TargetOrder, seval, -Int.reduceToNat, hr1, hr2, hr4, hr7, hr8, t0j2, t3j2, t5j2, t6j2, t7j2, t8j2, t9j2, t10j2, t52j2, H3j2, hr94, q97a, q97b, q97c, q97d, q97e, hr98, q101a, q101b, q101c, q101d, q101e, hr102]
                      rw [CK_normal]
                      refine ⟨_, rfl, ?_⟩
                      refine ⟨v3j2, ?_, ?_, ?_, ?_, ?_, ?_, ?_, ?_⟩
                      all_goals (first | rfl | (simp only [x_l47_TargetOrder, seval, -Int.reduceToNat, hr1, hr2, hr4, hr7, hr8, t0j2, t3j2, t5j2, t6j2, t7j2, t8j2, t9j2, t10j2, t52j2, H3j2, hr94, q97a, q97b, q97c, q97d, q97e, hr98, q101a, q101b, q101c, q101d, q101e, hr102] <;> rfl))
        ·
          clear hh
          have hh := ho9
          try simp only [x_l47_TargetOrder, seval, -Int.reduceToNat, hr1, hr2, hr4, t0j1, t3j1, t5j1, t6j1, t33j1, H3j1, hr7, hr8]
          refine tstO_br' (fun hb103 => ?_) (fun hb103 => ?_)
          · replace hh := ite_t hb103 hh
            cases hh
            try simp only [x_l47_TargetOrder, seval, -Int.reduceToNat, hr1, hr2, hr4, t0j1, t3j1, t5j1, t6j1, t33j1, H3j1, hr7, hr8]
            rw [CK_normal]
            refine ⟨_, rfl, ?_⟩
            refine ⟨v3j1, ?_, ?_, ?_, ?_, ?_, ?_, ?_, ?_, ?_, ?_⟩
            all_goals (first | rfl | (simp only [x_l47_TargetOrder, seval, -Int.reduceToNat, hr1, hr2, hr4, t0j1, t3j1, t5j1, t6j1, t33j1, H3j1, hr7, hr8] <;> rfl))
          · replace hh := ite_f hb103 hh
            cases hh
            try simp only [x_l47_TargetOrder, seval, -Int.reduceToNat, hr1, hr2, hr4, t0j1, t3j1, t5j1, t6j1, t33j1, H3j1, hr7, hr8]
            rw [CK_normal]
            refine ⟨_, rfl, ?_⟩
            refine ⟨v3j1, ?_, ?_, ?_, ?_, ?_, ?_, ?_, ?_, ?_, ?_⟩
            all_goals (first | rfl | (simp only [x_l47_TargetOrder, seval, -Int.reduceToNat, hr1, hr2, hr4, t0j1, t3j1, t5j1, t6j1, t33j1, H3j1, hr7, hr8] <;> rfl))
    ·
      clear hh
      have hh := ho5
      try simp only [x_l47_TargetOrder, seval, -Int.reduceToNat, hr1, hr2, hr4]
      refine tstO_br' (fun hb104 => ?_) (fun hb104 => ?_)
      · replace hh := ite_t hb104 hh
        cases hh
        try simp only [x_l47_TargetOrder, seval, -Int.reduceToNat, hr1, hr2, hr4]
        rw [CK_normal]
        refine ⟨_, rfl, ?_⟩
        refine ⟨0, ?_, ?_, ?_, ?_, ?_, ?_⟩
        all_goals (first | rfl | (simp only [x_l47_TargetOrder, seval, -Int.reduceToNat, hr1, hr2, hr4] <;> rfl))
      · replace hh := ite_f hb104 hh
        try simp only [x_l47_TargetOrder, seval, -Int.reduceToNat, hr1, hr2, hr4]
        refine tstO_br' (fun hb105 => ?_) (fun hb105 => ?_)
        · replace hh := ite_t hb105 hh
          cases hh
          try simp only [x_l47_TargetOrder, seval, -Int.reduceToNat, hr1, hr2, hr4]
          rw [CK_normal]
          refine ⟨_, rfl, ?_⟩
          refine ⟨0, ?_, ?_, ?_, ?_, ?_, ?_⟩
          all_goals (first | rfl | (simp only [x_l47_TargetOrder, seval, -Int.reduceToNat, hr1, hr2, hr4] <;> rfl))
        · replace hh := ite_f hb105 hh
          cases hh
          try simp only [x_l47_TargetOrder, seval, -Int.reduceToNat, hr1, hr2, hr4]
          rw [CK_normal]
          refine ⟨_, rfl, ?_⟩
          refine ⟨0, ?_, ?_, ?_, ?_, ?_, ?_⟩
          all_goals (first | rfl | (simp only [x_l47_TargetOrder, seval, -Int.reduceToNat, hr1, hr2, hr4] <;> rfl))

theorem ok_l47_TargetOrder : COk Try.prog 5 G_l47_TargetOrder := COk.of (mode := .clean) tok ge_l47_TargetOrder mixed Try.func5 (by kernel_rfl) ⟨by kernel_rfl, by kernel_rfl⟩ (fun _ => Nat.le_of_ble_eq_true (by kernel_rfl)) (fun x r h => m_l47_TargetOrder x.1 x.2 r h)

noncomputable def G_l47_swapped := mkG (asC (aI .i64) (asC (aI .i64) (as1 (aI .i64)))) (fun x : Int × Int × Int => l47_swapped x.1 x.2.1 x.2.2) (fun r : Int => .clean (.int .i64 r))

theorem q_l47_swapped (p0 : Int) (p1 : Int) (p2 : Int) : G_l47_swapped none [.int .i64 p0, .int .i64 p1, .int .i64 p2] = (l47_swapped p0 p1 p2).map fun r : Int => (.clean (.int .i64 r), none) := mkG_eq _ _ _ (p0, p1, p2)

theorem m_l47_swapped (p0 : Int) (p1 : Int) (p2 : Int) (r : Int) (hh : l47_swapped p0 p1 p2 = some r) : vfunc .clean tab noEnv FU Try.f25 none [.int .i64 p0, .int .i64 p1, .int .i64 p2] = some (.clean (.int .i64 r), none) := by
  refine vfunc_of rfl Try.ntmps25 Try.results25 ?_
  unfold l47_swapped at hh
  obtain ⟨x1, hx1, hh⟩ := bindS hh
  obtain ⟨q2a, q2b⟩ := shlI_ok hx1
  obtain ⟨x3, hx3, hh⟩ := bindS hh
  obtain ⟨q4a, q4b⟩ := shlI_ok hx3
  try simp only [w, seval, -Int.reduceToNat, q2a, q2b, q4a, q4b]
  refine dyn_ok (by kernel_rfl) ?_
  obtain ⟨x5, hx5, hh⟩ := bindS hh
  obtain ⟨q6a, q6b⟩ := shrI_ok hx5
  obtain ⟨x7, hx7, hh⟩ := bindS hh
  obtain ⟨q8a, q8b⟩ := shlI_ok hx7
  obtain ⟨x9, hx9, hh⟩ := bindS hh
  obtain ⟨q10a, q10b⟩ := shrI_ok hx9
  obtain ⟨x11, hx11, hh⟩ := bindS hh
  obtain ⟨q12a, q12b⟩ := shlI_ok hx11
  try simp only [w, seval, -Int.reduceToNat, q2a, q2b, q4a, q4b, q6a, q6b, q8a, q8b, q10a, q10b, q12a, q12b]
  refine dyn_ok (by kernel_rfl) ?_
  cases hh
  try simp only [w, seval, -Int.reduceToNat, q2a, q2b, q4a, q4b, q6a, q6b, q8a, q8b, q10a, q10b, q12a, q12b]

theorem ok_l47_swapped : COk Try.prog 25 G_l47_swapped := COk.of (mode := .clean) tok GOk.none mixed Try.func25 (by kernel_rfl) ⟨by kernel_rfl, by kernel_rfl⟩ (fun _ => Nat.le_of_ble_eq_true (by kernel_rfl)) (fun x r h => m_l47_swapped x.1 x.2.1 x.2.2 r h)

noncomputable def G_l47_TargetSwaps := mkG (asC (aSl eTFrac) (asC (aAgg eTFrac) (asC (aI .u8) (as1 (aI .u8))))) (fun x : (List TFrac) × TFrac × Int × Int => l47_TargetSwaps x.1 x.2.1 x.2.2.1 x.2.2.2) (fun r : Bool => .clean (.bool r))

theorem q_l47_TargetSwaps (p0 : (List TFrac)) (p1_0 : Int) (p1_1 : (List Int)) (p1_2 : Int) (p1_3 : (List Int)) (p2 : Int) (p3 : Int) : G_l47_TargetSwaps none [.sl false false p0.length (encL eTFrac p0), .agg [.int .i64 p1_0, .sl false false p1_1.length (encL (eI .i64) p1_1), .int .i64 p1_2, .sl false false p1_3.length (encL (eI .i64) p1_3)], .int .u8 p2, .int .u8 p3] = (l47_TargetSwaps p0 (TFrac.mk (TBig.mk p1_0 p1_1) (TBig.mk p1_2 p1_3)) p2 p3).map fun r : Bool => (.clean (.bool r), none) := mkG_eq _ _ _ (p0, (TFrac.mk (TBig.mk p1_0 p1_1) (TBig.mk p1_2 p1_3)), p2, p3)

noncomputable def g_l47_TargetSwaps : Env := (Am.ext (Am.ext (Am.ext (Am.ext (Am.ext (Am.ext noEnv 8 false G_l47_small) 9 false G_r47_Few) 13 false G_target_Minimal) 16 false G_target_Edits) 22 false G_l47_bits) 25 false G_l47_swapped)

theorem ge_l47_TargetSwaps : GOk Try.prog g_l47_TargetSwaps := ((((((GOk.none.add ok_l47_small false).add ok_r47_Few false).add ok_target_Minimal false).add ok_target_Edits false).add ok_l47_bits false).add ok_l47_swapped false)

theorem gg_l47_TargetSwaps : g_l47_TargetSwaps = (Am.ext (Am.ext (Am.ext (Am.ext (Am.ext (Am.ext noEnv 8 false G_l47_small) 9 false G_r47_Few) 13 false G_target_Minimal) 16 false G_target_Edits) 22 false G_l47_bits) 25 false G_l47_swapped) := Eq.trans rfl rfl

theorem x_l47_TargetSwaps : type_of% (And.intro @w <| And.intro @q_l47_small <| And.intro @q_r47_Few <| And.intro @q_target_Minimal <| And.intro @q_target_Edits <| And.intro @q_l47_bits <| And.intro @q_l47_swapped <| @gg_l47_TargetSwaps) := And.intro @w <| And.intro @q_l47_small <| And.intro @q_r47_Few <| And.intro @q_target_Minimal <| And.intro @q_target_Edits <| And.intro @q_l47_bits <| And.intro @q_l47_swapped <| @gg_l47_TargetSwaps

theorem m_l47_TargetSwaps (p0 : (List TFrac)) (p1 : TFrac) (p2 : Int) (p3 : Int) (r : Bool) (hh : l47_TargetSwaps p0 p1 p2 p3 = some r) : vfunc .clean tab g_l47_TargetSwaps FU Try.f6 none [.sl false false p0.length (encL eTFrac p0), .agg [.int .i64 p1.f_P.f_Sign, .sl false false p1.f_P.f_Digits.length (encL (eI .i64) p1.f_P.f_Digits), .int .i64 p1.f_Q.f_Sign, .sl false false p1.f_Q.f_Digits.length (encL (eI .i64) p1.f_Q.f_Digits)], .int .u8 p2, .int .u8 p3] = some (.clean (.bool r), none) := by
  refine vfunc_of rfl Try.ntmps6 Try.results6 ?_
  unfold l47_TargetSwaps at hh
  obtain ⟨r1, hr1, hh⟩ := bindS hh
  obtain ⟨r2, hr2, hh⟩ := bindS hh
  try simp only [x_l47_TargetSwaps, seval, -Int.reduceToNat, hr1, hr2]
  refine tstC_br (fun hb3 => ?_) (fun hb3 => ?_)
  · replace hh := ite_t hb3 hh
    cases hh
    try simp only [x_l47_TargetSwaps, seval, -Int.reduceToNat, hr1, hr2]
  · replace hh := ite_f hb3 hh
    obtain ⟨r4, hr4, hh⟩ := bindS hh
    try simp only [x_l47_TargetSwaps, seval, -Int.reduceToNat, hr1, hr2, hr4]
    obtain ⟨o5, ho5, hh⟩ := bindS hh
    refine tstO_cut 0 (fun s t H e => match s with | s46j1 => ∃ v5j1 : Nat, t 0 = .sl false false p0.length (encL eTFrac p0) ∧ t 2 = .int .u8 p2 ∧ t 3 = .int .u8 p3 ∧ t 5 = .ptr 5 v5j1 0 ∧ t 9 = .bool r1 ∧ t 10 = .int .i64 r4 ∧ t 46 = .bool s46j1 ∧ H 5 = some ⟨v5j1, 27, [.int .i64 p1.f_P.f_Sign, .sl false false p1.f_P.f_Digits.length (encL (eI .i64) p1.f_P.f_Digits), .int .i64 p1.f_Q.f_Sign, .sl false false p1.f_Q.f_Digits.length (encL (eI .i64) p1.f_Q.f_Digits)], false, false⟩) (fun s => s = o5) ?_ ?_
    · rintro s46j1 t H e ⟨v5j1, t0j1, t2j1, t3j1, t5j1, t9j1, t10j1, t46j1, H5j1⟩ rfl
      try dsimp only at hh
      try simp only [x_l47_TargetSwaps, seval, -Int.reduceToNat, hr1, hr2, hr4, t0j1, t2j1, t3j1, t5j1, t9j1, t10j1, t46j1, H5j1]
      refine tstC_br (fun hb6 => ?_) (fun hb6 => ?_)
      · replace hh := ite_t hb6 hh
        cases hh
        try simp only [x_l47_TargetSwaps, seval, -Int.reduceToNat, hr1, hr2, hr4, t0j1, t2j1, t3j1, t5j1, t9j1, t10j1, t46j1, H5j1]
      · replace hh := ite_f hb6 hh
        obtain ⟨x7, hx7, hh⟩ := bindS hh
        obtain ⟨q8a, q8b⟩ := modI_ok hx7
        obtain ⟨x9, hx9, hh⟩ := bindS hh
        obtain ⟨q10a, q10b⟩ := modI_ok hx9
        obtain ⟨x11, hx11, hh⟩ := bindS hh
        obtain ⟨q12a, q12b, q12c, q12d, q12e⟩ := mk_one eTFrac hx11
        simp only [vmz] at q12d
        try simp only [x_l47_TargetSwaps, seval, -Int.reduceToNat, hr1, hr2, hr4, t0j1, t2j1, t3j1, t5j1, t9j1, t10j1, t46j1, H5j1, q8a, q8b, q10a, q10b, q12a, q12b, q12c, q12d, q12e]
        obtain ⟨o18, ho18, hh⟩ := bindS hh
        refine runLoop_sim (fun s t H e => match s with | (s14b, l13b) => ∃ v5b : Nat, ∃ v13b : Nat, t 0 = .sl false false p0.length (encL eTFrac p0) ∧ t 5 = .ptr 5 v5b 0 ∧ t 9 = .bool r1 ∧ t 10 = .int .i64 r4 ∧ t 11 = .int .i64 x7 ∧ t 12 = .int .i64 x9 ∧ t 13 = .buf 13 v13b 4 0 (l13b).length ∧ t 14 = .int .i64 s14b ∧ H 5 = some ⟨v5b, 27, [.int .i64 p1.f_P.f_Sign, .sl false false p1.f_P.f_Digits.length (encL (eI .i64) p1.f_P.f_Digits), .int .i64 p1.f_Q.f_Sign, .sl false false p1.f_Q.f_Digits.length (encL (eI .i64) p1.f_Q.f_Digits)], false, false⟩ ∧ H 13 = some ⟨v13b, 27, encL eTFrac l13b, false, true⟩) (fun o x t H e => match o with | l13bx => x = .exit 0 ∧ ∃ v5bx : Nat, ∃ v13bx : Nat, t 0 = .sl false false p0.length (encL eTFrac p0) ∧ t 5 = .ptr 5 v5bx 0 ∧ t 9 = .bool r1 ∧ t 10 = .int .i64 r4 ∧ t 11 = .int .i64 x7 ∧ t 12 = .int .i64 x9 ∧ t 13 = .buf 13 v13bx 4 0 (l13bx).length ∧ H 5 = some ⟨v5bx, 27, [.int .i64 p1.f_P.f_Sign, .sl false false p1.f_P.f_Digits.length (encL (eI .i64) p1.f_P.f_Digits), .int .i64 p1.f_Q.f_Sign, .sl false false p1.f_Q.f_Digits.length (encL (eI .i64) p1.f_Q.f_Digits)], false, false⟩ ∧ H 13 = some ⟨v13bx, 27, encL eTFrac l13bx, false, true⟩) ho18 ?_ ?_ ?_
        ·
          refine ⟨v5j1, e + 1 + 1, ?_, ?_, ?_, ?_, ?_, ?_, ?_, ?_, ?_, ?_⟩
          all_goals (first | rfl | (simp only [x_l47_TargetSwaps, seval, -Int.reduceToNat, hr1, hr2, hr4, t0j1, t2j1, t3j1, t5j1, t9j1, t10j1, t46j1, H5j1, q8a, q8b, q10a, q10b, q12a, q12b, q12c, q12d, q12e] <;> rfl))
        · rintro ⟨s14b, l13b⟩ t H e ⟨v5b, v13b, t0b, t5b, t9b, t10b, t11b, t12b, t13b, t14b, H5b, H13b⟩ c hh
          simp only [l47_TargetSwaps_L2] at hh
          try simp only [x_l47_TargetSwaps, seval, -Int.reduceToNat, hr1, hr2, hr4, q8a, q8b, q10a, q10b, q12a, q12b, q12c, q12d, q12e, t0b, t5b, t9b, t10b, t11b, t12b, t13b, t14b, H5b, H13b]
          refine tstC_br (fun hb19 => ?_) (fun hb19 => ?_)
          · replace hh := ite_t hb19 hh
            obtain ⟨r20, hr20, hh⟩ := bindS hh
            obtain ⟨x21, hx21, hh⟩ := bindS hh
            have bx21 := idx_bd hx21
            have ax21 := idx_enc eTFrac hx21
            have fx21 := idx_fit eTFrac hx21
            simp only [vmz] at ax21 fx21
            skip
            obtain ⟨x22, hx22, hh⟩ := bindS hh
            have bx22 := idx_bd hx22
            have ax22 := idx_enc eTFrac hx22
            have fx22 := idx_fit eTFrac hx22
            simp only [vmz] at ax22 fx22
            skip
            have p23 := put_enc eTFrac (x' := x21) (fo := 0) (cs := [.int .i64 x21.f_P.f_Sign, .sl false false x21.f_P.f_Digits.length (encL (eI .i64) x21.f_P.f_Digits), .int .i64 x21.f_Q.f_Sign, .sl false false x21.f_Q.f_Digits.length (encL (eI .i64) x21.f_Q.f_Digits)]) hx22 rfl (Nat.le_of_ble_eq_true rfl)
            simp only [vmz, Nat.add_zero] at p23
            have up23 := p23
            simp only [putCells, List.length_cons, List.length_nil, Nat.zero_add, Nat.reduceAdd] at up23
            try simp only [x_l47_TargetSwaps, seval, -Int.reduceToNat, hr1, hr2, hr4, q8a, q8b, q10a, q10b, q12a, q12b, q12c, q12d, q12e, t0b, t5b, t9b, t10b, t11b, t12b, t13b, t14b, H5b, H13b, hr20, bx21, ax21, fx21, bx22, ax22, fx22, p23, up23]
            refine dyn_ok (by kernel_rfl) ?_
            cases hh
            try simp only [x_l47_TargetSwaps, seval, -Int.reduceToNat, hr1, hr2, hr4, q8a, q8b, q10a, q10b, q12a, q12b, q12c, q12d, q12e, t0b, t5b, t9b, t10b, t11b, t12b, t13b, t14b, H5b, H13b, hr20, bx21, ax21, fx21, bx22, ax22, fx22, p23, up23]
            rw [LK_normal]
            refine ⟨_, rfl, ?_⟩
            refine ⟨v5b, v13b, ?_, ?_, ?_, ?_, ?_, ?_, ?_, ?_, ?_, ?_⟩
            all_goals (first | rfl | (simp only [x_l47_TargetSwaps, seval, -Int.reduceToNat, hr1, hr2, hr4, q8a, q8b, q10a, q10b, q12a, q12b, q12c, q12d, q12e, t0b, t5b, t9b, t10b, t11b, t12b, t13b, t14b, H5b, H13b, hr20, bx21, ax21, fx21, bx22, ax22, fx22, p23, up23] <;> rfl))
          · replace hh := ite_f hb19 hh
            cases hh
            try simp only [x_l47_TargetSwaps, seval, -Int.reduceToNat, hr1, hr2, hr4, q8a, q8b, q10a, q10b, q12a, q12b, q12c, q12d, q12e, t0b, t5b, t9b, t10b, t11b, t12b, t13b, t14b, H5b, H13b]
            rw [LK_exit]
            refine ⟨_, rfl, ?_⟩
            refine ⟨rfl, ⟨v5b, v13b, ?_, ?_, ?_, ?_, ?_, ?_, ?_, ?_, ?_⟩⟩
            all_goals (first | rfl | (simp only [x_l47_TargetSwaps, seval, -Int.reduceToNat, hr1, hr2, hr4, q8a, q8b, q10a, q10b, q12a, q12b, q12c, q12d, q12e, t0b, t5b, t9b, t10b, t11b, t12b, t13b, t14b, H5b, H13b] <;> rfl))
        · rintro x t H e hx
          obtain ⟨l13bx, rfl⟩ : ∃ z, z = o18 := ⟨_, rfl⟩
          dsimp only at hx hh
          obtain ⟨rfl, ⟨v5bx, v13bx, t0bx, t5bx, t9bx, t10bx, t11bx, t12bx, t13bx, H5bx, H13bx⟩⟩ := hx
          obtain ⟨r24, hr24, hh⟩ := bindS hh
          obtain ⟨r25, hr25, hh⟩ := bindS hh
          try simp only [x_l47_TargetSwaps, seval, -Int.reduceToNat, hr1, hr2, hr4, q8a, q8b, q10a, q10b, q12a, q12b, q12c, q12d, q12e, t0bx, t5bx, t9bx, t10bx, t11bx, t12bx, t13bx, H5bx, H13bx, hr24, hr25]
          obtain ⟨o26, ho26, hh⟩ := bindS hh
          refine tstO_cut 0 (fun s t H e => match s with | s96j3 => t 9 = .bool r1 ∧ t 10 = .int .i64 r4 ∧ t 11 = .int .i64 x7 ∧ t 12 = .int .i64 x9 ∧ t 15 = .sl false false r24.1.length (encL (eSl (eI .i64)) r24.1) ∧ t 17 = .sl false false r25.1.length (encL (eSl (eI .i64)) r25.1) ∧ t 96 = .bool s96j3) (fun s => s = o26) ?_ ?_
          · rintro s96j3 t H e ⟨t9j3, t10j3, t11j3, t12j3, t15j3, t17j3, t96j3⟩ rfl
            try dsimp only at hh
            try simp only [x_l47_TargetSwaps, seval, -Int.reduceToNat, hr1, hr2, hr4, q8a, q8b, q10a, q10b, q12a, q12b, q12c, q12d, q12e, hr24, hr25, t9j3, t10j3, t11j3, t12j3, t15j3, t17j3, t96j3]
            refine tstC_br (fun hb27 => ?_) (fun hb27 => ?_)
            · replace hh := ite_t hb27 hh
              cases hh
              try simp only [x_l47_TargetSwaps, seval, -Int.reduceToNat, hr1, hr2, hr4, q8a, q8b, q10a, q10b, q12a, q12b, q12c, q12d, q12e, hr24, hr25, t9j3, t10j3, t11j3, t12j3, t15j3, t17j3, t96j3]
            · replace hh := ite_f hb27 hh
              try simp only [x_l47_TargetSwaps, seval, -Int.reduceToNat, hr1, hr2, hr4, q8a, q8b, q10a, q10b, q12a, q12b, q12c, q12d, q12e, hr24, hr25, t9j3, t10j3, t11j3, t12j3, t15j3, t17j3, t96j3]
              obtain ⟨o49, ho49, hh⟩ := bindS hh
              refine runLoop_sim (fun s t H e => match s with | s19d => t 9 = .bool r1 ∧ t 10 = .int .i64 r4 ∧ t 11 = .int .i64 x7 ∧ t 12 = .int .i64 x9 ∧ t 15 = .sl false false r24.1.length (encL (eSl (eI .i64)) r24.1) ∧ t 17 = .sl false false r25.1.length (encL (eSl (eI .i64)) r25.1) ∧ t 19 = .int .i64 s19d) (fun o x t H e => match o with | (.inl _) => x = .exit 2 ∧ t 9 = .bool r1 | (.inr r) => x = .ret ∧ endM .clean tab none [.tmp 8] ⟨t, H, e⟩ = some (.clean (.bool r), none)) ho49 ?_ ?_ ?_
              ·
                refine ⟨?_, ?_, ?_, ?_, ?_, ?_, ?_⟩
                all_goals (first | rfl | (simp only [x_l47_TargetSwaps, seval, -Int.reduceToNat, hr1, hr2, hr4, q8a, q8b, q10a, q10b, q12a, q12b, q12c, q12d, q12e, hr24, hr25, t9j3, t10j3, t11j3, t12j3, t15j3, t17j3, t96j3] <;> rfl))
              · rintro s19d t H e ⟨t9d, t10d, t11d, t12d, t15d, t17d, t19d⟩ c hh
                simp only [l47_TargetSwaps_L4] at hh
                try simp only [x_l47_TargetSwaps, seval, -Int.reduceToNat, hr1, hr2, hr4, q8a, q8b, q10a, q10b, q12a, q12b, q12c, q12d, q12e, hr24, hr25, t9d, t10d, t11d, t12d, t15d, t17d, t19d]
                refine tstC_br (fun hb50 => ?_) (fun hb50 => ?_)
                · replace hh := ite_t hb50 hh
                  try simp only [x_l47_TargetSwaps, seval, -Int.reduceToNat, hr1, hr2, hr4, q8a, q8b, q10a, q10b, q12a, q12b, q12c, q12d, q12e, hr24, hr25, t9d, t10d, t11d, t12d, t15d, t17d, t19d]
                  obtain ⟨o60, ho60, hh⟩ := bindS hh
                  refine runLoop_sim (fun s t H e => match s with | (s20f, s21f) => t 9 = .bool r1 ∧ t 10 = .int .i64 r4 ∧ t 11 = .int .i64 x7 ∧ t 12 = .int .i64 x9 ∧ t 15 = .sl false false r24.1.length (encL (eSl (eI .i64)) r24.1) ∧ t 17 = .sl false false r25.1.length (encL (eSl (eI .i64)) r25.1) ∧ t 19 = .int .i64 s19d ∧ t 20 = .bool s20f ∧ t 21 = .int .i64 s21f) (fun o x t H e => match o with | s20fx => x = .exit 4 ∧ t 9 = .bool r1 ∧ t 10 = .int .i64 r4 ∧ t 11 = .int .i64 x7 ∧ t 12 = .int .i64 x9 ∧ t 15 = .sl false false r24.1.length (encL (eSl (eI .i64)) r24.1) ∧ t 17 = .sl false false r25.1.length (encL (eSl (eI .i64)) r25.1) ∧ t 19 = .int .i64 s19d ∧ t 20 = .bool s20fx) ho60 ?_ ?_ ?_
                  ·
                    refine ⟨?_, ?_, ?_, ?_, ?_, ?_, ?_, ?_, ?_⟩
                    all_goals (first | rfl | (simp only [x_l47_TargetSwaps, seval, -Int.reduceToNat, hr1, hr2, hr4, q8a, q8b, q10a, q10b, q12a, q12b, q12c, q12d, q12e, hr24, hr25, t9d, t10d, t11d, t12d, t15d, t17d, t19d] <;> rfl))
                  · rintro ⟨s20f, s21f⟩ t H e ⟨t9f, t10f, t11f, t12f, t15f, t17f, t19f, t20f, t21f⟩ c hh
                    simp only [l47_TargetSwaps_L6] at hh
                    try simp only [x_l47_TargetSwaps, seval, -Int.reduceToNat, hr1, hr2, hr4, q8a, q8b, q10a, q10b, q12a, q12b, q12c, q12d, q12e, hr24, hr25, t9f, t10f, t11f, t12f, t15f, t17f, t19f, t20f, t21f]
                    refine tstC_br (fun hb61 => ?_) (fun hb61 => ?_)
                    · replace hh := ite_t hb61 hh
                      obtain ⟨x62, hx62, hh⟩ := bindS hh
                      have bx62 := idx_bd hx62
                      have ax62 := idx_enc (eSl (eI .i64)) hx62
                      have fx62 := idx_fit (eSl (eI .i64)) hx62
                      simp only [vmz] at ax62 fx62
                      skip
                      obtain ⟨r63, hr63, hh⟩ := bindS hh
                      obtain ⟨x64, hx64, hh⟩ := bindS hh
                      have bx64 := idx_bd hx64
                      have ax64 := idx_enc (eSl (eI .i64)) hx64
                      have fx64 := idx_fit (eSl (eI .i64)) hx64
                      simp only [vmz] at ax64 fx64
                      skip
                      obtain ⟨r65, hr65, hh⟩ := bindS hh
                      try simp only [x_l47_TargetSwaps, seval, -Int.reduceToNat, hr1, hr2, hr4, q8a, q8b, q10a, q10b, q12a, q12b, q12c, q12d, q12e, hr24, hr25, t9f, t10f, t11f, t12f, t15f, t17f, t19f, t20f, t21f, bx62, ax62, fx62, hr63, bx64, ax64, fx64, hr65]
                      refine tstO_br' (fun hb66 => ?_) (fun hb66 => ?_)
                      · replace hh := ite_t hb66 hh
                        cases hh
                        try simp only [x_l47_TargetSwaps, seval, -Int.reduceToNat, hr1, hr2, hr4, q8a, q8b, q10a, q10b, q12a, q12b, q12c, q12d, q12e, hr24, hr25, t9f, t10f, t11f, t12f, t15f, t17f, t19f, t20f, t21f, bx62, ax62, fx62, hr63, bx64, ax64, fx64, hr65]
                        rw [LK_normal]
                        refine ⟨_, rfl, ?_⟩
                        refine ⟨?_, ?_, ?_, ?_, ?_, ?_, ?_, ?_, ?_⟩
                        all_goals (first | rfl | (simp only [x_l47_TargetSwaps, seval, -Int.reduceToNat, hr1, hr2, hr4, q8a, q8b, q10a, q10b, q12a, q12b, q12c, q12d, q12e, hr24, hr25, t9f, t10f, t11f, t12f, t15f, t17f, t19f, t20f, t21f, bx62, ax62, fx62, hr63, bx64, ax64, fx64, hr65] <;> rfl))
                      · replace hh := ite_f hb66 hh
                        try simp only [x_l47_TargetSwaps, seval, -Int.reduceToNat, hr1, hr2, hr4, q8a, q8b, q10a, q10b, q12a, q12b, q12c, q12d, q12e, hr24, hr25, t9f, t10f, t11f, t12f, t15f, t17f, t19f, t20f, t21f, bx62, ax62, fx62, hr63, bx64, ax64, fx64, hr65]
                        refine tstO_br (fun hb67 => ?_) (fun hb67 => ?_)
                        · replace hh := ite_t hb67 hh
                          try simp only [x_l47_TargetSwaps, seval, -Int.reduceToNat, hr1, hr2, hr4, q8a, q8b, q10a, q10b, q12a, q12b, q12c, q12d, q12e, hr24, hr25, t9f, t10f, t11f, t12f, t15f, t17f, t19f, t20f, t21f, bx62, ax62, fx62, hr63, bx64, ax64, fx64, hr65]
                          refine tstO_br (fun hb68 => ?_) (fun hb68 => ?_)
                          · replace hh := ite_t hb68 hh
                            obtain ⟨r69, hr69, hh⟩ := bindS hh
                            cases hh
                            try simp only [x_l47_TargetSwaps, seval, -Int.reduceToNat, hr1, hr2, hr4, q8a, q8b, q10a, q10b, q12a, q12b, q12c, q12d, q12e, hr24, hr25, t9f, t10f, t11f, t12f, t15f, t17f, t19f, t20f, t21f, bx62, ax62, fx62, hr63, bx64, ax64, fx64, hr65, hr69]
                            rw [LK_normal]
                            refine ⟨_, rfl, ?_⟩
                            refine ⟨?_, ?_, ?_, ?_, ?_, ?_, ?_, ?_, ?_⟩
                            all_goals (first | rfl | (simp only [x_l47_TargetSwaps, seval, -Int.reduceToNat, hr1, hr2, hr4, q8a, q8b, q10a, q10b, q12a, q12b, q12c, q12d, q12e, hr24, hr25, t9f, t10f, t11f, t12f, t15f, t17f, t19f, t20f, t21f, bx62, ax62, fx62, hr63, bx64, ax64, fx64, hr65, hr69] <;> rfl))
                          · replace hh := ite_f hb68 hh
                            cases hh
                            try simp only [x_l47_TargetSwaps, seval, -Int.reduceToNat, hr1, hr2, hr4, q8a, q8b, q10a, q10b, q12a, q12b, q12c, q12d, q12e, hr24, hr25, t9f, t10f, t11f, t12f, t15f, t17f, t19f, t20f, t21f, bx62, ax62, fx62, hr63, bx64, ax64, fx64, hr65]
                            rw [LK_normal]
                            refine ⟨_, rfl, ?_⟩
                            refine ⟨?_, ?_, ?_, ?_, ?_, ?_, ?_, ?_, ?_⟩
                            all_goals (first | rfl | (simp only [x_l47_TargetSwaps, seval, -Int.reduceToNat, hr1, hr2, hr4, q8a, q8b, q10a, q10b, q12a, q12b, q12c, q12d, q12e, hr24, hr25, t9f, t10f, t11f, t12f, t15f, t17f, t19f, t20f, t21f, bx62, ax62, fx62, hr63, bx64, ax64, fx64, hr65] <;> rfl))
                        · replace hh := ite_f hb67 hh
                          cases hh
                          try simp only [x_l47_TargetSwaps, seval, -Int.reduceToNat, hr1, hr2, hr4, q8a, q8b, q10a, q10b, q12a, q12b, q12c, q12d, q12e, hr24, hr25, t9f, t10f, t11f, t12f, t15f, t17f, t19f, t20f, t21f, bx62, ax62, fx62, hr63, bx64, ax64, fx64, hr65]
                          rw [LK_normal]
                          refine ⟨_, rfl, ?_⟩
                          refine ⟨?_, ?_, ?_, ?_, ?_, ?_, ?_, ?_, ?_⟩
                          all_goals (first | rfl | (simp only [x_l47_TargetSwaps, seval, -Int.reduceToNat, hr1, hr2, hr4, q8a, q8b, q10a, q10b, q12a, q12b, q12c, q12d, q12e, hr24, hr25, t9f, t10f, t11f, t12f, t15f, t17f, t19f, t20f, t21f, bx62, ax62, fx62, hr63, bx64, ax64, fx64, hr65] <;> rfl))
                    · replace hh := ite_f hb61 hh
                      cases hh
                      try simp only [x_l47_TargetSwaps, seval, -Int.reduceToNat, hr1, hr2, hr4, q8a, q8b, q10a, q10b, q12a, q12b, q12c, q12d, q12e, hr24, hr25, t9f, t10f, t11f, t12f, t15f, t17f, t19f, t20f, t21f]
                      rw [LK_exit]
                      refine ⟨_, rfl, ?_⟩
                      refine ⟨rfl, ⟨?_, ?_, ?_, ?_, ?_, ?_, ?_, ?_⟩⟩
                      all_goals (first | rfl | (simp only [x_l47_TargetSwaps, seval, -Int.reduceToNat, hr1, hr2, hr4, q8a, q8b, q10a, q10b, q12a, q12b, q12c, q12d, q12e, hr24, hr25, t9f, t10f, t11f, t12f, t15f, t17f, t19f, t20f, t21f] <;> rfl))
                  · rintro x t H e hx
                    obtain ⟨s20fx, rfl⟩ : ∃ z, z = o60 := ⟨_, rfl⟩
                    dsimp only at hx hh
                    obtain ⟨rfl, ⟨t9fx, t10fx, t11fx, t12fx, t15fx, t17fx, t19fx, t20fx⟩⟩ := hx
                    try simp only [x_l47_TargetSwaps, seval, -Int.reduceToNat, hr1, hr2, hr4, q8a, q8b, q10a, q10b, q12a, q12b, q12c, q12d, q12e, hr24, hr25, t9fx, t10fx, t11fx, t12fx, t15fx, t17fx, t19fx, t20fx]
                    refine tstC_br (fun hb70 => ?_) (fun hb70 => ?_)
                    · replace hh := ite_t hb70 hh
                      cases hh
                      try simp only [x_l47_TargetSwaps, seval, -Int.reduceToNat, hr1, hr2, hr4, q8a, q8b, q10a, q10b, q12a, q12b, q12c, q12d, q12e, hr24, hr25, t9fx, t10fx, t11fx, t12fx, t15fx, t17fx, t19fx, t20fx]
                      rw [LK_ret]
                      refine ⟨_, rfl, ?_⟩
                      refine ⟨rfl, ?_⟩
                      try simp only [x_l47_TargetSwaps, seval, -Int.reduceToNat, hr1, hr2, hr4, q8a, q8b, q10a, q10b, q12a, q12b, q12c, q12d, q12e, hr24, hr25, t9fx, t10fx, t11fx, t12fx, t15fx, t17fx, t19fx, t20fx]
                    · replace hh := ite_f hb70 hh
                      cases hh
                      try simp only [x_l47_TargetSwaps, seval, -Int.reduceToNat, hr1, hr2, hr4, q8a, q8b, q10a, q10b, q12a, q12b, q12c, q12d, q12e, hr24, hr25, t9fx, t10fx, t11fx, t12fx, t15fx, t17fx, t19fx, t20fx]
                      rw [LK_normal]
                      refine ⟨_, rfl, ?_⟩
                      refine ⟨?_, ?_, ?_, ?_, ?_, ?_, ?_⟩
                      all_goals (first | rfl | (simp only [x_l47_TargetSwaps, seval, -Int.reduceToNat, hr1, hr2, hr4, q8a, q8b, q10a, q10b, q12a, q12b, q12c, q12d, q12e, hr24, hr25, t9fx, t10fx, t11fx, t12fx, t15fx, t17fx, t19fx, t20fx] <;> rfl))
                · replace hh := ite_f hb50 hh
                  cases hh
                  try simp only [x_l47_TargetSwaps, seval, -Int.reduceToNat, hr1, hr2, hr4, q8a, q8b, q10a, q10b, q12a, q12b, q12c, q12d, q12e, hr24, hr25, t9d, t10d, t11d, t12d, t15d, t17d, t19d]
                  rw [LK_exit]
                  refine ⟨_, rfl, ?_⟩
                  refine ⟨rfl, ?_⟩
                  all_goals (first | rfl | (simp only [x_l47_TargetSwaps, seval, -Int.reduceToNat, hr1, hr2, hr4, q8a, q8b, q10a, q10b, q12a, q12b, q12c, q12d, q12e, hr24, hr25, t9d, t10d, t11d, t12d, t15d, t17d, t19d] <;> rfl))
              · rintro x t H e hx
                rcases o49 with _ | rd
                ·
                  dsimp only at hx hh
                  obtain ⟨rfl, t9dx⟩ := hx
                  cases hh
                  try simp only [x_l47_TargetSwaps, seval, -Int.reduceToNat, hr1, hr2, hr4, q8a, q8b, q10a, q10b, q12a, q12b, q12c, q12d, q12e, hr24, hr25, t9dx]
                ·
                  dsimp only at hx hh
                  obtain ⟨rfl, hE⟩ := hx
                  cases hh
                  try simp only [runW_pass_ret, runW_pass_exit, runW_blk_ret, runW_nil, endW_ret]
                  exact hE
          ·
            clear hh
            have hh := ho26
            try simp only [x_l47_TargetSwaps, seval, -Int.reduceToNat, hr1, hr2, hr4, q8a, q8b, q10a, q10b, q12a, q12b, q12c, q12d, q12e, t0bx, t5bx, t9bx, t10bx, t11bx, t12bx, t13bx, H5bx, H13bx, hr24, hr25]
            refine tstO_br' (fun hb71 => ?_) (fun hb71 => ?_)
            · replace hh := ite_t hb71 hh
              cases hh
              try simp only [x_l47_TargetSwaps, seval, -Int.reduceToNat, hr1, hr2, hr4, q8a, q8b, q10a, q10b, q12a, q12b, q12c, q12d, q12e, t0bx, t5bx, t9bx, t10bx, t11bx, t12bx, t13bx, H5bx, H13bx, hr24, hr25]
              rw [CK_normal]
              refine ⟨_, rfl, ?_⟩
              refine ⟨?_, ?_, ?_, ?_, ?_, ?_, ?_⟩
              all_goals (first | rfl | (simp only [x_l47_TargetSwaps, seval, -Int.reduceToNat, hr1, hr2, hr4, q8a, q8b, q10a, q10b, q12a, q12b, q12c, q12d, q12e, t0bx, t5bx, t9bx, t10bx, t11bx, t12bx, t13bx, H5bx, H13bx, hr24, hr25] <;> rfl))
            · replace hh := ite_f hb71 hh
              cases hh
              try simp only [x_l47_TargetSwaps, seval, -Int.reduceToNat, hr1, hr2, hr4, q8a, q8b, q10a, q10b, q12a, q12b, q12c, q12d, q12e, t0bx, t5bx, t9bx, t10bx, t11bx, t12bx, t13bx, H5bx, H13bx, hr24, hr25]
              rw [CK_normal]
              refine ⟨_, rfl, ?_⟩
              refine ⟨?_, ?_, ?_, ?_, ?_, ?_, ?_⟩
              all_goals (first | rfl | (simp only [x_l47_TargetSwaps, seval, -Int.reduceToNat, hr1, hr2, hr4, q8a, q8b, q10a, q10b, q12a, q12b, q12c, q12d, q12e, t0bx, t5bx, t9bx, t10bx, t11bx, t12bx, t13bx, H5bx, H13bx, hr24, hr25] <;> rfl))
    ·
      clear hh
      have hh := ho5
      try simp only [x_l47_TargetSwaps, seval, -Int.reduceToNat, hr1, hr2, hr4]
      refine tstO_br' (fun hb72 => ?_) (fun hb72 => ?_)
      · replace hh := ite_t hb72 hh
        cases hh
        try simp only [x_l47_TargetSwaps, seval, -Int.reduceToNat, hr1, hr2, hr4]
        rw [CK_normal]
        refine ⟨_, rfl, ?_⟩
        refine ⟨0, ?_, ?_, ?_, ?_, ?_, ?_, ?_, ?_⟩
        all_goals (first | rfl | (simp only [x_l47_TargetSwaps, seval, -Int.reduceToNat, hr1, hr2, hr4] <;> rfl))
      · replace hh := ite_f hb72 hh
        try simp only [x_l47_TargetSwaps, seval, -Int.reduceToNat, hr1, hr2, hr4]
        refine tstO_br' (fun hb73 => ?_) (fun hb73 => ?_)
        · replace hh := ite_t hb73 hh
          cases hh
          try simp only [x_l47_TargetSwaps, seval, -Int.reduceToNat, hr1, hr2, hr4]
          rw [CK_normal]
          refine ⟨_, rfl, ?_⟩
          refine ⟨0, ?_, ?_, ?_, ?_, ?_, ?_, ?_, ?_⟩
          all_goals (first | rfl | (simp only [x_l47_TargetSwaps, seval, -Int.reduceToNat, hr1, hr2, hr4] <;> rfl))
        · replace hh := ite_f hb73 hh
          obtain ⟨x74, hx74, hh⟩ := bindS hh
          obtain ⟨q75a, q75b⟩ := shlI_ok hx74
          cases hh
          try simp only [x_l47_TargetSwaps, seval, -Int.reduceToNat, hr1, hr2, hr4, q75a, q75b]
          rw [CK_normal]
          refine ⟨_, rfl, ?_⟩
          refine ⟨0, ?_, ?_, ?_, ?_, ?_, ?_, ?_, ?_⟩
          all_goals (first | rfl | (simp only [x_l47_TargetSwaps, seval, -Int.reduceToNat, hr1, hr2, hr4, q75a, q75b] <;> rfl))

theorem ok_l47_TargetSwaps : COk Try.prog 6 G_l47_TargetSwaps := COk.of (mode := .clean) tok ge_l47_TargetSwaps mixed Try.func6 (by kernel_rfl) ⟨by kernel_rfl, by kernel_rfl⟩ (fun _ => Nat.le_of_ble_eq_true (by kernel_rfl)) (fun x r h => m_l47_TargetSwaps x.1 x.2.1 x.2.2.1 x.2.2.2 r h)

noncomputable def G_big_Neg := mkG (as1 (aAgg eTBig)) (fun x : TBig => big_Neg x) (fun r : TBig => .clean (.agg [.int .i64 r.f_Sign, .sl false false r.f_Digits.length (encL (eI .i64) r.f_Digits)]))

theorem q_big_Neg (p0_0 : Int) (p0_1 : (List Int)) : G_big_Neg none [.agg [.int .i64 p0_0, .sl false false p0_1.length (encL (eI .i64) p0_1)]] = (big_Neg (TBig.mk p0_0 p0_1)).map fun r : TBig => (.clean (.agg [.int .i64 r.f_Sign, .sl false false r.f_Digits.length (encL (eI .i64) r.f_Digits)]), none) := mkG_eq _ _ _ ((TBig.mk p0_0 p0_1))

noncomputable def g_big_Neg : Env := (Am.ext (Am.ext (Am.ext noEnv 41 false G_big_Right) 60 false G_slices_Clone) 62 false G_big_signed)

theorem ge_big_Neg : GOk Try.prog g_big_Neg := (((GOk.none.add ok_big_Right false).add ok_slices_Clone false).add ok_big_signed false)

theorem gg_big_Neg : g_big_Neg = (Am.ext (Am.ext (Am.ext noEnv 41 false G_big_Right) 60 false G_slices_Clone) 62 false G_big_signed) := Eq.trans rfl rfl

theorem x_big_Neg : type_of% (And.intro @w <| And.intro @q_big_Right <| And.intro @q_slices_Clone <| And.intro @q_big_signed <| @gg_big_Neg) := And.intro @w <| And.intro @q_big_Right <| And.intro @q_slices_Clone <| And.intro @q_big_signed <| @gg_big_Neg

theorem m_big_Neg (p0 : TBig) (r : TBig) (hh : big_Neg p0 = some r) : vfunc .clean tab g_big_Neg FU Try.f80 none [.agg [.int .i64 p0.f_Sign, .sl false false p0.f_Digits.length (encL (eI .i64) p0.f_Digits)]] = some (.clean (.agg [.int .i64 r.f_Sign, .sl false false r.f_Digits.length (encL (eI .i64) r.f_Digits)]), none) := by
  refine vfunc_of rfl Try.ntmps80 Try.results80 ?_
  unfold big_Neg at hh
  obtain ⟨r1, hr1, hh⟩ := bindS hh
  try simp only [x_big_Neg, seval, -Int.reduceToNat, hr1]
  refine tstC_br (fun hb2 => ?_) (fun hb2 => ?_)
  · replace hh := ite_t hb2 hh
    cases hh
    try simp only [x_big_Neg, seval, -Int.reduceToNat, hr1]
  · replace hh := ite_f hb2 hh
    obtain ⟨r3, hr3, hh⟩ := bindS hh
    obtain ⟨r4, hr4, hh⟩ := bindS hh
    try simp only [x_big_Neg, seval, -Int.reduceToNat, hr1, hr3, hr4]
    refine dyn_ok (by kernel_rfl) ?_
    cases hh
    try simp only [x_big_Neg, seval, -Int.reduceToNat, hr1, hr3, hr4]

theorem ok_big_Neg : COk Try.prog 80 G_big_Neg := COk.of (mode := .clean) tok ge_big_Neg mixed Try.func80 (by kernel_rfl) ⟨by kernel_rfl, by kernel_rfl⟩ (fun _ => Nat.le_of_ble_eq_true (by kernel_rfl)) (fun x r h => m_big_Neg x r h)

noncomputable def G_frac_slim := mkG (as1 (aAgg eTBig)) (fun x : TBig => frac_slim x) (fun r : TBig => .clean (.agg [.int .i64 r.f_Sign, .sl false false r.f_Digits.length (encL (eI .i64) r.f_Digits)]))

theorem q_frac_slim (p0_0 : Int) (p0_1 : (List Int)) : G_frac_slim none [.agg [.int .i64 p0_0, .sl false false p0_1.length (encL (eI .i64) p0_1)]] = (frac_slim (TBig.mk p0_0 p0_1)).map fun r : TBig => (.clean (.agg [.int .i64 r.f_Sign, .sl false false r.f_Digits.length (encL (eI .i64) r.f_Digits)]), none) := mkG_eq _ _ _ ((TBig.mk p0_0 p0_1))

noncomputable def g_frac_slim : Env := (Am.ext noEnv 80 false G_big_Neg)

theorem ge_frac_slim : GOk Try.prog g_frac_slim := (GOk.none.add ok_big_Neg false)

theorem gg_frac_slim : g_frac_slim = (Am.ext noEnv 80 false G_big_Neg) := Eq.trans rfl rfl

theorem x_frac_slim : type_of% (And.intro @w <| And.intro @q_big_Neg <| @gg_frac_slim) := And.intro @w <| And.intro @q_big_Neg <| @gg_frac_slim

theorem m_frac_slim (p0 : TBig) (r : TBig) (hh : frac_slim p0 = some r) : vfunc .clean tab g_frac_slim FU Try.f67 none [.agg [.int .i64 p0.f_Sign, .sl false false p0.f_Digits.length (encL (eI .i64) p0.f_Digits)]] = some (.clean (.agg [.int .i64 r.f_Sign, .sl false false r.f_Digits.length (encL (eI .i64) r.f_Digits)]), none) := by
  refine vfunc_of rfl Try.ntmps67 Try.results67 ?_
  unfold frac_slim at hh
  obtain ⟨r1, hr1, hh⟩ := bindS hh
  obtain ⟨r2, hr2, hh⟩ := bindS hh
  cases hh
  try simp only [x_frac_slim, seval, -Int.reduceToNat, hr1, hr2]

theorem ok_frac_slim : COk Try.prog 67 G_frac_slim := COk.of (mode := .clean) tok ge_frac_slim mixed Try.func67 (by kernel_rfl) ⟨by kernel_rfl, by kernel_rfl⟩ (fun _ => Nat.le_of_ble_eq_true (by kernel_rfl)) (fun x r h => m_frac_slim x r h)

noncomputable def G_frac_either := mkG (asC (aAgg eTFrac) (asC (aAgg eTFrac) (as1 (aI .i64)))) (fun x : TFrac × TFrac × Int => frac_either x.1 x.2.1 x.2.2) (fun r : TFrac × Int => .clean (.tup [.agg [.int .i64 r.1.f_P.f_Sign, .sl false false r.1.f_P.f_Digits.length (encL (eI .i64) r.1.f_P.f_Digits), .int .i64 r.1.f_Q.f_Sign, .sl false false r.1.f_Q.f_Digits.length (encL (eI .i64) r.1.f_Q.f_Digits)], .int .i64 r.2]))

theorem q_frac_either (p0_0 : Int) (p0_1 : (List Int)) (p0_2 : Int) (p0_3 : (List Int)) (p1_0 : Int) (p1_1 : (List Int)) (p1_2 : Int) (p1_3 : (List Int)) (p2 : Int) : G_frac_either none [.agg [.int .i64 p0_0, .sl false false p0_1.length (encL (eI .i64) p0_1), .int .i64 p0_2, .sl false false p0_3.length (encL (eI .i64) p0_3)], .agg [.int .i64 p1_0, .sl false false p1_1.length (encL (eI .i64) p1_1), .int .i64 p1_2, .sl false false p1_3.length (encL (eI .i64) p1_3)], .int .i64 p2] = (frac_either (TFrac.mk (TBig.mk p0_0 p0_1) (TBig.mk p0_2 p0_3)) (TFrac.mk (TBig.mk p1_0 p1_1) (TBig.mk p1_2 p1_3)) p2).map fun r : TFrac × Int => (.clean (.tup [.agg [.int .i64 r.1.f_P.f_Sign, .sl false false r.1.f_P.f_Digits.length (encL (eI .i64) r.1.f_P.f_Digits), .int .i64 r.1.f_Q.f_Sign, .sl false false r.1.f_Q.f_Digits.length (encL (eI .i64) r.1.f_Q.f_Digits)], .int .i64 r.2]), none) := mkG_eq _ _ _ ((TFrac.mk (TBig.mk p0_0 p0_1) (TBig.mk p0_2 p0_3)), (TFrac.mk (TBig.mk p1_0 p1_1) (TBig.mk p1_2 p1_3)), p2)

noncomputable def g_frac_either : Env := (Am.ext (Am.ext (Am.ext noEnv 20 false G_frac_Right) 21 false G_frac_Compare) 67 false G_frac_slim)

theorem ge_frac_either : GOk Try.prog g_frac_either := (((GOk.none.add ok_frac_Right false).add ok_frac_Compare false).add ok_frac_slim false)

theorem gg_frac_either : g_frac_either = (Am.ext (Am.ext (Am.ext noEnv 20 false G_frac_Right) 21 false G_frac_Compare) 67 false G_frac_slim) := Eq.trans rfl rfl

theorem x_frac_either : type_of% (And.intro @w <| And.intro @q_frac_Right <| And.intro @q_frac_Compare <| And.intro @q_frac_slim <| @gg_frac_either) := And.intro @w <| And.intro @q_frac_Right <| And.intro @q_frac_Compare <| And.intro @q_frac_slim <| @gg_frac_either

theorem m_frac_either (p0 : TFrac) (p1 : TFrac) (p2 : Int) (r : TFrac × Int) (hh : frac_either p0 p1 p2 = some r) : vfunc .clean tab g_frac_either FU Try.f46 none [.agg [.int .i64 p0.f_P.f_Sign, .sl false false p0.f_P.f_Digits.length (encL (eI .i64) p0.f_P.f_Digits), .int .i64 p0.f_Q.f_Sign, .sl false false p0.f_Q.f_Digits.length (encL (eI .i64) p0.f_Q.f_Digits)], .agg [.int .i64 p1.f_P.f_Sign, .sl false false p1.f_P.f_Digits.length (encL (eI .i64) p1.f_P.f_Digits), .int .i64 p1.f_Q.f_Sign, .sl false false p1.f_Q.f_Digits.length (encL (eI .i64) p1.f_Q.f_Digits)], .int .i64 p2] = some (.clean (.tup [.agg [.int .i64 r.1.f_P.f_Sign, .sl false false r.1.f_P.f_Digits.length (encL (eI .i64) r.1.f_P.f_Digits), .int .i64 r.1.f_Q.f_Sign, .sl false false r.1.f_Q.f_Digits.length (encL (eI .i64) r.1.f_Q.f_Digits)], .int .i64 r.2]), none) := by
  refine vfunc_of rfl Try.ntmps46 Try.results46 ?_
  unfold frac_either at hh
  obtain ⟨r1, hr1, hh⟩ := bindS hh
  try simp only [x_frac_either, seval, -Int.reduceToNat, hr1]
  obtain ⟨o2, ho2, hh⟩ := bindS hh
  refine tstO_cut 0 (fun s t H e => match s with | s15j1 => ∃ v3j1 : Nat, ∃ v4j1 : Nat, ∃ v6j1 : Nat, t 2 = .int .i64 p2 ∧ t 3 = .ptr 3 v3j1 0 ∧ t 4 = .ptr 4 v4j1 0 ∧ t 6 = .ptr 6 v6j1 0 ∧ t 15 = .bool s15j1 ∧ H 3 = some ⟨v3j1, 27, [.int .i64 p0.f_P.f_Sign, .sl false false p0.f_P.f_Digits.length (encL (eI .i64) p0.f_P.f_Digits), .int .i64 p0.f_Q.f_Sign, .sl false false p0.f_Q.f_Digits.length (encL (eI .i64) p0.f_Q.f_Digits)], false, false⟩ ∧ H 4 = some ⟨v4j1, 27, [.int .i64 p1.f_P.f_Sign, .sl false false p1.f_P.f_Digits.length (encL (eI .i64) p1.f_P.f_Digits), .int .i64 p1.f_Q.f_Sign, .sl false false p1.f_Q.f_Digits.length (encL (eI .i64) p1.f_Q.f_Digits)], false, false⟩ ∧ H 6 = some ⟨v6j1, 27, [.int .i64 0, .sl true true 0 [], .int .i64 0, .sl true true 0 []], false, false⟩) (fun s => s = o2) ?_ ?_
  · rintro s15j1 t H e ⟨v3j1, v4j1, v6j1, t2j1, t3j1, t4j1, t6j1, t15j1, H3j1, H4j1, H6j1⟩ rfl
    try dsimp only at hh
    try simp only [x_frac_either, seval, -Int.reduceToNat, hr1, t2j1, t3j1, t4j1, t6j1, t15j1, H3j1, H4j1, H6j1]
    refine tstC_br (fun hb3 => ?_) (fun hb3 => ?_)
    · replace hh := ite_t hb3 hh
      cases hh
      try simp only [x_frac_either, seval, -Int.reduceToNat, hr1, t2j1, t3j1, t4j1, t6j1, t15j1, H3j1, H4j1, H6j1]
    · replace hh := ite_f hb3 hh
      obtain ⟨r4, hr4, hh⟩ := bindS hh
      try simp only [x_frac_either, seval, -Int.reduceToNat, hr1, t2j1, t3j1, t4j1, t6j1, t15j1, H3j1, H4j1, H6j1, hr4]
      refine tstC_br (fun hb5 => ?_) (fun hb5 => ?_)
      · replace hh := ite_t hb5 hh
        obtain ⟨r6, hr6, hh⟩ := bindS hh
        obtain ⟨r7, hr7, hh⟩ := bindS hh
        try simp only [x_frac_either, seval, -Int.reduceToNat, hr1, t2j1, t3j1, t4j1, t6j1, t15j1, H3j1, H4j1, H6j1, hr4, hr6, hr7]
        refine dyn_ok (by kernel_rfl) ?_
        cases hh
        try simp only [x_frac_either, seval, -Int.reduceToNat, hr1, t2j1, t3j1, t4j1, t6j1, t15j1, H3j1, H4j1, H6j1, hr4, hr6, hr7]
      · replace hh := ite_f hb5 hh
        obtain ⟨r8, hr8, hh⟩ := bindS hh
        obtain ⟨r9, hr9, hh⟩ := bindS hh
        try simp only [x_frac_either, seval, -Int.reduceToNat, hr1, t2j1, t3j1, t4j1, t6j1, t15j1, H3j1, H4j1, H6j1, hr4, hr8, hr9]
        refine dyn_ok (by kernel_rfl) ?_
        cases hh
        try simp only [x_frac_either, seval, -Int.reduceToNat, hr1, t2j1, t3j1, t4j1, t6j1, t15j1, H3j1, H4j1, H6j1, hr4, hr8, hr9]
  ·
    clear hh
    have hh := ho2
    try simp only [x_frac_either, seval, -Int.reduceToNat, hr1]
    refine tstO_br' (fun hb10 => ?_) (fun hb10 => ?_)
    · replace hh := ite_t hb10 hh
      cases hh
      try simp only [x_frac_either, seval, -Int.reduceToNat, hr1]
      rw [CK_normal]
      refine ⟨_, rfl, ?_⟩
      refine ⟨0, 0, 0, ?_, ?_, ?_, ?_, ?_, ?_, ?_, ?_⟩
      all_goals (first | rfl | (simp only [x_frac_either, seval, -Int.reduceToNat, hr1] <;> rfl))
    · replace hh := ite_f hb10 hh
      obtain ⟨r11, hr11, hh⟩ := bindS hh
      cases hh
      try simp only [x_frac_either, seval, -Int.reduceToNat, hr1, hr11]
      rw [CK_normal]
      refine ⟨_, rfl, ?_⟩
      refine ⟨0, 0, 0, ?_, ?_, ?_, ?_, ?_, ?_, ?_, ?_⟩
      all_goals (first | rfl | (simp only [x_frac_either, seval, -Int.reduceToNat, hr1, hr11] <;> rfl))

theorem ok_frac_either : COk Try.prog 46 G_frac_either := COk.of (mode := .clean) tok ge_frac_either mixed Try.func46 (by kernel_rfl) ⟨by kernel_rfl, by kernel_rfl⟩ (fun _ => Nat.le_of_ble_eq_true (by kernel_rfl)) (fun x r h => m_frac_either x.1 x.2.1 x.2.2 r h)

noncomputable def G_frac_Min := mkG (asC (aAgg eTFrac) (as1 (aAgg eTFrac))) (fun x : TFrac × TFrac => frac_Min x.1 x.2) (fun r : TFrac × Int => .clean (.tup [.agg [.int .i64 r.1.f_P.f_Sign, .sl false false r.1.f_P.f_Digits.length (encL (eI .i64) r.1.f_P.f_Digits), .int .i64 r.1.f_Q.f_Sign, .sl false false r.1.f_Q.f_Digits.length (encL (eI .i64) r.1.f_Q.f_Digits)], .int .i64 r.2]))

theorem q_frac_Min (p0_0 : Int) (p0_1 : (List Int)) (p0_2 : Int) (p0_3 : (List Int)) (p1_0 : Int) (p1_1 : (List Int)) (p1_2 : Int) (p1_3 : (List Int)) : G_frac_Min none [.agg [.int .i64 p0_0, .sl false false p0_1.length (encL (eI .i64) p0_1), .int .i64 p0_2, .sl false false p0_3.length (encL (eI .i64) p0_3)], .agg [.int .i64 p1_0, .sl false false p1_1.length (encL (eI .i64) p1_1), .int .i64 p1_2, .sl false false p1_3.length (encL (eI .i64) p1_3)]] = (frac_Min (TFrac.mk (TBig.mk p0_0 p0_1) (TBig.mk p0_2 p0_3)) (TFrac.mk (TBig.mk p1_0 p1_1) (TBig.mk p1_2 p1_3))).map fun r : TFrac × Int => (.clean (.tup [.agg [.int .i64 r.1.f_P.f_Sign, .sl false false r.1.f_P.f_Digits.length (encL (eI .i64) r.1.f_P.f_Digits), .int .i64 r.1.f_Q.f_Sign, .sl false false r.1.f_Q.f_Digits.length (encL (eI .i64) r.1.f_Q.f_Digits)], .int .i64 r.2]), none) := mkG_eq _ _ _ ((TFrac.mk (TBig.mk p0_0 p0_1) (TBig.mk p0_2 p0_3)), (TFrac.mk (TBig.mk p1_0 p1_1) (TBig.mk p1_2 p1_3)))

noncomputable def g_frac_Min : Env := (Am.ext noEnv 46 false G_frac_either)

theorem ge_frac_Min : GOk Try.prog g_frac_Min := (GOk.none.add ok_frac_either false)

theorem gg_frac_Min : g_frac_Min = (Am.ext noEnv 46 false G_frac_either) := Eq.trans rfl rfl

theorem x_frac_Min : type_of% (And.intro @w <| And.intro @q_frac_either <| @gg_frac_Min) := And.intro @w <| And.intro @q_frac_either <| @gg_frac_Min

theorem m_frac_Min (p0 : TFrac) (p1 : TFrac) (r : TFrac × Int) (hh : frac_Min p0 p1 = some r) : vfunc .clean tab g_frac_Min FU Try.f26 none [.agg [.int .i64 p0.f_P.f_Sign, .sl false false p0.f_P.f_Digits.length (encL (eI .i64) p0.f_P.f_Digits), .int .i64 p0.f_Q.f_Sign, .sl false false p0.f_Q.f_Digits.length (encL (eI .i64) p0.f_Q.f_Digits)], .agg [.int .i64 p1.f_P.f_Sign, .sl false false p1.f_P.f_Digits.length (encL (eI .i64) p1.f_P.f_Digits), .int .i64 p1.f_Q.f_Sign, .sl false false p1.f_Q.f_Digits.length (encL (eI .i64) p1.f_Q.f_Digits)]] = some (.clean (.tup [.agg [.int .i64 r.1.f_P.f_Sign, .sl false false r.1.f_P.f_Digits.length (encL (eI .i64) r.1.f_P.f_Digits), .int .i64 r.1.f_Q.f_Sign, .sl false false r.1.f_Q.f_Digits.length (encL (eI .i64) r.1.f_Q.f_Digits)], .int .i64 r.2]), none) := by
  refine vfunc_of rfl Try.ntmps26 Try.results26 ?_
  unfold frac_Min at hh
  obtain ⟨r1, hr1, hh⟩ := bindS hh
  cases hh
  try simp only [x_frac_Min, seval, -Int.reduceToNat, hr1]

theorem ok_frac_Min : COk Try.prog 26 G_frac_Min := COk.of (mode := .clean) tok ge_frac_Min mixed Try.func26 (by kernel_rfl) ⟨by kernel_rfl, by kernel_rfl⟩ (fun _ => Nat.le_of_ble_eq_true (by kernel_rfl)) (fun x r h => m_frac_Min x.1 x.2 r h)
end Go.Proofs.Ytadpbhbkdnfbpaa.Am
