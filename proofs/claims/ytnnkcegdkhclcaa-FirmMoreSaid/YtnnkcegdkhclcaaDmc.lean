/- The machine computes the plain functions (written by wip/dec.py). -/
import Derived.Test.YtnnkcegdkhclcaaDmb
namespace Go.Proofs.Ytnnkcegdkhclcaa.Am
open Go.RowKit Go.Proofs.Ytnnkcegdkhclcaa.P
set_option maxRecDepth 100000
set_option maxHeartbeats 4000000
set_option linter.unusedSimpArgs false
set_option linter.unusedVariables false

noncomputable def G_l41_FirmMore := mkG (asC (aSl eTDeed) (asC (aI .u8) (asC (aAgg eTDeed) (asC (aI .i64) (as1 (aI .i64)))))) (fun x : (List TDeed) × Int × TDeed × Int × Int => l41_FirmMore x.1 x.2.1 x.2.2.1 x.2.2.2.1 x.2.2.2.2) (fun r : Bool => .clean (.bool r))

theorem q_l41_FirmMore (p0 : (List TDeed)) (p1 : Int) (p2_0 : Int) (p2_1 : Int) (p2_2 : Int) (p2_3 : (List Int)) (p3 : Int) (p4 : Int) : G_l41_FirmMore none [.sl false false p0.length (encL eTDeed p0), .int .u8 p1, .agg [.int .i64 p2_0, .int .i64 p2_1, .int .i64 p2_2, .sl false false p2_3.length (encL (eI .i64) p2_3)], .int .i64 p3, .int .i64 p4] = (l41_FirmMore p0 p1 (TDeed.mk p2_0 p2_1 p2_2 p2_3) p3 p4).map fun r : Bool => (.clean (.bool r), none) := mkG_eq _ _ _ (p0, p1, (TDeed.mk p2_0 p2_1 p2_2 p2_3), p3, p4)

noncomputable def g_l41_FirmMore : Env := (Am.ext (Am.ext (Am.ext (Am.ext (Am.ext (Am.ext noEnv 7 false G_l41_sane) 8 false G_r41_Few) 9 false G_firm_Check) 13 false G_r41_Same) 14 false G_firm_Answers) 17 false G_r41_Has)

theorem ge_l41_FirmMore : GOk Try.prog g_l41_FirmMore := ((((((GOk.none.add ok_l41_sane false).add ok_r41_Few false).add ok_firm_Check false).add ok_r41_Same false).add ok_firm_Answers false).add ok_r41_Has false)

theorem gg_l41_FirmMore : g_l41_FirmMore = (Am.ext (Am.ext (Am.ext (Am.ext (Am.ext (Am.ext noEnv 7 false G_l41_sane) 8 false G_r41_Few) 9 false G_firm_Check) 13 false G_r41_Same) 14 false G_firm_Answers) 17 false G_r41_Has) := Eq.trans rfl rfl

theorem x_l41_FirmMore : type_of% (And.intro @w <| And.intro @q_l41_sane <| And.intro @q_r41_Few <| And.intro @q_firm_Check <| And.intro @q_r41_Same <| And.intro @q_firm_Answers <| And.intro @q_r41_Has <| @gg_l41_FirmMore) := And.intro @w <| And.intro @q_l41_sane <| And.intro @q_r41_Few <| And.intro @q_firm_Check <| And.intro @q_r41_Same <| And.intro @q_firm_Answers <| And.intro @q_r41_Has <| @gg_l41_FirmMore

theorem m_l41_FirmMore (p0 : (List TDeed)) (p1 : Int) (p2 : TDeed) (p3 : Int) (p4 : Int) (r : Bool) (hh : l41_FirmMore p0 p1 p2 p3 p4 = some r) : vfunc .clean tab g_l41_FirmMore FU Try.f6 none [.sl false false p0.length (encL eTDeed p0), .int .u8 p1, .agg [.int .i64 p2.f_Kind, .int .i64 p2.f_Day, .int .i64 p2.f_House, .sl false false p2.f_Others.length (encL (eI .i64) p2.f_Others)], .int .i64 p3, .int .i64 p4] = some (.clean (.bool r), none) := by
  refine vfunc_of rfl Try.ntmps6 Try.results6 ?_
  unfold l41_FirmMore at hh
  obtain ⟨r1, hr1, hh⟩ := bindS hh
  obtain ⟨r2, hr2, hh⟩ := bindS hh
  try simp only [x_l41_FirmMore, seval, -Int.reduceToNat, hr1, hr2]
  obtain ⟨o3, ho3, hh⟩ := bindS hh
  refine tstO_cut 0 (fun s t H e => match s with | s40j1 => ∃ v7j1 : Nat, t 0 = .sl false false p0.length (encL eTDeed p0) ∧ t 1 = .int .u8 p1 ∧ t 3 = .int .i64 p3 ∧ t 4 = .int .i64 p4 ∧ t 7 = .ptr 7 v7j1 0 ∧ t 11 = .bool r1 ∧ t 40 = .bool s40j1 ∧ H 7 = some ⟨v7j1, 34, [.int .i64 p2.f_Kind, .int .i64 p2.f_Day, .int .i64 p2.f_House, .sl false false p2.f_Others.length (encL (eI .i64) p2.f_Others)], false, false, false⟩) (fun s => s = o3) ?_ ?_
  · rintro s40j1 t H e ⟨v7j1, t0j1, t1j1, t3j1, t4j1, t7j1, t11j1, t40j1, H7j1⟩ rfl
    try dsimp only at hh
    try simp only [x_l41_FirmMore, seval, -Int.reduceToNat, hr1, hr2, t0j1, t1j1, t3j1, t4j1, t7j1, t11j1, t40j1, H7j1]
    refine tstC_br (fun hb4 => ?_) (fun hb4 => ?_)
    · replace hh := ite_t hb4 hh
      cases hh
      try simp only [x_l41_FirmMore, seval, -Int.reduceToNat, hr1, hr2, t0j1, t1j1, t3j1, t4j1, t7j1, t11j1, t40j1, H7j1]
    · replace hh := ite_f hb4 hh
      try simp only [x_l41_FirmMore, seval, -Int.reduceToNat, hr1, hr2, t0j1, t1j1, t3j1, t4j1, t7j1, t11j1, t40j1, H7j1]
      obtain ⟨o5, ho5, hh⟩ := bindS hh
      refine tstC_cut 0 (fun s t H e => match s with | s12j2 => ∃ v7j2 : Nat, t 0 = .sl false false p0.length (encL eTDeed p0) ∧ t 3 = .int .i64 p3 ∧ t 4 = .int .i64 p4 ∧ t 7 = .ptr 7 v7j2 0 ∧ t 11 = .bool r1 ∧ t 12 = .int .i64 s12j2 ∧ H 7 = some ⟨v7j2, 34, [.int .i64 p2.f_Kind, .int .i64 p2.f_Day, .int .i64 p2.f_House, .sl false false p2.f_Others.length (encL (eI .i64) p2.f_Others)], false, false, false⟩) (fun s => s = o5) ?_ ?_
      · rintro s12j2 t H e ⟨v7j2, t0j2, t3j2, t4j2, t7j2, t11j2, t12j2, H7j2⟩ rfl
        try dsimp only at hh
        obtain ⟨x6, hx6, hh⟩ := bindS hh
        obtain ⟨q7a, q7b, q7c, q7d, q7e⟩ := slc_ln eTDeed hx6
        simp only [vmz] at q7e
        obtain ⟨x8, hx8, hh⟩ := bindS hh
        obtain ⟨q9a, q9b, q9c⟩ := app_nil hx8
        replace q9a := q9a.symm
        subst q9a
        obtain ⟨x10, hx10, hh⟩ := bindS hh
        obtain ⟨q11a, q11b, q11c, q11d, q11e⟩ := slc_nh eTDeed hx10
        simp only [vmz] at q11e
        have q11i := q7d
        have q11j := q7e
        try simp only [q11d] at q11i q11j
        obtain ⟨x12, hx12, hh⟩ := bindS hh
        obtain ⟨q13a, q13b, q13c, q13d⟩ := app_two eTDeed hx12
        try simp only [x_l41_FirmMore, seval, -Int.reduceToNat, hr1, hr2, t0j2, t3j2, t4j2, t7j2, t11j2, t12j2, H7j2, q7a, q7b, q7c, q7d, q7e, q9b, q9c, q11a, q11b, q11c, q11d, q11e, q11i, q11j, q13a, q13b, q13c, q13d]
        refine dyn_ok (by kernel_rfl) ?_
        obtain ⟨r14, hr14, hh⟩ := bindS hh
        obtain ⟨r15, hr15, hh⟩ := bindS hh
        try simp only [x_l41_FirmMore, seval, -Int.reduceToNat, hr1, hr2, t0j2, t3j2, t4j2, t7j2, t11j2, t12j2, H7j2, q7a, q7b, q7c, q7d, q7e, q9b, q9c, q11a, q11b, q11c, q11d, q11e, q11i, q11j, q13a, q13b, q13c, q13d, hr14, hr15]
        obtain ⟨o16, ho16, hh⟩ := bindS hh
        refine tstO_cut 0 (fun s t H e => match s with | s74j3 => ∃ v7j3 : Nat, t 0 = .sl false false p0.length (encL eTDeed p0) ∧ t 3 = .int .i64 p3 ∧ t 4 = .int .i64 p4 ∧ t 7 = .ptr 7 v7j3 0 ∧ t 11 = .bool r1 ∧ t 14 = .sl false false r14.length (encL (eI .i64) r14) ∧ t 74 = .bool s74j3 ∧ H 7 = some ⟨v7j3, 34, [.int .i64 p2.f_Kind, .int .i64 p2.f_Day, .int .i64 p2.f_House, .sl false false p2.f_Others.length (encL (eI .i64) p2.f_Others)], false, false, false⟩) (fun s => s = o16) ?_ ?_
        · rintro s74j3 t H e ⟨v7j3, t0j3, t3j3, t4j3, t7j3, t11j3, t14j3, t74j3, H7j3⟩ rfl
          try dsimp only at hh
          try simp only [x_l41_FirmMore, seval, -Int.reduceToNat, hr1, hr2, q7a, q7b, q7c, q7d, q7e, q9b, q9c, q11a, q11b, q11c, q11d, q11e, q11i, q11j, q13a, q13b, q13c, q13d, hr14, hr15, t0j3, t3j3, t4j3, t7j3, t11j3, t14j3, t74j3, H7j3]
          refine tstC_br (fun hb17 => ?_) (fun hb17 => ?_)
          · replace hh := ite_t hb17 hh
            cases hh
            try simp only [x_l41_FirmMore, seval, -Int.reduceToNat, hr1, hr2, q7a, q7b, q7c, q7d, q7e, q9b, q9c, q11a, q11b, q11c, q11d, q11e, q11i, q11j, q13a, q13b, q13c, q13d, hr14, hr15, t0j3, t3j3, t4j3, t7j3, t11j3, t14j3, t74j3, H7j3]
          · replace hh := ite_f hb17 hh
            obtain ⟨x18, hx18, hh⟩ := bindS hh
            obtain ⟨q19a, q19b, q19c⟩ := app_nil hx18
            replace q19a := q19a.symm
            subst q19a
            obtain ⟨x20, hx20, hh⟩ := bindS hh
            obtain ⟨q21a, q21b, q21c, q21d⟩ := app_one eTDeed hx20
            simp only [vmz] at q21b
            try simp only [x_l41_FirmMore, seval, -Int.reduceToNat, hr1, hr2, q7a, q7b, q7c, q7d, q7e, q9b, q9c, q11a, q11b, q11c, q11d, q11e, q11i, q11j, q13a, q13b, q13c, q13d, hr14, hr15, t0j3, t3j3, t4j3, t7j3, t11j3, t14j3, t74j3, H7j3, q19b, q19c, q21a, q21b, q21c, q21d]
            refine dyn_ok (by kernel_rfl) ?_
            obtain ⟨r22, hr22, hh⟩ := bindS hh
            try simp only [x_l41_FirmMore, seval, -Int.reduceToNat, hr1, hr2, q7a, q7b, q7c, q7d, q7e, q9b, q9c, q11a, q11b, q11c, q11d, q11e, q11i, q11j, q13a, q13b, q13c, q13d, hr14, hr15, t0j3, t3j3, t4j3, t7j3, t11j3, t14j3, t74j3, H7j3, q19b, q19c, q21a, q21b, q21c, q21d, hr22]
            refine tstC_br (fun hb23 => ?_) (fun hb23 => ?_)
            · replace hh := ite_t hb23 hh
              cases hh
              try simp only [x_l41_FirmMore, seval, -Int.reduceToNat, hr1, hr2, q7a, q7b, q7c, q7d, q7e, q9b, q9c, q11a, q11b, q11c, q11d, q11e, q11i, q11j, q13a, q13b, q13c, q13d, hr14, hr15, t0j3, t3j3, t4j3, t7j3, t11j3, t14j3, t74j3, H7j3, q19b, q19c, q21a, q21b, q21c, q21d, hr22]
            · replace hh := ite_f hb23 hh
              obtain ⟨r24, hr24, hh⟩ := bindS hh
              try simp only [x_l41_FirmMore, seval, -Int.reduceToNat, hr1, hr2, q7a, q7b, q7c, q7d, q7e, q9b, q9c, q11a, q11b, q11c, q11d, q11e, q11i, q11j, q13a, q13b, q13c, q13d, hr14, hr15, t0j3, t3j3, t4j3, t7j3, t11j3, t14j3, t74j3, H7j3, q19b, q19c, q21a, q21b, q21c, q21d, hr22, hr24]
              obtain ⟨o25, ho25, hh⟩ := bindS hh
              refine tstO_cut 0 (fun s t H e => match s with | s99j4 => ∃ v7j4 : Nat, t 0 = .sl false false p0.length (encL eTDeed p0) ∧ t 4 = .int .i64 p4 ∧ t 7 = .ptr 7 v7j4 0 ∧ t 11 = .bool r1 ∧ t 14 = .sl false false r14.length (encL (eI .i64) r14) ∧ t 16 = .sl false false r24.length (encL (eI .i64) r24) ∧ t 99 = .bool s99j4 ∧ H 7 = some ⟨v7j4, 34, [.int .i64 p2.f_Kind, .int .i64 p2.f_Day, .int .i64 p2.f_House, .sl false false p2.f_Others.length (encL (eI .i64) p2.f_Others)], false, false, false⟩) (fun s => s = o25) ?_ ?_
              · rintro s99j4 t H e ⟨v7j4, t0j4, t4j4, t7j4, t11j4, t14j4, t16j4, t99j4, H7j4⟩ rfl
                try dsimp only at hh
                try simp only [x_l41_FirmMore, seval, -Int.reduceToNat, hr1, hr2, q7a, q7b, q7c, q7d, q7e, q9b, q9c, q11a, q11b, q11c, q11d, q11e, q11i, q11j, q13a, q13b, q13c, q13d, hr14, hr15, q19b, q19c, q21a, q21b, q21c, q21d, hr22, hr24, t0j4, t4j4, t7j4, t11j4, t14j4, t16j4, t99j4, H7j4]
                refine tstC_br (fun hb26 => ?_) (fun hb26 => ?_)
                · replace hh := ite_t hb26 hh
                  try simp only [x_l41_FirmMore, seval, -Int.reduceToNat, hr1, hr2, q7a, q7b, q7c, q7d, q7e, q9b, q9c, q11a, q11b, q11c, q11d, q11e, q11i, q11j, q13a, q13b, q13c, q13d, hr14, hr15, q19b, q19c, q21a, q21b, q21c, q21d, hr22, hr24, t0j4, t4j4, t7j4, t11j4, t14j4, t16j4, t99j4, H7j4]
                  obtain ⟨o27, ho27, hh⟩ := bindS hh
                  refine tstO_cut 0 (fun s t H e => match s with | s10j5 => t 10 = .bool s10j5) (fun s => s = o27) ?_ ?_
                  · rintro s10j5 t H e t10j5 rfl
                    try dsimp only at hh
                    cases hh
                    try simp only [x_l41_FirmMore, seval, -Int.reduceToNat, hr1, hr2, q7a, q7b, q7c, q7d, q7e, q9b, q9c, q11a, q11b, q11c, q11d, q11e, q11i, q11j, q13a, q13b, q13c, q13d, hr14, hr15, q19b, q19c, q21a, q21b, q21c, q21d, hr22, hr24, t10j5]
                  ·
                    clear hh
                    have hh := ho27
                    try simp only [x_l41_FirmMore, seval, -Int.reduceToNat, hr1, hr2, q7a, q7b, q7c, q7d, q7e, q9b, q9c, q11a, q11b, q11c, q11d, q11e, q11i, q11j, q13a, q13b, q13c, q13d, hr14, hr15, q19b, q19c, q21a, q21b, q21c, q21d, hr22, hr24, t0j4, t4j4, t7j4, t11j4, t14j4, t16j4, t99j4, H7j4]
                    refine tstO_br (fun hb28 => ?_) (fun hb28 => ?_)
                    · replace hh := ite_t hb28 hh
                      obtain ⟨r29, hr29, hh⟩ := bindS hh
                      cases hh
                      try simp only [x_l41_FirmMore, seval, -Int.reduceToNat, hr1, hr2, q7a, q7b, q7c, q7d, q7e, q9b, q9c, q11a, q11b, q11c, q11d, q11e, q11i, q11j, q13a, q13b, q13c, q13d, hr14, hr15, q19b, q19c, q21a, q21b, q21c, q21d, hr22, hr24, t0j4, t4j4, t7j4, t11j4, t14j4, t16j4, t99j4, H7j4, hr29]
                      rw [CK_normal]
                      refine ⟨_, rfl, ?_⟩
                      refine ?_
                      all_goals (first | rfl | (simp only [x_l41_FirmMore, seval, -Int.reduceToNat, hr1, hr2, q7a, q7b, q7c, q7d, q7e, q9b, q9c, q11a, q11b, q11c, q11d, q11e, q11i, q11j, q13a, q13b, q13c, q13d, hr14, hr15, q19b, q19c, q21a, q21b, q21c, q21d, hr22, hr24, t0j4, t4j4, t7j4, t11j4, t14j4, t16j4, t99j4, H7j4, hr29] <;> rfl))
                    · replace hh := ite_f hb28 hh
                      cases hh
                      try simp only [x_l41_FirmMore, seval, -Int.reduceToNat, hr1, hr2, q7a, q7b, q7c, q7d, q7e, q9b, q9c, q11a, q11b, q11c, q11d, q11e, q11i, q11j, q13a, q13b, q13c, q13d, hr14, hr15, q19b, q19c, q21a, q21b, q21c, q21d, hr22, hr24, t0j4, t4j4, t7j4, t11j4, t14j4, t16j4, t99j4, H7j4]
                      rw [CK_normal]
                      refine ⟨_, rfl, ?_⟩
                      refine ?_
                      all_goals (first | rfl | (simp only [x_l41_FirmMore, seval, -Int.reduceToNat, hr1, hr2, q7a, q7b, q7c, q7d, q7e, q9b, q9c, q11a, q11b, q11c, q11d, q11e, q11i, q11j, q13a, q13b, q13c, q13d, hr14, hr15, q19b, q19c, q21a, q21b, q21c, q21d, hr22, hr24, t0j4, t4j4, t7j4, t11j4, t14j4, t16j4, t99j4, H7j4] <;> rfl))
                · replace hh := ite_f hb26 hh
                  try simp only [x_l41_FirmMore, seval, -Int.reduceToNat, hr1, hr2, q7a, q7b, q7c, q7d, q7e, q9b, q9c, q11a, q11b, q11c, q11d, q11e, q11i, q11j, q13a, q13b, q13c, q13d, hr14, hr15, q19b, q19c, q21a, q21b, q21c, q21d, hr22, hr24, t0j4, t4j4, t7j4, t11j4, t14j4, t16j4, t99j4, H7j4]
                  obtain ⟨o35, ho35, hh⟩ := bindS hh
                  refine runLoop_sim (fun s t H e => match s with | s17f => ∃ v7f : Nat, t 0 = .sl false false p0.length (encL eTDeed p0) ∧ t 4 = .int .i64 p4 ∧ t 7 = .ptr 7 v7f 0 ∧ t 11 = .bool r1 ∧ t 14 = .sl false false r14.length (encL (eI .i64) r14) ∧ t 16 = .sl false false r24.length (encL (eI .i64) r24) ∧ t 17 = .int .i64 s17f ∧ H 7 = some ⟨v7f, 34, [.int .i64 p2.f_Kind, .int .i64 p2.f_Day, .int .i64 p2.f_House, .sl false false p2.f_Others.length (encL (eI .i64) p2.f_Others)], false, false, false⟩) (fun o x t H e => match o with | (.inl _) => x = .exit 0 ∧ ∃ v7fx : Nat, t 0 = .sl false false p0.length (encL eTDeed p0) ∧ t 4 = .int .i64 p4 ∧ t 7 = .ptr 7 v7fx 0 ∧ t 11 = .bool r1 ∧ t 16 = .sl false false r24.length (encL (eI .i64) r24) ∧ H 7 = some ⟨v7fx, 34, [.int .i64 p2.f_Kind, .int .i64 p2.f_Day, .int .i64 p2.f_House, .sl false false p2.f_Others.length (encL (eI .i64) p2.f_Others)], false, false, false⟩ | (.inr r) => x = .ret ∧ endM .clean tab none [.tmp 10] ⟨t, H, e⟩ = some (.clean (.bool r), none)) ho35 ?_ ?_ ?_
                  ·
                    refine ⟨v7j4, ?_, ?_, ?_, ?_, ?_, ?_, ?_, ?_⟩
                    all_goals (first | rfl | (simp only [x_l41_FirmMore, seval, -Int.reduceToNat, hr1, hr2, q7a, q7b, q7c, q7d, q7e, q9b, q9c, q11a, q11b, q11c, q11d, q11e, q11i, q11j, q13a, q13b, q13c, q13d, hr14, hr15, q19b, q19c, q21a, q21b, q21c, q21d, hr22, hr24, t0j4, t4j4, t7j4, t11j4, t14j4, t16j4, t99j4, H7j4] <;> rfl))
                  · rintro s17f t H e ⟨v7f, t0f, t4f, t7f, t11f, t14f, t16f, t17f, H7f⟩ c hh
                    simp only [l41_FirmMore_L6] at hh
                    try simp only [x_l41_FirmMore, seval, -Int.reduceToNat, hr1, hr2, q7a, q7b, q7c, q7d, q7e, q9b, q9c, q11a, q11b, q11c, q11d, q11e, q11i, q11j, q13a, q13b, q13c, q13d, hr14, hr15, q19b, q19c, q21a, q21b, q21c, q21d, hr22, hr24, t0f, t4f, t7f, t11f, t14f, t16f, t17f, H7f]
                    refine tstC_br (fun hb36 => ?_) (fun hb36 => ?_)
                    · replace hh := ite_t hb36 hh
                      obtain ⟨x37, hx37, hh⟩ := bindS hh
                      have bx37 := idx_bd hx37
                      have ax37 := idx_enc (eI .i64) hx37
                      have fx37 := idx_fit (eI .i64) hx37
                      simp only [vmz] at ax37 fx37
                      skip
                      try simp only [x_l41_FirmMore, seval, -Int.reduceToNat, hr1, hr2, q7a, q7b, q7c, q7d, q7e, q9b, q9c, q11a, q11b, q11c, q11d, q11e, q11i, q11j, q13a, q13b, q13c, q13d, hr14, hr15, q19b, q19c, q21a, q21b, q21c, q21d, hr22, hr24, t0f, t4f, t7f, t11f, t14f, t16f, t17f, H7f, bx37, ax37, fx37]
                      refine tstP_br (fun hb38 => ?_) (fun hb38 => ?_)
                      · replace hh := ite_t hb38 hh
                        have bx37 := idx_bd hx37
                        have ax37 := idx_enc (eI .i64) hx37
                        have fx37 := idx_fit (eI .i64) hx37
                        simp only [vmz] at ax37 fx37
                        skip
                        obtain ⟨r39, hr39, hh⟩ := bindS hh
                        try simp only [x_l41_FirmMore, seval, -Int.reduceToNat, hr1, hr2, q7a, q7b, q7c, q7d, q7e, q9b, q9c, q11a, q11b, q11c, q11d, q11e, q11i, q11j, q13a, q13b, q13c, q13d, hr14, hr15, q19b, q19c, q21a, q21b, q21c, q21d, hr22, hr24, t0f, t4f, t7f, t11f, t14f, t16f, t17f, H7f, bx37, ax37, fx37, bx37, ax37, fx37, hr39]
                        refine dyn_ok (by kernel_rfl) ?_
                        try simp only [x_l41_FirmMore, seval, -Int.reduceToNat, hr1, hr2, q7a, q7b, q7c, q7d, q7e, q9b, q9c, q11a, q11b, q11c, q11d, q11e, q11i, q11j, q13a, q13b, q13c, q13d, hr14, hr15, q19b, q19c, q21a, q21b, q21c, q21d, hr22, hr24, t0f, t4f, t7f, t11f, t14f, t16f, t17f, H7f, bx37, ax37, fx37, bx37, ax37, fx37, hr39]
                        refine tstC_br (fun hb40 => ?_) (fun hb40 => ?_)
                        · replace hh := ite_t hb40 hh
                          cases hh
                          try simp only [x_l41_FirmMore, seval, -Int.reduceToNat, hr1, hr2, q7a, q7b, q7c, q7d, q7e, q9b, q9c, q11a, q11b, q11c, q11d, q11e, q11i, q11j, q13a, q13b, q13c, q13d, hr14, hr15, q19b, q19c, q21a, q21b, q21c, q21d, hr22, hr24, t0f, t4f, t7f, t11f, t14f, t16f, t17f, H7f, bx37, ax37, fx37, bx37, ax37, fx37, hr39]
                          rw [LK_ret]
                          refine ⟨_, rfl, ?_⟩
                          refine ⟨rfl, ?_⟩
                          try simp only [x_l41_FirmMore, seval, -Int.reduceToNat, hr1, hr2, q7a, q7b, q7c, q7d, q7e, q9b, q9c, q11a, q11b, q11c, q11d, q11e, q11i, q11j, q13a, q13b, q13c, q13d, hr14, hr15, q19b, q19c, q21a, q21b, q21c, q21d, hr22, hr24, t0f, t4f, t7f, t11f, t14f, t16f, t17f, H7f, bx37, ax37, fx37, bx37, ax37, fx37, hr39]
                        · replace hh := ite_f hb40 hh
                          cases hh
                          try simp only [x_l41_FirmMore, seval, -Int.reduceToNat, hr1, hr2, q7a, q7b, q7c, q7d, q7e, q9b, q9c, q11a, q11b, q11c, q11d, q11e, q11i, q11j, q13a, q13b, q13c, q13d, hr14, hr15, q19b, q19c, q21a, q21b, q21c, q21d, hr22, hr24, t0f, t4f, t7f, t11f, t14f, t16f, t17f, H7f, bx37, ax37, fx37, bx37, ax37, fx37, hr39]
                          rw [LK_normal]
                          refine ⟨_, rfl, ?_⟩
                          refine ⟨v7f, ?_, ?_, ?_, ?_, ?_, ?_, ?_, ?_⟩
                          all_goals (first | rfl | (simp only [x_l41_FirmMore, seval, -Int.reduceToNat, hr1, hr2, q7a, q7b, q7c, q7d, q7e, q9b, q9c, q11a, q11b, q11c, q11d, q11e, q11i, q11j, q13a, q13b, q13c, q13d, hr14, hr15, q19b, q19c, q21a, q21b, q21c, q21d, hr22, hr24, t0f, t4f, t7f, t11f, t14f, t16f, t17f, H7f, bx37, ax37, fx37, bx37, ax37, fx37, hr39] <;> rfl))
                      · replace hh := ite_f hb38 hh
                        try simp only [x_l41_FirmMore, seval, -Int.reduceToNat, hr1, hr2, q7a, q7b, q7c, q7d, q7e, q9b, q9c, q11a, q11b, q11c, q11d, q11e, q11i, q11j, q13a, q13b, q13c, q13d, hr14, hr15, q19b, q19c, q21a, q21b, q21c, q21d, hr22, hr24, t0f, t4f, t7f, t11f, t14f, t16f, t17f, H7f, bx37, ax37, fx37]
                        refine dyn_ok (by kernel_rfl) ?_
                        cases hh
                        try simp only [x_l41_FirmMore, seval, -Int.reduceToNat, hr1, hr2, q7a, q7b, q7c, q7d, q7e, q9b, q9c, q11a, q11b, q11c, q11d, q11e, q11i, q11j, q13a, q13b, q13c, q13d, hr14, hr15, q19b, q19c, q21a, q21b, q21c, q21d, hr22, hr24, t0f, t4f, t7f, t11f, t14f, t16f, t17f, H7f, bx37, ax37, fx37]
                        rw [LK_normal]
                        refine ⟨_, rfl, ?_⟩
                        refine ⟨v7f, ?_, ?_, ?_, ?_, ?_, ?_, ?_, ?_⟩
                        all_goals (first | rfl | (simp only [x_l41_FirmMore, seval, -Int.reduceToNat, hr1, hr2, q7a, q7b, q7c, q7d, q7e, q9b, q9c, q11a, q11b, q11c, q11d, q11e, q11i, q11j, q13a, q13b, q13c, q13d, hr14, hr15, q19b, q19c, q21a, q21b, q21c, q21d, hr22, hr24, t0f, t4f, t7f, t11f, t14f, t16f, t17f, H7f, bx37, ax37, fx37] <;> rfl))
                    · replace hh := ite_f hb36 hh
                      cases hh
                      try simp only [x_l41_FirmMore, seval, -Int.reduceToNat, hr1, hr2, q7a, q7b, q7c, q7d, q7e, q9b, q9c, q11a, q11b, q11c, q11d, q11e, q11i, q11j, q13a, q13b, q13c, q13d, hr14, hr15, q19b, q19c, q21a, q21b, q21c, q21d, hr22, hr24, t0f, t4f, t7f, t11f, t14f, t16f, t17f, H7f]
                      rw [LK_exit]
                      refine ⟨_, rfl, ?_⟩
                      refine ⟨rfl, ⟨v7f, ?_, ?_, ?_, ?_, ?_, ?_⟩⟩
                      all_goals (first | rfl | (simp only [x_l41_FirmMore, seval, -Int.reduceToNat, hr1, hr2, q7a, q7b, q7c, q7d, q7e, q9b, q9c, q11a, q11b, q11c, q11d, q11e, q11i, q11j, q13a, q13b, q13c, q13d, hr14, hr15, q19b, q19c, q21a, q21b, q21c, q21d, hr22, hr24, t0f, t4f, t7f, t11f, t14f, t16f, t17f, H7f] <;> rfl))
                  · rintro x t H e hx
                    rcases o35 with _ | rf
                    ·
                      dsimp only at hx hh
                      obtain ⟨rfl, ⟨v7fx, t0fx, t4fx, t7fx, t11fx, t16fx, H7fx⟩⟩ := hx
                      try simp only [x_l41_FirmMore, seval, -Int.reduceToNat, hr1, hr2, q7a, q7b, q7c, q7d, q7e, q9b, q9c, q11a, q11b, q11c, q11d, q11e, q11i, q11j, q13a, q13b, q13c, q13d, hr14, hr15, q19b, q19c, q21a, q21b, q21c, q21d, hr22, hr24, t0fx, t4fx, t7fx, t11fx, t16fx, H7fx]
                      obtain ⟨o53, ho53, hh⟩ := bindS hh
                      refine runLoop_sim (fun s t H e => match s with | s18g => ∃ v7g : Nat, t 0 = .sl false false p0.length (encL eTDeed p0) ∧ t 4 = .int .i64 p4 ∧ t 7 = .ptr 7 v7g 0 ∧ t 11 = .bool r1 ∧ t 16 = .sl false false r24.length (encL (eI .i64) r24) ∧ t 18 = .int .i64 s18g ∧ H 7 = some ⟨v7g, 34, [.int .i64 p2.f_Kind, .int .i64 p2.f_Day, .int .i64 p2.f_House, .sl false false p2.f_Others.length (encL (eI .i64) p2.f_Others)], false, false, false⟩) (fun o x t H e => match o with | (.inl _) => x = .exit 2 ∧ ∃ v7gx : Nat, t 7 = .ptr 7 v7gx 0 ∧ t 11 = .bool r1 ∧ t 16 = .sl false false r24.length (encL (eI .i64) r24) ∧ H 7 = some ⟨v7gx, 34, [.int .i64 p2.f_Kind, .int .i64 p2.f_Day, .int .i64 p2.f_House, .sl false false p2.f_Others.length (encL (eI .i64) p2.f_Others)], false, false, false⟩ | (.inr r) => x = .ret ∧ endM .clean tab none [.tmp 10] ⟨t, H, e⟩ = some (.clean (.bool r), none)) ho53 ?_ ?_ ?_
                      ·
                        refine ⟨v7fx, ?_, ?_, ?_, ?_, ?_, ?_, ?_⟩
                        all_goals (first | rfl | (simp only [x_l41_FirmMore, seval, -Int.reduceToNat, hr1, hr2, q7a, q7b, q7c, q7d, q7e, q9b, q9c, q11a, q11b, q11c, q11d, q11e, q11i, q11j, q13a, q13b, q13c, q13d, hr14, hr15, q19b, q19c, q21a, q21b, q21c, q21d, hr22, hr24, t0fx, t4fx, t7fx, t11fx, t16fx, H7fx] <;> rfl))
                      · rintro s18g t H e ⟨v7g, t0g, t4g, t7g, t11g, t16g, t18g, H7g⟩ c hh
                        simp only [l41_FirmMore_L7] at hh
                        try simp only [x_l41_FirmMore, seval, -Int.reduceToNat, hr1, hr2, q7a, q7b, q7c, q7d, q7e, q9b, q9c, q11a, q11b, q11c, q11d, q11e, q11i, q11j, q13a, q13b, q13c, q13d, hr14, hr15, q19b, q19c, q21a, q21b, q21c, q21d, hr22, hr24, t0g, t4g, t7g, t11g, t16g, t18g, H7g]
                        refine tstC_br (fun hb54 => ?_) (fun hb54 => ?_)
                        · replace hh := ite_t hb54 hh
                          obtain ⟨x55, hx55, hh⟩ := bindS hh
                          have bx55 := idx_bd hx55
                          have ax55 := idx_enc (eI .i64) hx55
                          have fx55 := idx_fit (eI .i64) hx55
                          simp only [vmz] at ax55 fx55
                          skip
                          obtain ⟨r56, hr56, hh⟩ := bindS hh
                          try simp only [x_l41_FirmMore, seval, -Int.reduceToNat, hr1, hr2, q7a, q7b, q7c, q7d, q7e, q9b, q9c, q11a, q11b, q11c, q11d, q11e, q11i, q11j, q13a, q13b, q13c, q13d, hr14, hr15, q19b, q19c, q21a, q21b, q21c, q21d, hr22, hr24, t0g, t4g, t7g, t11g, t16g, t18g, H7g, bx55, ax55, fx55, hr56]
                          obtain ⟨o61, ho61, hh⟩ := bindS hh
                          refine runLoop_sim (fun s t H e => match s with | s20i => ∃ v7i : Nat, t 0 = .sl false false p0.length (encL eTDeed p0) ∧ t 4 = .int .i64 p4 ∧ t 7 = .ptr 7 v7i 0 ∧ t 11 = .bool r1 ∧ t 16 = .sl false false r24.length (encL (eI .i64) r24) ∧ t 18 = .int .i64 s18g ∧ t 19 = .sl false false r56.length (encL (eI .i64) r56) ∧ t 20 = .int .i64 s20i ∧ H 7 = some ⟨v7i, 34, [.int .i64 p2.f_Kind, .int .i64 p2.f_Day, .int .i64 p2.f_House, .sl false false p2.f_Others.length (encL (eI .i64) p2.f_Others)], false, false, false⟩) (fun o x t H e => match o with | (.inl _) => x = .exit 4 ∧ ∃ v7ix : Nat, t 0 = .sl false false p0.length (encL eTDeed p0) ∧ t 4 = .int .i64 p4 ∧ t 7 = .ptr 7 v7ix 0 ∧ t 11 = .bool r1 ∧ t 16 = .sl false false r24.length (encL (eI .i64) r24) ∧ t 18 = .int .i64 s18g ∧ H 7 = some ⟨v7ix, 34, [.int .i64 p2.f_Kind, .int .i64 p2.f_Day, .int .i64 p2.f_House, .sl false false p2.f_Others.length (encL (eI .i64) p2.f_Others)], false, false, false⟩ | (.inr r) => x = .ret ∧ endM .clean tab none [.tmp 10] ⟨t, H, e⟩ = some (.clean (.bool r), none)) ho61 ?_ ?_ ?_
                          ·
                            refine ⟨v7g, ?_, ?_, ?_, ?_, ?_, ?_, ?_, ?_, ?_⟩
                            all_goals (first | rfl | (simp only [x_l41_FirmMore, seval, -Int.reduceToNat, hr1, hr2, q7a, q7b, q7c, q7d, q7e, q9b, q9c, q11a, q11b, q11c, q11d, q11e, q11i, q11j, q13a, q13b, q13c, q13d, hr14, hr15, q19b, q19c, q21a, q21b, q21c, q21d, hr22, hr24, t0g, t4g, t7g, t11g, t16g, t18g, H7g, bx55, ax55, fx55, hr56] <;> rfl))
                          · rintro s20i t H e ⟨v7i, t0i, t4i, t7i, t11i, t16i, t18i, t19i, t20i, H7i⟩ c hh
                            simp only [l41_FirmMore_L9] at hh
                            try simp only [x_l41_FirmMore, seval, -Int.reduceToNat, hr1, hr2, q7a, q7b, q7c, q7d, q7e, q9b, q9c, q11a, q11b, q11c, q11d, q11e, q11i, q11j, q13a, q13b, q13c, q13d, hr14, hr15, q19b, q19c, q21a, q21b, q21c, q21d, hr22, hr24, bx55, ax55, fx55, hr56, t0i, t4i, t7i, t11i, t16i, t18i, t19i, t20i, H7i]
                            refine tstC_br (fun hb62 => ?_) (fun hb62 => ?_)
                            · replace hh := ite_t hb62 hh
                              obtain ⟨x63, hx63, hh⟩ := bindS hh
                              have bx63 := idx_bd hx63
                              have ax63 := idx_enc (eI .i64) hx63
                              have fx63 := idx_fit (eI .i64) hx63
                              simp only [vmz] at ax63 fx63
                              skip
                              obtain ⟨r64, hr64, hh⟩ := bindS hh
                              try simp only [x_l41_FirmMore, seval, -Int.reduceToNat, hr1, hr2, q7a, q7b, q7c, q7d, q7e, q9b, q9c, q11a, q11b, q11c, q11d, q11e, q11i, q11j, q13a, q13b, q13c, q13d, hr14, hr15, q19b, q19c, q21a, q21b, q21c, q21d, hr22, hr24, bx55, ax55, fx55, hr56, t0i, t4i, t7i, t11i, t16i, t18i, t19i, t20i, H7i, bx63, ax63, fx63, hr64]
                              refine tstC_br (fun hb65 => ?_) (fun hb65 => ?_)
                              · replace hh := ite_t hb65 hh
                                cases hh
                                try simp only [x_l41_FirmMore, seval, -Int.reduceToNat, hr1, hr2, q7a, q7b, q7c, q7d, q7e, q9b, q9c, q11a, q11b, q11c, q11d, q11e, q11i, q11j, q13a, q13b, q13c, q13d, hr14, hr15, q19b, q19c, q21a, q21b, q21c, q21d, hr22, hr24, bx55, ax55, fx55, hr56, t0i, t4i, t7i, t11i, t16i, t18i, t19i, t20i, H7i, bx63, ax63, fx63, hr64]
                                rw [LK_ret]
                                refine ⟨_, rfl, ?_⟩
                                refine ⟨rfl, ?_⟩
                                try simp only [x_l41_FirmMore, seval, -Int.reduceToNat, hr1, hr2, q7a, q7b, q7c, q7d, q7e, q9b, q9c, q11a, q11b, q11c, q11d, q11e, q11i, q11j, q13a, q13b, q13c, q13d, hr14, hr15, q19b, q19c, q21a, q21b, q21c, q21d, hr22, hr24, bx55, ax55, fx55, hr56, t0i, t4i, t7i, t11i, t16i, t18i, t19i, t20i, H7i, bx63, ax63, fx63, hr64]
                              · replace hh := ite_f hb65 hh
                                cases hh
                                try simp only [x_l41_FirmMore, seval, -Int.reduceToNat, hr1, hr2, q7a, q7b, q7c, q7d, q7e, q9b, q9c, q11a, q11b, q11c, q11d, q11e, q11i, q11j, q13a, q13b, q13c, q13d, hr14, hr15, q19b, q19c, q21a, q21b, q21c, q21d, hr22, hr24, bx55, ax55, fx55, hr56, t0i, t4i, t7i, t11i, t16i, t18i, t19i, t20i, H7i, bx63, ax63, fx63, hr64]
                                rw [LK_normal]
                                refine ⟨_, rfl, ?_⟩
                                refine ⟨v7i, ?_, ?_, ?_, ?_, ?_, ?_, ?_, ?_, ?_⟩
                                all_goals (first | rfl | (simp only [x_l41_FirmMore, seval, -Int.reduceToNat, hr1, hr2, q7a, q7b, q7c, q7d, q7e, q9b, q9c, q11a, q11b, q11c, q11d, q11e, q11i, q11j, q13a, q13b, q13c, q13d, hr14, hr15, q19b, q19c, q21a, q21b, q21c, q21d, hr22, hr24, bx55, ax55, fx55, hr56, t0i, t4i, t7i, t11i, t16i, t18i, t19i, t20i, H7i, bx63, ax63, fx63, hr64] <;> rfl))
                            · replace hh := ite_f hb62 hh
                              cases hh
                              try simp only [x_l41_FirmMore, seval, -Int.reduceToNat, hr1, hr2, q7a, q7b, q7c, q7d, q7e, q9b, q9c, q11a, q11b, q11c, q11d, q11e, q11i, q11j, q13a, q13b, q13c, q13d, hr14, hr15, q19b, q19c, q21a, q21b, q21c, q21d, hr22, hr24, bx55, ax55, fx55, hr56, t0i, t4i, t7i, t11i, t16i, t18i, t19i, t20i, H7i]
                              rw [LK_exit]
                              refine ⟨_, rfl, ?_⟩
                              refine ⟨rfl, ⟨v7i, ?_, ?_, ?_, ?_, ?_, ?_, ?_⟩⟩
                              all_goals (first | rfl | (simp only [x_l41_FirmMore, seval, -Int.reduceToNat, hr1, hr2, q7a, q7b, q7c, q7d, q7e, q9b, q9c, q11a, q11b, q11c, q11d, q11e, q11i, q11j, q13a, q13b, q13c, q13d, hr14, hr15, q19b, q19c, q21a, q21b, q21c, q21d, hr22, hr24, bx55, ax55, fx55, hr56, t0i, t4i, t7i, t11i, t16i, t18i, t19i, t20i, H7i] <;> rfl))
                          · rintro x t H e hx
                            rcases o61 with _ | ri
                            ·
                              dsimp only at hx hh
                              obtain ⟨rfl, ⟨v7ix, t0ix, t4ix, t7ix, t11ix, t16ix, t18ix, H7ix⟩⟩ := hx
                              cases hh
                              try simp only [x_l41_FirmMore, seval, -Int.reduceToNat, hr1, hr2, q7a, q7b, q7c, q7d, q7e, q9b, q9c, q11a, q11b, q11c, q11d, q11e, q11i, q11j, q13a, q13b, q13c, q13d, hr14, hr15, q19b, q19c, q21a, q21b, q21c, q21d, hr22, hr24, bx55, ax55, fx55, hr56, t0ix, t4ix, t7ix, t11ix, t16ix, t18ix, H7ix]
                              rw [LK_normal]
                              refine ⟨_, rfl, ?_⟩
                              refine ⟨v7ix, ?_, ?_, ?_, ?_, ?_, ?_, ?_⟩
                              all_goals (first | rfl | (simp only [x_l41_FirmMore, seval, -Int.reduceToNat, hr1, hr2, q7a, q7b, q7c, q7d, q7e, q9b, q9c, q11a, q11b, q11c, q11d, q11e, q11i, q11j, q13a, q13b, q13c, q13d, hr14, hr15, q19b, q19c, q21a, q21b, q21c, q21d, hr22, hr24, bx55, ax55, fx55, hr56, t0ix, t4ix, t7ix, t11ix, t16ix, t18ix, H7ix] <;> rfl))
                            ·
                              dsimp only at hx hh
                              obtain ⟨rfl, hE⟩ := hx
                              cases hh
                              try simp only [runW_pass_ret, runW_pass_exit, runW_blk_ret, runW_nil, endW_ret]
                              rw [LK_ret]
                              refine ⟨_, rfl, ?_⟩
                              first | exact ⟨rfl, hE⟩ | (simp only [x_l41_FirmMore, seval, -Int.reduceToNat] at hE; exact ⟨rfl, hE⟩)
                        · replace hh := ite_f hb54 hh
                          cases hh
                          try simp only [x_l41_FirmMore, seval, -Int.reduceToNat, hr1, hr2, q7a, q7b, q7c, q7d, q7e, q9b, q9c, q11a, q11b, q11c, q11d, q11e, q11i, q11j, q13a, q13b, q13c, q13d, hr14, hr15, q19b, q19c, q21a, q21b, q21c, q21d, hr22, hr24, t0g, t4g, t7g, t11g, t16g, t18g, H7g]
                          rw [LK_exit]
                          refine ⟨_, rfl, ?_⟩
                          refine ⟨rfl, ⟨v7g, ?_, ?_, ?_, ?_⟩⟩
                          all_goals (first | rfl | (simp only [x_l41_FirmMore, seval, -Int.reduceToNat, hr1, hr2, q7a, q7b, q7c, q7d, q7e, q9b, q9c, q11a, q11b, q11c, q11d, q11e, q11i, q11j, q13a, q13b, q13c, q13d, hr14, hr15, q19b, q19c, q21a, q21b, q21c, q21d, hr22, hr24, t0g, t4g, t7g, t11g, t16g, t18g, H7g] <;> rfl))
                      · rintro x t H e hx
                        rcases o53 with _ | rg
                        ·
                          dsimp only at hx hh
                          obtain ⟨rfl, ⟨v7gx, t7gx, t11gx, t16gx, H7gx⟩⟩ := hx
                          try simp only [x_l41_FirmMore, seval, -Int.reduceToNat, hr1, hr2, q7a, q7b, q7c, q7d, q7e, q9b, q9c, q11a, q11b, q11c, q11d, q11e, q11i, q11j, q13a, q13b, q13c, q13d, hr14, hr15, q19b, q19c, q21a, q21b, q21c, q21d, hr22, hr24, t7gx, t11gx, t16gx, H7gx]
                          refine tstO_br (fun hb66 => ?_) (fun hb66 => ?_)
                          · replace hh := ite_t hb66 hh
                            obtain ⟨r67, hr67, hh⟩ := bindS hh
                            cases hh
                            try simp only [x_l41_FirmMore, seval, -Int.reduceToNat, hr1, hr2, q7a, q7b, q7c, q7d, q7e, q9b, q9c, q11a, q11b, q11c, q11d, q11e, q11i, q11j, q13a, q13b, q13c, q13d, hr14, hr15, q19b, q19c, q21a, q21b, q21c, q21d, hr22, hr24, t7gx, t11gx, t16gx, H7gx, hr67]
                          · replace hh := ite_f hb66 hh
                            cases hh
                            try simp only [x_l41_FirmMore, seval, -Int.reduceToNat, hr1, hr2, q7a, q7b, q7c, q7d, q7e, q9b, q9c, q11a, q11b, q11c, q11d, q11e, q11i, q11j, q13a, q13b, q13c, q13d, hr14, hr15, q19b, q19c, q21a, q21b, q21c, q21d, hr22, hr24, t7gx, t11gx, t16gx, H7gx]
                        ·
                          dsimp only at hx hh
                          obtain ⟨rfl, hE⟩ := hx
                          cases hh
                          try simp only [runW_pass_ret, runW_pass_exit, runW_blk_ret, runW_nil, endW_ret]
                          exact hE
                    ·
                      dsimp only at hx hh
                      obtain ⟨rfl, hE⟩ := hx
                      cases hh
                      try simp only [runW_pass_ret, runW_pass_exit, runW_blk_ret, runW_nil, endW_ret]
                      exact hE
              ·
                clear hh
                have hh := ho25
                try simp only [x_l41_FirmMore, seval, -Int.reduceToNat, hr1, hr2, q7a, q7b, q7c, q7d, q7e, q9b, q9c, q11a, q11b, q11c, q11d, q11e, q11i, q11j, q13a, q13b, q13c, q13d, hr14, hr15, t0j3, t3j3, t4j3, t7j3, t11j3, t14j3, t74j3, H7j3, q19b, q19c, q21a, q21b, q21c, q21d, hr22, hr24]
                refine tstO_br' (fun hb68 => ?_) (fun hb68 => ?_)
                · replace hh := ite_t hb68 hh
                  cases hh
                  try simp only [x_l41_FirmMore, seval, -Int.reduceToNat, hr1, hr2, q7a, q7b, q7c, q7d, q7e, q9b, q9c, q11a, q11b, q11c, q11d, q11e, q11i, q11j, q13a, q13b, q13c, q13d, hr14, hr15, t0j3, t3j3, t4j3, t7j3, t11j3, t14j3, t74j3, H7j3, q19b, q19c, q21a, q21b, q21c, q21d, hr22, hr24]
                  rw [CK_normal]
                  refine ⟨_, rfl, ?_⟩
                  refine ⟨v7j3, ?_, ?_, ?_, ?_, ?_, ?_, ?_, ?_⟩
                  all_goals (first | rfl | (simp only [x_l41_FirmMore, seval, -Int.reduceToNat, hr1, hr2, q7a, q7b, q7c, q7d, q7e, q9b, q9c, q11a, q11b, q11c, q11d, q11e, q11i, q11j, q13a, q13b, q13c, q13d, hr14, hr15, t0j3, t3j3, t4j3, t7j3, t11j3, t14j3, t74j3, H7j3, q19b, q19c, q21a, q21b, q21c, q21d, hr22, hr24] <;> rfl))
                · replace hh := ite_f hb68 hh
                  obtain ⟨r69, hr69, hh⟩ := bindS hh
                  cases hh
                  try simp only [x_l41_FirmMore, seval, -Int.reduceToNat, hr1, hr2, q7a, q7b, q7c, q7d, q7e, q9b, q9c, q11a, q11b, q11c, q11d, q11e, q11i, q11j, q13a, q13b, q13c, q13d, hr14, hr15, t0j3, t3j3, t4j3, t7j3, t11j3, t14j3, t74j3, H7j3, q19b, q19c, q21a, q21b, q21c, q21d, hr22, hr24, hr69]
                  rw [CK_normal]
                  refine ⟨_, rfl, ?_⟩
                  refine ⟨v7j3, ?_, ?_, ?_, ?_, ?_, ?_, ?_, ?_⟩
                  all_goals (first | rfl | (simp only [x_l41_FirmMore, seval, -Int.reduceToNat, hr1, hr2, q7a, q7b, q7c, q7d, q7e, q9b, q9c, q11a, q11b, q11c, q11d, q11e, q11i, q11j, q13a, q13b, q13c, q13d, hr14, hr15, t0j3, t3j3, t4j3, t7j3, t11j3, t14j3, t74j3, H7j3, q19b, q19c, q21a, q21b, q21c, q21d, hr22, hr24, hr69] <;> rfl))
        ·
          clear hh
          have hh := ho16
          try simp only [x_l41_FirmMore, seval, -Int.reduceToNat, hr1, hr2, t0j2, t3j2, t4j2, t7j2, t11j2, t12j2, H7j2, q7a, q7b, q7c, q7d, q7e, q9b, q9c, q11a, q11b, q11c, q11d, q11e, q11i, q11j, q13a, q13b, q13c, q13d, hr14, hr15]
          refine tstO_br' (fun hb70 => ?_) (fun hb70 => ?_)
          · replace hh := ite_t hb70 hh
            cases hh
            try simp only [x_l41_FirmMore, seval, -Int.reduceToNat, hr1, hr2, t0j2, t3j2, t4j2, t7j2, t11j2, t12j2, H7j2, q7a, q7b, q7c, q7d, q7e, q9b, q9c, q11a, q11b, q11c, q11d, q11e, q11i, q11j, q13a, q13b, q13c, q13d, hr14, hr15]
            rw [CK_normal]
            refine ⟨_, rfl, ?_⟩
            refine ⟨v7j2, ?_, ?_, ?_, ?_, ?_, ?_, ?_, ?_⟩
            all_goals (first | rfl | (simp only [x_l41_FirmMore, seval, -Int.reduceToNat, hr1, hr2, t0j2, t3j2, t4j2, t7j2, t11j2, t12j2, H7j2, q7a, q7b, q7c, q7d, q7e, q9b, q9c, q11a, q11b, q11c, q11d, q11e, q11i, q11j, q13a, q13b, q13c, q13d, hr14, hr15] <;> rfl))
          · replace hh := ite_f hb70 hh
            obtain ⟨r71, hr71, hh⟩ := bindS hh
            obtain ⟨r72, hr72, hh⟩ := bindS hh
            cases hh
            try simp only [x_l41_FirmMore, seval, -Int.reduceToNat, hr1, hr2, t0j2, t3j2, t4j2, t7j2, t11j2, t12j2, H7j2, q7a, q7b, q7c, q7d, q7e, q9b, q9c, q11a, q11b, q11c, q11d, q11e, q11i, q11j, q13a, q13b, q13c, q13d, hr14, hr15, hr71, hr72]
            rw [CK_normal]
            refine ⟨_, rfl, ?_⟩
            refine ⟨v7j2, ?_, ?_, ?_, ?_, ?_, ?_, ?_, ?_⟩
            all_goals (first | rfl | (simp only [x_l41_FirmMore, seval, -Int.reduceToNat, hr1, hr2, t0j2, t3j2, t4j2, t7j2, t11j2, t12j2, H7j2, q7a, q7b, q7c, q7d, q7e, q9b, q9c, q11a, q11b, q11c, q11d, q11e, q11i, q11j, q13a, q13b, q13c, q13d, hr14, hr15, hr71, hr72] <;> rfl))
      ·
        clear hh
        have hh := ho5
        try simp only [x_l41_FirmMore, seval, -Int.reduceToNat, hr1, hr2, t0j1, t1j1, t3j1, t4j1, t7j1, t11j1, t40j1, H7j1]
        refine tstC_br (fun hb73 => ?_) (fun hb73 => ?_)
        · replace hh := ite_t hb73 hh
          obtain ⟨x74, hx74, hh⟩ := bindS hh
          obtain ⟨q75a, q75b⟩ := modI_ok hx74
          cases hh
          try simp only [x_l41_FirmMore, seval, -Int.reduceToNat, hr1, hr2, t0j1, t1j1, t3j1, t4j1, t7j1, t11j1, t40j1, H7j1, q75a, q75b]
          rw [CK_normal]
          refine ⟨_, rfl, ?_⟩
          refine ⟨v7j1, ?_, ?_, ?_, ?_, ?_, ?_, ?_⟩
          all_goals (first | rfl | (simp only [x_l41_FirmMore, seval, -Int.reduceToNat, hr1, hr2, t0j1, t1j1, t3j1, t4j1, t7j1, t11j1, t40j1, H7j1, q75a, q75b] <;> rfl))
        · replace hh := ite_f hb73 hh
          cases hh
          try simp only [x_l41_FirmMore, seval, -Int.reduceToNat, hr1, hr2, t0j1, t1j1, t3j1, t4j1, t7j1, t11j1, t40j1, H7j1]
          rw [CK_normal]
          refine ⟨_, rfl, ?_⟩
          refine ⟨v7j1, ?_, ?_, ?_, ?_, ?_, ?_, ?_⟩
          all_goals (first | rfl | (simp only [x_l41_FirmMore, seval, -Int.reduceToNat, hr1, hr2, t0j1, t1j1, t3j1, t4j1, t7j1, t11j1, t40j1, H7j1] <;> rfl))
  ·
    clear hh
    have hh := ho3
    try simp only [x_l41_FirmMore, seval, -Int.reduceToNat, hr1, hr2]
    refine tstO_br' (fun hb76 => ?_) (fun hb76 => ?_)
    · replace hh := ite_t hb76 hh
      cases hh
      try simp only [x_l41_FirmMore, seval, -Int.reduceToNat, hr1, hr2]
      rw [CK_normal]
      refine ⟨_, rfl, ?_⟩
      refine ⟨0, ?_, ?_, ?_, ?_, ?_, ?_, ?_, ?_⟩
      all_goals (first | rfl | (simp only [x_l41_FirmMore, seval, -Int.reduceToNat, hr1, hr2] <;> rfl))
    · replace hh := ite_f hb76 hh
      try simp only [x_l41_FirmMore, seval, -Int.reduceToNat, hr1, hr2]
      refine tstO_br' (fun hb77 => ?_) (fun hb77 => ?_)
      · replace hh := ite_t hb77 hh
        cases hh
        try simp only [x_l41_FirmMore, seval, -Int.reduceToNat, hr1, hr2]
        rw [CK_normal]
        refine ⟨_, rfl, ?_⟩
        refine ⟨0, ?_, ?_, ?_, ?_, ?_, ?_, ?_, ?_⟩
        all_goals (first | rfl | (simp only [x_l41_FirmMore, seval, -Int.reduceToNat, hr1, hr2] <;> rfl))
      · replace hh := ite_f hb77 hh
        try simp only [x_l41_FirmMore, seval, -Int.reduceToNat, hr1, hr2]
        refine tstO_br' (fun hb78 => ?_) (fun hb78 => ?_)
        · replace hh := ite_t hb78 hh
          cases hh
          try simp only [x_l41_FirmMore, seval, -Int.reduceToNat, hr1, hr2]
          rw [CK_normal]
          refine ⟨_, rfl, ?_⟩
          refine ⟨0, ?_, ?_, ?_, ?_, ?_, ?_, ?_, ?_⟩
          all_goals (first | rfl | (simp only [x_l41_FirmMore, seval, -Int.reduceToNat, hr1, hr2] <;> rfl))
        · replace hh := ite_f hb78 hh
          obtain ⟨r79, hr79, hh⟩ := bindS hh
          cases hh
          try simp only [x_l41_FirmMore, seval, -Int.reduceToNat, hr1, hr2, hr79]
          rw [CK_normal]
          refine ⟨_, rfl, ?_⟩
          refine ⟨0, ?_, ?_, ?_, ?_, ?_, ?_, ?_, ?_⟩
          all_goals (first | rfl | (simp only [x_l41_FirmMore, seval, -Int.reduceToNat, hr1, hr2, hr79] <;> rfl))

theorem ok_l41_FirmMore : COk Try.prog 6 G_l41_FirmMore := COk.of (mode := .clean) tok ge_l41_FirmMore mixed Try.func6 (by kernel_rfl) ⟨by kernel_rfl, by kernel_rfl⟩ (fun _ => Nat.le_of_ble_eq_true (by kernel_rfl)) (fun x r h => m_l41_FirmMore x.1 x.2.1 x.2.2.1 x.2.2.2.1 x.2.2.2.2 r h)
end Go.Proofs.Ytnnkcegdkhclcaa.Am
