/- The machine computes the plain functions (written by wip/dec.py). -/
import Derived.Test.YtadpbhbkdnfbpaaDma
namespace Go.Proofs.Ytadpbhbkdnfbpaa.Am
open Go.RowKit Go.Proofs.Ytadpbhbkdnfbpaa.P
set_option maxRecDepth 100000
set_option maxHeartbeats 4000000
set_option linter.unusedSimpArgs false
set_option linter.unusedVariables false

noncomputable def G_big_Compare := mkG (asC (aAgg eTBig) (as1 (aAgg eTBig))) (fun x : TBig × TBig => big_Compare x.1 x.2) (fun r : Int => .clean (.int .i64 r))

theorem q_big_Compare (p0_0 : Int) (p0_1 : (List Int)) (p1_0 : Int) (p1_1 : (List Int)) : G_big_Compare none [.agg [.int .i64 p0_0, .sl false false p0_1.length (encL (eI .i64) p0_1)], .agg [.int .i64 p1_0, .sl false false p1_1.length (encL (eI .i64) p1_1)]] = (big_Compare (TBig.mk p0_0 p0_1) (TBig.mk p1_0 p1_1)).map fun r : Int => (.clean (.int .i64 r), none) := mkG_eq _ _ _ ((TBig.mk p0_0 p0_1), (TBig.mk p1_0 p1_1))

noncomputable def g_big_Compare : Env := (Am.ext (Am.ext (Am.ext noEnv 41 false G_big_Right) 64 false G_cmp_Compare) 65 false G_big_compare)

theorem ge_big_Compare : GOk Try.prog g_big_Compare := (((GOk.none.add ok_big_Right false).add ok_cmp_Compare false).add ok_big_compare false)

theorem gg_big_Compare : g_big_Compare = (Am.ext (Am.ext (Am.ext noEnv 41 false G_big_Right) 64 false G_cmp_Compare) 65 false G_big_compare) := Eq.trans rfl rfl

theorem x_big_Compare : type_of% (And.intro @w <| And.intro @q_big_Right <| And.intro @q_cmp_Compare <| And.intro @q_big_compare <| @gg_big_Compare) := And.intro @w <| And.intro @q_big_Right <| And.intro @q_cmp_Compare <| And.intro @q_big_compare <| @gg_big_Compare

theorem m_big_Compare (p0 : TBig) (p1 : TBig) (r : Int) (hh : big_Compare p0 p1 = some r) : vfunc .clean tab g_big_Compare FU Try.f44 none [.agg [.int .i64 p0.f_Sign, .sl false false p0.f_Digits.length (encL (eI .i64) p0.f_Digits)], .agg [.int .i64 p1.f_Sign, .sl false false p1.f_Digits.length (encL (eI .i64) p1.f_Digits)]] = some (.clean (.int .i64 r), none) := by
  refine vfunc_of rfl Try.ntmps44 Try.results44 ?_
  unfold big_Compare at hh
  obtain ⟨r1, hr1, hh⟩ := bindS hh
  try simp only [x_big_Compare, seval, -Int.reduceToNat, hr1]
  obtain ⟨o2, ho2, hh⟩ := bindS hh
  refine tstO_cut 0 (fun s t H e => match s with | s12j1 => ∃ v2j1 : Nat, ∃ v3j1 : Nat, t 2 = .ptr 2 v2j1 0 ∧ t 3 = .ptr 3 v3j1 0 ∧ t 12 = .bool s12j1 ∧ H 2 = some ⟨v2j1, 25, [.int .i64 p0.f_Sign, .sl false false p0.f_Digits.length (encL (eI .i64) p0.f_Digits)], false, false⟩ ∧ H 3 = some ⟨v3j1, 25, [.int .i64 p1.f_Sign, .sl false false p1.f_Digits.length (encL (eI .i64) p1.f_Digits)], false, false⟩) (fun s => s = o2) ?_ ?_
  · rintro s12j1 t H e ⟨v2j1, v3j1, t2j1, t3j1, t12j1, H2j1, H3j1⟩ rfl
    try dsimp only at hh
    try simp only [x_big_Compare, seval, -Int.reduceToNat, hr1, t2j1, t3j1, t12j1, H2j1, H3j1]
    refine tstC_br (fun hb3 => ?_) (fun hb3 => ?_)
    · replace hh := ite_t hb3 hh
      cases hh
      try simp only [x_big_Compare, seval, -Int.reduceToNat, hr1, t2j1, t3j1, t12j1, H2j1, H3j1]
    · replace hh := ite_f hb3 hh
      try simp only [x_big_Compare, seval, -Int.reduceToNat, hr1, t2j1, t3j1, t12j1, H2j1, H3j1]
      refine tstC_br (fun hb4 => ?_) (fun hb4 => ?_)
      · replace hh := ite_t hb4 hh
        obtain ⟨r5, hr5, hh⟩ := bindS hh
        cases hh
        try simp only [x_big_Compare, seval, -Int.reduceToNat, hr1, t2j1, t3j1, t12j1, H2j1, H3j1, hr5]
      · replace hh := ite_f hb4 hh
        obtain ⟨r6, hr6, hh⟩ := bindS hh
        try simp only [x_big_Compare, seval, -Int.reduceToNat, hr1, t2j1, t3j1, t12j1, H2j1, H3j1, hr6]
        refine dyn_ok (by kernel_rfl) ?_
        cases hh
        try simp only [x_big_Compare, seval, -Int.reduceToNat, hr1, t2j1, t3j1, t12j1, H2j1, H3j1, hr6]
  ·
    clear hh
    have hh := ho2
    try simp only [x_big_Compare, seval, -Int.reduceToNat, hr1]
    refine tstO_br' (fun hb7 => ?_) (fun hb7 => ?_)
    · replace hh := ite_t hb7 hh
      cases hh
      try simp only [x_big_Compare, seval, -Int.reduceToNat, hr1]
      rw [CK_normal]
      refine ⟨_, rfl, ?_⟩
      refine ⟨0, 0, ?_, ?_, ?_, ?_, ?_⟩
      all_goals (first | rfl | (simp only [x_big_Compare, seval, -Int.reduceToNat, hr1] <;> rfl))
    · replace hh := ite_f hb7 hh
      obtain ⟨r8, hr8, hh⟩ := bindS hh
      cases hh
      try simp only [x_big_Compare, seval, -Int.reduceToNat, hr1, hr8]
      rw [CK_normal]
      refine ⟨_, rfl, ?_⟩
      refine ⟨0, 0, ?_, ?_, ?_, ?_, ?_⟩
      all_goals (first | rfl | (simp only [x_big_Compare, seval, -Int.reduceToNat, hr1, hr8] <;> rfl))

theorem ok_big_Compare : COk Try.prog 44 G_big_Compare := COk.of (mode := .clean) tok ge_big_Compare mixed Try.func44 (by kernel_rfl) ⟨by kernel_rfl, by kernel_rfl⟩ (fun _ => Nat.le_of_ble_eq_true (by kernel_rfl)) (fun x r h => m_big_Compare x.1 x.2 r h)

noncomputable def G_frac_Compare := mkG (asC (aAgg eTFrac) (as1 (aAgg eTFrac))) (fun x : TFrac × TFrac => frac_Compare x.1 x.2) (fun r : Int => .clean (.int .i64 r))

theorem q_frac_Compare (p0_0 : Int) (p0_1 : (List Int)) (p0_2 : Int) (p0_3 : (List Int)) (p1_0 : Int) (p1_1 : (List Int)) (p1_2 : Int) (p1_3 : (List Int)) : G_frac_Compare none [.agg [.int .i64 p0_0, .sl false false p0_1.length (encL (eI .i64) p0_1), .int .i64 p0_2, .sl false false p0_3.length (encL (eI .i64) p0_3)], .agg [.int .i64 p1_0, .sl false false p1_1.length (encL (eI .i64) p1_1), .int .i64 p1_2, .sl false false p1_3.length (encL (eI .i64) p1_3)]] = (frac_Compare (TFrac.mk (TBig.mk p0_0 p0_1) (TBig.mk p0_2 p0_3)) (TFrac.mk (TBig.mk p1_0 p1_1) (TBig.mk p1_2 p1_3))).map fun r : Int => (.clean (.int .i64 r), none) := mkG_eq _ _ _ ((TFrac.mk (TBig.mk p0_0 p0_1) (TBig.mk p0_2 p0_3)), (TFrac.mk (TBig.mk p1_0 p1_1) (TBig.mk p1_2 p1_3)))

noncomputable def g_frac_Compare : Env := (Am.ext (Am.ext (Am.ext noEnv 20 false G_frac_Right) 44 false G_big_Compare) 45 false G_frac_times)

theorem ge_frac_Compare : GOk Try.prog g_frac_Compare := (((GOk.none.add ok_frac_Right false).add ok_big_Compare false).add ok_frac_times false)

theorem gg_frac_Compare : g_frac_Compare = (Am.ext (Am.ext (Am.ext noEnv 20 false G_frac_Right) 44 false G_big_Compare) 45 false G_frac_times) := Eq.trans rfl rfl

theorem x_frac_Compare : type_of% (And.intro @w <| And.intro @q_frac_Right <| And.intro @q_big_Compare <| And.intro @q_frac_times <| @gg_frac_Compare) := And.intro @w <| And.intro @q_frac_Right <| And.intro @q_big_Compare <| And.intro @q_frac_times <| @gg_frac_Compare

theorem m_frac_Compare (p0 : TFrac) (p1 : TFrac) (r : Int) (hh : frac_Compare p0 p1 = some r) : vfunc .clean tab g_frac_Compare FU Try.f21 none [.agg [.int .i64 p0.f_P.f_Sign, .sl false false p0.f_P.f_Digits.length (encL (eI .i64) p0.f_P.f_Digits), .int .i64 p0.f_Q.f_Sign, .sl false false p0.f_Q.f_Digits.length (encL (eI .i64) p0.f_Q.f_Digits)], .agg [.int .i64 p1.f_P.f_Sign, .sl false false p1.f_P.f_Digits.length (encL (eI .i64) p1.f_P.f_Digits), .int .i64 p1.f_Q.f_Sign, .sl false false p1.f_Q.f_Digits.length (encL (eI .i64) p1.f_Q.f_Digits)]] = some (.clean (.int .i64 r), none) := by
  refine vfunc_of rfl Try.ntmps21 Try.results21 ?_
  unfold frac_Compare at hh
  obtain ⟨r1, hr1, hh⟩ := bindS hh
  try simp only [x_frac_Compare, seval, -Int.reduceToNat, hr1]
  obtain ⟨o2, ho2, hh⟩ := bindS hh
  refine tstO_cut 0 (fun s t H e => match s with | s12j1 => ∃ v2j1 : Nat, ∃ v3j1 : Nat, t 2 = .ptr 2 v2j1 0 ∧ t 3 = .ptr 3 v3j1 0 ∧ t 12 = .bool s12j1 ∧ H 2 = some ⟨v2j1, 27, [.int .i64 p0.f_P.f_Sign, .sl false false p0.f_P.f_Digits.length (encL (eI .i64) p0.f_P.f_Digits), .int .i64 p0.f_Q.f_Sign, .sl false false p0.f_Q.f_Digits.length (encL (eI .i64) p0.f_Q.f_Digits)], false, false⟩ ∧ H 3 = some ⟨v3j1, 27, [.int .i64 p1.f_P.f_Sign, .sl false false p1.f_P.f_Digits.length (encL (eI .i64) p1.f_P.f_Digits), .int .i64 p1.f_Q.f_Sign, .sl false false p1.f_Q.f_Digits.length (encL (eI .i64) p1.f_Q.f_Digits)], false, false⟩) (fun s => s = o2) ?_ ?_
  · rintro s12j1 t H e ⟨v2j1, v3j1, t2j1, t3j1, t12j1, H2j1, H3j1⟩ rfl
    try dsimp only at hh
    try simp only [x_frac_Compare, seval, -Int.reduceToNat, hr1, t2j1, t3j1, t12j1, H2j1, H3j1]
    refine tstC_br (fun hb3 => ?_) (fun hb3 => ?_)
    · replace hh := ite_t hb3 hh
      cases hh
      try simp only [x_frac_Compare, seval, -Int.reduceToNat, hr1, t2j1, t3j1, t12j1, H2j1, H3j1]
    · replace hh := ite_f hb3 hh
      obtain ⟨r4, hr4, hh⟩ := bindS hh
      obtain ⟨r5, hr5, hh⟩ := bindS hh
      obtain ⟨r6, hr6, hh⟩ := bindS hh
      try simp only [x_frac_Compare, seval, -Int.reduceToNat, hr1, t2j1, t3j1, t12j1, H2j1, H3j1, hr4, hr5, hr6]
      refine dyn_ok (by kernel_rfl) ?_
      cases hh
      try simp only [x_frac_Compare, seval, -Int.reduceToNat, hr1, t2j1, t3j1, t12j1, H2j1, H3j1, hr4, hr5, hr6]
  ·
    clear hh
    have hh := ho2
    try simp only [x_frac_Compare, seval, -Int.reduceToNat, hr1]
    refine tstO_br' (fun hb7 => ?_) (fun hb7 => ?_)
    · replace hh := ite_t hb7 hh
      cases hh
      try simp only [x_frac_Compare, seval, -Int.reduceToNat, hr1]
      rw [CK_normal]
      refine ⟨_, rfl, ?_⟩
      refine ⟨0, 0, ?_, ?_, ?_, ?_, ?_⟩
      all_goals (first | rfl | (simp only [x_frac_Compare, seval, -Int.reduceToNat, hr1] <;> rfl))
    · replace hh := ite_f hb7 hh
      obtain ⟨r8, hr8, hh⟩ := bindS hh
      cases hh
      try simp only [x_frac_Compare, seval, -Int.reduceToNat, hr1, hr8]
      rw [CK_normal]
      refine ⟨_, rfl, ?_⟩
      refine ⟨0, 0, ?_, ?_, ?_, ?_, ?_⟩
      all_goals (first | rfl | (simp only [x_frac_Compare, seval, -Int.reduceToNat, hr1, hr8] <;> rfl))

theorem ok_frac_Compare : COk Try.prog 21 G_frac_Compare := COk.of (mode := .clean) tok ge_frac_Compare mixed Try.func21 (by kernel_rfl) ⟨by kernel_rfl, by kernel_rfl⟩ (fun _ => Nat.le_of_ble_eq_true (by kernel_rfl)) (fun x r h => m_frac_Compare x.1 x.2 r h)

noncomputable def G_target_goal_reached := mkG (asC (aAgg eTgoal) (as1 (aI .i64))) (fun x : Tgoal × Int => target_goal_reached x.1 x.2) (fun r : Bool => .clean (.bool r))

theorem q_target_goal_reached (p0_0 : (List TFrac)) (p0_1 : Int) (p0_2 : (List Int)) (p0_3 : Int) (p0_4 : (List Int)) (p1 : Int) : G_target_goal_reached none [.agg [.sl false false p0_0.length (encL eTFrac p0_0), .int .i64 p0_1, .sl false false p0_2.length (encL (eI .i64) p0_2), .int .i64 p0_3, .sl false false p0_4.length (encL (eI .i64) p0_4)], .int .i64 p1] = (target_goal_reached (Tgoal.mk p0_0 (TFrac.mk (TBig.mk p0_1 p0_2) (TBig.mk p0_3 p0_4))) p1).map fun r : Bool => (.clean (.bool r), none) := mkG_eq _ _ _ ((Tgoal.mk p0_0 (TFrac.mk (TBig.mk p0_1 p0_2) (TBig.mk p0_3 p0_4))), p1)

noncomputable def g_target_goal_reached : Env := (Am.ext noEnv 21 false G_frac_Compare)

theorem ge_target_goal_reached : GOk Try.prog g_target_goal_reached := (GOk.none.add ok_frac_Compare false)

theorem gg_target_goal_reached : g_target_goal_reached = (Am.ext noEnv 21 false G_frac_Compare) := Eq.trans rfl rfl

theorem x_target_goal_reached : type_of% (And.intro @w <| And.intro @q_frac_Compare <| @gg_target_goal_reached) := And.intro @w <| And.intro @q_frac_Compare <| @gg_target_goal_reached

theorem m_target_goal_reached (p0 : Tgoal) (p1 : Int) (r : Bool) (hh : target_goal_reached p0 p1 = some r) : vfunc .clean tab g_target_goal_reached FU Try.f31 none [.agg [.sl false false p0.f_values.length (encL eTFrac p0.f_values), .int .i64 p0.f_target.f_P.f_Sign, .sl false false p0.f_target.f_P.f_Digits.length (encL (eI .i64) p0.f_target.f_P.f_Digits), .int .i64 p0.f_target.f_Q.f_Sign, .sl false false p0.f_target.f_Q.f_Digits.length (encL (eI .i64) p0.f_target.f_Q.f_Digits)], .int .i64 p1] = some (.clean (.bool r), none) := by
  refine vfunc_of rfl Try.ntmps31 Try.results31 ?_
  unfold target_goal_reached at hh
  obtain ⟨x1, hx1, hh⟩ := bindS hh
  have bx1 := idx_bd hx1
  have ax1 := idx_enc eTFrac hx1
  have fx1 := idx_fit eTFrac hx1
  simp only [vmz] at ax1 fx1
  skip
  obtain ⟨r2, hr2, hh⟩ := bindS hh
  try simp only [x_target_goal_reached, seval, -Int.reduceToNat, bx1, ax1, fx1, hr2]
  refine dyn_ok (by kernel_rfl) ?_
  cases hh
  try simp only [x_target_goal_reached, seval, -Int.reduceToNat, bx1, ax1, fx1, hr2]

theorem ok_target_goal_reached : COk Try.prog 31 G_target_goal_reached := COk.of (mode := .clean) tok ge_target_goal_reached mixed Try.func31 (by kernel_rfl) ⟨by kernel_rfl, by kernel_rfl⟩ (fun _ => Nat.le_of_ble_eq_true (by kernel_rfl)) (fun x r h => m_target_goal_reached x.1 x.2 r h)

noncomputable def G_target_list := mkG (as1 (aI .i64)) (fun x : Int => target_list x) (fun r : (List Int) => .clean (.sl false false r.length (encL (eI .i64) r)))

theorem q_target_list (p0 : Int) : G_target_list none [.int .i64 p0] = (target_list p0).map fun r : (List Int) => (.clean (.sl false false r.length (encL (eI .i64) r)), none) := mkG_eq _ _ _ (p0)

theorem m_target_list (p0 : Int) (r : (List Int)) (hh : target_list p0 = some r) : vfunc .clean tab noEnv FU Try.f48 none [.int .i64 p0] = some (.clean (.sl false false r.length (encL (eI .i64) r)), none) := by
  refine vfunc_of rfl Try.ntmps48 Try.results48 ?_
  unfold target_list at hh
  try simp only [w, seval, -Int.reduceToNat]
  obtain ⟨o7, ho7, hh⟩ := bindS hh
  refine runLoop_sim (fun s t H e => match s with | (s6a, l3a) => ∃ v3a : Nat, t 0 = .int .i64 p0 ∧ t 3 = .buf 3 v3a 1 0 (l3a).length ∧ t 6 = .int .i64 s6a ∧ H 3 = some ⟨v3a, 3, encL (eI .i64) l3a, false, true⟩) (fun o x t H e => match o with | l3ax => x = .exit 0 ∧ ∃ v3ax : Nat, t 3 = .buf 3 v3ax 1 0 (l3ax).length ∧ H 3 = some ⟨v3ax, 3, encL (eI .i64) l3ax, false, true⟩) ho7 ?_ ?_ ?_
  ·
    refine ⟨1, ?_, ?_, ?_, ?_⟩
    all_goals (first | rfl | (simp only [w, seval, -Int.reduceToNat] <;> rfl))
  · rintro ⟨s6a, l3a⟩ t H e ⟨v3a, t0a, t3a, t6a, H3a⟩ c hh
    simp only [target_list_L1] at hh
    try simp only [w, seval, -Int.reduceToNat, t0a, t3a, t6a, H3a]
    refine tstC_br (fun hb8 => ?_) (fun hb8 => ?_)
    · replace hh := ite_t hb8 hh
      obtain ⟨x9, hx9, hh⟩ := bindS hh
      obtain ⟨q10a, q10b⟩ := shrI_ok hx9
      try simp only [w, seval, -Int.reduceToNat, t0a, t3a, t6a, H3a, q10a, q10b]
      refine tstC_br (fun hb11 => ?_) (fun hb11 => ?_)
      · replace hh := ite_t hb11 hh
        obtain ⟨x12, hx12, hh⟩ := bindS hh
        obtain ⟨q13a, q13b, q13c, q13d⟩ := app_one (eI .i64) hx12
        simp only [vmz] at q13b
        cases hh
        try simp only [w, seval, -Int.reduceToNat, t0a, t3a, t6a, H3a, q10a, q10b, q13a, q13b, q13c, q13d]
        rw [LK_normal]
        refine ⟨_, rfl, ?_⟩
        refine ⟨e + 1 + 1 + 1, ?_, ?_, ?_, ?_⟩
        all_goals (first | rfl | (simp only [w, seval, -Int.reduceToNat, t0a, t3a, t6a, H3a, q10a, q10b, q13a, q13b, q13c, q13d] <;> rfl))
      · replace hh := ite_f hb11 hh
        cases hh
        try simp only [w, seval, -Int.reduceToNat, t0a, t3a, t6a, H3a, q10a, q10b]
        rw [LK_normal]
        refine ⟨_, rfl, ?_⟩
        refine ⟨v3a, ?_, ?_, ?_, ?_⟩
        all_goals (first | rfl | (simp only [w, seval, -Int.reduceToNat, t0a, t3a, t6a, H3a, q10a, q10b] <;> rfl))
    · replace hh := ite_f hb8 hh
      cases hh
      try simp only [w, seval, -Int.reduceToNat, t0a, t3a, t6a, H3a]
      rw [LK_exit]
      refine ⟨_, rfl, ?_⟩
      refine ⟨rfl, ⟨v3a, ?_, ?_⟩⟩
      all_goals (first | rfl | (simp only [w, seval, -Int.reduceToNat, t0a, t3a, t6a, H3a] <;> rfl))
  · rintro x t H e hx
    obtain ⟨l3ax, rfl⟩ : ∃ z, z = o7 := ⟨_, rfl⟩
    dsimp only at hx hh
    obtain ⟨rfl, ⟨v3ax, t3ax, H3ax⟩⟩ := hx
    cases hh
    try simp only [w, seval, -Int.reduceToNat, t3ax, H3ax]

theorem ok_target_list : COk Try.prog 48 G_target_list := COk.of (mode := .clean) tok GOk.none mixed Try.func48 (by kernel_rfl) ⟨by kernel_rfl, by kernel_rfl⟩ (fun _ => Nat.le_of_ble_eq_true (by kernel_rfl)) (fun x r h => m_target_list x r h)

noncomputable def G_slices_nextPowerOfTwo := mkG (as1 (aI .i64)) (fun x : Int => slices_nextPowerOfTwo x) (fun r : Int => .clean (.int .u64 r))

theorem q_slices_nextPowerOfTwo (p0 : Int) : G_slices_nextPowerOfTwo none [.int .i64 p0] = (slices_nextPowerOfTwo p0).map fun r : Int => (.clean (.int .u64 r), none) := mkG_eq _ _ _ (p0)

noncomputable def g_slices_nextPowerOfTwo : Env := (Am.ext noEnv 36 false G_math_bits_Len)

theorem ge_slices_nextPowerOfTwo : GOk Try.prog g_slices_nextPowerOfTwo := (GOk.none.add ok_math_bits_Len false)

theorem gg_slices_nextPowerOfTwo : g_slices_nextPowerOfTwo = (Am.ext noEnv 36 false G_math_bits_Len) := Eq.trans rfl rfl

theorem x_slices_nextPowerOfTwo : type_of% (And.intro @w <| And.intro @q_math_bits_Len <| @gg_slices_nextPowerOfTwo) := And.intro @w <| And.intro @q_math_bits_Len <| @gg_slices_nextPowerOfTwo

theorem m_slices_nextPowerOfTwo (p0 : Int) (r : Int) (hh : slices_nextPowerOfTwo p0 = some r) : vfunc .clean tab g_slices_nextPowerOfTwo FU Try.f94 none [.int .i64 p0] = some (.clean (.int .u64 r), none) := by
  refine vfunc_of rfl Try.ntmps94 Try.results94 ?_
  unfold slices_nextPowerOfTwo at hh
  obtain ⟨r1, hr1, hh⟩ := bindS hh
  obtain ⟨x2, hx2, hh⟩ := bindS hh
  obtain ⟨q3a, q3b⟩ := shlI_ok hx2
  cases hh
  try simp only [x_slices_nextPowerOfTwo, seval, -Int.reduceToNat, hr1, q3a, q3b]

theorem ok_slices_nextPowerOfTwo : COk Try.prog 94 G_slices_nextPowerOfTwo := COk.of (mode := .clean) tok ge_slices_nextPowerOfTwo mixed Try.func94 (by kernel_rfl) ⟨by kernel_rfl, by kernel_rfl⟩ (fun _ => Nat.le_of_ble_eq_true (by kernel_rfl)) (fun x r h => m_slices_nextPowerOfTwo x r h)

noncomputable def G_slices_Compare := mkG (asC (aSl (eI .i64)) (as1 (aSl (eI .i64)))) (fun x : (List Int) × (List Int) => slices_Compare x.1 x.2) (fun r : Int => .clean (.int .i64 r))

theorem q_slices_Compare (p0 : (List Int)) (p1 : (List Int)) : G_slices_Compare none [.sl false false p0.length (encL (eI .i64) p0), .sl false false p1.length (encL (eI .i64) p1)] = (slices_Compare p0 p1).map fun r : Int => (.clean (.int .i64 r), none) := mkG_eq _ _ _ (p0, p1)

noncomputable def g_slices_Compare : Env := (Am.ext noEnv 64 false G_cmp_Compare)

theorem ge_slices_Compare : GOk Try.prog g_slices_Compare := (GOk.none.add ok_cmp_Compare false)

theorem gg_slices_Compare : g_slices_Compare = (Am.ext noEnv 64 false G_cmp_Compare) := Eq.trans rfl rfl

theorem x_slices_Compare : type_of% (And.intro @w <| And.intro @q_cmp_Compare <| @gg_slices_Compare) := And.intro @w <| And.intro @q_cmp_Compare <| @gg_slices_Compare

theorem m_slices_Compare (p0 : (List Int)) (p1 : (List Int)) (r : Int) (hh : slices_Compare p0 p1 = some r) : vfunc .clean tab g_slices_Compare FU Try.f69 none [.sl false false p0.length (encL (eI .i64) p0), .sl false false p1.length (encL (eI .i64) p1)] = some (.clean (.int .i64 r), none) := by
  refine vfunc_of rfl Try.ntmps69 Try.results69 ?_
  unfold slices_Compare at hh
  try simp only [x_slices_Compare, seval, -Int.reduceToNat]
  obtain ⟨o7, ho7, hh⟩ := bindS hh
  refine runLoop_sim (fun s t H e => match s with | s11a => t 0 = .sl false false p0.length (encL (eI .i64) p0) ∧ t 1 = .sl false false p1.length (encL (eI .i64) p1) ∧ t 9 = .sl false false p0.length (encL (eI .i64) p0) ∧ t 10 = .int .i64 (p0.length : Int) ∧ t 11 = .int .i64 s11a) (fun o x t H e => match o with | (.inl _) => x = .exit 0 ∧ t 0 = .sl false false p0.length (encL (eI .i64) p0) ∧ t 1 = .sl false false p1.length (encL (eI .i64) p1) | (.inr r) => x = .ret ∧ endM .clean tab none [.tmp 4] ⟨t, H, e⟩ = some (.clean (.int .i64 r), none)) ho7 ?_ ?_ ?_
  ·
    refine ⟨?_, ?_, ?_, ?_, ?_⟩
    all_goals (first | rfl | (simp only [x_slices_Compare, seval, -Int.reduceToNat] <;> rfl))
  · rintro s11a t H e ⟨t0a, t1a, t9a, t10a, t11a⟩ c hh
    simp only [slices_Compare_L1] at hh
    try simp only [x_slices_Compare, seval, -Int.reduceToNat, t0a, t1a, t9a, t10a, t11a]
    refine tstC_br (fun hb8 => ?_) (fun hb8 => ?_)
    · replace hh := ite_t hb8 hh
      obtain ⟨x9, hx9, hh⟩ := bindS hh
      have bx9 := idx_bd hx9
      have ax9 := idx_enc (eI .i64) hx9
      have fx9 := idx_fit (eI .i64) hx9
      simp only [vmz] at ax9 fx9
      skip
      try simp only [x_slices_Compare, seval, -Int.reduceToNat, t0a, t1a, t9a, t10a, t11a, bx9, ax9, fx9]
      refine tstC_br (fun hb10 => ?_) (fun hb10 => ?_)
      · replace hh := ite_t hb10 hh
        cases hh
        try simp only [x_slices_Compare, seval, -Int.reduceToNat, t0a, t1a, t9a, t10a, t11a, bx9, ax9, fx9]
        rw [LK_ret]
        refine ⟨_, rfl, ?_⟩
        refine ⟨rfl, ?_⟩
        try simp only [x_slices_Compare, seval, -Int.reduceToNat, t0a, t1a, t9a, t10a, t11a, bx9, ax9, fx9]
      · replace hh := ite_f hb10 hh
        obtain ⟨x11, hx11, hh⟩ := bindS hh
        have bx11 := idx_bd hx11
        have ax11 := idx_enc (eI .i64) hx11
        have fx11 := idx_fit (eI .i64) hx11
        simp only [vmz] at ax11 fx11
        skip
        obtain ⟨r12, hr12, hh⟩ := bindS hh
        try simp only [x_slices_Compare, seval, -Int.reduceToNat, t0a, t1a, t9a, t10a, t11a, bx9, ax9, fx9, bx11, ax11, fx11, hr12]
        refine tstC_br (fun hb13 => ?_) (fun hb13 => ?_)
        · replace hh := ite_t hb13 hh
          cases hh
          try simp only [x_slices_Compare, seval, -Int.reduceToNat, t0a, t1a, t9a, t10a, t11a, bx9, ax9, fx9, bx11, ax11, fx11, hr12]
          rw [LK_ret]
          refine ⟨_, rfl, ?_⟩
          refine ⟨rfl, ?_⟩
          try simp only [x_slices_Compare, seval, -Int.reduceToNat, t0a, t1a, t9a, t10a, t11a, bx9, ax9, fx9, bx11, ax11, fx11, hr12]
        · replace hh := ite_f hb13 hh
          cases hh
          try simp only [x_slices_Compare, seval, -Int.reduceToNat, t0a, t1a, t9a, t10a, t11a, bx9, ax9, fx9, bx11, ax11, fx11, hr12]
          rw [LK_normal]
          refine ⟨_, rfl, ?_⟩
          refine ⟨?_, ?_, ?_, ?_, ?_⟩
          all_goals (first | rfl | (simp only [x_slices_Compare, seval, -Int.reduceToNat, t0a, t1a, t9a, t10a, t11a, bx9, ax9, fx9, bx11, ax11, fx11, hr12] <;> rfl))
    · replace hh := ite_f hb8 hh
      cases hh
      try simp only [x_slices_Compare, seval, -Int.reduceToNat, t0a, t1a, t9a, t10a, t11a]
      rw [LK_exit]
      refine ⟨_, rfl, ?_⟩
      refine ⟨rfl, ⟨?_, ?_⟩⟩
      all_goals (first | rfl | (simp only [x_slices_Compare, seval, -Int.reduceToNat, t0a, t1a, t9a, t10a, t11a] <;> rfl))
  · rintro x t H e hx
    rcases o7 with _ | ra
    ·
      dsimp only at hx hh
      obtain ⟨rfl, ⟨t0ax, t1ax⟩⟩ := hx
      try simp only [x_slices_Compare, seval, -Int.reduceToNat, t0ax, t1ax]
      refine tstC_br (fun hb14 => ?_) (fun hb14 => ?_)
      · replace hh := ite_t hb14 hh
        cases hh
        try simp only [x_slices_Compare, seval, -Int.reduceToNat, t0ax, t1ax]
      · replace hh := ite_f hb14 hh
        cases hh
        try simp only [x_slices_Compare, seval, -Int.reduceToNat, t0ax, t1ax]
    ·
      dsimp only at hx hh
      obtain ⟨rfl, hE⟩ := hx
      cases hh
      try simp only [runW_pass_ret, runW_pass_exit, runW_blk_ret, runW_nil, endW_ret]
      exact hE

theorem ok_slices_Compare : COk Try.prog 69 G_slices_Compare := COk.of (mode := .clean) tok ge_slices_Compare mixed Try.func69 (by kernel_rfl) ⟨by kernel_rfl, by kernel_rfl⟩ (fun _ => Nat.le_of_ble_eq_true (by kernel_rfl)) (fun x r h => m_slices_Compare x.1 x.2 r h)

noncomputable def G_target_compare := mkG (asC (aSl (eI .i64)) (as1 (aSl (eI .i64)))) (fun x : (List Int) × (List Int) => target_compare x.1 x.2) (fun r : Int => .clean (.int .i64 r))

theorem q_target_compare (p0 : (List Int)) (p1 : (List Int)) : G_target_compare none [.sl false false p0.length (encL (eI .i64) p0), .sl false false p1.length (encL (eI .i64) p1)] = (target_compare p0 p1).map fun r : Int => (.clean (.int .i64 r), none) := mkG_eq _ _ _ (p0, p1)

noncomputable def g_target_compare : Env := (Am.ext noEnv 69 false G_slices_Compare)

theorem ge_target_compare : GOk Try.prog g_target_compare := (GOk.none.add ok_slices_Compare false)

theorem gg_target_compare : g_target_compare = (Am.ext noEnv 69 false G_slices_Compare) := Eq.trans rfl rfl

theorem x_target_compare : type_of% (And.intro @w <| And.intro @q_slices_Compare <| @gg_target_compare) := And.intro @w <| And.intro @q_slices_Compare <| @gg_target_compare

theorem m_target_compare (p0 : (List Int)) (p1 : (List Int)) (r : Int) (hh : target_compare p0 p1 = some r) : vfunc .clean tab g_target_compare FU Try.f50 none [.sl false false p0.length (encL (eI .i64) p0), .sl false false p1.length (encL (eI .i64) p1)] = some (.clean (.int .i64 r), none) := by
  refine vfunc_of rfl Try.ntmps50 Try.results50 ?_
  unfold target_compare at hh
  try simp only [x_target_compare, seval, -Int.reduceToNat]
  refine tstC_br (fun hb1 => ?_) (fun hb1 => ?_)
  · replace hh := ite_t hb1 hh
    cases hh
    try simp only [x_target_compare, seval, -Int.reduceToNat]
  · replace hh := ite_f hb1 hh
    obtain ⟨r2, hr2, hh⟩ := bindS hh
    cases hh
    try simp only [x_target_compare, seval, -Int.reduceToNat, hr2]

theorem ok_target_compare : COk Try.prog 50 G_target_compare := COk.of (mode := .clean) tok ge_target_compare mixed Try.func50 (by kernel_rfl) ⟨by kernel_rfl, by kernel_rfl⟩ (fun _ => Nat.le_of_ble_eq_true (by kernel_rfl)) (fun x r h => m_target_compare x.1 x.2 r h)

noncomputable def G_slices_insertionSortCmpFunc_target_compare_w := mkW 23 (eSl (eI .i64)) (asC (aI .i64) (asC (aI .i64) (as1 (aFn 50)))) (fun (l : (List (List Int))) (x : Int × Int × Unit) => slices_insertionSortCmpFunc_target_compare_w l x.1 x.2.1) (fun r : Unit => .clean (.tup []))

theorem q_slices_insertionSortCmpFunc_target_compare_w (pre post : List D) (p0 : (List (List Int))) (p1 : Int) (p2 : Int) : G_slices_insertionSortCmpFunc_target_compare_w (some (.buf 0 0 1 pre.length p0.length, ⟨0, 23, pre ++ (encL (eSl (eI .i64)) p0 ++ post), false, true⟩)) [.int .i64 p1, .int .i64 p2, .fn 50] = (slices_insertionSortCmpFunc_target_compare_w p0 p1 p2).map fun r => (.clean (.tup []), some ⟨0, 23, pre ++ (encL (eSl (eI .i64)) r.1 ++ post), false, true⟩) := mkW_eq _ _ _ _ _ pre post p0 (p1, p2, ())

noncomputable def g_slices_insertionSortCmpFunc_target_compare_w : Env := (Am.ext noEnv 50 false G_target_compare)

theorem ge_slices_insertionSortCmpFunc_target_compare_w : GOk Try.prog g_slices_insertionSortCmpFunc_target_compare_w := (GOk.none.add ok_target_compare false)

theorem gg_slices_insertionSortCmpFunc_target_compare_w : g_slices_insertionSortCmpFunc_target_compare_w = (Am.ext noEnv 50 false G_target_compare) := Eq.trans rfl rfl

theorem x_slices_insertionSortCmpFunc_target_compare_w : type_of% (And.intro @w <| And.intro @q_target_compare <| @gg_slices_insertionSortCmpFunc_target_compare_w) := And.intro @w <| And.intro @q_target_compare <| @gg_slices_insertionSortCmpFunc_target_compare_w

theorem m_slices_insertionSortCmpFunc_target_compare_w (pre post : List D) (p0 : (List (List Int))) (p1 : Int) (p2 : Int) (r : (List (List Int)) × (Unit)) (hh : slices_insertionSortCmpFunc_target_compare_w p0 p1 p2 = some r) : vfunc .clean tab g_slices_insertionSortCmpFunc_target_compare_w FU Try.f81 (some (.buf 0 0 1 pre.length p0.length, ⟨0, 23, pre ++ (encL (eSl (eI .i64)) p0 ++ post), false, true⟩)) [.int .i64 p1, .int .i64 p2, .fn 50] = some (.clean (.tup []), some ⟨0, 23, pre ++ (encL (eSl (eI .i64)) r.1 ++ post), false, true⟩) := by
  refine vfunc_lent rfl Try.ntmps81 Try.results81 ?_
  unfold slices_insertionSortCmpFunc_target_compare_w at hh
  obtain ⟨rw, hrw, hh⟩ := bindS hh
  split at hh
  rotate_left
  · cases hh
  cases hh
  rename_i hlen
  replace hh := hrw
  unfold slices_insertionSortCmpFunc_target_compare_w_B at hh
  try simp only [x_slices_insertionSortCmpFunc_target_compare_w, seval, -Int.reduceToNat]
  obtain ⟨o25, ho25, hh⟩ := bindS hh
  refine runLoop_sim (fun s t H e => match s with | (s8a, l0a) => t 0 = .buf 0 0 1 pre.length (l0a).length ∧ t 1 = .int .i64 p1 ∧ t 2 = .int .i64 p2 ∧ t 3 = .fn 50 ∧ t 8 = .int .i64 s8a ∧ H 0 = some ⟨0, 23, pre ++ (encL (eSl (eI .i64)) l0a ++ post), false, true⟩) (fun o x t H e => match o with | l0ax => x = .exit 0 ∧ t 0 = .buf 0 0 1 pre.length (l0ax).length ∧ H 0 = some ⟨0, 23, pre ++ (encL (eSl (eI .i64)) l0ax ++ post), false, true⟩) ho25 ?_ ?_ ?_
  ·
    refine ⟨?_, ?_, ?_, ?_, ?_, ?_⟩
    all_goals (first | rfl | (simp only [x_slices_insertionSortCmpFunc_target_compare_w, seval, -Int.reduceToNat] <;> rfl))
  · rintro ⟨s8a, l0a⟩ t H e ⟨t0a, t1a, t2a, t3a, t8a, H0a⟩ c hh
    simp only [slices_insertionSortCmpFunc_target_compare_w_L1] at hh
    try simp only [x_slices_insertionSortCmpFunc_target_compare_w, seval, -Int.reduceToNat, t0a, t1a, t2a, t3a, t8a, H0a]
    refine tstC_br (fun hb26 => ?_) (fun hb26 => ?_)
    · replace hh := ite_t hb26 hh
      try simp only [x_slices_insertionSortCmpFunc_target_compare_w, seval, -Int.reduceToNat, t0a, t1a, t2a, t3a, t8a, H0a]
      obtain ⟨o38, ho38, hh⟩ := bindS hh
      refine runLoop_sim (fun s t H e => match s with | (s9e, l0e) => t 0 = .buf 0 0 1 pre.length (l0e).length ∧ t 1 = .int .i64 p1 ∧ t 2 = .int .i64 p2 ∧ t 3 = .fn 50 ∧ t 8 = .int .i64 s8a ∧ t 9 = .int .i64 s9e ∧ H 0 = some ⟨0, 23, pre ++ (encL (eSl (eI .i64)) l0e ++ post), false, true⟩) (fun o x t H e => match o with | l0ex => x = .exit 2 ∧ t 0 = .buf 0 0 1 pre.length (l0ex).length ∧ t 1 = .int .i64 p1 ∧ t 2 = .int .i64 p2 ∧ t 3 = .fn 50 ∧ t 8 = .int .i64 s8a ∧ H 0 = some ⟨0, 23, pre ++ (encL (eSl (eI .i64)) l0ex ++ post), false, true⟩) ho38 ?_ ?_ ?_
      ·
        refine ⟨?_, ?_, ?_, ?_, ?_, ?_, ?_⟩
        all_goals (first | rfl | (simp only [x_slices_insertionSortCmpFunc_target_compare_w, seval, -Int.reduceToNat, t0a, t1a, t2a, t3a, t8a, H0a] <;> rfl))
      · rintro ⟨s9e, l0e⟩ t H e ⟨t0e, t1e, t2e, t3e, t8e, t9e, H0e⟩ c hh
        simp only [slices_insertionSortCmpFunc_target_compare_w_L5] at hh
        try simp only [x_slices_insertionSortCmpFunc_target_compare_w, seval, -Int.reduceToNat, t0e, t1e, t2e, t3e, t8e, t9e, H0e]
        obtain ⟨o39, ho39, hh⟩ := bindS hh
        refine tstP_cut 0 (fun s t H e => match s with | s34j7 => t 0 = .buf 0 0 1 pre.length (l0e).length ∧ t 1 = .int .i64 p1 ∧ t 2 = .int .i64 p2 ∧ t 3 = .fn 50 ∧ t 8 = .int .i64 s8a ∧ t 9 = .int .i64 s9e ∧ t 34 = .bool s34j7 ∧ H 0 = some ⟨0, 23, pre ++ (encL (eSl (eI .i64)) l0e ++ post), false, true⟩) (fun s => s = o39) ?_ ?_
        · rintro s34j7 t H e ⟨t0j7, t1j7, t2j7, t3j7, t8j7, t9j7, t34j7, H0j7⟩ rfl
          try dsimp only at hh
          try simp only [x_slices_insertionSortCmpFunc_target_compare_w, seval, -Int.reduceToNat, t0j7, t1j7, t2j7, t3j7, t8j7, t9j7, t34j7, H0j7]
          refine tstC_br (fun hb40 => ?_) (fun hb40 => ?_)
          · replace hh := ite_t hb40 hh
            obtain ⟨x41, hx41, hh⟩ := bindS hh
            have bx41 := idx_bd hx41
            have ax41 := idxW_enc (pre := pre) (post := post) (eSl (eI .i64)) hx41
            have fx41 := idxW_fit (pre := pre) (post := post) (eSl (eI .i64)) hx41
            simp only [vmz] at ax41 fx41
            skip
            obtain ⟨x42, hx42, hh⟩ := bindS hh
            have bx42 := idx_bd hx42
            have ax42 := idxW_enc (pre := pre) (post := post) (eSl (eI .i64)) hx42
            have fx42 := idxW_fit (pre := pre) (post := post) (eSl (eI .i64)) hx42
            simp only [vmz] at ax42 fx42
            skip
            have bx42 := idx_bd hx42
            have ax42 := idxW_enc (pre := pre) (post := post) (eSl (eI .i64)) hx42
            have fx42 := idxW_fit (pre := pre) (post := post) (eSl (eI .i64)) hx42
            simp only [vmz] at ax42 fx42
            skip
            have p43 := putW_enc (pre := pre) (post := post) (eSl (eI .i64)) (y' := x41) hx42
            simp only [vmz] at p43
            have up43 := p43
            simp only [putCells, List.length_cons, List.length_nil, Nat.zero_add, Nat.reduceAdd] at up43
            obtain ⟨x44, hx44, hh⟩ := bindS hh
            have bx44 := idx_bd hx44
            have ax44 := idxW_enc (pre := pre) (post := post) (eSl (eI .i64)) hx44
            have fx44 := idxW_fit (pre := pre) (post := post) (eSl (eI .i64)) hx44
            simp only [vmz] at ax44 fx44
            simp only [List.length_set] at bx44 fx44
            have p45 := putW_enc (pre := pre) (post := post) (eSl (eI .i64)) (y' := x42) hx44
            simp only [vmz] at p45
            have up45 := p45
            simp only [putCells, List.length_cons, List.length_nil, Nat.zero_add, Nat.reduceAdd] at up45
            try simp only [x_slices_insertionSortCmpFunc_target_compare_w, seval, -Int.reduceToNat, t0j7, t1j7, t2j7, t3j7, t8j7, t9j7, t34j7, H0j7, bx41, ax41, fx41, bx42, ax42, fx42, bx42, ax42, fx42, p43, up43, bx44, ax44, fx44, p45, up45]
            refine dyn_ok (by kernel_rfl) ?_
            cases hh
            try simp only [x_slices_insertionSortCmpFunc_target_compare_w, seval, -Int.reduceToNat, t0j7, t1j7, t2j7, t3j7, t8j7, t9j7, t34j7, H0j7, bx41, ax41, fx41, bx42, ax42, fx42, bx42, ax42, fx42, p43, up43, bx44, ax44, fx44, p45, up45]
            rw [LK_normal]
            refine ⟨_, rfl, ?_⟩
            refine ⟨?_, ?_, ?_, ?_, ?_, ?_, ?_⟩
            all_goals (first | rfl | (simp only [x_slices_insertionSortCmpFunc_target_compare_w, seval, -Int.reduceToNat, t0j7, t1j7, t2j7, t3j7, t8j7, t9j7, t34j7, H0j7, bx41, ax41, fx41, bx42, ax42, fx42, bx42, ax42, fx42, p43, up43, bx44, ax44, fx44, p45, up45] <;> rfl))
          · replace hh := ite_f hb40 hh
            cases hh
            try simp only [x_slices_insertionSortCmpFunc_target_compare_w, seval, -Int.reduceToNat, t0j7, t1j7, t2j7, t3j7, t8j7, t9j7, t34j7, H0j7]
            rw [LK_exit]
            refine ⟨_, rfl, ?_⟩
            refine ⟨rfl, ⟨?_, ?_, ?_, ?_, ?_, ?_⟩⟩
            all_goals (first | rfl | (simp only [x_slices_insertionSortCmpFunc_target_compare_w, seval, -Int.reduceToNat, t0j7, t1j7, t2j7, t3j7, t8j7, t9j7, t34j7, H0j7] <;> rfl))
        ·
          clear hh
          have hh := ho39
          try simp only [x_slices_insertionSortCmpFunc_target_compare_w, seval, -Int.reduceToNat, t0e, t1e, t2e, t3e, t8e, t9e, H0e]
          refine tstP_br (fun hb46 => ?_) (fun hb46 => ?_)
          · replace hh := ite_t hb46 hh
            obtain ⟨x47, hx47, hh⟩ := bindS hh
            have bx47 := idx_bd hx47
            have ax47 := idxW_enc (pre := pre) (post := post) (eSl (eI .i64)) hx47
            have fx47 := idxW_fit (pre := pre) (post := post) (eSl (eI .i64)) hx47
            simp only [vmz] at ax47 fx47
            skip
            obtain ⟨x48, hx48, hh⟩ := bindS hh
            have bx48 := idx_bd hx48
            have ax48 := idxW_enc (pre := pre) (post := post) (eSl (eI .i64)) hx48
            have fx48 := idxW_fit (pre := pre) (post := post) (eSl (eI .i64)) hx48
            simp only [vmz] at ax48 fx48
            skip
            obtain ⟨r49, hr49, hh⟩ := bindS hh
            try simp only [x_slices_insertionSortCmpFunc_target_compare_w, seval, -Int.reduceToNat, t0e, t1e, t2e, t3e, t8e, t9e, H0e, bx47, ax47, fx47, bx48, ax48, fx48, hr49]
            refine dyn_ok (by kernel_rfl) ?_
            cases hh
            try simp only [x_slices_insertionSortCmpFunc_target_compare_w, seval, -Int.reduceToNat, t0e, t1e, t2e, t3e, t8e, t9e, H0e, bx47, ax47, fx47, bx48, ax48, fx48, hr49]
            rw [CK_normal]
            refine ⟨_, rfl, ?_⟩
            refine ⟨?_, ?_, ?_, ?_, ?_, ?_, ?_, ?_⟩
            all_goals (first | rfl | (simp only [x_slices_insertionSortCmpFunc_target_compare_w, seval, -Int.reduceToNat, t0e, t1e, t2e, t3e, t8e, t9e, H0e, bx47, ax47, fx47, bx48, ax48, fx48, hr49] <;> rfl))
          · replace hh := ite_f hb46 hh
            try simp only [x_slices_insertionSortCmpFunc_target_compare_w, seval, -Int.reduceToNat, t0e, t1e, t2e, t3e, t8e, t9e, H0e]
            refine dyn_ok (by kernel_rfl) ?_
            cases hh
            try simp only [x_slices_insertionSortCmpFunc_target_compare_w, seval, -Int.reduceToNat, t0e, t1e, t2e, t3e, t8e, t9e, H0e]
            rw [CK_normal]
            refine ⟨_, rfl, ?_⟩
            refine ⟨?_, ?_, ?_, ?_, ?_, ?_, ?_, ?_⟩
            all_goals (first | rfl | (simp only [x_slices_insertionSortCmpFunc_target_compare_w, seval, -Int.reduceToNat, t0e, t1e, t2e, t3e, t8e, t9e, H0e] <;> rfl))
      · rintro x t H e hx
        obtain ⟨l0ex, rfl⟩ : ∃ z, z = o38 := ⟨_, rfl⟩
        dsimp only at hx hh
        obtain ⟨rfl, ⟨t0ex, t1ex, t2ex, t3ex, t8ex, H0ex⟩⟩ := hx
        cases hh
        try simp only [x_slices_insertionSortCmpFunc_target_compare_w, seval, -Int.reduceToNat, t0ex, t1ex, t2ex, t3ex, t8ex, H0ex]
        rw [LK_normal]
        refine ⟨_, rfl, ?_⟩
        refine ⟨?_, ?_, ?_, ?_, ?_, ?_⟩
        all_goals (first | rfl | (simp only [x_slices_insertionSortCmpFunc_target_compare_w, seval, -Int.reduceToNat, t0ex, t1ex, t2ex, t3ex, t8ex, H0ex] <;> rfl))
    · replace hh := ite_f hb26 hh
      cases hh
      try simp only [x_slices_insertionSortCmpFunc_target_compare_w, seval, -Int.reduceToNat, t0a, t1a, t2a, t3a, t8a, H0a]
      rw [LK_exit]
      refine ⟨_, rfl, ?_⟩
      refine ⟨rfl, ⟨?_, ?_⟩⟩
      all_goals (first | rfl | (simp only [x_slices_insertionSortCmpFunc_target_compare_w, seval, -Int.reduceToNat, t0a, t1a, t2a, t3a, t8a, H0a] <;> rfl))
  · rintro x t H e hx
    obtain ⟨l0ax, rfl⟩ : ∃ z, z = o25 := ⟨_, rfl⟩
    dsimp only at hx hh
    obtain ⟨rfl, ⟨t0ax, H0ax⟩⟩ := hx
    cases hh
    try simp only [x_slices_insertionSortCmpFunc_target_compare_w, seval, -Int.reduceToNat, t0ax, H0ax]

theorem ok_slices_insertionSortCmpFunc_target_compare_w : COk Try.prog 81 G_slices_insertionSortCmpFunc_target_compare_w := COk.lentW (mode := .clean) tok ge_slices_insertionSortCmpFunc_target_compare_w mixed Try.func81 (by kernel_rfl) ⟨by kernel_rfl, by kernel_rfl⟩ (fun _ => Nat.le_of_ble_eq_true (by kernel_rfl)) (fun pre post l x l' r h => m_slices_insertionSortCmpFunc_target_compare_w pre post l x.1 x.2.1 (l', r) h)

noncomputable def G_slices_pdqsortCmpFunc_target_compare_w := mkW 23 (eSl (eI .i64)) (asC (aI .i64) (asC (aI .i64) (asC (aI .i64) (as1 (aFn 50))))) (fun (l : (List (List Int))) (x : Int × Int × Int × Unit) => slices_pdqsortCmpFunc_target_compare_w l x.1 x.2.1 x.2.2.1) (fun r : Unit => .clean (.tup []))

theorem q_slices_pdqsortCmpFunc_target_compare_w (pre post : List D) (p0 : (List (List Int))) (p1 : Int) (p2 : Int) (p3 : Int) : G_slices_pdqsortCmpFunc_target_compare_w (some (.buf 0 0 1 pre.length p0.length, ⟨0, 23, pre ++ (encL (eSl (eI .i64)) p0 ++ post), false, true⟩)) [.int .i64 p1, .int .i64 p2, .int .i64 p3, .fn 50] = (slices_pdqsortCmpFunc_target_compare_w p0 p1 p2 p3).map fun r => (.clean (.tup []), some ⟨0, 23, pre ++ (encL (eSl (eI .i64)) r.1 ++ post), false, true⟩) := mkW_eq _ _ _ _ _ pre post p0 (p1, p2, p3, ())

noncomputable def g_slices_pdqsortCmpFunc_target_compare_w : Env := (Am.ext noEnv 81 true G_slices_insertionSortCmpFunc_target_compare_w)

theorem ge_slices_pdqsortCmpFunc_target_compare_w : GOk Try.prog g_slices_pdqsortCmpFunc_target_compare_w := (GOk.none.add ok_slices_insertionSortCmpFunc_target_compare_w true)

theorem gg_slices_pdqsortCmpFunc_target_compare_w : g_slices_pdqsortCmpFunc_target_compare_w = (Am.ext noEnv 81 true G_slices_insertionSortCmpFunc_target_compare_w) := Eq.trans rfl rfl

theorem x_slices_pdqsortCmpFunc_target_compare_w : type_of% (And.intro @w <| @gg_slices_pdqsortCmpFunc_target_compare_w) := And.intro @w <| @gg_slices_pdqsortCmpFunc_target_compare_w

theorem m_slices_pdqsortCmpFunc_target_compare_w (pre post : List D) (p0 : (List (List Int))) (p1 : Int) (p2 : Int) (p3 : Int) (r : (List (List Int)) × (Unit)) (hh : slices_pdqsortCmpFunc_target_compare_w p0 p1 p2 p3 = some r) : vfunc .clean tab g_slices_pdqsortCmpFunc_target_compare_w FU Try.f68 (some (.buf 0 0 1 pre.length p0.length, ⟨0, 23, pre ++ (encL (eSl (eI .i64)) p0 ++ post), false, true⟩)) [.int .i64 p1, .int .i64 p2, .int .i64 p3, .fn 50] = some (.clean (.tup []), some ⟨0, 23, pre ++ (encL (eSl (eI .i64)) r.1 ++ post), false, true⟩) := by
  refine vfunc_lent rfl Try.ntmps68 Try.results68 ?_
  unfold slices_pdqsortCmpFunc_target_compare_w at hh
  obtain ⟨rw, hrw, hh⟩ := bindS hh
  split at hh
  rotate_left
  · cases hh
  cases hh
  rename_i hlen
  replace hh := hrw
  unfold slices_pdqsortCmpFunc_target_compare_w_B at hh
  try simp only [x_slices_pdqsortCmpFunc_target_compare_w, seval, -Int.reduceToNat]
  obtain ⟨o6, ho6, hh⟩ := bindS hh
  refine runLoop_sim (fun s t H e => match s with | _ => t 0 = .buf 0 0 1 pre.length (p0).length ∧ t 1 = .int .i64 p1 ∧ t 2 = .int .i64 p2 ∧ t 3 = .int .i64 p3 ∧ t 4 = .fn 50 ∧ t 10 = .bool true ∧ t 11 = .bool true ∧ H 0 = some ⟨0, 23, pre ++ (encL (eSl (eI .i64)) p0 ++ post), false, true⟩) (fun o x t H e => match o with | r => x = .ret ∧ endM .clean tab (some (.buf 0 0 1 pre.length p0.length, ⟨0, 23, pre ++ (encL (eSl (eI .i64)) p0 ++ post), false, true⟩)) [] ⟨t, H, e⟩ = some (.clean (.tup []), some ⟨0, 23, pre ++ (encL (eSl (eI .i64)) r.1 ++ post), false, true⟩)) ho6 ?_ ?_ ?_
  ·
    refine ⟨?_, ?_, ?_, ?_, ?_, ?_, ?_, ?_⟩
    all_goals (first | rfl | (simp only [x_slices_pdqsortCmpFunc_target_compare_w, seval, -Int.reduceToNat] <;> rfl))
  · rintro _ t H e ⟨t0a, t1a, t2a, t3a, t4a, t10a, t11a, H0a⟩ c hh
    simp only [slices_pdqsortCmpFunc_target_compare_w_L1] at hh
    try simp only [x_slices_pdqsortCmpFunc_target_compare_w, seval, -Int.reduceToNat, t0a, t1a, t2a, t3a, t4a, t10a, t11a, H0a]
    refine tstC_br (fun hb7 => ?_) (fun hb7 => ?_)
    · replace hh := ite_t hb7 hh
      have i8 := q_slices_insertionSortCmpFunc_target_compare_w pre post p0 p1 p2
      try simp only [List.nil_append, List.append_nil, List.length_nil, encL_cons, List.length_set, vmz] at i8
      obtain ⟨r9, hr9, hh⟩ := bindS hh
      have q10l := len_slices_insertionSortCmpFunc_target_compare_w hr9
      skip
      cases hh
      try simp only [x_slices_pdqsortCmpFunc_target_compare_w, seval, -Int.reduceToNat, t0a, t1a, t2a, t3a, t4a, t10a, t11a, H0a, i8, hr9, q10l]
      rw [LK_ret]
      refine ⟨_, rfl, ?_⟩
      refine ⟨rfl, ?_⟩
      try simp only [x_slices_pdqsortCmpFunc_target_compare_w, seval, -Int.reduceToNat, t0a, t1a, t2a, t3a, t4a, t10a, t11a, H0a, i8, hr9, q10l]
    · replace hh := ite_f hb7 hh
      try simp only [x_slices_pdqsortCmpFunc_target_compare_w, seval, -Int.reduceToNat, t0a, t1a, t2a, t3a, t4a, t10a, t11a, H0a]
      refine tstC_br (fun hb11 => ?_) (fun hb11 => ?_)
      · replace hh := ite_t hb11 hh
        cases hh
      · replace hh := ite_f hb11 hh
        cases hh
  · rintro x t H e hx
    rcases o6 with ra
    dsimp only at hx hh
    obtain ⟨rfl, hE⟩ := hx
    cases hh
    try simp only [runW_pass_ret, runW_pass_exit, runW_blk_ret, runW_nil, endW_ret]
    exact hE

theorem ok_slices_pdqsortCmpFunc_target_compare_w : COk Try.prog 68 G_slices_pdqsortCmpFunc_target_compare_w := COk.lentW (mode := .clean) tok ge_slices_pdqsortCmpFunc_target_compare_w mixed Try.func68 (by kernel_rfl) ⟨by kernel_rfl, by kernel_rfl⟩ (fun _ => Nat.le_of_ble_eq_true (by kernel_rfl)) (fun pre post l x l' r h => m_slices_pdqsortCmpFunc_target_compare_w pre post l x.1 x.2.1 x.2.2.1 (l', r) h)

noncomputable def G_slices_SortFunc_target_compare_w := mkW 23 (eSl (eI .i64)) (as1 (aFn 50)) (fun (l : (List (List Int))) (x : Unit) => slices_SortFunc_target_compare_w l) (fun r : Unit => .clean (.tup []))

theorem q_slices_SortFunc_target_compare_w (pre post : List D) (p0 : (List (List Int))) : G_slices_SortFunc_target_compare_w (some (.buf 0 0 1 pre.length p0.length, ⟨0, 23, pre ++ (encL (eSl (eI .i64)) p0 ++ post), false, true⟩)) [.fn 50] = (slices_SortFunc_target_compare_w p0).map fun r => (.clean (.tup []), some ⟨0, 23, pre ++ (encL (eSl (eI .i64)) r.1 ++ post), false, true⟩) := mkW_eq _ _ _ _ _ pre post p0 (())

noncomputable def g_slices_SortFunc_target_compare_w : Env := (Am.ext (Am.ext noEnv 36 false G_math_bits_Len) 68 true G_slices_pdqsortCmpFunc_target_compare_w)

theorem ge_slices_SortFunc_target_compare_w : GOk Try.prog g_slices_SortFunc_target_compare_w := ((GOk.none.add ok_math_bits_Len false).add ok_slices_pdqsortCmpFunc_target_compare_w true)

theorem gg_slices_SortFunc_target_compare_w : g_slices_SortFunc_target_compare_w = (Am.ext (Am.ext noEnv 36 false G_math_bits_Len) 68 true G_slices_pdqsortCmpFunc_target_compare_w) := Eq.trans rfl rfl

theorem x_slices_SortFunc_target_compare_w : type_of% (And.intro @w <| And.intro @q_math_bits_Len <| @gg_slices_SortFunc_target_compare_w) := And.intro @w <| And.intro @q_math_bits_Len <| @gg_slices_SortFunc_target_compare_w

theorem m_slices_SortFunc_target_compare_w (pre post : List D) (p0 : (List (List Int))) (r : (List (List Int)) × (Unit)) (hh : slices_SortFunc_target_compare_w p0 = some r) : vfunc .clean tab g_slices_SortFunc_target_compare_w FU Try.f49 (some (.buf 0 0 1 pre.length p0.length, ⟨0, 23, pre ++ (encL (eSl (eI .i64)) p0 ++ post), false, true⟩)) [.fn 50] = some (.clean (.tup []), some ⟨0, 23, pre ++ (encL (eSl (eI .i64)) r.1 ++ post), false, true⟩) := by
  refine vfunc_lent rfl Try.ntmps49 Try.results49 ?_
  unfold slices_SortFunc_target_compare_w at hh
  obtain ⟨rw, hrw, hh⟩ := bindS hh
  split at hh
  rotate_left
  · cases hh
  cases hh
  rename_i hlen
  replace hh := hrw
  unfold slices_SortFunc_target_compare_w_B at hh
  obtain ⟨r1, hr1, hh⟩ := bindS hh
  have i2 := q_slices_pdqsortCmpFunc_target_compare_w pre post p0 0 ((p0).length : Int) r1
  try simp only [List.nil_append, List.append_nil, List.length_nil, encL_cons, List.length_set, vmz] at i2
  obtain ⟨r3, hr3, hh⟩ := bindS hh
  have q4l := len_slices_pdqsortCmpFunc_target_compare_w hr3
  skip
  cases hh
  try simp only [x_slices_SortFunc_target_compare_w, seval, -Int.reduceToNat, hr1, i2, hr3, q4l]

theorem ok_slices_SortFunc_target_compare_w : COk Try.prog 49 G_slices_SortFunc_target_compare_w := COk.lentW (mode := .clean) tok ge_slices_SortFunc_target_compare_w mixed Try.func49 (by kernel_rfl) ⟨by kernel_rfl, by kernel_rfl⟩ (fun _ => Nat.le_of_ble_eq_true (by kernel_rfl)) (fun pre post l x l' r h => m_slices_SortFunc_target_compare_w pre post l (l', r) h)

noncomputable def G_target_find_target_goal_reached := mkG (asC (aI .i64) (as1 (aClo 31 1 (as1 (aAgg eTgoal))))) (fun x : Int × (Tgoal) => target_find_target_goal_reached x.1 x.2) (fun r : (List (List Int)) => .clean (.sl false false r.length (encL (eSl (eI .i64)) r)))

theorem q_target_find_target_goal_reached (p0 : Int) (p1c0_0 : (List TFrac)) (p1c0_1 : Int) (p1c0_2 : (List Int)) (p1c0_3 : Int) (p1c0_4 : (List Int)) : G_target_find_target_goal_reached none [.int .i64 p0, .clo 31 1 [.agg [.sl false false p1c0_0.length (encL eTFrac p1c0_0), .int .i64 p1c0_1, .sl false false p1c0_2.length (encL (eI .i64) p1c0_2), .int .i64 p1c0_3, .sl false false p1c0_4.length (encL (eI .i64) p1c0_4)]]] = (target_find_target_goal_reached p0 (Tgoal.mk p1c0_0 (TFrac.mk (TBig.mk p1c0_1 p1c0_2) (TBig.mk p1c0_3 p1c0_4)))).map fun r : (List (List Int)) => (.clean (.sl false false r.length (encL (eSl (eI .i64)) r)), none) := mkG_eq _ _ _ (p0, ((Tgoal.mk p1c0_0 (TFrac.mk (TBig.mk p1c0_1 p1c0_2) (TBig.mk p1c0_3 p1c0_4)))))

noncomputable def g_target_find_target_goal_reached : Env := (Am.ext (Am.ext (Am.ext noEnv 31 false G_target_goal_reached) 48 false G_target_list) 49 true G_slices_SortFunc_target_compare_w)

theorem ge_target_find_target_goal_reached : GOk Try.prog g_target_find_target_goal_reached := (((GOk.none.add ok_target_goal_reached false).add ok_target_list false).add ok_slices_SortFunc_target_compare_w true)

theorem gg_target_find_target_goal_reached : g_target_find_target_goal_reached = (Am.ext (Am.ext (Am.ext noEnv 31 false G_target_goal_reached) 48 false G_target_list) 49 true G_slices_SortFunc_target_compare_w) := Eq.trans rfl rfl

theorem x_target_find_target_goal_reached : type_of% (And.intro @w <| And.intro @q_target_goal_reached <| And.intro @q_target_list <| @gg_target_find_target_goal_reached) := And.intro @w <| And.intro @q_target_goal_reached <| And.intro @q_target_list <| @gg_target_find_target_goal_reached

theorem m_target_find_target_goal_reached (p0 : Int) (p1c0 : Tgoal) (r : (List (List Int))) (hh : target_find_target_goal_reached p0 p1c0 = some r) : vfunc .clean tab g_target_find_target_goal_reached FU Try.f30 none [.int .i64 p0, .clo 31 1 [.agg [.sl false false p1c0.f_values.length (encL eTFrac p1c0.f_values), .int .i64 p1c0.f_target.f_P.f_Sign, .sl false false p1c0.f_target.f_P.f_Digits.length (encL (eI .i64) p1c0.f_target.f_P.f_Digits), .int .i64 p1c0.f_target.f_Q.f_Sign, .sl false false p1c0.f_target.f_Q.f_Digits.length (encL (eI .i64) p1c0.f_target.f_Q.f_Digits)]]] = some (.clean (.sl false false r.length (encL (eSl (eI .i64)) r)), none) := by
  refine vfunc_of rfl Try.ntmps30 Try.results30 ?_
  unfold target_find_target_goal_reached at hh
  obtain ⟨x1, hx1, hh⟩ := bindS hh
  obtain ⟨q2a, q2b⟩ := shlI_ok hx1
  try simp only [x_target_find_target_goal_reached, seval, -Int.reduceToNat, q2a, q2b]
  obtain ⟨o20, ho20, hh⟩ := bindS hh
  refine runLoop_sim (fun s t H e => match s with | (s11a, l5a) => ∃ v5a : Nat, t 1 = .clo 31 1 [.agg [.sl false false p1c0.f_values.length (encL eTFrac p1c0.f_values), .int .i64 p1c0.f_target.f_P.f_Sign, .sl false false p1c0.f_target.f_P.f_Digits.length (encL (eI .i64) p1c0.f_target.f_P.f_Digits), .int .i64 p1c0.f_target.f_Q.f_Sign, .sl false false p1c0.f_target.f_Q.f_Digits.length (encL (eI .i64) p1c0.f_target.f_Q.f_Digits)]] ∧ t 5 = .buf 5 v5a 1 0 (l5a).length ∧ t 10 = .int .i64 x1 ∧ t 11 = .int .i64 s11a ∧ H 5 = some ⟨v5a, 23, encL (eSl (eI .i64)) l5a, false, true⟩) (fun o x t H e => match o with | l5ax => x = .exit 0 ∧ ∃ v5ax : Nat, t 5 = .buf 5 v5ax 1 0 (l5ax).length ∧ H 5 = some ⟨v5ax, 23, encL (eSl (eI .i64)) l5ax, false, true⟩) ho20 ?_ ?_ ?_
  ·
    refine ⟨1, ?_, ?_, ?_, ?_, ?_⟩
    all_goals (first | rfl | (simp only [x_target_find_target_goal_reached, seval, -Int.reduceToNat, q2a, q2b] <;> rfl))
  · rintro ⟨s11a, l5a⟩ t H e ⟨v5a, t1a, t5a, t10a, t11a, H5a⟩ c hh
    simp only [target_find_target_goal_reached_L1] at hh
    try simp only [x_target_find_target_goal_reached, seval, -Int.reduceToNat, q2a, q2b, t1a, t5a, t10a, t11a, H5a]
    refine tstC_br (fun hb21 => ?_) (fun hb21 => ?_)
    · replace hh := ite_t hb21 hh
      obtain ⟨r22, hr22, hh⟩ := bindS hh
      try simp only [x_target_find_target_goal_reached, seval, -Int.reduceToNat, q2a, q2b, t1a, t5a, t10a, t11a, H5a, hr22]
      obtain ⟨o28, ho28, hh⟩ := bindS hh
      refine runLoop_sim (fun s t H e => match s with | (s7e, s8e) => ∃ v5e : Nat, t 1 = .clo 31 1 [.agg [.sl false false p1c0.f_values.length (encL eTFrac p1c0.f_values), .int .i64 p1c0.f_target.f_P.f_Sign, .sl false false p1c0.f_target.f_P.f_Digits.length (encL (eI .i64) p1c0.f_target.f_P.f_Digits), .int .i64 p1c0.f_target.f_Q.f_Sign, .sl false false p1c0.f_target.f_Q.f_Digits.length (encL (eI .i64) p1c0.f_target.f_Q.f_Digits)]] ∧ t 5 = .buf 5 v5e 1 0 (l5a).length ∧ t 6 = .int .i64 s11a ∧ t 7 = .bool s7e ∧ t 8 = .int .i64 s8e ∧ t 10 = .int .i64 x1 ∧ t 11 = .int .i64 s11a ∧ H 5 = some ⟨v5e, 23, encL (eSl (eI .i64)) l5a, false, true⟩) (fun o x t H e => match o with | s7ex => x = .exit 2 ∧ ∃ v5ex : Nat, t 1 = .clo 31 1 [.agg [.sl false false p1c0.f_values.length (encL eTFrac p1c0.f_values), .int .i64 p1c0.f_target.f_P.f_Sign, .sl false false p1c0.f_target.f_P.f_Digits.length (encL (eI .i64) p1c0.f_target.f_P.f_Digits), .int .i64 p1c0.f_target.f_Q.f_Sign, .sl false false p1c0.f_target.f_Q.f_Digits.length (encL (eI .i64) p1c0.f_target.f_Q.f_Digits)]] ∧ t 5 = .buf 5 v5ex 1 0 (l5a).length ∧ t 6 = .int .i64 s11a ∧ t 7 = .bool s7ex ∧ t 10 = .int .i64 x1 ∧ t 11 = .int .i64 s11a ∧ H 5 = some ⟨v5ex, 23, encL (eSl (eI .i64)) l5a, false, true⟩) ho28 ?_ ?_ ?_
      ·
        refine ⟨v5a, ?_, ?_, ?_, ?_, ?_, ?_, ?_, ?_⟩
        all_goals (first | rfl | (simp only [x_target_find_target_goal_reached, seval, -Int.reduceToNat, q2a, q2b, t1a, t5a, t10a, t11a, H5a, hr22] <;> rfl))
      · rintro ⟨s7e, s8e⟩ t H e ⟨v5e, t1e, t5e, t6e, t7e, t8e, t10e, t11e, H5e⟩ c hh
        simp only [target_find_target_goal_reached_L5] at hh
        try simp only [x_target_find_target_goal_reached, seval, -Int.reduceToNat, q2a, q2b, hr22, t1e, t5e, t6e, t7e, t8e, t10e, t11e, H5e]
        obtain ⟨o29, ho29, hh⟩ := bindS hh
        refine tstO_cut 0 (fun s t H e => match s with | s26j7 => ∃ v5j7 : Nat, t 1 = .clo 31 1 [.agg [.sl false false p1c0.f_values.length (encL eTFrac p1c0.f_values), .int .i64 p1c0.f_target.f_P.f_Sign, .sl false false p1c0.f_target.f_P.f_Digits.length (encL (eI .i64) p1c0.f_target.f_P.f_Digits), .int .i64 p1c0.f_target.f_Q.f_Sign, .sl false false p1c0.f_target.f_Q.f_Digits.length (encL (eI .i64) p1c0.f_target.f_Q.f_Digits)]] ∧ t 5 = .buf 5 v5j7 1 0 (l5a).length ∧ t 6 = .int .i64 s11a ∧ t 7 = .bool s7e ∧ t 8 = .int .i64 s8e ∧ t 10 = .int .i64 x1 ∧ t 11 = .int .i64 s11a ∧ t 26 = .bool s26j7 ∧ H 5 = some ⟨v5j7, 23, encL (eSl (eI .i64)) l5a, false, true⟩) (fun s => s = o29) ?_ ?_
        · rintro s26j7 t H e ⟨v5j7, t1j7, t5j7, t6j7, t7j7, t8j7, t10j7, t11j7, t26j7, H5j7⟩ rfl
          try dsimp only at hh
          try simp only [x_target_find_target_goal_reached, seval, -Int.reduceToNat, q2a, q2b, hr22, t1j7, t5j7, t6j7, t7j7, t8j7, t10j7, t11j7, t26j7, H5j7]
          refine tstC_br (fun hb30 => ?_) (fun hb30 => ?_)
          · replace hh := ite_t hb30 hh
            obtain ⟨r31, hr31, hh⟩ := bindS hh
            try simp only [x_target_find_target_goal_reached, seval, -Int.reduceToNat, q2a, q2b, hr22, t1j7, t5j7, t6j7, t7j7, t8j7, t10j7, t11j7, t26j7, H5j7, hr31]
            refine tstC_br (fun hb32 => ?_) (fun hb32 => ?_)
            · replace hh := ite_t hb32 hh
              cases hh
              try simp only [x_target_find_target_goal_reached, seval, -Int.reduceToNat, q2a, q2b, hr22, t1j7, t5j7, t6j7, t7j7, t8j7, t10j7, t11j7, t26j7, H5j7, hr31]
              rw [LK_exit]
              refine ⟨_, rfl, ?_⟩
              refine ⟨rfl, ⟨v5j7, ?_, ?_, ?_, ?_, ?_, ?_, ?_⟩⟩
              all_goals (first | rfl | (simp only [x_target_find_target_goal_reached, seval, -Int.reduceToNat, q2a, q2b, hr22, t1j7, t5j7, t6j7, t7j7, t8j7, t10j7, t11j7, t26j7, H5j7, hr31] <;> rfl))
            · replace hh := ite_f hb32 hh
              cases hh
              try simp only [x_target_find_target_goal_reached, seval, -Int.reduceToNat, q2a, q2b, hr22, t1j7, t5j7, t6j7, t7j7, t8j7, t10j7, t11j7, t26j7, H5j7, hr31]
              rw [LK_normal]
              refine ⟨_, rfl, ?_⟩
              refine ⟨v5j7, ?_, ?_, ?_, ?_, ?_, ?_, ?_, ?_⟩
              all_goals (first | rfl | (simp only [x_target_find_target_goal_reached, seval, -Int.reduceToNat, q2a, q2b, hr22, t1j7, t5j7, t6j7, t7j7, t8j7, t10j7, t11j7, t26j7, H5j7, hr31] <;> rfl))
          · replace hh := ite_f hb30 hh
            cases hh
            try simp only [x_target_find_target_goal_reached, seval, -Int.reduceToNat, q2a, q2b, hr22, t1j7, t5j7, t6j7, t7j7, t8j7, t10j7, t11j7, t26j7, H5j7]
            rw [LK_exit]
            refine ⟨_, rfl, ?_⟩
            refine ⟨rfl, ⟨v5j7, ?_, ?_, ?_, ?_, ?_, ?_, ?_⟩⟩
            all_goals (first | rfl | (simp only [x_target_find_target_goal_reached, seval, -Int.reduceToNat, q2a, q2b, hr22, t1j7, t5j7, t6j7, t7j7, t8j7, t10j7, t11j7, t26j7, H5j7] <;> rfl))
        ·
          clear hh
          have hh := ho29
          try simp only [x_target_find_target_goal_reached, seval, -Int.reduceToNat, q2a, q2b, hr22, t1e, t5e, t6e, t7e, t8e, t10e, t11e, H5e]
          refine tstO_br (fun hb33 => ?_) (fun hb33 => ?_)
          · replace hh := ite_t hb33 hh
            cases hh
            try simp only [x_target_find_target_goal_reached, seval, -Int.reduceToNat, q2a, q2b, hr22, t1e, t5e, t6e, t7e, t8e, t10e, t11e, H5e]
            rw [CK_normal]
            refine ⟨_, rfl, ?_⟩
            refine ⟨v5e, ?_, ?_, ?_, ?_, ?_, ?_, ?_, ?_, ?_⟩
            all_goals (first | rfl | (simp only [x_target_find_target_goal_reached, seval, -Int.reduceToNat, q2a, q2b, hr22, t1e, t5e, t6e, t7e, t8e, t10e, t11e, H5e] <;> rfl))
          · replace hh := ite_f hb33 hh
            cases hh
            try simp only [x_target_find_target_goal_reached, seval, -Int.reduceToNat, q2a, q2b, hr22, t1e, t5e, t6e, t7e, t8e, t10e, t11e, H5e]
            rw [CK_normal]
            refine ⟨_, rfl, ?_⟩
            refine ⟨v5e, ?_, ?_, ?_, ?_, ?_, ?_, ?_, ?_, ?_⟩
            all_goals (first | rfl | (simp only [x_target_find_target_goal_reached, seval, -Int.reduceToNat, q2a, q2b, hr22, t1e, t5e, t6e, t7e, t8e, t10e, t11e, H5e] <;> rfl))
      · rintro x t H e hx
        obtain ⟨s7ex, rfl⟩ : ∃ z, z = o28 := ⟨_, rfl⟩
        dsimp only at hx hh
        obtain ⟨rfl, ⟨v5ex, t1ex, t5ex, t6ex, t7ex, t10ex, t11ex, H5ex⟩⟩ := hx
        try simp only [x_target_find_target_goal_reached, seval, -Int.reduceToNat, q2a, q2b, hr22, t1ex, t5ex, t6ex, t7ex, t10ex, t11ex, H5ex]
        refine tstC_br (fun hb34 => ?_) (fun hb34 => ?_)
        · replace hh := ite_t hb34 hh
          obtain ⟨r35, hr35, hh⟩ := bindS hh
          obtain ⟨x36, hx36, hh⟩ := bindS hh
          obtain ⟨q37a, q37b, q37c, q37d⟩ := app_one (eSl (eI .i64)) hx36
          simp only [vmz] at q37b
          cases hh
          try simp only [x_target_find_target_goal_reached, seval, -Int.reduceToNat, q2a, q2b, hr22, t1ex, t5ex, t6ex, t7ex, t10ex, t11ex, H5ex, hr35, q37a, q37b, q37c, q37d]
          rw [LK_normal]
          refine ⟨_, rfl, ?_⟩
          refine ⟨e + 1, ?_, ?_, ?_, ?_, ?_⟩
          all_goals (first | rfl | (simp only [x_target_find_target_goal_reached, seval, -Int.reduceToNat, q2a, q2b, hr22, t1ex, t5ex, t6ex, t7ex, t10ex, t11ex, H5ex, hr35, q37a, q37b, q37c, q37d] <;> rfl))
        · replace hh := ite_f hb34 hh
          cases hh
          try simp only [x_target_find_target_goal_reached, seval, -Int.reduceToNat, q2a, q2b, hr22, t1ex, t5ex, t6ex, t7ex, t10ex, t11ex, H5ex]
          rw [LK_normal]
          refine ⟨_, rfl, ?_⟩
          refine ⟨v5ex, ?_, ?_, ?_, ?_, ?_⟩
          all_goals (first | rfl | (simp only [x_target_find_target_goal_reached, seval, -Int.reduceToNat, q2a, q2b, hr22, t1ex, t5ex, t6ex, t7ex, t10ex, t11ex, H5ex] <;> rfl))
    · replace hh := ite_f hb21 hh
      cases hh
      try simp only [x_target_find_target_goal_reached, seval, -Int.reduceToNat, q2a, q2b, t1a, t5a, t10a, t11a, H5a]
      rw [LK_exit]
      refine ⟨_, rfl, ?_⟩
      refine ⟨rfl, ⟨v5a, ?_, ?_⟩⟩
      all_goals (first | rfl | (simp only [x_target_find_target_goal_reached, seval, -Int.reduceToNat, q2a, q2b, t1a, t5a, t10a, t11a, H5a] <;> rfl))
  · rintro x t H e hx
    obtain ⟨l5ax, rfl⟩ : ∃ z, z = o20 := ⟨_, rfl⟩
    dsimp only at hx hh
    obtain ⟨rfl, ⟨v5ax, t5ax, H5ax⟩⟩ := hx
    have i38 := q_slices_SortFunc_target_compare_w [] [] l5ax
    try simp only [List.nil_append, List.append_nil, List.length_nil, encL_cons, List.length_set, vmz] at i38
    obtain ⟨r39, hr39, hh⟩ := bindS hh
    have q40l := len_slices_SortFunc_target_compare_w hr39
    replace q40l := q40l.symm
    try simp only [q40l] at i38
    cases hh
    try simp only [x_target_find_target_goal_reached, seval, -Int.reduceToNat, q2a, q2b, t5ax, H5ax, i38, hr39, q40l]

theorem ok_target_find_target_goal_reached : COk Try.prog 30 G_target_find_target_goal_reached := COk.of (mode := .clean) tok ge_target_find_target_goal_reached mixed Try.func30 (by kernel_rfl) ⟨by kernel_rfl, by kernel_rfl⟩ (fun _ => Nat.le_of_ble_eq_true (by kernel_rfl)) (fun x r h => m_target_find_target_goal_reached x.1 x.2 r h)

noncomputable def G_target_Minimal := mkG (asC (aSl eTFrac) (as1 (aAgg eTFrac))) (fun x : (List TFrac) × TFrac => target_Minimal x.1 x.2) (fun r : (List (List Int)) × Int => .clean (.tup [.sl false false r.1.length (encL (eSl (eI .i64)) r.1), .int .i64 r.2]))

theorem q_target_Minimal (p0 : (List TFrac)) (p1_0 : Int) (p1_1 : (List Int)) (p1_2 : Int) (p1_3 : (List Int)) : G_target_Minimal none [.sl false false p0.length (encL eTFrac p0), .agg [.int .i64 p1_0, .sl false false p1_1.length (encL (eI .i64) p1_1), .int .i64 p1_2, .sl false false p1_3.length (encL (eI .i64) p1_3)]] = (target_Minimal p0 (TFrac.mk (TBig.mk p1_0 p1_1) (TBig.mk p1_2 p1_3))).map fun r : (List (List Int)) × Int => (.clean (.tup [.sl false false r.1.length (encL (eSl (eI .i64)) r.1), .int .i64 r.2]), none) := mkG_eq _ _ _ (p0, (TFrac.mk (TBig.mk p1_0 p1_1) (TBig.mk p1_2 p1_3)))

noncomputable def g_target_Minimal : Env := (Am.ext (Am.ext (Am.ext noEnv 16 false G_target_Edits) 20 false G_frac_Right) 30 false G_target_find_target_goal_reached)

theorem ge_target_Minimal : GOk Try.prog g_target_Minimal := (((GOk.none.add ok_target_Edits false).add ok_frac_Right false).add ok_target_find_target_goal_reached false)

theorem gg_target_Minimal : g_target_Minimal = (Am.ext (Am.ext (Am.ext noEnv 16 false G_target_Edits) 20 false G_frac_Right) 30 false G_target_find_target_goal_reached) := Eq.trans rfl rfl

theorem x_target_Minimal : type_of% (And.intro @w <| And.intro @q_target_Edits <| And.intro @q_frac_Right <| And.intro @q_target_find_target_goal_reached <| @gg_target_Minimal) := And.intro @w <| And.intro @q_target_Edits <| And.intro @q_frac_Right <| And.intro @q_target_find_target_goal_reached <| @gg_target_Minimal

theorem m_target_Minimal (p0 : (List TFrac)) (p1 : TFrac) (r : (List (List Int)) × Int) (hh : target_Minimal p0 p1 = some r) : vfunc .clean tab g_target_Minimal FU Try.f13 none [.sl false false p0.length (encL eTFrac p0), .agg [.int .i64 p1.f_P.f_Sign, .sl false false p1.f_P.f_Digits.length (encL (eI .i64) p1.f_P.f_Digits), .int .i64 p1.f_Q.f_Sign, .sl false false p1.f_Q.f_Digits.length (encL (eI .i64) p1.f_Q.f_Digits)]] = some (.clean (.tup [.sl false false r.1.length (encL (eSl (eI .i64)) r.1), .int .i64 r.2]), none) := by
  refine vfunc_of rfl Try.ntmps13 Try.results13 ?_
  unfold target_Minimal at hh
  obtain ⟨r1, hr1, hh⟩ := bindS hh
  try simp only [x_target_Minimal, seval, -Int.reduceToNat, hr1]
  obtain ⟨o2, ho2, hh⟩ := bindS hh
  refine tstO_cut 0 (fun s t H e => match s with | s17j1 => ∃ v3j1 : Nat, t 0 = .sl false false p0.length (encL eTFrac p0) ∧ t 3 = .ptr 3 v3j1 0 ∧ t 6 = .int .i64 r1 ∧ t 17 = .bool s17j1 ∧ H 3 = some ⟨v3j1, 27, [.int .i64 p1.f_P.f_Sign, .sl false false p1.f_P.f_Digits.length (encL (eI .i64) p1.f_P.f_Digits), .int .i64 p1.f_Q.f_Sign, .sl false false p1.f_Q.f_Digits.length (encL (eI .i64) p1.f_Q.f_Digits)], false, false⟩) (fun s => s = o2) ?_ ?_
  · rintro s17j1 t H e ⟨v3j1, t0j1, t3j1, t6j1, t17j1, H3j1⟩ rfl
    try dsimp only at hh
    try simp only [x_target_Minimal, seval, -Int.reduceToNat, hr1, t0j1, t3j1, t6j1, t17j1, H3j1]
    refine tstC_br (fun hb3 => ?_) (fun hb3 => ?_)
    · replace hh := ite_t hb3 hh
      cases hh
      try simp only [x_target_Minimal, seval, -Int.reduceToNat, hr1, t0j1, t3j1, t6j1, t17j1, H3j1]
    · replace hh := ite_f hb3 hh
      obtain ⟨r4, hr4, hh⟩ := bindS hh
      try simp only [x_target_Minimal, seval, -Int.reduceToNat, hr1, t0j1, t3j1, t6j1, t17j1, H3j1, hr4]
      refine tstC_br (fun hb5 => ?_) (fun hb5 => ?_)
      · replace hh := ite_t hb5 hh
        cases hh
        try simp only [x_target_Minimal, seval, -Int.reduceToNat, hr1, t0j1, t3j1, t6j1, t17j1, H3j1, hr4]
      · replace hh := ite_f hb5 hh
        cases hh
        try simp only [x_target_Minimal, seval, -Int.reduceToNat, hr1, t0j1, t3j1, t6j1, t17j1, H3j1, hr4]
  ·
    clear hh
    have hh := ho2
    try simp only [x_target_Minimal, seval, -Int.reduceToNat, hr1]
    refine tstO_br' (fun hb6 => ?_) (fun hb6 => ?_)
    · replace hh := ite_t hb6 hh
      cases hh
      try simp only [x_target_Minimal, seval, -Int.reduceToNat, hr1]
      rw [CK_normal]
      refine ⟨_, rfl, ?_⟩
      refine ⟨0, ?_, ?_, ?_, ?_, ?_⟩
      all_goals (first | rfl | (simp only [x_target_Minimal, seval, -Int.reduceToNat, hr1] <;> rfl))
    · replace hh := ite_f hb6 hh
      obtain ⟨r7, hr7, hh⟩ := bindS hh
      cases hh
      try simp only [x_target_Minimal, seval, -Int.reduceToNat, hr1, hr7]
      rw [CK_normal]
      refine ⟨_, rfl, ?_⟩
      refine ⟨0, ?_, ?_, ?_, ?_, ?_⟩
      all_goals (first | rfl | (simp only [x_target_Minimal, seval, -Int.reduceToNat, hr1, hr7] <;> rfl))

theorem ok_target_Minimal : COk Try.prog 13 G_target_Minimal := COk.of (mode := .clean) tok ge_target_Minimal mixed Try.func13 (by kernel_rfl) ⟨by kernel_rfl, by kernel_rfl⟩ (fun _ => Nat.le_of_ble_eq_true (by kernel_rfl)) (fun x r h => m_target_Minimal x.1 x.2 r h)

noncomputable def G_target_Sets := mkG (asC (aSl eTFrac) (as1 (aAgg eTFrac))) (fun x : (List TFrac) × TFrac => target_Sets x.1 x.2) (fun r : (List (List Int)) × Int => .clean (.tup [.sl false false r.1.length (encL (eSl (eI .i64)) r.1), .int .i64 r.2]))

theorem q_target_Sets (p0 : (List TFrac)) (p1_0 : Int) (p1_1 : (List Int)) (p1_2 : Int) (p1_3 : (List Int)) : G_target_Sets none [.sl false false p0.length (encL eTFrac p0), .agg [.int .i64 p1_0, .sl false false p1_1.length (encL (eI .i64) p1_1), .int .i64 p1_2, .sl false false p1_3.length (encL (eI .i64) p1_3)]] = (target_Sets p0 (TFrac.mk (TBig.mk p1_0 p1_1) (TBig.mk p1_2 p1_3))).map fun r : (List (List Int)) × Int => (.clean (.tup [.sl false false r.1.length (encL (eSl (eI .i64)) r.1), .int .i64 r.2]), none) := mkG_eq _ _ _ (p0, (TFrac.mk (TBig.mk p1_0 p1_1) (TBig.mk p1_2 p1_3)))

noncomputable def g_target_Sets : Env := (Am.ext noEnv 13 false G_target_Minimal)

theorem ge_target_Sets : GOk Try.prog g_target_Sets := (GOk.none.add ok_target_Minimal false)

theorem gg_target_Sets : g_target_Sets = (Am.ext noEnv 13 false G_target_Minimal) := Eq.trans rfl rfl

theorem x_target_Sets : type_of% (And.intro @w <| And.intro @q_target_Minimal <| @gg_target_Sets) := And.intro @w <| And.intro @q_target_Minimal <| @gg_target_Sets

theorem m_target_Sets (p0 : (List TFrac)) (p1 : TFrac) (r : (List (List Int)) × Int) (hh : target_Sets p0 p1 = some r) : vfunc .clean tab g_target_Sets FU Try.f11 none [.sl false false p0.length (encL eTFrac p0), .agg [.int .i64 p1.f_P.f_Sign, .sl false false p1.f_P.f_Digits.length (encL (eI .i64) p1.f_P.f_Digits), .int .i64 p1.f_Q.f_Sign, .sl false false p1.f_Q.f_Digits.length (encL (eI .i64) p1.f_Q.f_Digits)]] = some (.clean (.tup [.sl false false r.1.length (encL (eSl (eI .i64)) r.1), .int .i64 r.2]), none) := by
  refine vfunc_of rfl Try.ntmps11 Try.results11 ?_
  unfold target_Sets at hh
  obtain ⟨r1, hr1, hh⟩ := bindS hh
  try simp only [x_target_Sets, seval, -Int.reduceToNat, hr1]
  obtain ⟨o8, ho8, hh⟩ := bindS hh
  refine runLoop_sim (fun s t H e => match s with | s18a => t 6 = .sl false false r1.1.length (encL (eSl (eI .i64)) r1.1) ∧ t 7 = .int .i64 r1.2 ∧ t 16 = .sl false false r1.1.length (encL (eSl (eI .i64)) r1.1) ∧ t 17 = .int .i64 (r1.1.length : Int) ∧ t 18 = .int .i64 s18a) (fun o x t H e => match o with | (.inl _) => x = .exit 0 ∧ t 6 = .sl false false r1.1.length (encL (eSl (eI .i64)) r1.1) ∧ t 7 = .int .i64 r1.2 | (.inr r) => x = .ret ∧ endM .clean tab none [.tmp 4, .tmp 5] ⟨t, H, e⟩ = some (.clean (.tup [.sl false false r.1.length (encL (eSl (eI .i64)) r.1), .int .i64 r.2]), none)) ho8 ?_ ?_ ?_
  ·
    refine ⟨?_, ?_, ?_, ?_, ?_⟩
    all_goals (first | rfl | (simp only [x_target_Sets, seval, -Int.reduceToNat, hr1] <;> rfl))
  · rintro s18a t H e ⟨t6a, t7a, t16a, t17a, t18a⟩ c hh
    simp only [target_Sets_L1] at hh
    try simp only [x_target_Sets, seval, -Int.reduceToNat, hr1, t6a, t7a, t16a, t17a, t18a]
    refine tstC_br (fun hb9 => ?_) (fun hb9 => ?_)
    · replace hh := ite_t hb9 hh
      obtain ⟨x10, hx10, hh⟩ := bindS hh
      have bx10 := idx_bd hx10
      have ax10 := idx_enc (eSl (eI .i64)) hx10
      have fx10 := idx_fit (eSl (eI .i64)) hx10
      simp only [vmz] at ax10 fx10
      skip
      obtain ⟨x11, hx11, hh⟩ := bindS hh
      have bx11 := idx_bd hx11
      have ax11 := idx_enc (eSl (eI .i64)) hx11
      have fx11 := idx_fit (eSl (eI .i64)) hx11
      simp only [vmz] at ax11 fx11
      skip
      try simp only [x_target_Sets, seval, -Int.reduceToNat, hr1, t6a, t7a, t16a, t17a, t18a, bx10, ax10, fx10, bx11, ax11, fx11]
      refine tstC_br (fun hb12 => ?_) (fun hb12 => ?_)
      · replace hh := ite_t hb12 hh
        obtain ⟨x13, hx13, hh⟩ := bindS hh
        obtain ⟨q14a, q14b, q14c, q14d, q14e⟩ := slc_nh (eSl (eI .i64)) hx13
        simp only [vmz] at q14e
        have q14h := q14e
        try simp only [ax11] at q14h
        cases hh
        try simp only [x_target_Sets, seval, -Int.reduceToNat, hr1, t6a, t7a, t16a, t17a, t18a, bx10, ax10, fx10, bx11, ax11, fx11, q14a, q14b, q14c, q14d, q14e, q14h]
        rw [LK_ret]
        refine ⟨_, rfl, ?_⟩
        refine ⟨rfl, ?_⟩
        try simp only [x_target_Sets, seval, -Int.reduceToNat, hr1, t6a, t7a, t16a, t17a, t18a, bx10, ax10, fx10, bx11, ax11, fx11, q14a, q14b, q14c, q14d, q14e, q14h]
      · replace hh := ite_f hb12 hh
        cases hh
        try simp only [x_target_Sets, seval, -Int.reduceToNat, hr1, t6a, t7a, t16a, t17a, t18a, bx10, ax10, fx10, bx11, ax11, fx11]
        rw [LK_normal]
        refine ⟨_, rfl, ?_⟩
        refine ⟨?_, ?_, ?_, ?_, ?_⟩
        all_goals (first | rfl | (simp only [x_target_Sets, seval, -Int.reduceToNat, hr1, t6a, t7a, t16a, t17a, t18a, bx10, ax10, fx10, bx11, ax11, fx11] <;> rfl))
    · replace hh := ite_f hb9 hh
      cases hh
      try simp only [x_target_Sets, seval, -Int.reduceToNat, hr1, t6a, t7a, t16a, t17a, t18a]
      rw [LK_exit]
      refine ⟨_, rfl, ?_⟩
      refine ⟨rfl, ⟨?_, ?_⟩⟩
      all_goals (first | rfl | (simp only [x_target_Sets, seval, -Int.reduceToNat, hr1, t6a, t7a, t16a, t17a, t18a] <;> rfl))
  · rintro x t H e hx
    rcases o8 with _ | ra
    ·
      dsimp only at hx hh
      obtain ⟨rfl, ⟨t6ax, t7ax⟩⟩ := hx
      cases hh
      try simp only [x_target_Sets, seval, -Int.reduceToNat, hr1, t6ax, t7ax]
    ·
      dsimp only at hx hh
      obtain ⟨rfl, hE⟩ := hx
      cases hh
      try simp only [runW_pass_ret, runW_pass_exit, runW_blk_ret, runW_nil, endW_ret]
      exact hE

theorem ok_target_Sets : COk Try.prog 11 G_target_Sets := COk.of (mode := .clean) tok ge_target_Sets mixed Try.func11 (by kernel_rfl) ⟨by kernel_rfl, by kernel_rfl⟩ (fun _ => Nat.le_of_ble_eq_true (by kernel_rfl)) (fun x r h => m_target_Sets x.1 x.2 r h)

noncomputable def G_r47_Before := mkG (asC (aSl (eI .i64)) (as1 (aSl (eI .i64)))) (fun x : (List Int) × (List Int) => r47_Before x.1 x.2) (fun r : Bool => .clean (.bool r))

theorem q_r47_Before (p0 : (List Int)) (p1 : (List Int)) : G_r47_Before none [.sl false false p0.length (encL (eI .i64) p0), .sl false false p1.length (encL (eI .i64) p1)] = (r47_Before p0 p1).map fun r : Bool => (.clean (.bool r), none) := mkG_eq _ _ _ (p0, p1)

theorem m_r47_Before (p0 : (List Int)) (p1 : (List Int)) (r : Bool) (hh : r47_Before p0 p1 = some r) : vfunc .clean tab noEnv FU Try.f24 none [.sl false false p0.length (encL (eI .i64) p0), .sl false false p1.length (encL (eI .i64) p1)] = some (.clean (.bool r), none) := by
  refine vfunc_of rfl Try.ntmps24 Try.results24 ?_
  unfold r47_Before at hh
  try simp only [w, seval, -Int.reduceToNat]
  refine tstC_br (fun hb1 => ?_) (fun hb1 => ?_)
  · replace hh := ite_t hb1 hh
    cases hh
    try simp only [w, seval, -Int.reduceToNat]
  · replace hh := ite_f hb1 hh
    try simp only [w, seval, -Int.reduceToNat]
    obtain ⟨o6, ho6, hh⟩ := bindS hh
    refine runLoop_sim (fun s t H e => match s with | s5a => t 0 = .sl false false p0.length (encL (eI .i64) p0) ∧ t 1 = .sl false false p1.length (encL (eI .i64) p1) ∧ t 5 = .int .i64 s5a) (fun o x t H e => match o with | (.inl _) => x = .exit 0 | (.inr r) => x = .ret ∧ endM .clean tab none [.tmp 4] ⟨t, H, e⟩ = some (.clean (.bool r), none)) ho6 ?_ ?_ ?_
    ·
      refine ⟨?_, ?_, ?_⟩
      all_goals (first | rfl | (simp only [w, seval, -Int.reduceToNat] <;> rfl))
    · rintro s5a t H e ⟨t0a, t1a, t5a⟩ c hh
      simp only [r47_Before_L1] at hh
      try simp only [w, seval, -Int.reduceToNat, t0a, t1a, t5a]
      refine tstC_br (fun hb7 => ?_) (fun hb7 => ?_)
      · replace hh := ite_t hb7 hh
        obtain ⟨x8, hx8, hh⟩ := bindS hh
        have bx8 := idx_bd hx8
        have ax8 := idx_enc (eI .i64) hx8
        have fx8 := idx_fit (eI .i64) hx8
        simp only [vmz] at ax8 fx8
        skip
        obtain ⟨x9, hx9, hh⟩ := bindS hh
        have bx9 := idx_bd hx9
        have ax9 := idx_enc (eI .i64) hx9
        have fx9 := idx_fit (eI .i64) hx9
        simp only [vmz] at ax9 fx9
        skip
        try simp only [w, seval, -Int.reduceToNat, t0a, t1a, t5a, bx8, ax8, fx8, bx9, ax9, fx9]
        refine dyn_ok (by kernel_rfl) ?_
        try simp only [w, seval, -Int.reduceToNat, t0a, t1a, t5a, bx8, ax8, fx8, bx9, ax9, fx9]
        refine tstC_br (fun hb10 => ?_) (fun hb10 => ?_)
        · replace hh := ite_t hb10 hh
          have bx8 := idx_bd hx8
          have ax8 := idx_enc (eI .i64) hx8
          have fx8 := idx_fit (eI .i64) hx8
          simp only [vmz] at ax8 fx8
          skip
          have bx9 := idx_bd hx9
          have ax9 := idx_enc (eI .i64) hx9
          have fx9 := idx_fit (eI .i64) hx9
          simp only [vmz] at ax9 fx9
          skip
          try simp only [w, seval, -Int.reduceToNat, t0a, t1a, t5a, bx8, ax8, fx8, bx9, ax9, fx9, bx8, ax8, fx8, bx9, ax9, fx9]
          refine dyn_ok (by kernel_rfl) ?_
          cases hh
          try simp only [w, seval, -Int.reduceToNat, t0a, t1a, t5a, bx8, ax8, fx8, bx9, ax9, fx9, bx8, ax8, fx8, bx9, ax9, fx9]
          rw [LK_ret]
          refine ⟨_, rfl, ?_⟩
          refine ⟨rfl, ?_⟩
          try simp only [w, seval, -Int.reduceToNat, t0a, t1a, t5a, bx8, ax8, fx8, bx9, ax9, fx9, bx8, ax8, fx8, bx9, ax9, fx9]
        · replace hh := ite_f hb10 hh
          cases hh
          try simp only [w, seval, -Int.reduceToNat, t0a, t1a, t5a, bx8, ax8, fx8, bx9, ax9, fx9]
          rw [LK_normal]
          refine ⟨_, rfl, ?_⟩
          refine ⟨?_, ?_, ?_⟩
          all_goals (first | rfl | (simp only [w, seval, -Int.reduceToNat, t0a, t1a, t5a, bx8, ax8, fx8, bx9, ax9, fx9] <;> rfl))
      · replace hh := ite_f hb7 hh
        cases hh
        try simp only [w, seval, -Int.reduceToNat, t0a, t1a, t5a]
        rw [LK_exit]
        refine ⟨_, rfl, ?_⟩
        exact rfl
    · rintro x t H e hx
      rcases o6 with _ | ra
      ·
        dsimp only at hx hh
        subst hx
        cases hh
        try simp only [w, seval, -Int.reduceToNat]
      ·
        dsimp only at hx hh
        obtain ⟨rfl, hE⟩ := hx
        cases hh
        try simp only [runW_pass_ret, runW_pass_exit, runW_blk_ret, runW_nil, endW_ret]
        exact hE

theorem ok_r47_Before : COk Try.prog 24 G_r47_Before := COk.of (mode := .clean) tok GOk.none mixed Try.func24 (by kernel_rfl) ⟨by kernel_rfl, by kernel_rfl⟩ (fun _ => Nat.le_of_ble_eq_true (by kernel_rfl)) (fun x r h => m_r47_Before x.1 x.2 r h)

noncomputable def G_r47_Same := mkG (asC (aSl (eSl (eI .i64))) (as1 (aSl (eSl (eI .i64))))) (fun x : (List (List Int)) × (List (List Int)) => r47_Same x.1 x.2) (fun r : Bool => .clean (.bool r))

theorem q_r47_Same (p0 : (List (List Int))) (p1 : (List (List Int))) : G_r47_Same none [.sl false false p0.length (encL (eSl (eI .i64)) p0), .sl false false p1.length (encL (eSl (eI .i64)) p1)] = (r47_Same p0 p1).map fun r : Bool => (.clean (.bool r), none) := mkG_eq _ _ _ (p0, p1)

noncomputable def g_r47_Same : Env := (Am.ext noEnv 24 false G_r47_Before)

theorem ge_r47_Same : GOk Try.prog g_r47_Same := (GOk.none.add ok_r47_Before false)

theorem gg_r47_Same : g_r47_Same = (Am.ext noEnv 24 false G_r47_Before) := Eq.trans rfl rfl

theorem x_r47_Same : type_of% (And.intro @w <| And.intro @q_r47_Before <| @gg_r47_Same) := And.intro @w <| And.intro @q_r47_Before <| @gg_r47_Same

theorem m_r47_Same (p0 : (List (List Int))) (p1 : (List (List Int))) (r : Bool) (hh : r47_Same p0 p1 = some r) : vfunc .clean tab g_r47_Same FU Try.f15 none [.sl false false p0.length (encL (eSl (eI .i64)) p0), .sl false false p1.length (encL (eSl (eI .i64)) p1)] = some (.clean (.bool r), none) := by
  refine vfunc_of rfl Try.ntmps15 Try.results15 ?_
  unfold r47_Same at hh
  try simp only [x_r47_Same, seval, -Int.reduceToNat]
  refine tstC_br (fun hb1 => ?_) (fun hb1 => ?_)
  · replace hh := ite_t hb1 hh
    cases hh
    try simp only [x_r47_Same, seval, -Int.reduceToNat]
  · replace hh := ite_f hb1 hh
    try simp only [x_r47_Same, seval, -Int.reduceToNat]
    obtain ⟨o9, ho9, hh⟩ := bindS hh
    refine runLoop_sim (fun s t H e => match s with | s5a => t 0 = .sl false false p0.length (encL (eSl (eI .i64)) p0) ∧ t 1 = .sl false false p1.length (encL (eSl (eI .i64)) p1) ∧ t 5 = .int .i64 s5a) (fun o x t H e => match o with | (.inl _) => x = .exit 0 | (.inr r) => x = .ret ∧ endM .clean tab none [.tmp 4] ⟨t, H, e⟩ = some (.clean (.bool r), none)) ho9 ?_ ?_ ?_
    ·
      refine ⟨?_, ?_, ?_⟩
      all_goals (first | rfl | (simp only [x_r47_Same, seval, -Int.reduceToNat] <;> rfl))
    · rintro s5a t H e ⟨t0a, t1a, t5a⟩ c hh
      simp only [r47_Same_L1] at hh
      try simp only [x_r47_Same, seval, -Int.reduceToNat, t0a, t1a, t5a]
      refine tstC_br (fun hb10 => ?_) (fun hb10 => ?_)
      · replace hh := ite_t hb10 hh
        obtain ⟨x11, hx11, hh⟩ := bindS hh
        have bx11 := idx_bd hx11
        have ax11 := idx_enc (eSl (eI .i64)) hx11
        have fx11 := idx_fit (eSl (eI .i64)) hx11
        simp only [vmz] at ax11 fx11
        skip
        obtain ⟨x12, hx12, hh⟩ := bindS hh
        have bx12 := idx_bd hx12
        have ax12 := idx_enc (eSl (eI .i64)) hx12
        have fx12 := idx_fit (eSl (eI .i64)) hx12
        simp only [vmz] at ax12 fx12
        skip
        obtain ⟨r13, hr13, hh⟩ := bindS hh
        try simp only [x_r47_Same, seval, -Int.reduceToNat, t0a, t1a, t5a, bx11, ax11, fx11, bx12, ax12, fx12, hr13]
        refine tstP_br' (fun hb14 => ?_) (fun hb14 => ?_)
        · replace hh := ite_t hb14 hh
          try simp only [x_r47_Same, seval, -Int.reduceToNat, t0a, t1a, t5a, bx11, ax11, fx11, bx12, ax12, fx12, hr13]
          refine dyn_ok (by kernel_rfl) ?_
          cases hh
          try simp only [x_r47_Same, seval, -Int.reduceToNat, t0a, t1a, t5a, bx11, ax11, fx11, bx12, ax12, fx12, hr13]
          rw [LK_ret]
          refine ⟨_, rfl, ?_⟩
          refine ⟨rfl, ?_⟩
          try simp only [x_r47_Same, seval, -Int.reduceToNat, t0a, t1a, t5a, bx11, ax11, fx11, bx12, ax12, fx12, hr13]
        · replace hh := ite_f hb14 hh
          have bx12 := idx_bd hx12
          have ax12 := idx_enc (eSl (eI .i64)) hx12
          have fx12 := idx_fit (eSl (eI .i64)) hx12
          simp only [vmz] at ax12 fx12
          skip
          have bx11 := idx_bd hx11
          have ax11 := idx_enc (eSl (eI .i64)) hx11
          have fx11 := idx_fit (eSl (eI .i64)) hx11
          simp only [vmz] at ax11 fx11
          skip
          obtain ⟨r15, hr15, hh⟩ := bindS hh
          try simp only [x_r47_Same, seval, -Int.reduceToNat, t0a, t1a, t5a, bx11, ax11, fx11, bx12, ax12, fx12, hr13, bx12, ax12, fx12, bx11, ax11, fx11, hr15]
          refine dyn_ok (by kernel_rfl) ?_
          try simp only [x_r47_Same, seval, -Int.reduceToNat, t0a, t1a, t5a, bx11, ax11, fx11, bx12, ax12, fx12, hr13, bx12, ax12, fx12, bx11, ax11, fx11, hr15]
          refine tstC_br (fun hb16 => ?_) (fun hb16 => ?_)
          · replace hh := ite_t hb16 hh
            cases hh
            try simp only [x_r47_Same, seval, -Int.reduceToNat, t0a, t1a, t5a, bx11, ax11, fx11, bx12, ax12, fx12, hr13, bx12, ax12, fx12, bx11, ax11, fx11, hr15]
            rw [LK_ret]
            refine ⟨_, rfl, ?_⟩
            refine ⟨rfl, ?_⟩
            try simp only [x_r47_Same, seval, -Int.reduceToNat, t0a, t1a, t5a, bx11, ax11, fx11, bx12, ax12, fx12, hr13, bx12, ax12, fx12, bx11, ax11, fx11, hr15]
          · replace hh := ite_f hb16 hh
            cases hh
            try simp only [x_r47_Same, seval, -Int.reduceToNat, t0a, t1a, t5a, bx11, ax11, fx11, bx12, ax12, fx12, hr13, bx12, ax12, fx12, bx11, ax11, fx11, hr15]
            rw [LK_normal]
            refine ⟨_, rfl, ?_⟩
            refine ⟨?_, ?_, ?_⟩
            all_goals (first | rfl | (simp only [x_r47_Same, seval, -Int.reduceToNat, t0a, t1a, t5a, bx11, ax11, fx11, bx12, ax12, fx12, hr13, bx12, ax12, fx12, bx11, ax11, fx11, hr15] <;> rfl))
      · replace hh := ite_f hb10 hh
        cases hh
        try simp only [x_r47_Same, seval, -Int.reduceToNat, t0a, t1a, t5a]
        rw [LK_exit]
        refine ⟨_, rfl, ?_⟩
        exact rfl
    · rintro x t H e hx
      rcases o9 with _ | ra
      ·
        dsimp only at hx hh
        subst hx
        cases hh
        try simp only [x_r47_Same, seval, -Int.reduceToNat]
      ·
        dsimp only at hx hh
        obtain ⟨rfl, hE⟩ := hx
        cases hh
        try simp only [runW_pass_ret, runW_pass_exit, runW_blk_ret, runW_nil, endW_ret]
        exact hE

theorem ok_r47_Same : COk Try.prog 15 G_r47_Same := COk.of (mode := .clean) tok ge_r47_Same mixed Try.func15 (by kernel_rfl) ⟨by kernel_rfl, by kernel_rfl⟩ (fun _ => Nat.le_of_ble_eq_true (by kernel_rfl)) (fun x r h => m_r47_Same x.1 x.2 r h)

noncomputable def G_slices_Equal := mkG (asC (aSl (eI .i64)) (as1 (aSl (eI .i64)))) (fun x : (List Int) × (List Int) => slices_Equal x.1 x.2) (fun r : Bool => .clean (.bool r))

theorem q_slices_Equal (p0 : (List Int)) (p1 : (List Int)) : G_slices_Equal none [.sl false false p0.length (encL (eI .i64) p0), .sl false false p1.length (encL (eI .i64) p1)] = (slices_Equal p0 p1).map fun r : Bool => (.clean (.bool r), none) := mkG_eq _ _ _ (p0, p1)

theorem m_slices_Equal (p0 : (List Int)) (p1 : (List Int)) (r : Bool) (hh : slices_Equal p0 p1 = some r) : vfunc .clean tab noEnv FU Try.f40 none [.sl false false p0.length (encL (eI .i64) p0), .sl false false p1.length (encL (eI .i64) p1)] = some (.clean (.bool r), none) := by
  refine vfunc_of rfl Try.ntmps40 Try.results40 ?_
  unfold slices_Equal at hh
  try simp only [w, seval, -Int.reduceToNat]
  refine tstC_br (fun hb1 => ?_) (fun hb1 => ?_)
  · replace hh := ite_t hb1 hh
    cases hh
    try simp only [w, seval, -Int.reduceToNat]
  · replace hh := ite_f hb1 hh
    try simp only [w, seval, -Int.reduceToNat]
    obtain ⟨o6, ho6, hh⟩ := bindS hh
    refine runLoop_sim (fun s t H e => match s with | s13a => t 0 = .sl false false p0.length (encL (eI .i64) p0) ∧ t 1 = .sl false false p1.length (encL (eI .i64) p1) ∧ t 12 = .int .i64 (p0.length : Int) ∧ t 13 = .int .i64 s13a) (fun o x t H e => match o with | (.inl _) => x = .exit 0 | (.inr r) => x = .ret ∧ endM .clean tab none [.tmp 4] ⟨t, H, e⟩ = some (.clean (.bool r), none)) ho6 ?_ ?_ ?_
    ·
      refine ⟨?_, ?_, ?_, ?_⟩
      all_goals (first | rfl | (simp only [w, seval, -Int.reduceToNat] <;> rfl))
    · rintro s13a t H e ⟨t0a, t1a, t12a, t13a⟩ c hh
      simp only [slices_Equal_L1] at hh
      try simp only [w, seval, -Int.reduceToNat, t0a, t1a, t12a, t13a]
      refine tstC_br (fun hb7 => ?_) (fun hb7 => ?_)
      · replace hh := ite_t hb7 hh
        obtain ⟨x8, hx8, hh⟩ := bindS hh
        have bx8 := idx_bd hx8
        have ax8 := idx_enc (eI .i64) hx8
        have fx8 := idx_fit (eI .i64) hx8
        simp only [vmz] at ax8 fx8
        skip
        obtain ⟨x9, hx9, hh⟩ := bindS hh
        have bx9 := idx_bd hx9
        have ax9 := idx_enc (eI .i64) hx9
        have fx9 := idx_fit (eI .i64) hx9
        simp only [vmz] at ax9 fx9
        skip
        try simp only [w, seval, -Int.reduceToNat, t0a, t1a, t12a, t13a, bx8, ax8, fx8, bx9, ax9, fx9]
        refine dyn_ok (by kernel_rfl) ?_
        try simp only [w, seval, -Int.reduceToNat, t0a, t1a, t12a, t13a, bx8, ax8, fx8, bx9, ax9, fx9]
        refine tstC_br (fun hb10 => ?_) (fun hb10 => ?_)
        · replace hh := ite_t hb10 hh
          cases hh
          try simp only [w, seval, -Int.reduceToNat, t0a, t1a, t12a, t13a, bx8, ax8, fx8, bx9, ax9, fx9]
          rw [LK_ret]
          refine ⟨_, rfl, ?_⟩
          refine ⟨rfl, ?_⟩
          try simp only [w, seval, -Int.reduceToNat, t0a, t1a, t12a, t13a, bx8, ax8, fx8, bx9, ax9, fx9]
        · replace hh := ite_f hb10 hh
          cases hh
          try simp only [w, seval, -Int.reduceToNat, t0a, t1a, t12a, t13a, bx8, ax8, fx8, bx9, ax9, fx9]
          rw [LK_normal]
          refine ⟨_, rfl, ?_⟩
          refine ⟨?_, ?_, ?_, ?_⟩
          all_goals (first | rfl | (simp only [w, seval, -Int.reduceToNat, t0a, t1a, t12a, t13a, bx8, ax8, fx8, bx9, ax9, fx9] <;> rfl))
      · replace hh := ite_f hb7 hh
        cases hh
        try simp only [w, seval, -Int.reduceToNat, t0a, t1a, t12a, t13a]
        rw [LK_exit]
        refine ⟨_, rfl, ?_⟩
        exact rfl
    · rintro x t H e hx
      rcases o6 with _ | ra
      ·
        dsimp only at hx hh
        subst hx
        cases hh
        try simp only [w, seval, -Int.reduceToNat]
      ·
        dsimp only at hx hh
        obtain ⟨rfl, hE⟩ := hx
        cases hh
        try simp only [runW_pass_ret, runW_pass_exit, runW_blk_ret, runW_nil, endW_ret]
        exact hE

theorem ok_slices_Equal : COk Try.prog 40 G_slices_Equal := COk.of (mode := .clean) tok GOk.none mixed Try.func40 (by kernel_rfl) ⟨by kernel_rfl, by kernel_rfl⟩ (fun _ => Nat.le_of_ble_eq_true (by kernel_rfl)) (fun x r h => m_slices_Equal x.1 x.2 r h)

noncomputable def G_slices_EqualFunc_slices_Equal := mkG (asC (aSl (eSl (eI .i64))) (asC (aSl (eSl (eI .i64))) (as1 (aFn 40)))) (fun x : (List (List Int)) × (List (List Int)) × Unit => slices_EqualFunc_slices_Equal x.1 x.2.1) (fun r : Bool => .clean (.bool r))

theorem q_slices_EqualFunc_slices_Equal (p0 : (List (List Int))) (p1 : (List (List Int))) : G_slices_EqualFunc_slices_Equal none [.sl false false p0.length (encL (eSl (eI .i64)) p0), .sl false false p1.length (encL (eSl (eI .i64)) p1), .fn 40] = (slices_EqualFunc_slices_Equal p0 p1).map fun r : Bool => (.clean (.bool r), none) := mkG_eq _ _ _ (p0, p1, ())

noncomputable def g_slices_EqualFunc_slices_Equal : Env := (Am.ext noEnv 40 false G_slices_Equal)

theorem ge_slices_EqualFunc_slices_Equal : GOk Try.prog g_slices_EqualFunc_slices_Equal := (GOk.none.add ok_slices_Equal false)

theorem gg_slices_EqualFunc_slices_Equal : g_slices_EqualFunc_slices_Equal = (Am.ext noEnv 40 false G_slices_Equal) := Eq.trans rfl rfl

theorem x_slices_EqualFunc_slices_Equal : type_of% (And.intro @w <| And.intro @q_slices_Equal <| @gg_slices_EqualFunc_slices_Equal) := And.intro @w <| And.intro @q_slices_Equal <| @gg_slices_EqualFunc_slices_Equal

theorem m_slices_EqualFunc_slices_Equal (p0 : (List (List Int))) (p1 : (List (List Int))) (r : Bool) (hh : slices_EqualFunc_slices_Equal p0 p1 = some r) : vfunc .clean tab g_slices_EqualFunc_slices_Equal FU Try.f39 none [.sl false false p0.length (encL (eSl (eI .i64)) p0), .sl false false p1.length (encL (eSl (eI .i64)) p1), .fn 40] = some (.clean (.bool r), none) := by
  refine vfunc_of rfl Try.ntmps39 Try.results39 ?_
  unfold slices_EqualFunc_slices_Equal at hh
  try simp only [x_slices_EqualFunc_slices_Equal, seval, -Int.reduceToNat]
  refine tstC_br (fun hb1 => ?_) (fun hb1 => ?_)
  · replace hh := ite_t hb1 hh
    cases hh
    try simp only [x_slices_EqualFunc_slices_Equal, seval, -Int.reduceToNat]
  · replace hh := ite_f hb1 hh
    try simp only [x_slices_EqualFunc_slices_Equal, seval, -Int.reduceToNat]
    obtain ⟨o7, ho7, hh⟩ := bindS hh
    refine runLoop_sim (fun s t H e => match s with | s17a => t 1 = .sl false false p1.length (encL (eSl (eI .i64)) p1) ∧ t 2 = .fn 40 ∧ t 15 = .sl false false p0.length (encL (eSl (eI .i64)) p0) ∧ t 16 = .int .i64 (p0.length : Int) ∧ t 17 = .int .i64 s17a) (fun o x t H e => match o with | (.inl _) => x = .exit 0 | (.inr r) => x = .ret ∧ endM .clean tab none [.tmp 6] ⟨t, H, e⟩ = some (.clean (.bool r), none)) ho7 ?_ ?_ ?_
    ·
      refine ⟨?_, ?_, ?_, ?_, ?_⟩
      all_goals (first | rfl | (simp only [x_slices_EqualFunc_slices_Equal, seval, -Int.reduceToNat] <;> rfl))
    · rintro s17a t H e ⟨t1a, t2a, t15a, t16a, t17a⟩ c hh
      simp only [slices_EqualFunc_slices_Equal_L1] at hh
      try simp only [x_slices_EqualFunc_slices_Equal, seval, -Int.reduceToNat, t1a, t2a, t15a, t16a, t17a]
      refine tstC_br (fun hb8 => ?_) (fun hb8 => ?_)
      · replace hh := ite_t hb8 hh
        obtain ⟨x9, hx9, hh⟩ := bindS hh
        have bx9 := idx_bd hx9
        have ax9 := idx_enc (eSl (eI .i64)) hx9
        have fx9 := idx_fit (eSl (eI .i64)) hx9
        simp only [vmz] at ax9 fx9
        skip
        obtain ⟨x10, hx10, hh⟩ := bindS hh
        have bx10 := idx_bd hx10
        have ax10 := idx_enc (eSl (eI .i64)) hx10
        have fx10 := idx_fit (eSl (eI .i64)) hx10
        simp only [vmz] at ax10 fx10
        skip
        obtain ⟨r11, hr11, hh⟩ := bindS hh
        try simp only [x_slices_EqualFunc_slices_Equal, seval, -Int.reduceToNat, t1a, t2a, t15a, t16a, t17a, bx9, ax9, fx9, bx10, ax10, fx10, hr11]
        refine tstC_br (fun hb12 => ?_) (fun hb12 => ?_)
        · replace hh := ite_t hb12 hh
          cases hh
          try simp only [x_slices_EqualFunc_slices_Equal, seval, -Int.reduceToNat, t1a, t2a, t15a, t16a, t17a, bx9, ax9, fx9, bx10, ax10, fx10, hr11]
          rw [LK_ret]
          refine ⟨_, rfl, ?_⟩
          refine ⟨rfl, ?_⟩
          try simp only [x_slices_EqualFunc_slices_Equal, seval, -Int.reduceToNat, t1a, t2a, t15a, t16a, t17a, bx9, ax9, fx9, bx10, ax10, fx10, hr11]
        · replace hh := ite_f hb12 hh
          cases hh
          try simp only [x_slices_EqualFunc_slices_Equal, seval, -Int.reduceToNat, t1a, t2a, t15a, t16a, t17a, bx9, ax9, fx9, bx10, ax10, fx10, hr11]
          rw [LK_normal]
          refine ⟨_, rfl, ?_⟩
          refine ⟨?_, ?_, ?_, ?_, ?_⟩
          all_goals (first | rfl | (simp only [x_slices_EqualFunc_slices_Equal, seval, -Int.reduceToNat, t1a, t2a, t15a, t16a, t17a, bx9, ax9, fx9, bx10, ax10, fx10, hr11] <;> rfl))
      · replace hh := ite_f hb8 hh
        cases hh
        try simp only [x_slices_EqualFunc_slices_Equal, seval, -Int.reduceToNat, t1a, t2a, t15a, t16a, t17a]
        rw [LK_exit]
        refine ⟨_, rfl, ?_⟩
        exact rfl
    · rintro x t H e hx
      rcases o7 with _ | ra
      ·
        dsimp only at hx hh
        subst hx
        cases hh
        try simp only [x_slices_EqualFunc_slices_Equal, seval, -Int.reduceToNat]
      ·
        dsimp only at hx hh
        obtain ⟨rfl, hE⟩ := hx
        cases hh
        try simp only [runW_pass_ret, runW_pass_exit, runW_blk_ret, runW_nil, endW_ret]
        exact hE

theorem ok_slices_EqualFunc_slices_Equal : COk Try.prog 39 G_slices_EqualFunc_slices_Equal := COk.of (mode := .clean) tok ge_slices_EqualFunc_slices_Equal mixed Try.func39 (by kernel_rfl) ⟨by kernel_rfl, by kernel_rfl⟩ (fun _ => Nat.le_of_ble_eq_true (by kernel_rfl)) (fun x r h => m_slices_EqualFunc_slices_Equal x.1 x.2.1 r h)

noncomputable def G_target_Check := mkG (asC (aSl eTFrac) (asC (aAgg eTFrac) (as1 (aSl (eSl (eI .i64)))))) (fun x : (List TFrac) × TFrac × (List (List Int)) => target_Check x.1 x.2.1 x.2.2) (fun r : Bool => .clean (.bool r))

theorem q_target_Check (p0 : (List TFrac)) (p1_0 : Int) (p1_1 : (List Int)) (p1_2 : Int) (p1_3 : (List Int)) (p2 : (List (List Int))) : G_target_Check none [.sl false false p0.length (encL eTFrac p0), .agg [.int .i64 p1_0, .sl false false p1_1.length (encL (eI .i64) p1_1), .int .i64 p1_2, .sl false false p1_3.length (encL (eI .i64) p1_3)], .sl false false p2.length (encL (eSl (eI .i64)) p2)] = (target_Check p0 (TFrac.mk (TBig.mk p1_0 p1_1) (TBig.mk p1_2 p1_3)) p2).map fun r : Bool => (.clean (.bool r), none) := mkG_eq _ _ _ (p0, (TFrac.mk (TBig.mk p1_0 p1_1) (TBig.mk p1_2 p1_3)), p2)

noncomputable def g_target_Check : Env := (Am.ext (Am.ext noEnv 11 false G_target_Sets) 39 false G_slices_EqualFunc_slices_Equal)

theorem ge_target_Check : GOk Try.prog g_target_Check := ((GOk.none.add ok_target_Sets false).add ok_slices_EqualFunc_slices_Equal false)

theorem gg_target_Check : g_target_Check = (Am.ext (Am.ext noEnv 11 false G_target_Sets) 39 false G_slices_EqualFunc_slices_Equal) := Eq.trans rfl rfl

theorem x_target_Check : type_of% (And.intro @w <| And.intro @q_target_Sets <| And.intro @q_slices_EqualFunc_slices_Equal <| @gg_target_Check) := And.intro @w <| And.intro @q_target_Sets <| And.intro @q_slices_EqualFunc_slices_Equal <| @gg_target_Check

theorem m_target_Check (p0 : (List TFrac)) (p1 : TFrac) (p2 : (List (List Int))) (r : Bool) (hh : target_Check p0 p1 p2 = some r) : vfunc .clean tab g_target_Check FU Try.f18 none [.sl false false p0.length (encL eTFrac p0), .agg [.int .i64 p1.f_P.f_Sign, .sl false false p1.f_P.f_Digits.length (encL (eI .i64) p1.f_P.f_Digits), .int .i64 p1.f_Q.f_Sign, .sl false false p1.f_Q.f_Digits.length (encL (eI .i64) p1.f_Q.f_Digits)], .sl false false p2.length (encL (eSl (eI .i64)) p2)] = some (.clean (.bool r), none) := by
  refine vfunc_of rfl Try.ntmps18 Try.results18 ?_
  unfold target_Check at hh
  obtain ⟨r1, hr1, hh⟩ := bindS hh
  try simp only [x_target_Check, seval, -Int.reduceToNat, hr1]
  refine tstO_br (fun hb2 => ?_) (fun hb2 => ?_)
  · replace hh := ite_t hb2 hh
    obtain ⟨r3, hr3, hh⟩ := bindS hh
    cases hh
    try simp only [x_target_Check, seval, -Int.reduceToNat, hr1, hr3]
  · replace hh := ite_f hb2 hh
    cases hh
    try simp only [x_target_Check, seval, -Int.reduceToNat, hr1]

theorem ok_target_Check : COk Try.prog 18 G_target_Check := COk.of (mode := .clean) tok ge_target_Check mixed Try.func18 (by kernel_rfl) ⟨by kernel_rfl, by kernel_rfl⟩ (fun _ => Nat.le_of_ble_eq_true (by kernel_rfl)) (fun x r h => m_target_Check x.1 x.2.1 x.2.2 r h)

noncomputable def G_l47_says := mkG (asC (aI .i64) (as1 (aSl (eSl (eI .i64))))) (fun x : Int × (List (List Int)) => l47_says x.1 x.2) (fun r : Bool => .clean (.bool r))

theorem q_l47_says (p0 : Int) (p1 : (List (List Int))) : G_l47_says none [.int .i64 p0, .sl false false p1.length (encL (eSl (eI .i64)) p1)] = (l47_says p0 p1).map fun r : Bool => (.clean (.bool r), none) := mkG_eq _ _ _ (p0, p1)

noncomputable def g_l47_says : Env := (Am.ext (Am.ext (Am.ext (Am.ext (Am.ext noEnv 11 false G_target_Sets) 13 false G_target_Minimal) 15 false G_r47_Same) 18 false G_target_Check) 27 false G_frac_Int)

theorem ge_l47_says : GOk Try.prog g_l47_says := (((((GOk.none.add ok_target_Sets false).add ok_target_Minimal false).add ok_r47_Same false).add ok_target_Check false).add ok_frac_Int false)

theorem gg_l47_says : g_l47_says = (Am.ext (Am.ext (Am.ext (Am.ext (Am.ext noEnv 11 false G_target_Sets) 13 false G_target_Minimal) 15 false G_r47_Same) 18 false G_target_Check) 27 false G_frac_Int) := Eq.trans rfl rfl

theorem x_l47_says : type_of% (And.intro @w <| And.intro @q_target_Sets <| And.intro @q_target_Minimal <| And.intro @q_r47_Same <| And.intro @q_target_Check <| And.intro @q_frac_Int <| @gg_l47_says) := And.intro @w <| And.intro @q_target_Sets <| And.intro @q_target_Minimal <| And.intro @q_r47_Same <| And.intro @q_target_Check <| And.intro @q_frac_Int <| @gg_l47_says

theorem m_l47_says (p0 : Int) (p1 : (List (List Int))) (r : Bool) (hh : l47_says p0 p1 = some r) : vfunc .clean tab g_l47_says FU Try.f28 none [.int .i64 p0, .sl false false p1.length (encL (eSl (eI .i64)) p1)] = some (.clean (.bool r), none) := by
  refine vfunc_of rfl Try.ntmps28 Try.results28 ?_
  unfold l47_says at hh
  obtain ⟨r1, hr1, hh⟩ := bindS hh
  obtain ⟨r2, hr2, hh⟩ := bindS hh
  obtain ⟨r3, hr3, hh⟩ := bindS hh
  obtain ⟨r4, hr4, hh⟩ := bindS hh
  obtain ⟨r5, hr5, hh⟩ := bindS hh
  have i6 := q_target_Sets ([r1, r2, r3, r4]) r5.f_P.f_Sign r5.f_P.f_Digits r5.f_Q.f_Sign r5.f_Q.f_Digits
  simp only [encL_cons, vmz, List.length_cons, List.length_nil, Nat.zero_add, Nat.reduceAdd, List.length_set] at i6
  obtain ⟨r7, hr7, hh⟩ := bindS hh
  have i8 := q_target_Minimal ([r1, r2, r3, r4]) r5.f_P.f_Sign r5.f_P.f_Digits r5.f_Q.f_Sign r5.f_Q.f_Digits
  simp only [encL_cons, vmz, List.length_cons, List.length_nil, Nat.zero_add, Nat.reduceAdd, List.length_set] at i8
  obtain ⟨r9, hr9, hh⟩ := bindS hh
  try simp only [x_l47_says, seval, -Int.reduceToNat, hr1, hr2, hr3, hr4, hr5, i6, hr7, i8, hr9]
  refine tstO_br (fun hb10 => ?_) (fun hb10 => ?_)
  · replace hh := ite_t hb10 hh
    try simp only [x_l47_says, seval, -Int.reduceToNat, hr1, hr2, hr3, hr4, hr5, i6, hr7, i8, hr9]
    refine tstO_br (fun hb11 => ?_) (fun hb11 => ?_)
    · replace hh := ite_t hb11 hh
      obtain ⟨r12, hr12, hh⟩ := bindS hh
      try simp only [x_l47_says, seval, -Int.reduceToNat, hr1, hr2, hr3, hr4, hr5, i6, hr7, i8, hr9, hr12]
      refine tstO_br (fun hb13 => ?_) (fun hb13 => ?_)
      · replace hh := ite_t hb13 hh
        obtain ⟨r14, hr14, hh⟩ := bindS hh
        try simp only [x_l47_says, seval, -Int.reduceToNat, hr1, hr2, hr3, hr4, hr5, i6, hr7, i8, hr9, hr12, hr14]
        refine tstO_br (fun hb15 => ?_) (fun hb15 => ?_)
        · replace hh := ite_t hb15 hh
          have i16 := q_target_Check ([r1, r2, r3, r4]) r5.f_P.f_Sign r5.f_P.f_Digits r5.f_Q.f_Sign r5.f_Q.f_Digits p1
          simp only [encL_cons, vmz, List.length_cons, List.length_nil, Nat.zero_add, Nat.reduceAdd, List.length_set] at i16
          obtain ⟨r17, hr17, hh⟩ := bindS hh
          cases hh
          try simp only [x_l47_says, seval, -Int.reduceToNat, hr1, hr2, hr3, hr4, hr5, i6, hr7, i8, hr9, hr12, hr14, i16, hr17]
        · replace hh := ite_f hb15 hh
          cases hh
          try simp only [x_l47_says, seval, -Int.reduceToNat, hr1, hr2, hr3, hr4, hr5, i6, hr7, i8, hr9, hr12, hr14]
      · replace hh := ite_f hb13 hh
        cases hh
        try simp only [x_l47_says, seval, -Int.reduceToNat, hr1, hr2, hr3, hr4, hr5, i6, hr7, i8, hr9, hr12]
    · replace hh := ite_f hb11 hh
      cases hh
      try simp only [x_l47_says, seval, -Int.reduceToNat, hr1, hr2, hr3, hr4, hr5, i6, hr7, i8, hr9]
  · replace hh := ite_f hb10 hh
    cases hh
    try simp only [x_l47_says, seval, -Int.reduceToNat, hr1, hr2, hr3, hr4, hr5, i6, hr7, i8, hr9]

theorem ok_l47_says : COk Try.prog 28 G_l47_says := COk.of (mode := .clean) tok ge_l47_says mixed Try.func28 (by kernel_rfl) ⟨by kernel_rfl, by kernel_rfl⟩ (fun _ => Nat.le_of_ble_eq_true (by kernel_rfl)) (fun x r h => m_l47_says x.1 x.2 r h)

noncomputable def G_l47_small := mkG (as0) (fun x : Unit => l47_small) (fun r : Bool => .clean (.bool r))

theorem q_l47_small : G_l47_small none [] = (l47_small).map fun r : Bool => (.clean (.bool r), none) := mkG_eq _ _ _ ()

noncomputable def g_l47_small : Env := (Am.ext (Am.ext (Am.ext (Am.ext noEnv 11 false G_target_Sets) 16 false G_target_Edits) 27 false G_frac_Int) 28 false G_l47_says)

theorem ge_l47_small : GOk Try.prog g_l47_small := ((((GOk.none.add ok_target_Sets false).add ok_target_Edits false).add ok_frac_Int false).add ok_l47_says false)

theorem gg_l47_small : g_l47_small = (Am.ext (Am.ext (Am.ext (Am.ext noEnv 11 false G_target_Sets) 16 false G_target_Edits) 27 false G_frac_Int) 28 false G_l47_says) := Eq.trans rfl rfl

theorem x_l47_small : type_of% (And.intro @w <| And.intro @q_target_Sets <| And.intro @q_target_Edits <| And.intro @q_frac_Int <| And.intro @q_l47_says <| @gg_l47_small) := And.intro @w <| And.intro @q_target_Sets <| And.intro @q_target_Edits <| And.intro @q_frac_Int <| And.intro @q_l47_says <| @gg_l47_small

theorem m_l47_small (r : Bool) (hh : l47_small = some r) : vfunc .clean tab g_l47_small FU Try.f8 none [] = some (.clean (.bool r), none) := by
  refine vfunc_of rfl Try.ntmps8 Try.results8 ?_
  unfold l47_small at hh
  obtain ⟨r1, hr1, hh⟩ := bindS hh
  obtain ⟨r2, hr2, hh⟩ := bindS hh
  obtain ⟨r3, hr3, hh⟩ := bindS hh
  obtain ⟨r4, hr4, hh⟩ := bindS hh
  obtain ⟨r5, hr5, hh⟩ := bindS hh
  have i6 := q_target_Sets ([r1, r2, r3, r4]) r5.f_P.f_Sign r5.f_P.f_Digits r5.f_Q.f_Sign r5.f_Q.f_Digits
  simp only [encL_cons, vmz, List.length_cons, List.length_nil, Nat.zero_add, Nat.reduceAdd, List.length_set] at i6
  obtain ⟨r7, hr7, hh⟩ := bindS hh
  have i8 := q_target_Edits ([r1, r2, r3, r4])
  simp only [encL_cons, vmz, List.length_cons, List.length_nil, Nat.zero_add, Nat.reduceAdd, List.length_set] at i8
  obtain ⟨r9, hr9, hh⟩ := bindS hh
  try simp only [x_l47_small, seval, -Int.reduceToNat, hr1, hr2, hr3, hr4, hr5, i6, hr7, i8, hr9]
  refine tstO_br (fun hb10 => ?_) (fun hb10 => ?_)
  · replace hh := ite_t hb10 hh
    have i11 := q_l47_says 8 ([[0], [1]])
    simp only [encL_cons, vmz, List.length_cons, List.length_nil, Nat.zero_add, Nat.reduceAdd, List.length_set] at i11
    obtain ⟨r12, hr12, hh⟩ := bindS hh
    try simp only [x_l47_small, seval, -Int.reduceToNat, hr1, hr2, hr3, hr4, hr5, i6, hr7, i8, hr9, i11, hr12]
    refine tstO_br (fun hb13 => ?_) (fun hb13 => ?_)
    · replace hh := ite_t hb13 hh
      have i14 := q_l47_says 7 ([[0]])
      simp only [encL_cons, vmz, List.length_cons, List.length_nil, Nat.zero_add, Nat.reduceAdd, List.length_set] at i14
      obtain ⟨r15, hr15, hh⟩ := bindS hh
      try simp only [x_l47_small, seval, -Int.reduceToNat, hr1, hr2, hr3, hr4, hr5, i6, hr7, i8, hr9, i11, hr12, i14, hr15]
      refine tstO_br (fun hb16 => ?_) (fun hb16 => ?_)
      · replace hh := ite_t hb16 hh
        have i17 := q_l47_says 5 ([[0, 1]])
        simp only [encL_cons, vmz, List.length_cons, List.length_nil, Nat.zero_add, Nat.reduceAdd, List.length_set] at i17
        obtain ⟨r18, hr18, hh⟩ := bindS hh
        try simp only [x_l47_small, seval, -Int.reduceToNat, hr1, hr2, hr3, hr4, hr5, i6, hr7, i8, hr9, i11, hr12, i14, hr15, i17, hr18]
        refine tstO_br (fun hb19 => ?_) (fun hb19 => ?_)
        · replace hh := ite_t hb19 hh
          have i20 := q_l47_says 10 ([[]])
          simp only [encL_cons, vmz, List.length_cons, List.length_nil, Nat.zero_add, Nat.reduceAdd, List.length_set] at i20
          obtain ⟨r21, hr21, hh⟩ := bindS hh
          try simp only [x_l47_small, seval, -Int.reduceToNat, hr1, hr2, hr3, hr4, hr5, i6, hr7, i8, hr9, i11, hr12, i14, hr15, i17, hr18, i20, hr21]
          refine tstO_br (fun hb22 => ?_) (fun hb22 => ?_)
          · replace hh := ite_t hb22 hh
            cases hh
            try simp only [x_l47_small, seval, -Int.reduceToNat, hr1, hr2, hr3, hr4, hr5, i6, hr7, i8, hr9, i11, hr12, i14, hr15, i17, hr18, i20, hr21]
          · replace hh := ite_f hb22 hh
            cases hh
            try simp only [x_l47_small, seval, -Int.reduceToNat, hr1, hr2, hr3, hr4, hr5, i6, hr7, i8, hr9, i11, hr12, i14, hr15, i17, hr18, i20, hr21]
        · replace hh := ite_f hb19 hh
          cases hh
          try simp only [x_l47_small, seval, -Int.reduceToNat, hr1, hr2, hr3, hr4, hr5, i6, hr7, i8, hr9, i11, hr12, i14, hr15, i17, hr18]
      · replace hh := ite_f hb16 hh
        cases hh
        try simp only [x_l47_small, seval, -Int.reduceToNat, hr1, hr2, hr3, hr4, hr5, i6, hr7, i8, hr9, i11, hr12, i14, hr15]
    · replace hh := ite_f hb13 hh
      cases hh
      try simp only [x_l47_small, seval, -Int.reduceToNat, hr1, hr2, hr3, hr4, hr5, i6, hr7, i8, hr9, i11, hr12]
  · replace hh := ite_f hb10 hh
    cases hh
    try simp only [x_l47_small, seval, -Int.reduceToNat, hr1, hr2, hr3, hr4, hr5, i6, hr7, i8, hr9]

theorem ok_l47_small : COk Try.prog 8 G_l47_small := COk.of (mode := .clean) tok ge_l47_small mixed Try.func8 (by kernel_rfl) ⟨by kernel_rfl, by kernel_rfl⟩ (fun _ => Nat.le_of_ble_eq_true (by kernel_rfl)) (fun x r h => m_l47_small  r h)

noncomputable def G_r05_Few := mkG (asC (aAgg eTFrac) (as1 (aI .i64))) (fun x : TFrac × Int => r05_Few x.1 x.2) (fun r : Bool => .clean (.bool r))

theorem q_r05_Few (p0_0 : Int) (p0_1 : (List Int)) (p0_2 : Int) (p0_3 : (List Int)) (p1 : Int) : G_r05_Few none [.agg [.int .i64 p0_0, .sl false false p0_1.length (encL (eI .i64) p0_1), .int .i64 p0_2, .sl false false p0_3.length (encL (eI .i64) p0_3)], .int .i64 p1] = (r05_Few (TFrac.mk (TBig.mk p0_0 p0_1) (TBig.mk p0_2 p0_3)) p1).map fun r : Bool => (.clean (.bool r), none) := mkG_eq _ _ _ ((TFrac.mk (TBig.mk p0_0 p0_1) (TBig.mk p0_2 p0_3)), p1)

theorem m_r05_Few (p0 : TFrac) (p1 : Int) (r : Bool) (hh : r05_Few p0 p1 = some r) : vfunc .clean tab noEnv FU Try.f29 none [.agg [.int .i64 p0.f_P.f_Sign, .sl false false p0.f_P.f_Digits.length (encL (eI .i64) p0.f_P.f_Digits), .int .i64 p0.f_Q.f_Sign, .sl false false p0.f_Q.f_Digits.length (encL (eI .i64) p0.f_Q.f_Digits)], .int .i64 p1] = some (.clean (.bool r), none) := by
  refine vfunc_of rfl Try.ntmps29 Try.results29 ?_
  unfold r05_Few at hh
  try simp only [w, seval, -Int.reduceToNat]
  refine tstO_br (fun hb1 => ?_) (fun hb1 => ?_)
  · replace hh := ite_t hb1 hh
    cases hh
    try simp only [w, seval, -Int.reduceToNat]
  · replace hh := ite_f hb1 hh
    cases hh
    try simp only [w, seval, -Int.reduceToNat]

theorem ok_r05_Few : COk Try.prog 29 G_r05_Few := COk.of (mode := .clean) tok GOk.none mixed Try.func29 (by kernel_rfl) ⟨by kernel_rfl, by kernel_rfl⟩ (fun _ => Nat.le_of_ble_eq_true (by kernel_rfl)) (fun x r h => m_r05_Few x.1 x.2 r h)

noncomputable def G_r47_Few := mkG (asC (aSl eTFrac) (as1 (aAgg eTFrac))) (fun x : (List TFrac) × TFrac => r47_Few x.1 x.2) (fun r : Bool => .clean (.bool r))

theorem q_r47_Few (p0 : (List TFrac)) (p1_0 : Int) (p1_1 : (List Int)) (p1_2 : Int) (p1_3 : (List Int)) : G_r47_Few none [.sl false false p0.length (encL eTFrac p0), .agg [.int .i64 p1_0, .sl false false p1_1.length (encL (eI .i64) p1_1), .int .i64 p1_2, .sl false false p1_3.length (encL (eI .i64) p1_3)]] = (r47_Few p0 (TFrac.mk (TBig.mk p1_0 p1_1) (TBig.mk p1_2 p1_3))).map fun r : Bool => (.clean (.bool r), none) := mkG_eq _ _ _ (p0, (TFrac.mk (TBig.mk p1_0 p1_1) (TBig.mk p1_2 p1_3)))

noncomputable def g_r47_Few : Env := (Am.ext noEnv 29 false G_r05_Few)

theorem ge_r47_Few : GOk Try.prog g_r47_Few := (GOk.none.add ok_r05_Few false)

theorem gg_r47_Few : g_r47_Few = (Am.ext noEnv 29 false G_r05_Few) := Eq.trans rfl rfl

theorem x_r47_Few : type_of% (And.intro @w <| And.intro @q_r05_Few <| @gg_r47_Few) := And.intro @w <| And.intro @q_r05_Few <| @gg_r47_Few

theorem m_r47_Few (p0 : (List TFrac)) (p1 : TFrac) (r : Bool) (hh : r47_Few p0 p1 = some r) : vfunc .clean tab g_r47_Few FU Try.f9 none [.sl false false p0.length (encL eTFrac p0), .agg [.int .i64 p1.f_P.f_Sign, .sl false false p1.f_P.f_Digits.length (encL (eI .i64) p1.f_P.f_Digits), .int .i64 p1.f_Q.f_Sign, .sl false false p1.f_Q.f_Digits.length (encL (eI .i64) p1.f_Q.f_Digits)]] = some (.clean (.bool r), none) := by
  refine vfunc_of rfl Try.ntmps9 Try.results9 ?_
  unfold r47_Few at hh
  try simp only [x_r47_Few, seval, -Int.reduceToNat]
  obtain ⟨o7, ho7, hh⟩ := bindS hh
  refine runLoop_sim (fun s t H e => match s with | s5a => ∃ v3a : Nat, t 0 = .sl false false p0.length (encL eTFrac p0) ∧ t 3 = .ptr 3 v3a 0 ∧ t 5 = .int .i64 s5a ∧ H 3 = some ⟨v3a, 27, [.int .i64 p1.f_P.f_Sign, .sl false false p1.f_P.f_Digits.length (encL (eI .i64) p1.f_P.f_Digits), .int .i64 p1.f_Q.f_Sign, .sl false false p1.f_Q.f_Digits.length (encL (eI .i64) p1.f_Q.f_Digits)], false, false⟩) (fun o x t H e => match o with | (.inl _) => x = .exit 0 ∧ ∃ v3ax : Nat, t 0 = .sl false false p0.length (encL eTFrac p0) ∧ t 3 = .ptr 3 v3ax 0 ∧ H 3 = some ⟨v3ax, 27, [.int .i64 p1.f_P.f_Sign, .sl false false p1.f_P.f_Digits.length (encL (eI .i64) p1.f_P.f_Digits), .int .i64 p1.f_Q.f_Sign, .sl false false p1.f_Q.f_Digits.length (encL (eI .i64) p1.f_Q.f_Digits)], false, false⟩ | (.inr r) => x = .ret ∧ endM .clean tab none [.tmp 4] ⟨t, H, e⟩ = some (.clean (.bool r), none)) ho7 ?_ ?_ ?_
  ·
    refine ⟨0, ?_, ?_, ?_, ?_⟩
    all_goals (first | rfl | (simp only [x_r47_Few, seval, -Int.reduceToNat] <;> rfl))
  · rintro s5a t H e ⟨v3a, t0a, t3a, t5a, H3a⟩ c hh
    simp only [r47_Few_L1] at hh
    try simp only [x_r47_Few, seval, -Int.reduceToNat, t0a, t3a, t5a, H3a]
    obtain ⟨o8, ho8, hh⟩ := bindS hh
    refine tstO_cut 0 (fun s t H e => match s with | s14j3 => ∃ v3j3 : Nat, t 0 = .sl false false p0.length (encL eTFrac p0) ∧ t 3 = .ptr 3 v3j3 0 ∧ t 5 = .int .i64 s5a ∧ t 14 = .bool s14j3 ∧ H 3 = some ⟨v3j3, 27, [.int .i64 p1.f_P.f_Sign, .sl false false p1.f_P.f_Digits.length (encL (eI .i64) p1.f_P.f_Digits), .int .i64 p1.f_Q.f_Sign, .sl false false p1.f_Q.f_Digits.length (encL (eI .i64) p1.f_Q.f_Digits)], false, false⟩) (fun s => s = o8) ?_ ?_
    · rintro s14j3 t H e ⟨v3j3, t0j3, t3j3, t5j3, t14j3, H3j3⟩ rfl
      try dsimp only at hh
      try simp only [x_r47_Few, seval, -Int.reduceToNat, t0j3, t3j3, t5j3, t14j3, H3j3]
      refine tstC_br (fun hb9 => ?_) (fun hb9 => ?_)
      · replace hh := ite_t hb9 hh
        obtain ⟨x10, hx10, hh⟩ := bindS hh
        have bx10 := idx_bd hx10
        have ax10 := idx_enc eTFrac hx10
        have fx10 := idx_fit eTFrac hx10
        simp only [vmz] at ax10 fx10
        skip
        obtain ⟨r11, hr11, hh⟩ := bindS hh
        try simp only [x_r47_Few, seval, -Int.reduceToNat, t0j3, t3j3, t5j3, t14j3, H3j3, bx10, ax10, fx10, hr11]
        refine tstC_br (fun hb12 => ?_) (fun hb12 => ?_)
        · replace hh := ite_t hb12 hh
          cases hh
          try simp only [x_r47_Few, seval, -Int.reduceToNat, t0j3, t3j3, t5j3, t14j3, H3j3, bx10, ax10, fx10, hr11]
          rw [LK_ret]
          refine ⟨_, rfl, ?_⟩
          refine ⟨rfl, ?_⟩
          try simp only [x_r47_Few, seval, -Int.reduceToNat, t0j3, t3j3, t5j3, t14j3, H3j3, bx10, ax10, fx10, hr11]
        · replace hh := ite_f hb12 hh
          cases hh
          try simp only [x_r47_Few, seval, -Int.reduceToNat, t0j3, t3j3, t5j3, t14j3, H3j3, bx10, ax10, fx10, hr11]
          rw [LK_normal]
          refine ⟨_, rfl, ?_⟩
          refine ⟨v3j3, ?_, ?_, ?_, ?_⟩
          all_goals (first | rfl | (simp only [x_r47_Few, seval, -Int.reduceToNat, t0j3, t3j3, t5j3, t14j3, H3j3, bx10, ax10, fx10, hr11] <;> rfl))
      · replace hh := ite_f hb9 hh
        cases hh
        try simp only [x_r47_Few, seval, -Int.reduceToNat, t0j3, t3j3, t5j3, t14j3, H3j3]
        rw [LK_exit]
        refine ⟨_, rfl, ?_⟩
        refine ⟨rfl, ⟨v3j3, ?_, ?_, ?_⟩⟩
        all_goals (first | rfl | (simp only [x_r47_Few, seval, -Int.reduceToNat, t0j3, t3j3, t5j3, t14j3, H3j3] <;> rfl))
    ·
      clear hh
      have hh := ho8
      try simp only [x_r47_Few, seval, -Int.reduceToNat, t0a, t3a, t5a, H3a]
      refine tstO_br (fun hb13 => ?_) (fun hb13 => ?_)
      · replace hh := ite_t hb13 hh
        cases hh
        try simp only [x_r47_Few, seval, -Int.reduceToNat, t0a, t3a, t5a, H3a]
        rw [CK_normal]
        refine ⟨_, rfl, ?_⟩
        refine ⟨v3a, ?_, ?_, ?_, ?_, ?_⟩
        all_goals (first | rfl | (simp only [x_r47_Few, seval, -Int.reduceToNat, t0a, t3a, t5a, H3a] <;> rfl))
      · replace hh := ite_f hb13 hh
        cases hh
        try simp only [x_r47_Few, seval, -Int.reduceToNat, t0a, t3a, t5a, H3a]
        rw [CK_normal]
        refine ⟨_, rfl, ?_⟩
        refine ⟨v3a, ?_, ?_, ?_, ?_, ?_⟩
        all_goals (first | rfl | (simp only [x_r47_Few, seval, -Int.reduceToNat, t0a, t3a, t5a, H3a] <;> rfl))
  · rintro x t H e hx
    rcases o7 with _ | ra
    ·
      dsimp only at hx hh
      obtain ⟨rfl, ⟨v3ax, t0ax, t3ax, H3ax⟩⟩ := hx
      obtain ⟨r14, hr14, hh⟩ := bindS hh
      try simp only [x_r47_Few, seval, -Int.reduceToNat, t0ax, t3ax, H3ax, hr14]
      refine tstO_br (fun hb15 => ?_) (fun hb15 => ?_)
      · replace hh := ite_t hb15 hh
        try simp only [x_r47_Few, seval, -Int.reduceToNat, t0ax, t3ax, H3ax, hr14]
        refine tstO_br' (fun hb16 => ?_) (fun hb16 => ?_)
        · replace hh := ite_t hb16 hh
          cases hh
          try simp only [x_r47_Few, seval, -Int.reduceToNat, t0ax, t3ax, H3ax, hr14]
        · replace hh := ite_f hb16 hh
          try simp only [x_r47_Few, seval, -Int.reduceToNat, t0ax, t3ax, H3ax, hr14]
          refine tstO_br (fun hb17 => ?_) (fun hb17 => ?_)
          · replace hh := ite_t hb17 hh
            try simp only [x_r47_Few, seval, -Int.reduceToNat, t0ax, t3ax, H3ax, hr14]
            refine tstO_br' (fun hb18 => ?_) (fun hb18 => ?_)
            · replace hh := ite_t hb18 hh
              cases hh
              try simp only [x_r47_Few, seval, -Int.reduceToNat, t0ax, t3ax, H3ax, hr14]
            · replace hh := ite_f hb18 hh
              cases hh
              try simp only [x_r47_Few, seval, -Int.reduceToNat, t0ax, t3ax, H3ax, hr14]
          · replace hh := ite_f hb17 hh
            cases hh
            try simp only [x_r47_Few, seval, -Int.reduceToNat, t0ax, t3ax, H3ax, hr14]
      · replace hh := ite_f hb15 hh
        cases hh
        try simp only [x_r47_Few, seval, -Int.reduceToNat, t0ax, t3ax, H3ax, hr14]
    ·
      dsimp only at hx hh
      obtain ⟨rfl, hE⟩ := hx
      cases hh
      try simp only [runW_pass_ret, runW_pass_exit, runW_blk_ret, runW_nil, endW_ret]
      exact hE

theorem ok_r47_Few : COk Try.prog 9 G_r47_Few := COk.of (mode := .clean) tok ge_r47_Few mixed Try.func9 (by kernel_rfl) ⟨by kernel_rfl, by kernel_rfl⟩ (fun _ => Nat.le_of_ble_eq_true (by kernel_rfl)) (fun x r h => m_r47_Few x.1 x.2 r h)

noncomputable def G_l47_bits := mkG (asC (aSl (eI .i64)) (as1 (aI .i64))) (fun x : (List Int) × Int => l47_bits x.1 x.2) (fun r : Int => .clean (.int .i64 r))

theorem q_l47_bits (p0 : (List Int)) (p1 : Int) : G_l47_bits none [.sl false false p0.length (encL (eI .i64) p0), .int .i64 p1] = (l47_bits p0 p1).map fun r : Int => (.clean (.int .i64 r), none) := mkG_eq _ _ _ (p0, p1)

theorem m_l47_bits (p0 : (List Int)) (p1 : Int) (r : Int) (hh : l47_bits p0 p1 = some r) : vfunc .clean tab noEnv FU Try.f22 none [.sl false false p0.length (encL (eI .i64) p0), .int .i64 p1] = some (.clean (.int .i64 r), none) := by
  refine vfunc_of rfl Try.ntmps22 Try.results22 ?_
  unfold l47_bits at hh
  try simp only [w, seval, -Int.reduceToNat]
  obtain ⟨o11, ho11, hh⟩ := bindS hh
  refine runLoop_sim (fun s t H e => match s with | (s5a, s6a) => t 0 = .sl false false p0.length (encL (eI .i64) p0) ∧ t 1 = .int .i64 p1 ∧ t 5 = .int .i64 s5a ∧ t 6 = .int .i64 s6a) (fun o x t H e => match o with | (.inl s5ax) => x = .exit 0 ∧ t 5 = .int .i64 s5ax | (.inr r) => x = .ret ∧ endM .clean tab none [.tmp 4] ⟨t, H, e⟩ = some (.clean (.int .i64 r), none)) ho11 ?_ ?_ ?_
  ·
    refine ⟨?_, ?_, ?_, ?_⟩
    all_goals (first | rfl | (simp only [w, seval, -Int.reduceToNat] <;> rfl))
  · rintro ⟨s5a, s6a⟩ t H e ⟨t0a, t1a, t5a, t6a⟩ c hh
    simp only [l47_bits_L1] at hh
    try simp only [w, seval, -Int.reduceToNat, t0a, t1a, t5a, t6a]
    refine tstC_br (fun hb12 => ?_) (fun hb12 => ?_)
    · replace hh := ite_t hb12 hh
      obtain ⟨x13, hx13, hh⟩ := bindS hh
      have bx13 := idx_bd hx13
      have ax13 := idx_enc (eI .i64) hx13
      have fx13 := idx_fit (eI .i64) hx13
      simp only [vmz] at ax13 fx13
      skip
      try simp only [w, seval, -Int.reduceToNat, t0a, t1a, t5a, t6a, bx13, ax13, fx13]
      obtain ⟨o14, ho14, hh⟩ := bindS hh
      refine tstP_cut 0 (fun s t H e => match s with | s42j3 => t 0 = .sl false false p0.length (encL (eI .i64) p0) ∧ t 1 = .int .i64 p1 ∧ t 5 = .int .i64 s5a ∧ t 6 = .int .i64 s6a ∧ t 42 = .bool s42j3) (fun s => s = o14) ?_ ?_
      · rintro s42j3 t H e ⟨t0j3, t1j3, t5j3, t6j3, t42j3⟩ rfl
        try dsimp only at hh
        try simp only [w, seval, -Int.reduceToNat, bx13, ax13, fx13, t0j3, t1j3, t5j3, t6j3, t42j3]
        refine tstC_br (fun hb15 => ?_) (fun hb15 => ?_)
        · replace hh := ite_t hb15 hh
          cases hh
          try simp only [w, seval, -Int.reduceToNat, bx13, ax13, fx13, t0j3, t1j3, t5j3, t6j3, t42j3]
          rw [LK_ret]
          refine ⟨_, rfl, ?_⟩
          refine ⟨rfl, ?_⟩
          try simp only [w, seval, -Int.reduceToNat, bx13, ax13, fx13, t0j3, t1j3, t5j3, t6j3, t42j3]
        · replace hh := ite_f hb15 hh
          have bx13 := idx_bd hx13
          have ax13 := idx_enc (eI .i64) hx13
          have fx13 := idx_fit (eI .i64) hx13
          simp only [vmz] at ax13 fx13
          skip
          obtain ⟨x16, hx16, hh⟩ := bindS hh
          obtain ⟨q17a, q17b⟩ := shlI_ok hx16
          cases hh
          try simp only [w, seval, -Int.reduceToNat, bx13, ax13, fx13, t0j3, t1j3, t5j3, t6j3, t42j3, bx13, ax13, fx13, q17a, q17b]
          rw [LK_normal]
          refine ⟨_, rfl, ?_⟩
          refine ⟨?_, ?_, ?_, ?_⟩
          all_goals (first | rfl | (simp only [w, seval, -Int.reduceToNat, bx13, ax13, fx13, t0j3, t1j3, t5j3, t6j3, t42j3, bx13, ax13, fx13, q17a, q17b] <;> rfl))
      ·
        clear hh
        have hh := ho14
        try simp only [w, seval, -Int.reduceToNat, t0a, t1a, t5a, t6a, bx13, ax13, fx13]
        refine tstP_br' (fun hb18 => ?_) (fun hb18 => ?_)
        · replace hh := ite_t hb18 hh
          try simp only [w, seval, -Int.reduceToNat, t0a, t1a, t5a, t6a, bx13, ax13, fx13]
          refine dyn_ok (by kernel_rfl) ?_
          cases hh
          try simp only [w, seval, -Int.reduceToNat, t0a, t1a, t5a, t6a, bx13, ax13, fx13]
          rw [CK_normal]
          refine ⟨_, rfl, ?_⟩
          refine ⟨?_, ?_, ?_, ?_, ?_⟩
          all_goals (first | rfl | (simp only [w, seval, -Int.reduceToNat, t0a, t1a, t5a, t6a, bx13, ax13, fx13] <;> rfl))
        · replace hh := ite_f hb18 hh
          have bx13 := idx_bd hx13
          have ax13 := idx_enc (eI .i64) hx13
          have fx13 := idx_fit (eI .i64) hx13
          simp only [vmz] at ax13 fx13
          skip
          try simp only [w, seval, -Int.reduceToNat, t0a, t1a, t5a, t6a, bx13, ax13, fx13, bx13, ax13, fx13]
          refine tstP_br' (fun hb19 => ?_) (fun hb19 => ?_)
          · replace hh := ite_t hb19 hh
            try simp only [w, seval, -Int.reduceToNat, t0a, t1a, t5a, t6a, bx13, ax13, fx13, bx13, ax13, fx13]
            refine dyn_ok (by kernel_rfl) ?_
            cases hh
            try simp only [w, seval, -Int.reduceToNat, t0a, t1a, t5a, t6a, bx13, ax13, fx13, bx13, ax13, fx13]
            rw [CK_normal]
            refine ⟨_, rfl, ?_⟩
            refine ⟨?_, ?_, ?_, ?_, ?_⟩
            all_goals (first | rfl | (simp only [w, seval, -Int.reduceToNat, t0a, t1a, t5a, t6a, bx13, ax13, fx13, bx13, ax13, fx13] <;> rfl))
          · replace hh := ite_f hb19 hh
            try simp only [w, seval, -Int.reduceToNat, t0a, t1a, t5a, t6a, bx13, ax13, fx13, bx13, ax13, fx13]
            refine tstP_br (fun hb20 => ?_) (fun hb20 => ?_)
            · replace hh := ite_t hb20 hh
              obtain ⟨x21, hx21, hh⟩ := bindS hh
              have bx21 := idx_bd hx21
              have ax21 := idx_enc (eI .i64) hx21
              have fx21 := idx_fit (eI .i64) hx21
              simp only [vmz] at ax21 fx21
              skip
              have bx13 := idx_bd hx13
              have ax13 := idx_enc (eI .i64) hx13
              have fx13 := idx_fit (eI .i64) hx13
              simp only [vmz] at ax13 fx13
              skip
              try simp only [w, seval, -Int.reduceToNat, t0a, t1a, t5a, t6a, bx13, ax13, fx13, bx13, ax13, fx13, bx21, ax21, fx21, bx13, ax13, fx13]
              refine dyn_ok (by kernel_rfl) ?_
              cases hh
              try simp only [w, seval, -Int.reduceToNat, t0a, t1a, t5a, t6a, bx13, ax13, fx13, bx13, ax13, fx13, bx21, ax21, fx21, bx13, ax13, fx13]
              rw [CK_normal]
              refine ⟨_, rfl, ?_⟩
              refine ⟨?_, ?_, ?_, ?_, ?_⟩
              all_goals (first | rfl | (simp only [w, seval, -Int.reduceToNat, t0a, t1a, t5a, t6a, bx13, ax13, fx13, bx13, ax13, fx13, bx21, ax21, fx21, bx13, ax13, fx13] <;> rfl))
            · replace hh := ite_f hb20 hh
              try simp only [w, seval, -Int.reduceToNat, t0a, t1a, t5a, t6a, bx13, ax13, fx13, bx13, ax13, fx13]
              refine dyn_ok (by kernel_rfl) ?_
              cases hh
              try simp only [w, seval, -Int.reduceToNat, t0a, t1a, t5a, t6a, bx13, ax13, fx13, bx13, ax13, fx13]
              rw [CK_normal]
              refine ⟨_, rfl, ?_⟩
              refine ⟨?_, ?_, ?_, ?_, ?_⟩
              all_goals (first | rfl | (simp only [w, seval, -Int.reduceToNat, t0a, t1a, t5a, t6a, bx13, ax13, fx13, bx13, ax13, fx13] <;> rfl))
    · replace hh := ite_f hb12 hh
      cases hh
      try simp only [w, seval, -Int.reduceToNat, t0a, t1a, t5a, t6a]
      rw [LK_exit]
      refine ⟨_, rfl, ?_⟩
      refine ⟨rfl, ?_⟩
      all_goals (first | rfl | (simp only [w, seval, -Int.reduceToNat, t0a, t1a, t5a, t6a] <;> rfl))
  · rintro x t H e hx
    rcases o11 with s5ax | ra
    ·
      dsimp only at hx hh
      obtain ⟨rfl, t5ax⟩ := hx
      cases hh
      try simp only [w, seval, -Int.reduceToNat, t5ax]
    ·
      dsimp only at hx hh
      obtain ⟨rfl, hE⟩ := hx
      cases hh
      try simp only [runW_pass_ret, runW_pass_exit, runW_blk_ret, runW_nil, endW_ret]
      exact hE

theorem ok_l47_bits : COk Try.prog 22 G_l47_bits := COk.of (mode := .clean) tok GOk.none mixed Try.func22 (by kernel_rfl) ⟨by kernel_rfl, by kernel_rfl⟩ (fun _ => Nat.le_of_ble_eq_true (by kernel_rfl)) (fun x r h => m_l47_bits x.1 x.2 r h)

noncomputable def G_l47_many := mkG (as1 (aI .i64)) (fun x : Int => l47_many x) (fun r : Int => .clean (.int .i64 r))

theorem q_l47_many (p0 : Int) : G_l47_many none [.int .i64 p0] = (l47_many p0).map fun r : Int => (.clean (.int .i64 r), none) := mkG_eq _ _ _ (p0)

theorem m_l47_many (p0 : Int) (r : Int) (hh : l47_many p0 = some r) : vfunc .clean tab noEnv FU Try.f23 none [.int .i64 p0] = some (.clean (.int .i64 r), none) := by
  refine vfunc_of rfl Try.ntmps23 Try.results23 ?_
  unfold l47_many at hh
  try simp only [w, seval, -Int.reduceToNat]
  obtain ⟨o4, ho4, hh⟩ := bindS hh
  refine runLoop_sim (fun s t H e => match s with | (s0a, s3a) => t 0 = .int .i64 s0a ∧ t 3 = .int .i64 s3a) (fun o x t H e => match o with | s3ax => x = .exit 0 ∧ t 3 = .int .i64 s3ax) ho4 ?_ ?_ ?_
  ·
    refine ⟨?_, ?_⟩
    all_goals (first | rfl | (simp only [w, seval, -Int.reduceToNat] <;> rfl))
  · rintro ⟨s0a, s3a⟩ t H e ⟨t0a, t3a⟩ c hh
    simp only [l47_many_L1] at hh
    try simp only [w, seval, -Int.reduceToNat, t0a, t3a]
    refine tstC_br (fun hb5 => ?_) (fun hb5 => ?_)
    · replace hh := ite_t hb5 hh
      obtain ⟨x6, hx6, hh⟩ := bindS hh
      obtain ⟨q7a, q7b⟩ := shrI_ok hx6
      cases hh
      try simp only [w, seval, -Int.reduceToNat, t0a, t3a, q7a, q7b]
      rw [LK_normal]
      refine ⟨_, rfl, ?_⟩
      refine ⟨?_, ?_⟩
      all_goals (first | rfl | (simp only [w, seval, -Int.reduceToNat, t0a, t3a, q7a, q7b] <;> rfl))
    · replace hh := ite_f hb5 hh
      cases hh
      try simp only [w, seval, -Int.reduceToNat, t0a, t3a]
      rw [LK_exit]
      refine ⟨_, rfl, ?_⟩
      refine ⟨rfl, ?_⟩
      all_goals (first | rfl | (simp only [w, seval, -Int.reduceToNat, t0a, t3a] <;> rfl))
  · rintro x t H e hx
    obtain ⟨s3ax, rfl⟩ : ∃ z, z = o4 := ⟨_, rfl⟩
    dsimp only at hx hh
    obtain ⟨rfl, t3ax⟩ := hx
    cases hh
    try simp only [w, seval, -Int.reduceToNat, t3ax]

theorem ok_l47_many : COk Try.prog 23 G_l47_many := COk.of (mode := .clean) tok GOk.none mixed Try.func23 (by kernel_rfl) ⟨by kernel_rfl, by kernel_rfl⟩ (fun _ => Nat.le_of_ble_eq_true (by kernel_rfl)) (fun x r h => m_l47_many x r h)
end Go.Proofs.Ytadpbhbkdnfbpaa.Am
