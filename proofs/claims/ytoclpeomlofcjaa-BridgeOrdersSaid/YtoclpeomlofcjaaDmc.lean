/- The machine computes the plain functions (written by wip/dec.py). -/
import Derived.Test.YtoclpeomlofcjaaDmb
namespace Go.Proofs.Ytoclpeomlofcjaa.Am
open Go.RowKit Go.Proofs.Ytoclpeomlofcjaa.P
set_option maxRecDepth 100000
set_option maxHeartbeats 4000000
set_option linter.unusedSimpArgs false
set_option linter.unusedVariables false

noncomputable def G_bridge_add := mkG (asC (aAgg eTFrac) (as1 (aAgg eTFrac))) (fun x : TFrac × TFrac => bridge_add x.1 x.2) (fun r : TFrac => .clean (.agg [.int .i64 r.f_P.f_Sign, .sl false false r.f_P.f_Digits.length (encL (eI .i64) r.f_P.f_Digits), .int .i64 r.f_Q.f_Sign, .sl false false r.f_Q.f_Digits.length (encL (eI .i64) r.f_Q.f_Digits)]))

theorem q_bridge_add (p0_0 : Int) (p0_1 : (List Int)) (p0_2 : Int) (p0_3 : (List Int)) (p1_0 : Int) (p1_1 : (List Int)) (p1_2 : Int) (p1_3 : (List Int)) : G_bridge_add none [.agg [.int .i64 p0_0, .sl false false p0_1.length (encL (eI .i64) p0_1), .int .i64 p0_2, .sl false false p0_3.length (encL (eI .i64) p0_3)], .agg [.int .i64 p1_0, .sl false false p1_1.length (encL (eI .i64) p1_1), .int .i64 p1_2, .sl false false p1_3.length (encL (eI .i64) p1_3)]] = (bridge_add (TFrac.mk (TBig.mk p0_0 p0_1) (TBig.mk p0_2 p0_3)) (TFrac.mk (TBig.mk p1_0 p1_1) (TBig.mk p1_2 p1_3))).map fun r : TFrac => (.clean (.agg [.int .i64 r.f_P.f_Sign, .sl false false r.f_P.f_Digits.length (encL (eI .i64) r.f_P.f_Digits), .int .i64 r.f_Q.f_Sign, .sl false false r.f_Q.f_Digits.length (encL (eI .i64) r.f_Q.f_Digits)]), none) := mkG_eq _ _ _ ((TFrac.mk (TBig.mk p0_0 p0_1) (TBig.mk p0_2 p0_3)), (TFrac.mk (TBig.mk p1_0 p1_1) (TBig.mk p1_2 p1_3)))

noncomputable def g_bridge_add : Env := (Am.ext noEnv 25 false G_frac_Add)

theorem ge_bridge_add : GOk Try.prog g_bridge_add := (GOk.none.add ok_frac_Add false)

theorem gg_bridge_add : g_bridge_add = (Am.ext noEnv 25 false G_frac_Add) := Eq.trans rfl rfl

theorem x_bridge_add : type_of% (And.intro @w <| And.intro @q_frac_Add <| @gg_bridge_add) := And.intro @w <| And.intro @q_frac_Add <| @gg_bridge_add

theorem m_bridge_add (p0 : TFrac) (p1 : TFrac) (r : TFrac) (hh : bridge_add p0 p1 = some r) : vfunc .clean tab g_bridge_add FU Try.f53 none [.agg [.int .i64 p0.f_P.f_Sign, .sl false false p0.f_P.f_Digits.length (encL (eI .i64) p0.f_P.f_Digits), .int .i64 p0.f_Q.f_Sign, .sl false false p0.f_Q.f_Digits.length (encL (eI .i64) p0.f_Q.f_Digits)], .agg [.int .i64 p1.f_P.f_Sign, .sl false false p1.f_P.f_Digits.length (encL (eI .i64) p1.f_P.f_Digits), .int .i64 p1.f_Q.f_Sign, .sl false false p1.f_Q.f_Digits.length (encL (eI .i64) p1.f_Q.f_Digits)]] = some (.clean (.agg [.int .i64 r.f_P.f_Sign, .sl false false r.f_P.f_Digits.length (encL (eI .i64) r.f_P.f_Digits), .int .i64 r.f_Q.f_Sign, .sl false false r.f_Q.f_Digits.length (encL (eI .i64) r.f_Q.f_Digits)]), none) := by
  refine vfunc_of rfl Try.ntmps53 Try.results53 ?_
  unfold bridge_add at hh
  obtain ⟨r1, hr1, hh⟩ := bindS hh
  cases hh
  try simp only [x_bridge_add, seval, -Int.reduceToNat, hr1]

theorem ok_bridge_add : COk Try.prog 53 G_bridge_add := COk.of (mode := .clean) tok ge_bridge_add mixed Try.func53 (by kernel_rfl) ⟨by kernel_rfl, by kernel_rfl⟩ (fun _ => Nat.le_of_ble_eq_true (by kernel_rfl)) (fun x r h => m_bridge_add x.1 x.2 r h)

noncomputable def G_math_bits_OnesCount32 := mkG (as1 (aI .u32)) (fun x : Int => math_bits_OnesCount32 x) (fun r : Int => .clean (.int .i64 r))

theorem q_math_bits_OnesCount32 (p0 : Int) : G_math_bits_OnesCount32 none [.int .u32 p0] = (math_bits_OnesCount32 p0).map fun r : Int => (.clean (.int .i64 r), none) := mkG_eq _ _ _ (p0)

theorem m_math_bits_OnesCount32 (p0 : Int) (r : Int) (hh : math_bits_OnesCount32 p0 = some r) : vfunc .clean tab noEnv FU Try.f88 none [.int .u32 p0] = some (.clean (.int .i64 r), none) := by
  refine vfunc_of rfl Try.ntmps88 Try.results88 ?_
  unfold math_bits_OnesCount32 at hh
  obtain ⟨x1, hx1, hh⟩ := bindS hh
  obtain ⟨q2a, q2b⟩ := shrI_ok hx1
  try simp only [w, seval, -Int.reduceToNat, q2a, q2b]
  obtain ⟨x3, hx3, hh⟩ := bindS hh
  obtain ⟨q4a, q4b, q4c, q4d⟩ := sidx_ok hx3
  try simp only [w, seval, -Int.reduceToNat, q2a, q2b, q4a, q4d]
  erw [q4c]
  obtain ⟨x5, hx5, hh⟩ := bindS hh
  obtain ⟨q6a, q6b⟩ := shrI_ok hx5
  try simp only [w, seval, -Int.reduceToNat, q2a, q2b, q4a, q4d, q6a, q6b]
  obtain ⟨x7, hx7, hh⟩ := bindS hh
  obtain ⟨q8a, q8b, q8c, q8d⟩ := sidx_ok hx7
  try simp only [w, seval, -Int.reduceToNat, q2a, q2b, q4a, q4d, q6a, q6b, q8a, q8d]
  erw [q8c]
  obtain ⟨x9, hx9, hh⟩ := bindS hh
  obtain ⟨q10a, q10b⟩ := shrI_ok hx9
  try simp only [w, seval, -Int.reduceToNat, q2a, q2b, q4a, q4d, q6a, q6b, q8a, q8d, q10a, q10b]
  obtain ⟨x11, hx11, hh⟩ := bindS hh
  obtain ⟨q12a, q12b, q12c, q12d⟩ := sidx_ok hx11
  try simp only [w, seval, -Int.reduceToNat, q2a, q2b, q4a, q4d, q6a, q6b, q8a, q8d, q10a, q10b, q12a, q12d]
  erw [q12c]
  try simp only [w, seval, -Int.reduceToNat, q2a, q2b, q4a, q4d, q6a, q6b, q8a, q8d, q10a, q10b, q12a, q12d]
  obtain ⟨x13, hx13, hh⟩ := bindS hh
  obtain ⟨q14a, q14b, q14c, q14d⟩ := sidx_ok hx13
  try simp only [w, seval, -Int.reduceToNat, q2a, q2b, q4a, q4d, q6a, q6b, q8a, q8d, q10a, q10b, q12a, q12d, q14a, q14d]
  erw [q14c]
  try simp only [w, seval, -Int.reduceToNat, q2a, q2b, q4a, q4d, q6a, q6b, q8a, q8d, q10a, q10b, q12a, q12d, q14a, q14d]
  refine dyn_ok (by kernel_rfl) ?_
  cases hh
  try simp only [w, seval, -Int.reduceToNat, q2a, q2b, q4a, q4d, q6a, q6b, q8a, q8d, q10a, q10b, q12a, q12d, q14a, q14d]

theorem ok_math_bits_OnesCount32 : COk Try.prog 88 G_math_bits_OnesCount32 := COk.of (mode := .clean) tok GOk.none mixed Try.func88 (by kernel_rfl) ⟨by kernel_rfl, by kernel_rfl⟩ (fun _ => Nat.le_of_ble_eq_true (by kernel_rfl)) (fun x r h => m_math_bits_OnesCount32 x r h)

noncomputable def G_math_bits_OnesCount64 := mkG (as1 (aI .u64)) (fun x : Int => math_bits_OnesCount64 x) (fun r : Int => .clean (.int .i64 r))

theorem q_math_bits_OnesCount64 (p0 : Int) : G_math_bits_OnesCount64 none [.int .u64 p0] = (math_bits_OnesCount64 p0).map fun r : Int => (.clean (.int .i64 r), none) := mkG_eq _ _ _ (p0)

theorem m_math_bits_OnesCount64 (p0 : Int) (r : Int) (hh : math_bits_OnesCount64 p0 = some r) : vfunc .clean tab noEnv FU Try.f89 none [.int .u64 p0] = some (.clean (.int .i64 r), none) := by
  refine vfunc_of rfl Try.ntmps89 Try.results89 ?_
  unfold math_bits_OnesCount64 at hh
  obtain ⟨x1, hx1, hh⟩ := bindS hh
  obtain ⟨q2a, q2b⟩ := shrI_ok hx1
  obtain ⟨x3, hx3, hh⟩ := bindS hh
  obtain ⟨q4a, q4b⟩ := shrI_ok hx3
  obtain ⟨x5, hx5, hh⟩ := bindS hh
  obtain ⟨q6a, q6b⟩ := shrI_ok hx5
  obtain ⟨x7, hx7, hh⟩ := bindS hh
  obtain ⟨q8a, q8b⟩ := shrI_ok hx7
  obtain ⟨x9, hx9, hh⟩ := bindS hh
  obtain ⟨q10a, q10b⟩ := shrI_ok hx9
  obtain ⟨x11, hx11, hh⟩ := bindS hh
  obtain ⟨q12a, q12b⟩ := shrI_ok hx11
  cases hh
  try simp only [w, seval, -Int.reduceToNat, q2a, q2b, q4a, q4b, q6a, q6b, q8a, q8b, q10a, q10b, q12a, q12b]

theorem ok_math_bits_OnesCount64 : COk Try.prog 89 G_math_bits_OnesCount64 := COk.of (mode := .clean) tok GOk.none mixed Try.func89 (by kernel_rfl) ⟨by kernel_rfl, by kernel_rfl⟩ (fun _ => Nat.le_of_ble_eq_true (by kernel_rfl)) (fun x r h => m_math_bits_OnesCount64 x r h)

noncomputable def G_math_bits_OnesCount := mkG (as1 (aI .u64)) (fun x : Int => math_bits_OnesCount x) (fun r : Int => .clean (.int .i64 r))

theorem q_math_bits_OnesCount (p0 : Int) : G_math_bits_OnesCount none [.int .u64 p0] = (math_bits_OnesCount p0).map fun r : Int => (.clean (.int .i64 r), none) := mkG_eq _ _ _ (p0)

noncomputable def g_math_bits_OnesCount : Env := (Am.ext noEnv 89 false G_math_bits_OnesCount64)

theorem ge_math_bits_OnesCount : GOk Try.prog g_math_bits_OnesCount := (GOk.none.add ok_math_bits_OnesCount64 false)

theorem gg_math_bits_OnesCount : g_math_bits_OnesCount = (Am.ext noEnv 89 false G_math_bits_OnesCount64) := Eq.trans rfl rfl

theorem x_math_bits_OnesCount : type_of% (And.intro @w <| And.intro @q_math_bits_OnesCount64 <| @gg_math_bits_OnesCount) := And.intro @w <| And.intro @q_math_bits_OnesCount64 <| @gg_math_bits_OnesCount

theorem m_math_bits_OnesCount (p0 : Int) (r : Int) (hh : math_bits_OnesCount p0 = some r) : vfunc .clean tab g_math_bits_OnesCount FU Try.f54 none [.int .u64 p0] = some (.clean (.int .i64 r), none) := by
  refine vfunc_of rfl Try.ntmps54 Try.results54 ?_
  unfold math_bits_OnesCount at hh
  obtain ⟨r1, hr1, hh⟩ := bindS hh
  cases hh
  try simp only [x_math_bits_OnesCount, seval, -Int.reduceToNat, hr1]

theorem ok_math_bits_OnesCount : COk Try.prog 54 G_math_bits_OnesCount := COk.of (mode := .clean) tok ge_math_bits_OnesCount mixed Try.func54 (by kernel_rfl) ⟨by kernel_rfl, by kernel_rfl⟩ (fun _ => Nat.le_of_ble_eq_true (by kernel_rfl)) (fun x r h => m_math_bits_OnesCount x r h)

noncomputable def G_frac_Div := mkG (asC (aAgg eTFrac) (as1 (aAgg eTFrac))) (fun x : TFrac × TFrac => frac_Div x.1 x.2) (fun r : TFrac × Int => .clean (.tup [.agg [.int .i64 r.1.f_P.f_Sign, .sl false false r.1.f_P.f_Digits.length (encL (eI .i64) r.1.f_P.f_Digits), .int .i64 r.1.f_Q.f_Sign, .sl false false r.1.f_Q.f_Digits.length (encL (eI .i64) r.1.f_Q.f_Digits)], .int .i64 r.2]))

theorem q_frac_Div (p0_0 : Int) (p0_1 : (List Int)) (p0_2 : Int) (p0_3 : (List Int)) (p1_0 : Int) (p1_1 : (List Int)) (p1_2 : Int) (p1_3 : (List Int)) : G_frac_Div none [.agg [.int .i64 p0_0, .sl false false p0_1.length (encL (eI .i64) p0_1), .int .i64 p0_2, .sl false false p0_3.length (encL (eI .i64) p0_3)], .agg [.int .i64 p1_0, .sl false false p1_1.length (encL (eI .i64) p1_1), .int .i64 p1_2, .sl false false p1_3.length (encL (eI .i64) p1_3)]] = (frac_Div (TFrac.mk (TBig.mk p0_0 p0_1) (TBig.mk p0_2 p0_3)) (TFrac.mk (TBig.mk p1_0 p1_1) (TBig.mk p1_2 p1_3))).map fun r : TFrac × Int => (.clean (.tup [.agg [.int .i64 r.1.f_P.f_Sign, .sl false false r.1.f_P.f_Digits.length (encL (eI .i64) r.1.f_P.f_Digits), .int .i64 r.1.f_Q.f_Sign, .sl false false r.1.f_Q.f_Digits.length (encL (eI .i64) r.1.f_Q.f_Digits)], .int .i64 r.2]), none) := mkG_eq _ _ _ ((TFrac.mk (TBig.mk p0_0 p0_1) (TBig.mk p0_2 p0_3)), (TFrac.mk (TBig.mk p1_0 p1_1) (TBig.mk p1_2 p1_3)))

noncomputable def g_frac_Div : Env := (Am.ext (Am.ext (Am.ext noEnv 24 false G_frac_Right) 62 false G_frac_times) 63 false G_frac_New)

theorem ge_frac_Div : GOk Try.prog g_frac_Div := (((GOk.none.add ok_frac_Right false).add ok_frac_times false).add ok_frac_New false)

theorem gg_frac_Div : g_frac_Div = (Am.ext (Am.ext (Am.ext noEnv 24 false G_frac_Right) 62 false G_frac_times) 63 false G_frac_New) := Eq.trans rfl rfl

theorem x_frac_Div : type_of% (And.intro @w <| And.intro @q_frac_Right <| And.intro @q_frac_times <| And.intro @q_frac_New <| @gg_frac_Div) := And.intro @w <| And.intro @q_frac_Right <| And.intro @q_frac_times <| And.intro @q_frac_New <| @gg_frac_Div

theorem m_frac_Div (p0 : TFrac) (p1 : TFrac) (r : TFrac × Int) (hh : frac_Div p0 p1 = some r) : vfunc .clean tab g_frac_Div FU Try.f28 none [.agg [.int .i64 p0.f_P.f_Sign, .sl false false p0.f_P.f_Digits.length (encL (eI .i64) p0.f_P.f_Digits), .int .i64 p0.f_Q.f_Sign, .sl false false p0.f_Q.f_Digits.length (encL (eI .i64) p0.f_Q.f_Digits)], .agg [.int .i64 p1.f_P.f_Sign, .sl false false p1.f_P.f_Digits.length (encL (eI .i64) p1.f_P.f_Digits), .int .i64 p1.f_Q.f_Sign, .sl false false p1.f_Q.f_Digits.length (encL (eI .i64) p1.f_Q.f_Digits)]] = some (.clean (.tup [.agg [.int .i64 r.1.f_P.f_Sign, .sl false false r.1.f_P.f_Digits.length (encL (eI .i64) r.1.f_P.f_Digits), .int .i64 r.1.f_Q.f_Sign, .sl false false r.1.f_Q.f_Digits.length (encL (eI .i64) r.1.f_Q.f_Digits)], .int .i64 r.2]), none) := by
  refine vfunc_of rfl Try.ntmps28 Try.results28 ?_
  unfold frac_Div at hh
  obtain ⟨r1, hr1, hh⟩ := bindS hh
  try simp only [x_frac_Div, seval, -Int.reduceToNat, hr1]
  obtain ⟨o2, ho2, hh⟩ := bindS hh
  refine tstO_cut 0 (fun s t H e => match s with | s6j1 => ∃ v2j1 : Nat, ∃ v3j1 : Nat, ∃ v4j1 : Nat, t 2 = .ptr 2 v2j1 0 ∧ t 3 = .ptr 3 v3j1 0 ∧ t 4 = .ptr 4 v4j1 0 ∧ t 6 = .bool s6j1 ∧ H 2 = some ⟨v2j1, 34, [.int .i64 p0.f_P.f_Sign, .sl false false p0.f_P.f_Digits.length (encL (eI .i64) p0.f_P.f_Digits), .int .i64 p0.f_Q.f_Sign, .sl false false p0.f_Q.f_Digits.length (encL (eI .i64) p0.f_Q.f_Digits)], false, false⟩ ∧ H 3 = some ⟨v3j1, 34, [.int .i64 p1.f_P.f_Sign, .sl false false p1.f_P.f_Digits.length (encL (eI .i64) p1.f_P.f_Digits), .int .i64 p1.f_Q.f_Sign, .sl false false p1.f_Q.f_Digits.length (encL (eI .i64) p1.f_Q.f_Digits)], false, false⟩ ∧ H 4 = some ⟨v4j1, 34, [.int .i64 0, .sl true true 0 [], .int .i64 0, .sl true true 0 []], false, false⟩) (fun s => s = o2) ?_ ?_
  · rintro s6j1 t H e ⟨v2j1, v3j1, v4j1, t2j1, t3j1, t4j1, t6j1, H2j1, H3j1, H4j1⟩ rfl
    try dsimp only at hh
    try simp only [x_frac_Div, seval, -Int.reduceToNat, hr1, t2j1, t3j1, t4j1, t6j1, H2j1, H3j1, H4j1]
    refine tstC_br (fun hb3 => ?_) (fun hb3 => ?_)
    · replace hh := ite_t hb3 hh
      cases hh
      try simp only [x_frac_Div, seval, -Int.reduceToNat, hr1, t2j1, t3j1, t4j1, t6j1, H2j1, H3j1, H4j1]
    · replace hh := ite_f hb3 hh
      try simp only [x_frac_Div, seval, -Int.reduceToNat, hr1, t2j1, t3j1, t4j1, t6j1, H2j1, H3j1, H4j1]
      refine tstC_br (fun hb4 => ?_) (fun hb4 => ?_)
      · replace hh := ite_t hb4 hh
        cases hh
        try simp only [x_frac_Div, seval, -Int.reduceToNat, hr1, t2j1, t3j1, t4j1, t6j1, H2j1, H3j1, H4j1]
      · replace hh := ite_f hb4 hh
        obtain ⟨r5, hr5, hh⟩ := bindS hh
        obtain ⟨r6, hr6, hh⟩ := bindS hh
        obtain ⟨r7, hr7, hh⟩ := bindS hh
        try simp only [x_frac_Div, seval, -Int.reduceToNat, hr1, t2j1, t3j1, t4j1, t6j1, H2j1, H3j1, H4j1, hr5, hr6, hr7]
        refine dyn_ok (by kernel_rfl) ?_
        cases hh
        try simp only [x_frac_Div, seval, -Int.reduceToNat, hr1, t2j1, t3j1, t4j1, t6j1, H2j1, H3j1, H4j1, hr5, hr6, hr7]
  ·
    clear hh
    have hh := ho2
    try simp only [x_frac_Div, seval, -Int.reduceToNat, hr1]
    refine tstO_br' (fun hb8 => ?_) (fun hb8 => ?_)
    · replace hh := ite_t hb8 hh
      cases hh
      try simp only [x_frac_Div, seval, -Int.reduceToNat, hr1]
      rw [CK_normal]
      refine ⟨_, rfl, ?_⟩
      refine ⟨0, 0, 0, ?_, ?_, ?_, ?_, ?_, ?_, ?_⟩
      all_goals (first | rfl | (simp only [x_frac_Div, seval, -Int.reduceToNat, hr1] <;> rfl))
    · replace hh := ite_f hb8 hh
      obtain ⟨r9, hr9, hh⟩ := bindS hh
      cases hh
      try simp only [x_frac_Div, seval, -Int.reduceToNat, hr1, hr9]
      rw [CK_normal]
      refine ⟨_, rfl, ?_⟩
      refine ⟨0, 0, 0, ?_, ?_, ?_, ?_, ?_, ?_, ?_⟩
      all_goals (first | rfl | (simp only [x_frac_Div, seval, -Int.reduceToNat, hr1, hr9] <;> rfl))

theorem ok_frac_Div : COk Try.prog 28 G_frac_Div := COk.of (mode := .clean) tok ge_frac_Div mixed Try.func28 (by kernel_rfl) ⟨by kernel_rfl, by kernel_rfl⟩ (fun _ => Nat.le_of_ble_eq_true (by kernel_rfl)) (fun x r h => m_frac_Div x.1 x.2 r h)

noncomputable def G_bridge_Potential := mkG (as1 (aSl eTFrac)) (fun x : (List TFrac) => bridge_Potential x) (fun r : (List TFrac) => .clean (.sl false false r.length (encL eTFrac r)))

theorem q_bridge_Potential (p0 : (List TFrac)) : G_bridge_Potential none [.sl false false p0.length (encL eTFrac p0)] = (bridge_Potential p0).map fun r : (List TFrac) => (.clean (.sl false false r.length (encL eTFrac r)), none) := mkG_eq _ _ _ (p0)

noncomputable def g_bridge_Potential : Env := (Am.ext (Am.ext (Am.ext (Am.ext (Am.ext (Am.ext noEnv 28 false G_frac_Div) 50 false G_bridge_edits) 51 false G_bridge_sub) 52 false G_frac_Int) 53 false G_bridge_add) 54 false G_math_bits_OnesCount)

theorem ge_bridge_Potential : GOk Try.prog g_bridge_Potential := ((((((GOk.none.add ok_frac_Div false).add ok_bridge_edits false).add ok_bridge_sub false).add ok_frac_Int false).add ok_bridge_add false).add ok_math_bits_OnesCount false)

theorem gg_bridge_Potential : g_bridge_Potential = (Am.ext (Am.ext (Am.ext (Am.ext (Am.ext (Am.ext noEnv 28 false G_frac_Div) 50 false G_bridge_edits) 51 false G_bridge_sub) 52 false G_frac_Int) 53 false G_bridge_add) 54 false G_math_bits_OnesCount) := Eq.trans rfl rfl

theorem x_bridge_Potential : type_of% (And.intro @w <| And.intro @q_frac_Div <| And.intro @q_bridge_edits <| And.intro @q_bridge_sub <| And.intro @q_frac_Int <| And.intro @q_bridge_add <| And.intro @q_math_bits_OnesCount <| @gg_bridge_Potential) := And.intro @w <| And.intro @q_frac_Div <| And.intro @q_bridge_edits <| And.intro @q_bridge_sub <| And.intro @q_frac_Int <| And.intro @q_bridge_add <| And.intro @q_math_bits_OnesCount <| @gg_bridge_Potential

theorem m_bridge_Potential (p0 : (List TFrac)) (r : (List TFrac)) (hh : bridge_Potential p0 = some r) : vfunc .clean tab g_bridge_Potential FU Try.f17 none [.sl false false p0.length (encL eTFrac p0)] = some (.clean (.sl false false r.length (encL eTFrac r)), none) := by
  refine vfunc_of rfl Try.ntmps17 Try.results17 ?_
  unfold bridge_Potential at hh
  obtain ⟨r1, hr1, hh⟩ := bindS hh
  try simp only [x_bridge_Potential, seval, -Int.reduceToNat, hr1]
  refine tstC_br (fun hb2 => ?_) (fun hb2 => ?_)
  · replace hh := ite_t hb2 hh
    cases hh
    try simp only [x_bridge_Potential, seval, -Int.reduceToNat, hr1]
  · replace hh := ite_f hb2 hh
    obtain ⟨x3, hx3, hh⟩ := bindS hh
    obtain ⟨q4a, q4b, q4c, q4d, q4e⟩ := mk_one eTFrac hx3
    simp only [vmz] at q4d
    obtain ⟨r5, hr5, hh⟩ := bindS hh
    obtain ⟨x6, hx6, hh⟩ := bindS hh
    have bx6 := idx_bd hx6
    have ax6 := idx_enc eTFrac hx6
    have fx6 := idx_fit eTFrac hx6
    simp only [vmz] at ax6 fx6
    skip
    have p7 := put_enc eTFrac (x' := r5) (fo := 0) (cs := [.int .i64 r5.f_P.f_Sign, .sl false false r5.f_P.f_Digits.length (encL (eI .i64) r5.f_P.f_Digits), .int .i64 r5.f_Q.f_Sign, .sl false false r5.f_Q.f_Digits.length (encL (eI .i64) r5.f_Q.f_Digits)]) hx6 rfl (Nat.le_of_ble_eq_true rfl)
    simp only [vmz, Nat.add_zero] at p7
    have up7 := p7
    simp only [putCells, List.length_cons, List.length_nil, Nat.zero_add, Nat.reduceAdd] at up7
    try simp only [x_bridge_Potential, seval, -Int.reduceToNat, hr1, q4a, q4b, q4c, q4d, q4e, hr5, bx6, ax6, fx6, p7, up7]
    obtain ⟨o32, ho32, hh⟩ := bindS hh
    refine runLoop_sim (fun s t H e => match s with | (s6a, l5a) => ∃ v5a : Nat, t 0 = .sl false false p0.length (encL eTFrac p0) ∧ t 3 = .int .i64 r1.1 ∧ t 5 = .buf 5 v5a 4 0 (l5a).length ∧ t 6 = .int .i64 s6a ∧ H 5 = some ⟨v5a, 34, encL eTFrac l5a, false, true⟩) (fun o x t H e => match o with | l5ax => x = .exit 0 ∧ ∃ v5ax : Nat, t 5 = .buf 5 v5ax 4 0 (l5ax).length ∧ H 5 = some ⟨v5ax, 34, encL eTFrac l5ax, false, true⟩) ho32 ?_ ?_ ?_
    ·
      refine ⟨3, ?_, ?_, ?_, ?_, ?_⟩
      all_goals (first | rfl | (simp only [x_bridge_Potential, seval, -Int.reduceToNat, hr1, q4a, q4b, q4c, q4d, q4e, hr5, bx6, ax6, fx6, p7, up7] <;> rfl))
    · rintro ⟨s6a, l5a⟩ t H e ⟨v5a, t0a, t3a, t5a, t6a, H5a⟩ c hh
      simp only [bridge_Potential_L1] at hh
      try simp only [x_bridge_Potential, seval, -Int.reduceToNat, hr1, q4a, q4b, q4c, q4d, q4e, hr5, bx6, ax6, fx6, p7, up7, t0a, t3a, t5a, t6a, H5a]
      refine tstC_br (fun hb33 => ?_) (fun hb33 => ?_)
      · replace hh := ite_t hb33 hh
        obtain ⟨x34, hx34, hh⟩ := bindS hh
        have bx34 := idx_bd hx34
        have ax34 := idx_enc eTFrac hx34
        have fx34 := idx_fit eTFrac hx34
        simp only [vmz] at ax34 fx34
        skip
        obtain ⟨x35, hx35, hh⟩ := bindS hh
        have bx35 := idx_bd hx35
        have ax35 := idx_enc eTFrac hx35
        have fx35 := idx_fit eTFrac hx35
        simp only [vmz] at ax35 fx35
        skip
        obtain ⟨r36, hr36, hh⟩ := bindS hh
        try simp only [x_bridge_Potential, seval, -Int.reduceToNat, hr1, q4a, q4b, q4c, q4d, q4e, hr5, bx6, ax6, fx6, p7, up7, t0a, t3a, t5a, t6a, H5a, bx34, ax34, fx34, bx35, ax35, fx35, hr36]
        refine dyn_ok (by kernel_rfl) ?_
        try simp only [x_bridge_Potential, seval, -Int.reduceToNat, hr1, q4a, q4b, q4c, q4d, q4e, hr5, bx6, ax6, fx6, p7, up7, t0a, t3a, t5a, t6a, H5a, bx34, ax34, fx34, bx35, ax35, fx35, hr36]
        obtain ⟨o44, ho44, hh⟩ := bindS hh
        refine runLoop_sim (fun s t H e => match s with | (s37c, r7_0c, r7_1c, r7_2c, r7_3c) => ∃ v5c : Nat, ∃ v7c : Nat, t 0 = .sl false false p0.length (encL eTFrac p0) ∧ t 3 = .int .i64 r1.1 ∧ t 5 = .buf 5 v5c 4 0 (l5a).length ∧ t 6 = .int .i64 s6a ∧ t 7 = .ptr 7 v7c 0 ∧ t 36 = .int .i64 r1.1 ∧ t 37 = .int .i64 s37c ∧ H 5 = some ⟨v5c, 34, encL eTFrac l5a, false, true⟩ ∧ H 7 = some ⟨v7c, 34, [.int .i64 r7_0c, .sl false false r7_1c.length (encL (eI .i64) r7_1c), .int .i64 r7_2c, .sl false false r7_3c.length (encL (eI .i64) r7_3c)], false, false⟩) (fun o x t H e => match o with | (r7_0cx, r7_1cx, r7_2cx, r7_3cx) => x = .exit 2 ∧ ∃ v5cx : Nat, ∃ v7cx : Nat, t 0 = .sl false false p0.length (encL eTFrac p0) ∧ t 3 = .int .i64 r1.1 ∧ t 5 = .buf 5 v5cx 4 0 (l5a).length ∧ t 6 = .int .i64 s6a ∧ t 7 = .ptr 7 v7cx 0 ∧ H 5 = some ⟨v5cx, 34, encL eTFrac l5a, false, true⟩ ∧ H 7 = some ⟨v7cx, 34, [.int .i64 r7_0cx, .sl false false r7_1cx.length (encL (eI .i64) r7_1cx), .int .i64 r7_2cx, .sl false false r7_3cx.length (encL (eI .i64) r7_3cx)], false, false⟩) ho44 ?_ ?_ ?_
        ·
          refine ⟨v5a, e + 1, ?_, ?_, ?_, ?_, ?_, ?_, ?_, ?_, ?_⟩
          all_goals (first | rfl | (simp only [x_bridge_Potential, seval, -Int.reduceToNat, hr1, q4a, q4b, q4c, q4d, q4e, hr5, bx6, ax6, fx6, p7, up7, t0a, t3a, t5a, t6a, H5a, bx34, ax34, fx34, bx35, ax35, fx35, hr36] <;> rfl))
        · rintro ⟨s37c, r7_0c, r7_1c, r7_2c, r7_3c⟩ t H e ⟨v5c, v7c, t0c, t3c, t5c, t6c, t7c, t36c, t37c, H5c, H7c⟩ c hh
          simp only [bridge_Potential_L3] at hh
          try simp only [x_bridge_Potential, seval, -Int.reduceToNat, hr1, q4a, q4b, q4c, q4d, q4e, hr5, bx6, ax6, fx6, p7, up7, bx34, ax34, fx34, bx35, ax35, fx35, hr36, t0c, t3c, t5c, t6c, t7c, t36c, t37c, H5c, H7c]
          refine tstC_br (fun hb45 => ?_) (fun hb45 => ?_)
          · replace hh := ite_t hb45 hh
            obtain ⟨x46, hx46, hh⟩ := bindS hh
            obtain ⟨q47a, q47b⟩ := shlI_ok hx46
            try simp only [x_bridge_Potential, seval, -Int.reduceToNat, hr1, q4a, q4b, q4c, q4d, q4e, hr5, bx6, ax6, fx6, p7, up7, bx34, ax34, fx34, bx35, ax35, fx35, hr36, t0c, t3c, t5c, t6c, t7c, t36c, t37c, H5c, H7c, q47a, q47b]
            refine tstC_br (fun hb48 => ?_) (fun hb48 => ?_)
            · replace hh := ite_t hb48 hh
              obtain ⟨q49a, q49b⟩ := shlI_ok hx46
              obtain ⟨x50, hx50, hh⟩ := bindS hh
              have bx50 := idx_bd hx50
              have ax50 := idx_enc eTFrac hx50
              have fx50 := idx_fit eTFrac hx50
              simp only [vmz] at ax50 fx50
              skip
              obtain ⟨r51, hr51, hh⟩ := bindS hh
              try simp only [x_bridge_Potential, seval, -Int.reduceToNat, hr1, q4a, q4b, q4c, q4d, q4e, hr5, bx6, ax6, fx6, p7, up7, bx34, ax34, fx34, bx35, ax35, fx35, hr36, t0c, t3c, t5c, t6c, t7c, t36c, t37c, H5c, H7c, q47a, q47b, q49a, q49b, bx50, ax50, fx50, hr51]
              refine dyn_ok (by kernel_rfl) ?_
              cases hh
              try simp only [x_bridge_Potential, seval, -Int.reduceToNat, hr1, q4a, q4b, q4c, q4d, q4e, hr5, bx6, ax6, fx6, p7, up7, bx34, ax34, fx34, bx35, ax35, fx35, hr36, t0c, t3c, t5c, t6c, t7c, t36c, t37c, H5c, H7c, q47a, q47b, q49a, q49b, bx50, ax50, fx50, hr51]
              rw [LK_normal]
              refine ⟨_, rfl, ?_⟩
              refine ⟨v5c, v7c, ?_, ?_, ?_, ?_, ?_, ?_, ?_, ?_, ?_⟩
              all_goals (first | rfl | (simp only [x_bridge_Potential, seval, -Int.reduceToNat, hr1, q4a, q4b, q4c, q4d, q4e, hr5, bx6, ax6, fx6, p7, up7, bx34, ax34, fx34, bx35, ax35, fx35, hr36, t0c, t3c, t5c, t6c, t7c, t36c, t37c, H5c, H7c, q47a, q47b, q49a, q49b, bx50, ax50, fx50, hr51] <;> rfl))
            · replace hh := ite_f hb48 hh
              cases hh
              try simp only [x_bridge_Potential, seval, -Int.reduceToNat, hr1, q4a, q4b, q4c, q4d, q4e, hr5, bx6, ax6, fx6, p7, up7, bx34, ax34, fx34, bx35, ax35, fx35, hr36, t0c, t3c, t5c, t6c, t7c, t36c, t37c, H5c, H7c, q47a, q47b]
              rw [LK_normal]
              refine ⟨_, rfl, ?_⟩
              refine ⟨v5c, v7c, ?_, ?_, ?_, ?_, ?_, ?_, ?_, ?_, ?_⟩
              all_goals (first | rfl | (simp only [x_bridge_Potential, seval, -Int.reduceToNat, hr1, q4a, q4b, q4c, q4d, q4e, hr5, bx6, ax6, fx6, p7, up7, bx34, ax34, fx34, bx35, ax35, fx35, hr36, t0c, t3c, t5c, t6c, t7c, t36c, t37c, H5c, H7c, q47a, q47b] <;> rfl))
          · replace hh := ite_f hb45 hh
            cases hh
            try simp only [x_bridge_Potential, seval, -Int.reduceToNat, hr1, q4a, q4b, q4c, q4d, q4e, hr5, bx6, ax6, fx6, p7, up7, bx34, ax34, fx34, bx35, ax35, fx35, hr36, t0c, t3c, t5c, t6c, t7c, t36c, t37c, H5c, H7c]
            rw [LK_exit]
            refine ⟨_, rfl, ?_⟩
            refine ⟨rfl, ⟨v5c, v7c, ?_, ?_, ?_, ?_, ?_, ?_, ?_⟩⟩
            all_goals (first | rfl | (simp only [x_bridge_Potential, seval, -Int.reduceToNat, hr1, q4a, q4b, q4c, q4d, q4e, hr5, bx6, ax6, fx6, p7, up7, bx34, ax34, fx34, bx35, ax35, fx35, hr36, t0c, t3c, t5c, t6c, t7c, t36c, t37c, H5c, H7c] <;> rfl))
        · rintro x t H e hx
          rcases o44 with ⟨r7_0cx, r7_1cx, r7_2cx, r7_3cx⟩
          dsimp only at hx hh
          obtain ⟨rfl, ⟨v5cx, v7cx, t0cx, t3cx, t5cx, t6cx, t7cx, H5cx, H7cx⟩⟩ := hx
          obtain ⟨r52, hr52, hh⟩ := bindS hh
          obtain ⟨r53, hr53, hh⟩ := bindS hh
          obtain ⟨r54, hr54, hh⟩ := bindS hh
          obtain ⟨x55, hx55, hh⟩ := bindS hh
          have bx55 := idx_bd hx55
          have ax55 := idx_enc eTFrac hx55
          have fx55 := idx_fit eTFrac hx55
          simp only [vmz] at ax55 fx55
          skip
          have p56 := put_enc eTFrac (x' := r54.1) (fo := 0) (cs := [.int .i64 r54.1.f_P.f_Sign, .sl false false r54.1.f_P.f_Digits.length (encL (eI .i64) r54.1.f_P.f_Digits), .int .i64 r54.1.f_Q.f_Sign, .sl false false r54.1.f_Q.f_Digits.length (encL (eI .i64) r54.1.f_Q.f_Digits)]) hx55 rfl (Nat.le_of_ble_eq_true rfl)
          simp only [vmz, Nat.add_zero] at p56
          have up56 := p56
          simp only [putCells, List.length_cons, List.length_nil, Nat.zero_add, Nat.reduceAdd] at up56
          try simp only [x_bridge_Potential, seval, -Int.reduceToNat, hr1, q4a, q4b, q4c, q4d, q4e, hr5, bx6, ax6, fx6, p7, up7, bx34, ax34, fx34, bx35, ax35, fx35, hr36, t0cx, t3cx, t5cx, t6cx, t7cx, H5cx, H7cx, hr52, hr53, hr54, bx55, ax55, fx55, p56, up56]
          refine dyn_ok (by kernel_rfl) ?_
          cases hh
          try simp only [x_bridge_Potential, seval, -Int.reduceToNat, hr1, q4a, q4b, q4c, q4d, q4e, hr5, bx6, ax6, fx6, p7, up7, bx34, ax34, fx34, bx35, ax35, fx35, hr36, t0cx, t3cx, t5cx, t6cx, t7cx, H5cx, H7cx, hr52, hr53, hr54, bx55, ax55, fx55, p56, up56]
          rw [LK_normal]
          refine ⟨_, rfl, ?_⟩
          refine ⟨v5cx, ?_, ?_, ?_, ?_, ?_⟩
          all_goals (first | rfl | (simp only [x_bridge_Potential, seval, -Int.reduceToNat, hr1, q4a, q4b, q4c, q4d, q4e, hr5, bx6, ax6, fx6, p7, up7, bx34, ax34, fx34, bx35, ax35, fx35, hr36, t0cx, t3cx, t5cx, t6cx, t7cx, H5cx, H7cx, hr52, hr53, hr54, bx55, ax55, fx55, p56, up56] <;> rfl))
      · replace hh := ite_f hb33 hh
        cases hh
        try simp only [x_bridge_Potential, seval, -Int.reduceToNat, hr1, q4a, q4b, q4c, q4d, q4e, hr5, bx6, ax6, fx6, p7, up7, t0a, t3a, t5a, t6a, H5a]
        rw [LK_exit]
        refine ⟨_, rfl, ?_⟩
        refine ⟨rfl, ⟨v5a, ?_, ?_⟩⟩
        all_goals (first | rfl | (simp only [x_bridge_Potential, seval, -Int.reduceToNat, hr1, q4a, q4b, q4c, q4d, q4e, hr5, bx6, ax6, fx6, p7, up7, t0a, t3a, t5a, t6a, H5a] <;> rfl))
    · rintro x t H e hx
      obtain ⟨l5ax, rfl⟩ : ∃ z, z = o32 := ⟨_, rfl⟩
      dsimp only at hx hh
      obtain ⟨rfl, ⟨v5ax, t5ax, H5ax⟩⟩ := hx
      cases hh
      try simp only [x_bridge_Potential, seval, -Int.reduceToNat, hr1, q4a, q4b, q4c, q4d, q4e, hr5, bx6, ax6, fx6, p7, up7, t5ax, H5ax]

theorem ok_bridge_Potential : COk Try.prog 17 G_bridge_Potential := COk.of (mode := .clean) tok ge_bridge_Potential mixed Try.func17 (by kernel_rfl) ⟨by kernel_rfl, by kernel_rfl⟩ (fun _ => Nat.le_of_ble_eq_true (by kernel_rfl)) (fun x r h => m_bridge_Potential x r h)

noncomputable def G_bridge_Shares := mkG (as1 (aSl eTFrac)) (fun x : (List TFrac) => bridge_Shares x) (fun r : (List TFrac) × Int => .clean (.tup [.sl false false r.1.length (encL eTFrac r.1), .int .i64 r.2]))

theorem q_bridge_Shares (p0 : (List TFrac)) : G_bridge_Shares none [.sl false false p0.length (encL eTFrac p0)] = (bridge_Shares p0).map fun r : (List TFrac) × Int => (.clean (.tup [.sl false false r.1.length (encL eTFrac r.1), .int .i64 r.2]), none) := mkG_eq _ _ _ (p0)

noncomputable def g_bridge_Shares : Env := (Am.ext (Am.ext (Am.ext noEnv 17 false G_bridge_Potential) 50 false G_bridge_edits) 51 false G_bridge_sub)

theorem ge_bridge_Shares : GOk Try.prog g_bridge_Shares := (((GOk.none.add ok_bridge_Potential false).add ok_bridge_edits false).add ok_bridge_sub false)

theorem gg_bridge_Shares : g_bridge_Shares = (Am.ext (Am.ext (Am.ext noEnv 17 false G_bridge_Potential) 50 false G_bridge_edits) 51 false G_bridge_sub) := Eq.trans rfl rfl

theorem x_bridge_Shares : type_of% (And.intro @w <| And.intro @q_bridge_Potential <| And.intro @q_bridge_edits <| And.intro @q_bridge_sub <| @gg_bridge_Shares) := And.intro @w <| And.intro @q_bridge_Potential <| And.intro @q_bridge_edits <| And.intro @q_bridge_sub <| @gg_bridge_Shares

theorem m_bridge_Shares (p0 : (List TFrac)) (r : (List TFrac) × Int) (hh : bridge_Shares p0 = some r) : vfunc .clean tab g_bridge_Shares FU Try.f16 none [.sl false false p0.length (encL eTFrac p0)] = some (.clean (.tup [.sl false false r.1.length (encL eTFrac r.1), .int .i64 r.2]), none) := by
  refine vfunc_of rfl Try.ntmps16 Try.results16 ?_
  unfold bridge_Shares at hh
  obtain ⟨r1, hr1, hh⟩ := bindS hh
  try simp only [x_bridge_Shares, seval, -Int.reduceToNat, hr1]
  refine tstC_br (fun hb2 => ?_) (fun hb2 => ?_)
  · replace hh := ite_t hb2 hh
    cases hh
    try simp only [x_bridge_Shares, seval, -Int.reduceToNat, hr1]
  · replace hh := ite_f hb2 hh
    obtain ⟨r3, hr3, hh⟩ := bindS hh
    try simp only [x_bridge_Shares, seval, -Int.reduceToNat, hr1, hr3]
    obtain ⟨o12, ho12, hh⟩ := bindS hh
    refine runLoop_sim (fun s t H e => match s with | (s23a, l8a) => ∃ v8a : Nat, t 6 = .sl false false r3.length (encL eTFrac r3) ∧ t 7 = .int .i64 (IntKind.i64.wrap ((p0.length : Int) - 1)) ∧ t 8 = .buf 8 v8a 4 0 (l8a).length ∧ t 22 = .int .i64 r1.1 ∧ t 23 = .int .i64 s23a ∧ H 8 = some ⟨v8a, 34, encL eTFrac l8a, false, true⟩) (fun o x t H e => match o with | l8ax => x = .exit 0 ∧ ∃ v8ax : Nat, t 8 = .buf 8 v8ax 4 0 (l8ax).length ∧ H 8 = some ⟨v8ax, 34, encL eTFrac l8ax, false, true⟩) ho12 ?_ ?_ ?_
    ·
      refine ⟨5, ?_, ?_, ?_, ?_, ?_, ?_⟩
      all_goals (first | rfl | (simp only [x_bridge_Shares, seval, -Int.reduceToNat, hr1, hr3] <;> rfl))
    · rintro ⟨s23a, l8a⟩ t H e ⟨v8a, t6a, t7a, t8a, t22a, t23a, H8a⟩ c hh
      simp only [bridge_Shares_L1] at hh
      try simp only [x_bridge_Shares, seval, -Int.reduceToNat, hr1, hr3, t6a, t7a, t8a, t22a, t23a, H8a]
      refine tstC_br (fun hb13 => ?_) (fun hb13 => ?_)
      · replace hh := ite_t hb13 hh
        obtain ⟨x14, hx14, hh⟩ := bindS hh
        have bx14 := idx_bd hx14
        have ax14 := idx_enc eTFrac hx14
        have fx14 := idx_fit eTFrac hx14
        simp only [vmz] at ax14 fx14
        skip
        obtain ⟨x15, hx15, hh⟩ := bindS hh
        obtain ⟨q16a, q16b⟩ := shlI_ok hx15
        obtain ⟨x17, hx17, hh⟩ := bindS hh
        have bx17 := idx_bd hx17
        have ax17 := idx_enc eTFrac hx17
        have fx17 := idx_fit eTFrac hx17
        simp only [vmz] at ax17 fx17
        skip
        obtain ⟨r18, hr18, hh⟩ := bindS hh
        obtain ⟨x19, hx19, hh⟩ := bindS hh
        obtain ⟨q20a, q20b, q20c, q20d⟩ := app_one eTFrac hx19
        simp only [vmz] at q20b
        try simp only [x_bridge_Shares, seval, -Int.reduceToNat, hr1, hr3, t6a, t7a, t8a, t22a, t23a, H8a, bx14, ax14, fx14, q16a, q16b, bx17, ax17, fx17, hr18, q20a, q20b, q20c, q20d]
        refine dyn_ok (by kernel_rfl) ?_
        cases hh
        try simp only [x_bridge_Shares, seval, -Int.reduceToNat, hr1, hr3, t6a, t7a, t8a, t22a, t23a, H8a, bx14, ax14, fx14, q16a, q16b, bx17, ax17, fx17, hr18, q20a, q20b, q20c, q20d]
        rw [LK_normal]
        refine ⟨_, rfl, ?_⟩
        refine ⟨e + 1 + 1, ?_, ?_, ?_, ?_, ?_, ?_⟩
        all_goals (first | rfl | (simp only [x_bridge_Shares, seval, -Int.reduceToNat, hr1, hr3, t6a, t7a, t8a, t22a, t23a, H8a, bx14, ax14, fx14, q16a, q16b, bx17, ax17, fx17, hr18, q20a, q20b, q20c, q20d] <;> rfl))
      · replace hh := ite_f hb13 hh
        cases hh
        try simp only [x_bridge_Shares, seval, -Int.reduceToNat, hr1, hr3, t6a, t7a, t8a, t22a, t23a, H8a]
        rw [LK_exit]
        refine ⟨_, rfl, ?_⟩
        refine ⟨rfl, ⟨v8a, ?_, ?_⟩⟩
        all_goals (first | rfl | (simp only [x_bridge_Shares, seval, -Int.reduceToNat, hr1, hr3, t6a, t7a, t8a, t22a, t23a, H8a] <;> rfl))
    · rintro x t H e hx
      obtain ⟨l8ax, rfl⟩ : ∃ z, z = o12 := ⟨_, rfl⟩
      dsimp only at hx hh
      obtain ⟨rfl, ⟨v8ax, t8ax, H8ax⟩⟩ := hx
      cases hh
      try simp only [x_bridge_Shares, seval, -Int.reduceToNat, hr1, hr3, t8ax, H8ax]

theorem ok_bridge_Shares : COk Try.prog 16 G_bridge_Shares := COk.of (mode := .clean) tok ge_bridge_Shares mixed Try.func16 (by kernel_rfl) ⟨by kernel_rfl, by kernel_rfl⟩ (fun _ => Nat.le_of_ble_eq_true (by kernel_rfl)) (fun x r h => m_bridge_Shares x r h)

noncomputable def G_l44_halves := mkG (as1 (aSl (eI .i64))) (fun x : (List Int) => l44_halves x) (fun r : (List TFrac) => .clean (.sl false false r.length (encL eTFrac r)))

theorem q_l44_halves (p0 : (List Int)) : G_l44_halves none [.sl false false p0.length (encL (eI .i64) p0)] = (l44_halves p0).map fun r : (List TFrac) => (.clean (.sl false false r.length (encL eTFrac r)), none) := mkG_eq _ _ _ (p0)

noncomputable def g_l44_halves : Env := (Am.ext noEnv 64 false G_r05_Of)

theorem ge_l44_halves : GOk Try.prog g_l44_halves := (GOk.none.add ok_r05_Of false)

theorem gg_l44_halves : g_l44_halves = (Am.ext noEnv 64 false G_r05_Of) := Eq.trans rfl rfl

theorem x_l44_halves : type_of% (And.intro @w <| And.intro @q_r05_Of <| @gg_l44_halves) := And.intro @w <| And.intro @q_r05_Of <| @gg_l44_halves

theorem m_l44_halves (p0 : (List Int)) (r : (List TFrac)) (hh : l44_halves p0 = some r) : vfunc .clean tab g_l44_halves FU Try.f85 none [.sl false false p0.length (encL (eI .i64) p0)] = some (.clean (.sl false false r.length (encL eTFrac r)), none) := by
  refine vfunc_of rfl Try.ntmps85 Try.results85 ?_
  unfold l44_halves at hh
  try simp only [x_l44_halves, seval, -Int.reduceToNat]
  obtain ⟨o6, ho6, hh⟩ := bindS hh
  refine runLoop_sim (fun s t H e => match s with | (s4a, l3a) => ∃ v3a : Nat, t 0 = .sl false false p0.length (encL (eI .i64) p0) ∧ t 3 = .buf 3 v3a 4 0 (l3a).length ∧ t 4 = .int .i64 s4a ∧ H 3 = some ⟨v3a, 34, encL eTFrac l3a, false, true⟩) (fun o x t H e => match o with | l3ax => x = .exit 0 ∧ ∃ v3ax : Nat, t 3 = .buf 3 v3ax 4 0 (l3ax).length ∧ H 3 = some ⟨v3ax, 34, encL eTFrac l3ax, false, true⟩) ho6 ?_ ?_ ?_
  ·
    refine ⟨1, ?_, ?_, ?_, ?_⟩
    all_goals (first | rfl | (simp only [x_l44_halves, seval, -Int.reduceToNat] <;> rfl))
  · rintro ⟨s4a, l3a⟩ t H e ⟨v3a, t0a, t3a, t4a, H3a⟩ c hh
    simp only [l44_halves_L1] at hh
    try simp only [x_l44_halves, seval, -Int.reduceToNat, t0a, t3a, t4a, H3a]
    refine tstC_br (fun hb7 => ?_) (fun hb7 => ?_)
    · replace hh := ite_t hb7 hh
      obtain ⟨x8, hx8, hh⟩ := bindS hh
      have bx8 := idx_bd hx8
      have ax8 := idx_enc (eI .i64) hx8
      have fx8 := idx_fit (eI .i64) hx8
      simp only [vmz] at ax8 fx8
      skip
      obtain ⟨r9, hr9, hh⟩ := bindS hh
      obtain ⟨x10, hx10, hh⟩ := bindS hh
      obtain ⟨q11a, q11b, q11c, q11d⟩ := app_one eTFrac hx10
      simp only [vmz] at q11b
      cases hh
      try simp only [x_l44_halves, seval, -Int.reduceToNat, t0a, t3a, t4a, H3a, bx8, ax8, fx8, hr9, q11a, q11b, q11c, q11d]
      rw [LK_normal]
      refine ⟨_, rfl, ?_⟩
      refine ⟨e + 1 + 1, ?_, ?_, ?_, ?_⟩
      all_goals (first | rfl | (simp only [x_l44_halves, seval, -Int.reduceToNat, t0a, t3a, t4a, H3a, bx8, ax8, fx8, hr9, q11a, q11b, q11c, q11d] <;> rfl))
    · replace hh := ite_f hb7 hh
      cases hh
      try simp only [x_l44_halves, seval, -Int.reduceToNat, t0a, t3a, t4a, H3a]
      rw [LK_exit]
      refine ⟨_, rfl, ?_⟩
      refine ⟨rfl, ⟨v3a, ?_, ?_⟩⟩
      all_goals (first | rfl | (simp only [x_l44_halves, seval, -Int.reduceToNat, t0a, t3a, t4a, H3a] <;> rfl))
  · rintro x t H e hx
    obtain ⟨l3ax, rfl⟩ : ∃ z, z = o6 := ⟨_, rfl⟩
    dsimp only at hx hh
    obtain ⟨rfl, ⟨v3ax, t3ax, H3ax⟩⟩ := hx
    cases hh
    try simp only [x_l44_halves, seval, -Int.reduceToNat, t3ax, H3ax]

theorem ok_l44_halves : COk Try.prog 85 G_l44_halves := COk.of (mode := .clean) tok ge_l44_halves mixed Try.func85 (by kernel_rfl) ⟨by kernel_rfl, by kernel_rfl⟩ (fun _ => Nat.le_of_ble_eq_true (by kernel_rfl)) (fun x r h => m_l44_halves x r h)

noncomputable def G_r05_SameBig := mkG (asC (aAgg eTBig) (as1 (aAgg eTBig))) (fun x : TBig × TBig => r05_SameBig x.1 x.2) (fun r : Bool => .clean (.bool r))

theorem q_r05_SameBig (p0_0 : Int) (p0_1 : (List Int)) (p1_0 : Int) (p1_1 : (List Int)) : G_r05_SameBig none [.agg [.int .i64 p0_0, .sl false false p0_1.length (encL (eI .i64) p0_1)], .agg [.int .i64 p1_0, .sl false false p1_1.length (encL (eI .i64) p1_1)]] = (r05_SameBig (TBig.mk p0_0 p0_1) (TBig.mk p1_0 p1_1)).map fun r : Bool => (.clean (.bool r), none) := mkG_eq _ _ _ ((TBig.mk p0_0 p0_1), (TBig.mk p1_0 p1_1))

theorem m_r05_SameBig (p0 : TBig) (p1 : TBig) (r : Bool) (hh : r05_SameBig p0 p1 = some r) : vfunc .clean tab noEnv FU Try.f56 none [.agg [.int .i64 p0.f_Sign, .sl false false p0.f_Digits.length (encL (eI .i64) p0.f_Digits)], .agg [.int .i64 p1.f_Sign, .sl false false p1.f_Digits.length (encL (eI .i64) p1.f_Digits)]] = some (.clean (.bool r), none) := by
  refine vfunc_of rfl Try.ntmps56 Try.results56 ?_
  unfold r05_SameBig at hh
  try simp only [w, seval, -Int.reduceToNat]
  obtain ⟨o1, ho1, hh⟩ := bindS hh
  refine tstO_cut 0 (fun s t H e => match s with | s19j1 => ∃ v2j1 : Nat, ∃ v3j1 : Nat, t 2 = .ptr 2 v2j1 0 ∧ t 3 = .ptr 3 v3j1 0 ∧ t 19 = .bool s19j1 ∧ H 2 = some ⟨v2j1, 32, [.int .i64 p0.f_Sign, .sl false false p0.f_Digits.length (encL (eI .i64) p0.f_Digits)], false, false⟩ ∧ H 3 = some ⟨v3j1, 32, [.int .i64 p1.f_Sign, .sl false false p1.f_Digits.length (encL (eI .i64) p1.f_Digits)], false, false⟩) (fun s => s = o1) ?_ ?_
  · rintro s19j1 t H e ⟨v2j1, v3j1, t2j1, t3j1, t19j1, H2j1, H3j1⟩ rfl
    try dsimp only at hh
    try simp only [w, seval, -Int.reduceToNat, t2j1, t3j1, t19j1, H2j1, H3j1]
    refine tstC_br (fun hb2 => ?_) (fun hb2 => ?_)
    · replace hh := ite_t hb2 hh
      cases hh
      try simp only [w, seval, -Int.reduceToNat, t2j1, t3j1, t19j1, H2j1, H3j1]
    · replace hh := ite_f hb2 hh
      try simp only [w, seval, -Int.reduceToNat, t2j1, t3j1, t19j1, H2j1, H3j1]
      obtain ⟨o7, ho7, hh⟩ := bindS hh
      refine runLoop_sim (fun s t H e => match s with | s5b => ∃ v2b : Nat, ∃ v3b : Nat, t 2 = .ptr 2 v2b 0 ∧ t 3 = .ptr 3 v3b 0 ∧ t 5 = .int .i64 s5b ∧ H 2 = some ⟨v2b, 32, [.int .i64 p0.f_Sign, .sl false false p0.f_Digits.length (encL (eI .i64) p0.f_Digits)], false, false⟩ ∧ H 3 = some ⟨v3b, 32, [.int .i64 p1.f_Sign, .sl false false p1.f_Digits.length (encL (eI .i64) p1.f_Digits)], false, false⟩) (fun o x t H e => match o with | (.inl _) => x = .exit 0 | (.inr r) => x = .ret ∧ endM .clean tab none [.tmp 4] ⟨t, H, e⟩ = some (.clean (.bool r), none)) ho7 ?_ ?_ ?_
      ·
        refine ⟨v2j1, v3j1, ?_, ?_, ?_, ?_, ?_⟩
        all_goals (first | rfl | (simp only [w, seval, -Int.reduceToNat, t2j1, t3j1, t19j1, H2j1, H3j1] <;> rfl))
      · rintro s5b t H e ⟨v2b, v3b, t2b, t3b, t5b, H2b, H3b⟩ c hh
        simp only [r05_SameBig_L2] at hh
        try simp only [w, seval, -Int.reduceToNat, t2b, t3b, t5b, H2b, H3b]
        refine tstC_br (fun hb8 => ?_) (fun hb8 => ?_)
        · replace hh := ite_t hb8 hh
          obtain ⟨x9, hx9, hh⟩ := bindS hh
          have bx9 := idx_bd hx9
          have ax9 := idx_enc (eI .i64) hx9
          have fx9 := idx_fit (eI .i64) hx9
          simp only [vmz] at ax9 fx9
          skip
          obtain ⟨x10, hx10, hh⟩ := bindS hh
          have bx10 := idx_bd hx10
          have ax10 := idx_enc (eI .i64) hx10
          have fx10 := idx_fit (eI .i64) hx10
          simp only [vmz] at ax10 fx10
          skip
          try simp only [w, seval, -Int.reduceToNat, t2b, t3b, t5b, H2b, H3b, bx9, ax9, fx9, bx10, ax10, fx10]
          refine dyn_ok (by kernel_rfl) ?_
          try simp only [w, seval, -Int.reduceToNat, t2b, t3b, t5b, H2b, H3b, bx9, ax9, fx9, bx10, ax10, fx10]
          refine tstC_br (fun hb11 => ?_) (fun hb11 => ?_)
          · replace hh := ite_t hb11 hh
            cases hh
            try simp only [w, seval, -Int.reduceToNat, t2b, t3b, t5b, H2b, H3b, bx9, ax9, fx9, bx10, ax10, fx10]
            rw [LK_ret]
            refine ⟨_, rfl, ?_⟩
            refine ⟨rfl, ?_⟩
            try simp only [w, seval, -Int.reduceToNat, t2b, t3b, t5b, H2b, H3b, bx9, ax9, fx9, bx10, ax10, fx10]
          · replace hh := ite_f hb11 hh
            cases hh
            try simp only [w, seval, -Int.reduceToNat, t2b, t3b, t5b, H2b, H3b, bx9, ax9, fx9, bx10, ax10, fx10]
            rw [LK_normal]
            refine ⟨_, rfl, ?_⟩
            refine ⟨v2b, v3b, ?_, ?_, ?_, ?_, ?_⟩
            all_goals (first | rfl | (simp only [w, seval, -Int.reduceToNat, t2b, t3b, t5b, H2b, H3b, bx9, ax9, fx9, bx10, ax10, fx10] <;> rfl))
        · replace hh := ite_f hb8 hh
          cases hh
          try simp only [w, seval, -Int.reduceToNat, t2b, t3b, t5b, H2b, H3b]
          rw [LK_exit]
          refine ⟨_, rfl, ?_⟩
          exact rfl
      · rintro x t H e hx
        rcases o7 with _ | rb
        ·
          dsimp only at hx hh
          subst hx
          cases hh
          try simp only [w, seval, -Int.reduceToNat]
        ·
          dsimp only at hx hh
          obtain ⟨rfl, hE⟩ := hx
          cases hh
          try simp only [runW_pass_ret, runW_pass_exit, runW_blk_ret, runW_nil, endW_ret]
          exact hE
  ·
    clear hh
    have hh := ho1
    try simp only [w, seval, -Int.reduceToNat]
    refine tstO_br' (fun hb12 => ?_) (fun hb12 => ?_)
    · replace hh := ite_t hb12 hh
      cases hh
      try simp only [w, seval, -Int.reduceToNat]
      rw [CK_normal]
      refine ⟨_, rfl, ?_⟩
      refine ⟨0, 0, ?_, ?_, ?_, ?_, ?_⟩
      all_goals (first | rfl | (simp only [w, seval, -Int.reduceToNat] <;> rfl))
    · replace hh := ite_f hb12 hh
      cases hh
      try simp only [w, seval, -Int.reduceToNat]
      rw [CK_normal]
      refine ⟨_, rfl, ?_⟩
      refine ⟨0, 0, ?_, ?_, ?_, ?_, ?_⟩
      all_goals (first | rfl | (simp only [w, seval, -Int.reduceToNat] <;> rfl))

theorem ok_r05_SameBig : COk Try.prog 56 G_r05_SameBig := COk.of (mode := .clean) tok GOk.none mixed Try.func56 (by kernel_rfl) ⟨by kernel_rfl, by kernel_rfl⟩ (fun _ => Nat.le_of_ble_eq_true (by kernel_rfl)) (fun x r h => m_r05_SameBig x.1 x.2 r h)

noncomputable def G_r05_Same := mkG (asC (aAgg eTFrac) (as1 (aAgg eTFrac))) (fun x : TFrac × TFrac => r05_Same x.1 x.2) (fun r : Bool => .clean (.bool r))

theorem q_r05_Same (p0_0 : Int) (p0_1 : (List Int)) (p0_2 : Int) (p0_3 : (List Int)) (p1_0 : Int) (p1_1 : (List Int)) (p1_2 : Int) (p1_3 : (List Int)) : G_r05_Same none [.agg [.int .i64 p0_0, .sl false false p0_1.length (encL (eI .i64) p0_1), .int .i64 p0_2, .sl false false p0_3.length (encL (eI .i64) p0_3)], .agg [.int .i64 p1_0, .sl false false p1_1.length (encL (eI .i64) p1_1), .int .i64 p1_2, .sl false false p1_3.length (encL (eI .i64) p1_3)]] = (r05_Same (TFrac.mk (TBig.mk p0_0 p0_1) (TBig.mk p0_2 p0_3)) (TFrac.mk (TBig.mk p1_0 p1_1) (TBig.mk p1_2 p1_3))).map fun r : Bool => (.clean (.bool r), none) := mkG_eq _ _ _ ((TFrac.mk (TBig.mk p0_0 p0_1) (TBig.mk p0_2 p0_3)), (TFrac.mk (TBig.mk p1_0 p1_1) (TBig.mk p1_2 p1_3)))

noncomputable def g_r05_Same : Env := (Am.ext noEnv 56 false G_r05_SameBig)

theorem ge_r05_Same : GOk Try.prog g_r05_Same := (GOk.none.add ok_r05_SameBig false)

theorem gg_r05_Same : g_r05_Same = (Am.ext noEnv 56 false G_r05_SameBig) := Eq.trans rfl rfl

theorem x_r05_Same : type_of% (And.intro @w <| And.intro @q_r05_SameBig <| @gg_r05_Same) := And.intro @w <| And.intro @q_r05_SameBig <| @gg_r05_Same

theorem m_r05_Same (p0 : TFrac) (p1 : TFrac) (r : Bool) (hh : r05_Same p0 p1 = some r) : vfunc .clean tab g_r05_Same FU Try.f19 none [.agg [.int .i64 p0.f_P.f_Sign, .sl false false p0.f_P.f_Digits.length (encL (eI .i64) p0.f_P.f_Digits), .int .i64 p0.f_Q.f_Sign, .sl false false p0.f_Q.f_Digits.length (encL (eI .i64) p0.f_Q.f_Digits)], .agg [.int .i64 p1.f_P.f_Sign, .sl false false p1.f_P.f_Digits.length (encL (eI .i64) p1.f_P.f_Digits), .int .i64 p1.f_Q.f_Sign, .sl false false p1.f_Q.f_Digits.length (encL (eI .i64) p1.f_Q.f_Digits)]] = some (.clean (.bool r), none) := by
  refine vfunc_of rfl Try.ntmps19 Try.results19 ?_
  unfold r05_Same at hh
  obtain ⟨r1, hr1, hh⟩ := bindS hh
  try simp only [x_r05_Same, seval, -Int.reduceToNat, hr1]
  refine tstO_br (fun hb2 => ?_) (fun hb2 => ?_)
  · replace hh := ite_t hb2 hh
    obtain ⟨r3, hr3, hh⟩ := bindS hh
    cases hh
    try simp only [x_r05_Same, seval, -Int.reduceToNat, hr1, hr3]
  · replace hh := ite_f hb2 hh
    cases hh
    try simp only [x_r05_Same, seval, -Int.reduceToNat, hr1]

theorem ok_r05_Same : COk Try.prog 19 G_r05_Same := COk.of (mode := .clean) tok ge_r05_Same mixed Try.func19 (by kernel_rfl) ⟨by kernel_rfl, by kernel_rfl⟩ (fun _ => Nat.le_of_ble_eq_true (by kernel_rfl)) (fun x r h => m_r05_Same x.1 x.2 r h)

noncomputable def G_r44_SameList := mkG (asC (aSl eTFrac) (as1 (aSl eTFrac))) (fun x : (List TFrac) × (List TFrac) => r44_SameList x.1 x.2) (fun r : Bool => .clean (.bool r))

theorem q_r44_SameList (p0 : (List TFrac)) (p1 : (List TFrac)) : G_r44_SameList none [.sl false false p0.length (encL eTFrac p0), .sl false false p1.length (encL eTFrac p1)] = (r44_SameList p0 p1).map fun r : Bool => (.clean (.bool r), none) := mkG_eq _ _ _ (p0, p1)

noncomputable def g_r44_SameList : Env := (Am.ext noEnv 19 false G_r05_Same)

theorem ge_r44_SameList : GOk Try.prog g_r44_SameList := (GOk.none.add ok_r05_Same false)

theorem gg_r44_SameList : g_r44_SameList = (Am.ext noEnv 19 false G_r05_Same) := Eq.trans rfl rfl

theorem x_r44_SameList : type_of% (And.intro @w <| And.intro @q_r05_Same <| @gg_r44_SameList) := And.intro @w <| And.intro @q_r05_Same <| @gg_r44_SameList

theorem m_r44_SameList (p0 : (List TFrac)) (p1 : (List TFrac)) (r : Bool) (hh : r44_SameList p0 p1 = some r) : vfunc .clean tab g_r44_SameList FU Try.f22 none [.sl false false p0.length (encL eTFrac p0), .sl false false p1.length (encL eTFrac p1)] = some (.clean (.bool r), none) := by
  refine vfunc_of rfl Try.ntmps22 Try.results22 ?_
  unfold r44_SameList at hh
  try simp only [x_r44_SameList, seval, -Int.reduceToNat]
  refine tstC_br (fun hb1 => ?_) (fun hb1 => ?_)
  · replace hh := ite_t hb1 hh
    cases hh
    try simp only [x_r44_SameList, seval, -Int.reduceToNat]
  · replace hh := ite_f hb1 hh
    try simp only [x_r44_SameList, seval, -Int.reduceToNat]
    obtain ⟨o7, ho7, hh⟩ := bindS hh
    refine runLoop_sim (fun s t H e => match s with | s5a => t 0 = .sl false false p0.length (encL eTFrac p0) ∧ t 1 = .sl false false p1.length (encL eTFrac p1) ∧ t 5 = .int .i64 s5a) (fun o x t H e => match o with | (.inl _) => x = .exit 0 | (.inr r) => x = .ret ∧ endM .clean tab none [.tmp 4] ⟨t, H, e⟩ = some (.clean (.bool r), none)) ho7 ?_ ?_ ?_
    ·
      refine ⟨?_, ?_, ?_⟩
      all_goals (first | rfl | (simp only [x_r44_SameList, seval, -Int.reduceToNat] <;> rfl))
    · rintro s5a t H e ⟨t0a, t1a, t5a⟩ c hh
      simp only [r44_SameList_L1] at hh
      try simp only [x_r44_SameList, seval, -Int.reduceToNat, t0a, t1a, t5a]
      refine tstC_br (fun hb8 => ?_) (fun hb8 => ?_)
      · replace hh := ite_t hb8 hh
        obtain ⟨x9, hx9, hh⟩ := bindS hh
        have bx9 := idx_bd hx9
        have ax9 := idx_enc eTFrac hx9
        have fx9 := idx_fit eTFrac hx9
        simp only [vmz] at ax9 fx9
        skip
        obtain ⟨x10, hx10, hh⟩ := bindS hh
        have bx10 := idx_bd hx10
        have ax10 := idx_enc eTFrac hx10
        have fx10 := idx_fit eTFrac hx10
        simp only [vmz] at ax10 fx10
        skip
        obtain ⟨r11, hr11, hh⟩ := bindS hh
        try simp only [x_r44_SameList, seval, -Int.reduceToNat, t0a, t1a, t5a, bx9, ax9, fx9, bx10, ax10, fx10, hr11]
        refine dyn_ok (by kernel_rfl) ?_
        try simp only [x_r44_SameList, seval, -Int.reduceToNat, t0a, t1a, t5a, bx9, ax9, fx9, bx10, ax10, fx10, hr11]
        refine tstC_br (fun hb12 => ?_) (fun hb12 => ?_)
        · replace hh := ite_t hb12 hh
          cases hh
          try simp only [x_r44_SameList, seval, -Int.reduceToNat, t0a, t1a, t5a, bx9, ax9, fx9, bx10, ax10, fx10, hr11]
          rw [LK_ret]
          refine ⟨_, rfl, ?_⟩
          refine ⟨rfl, ?_⟩
          try simp only [x_r44_SameList, seval, -Int.reduceToNat, t0a, t1a, t5a, bx9, ax9, fx9, bx10, ax10, fx10, hr11]
        · replace hh := ite_f hb12 hh
          cases hh
          try simp only [x_r44_SameList, seval, -Int.reduceToNat, t0a, t1a, t5a, bx9, ax9, fx9, bx10, ax10, fx10, hr11]
          rw [LK_normal]
          refine ⟨_, rfl, ?_⟩
          refine ⟨?_, ?_, ?_⟩
          all_goals (first | rfl | (simp only [x_r44_SameList, seval, -Int.reduceToNat, t0a, t1a, t5a, bx9, ax9, fx9, bx10, ax10, fx10, hr11] <;> rfl))
      · replace hh := ite_f hb8 hh
        cases hh
        try simp only [x_r44_SameList, seval, -Int.reduceToNat, t0a, t1a, t5a]
        rw [LK_exit]
        refine ⟨_, rfl, ?_⟩
        exact rfl
    · rintro x t H e hx
      rcases o7 with _ | ra
      ·
        dsimp only at hx hh
        subst hx
        cases hh
        try simp only [x_r44_SameList, seval, -Int.reduceToNat]
      ·
        dsimp only at hx hh
        obtain ⟨rfl, hE⟩ := hx
        cases hh
        try simp only [runW_pass_ret, runW_pass_exit, runW_blk_ret, runW_nil, endW_ret]
        exact hE

theorem ok_r44_SameList : COk Try.prog 22 G_r44_SameList := COk.of (mode := .clean) tok ge_r44_SameList mixed Try.func22 (by kernel_rfl) ⟨by kernel_rfl, by kernel_rfl⟩ (fun _ => Nat.le_of_ble_eq_true (by kernel_rfl)) (fun x r h => m_r44_SameList x.1 x.2 r h)

noncomputable def G_frac_Sign := mkG (as1 (aAgg eTFrac)) (fun x : TFrac => frac_Sign x) (fun r : Int => .clean (.int .i64 r))

theorem q_frac_Sign (p0_0 : Int) (p0_1 : (List Int)) (p0_2 : Int) (p0_3 : (List Int)) : G_frac_Sign none [.agg [.int .i64 p0_0, .sl false false p0_1.length (encL (eI .i64) p0_1), .int .i64 p0_2, .sl false false p0_3.length (encL (eI .i64) p0_3)]] = (frac_Sign (TFrac.mk (TBig.mk p0_0 p0_1) (TBig.mk p0_2 p0_3))).map fun r : Int => (.clean (.int .i64 r), none) := mkG_eq _ _ _ ((TFrac.mk (TBig.mk p0_0 p0_1) (TBig.mk p0_2 p0_3)))

noncomputable def g_frac_Sign : Env := (Am.ext noEnv 24 false G_frac_Right)

theorem ge_frac_Sign : GOk Try.prog g_frac_Sign := (GOk.none.add ok_frac_Right false)

theorem gg_frac_Sign : g_frac_Sign = (Am.ext noEnv 24 false G_frac_Right) := Eq.trans rfl rfl

theorem x_frac_Sign : type_of% (And.intro @w <| And.intro @q_frac_Right <| @gg_frac_Sign) := And.intro @w <| And.intro @q_frac_Right <| @gg_frac_Sign

theorem m_frac_Sign (p0 : TFrac) (r : Int) (hh : frac_Sign p0 = some r) : vfunc .clean tab g_frac_Sign FU Try.f43 none [.agg [.int .i64 p0.f_P.f_Sign, .sl false false p0.f_P.f_Digits.length (encL (eI .i64) p0.f_P.f_Digits), .int .i64 p0.f_Q.f_Sign, .sl false false p0.f_Q.f_Digits.length (encL (eI .i64) p0.f_Q.f_Digits)]] = some (.clean (.int .i64 r), none) := by
  refine vfunc_of rfl Try.ntmps43 Try.results43 ?_
  unfold frac_Sign at hh
  obtain ⟨r1, hr1, hh⟩ := bindS hh
  try simp only [x_frac_Sign, seval, -Int.reduceToNat, hr1]
  refine tstC_br (fun hb2 => ?_) (fun hb2 => ?_)
  · replace hh := ite_t hb2 hh
    cases hh
    try simp only [x_frac_Sign, seval, -Int.reduceToNat, hr1]
  · replace hh := ite_f hb2 hh
    cases hh
    try simp only [x_frac_Sign, seval, -Int.reduceToNat, hr1]

theorem ok_frac_Sign : COk Try.prog 43 G_frac_Sign := COk.of (mode := .clean) tok ge_frac_Sign mixed Try.func43 (by kernel_rfl) ⟨by kernel_rfl, by kernel_rfl⟩ (fun _ => Nat.le_of_ble_eq_true (by kernel_rfl)) (fun x r h => m_frac_Sign x r h)

noncomputable def G_big_Compare := mkG (asC (aAgg eTBig) (as1 (aAgg eTBig))) (fun x : TBig × TBig => big_Compare x.1 x.2) (fun r : Int => .clean (.int .i64 r))

theorem q_big_Compare (p0_0 : Int) (p0_1 : (List Int)) (p1_0 : Int) (p1_1 : (List Int)) : G_big_Compare none [.agg [.int .i64 p0_0, .sl false false p0_1.length (encL (eI .i64) p0_1)], .agg [.int .i64 p1_0, .sl false false p1_1.length (encL (eI .i64) p1_1)]] = (big_Compare (TBig.mk p0_0 p0_1) (TBig.mk p1_0 p1_1)).map fun r : Int => (.clean (.int .i64 r), none) := mkG_eq _ _ _ ((TBig.mk p0_0 p0_1), (TBig.mk p1_0 p1_1))

noncomputable def g_big_Compare : Env := (Am.ext (Am.ext (Am.ext noEnv 58 false G_big_Right) 97 false G_big_compare) 103 false G_cmp_Compare)

theorem ge_big_Compare : GOk Try.prog g_big_Compare := (((GOk.none.add ok_big_Right false).add ok_big_compare false).add ok_cmp_Compare false)

theorem gg_big_Compare : g_big_Compare = (Am.ext (Am.ext (Am.ext noEnv 58 false G_big_Right) 97 false G_big_compare) 103 false G_cmp_Compare) := Eq.trans rfl rfl

theorem x_big_Compare : type_of% (And.intro @w <| And.intro @q_big_Right <| And.intro @q_big_compare <| And.intro @q_cmp_Compare <| @gg_big_Compare) := And.intro @w <| And.intro @q_big_Right <| And.intro @q_big_compare <| And.intro @q_cmp_Compare <| @gg_big_Compare

theorem m_big_Compare (p0 : TBig) (p1 : TBig) (r : Int) (hh : big_Compare p0 p1 = some r) : vfunc .clean tab g_big_Compare FU Try.f66 none [.agg [.int .i64 p0.f_Sign, .sl false false p0.f_Digits.length (encL (eI .i64) p0.f_Digits)], .agg [.int .i64 p1.f_Sign, .sl false false p1.f_Digits.length (encL (eI .i64) p1.f_Digits)]] = some (.clean (.int .i64 r), none) := by
  refine vfunc_of rfl Try.ntmps66 Try.results66 ?_
  unfold big_Compare at hh
  obtain ⟨r1, hr1, hh⟩ := bindS hh
  try simp only [x_big_Compare, seval, -Int.reduceToNat, hr1]
  obtain ⟨o2, ho2, hh⟩ := bindS hh
  refine tstO_cut 0 (fun s t H e => match s with | s12j1 => ∃ v2j1 : Nat, ∃ v3j1 : Nat, t 2 = .ptr 2 v2j1 0 ∧ t 3 = .ptr 3 v3j1 0 ∧ t 12 = .bool s12j1 ∧ H 2 = some ⟨v2j1, 32, [.int .i64 p0.f_Sign, .sl false false p0.f_Digits.length (encL (eI .i64) p0.f_Digits)], false, false⟩ ∧ H 3 = some ⟨v3j1, 32, [.int .i64 p1.f_Sign, .sl false false p1.f_Digits.length (encL (eI .i64) p1.f_Digits)], false, false⟩) (fun s => s = o2) ?_ ?_
  · rintro s12j1 t H e ⟨v2j1, v3j1, t2j1, t3j1, t12j1, H2j1, H3j1⟩ rfl
    try dsimp only at hh
    try simp only [x_big_Compare, seval, -Int.reduceToNat, hr1, t2j1, t3j1, t12j1, H2j1, H3j1]
    refine tstC_br (fun hb3 => ?_) (fun hb3 => ?_)
    · replace hh := ite_t hb3 hh
      cases hh
      try simp only [x_big_Compare, seval, -Int.reduceToNat, hr1, t2j1, t3j1, t12j1, H2j1, H3j1]
    · replace hh := ite_f hb3 hh
      try simp only [x_big_Compare, seval, -Int.reduceToNat, hr1, t2j1, t3j1, t12j1, H2j1, H3j1]
      refine tstC_br (fun hb4 => ?_) (fun hb4 => ?_)
      · replace hh := ite_t hb4 hh
        obtain ⟨r5, hr5, hh⟩ := bindS hh
        cases hh
        try simp only [x_big_Compare, seval, -Int.reduceToNat, hr1, t2j1, t3j1, t12j1, H2j1, H3j1, hr5]
      · replace hh := ite_f hb4 hh
        obtain ⟨r6, hr6, hh⟩ := bindS hh
        try simp only [x_big_Compare, seval, -Int.reduceToNat, hr1, t2j1, t3j1, t12j1, H2j1, H3j1, hr6]
        refine dyn_ok (by kernel_rfl) ?_
        cases hh
        try simp only [x_big_Compare, seval, -Int.reduceToNat, hr1, t2j1, t3j1, t12j1, H2j1, H3j1, hr6]
  ·
    clear hh
    have hh := ho2
    try simp only [x_big_Compare, seval, -Int.reduceToNat, hr1]
    refine tstO_br' (fun hb7 => ?_) (fun hb7 => ?_)
    · replace hh := ite_t hb7 hh
      cases hh
      try simp only [x_big_Compare, seval, -Int.reduceToNat, hr1]
      rw [CK_normal]
      refine ⟨_, rfl, ?_⟩
      refine ⟨0, 0, ?_, ?_, ?_, ?_, ?_⟩
      all_goals (first | rfl | (simp only [x_big_Compare, seval, -Int.reduceToNat, hr1] <;> rfl))
    · replace hh := ite_f hb7 hh
      obtain ⟨r8, hr8, hh⟩ := bindS hh
      cases hh
      try simp only [x_big_Compare, seval, -Int.reduceToNat, hr1, hr8]
      rw [CK_normal]
      refine ⟨_, rfl, ?_⟩
      refine ⟨0, 0, ?_, ?_, ?_, ?_, ?_⟩
      all_goals (first | rfl | (simp only [x_big_Compare, seval, -Int.reduceToNat, hr1, hr8] <;> rfl))

theorem ok_big_Compare : COk Try.prog 66 G_big_Compare := COk.of (mode := .clean) tok ge_big_Compare mixed Try.func66 (by kernel_rfl) ⟨by kernel_rfl, by kernel_rfl⟩ (fun _ => Nat.le_of_ble_eq_true (by kernel_rfl)) (fun x r h => m_big_Compare x.1 x.2 r h)

noncomputable def G_frac_Compare := mkG (asC (aAgg eTFrac) (as1 (aAgg eTFrac))) (fun x : TFrac × TFrac => frac_Compare x.1 x.2) (fun r : Int => .clean (.int .i64 r))

theorem q_frac_Compare (p0_0 : Int) (p0_1 : (List Int)) (p0_2 : Int) (p0_3 : (List Int)) (p1_0 : Int) (p1_1 : (List Int)) (p1_2 : Int) (p1_3 : (List Int)) : G_frac_Compare none [.agg [.int .i64 p0_0, .sl false false p0_1.length (encL (eI .i64) p0_1), .int .i64 p0_2, .sl false false p0_3.length (encL (eI .i64) p0_3)], .agg [.int .i64 p1_0, .sl false false p1_1.length (encL (eI .i64) p1_1), .int .i64 p1_2, .sl false false p1_3.length (encL (eI .i64) p1_3)]] = (frac_Compare (TFrac.mk (TBig.mk p0_0 p0_1) (TBig.mk p0_2 p0_3)) (TFrac.mk (TBig.mk p1_0 p1_1) (TBig.mk p1_2 p1_3))).map fun r : Int => (.clean (.int .i64 r), none) := mkG_eq _ _ _ ((TFrac.mk (TBig.mk p0_0 p0_1) (TBig.mk p0_2 p0_3)), (TFrac.mk (TBig.mk p1_0 p1_1) (TBig.mk p1_2 p1_3)))

noncomputable def g_frac_Compare : Env := (Am.ext (Am.ext (Am.ext noEnv 24 false G_frac_Right) 62 false G_frac_times) 66 false G_big_Compare)

theorem ge_frac_Compare : GOk Try.prog g_frac_Compare := (((GOk.none.add ok_frac_Right false).add ok_frac_times false).add ok_big_Compare false)

theorem gg_frac_Compare : g_frac_Compare = (Am.ext (Am.ext (Am.ext noEnv 24 false G_frac_Right) 62 false G_frac_times) 66 false G_big_Compare) := Eq.trans rfl rfl

theorem x_frac_Compare : type_of% (And.intro @w <| And.intro @q_frac_Right <| And.intro @q_frac_times <| And.intro @q_big_Compare <| @gg_frac_Compare) := And.intro @w <| And.intro @q_frac_Right <| And.intro @q_frac_times <| And.intro @q_big_Compare <| @gg_frac_Compare

theorem m_frac_Compare (p0 : TFrac) (p1 : TFrac) (r : Int) (hh : frac_Compare p0 p1 = some r) : vfunc .clean tab g_frac_Compare FU Try.f32 none [.agg [.int .i64 p0.f_P.f_Sign, .sl false false p0.f_P.f_Digits.length (encL (eI .i64) p0.f_P.f_Digits), .int .i64 p0.f_Q.f_Sign, .sl false false p0.f_Q.f_Digits.length (encL (eI .i64) p0.f_Q.f_Digits)], .agg [.int .i64 p1.f_P.f_Sign, .sl false false p1.f_P.f_Digits.length (encL (eI .i64) p1.f_P.f_Digits), .int .i64 p1.f_Q.f_Sign, .sl false false p1.f_Q.f_Digits.length (encL (eI .i64) p1.f_Q.f_Digits)]] = some (.clean (.int .i64 r), none) := by
  refine vfunc_of rfl Try.ntmps32 Try.results32 ?_
  unfold frac_Compare at hh
  obtain ⟨r1, hr1, hh⟩ := bindS hh
  try simp only [x_frac_Compare, seval, -Int.reduceToNat, hr1]
  obtain ⟨o2, ho2, hh⟩ := bindS hh
  refine tstO_cut 0 (fun s t H e => match s with | s12j1 => ∃ v2j1 : Nat, ∃ v3j1 : Nat, t 2 = .ptr 2 v2j1 0 ∧ t 3 = .ptr 3 v3j1 0 ∧ t 12 = .bool s12j1 ∧ H 2 = some ⟨v2j1, 34, [.int .i64 p0.f_P.f_Sign, .sl false false p0.f_P.f_Digits.length (encL (eI .i64) p0.f_P.f_Digits), .int .i64 p0.f_Q.f_Sign, .sl false false p0.f_Q.f_Digits.length (encL (eI .i64) p0.f_Q.f_Digits)], false, false⟩ ∧ H 3 = some ⟨v3j1, 34, [.int .i64 p1.f_P.f_Sign, .sl false false p1.f_P.f_Digits.length (encL (eI .i64) p1.f_P.f_Digits), .int .i64 p1.f_Q.f_Sign, .sl false false p1.f_Q.f_Digits.length (encL (eI .i64) p1.f_Q.f_Digits)], false, false⟩) (fun s => s = o2) ?_ ?_
  · rintro s12j1 t H e ⟨v2j1, v3j1, t2j1, t3j1, t12j1, H2j1, H3j1⟩ rfl
    try dsimp only at hh
    try simp only [x_frac_Compare, seval, -Int.reduceToNat, hr1, t2j1, t3j1, t12j1, H2j1, H3j1]
    refine tstC_br (fun hb3 => ?_) (fun hb3 => ?_)
    · replace hh := ite_t hb3 hh
      cases hh
      try simp only [x_frac_Compare, seval, -Int.reduceToNat, hr1, t2j1, t3j1, t12j1, H2j1, H3j1]
    · replace hh := ite_f hb3 hh
      obtain ⟨r4, hr4, hh⟩ := bindS hh
      obtain ⟨r5, hr5, hh⟩ := bindS hh
      obtain ⟨r6, hr6, hh⟩ := bindS hh
      try simp only [x_frac_Compare, seval, -Int.reduceToNat, hr1, t2j1, t3j1, t12j1, H2j1, H3j1, hr4, hr5, hr6]
      refine dyn_ok (by kernel_rfl) ?_
      cases hh
      try simp only [x_frac_Compare, seval, -Int.reduceToNat, hr1, t2j1, t3j1, t12j1, H2j1, H3j1, hr4, hr5, hr6]
  ·
    clear hh
    have hh := ho2
    try simp only [x_frac_Compare, seval, -Int.reduceToNat, hr1]
    refine tstO_br' (fun hb7 => ?_) (fun hb7 => ?_)
    · replace hh := ite_t hb7 hh
      cases hh
      try simp only [x_frac_Compare, seval, -Int.reduceToNat, hr1]
      rw [CK_normal]
      refine ⟨_, rfl, ?_⟩
      refine ⟨0, 0, ?_, ?_, ?_, ?_, ?_⟩
      all_goals (first | rfl | (simp only [x_frac_Compare, seval, -Int.reduceToNat, hr1] <;> rfl))
    · replace hh := ite_f hb7 hh
      obtain ⟨r8, hr8, hh⟩ := bindS hh
      cases hh
      try simp only [x_frac_Compare, seval, -Int.reduceToNat, hr1, hr8]
      rw [CK_normal]
      refine ⟨_, rfl, ?_⟩
      refine ⟨0, 0, ?_, ?_, ?_, ?_, ?_⟩
      all_goals (first | rfl | (simp only [x_frac_Compare, seval, -Int.reduceToNat, hr1, hr8] <;> rfl))

theorem ok_frac_Compare : COk Try.prog 32 G_frac_Compare := COk.of (mode := .clean) tok ge_frac_Compare mixed Try.func32 (by kernel_rfl) ⟨by kernel_rfl, by kernel_rfl⟩ (fun _ => Nat.le_of_ble_eq_true (by kernel_rfl)) (fun x r h => m_frac_Compare x.1 x.2 r h)

noncomputable def G_bridge_Check := mkG (asC (aSl eTFrac) (asC (aSl eTFrac) (as1 (aSl eTFrac)))) (fun x : (List TFrac) × (List TFrac) × (List TFrac) => bridge_Check x.1 x.2.1 x.2.2) (fun r : Bool => .clean (.bool r))

theorem q_bridge_Check (p0 : (List TFrac)) (p1 : (List TFrac)) (p2 : (List TFrac)) : G_bridge_Check none [.sl false false p0.length (encL eTFrac p0), .sl false false p1.length (encL eTFrac p1), .sl false false p2.length (encL eTFrac p2)] = (bridge_Check p0 p1 p2).map fun r : Bool => (.clean (.bool r), none) := mkG_eq _ _ _ (p0, p1, p2)

noncomputable def g_bridge_Check : Env := (Am.ext (Am.ext (Am.ext (Am.ext (Am.ext (Am.ext (Am.ext noEnv 32 false G_frac_Compare) 43 false G_frac_Sign) 50 false G_bridge_edits) 51 false G_bridge_sub) 52 false G_frac_Int) 53 false G_bridge_add) 57 false G_bridge_right)

theorem ge_bridge_Check : GOk Try.prog g_bridge_Check := (((((((GOk.none.add ok_frac_Compare false).add ok_frac_Sign false).add ok_bridge_edits false).add ok_bridge_sub false).add ok_frac_Int false).add ok_bridge_add false).add ok_bridge_right false)

theorem gg_bridge_Check : g_bridge_Check = (Am.ext (Am.ext (Am.ext (Am.ext (Am.ext (Am.ext (Am.ext noEnv 32 false G_frac_Compare) 43 false G_frac_Sign) 50 false G_bridge_edits) 51 false G_bridge_sub) 52 false G_frac_Int) 53 false G_bridge_add) 57 false G_bridge_right) := Eq.trans rfl rfl

theorem x_bridge_Check : type_of% (And.intro @w <| And.intro @q_frac_Compare <| And.intro @q_frac_Sign <| And.intro @q_bridge_edits <| And.intro @q_bridge_sub <| And.intro @q_frac_Int <| And.intro @q_bridge_add <| And.intro @q_bridge_right <| @gg_bridge_Check) := And.intro @w <| And.intro @q_frac_Compare <| And.intro @q_frac_Sign <| And.intro @q_bridge_edits <| And.intro @q_bridge_sub <| And.intro @q_frac_Int <| And.intro @q_bridge_add <| And.intro @q_bridge_right <| @gg_bridge_Check

theorem m_bridge_Check (p0 : (List TFrac)) (p1 : (List TFrac)) (p2 : (List TFrac)) (r : Bool) (hh : bridge_Check p0 p1 p2 = some r) : vfunc .clean tab g_bridge_Check FU Try.f21 none [.sl false false p0.length (encL eTFrac p0), .sl false false p1.length (encL eTFrac p1), .sl false false p2.length (encL eTFrac p2)] = some (.clean (.bool r), none) := by
  refine vfunc_of rfl Try.ntmps21 Try.results21 ?_
  unfold bridge_Check at hh
  obtain ⟨r1, hr1, hh⟩ := bindS hh
  try simp only [x_bridge_Check, seval, -Int.reduceToNat, hr1]
  obtain ⟨o2, ho2, hh⟩ := bindS hh
  refine tstO_cut 0 (fun s t H e => match s with | s51j1 => t 0 = .sl false false p0.length (encL eTFrac p0) ∧ t 1 = .sl false false p1.length (encL eTFrac p1) ∧ t 2 = .sl false false p2.length (encL eTFrac p2) ∧ t 7 = .int .i64 r1.1 ∧ t 51 = .bool s51j1) (fun s => s = o2) ?_ ?_
  · rintro s51j1 t H e ⟨t0j1, t1j1, t2j1, t7j1, t51j1⟩ rfl
    try dsimp only at hh
    try simp only [x_bridge_Check, seval, -Int.reduceToNat, hr1, t0j1, t1j1, t2j1, t7j1, t51j1]
    refine tstC_br (fun hb3 => ?_) (fun hb3 => ?_)
    · replace hh := ite_t hb3 hh
      cases hh
      try simp only [x_bridge_Check, seval, -Int.reduceToNat, hr1, t0j1, t1j1, t2j1, t7j1, t51j1]
    · replace hh := ite_f hb3 hh
      try simp only [x_bridge_Check, seval, -Int.reduceToNat, hr1, t0j1, t1j1, t2j1, t7j1, t51j1]
      obtain ⟨o30, ho30, hh⟩ := bindS hh
      refine runLoop_sim (fun s t H e => match s with | s9b => t 0 = .sl false false p0.length (encL eTFrac p0) ∧ t 1 = .sl false false p1.length (encL eTFrac p1) ∧ t 2 = .sl false false p2.length (encL eTFrac p2) ∧ t 7 = .int .i64 r1.1 ∧ t 9 = .int .i64 s9b) (fun o x t H e => match o with | (.inl _) => x = .exit 0 ∧ t 0 = .sl false false p0.length (encL eTFrac p0) ∧ t 1 = .sl false false p1.length (encL eTFrac p1) ∧ t 2 = .sl false false p2.length (encL eTFrac p2) | (.inr r) => x = .ret ∧ endM .clean tab none [.tmp 6] ⟨t, H, e⟩ = some (.clean (.bool r), none)) ho30 ?_ ?_ ?_
      ·
        refine ⟨?_, ?_, ?_, ?_, ?_⟩
        all_goals (first | rfl | (simp only [x_bridge_Check, seval, -Int.reduceToNat, hr1, t0j1, t1j1, t2j1, t7j1, t51j1] <;> rfl))
      · rintro s9b t H e ⟨t0b, t1b, t2b, t7b, t9b⟩ c hh
        simp only [bridge_Check_L2] at hh
        try simp only [x_bridge_Check, seval, -Int.reduceToNat, hr1, t0b, t1b, t2b, t7b, t9b]
        refine tstC_br (fun hb31 => ?_) (fun hb31 => ?_)
        · replace hh := ite_t hb31 hh
          obtain ⟨r32, hr32, hh⟩ := bindS hh
          try simp only [x_bridge_Check, seval, -Int.reduceToNat, hr1, t0b, t1b, t2b, t7b, t9b, hr32]
          obtain ⟨o42, ho42, hh⟩ := bindS hh
          refine runLoop_sim (fun s t H e => match s with | (s60d, r10_0d, r10_1d, r10_2d, r10_3d) => ∃ v10d : Nat, t 0 = .sl false false p0.length (encL eTFrac p0) ∧ t 1 = .sl false false p1.length (encL eTFrac p1) ∧ t 2 = .sl false false p2.length (encL eTFrac p2) ∧ t 7 = .int .i64 r1.1 ∧ t 9 = .int .i64 s9b ∧ t 10 = .ptr 10 v10d 0 ∧ t 59 = .int .i64 r1.1 ∧ t 60 = .int .i64 s60d ∧ H 10 = some ⟨v10d, 34, [.int .i64 r10_0d, .sl false false r10_1d.length (encL (eI .i64) r10_1d), .int .i64 r10_2d, .sl false false r10_3d.length (encL (eI .i64) r10_3d)], false, false⟩) (fun o x t H e => match o with | (r10_0dx, r10_1dx, r10_2dx, r10_3dx) => x = .exit 2 ∧ ∃ v10dx : Nat, t 0 = .sl false false p0.length (encL eTFrac p0) ∧ t 1 = .sl false false p1.length (encL eTFrac p1) ∧ t 2 = .sl false false p2.length (encL eTFrac p2) ∧ t 7 = .int .i64 r1.1 ∧ t 9 = .int .i64 s9b ∧ t 10 = .ptr 10 v10dx 0 ∧ H 10 = some ⟨v10dx, 34, [.int .i64 r10_0dx, .sl false false r10_1dx.length (encL (eI .i64) r10_1dx), .int .i64 r10_2dx, .sl false false r10_3dx.length (encL (eI .i64) r10_3dx)], false, false⟩) ho42 ?_ ?_ ?_
          ·
            refine ⟨e + 1, ?_, ?_, ?_, ?_, ?_, ?_, ?_, ?_, ?_⟩
            all_goals (first | rfl | (simp only [x_bridge_Check, seval, -Int.reduceToNat, hr1, t0b, t1b, t2b, t7b, t9b, hr32] <;> rfl))
          · rintro ⟨s60d, r10_0d, r10_1d, r10_2d, r10_3d⟩ t H e ⟨v10d, t0d, t1d, t2d, t7d, t9d, t10d, t59d, t60d, H10d⟩ c hh
            simp only [bridge_Check_L4] at hh
            try simp only [x_bridge_Check, seval, -Int.reduceToNat, hr1, hr32, t0d, t1d, t2d, t7d, t9d, t10d, t59d, t60d, H10d]
            refine tstC_br (fun hb43 => ?_) (fun hb43 => ?_)
            · replace hh := ite_t hb43 hh
              obtain ⟨x44, hx44, hh⟩ := bindS hh
              obtain ⟨q45a, q45b⟩ := shlI_ok hx44
              try simp only [x_bridge_Check, seval, -Int.reduceToNat, hr1, hr32, t0d, t1d, t2d, t7d, t9d, t10d, t59d, t60d, H10d, q45a, q45b]
              refine tstC_br (fun hb46 => ?_) (fun hb46 => ?_)
              · replace hh := ite_t hb46 hh
                obtain ⟨x47, hx47, hh⟩ := bindS hh
                have bx47 := idx_bd hx47
                have ax47 := idx_enc eTFrac hx47
                have fx47 := idx_fit eTFrac hx47
                simp only [vmz] at ax47 fx47
                skip
                obtain ⟨q48a, q48b⟩ := shlI_ok hx44
                obtain ⟨x49, hx49, hh⟩ := bindS hh
                have bx49 := idx_bd hx49
                have ax49 := idx_enc eTFrac hx49
                have fx49 := idx_fit eTFrac hx49
                simp only [vmz] at ax49 fx49
                skip
                obtain ⟨r50, hr50, hh⟩ := bindS hh
                obtain ⟨r51, hr51, hh⟩ := bindS hh
                try simp only [x_bridge_Check, seval, -Int.reduceToNat, hr1, hr32, t0d, t1d, t2d, t7d, t9d, t10d, t59d, t60d, H10d, q45a, q45b, bx47, ax47, fx47, q48a, q48b, bx49, ax49, fx49, hr50, hr51]
                refine dyn_ok (by kernel_rfl) ?_
                cases hh
                try simp only [x_bridge_Check, seval, -Int.reduceToNat, hr1, hr32, t0d, t1d, t2d, t7d, t9d, t10d, t59d, t60d, H10d, q45a, q45b, bx47, ax47, fx47, q48a, q48b, bx49, ax49, fx49, hr50, hr51]
                rw [LK_normal]
                refine ⟨_, rfl, ?_⟩
                refine ⟨v10d, ?_, ?_, ?_, ?_, ?_, ?_, ?_, ?_, ?_⟩
                all_goals (first | rfl | (simp only [x_bridge_Check, seval, -Int.reduceToNat, hr1, hr32, t0d, t1d, t2d, t7d, t9d, t10d, t59d, t60d, H10d, q45a, q45b, bx47, ax47, fx47, q48a, q48b, bx49, ax49, fx49, hr50, hr51] <;> rfl))
              · replace hh := ite_f hb46 hh
                cases hh
                try simp only [x_bridge_Check, seval, -Int.reduceToNat, hr1, hr32, t0d, t1d, t2d, t7d, t9d, t10d, t59d, t60d, H10d, q45a, q45b]
                rw [LK_normal]
                refine ⟨_, rfl, ?_⟩
                refine ⟨v10d, ?_, ?_, ?_, ?_, ?_, ?_, ?_, ?_, ?_⟩
                all_goals (first | rfl | (simp only [x_bridge_Check, seval, -Int.reduceToNat, hr1, hr32, t0d, t1d, t2d, t7d, t9d, t10d, t59d, t60d, H10d, q45a, q45b] <;> rfl))
            · replace hh := ite_f hb43 hh
              cases hh
              try simp only [x_bridge_Check, seval, -Int.reduceToNat, hr1, hr32, t0d, t1d, t2d, t7d, t9d, t10d, t59d, t60d, H10d]
              rw [LK_exit]
              refine ⟨_, rfl, ?_⟩
              refine ⟨rfl, ⟨v10d, ?_, ?_, ?_, ?_, ?_, ?_, ?_⟩⟩
              all_goals (first | rfl | (simp only [x_bridge_Check, seval, -Int.reduceToNat, hr1, hr32, t0d, t1d, t2d, t7d, t9d, t10d, t59d, t60d, H10d] <;> rfl))
          · rintro x t H e hx
            rcases o42 with ⟨r10_0dx, r10_1dx, r10_2dx, r10_3dx⟩
            dsimp only at hx hh
            obtain ⟨rfl, ⟨v10dx, t0dx, t1dx, t2dx, t7dx, t9dx, t10dx, H10dx⟩⟩ := hx
            obtain ⟨x52, hx52, hh⟩ := bindS hh
            have bx52 := idx_bd hx52
            have ax52 := idx_enc eTFrac hx52
            have fx52 := idx_fit eTFrac hx52
            simp only [vmz] at ax52 fx52
            skip
            obtain ⟨x53, hx53, hh⟩ := bindS hh
            have bx53 := idx_bd hx53
            have ax53 := idx_enc eTFrac hx53
            have fx53 := idx_fit eTFrac hx53
            simp only [vmz] at ax53 fx53
            skip
            obtain ⟨r54, hr54, hh⟩ := bindS hh
            obtain ⟨r55, hr55, hh⟩ := bindS hh
            try simp only [x_bridge_Check, seval, -Int.reduceToNat, hr1, hr32, t0dx, t1dx, t2dx, t7dx, t9dx, t10dx, H10dx, bx52, ax52, fx52, bx53, ax53, fx53, hr54, hr55]
            refine dyn_ok (by kernel_rfl) ?_
            try simp only [x_bridge_Check, seval, -Int.reduceToNat, hr1, hr32, t0dx, t1dx, t2dx, t7dx, t9dx, t10dx, H10dx, bx52, ax52, fx52, bx53, ax53, fx53, hr54, hr55]
            refine tstC_br (fun hb56 => ?_) (fun hb56 => ?_)
            · replace hh := ite_t hb56 hh
              cases hh
              try simp only [x_bridge_Check, seval, -Int.reduceToNat, hr1, hr32, t0dx, t1dx, t2dx, t7dx, t9dx, t10dx, H10dx, bx52, ax52, fx52, bx53, ax53, fx53, hr54, hr55]
              rw [LK_ret]
              refine ⟨_, rfl, ?_⟩
              refine ⟨rfl, ?_⟩
              try simp only [x_bridge_Check, seval, -Int.reduceToNat, hr1, hr32, t0dx, t1dx, t2dx, t7dx, t9dx, t10dx, H10dx, bx52, ax52, fx52, bx53, ax53, fx53, hr54, hr55]
            · replace hh := ite_f hb56 hh
              cases hh
              try simp only [x_bridge_Check, seval, -Int.reduceToNat, hr1, hr32, t0dx, t1dx, t2dx, t7dx, t9dx, t10dx, H10dx, bx52, ax52, fx52, bx53, ax53, fx53, hr54, hr55]
              rw [LK_normal]
              refine ⟨_, rfl, ?_⟩
              refine ⟨?_, ?_, ?_, ?_, ?_⟩
              all_goals (first | rfl | (simp only [x_bridge_Check, seval, -Int.reduceToNat, hr1, hr32, t0dx, t1dx, t2dx, t7dx, t9dx, t10dx, H10dx, bx52, ax52, fx52, bx53, ax53, fx53, hr54, hr55] <;> rfl))
        · replace hh := ite_f hb31 hh
          cases hh
          try simp only [x_bridge_Check, seval, -Int.reduceToNat, hr1, t0b, t1b, t2b, t7b, t9b]
          rw [LK_exit]
          refine ⟨_, rfl, ?_⟩
          refine ⟨rfl, ⟨?_, ?_, ?_⟩⟩
          all_goals (first | rfl | (simp only [x_bridge_Check, seval, -Int.reduceToNat, hr1, t0b, t1b, t2b, t7b, t9b] <;> rfl))
      · rintro x t H e hx
        rcases o30 with _ | rb
        ·
          dsimp only at hx hh
          obtain ⟨rfl, ⟨t0bx, t1bx, t2bx⟩⟩ := hx
          try simp only [x_bridge_Check, seval, -Int.reduceToNat, hr1, t0bx, t1bx, t2bx]
          obtain ⟨o66, ho66, hh⟩ := bindS hh
          refine runLoop_sim (fun s t H e => match s with | s99e => t 2 = .sl false false p2.length (encL eTFrac p2) ∧ t 12 = .int .i64 (IntKind.i64.wrap ((p0.length : Int) - 1)) ∧ t 97 = .sl false false p1.length (encL eTFrac p1) ∧ t 98 = .int .i64 (p1.length : Int) ∧ t 99 = .int .i64 s99e) (fun o x t H e => match o with | (.inl _) => x = .exit 4 | (.inr r) => x = .ret ∧ endM .clean tab none [.tmp 6] ⟨t, H, e⟩ = some (.clean (.bool r), none)) ho66 ?_ ?_ ?_
          ·
            refine ⟨?_, ?_, ?_, ?_, ?_⟩
            all_goals (first | rfl | (simp only [x_bridge_Check, seval, -Int.reduceToNat, hr1, t0bx, t1bx, t2bx] <;> rfl))
          · rintro s99e t H e ⟨t2e, t12e, t97e, t98e, t99e⟩ c hh
            simp only [bridge_Check_L5] at hh
            try simp only [x_bridge_Check, seval, -Int.reduceToNat, hr1, t2e, t12e, t97e, t98e, t99e]
            refine tstC_br (fun hb67 => ?_) (fun hb67 => ?_)
            · replace hh := ite_t hb67 hh
              obtain ⟨x68, hx68, hh⟩ := bindS hh
              have bx68 := idx_bd hx68
              have ax68 := idx_enc eTFrac hx68
              have fx68 := idx_fit eTFrac hx68
              simp only [vmz] at ax68 fx68
              skip
              obtain ⟨x69, hx69, hh⟩ := bindS hh
              have bx69 := idx_bd hx69
              have ax69 := idx_enc eTFrac hx69
              have fx69 := idx_fit eTFrac hx69
              simp only [vmz] at ax69 fx69
              skip
              obtain ⟨x70, hx70, hh⟩ := bindS hh
              obtain ⟨q71a, q71b⟩ := shlI_ok hx70
              obtain ⟨x72, hx72, hh⟩ := bindS hh
              have bx72 := idx_bd hx72
              have ax72 := idx_enc eTFrac hx72
              have fx72 := idx_fit eTFrac hx72
              simp only [vmz] at ax72 fx72
              skip
              obtain ⟨r73, hr73, hh⟩ := bindS hh
              obtain ⟨r74, hr74, hh⟩ := bindS hh
              try simp only [x_bridge_Check, seval, -Int.reduceToNat, hr1, t2e, t12e, t97e, t98e, t99e, bx68, ax68, fx68, bx69, ax69, fx69, q71a, q71b, bx72, ax72, fx72, hr73, hr74]
              refine dyn_ok (by kernel_rfl) ?_
              try simp only [x_bridge_Check, seval, -Int.reduceToNat, hr1, t2e, t12e, t97e, t98e, t99e, bx68, ax68, fx68, bx69, ax69, fx69, q71a, q71b, bx72, ax72, fx72, hr73, hr74]
              refine tstC_br (fun hb75 => ?_) (fun hb75 => ?_)
              · replace hh := ite_t hb75 hh
                cases hh
                try simp only [x_bridge_Check, seval, -Int.reduceToNat, hr1, t2e, t12e, t97e, t98e, t99e, bx68, ax68, fx68, bx69, ax69, fx69, q71a, q71b, bx72, ax72, fx72, hr73, hr74]
                rw [LK_ret]
                refine ⟨_, rfl, ?_⟩
                refine ⟨rfl, ?_⟩
                try simp only [x_bridge_Check, seval, -Int.reduceToNat, hr1, t2e, t12e, t97e, t98e, t99e, bx68, ax68, fx68, bx69, ax69, fx69, q71a, q71b, bx72, ax72, fx72, hr73, hr74]
              · replace hh := ite_f hb75 hh
                cases hh
                try simp only [x_bridge_Check, seval, -Int.reduceToNat, hr1, t2e, t12e, t97e, t98e, t99e, bx68, ax68, fx68, bx69, ax69, fx69, q71a, q71b, bx72, ax72, fx72, hr73, hr74]
                rw [LK_normal]
                refine ⟨_, rfl, ?_⟩
                refine ⟨?_, ?_, ?_, ?_, ?_⟩
                all_goals (first | rfl | (simp only [x_bridge_Check, seval, -Int.reduceToNat, hr1, t2e, t12e, t97e, t98e, t99e, bx68, ax68, fx68, bx69, ax69, fx69, q71a, q71b, bx72, ax72, fx72, hr73, hr74] <;> rfl))
            · replace hh := ite_f hb67 hh
              cases hh
              try simp only [x_bridge_Check, seval, -Int.reduceToNat, hr1, t2e, t12e, t97e, t98e, t99e]
              rw [LK_exit]
              refine ⟨_, rfl, ?_⟩
              exact rfl
          · rintro x t H e hx
            rcases o66 with _ | re
            ·
              dsimp only at hx hh
              subst hx
              cases hh
              try simp only [x_bridge_Check, seval, -Int.reduceToNat, hr1]
            ·
              dsimp only at hx hh
              obtain ⟨rfl, hE⟩ := hx
              cases hh
              try simp only [runW_pass_ret, runW_pass_exit, runW_blk_ret, runW_nil, endW_ret]
              exact hE
        ·
          dsimp only at hx hh
          obtain ⟨rfl, hE⟩ := hx
          cases hh
          try simp only [runW_pass_ret, runW_pass_exit, runW_blk_ret, runW_nil, endW_ret]
          exact hE
  ·
    clear hh
    have hh := ho2
    try simp only [x_bridge_Check, seval, -Int.reduceToNat, hr1]
    refine tstO_br' (fun hb76 => ?_) (fun hb76 => ?_)
    · replace hh := ite_t hb76 hh
      cases hh
      try simp only [x_bridge_Check, seval, -Int.reduceToNat, hr1]
      rw [CK_normal]
      refine ⟨_, rfl, ?_⟩
      refine ⟨?_, ?_, ?_, ?_, ?_⟩
      all_goals (first | rfl | (simp only [x_bridge_Check, seval, -Int.reduceToNat, hr1] <;> rfl))
    · replace hh := ite_f hb76 hh
      try simp only [x_bridge_Check, seval, -Int.reduceToNat, hr1]
      refine tstO_br' (fun hb77 => ?_) (fun hb77 => ?_)
      · replace hh := ite_t hb77 hh
        cases hh
        try simp only [x_bridge_Check, seval, -Int.reduceToNat, hr1]
        rw [CK_normal]
        refine ⟨_, rfl, ?_⟩
        refine ⟨?_, ?_, ?_, ?_, ?_⟩
        all_goals (first | rfl | (simp only [x_bridge_Check, seval, -Int.reduceToNat, hr1] <;> rfl))
      · replace hh := ite_f hb77 hh
        try simp only [x_bridge_Check, seval, -Int.reduceToNat, hr1]
        refine tstO_br' (fun hb78 => ?_) (fun hb78 => ?_)
        · replace hh := ite_t hb78 hh
          cases hh
          try simp only [x_bridge_Check, seval, -Int.reduceToNat, hr1]
          rw [CK_normal]
          refine ⟨_, rfl, ?_⟩
          refine ⟨?_, ?_, ?_, ?_, ?_⟩
          all_goals (first | rfl | (simp only [x_bridge_Check, seval, -Int.reduceToNat, hr1] <;> rfl))
        · replace hh := ite_f hb78 hh
          obtain ⟨r79, hr79, hh⟩ := bindS hh
          try simp only [x_bridge_Check, seval, -Int.reduceToNat, hr1, hr79]
          refine tstO_br' (fun hb80 => ?_) (fun hb80 => ?_)
          · replace hh := ite_t hb80 hh
            cases hh
            try simp only [x_bridge_Check, seval, -Int.reduceToNat, hr1, hr79]
            rw [CK_normal]
            refine ⟨_, rfl, ?_⟩
            refine ⟨?_, ?_, ?_, ?_, ?_⟩
            all_goals (first | rfl | (simp only [x_bridge_Check, seval, -Int.reduceToNat, hr1, hr79] <;> rfl))
          · replace hh := ite_f hb80 hh
            obtain ⟨r81, hr81, hh⟩ := bindS hh
            try simp only [x_bridge_Check, seval, -Int.reduceToNat, hr1, hr79, hr81]
            refine tstO_br' (fun hb82 => ?_) (fun hb82 => ?_)
            · replace hh := ite_t hb82 hh
              cases hh
              try simp only [x_bridge_Check, seval, -Int.reduceToNat, hr1, hr79, hr81]
              rw [CK_normal]
              refine ⟨_, rfl, ?_⟩
              refine ⟨?_, ?_, ?_, ?_, ?_⟩
              all_goals (first | rfl | (simp only [x_bridge_Check, seval, -Int.reduceToNat, hr1, hr79, hr81] <;> rfl))
            · replace hh := ite_f hb82 hh
              obtain ⟨x83, hx83, hh⟩ := bindS hh
              have bx83 := idx_bd hx83
              have ax83 := idx_enc eTFrac hx83
              have fx83 := idx_fit eTFrac hx83
              simp only [vmz] at ax83 fx83
              skip
              obtain ⟨r84, hr84, hh⟩ := bindS hh
              cases hh
              try simp only [x_bridge_Check, seval, -Int.reduceToNat, hr1, hr79, hr81, bx83, ax83, fx83, hr84]
              rw [CK_normal]
              refine ⟨_, rfl, ?_⟩
              refine ⟨?_, ?_, ?_, ?_, ?_⟩
              all_goals (first | rfl | (simp only [x_bridge_Check, seval, -Int.reduceToNat, hr1, hr79, hr81, bx83, ax83, fx83, hr84] <;> rfl))

theorem ok_bridge_Check : COk Try.prog 21 G_bridge_Check := COk.of (mode := .clean) tok ge_bridge_Check mixed Try.func21 (by kernel_rfl) ⟨by kernel_rfl, by kernel_rfl⟩ (fun _ => Nat.le_of_ble_eq_true (by kernel_rfl)) (fun x r h => m_bridge_Check x.1 x.2.1 x.2.2 r h)

noncomputable def G_l44_says := mkG (asC (aSl (eI .i64)) (asC (aSl (eI .i64)) (as1 (aSl (eI .i64))))) (fun x : (List Int) × (List Int) × (List Int) => l44_says x.1 x.2.1 x.2.2) (fun r : Bool => .clean (.bool r))

theorem q_l44_says (p0 : (List Int)) (p1 : (List Int)) (p2 : (List Int)) : G_l44_says none [.sl false false p0.length (encL (eI .i64) p0), .sl false false p1.length (encL (eI .i64) p1), .sl false false p2.length (encL (eI .i64) p2)] = (l44_says p0 p1 p2).map fun r : Bool => (.clean (.bool r), none) := mkG_eq _ _ _ (p0, p1, p2)

noncomputable def g_l44_says : Env := (Am.ext (Am.ext (Am.ext (Am.ext (Am.ext (Am.ext noEnv 16 false G_bridge_Shares) 17 false G_bridge_Potential) 21 false G_bridge_Check) 22 false G_r44_SameList) 47 false G_l44_ints) 85 false G_l44_halves)

theorem ge_l44_says : GOk Try.prog g_l44_says := ((((((GOk.none.add ok_bridge_Shares false).add ok_bridge_Potential false).add ok_bridge_Check false).add ok_r44_SameList false).add ok_l44_ints false).add ok_l44_halves false)

theorem gg_l44_says : g_l44_says = (Am.ext (Am.ext (Am.ext (Am.ext (Am.ext (Am.ext noEnv 16 false G_bridge_Shares) 17 false G_bridge_Potential) 21 false G_bridge_Check) 22 false G_r44_SameList) 47 false G_l44_ints) 85 false G_l44_halves) := Eq.trans rfl rfl

theorem x_l44_says : type_of% (And.intro @w <| And.intro @q_bridge_Shares <| And.intro @q_bridge_Potential <| And.intro @q_bridge_Check <| And.intro @q_r44_SameList <| And.intro @q_l44_ints <| And.intro @q_l44_halves <| @gg_l44_says) := And.intro @w <| And.intro @q_bridge_Shares <| And.intro @q_bridge_Potential <| And.intro @q_bridge_Check <| And.intro @q_r44_SameList <| And.intro @q_l44_ints <| And.intro @q_l44_halves <| @gg_l44_says

theorem m_l44_says (p0 : (List Int)) (p1 : (List Int)) (p2 : (List Int)) (r : Bool) (hh : l44_says p0 p1 p2 = some r) : vfunc .clean tab g_l44_says FU Try.f48 none [.sl false false p0.length (encL (eI .i64) p0), .sl false false p1.length (encL (eI .i64) p1), .sl false false p2.length (encL (eI .i64) p2)] = some (.clean (.bool r), none) := by
  refine vfunc_of rfl Try.ntmps48 Try.results48 ?_
  unfold l44_says at hh
  obtain ⟨r1, hr1, hh⟩ := bindS hh
  obtain ⟨r2, hr2, hh⟩ := bindS hh
  obtain ⟨r3, hr3, hh⟩ := bindS hh
  try simp only [x_l44_says, seval, -Int.reduceToNat, hr1, hr2, hr3]
  refine tstO_br (fun hb4 => ?_) (fun hb4 => ?_)
  · replace hh := ite_t hb4 hh
    obtain ⟨r5, hr5, hh⟩ := bindS hh
    obtain ⟨r6, hr6, hh⟩ := bindS hh
    try simp only [x_l44_says, seval, -Int.reduceToNat, hr1, hr2, hr3, hr5, hr6]
    refine tstO_br (fun hb7 => ?_) (fun hb7 => ?_)
    · replace hh := ite_t hb7 hh
      obtain ⟨r8, hr8, hh⟩ := bindS hh
      obtain ⟨r9, hr9, hh⟩ := bindS hh
      try simp only [x_l44_says, seval, -Int.reduceToNat, hr1, hr2, hr3, hr5, hr6, hr8, hr9]
      refine tstO_br (fun hb10 => ?_) (fun hb10 => ?_)
      · replace hh := ite_t hb10 hh
        obtain ⟨r11, hr11, hh⟩ := bindS hh
        cases hh
        try simp only [x_l44_says, seval, -Int.reduceToNat, hr1, hr2, hr3, hr5, hr6, hr8, hr9, hr11]
      · replace hh := ite_f hb10 hh
        cases hh
        try simp only [x_l44_says, seval, -Int.reduceToNat, hr1, hr2, hr3, hr5, hr6, hr8, hr9]
    · replace hh := ite_f hb7 hh
      cases hh
      try simp only [x_l44_says, seval, -Int.reduceToNat, hr1, hr2, hr3, hr5, hr6]
  · replace hh := ite_f hb4 hh
    cases hh
    try simp only [x_l44_says, seval, -Int.reduceToNat, hr1, hr2, hr3]

theorem ok_l44_says : COk Try.prog 48 G_l44_says := COk.of (mode := .clean) tok ge_l44_says mixed Try.func48 (by kernel_rfl) ⟨by kernel_rfl, by kernel_rfl⟩ (fun _ => Nat.le_of_ble_eq_true (by kernel_rfl)) (fun x r h => m_l44_says x.1 x.2.1 x.2.2 r h)

noncomputable def G_l44_small := mkG (as0) (fun x : Unit => l44_small) (fun r : Bool => .clean (.bool r))

theorem q_l44_small : G_l44_small none [] = (l44_small).map fun r : Bool => (.clean (.bool r), none) := mkG_eq _ _ _ ()

noncomputable def g_l44_small : Env := (Am.ext (Am.ext (Am.ext (Am.ext noEnv 16 false G_bridge_Shares) 17 false G_bridge_Potential) 47 false G_l44_ints) 48 false G_l44_says)

theorem ge_l44_small : GOk Try.prog g_l44_small := ((((GOk.none.add ok_bridge_Shares false).add ok_bridge_Potential false).add ok_l44_ints false).add ok_l44_says false)

theorem gg_l44_small : g_l44_small = (Am.ext (Am.ext (Am.ext (Am.ext noEnv 16 false G_bridge_Shares) 17 false G_bridge_Potential) 47 false G_l44_ints) 48 false G_l44_says) := Eq.trans rfl rfl

theorem x_l44_small : type_of% (And.intro @w <| And.intro @q_bridge_Shares <| And.intro @q_bridge_Potential <| And.intro @q_l44_ints <| And.intro @q_l44_says <| @gg_l44_small) := And.intro @w <| And.intro @q_bridge_Shares <| And.intro @q_bridge_Potential <| And.intro @q_l44_ints <| And.intro @q_l44_says <| @gg_l44_small

theorem m_l44_small (r : Bool) (hh : l44_small = some r) : vfunc .clean tab g_l44_small FU Try.f13 none [] = some (.clean (.bool r), none) := by
  refine vfunc_of rfl Try.ntmps13 Try.results13 ?_
  unfold l44_small at hh
  have i1 := q_l44_ints ([1, 2, 3])
  simp only [encL_cons, vmz, List.length_cons, List.length_nil, Nat.zero_add, Nat.reduceAdd, List.length_set] at i1
  obtain ⟨r2, hr2, hh⟩ := bindS hh
  obtain ⟨r3, hr3, hh⟩ := bindS hh
  have i4 := q_l44_says ([10]) ([]) ([0])
  simp only [encL_cons, vmz, List.length_cons, List.length_nil, Nat.zero_add, Nat.reduceAdd, List.length_set] at i4
  obtain ⟨r5, hr5, hh⟩ := bindS hh
  try simp only [x_l44_small, seval, -Int.reduceToNat, i1, hr2, hr3, i4, hr5]
  obtain ⟨o6, ho6, hh⟩ := bindS hh
  refine tstO_cut 0 (fun s t H e => match s with | s3j1 => t 2 = .int .i64 r3.2 ∧ t 3 = .bool s3j1) (fun s => s = o6) ?_ ?_
  · rintro s3j1 t H e ⟨t2j1, t3j1⟩ rfl
    try dsimp only at hh
    try simp only [x_l44_small, seval, -Int.reduceToNat, i1, hr2, hr3, i4, hr5, t2j1, t3j1]
    refine tstO_br (fun hb7 => ?_) (fun hb7 => ?_)
    · replace hh := ite_t hb7 hh
      have i8 := q_l44_says ([0, 0, 0, 6]) ([6, 6]) ([0, 0, 0, 6])
      simp only [encL_cons, vmz, List.length_cons, List.length_nil, Nat.zero_add, Nat.reduceAdd, List.length_set] at i8
      obtain ⟨r9, hr9, hh⟩ := bindS hh
      try simp only [x_l44_small, seval, -Int.reduceToNat, i1, hr2, hr3, i4, hr5, t2j1, t3j1, i8, hr9]
      refine tstO_br (fun hb10 => ?_) (fun hb10 => ?_)
      · replace hh := ite_t hb10 hh
        try simp only [x_l44_small, seval, -Int.reduceToNat, i1, hr2, hr3, i4, hr5, t2j1, t3j1, i8, hr9]
        refine tstO_br (fun hb11 => ?_) (fun hb11 => ?_)
        · replace hh := ite_t hb11 hh
          have i12 := q_l44_ints ([1, 2, 3])
          simp only [encL_cons, vmz, List.length_cons, List.length_nil, Nat.zero_add, Nat.reduceAdd, List.length_set] at i12
          obtain ⟨r13, hr13, hh⟩ := bindS hh
          cases hh
          try simp only [x_l44_small, seval, -Int.reduceToNat, i1, hr2, hr3, i4, hr5, t2j1, t3j1, i8, hr9, i12, hr13]
        · replace hh := ite_f hb11 hh
          cases hh
          try simp only [x_l44_small, seval, -Int.reduceToNat, i1, hr2, hr3, i4, hr5, t2j1, t3j1, i8, hr9]
      · replace hh := ite_f hb10 hh
        cases hh
        try simp only [x_l44_small, seval, -Int.reduceToNat, i1, hr2, hr3, i4, hr5, t2j1, t3j1, i8, hr9]
    · replace hh := ite_f hb7 hh
      cases hh
      try simp only [x_l44_small, seval, -Int.reduceToNat, i1, hr2, hr3, i4, hr5, t2j1, t3j1]
  ·
    clear hh
    have hh := ho6
    try simp only [x_l44_small, seval, -Int.reduceToNat, i1, hr2, hr3, i4, hr5]
    refine tstO_br (fun hb14 => ?_) (fun hb14 => ?_)
    · replace hh := ite_t hb14 hh
      have i15 := q_l44_says ([10, 13]) ([6]) ([0, 6])
      simp only [encL_cons, vmz, List.length_cons, List.length_nil, Nat.zero_add, Nat.reduceAdd, List.length_set] at i15
      obtain ⟨r16, hr16, hh⟩ := bindS hh
      try simp only [x_l44_small, seval, -Int.reduceToNat, i1, hr2, hr3, i4, hr5, i15, hr16]
      refine tstO_br (fun hb17 => ?_) (fun hb17 => ?_)
      · replace hh := ite_t hb17 hh
        have i18 := q_l44_says ([10, 13, 12, 18]) ([9, 7]) ([0, 6, 4, 13])
        simp only [encL_cons, vmz, List.length_cons, List.length_nil, Nat.zero_add, Nat.reduceAdd, List.length_set] at i18
        obtain ⟨r19, hr19, hh⟩ := bindS hh
        cases hh
        try simp only [x_l44_small, seval, -Int.reduceToNat, i1, hr2, hr3, i4, hr5, i15, hr16, i18, hr19]
        rw [CK_normal]
        refine ⟨_, rfl, ?_⟩
        refine ⟨?_, ?_⟩
        all_goals (first | rfl | (simp only [x_l44_small, seval, -Int.reduceToNat, i1, hr2, hr3, i4, hr5, i15, hr16, i18, hr19] <;> rfl))
      · replace hh := ite_f hb17 hh
        cases hh
        try simp only [x_l44_small, seval, -Int.reduceToNat, i1, hr2, hr3, i4, hr5, i15, hr16]
        rw [CK_normal]
        refine ⟨_, rfl, ?_⟩
        refine ⟨?_, ?_⟩
        all_goals (first | rfl | (simp only [x_l44_small, seval, -Int.reduceToNat, i1, hr2, hr3, i4, hr5, i15, hr16] <;> rfl))
    · replace hh := ite_f hb14 hh
      cases hh
      try simp only [x_l44_small, seval, -Int.reduceToNat, i1, hr2, hr3, i4, hr5]
      rw [CK_normal]
      refine ⟨_, rfl, ?_⟩
      refine ⟨?_, ?_⟩
      all_goals (first | rfl | (simp only [x_l44_small, seval, -Int.reduceToNat, i1, hr2, hr3, i4, hr5] <;> rfl))

theorem ok_l44_small : COk Try.prog 13 G_l44_small := COk.of (mode := .clean) tok ge_l44_small mixed Try.func13 (by kernel_rfl) ⟨by kernel_rfl, by kernel_rfl⟩ (fun _ => Nat.le_of_ble_eq_true (by kernel_rfl)) (fun x r h => m_l44_small  r h)

noncomputable def G_r04_Same := mkG (asC (aAgg eTBig) (as1 (aAgg eTBig))) (fun x : TBig × TBig => r04_Same x.1 x.2) (fun r : Bool => .clean (.bool r))

theorem q_r04_Same (p0_0 : Int) (p0_1 : (List Int)) (p1_0 : Int) (p1_1 : (List Int)) : G_r04_Same none [.agg [.int .i64 p0_0, .sl false false p0_1.length (encL (eI .i64) p0_1)], .agg [.int .i64 p1_0, .sl false false p1_1.length (encL (eI .i64) p1_1)]] = (r04_Same (TBig.mk p0_0 p0_1) (TBig.mk p1_0 p1_1)).map fun r : Bool => (.clean (.bool r), none) := mkG_eq _ _ _ ((TBig.mk p0_0 p0_1), (TBig.mk p1_0 p1_1))

theorem m_r04_Same (p0 : TBig) (p1 : TBig) (r : Bool) (hh : r04_Same p0 p1 = some r) : vfunc .clean tab noEnv FU Try.f111 none [.agg [.int .i64 p0.f_Sign, .sl false false p0.f_Digits.length (encL (eI .i64) p0.f_Digits)], .agg [.int .i64 p1.f_Sign, .sl false false p1.f_Digits.length (encL (eI .i64) p1.f_Digits)]] = some (.clean (.bool r), none) := by
  refine vfunc_of rfl Try.ntmps111 Try.results111 ?_
  unfold r04_Same at hh
  try simp only [w, seval, -Int.reduceToNat]
  obtain ⟨o1, ho1, hh⟩ := bindS hh
  refine tstO_cut 0 (fun s t H e => match s with | s19j1 => ∃ v2j1 : Nat, ∃ v3j1 : Nat, t 2 = .ptr 2 v2j1 0 ∧ t 3 = .ptr 3 v3j1 0 ∧ t 19 = .bool s19j1 ∧ H 2 = some ⟨v2j1, 32, [.int .i64 p0.f_Sign, .sl false false p0.f_Digits.length (encL (eI .i64) p0.f_Digits)], false, false⟩ ∧ H 3 = some ⟨v3j1, 32, [.int .i64 p1.f_Sign, .sl false false p1.f_Digits.length (encL (eI .i64) p1.f_Digits)], false, false⟩) (fun s => s = o1) ?_ ?_
  · rintro s19j1 t H e ⟨v2j1, v3j1, t2j1, t3j1, t19j1, H2j1, H3j1⟩ rfl
    try dsimp only at hh
    try simp only [w, seval, -Int.reduceToNat, t2j1, t3j1, t19j1, H2j1, H3j1]
    refine tstC_br (fun hb2 => ?_) (fun hb2 => ?_)
    · replace hh := ite_t hb2 hh
      cases hh
      try simp only [w, seval, -Int.reduceToNat, t2j1, t3j1, t19j1, H2j1, H3j1]
    · replace hh := ite_f hb2 hh
      try simp only [w, seval, -Int.reduceToNat, t2j1, t3j1, t19j1, H2j1, H3j1]
      obtain ⟨o7, ho7, hh⟩ := bindS hh
      refine runLoop_sim (fun s t H e => match s with | s5b => ∃ v2b : Nat, ∃ v3b : Nat, t 2 = .ptr 2 v2b 0 ∧ t 3 = .ptr 3 v3b 0 ∧ t 5 = .int .i64 s5b ∧ H 2 = some ⟨v2b, 32, [.int .i64 p0.f_Sign, .sl false false p0.f_Digits.length (encL (eI .i64) p0.f_Digits)], false, false⟩ ∧ H 3 = some ⟨v3b, 32, [.int .i64 p1.f_Sign, .sl false false p1.f_Digits.length (encL (eI .i64) p1.f_Digits)], false, false⟩) (fun o x t H e => match o with | (.inl _) => x = .exit 0 | (.inr r) => x = .ret ∧ endM .clean tab none [.tmp 4] ⟨t, H, e⟩ = some (.clean (.bool r), none)) ho7 ?_ ?_ ?_
      ·
        refine ⟨v2j1, v3j1, ?_, ?_, ?_, ?_, ?_⟩
        all_goals (first | rfl | (simp only [w, seval, -Int.reduceToNat, t2j1, t3j1, t19j1, H2j1, H3j1] <;> rfl))
      · rintro s5b t H e ⟨v2b, v3b, t2b, t3b, t5b, H2b, H3b⟩ c hh
        simp only [r04_Same_L2] at hh
        try simp only [w, seval, -Int.reduceToNat, t2b, t3b, t5b, H2b, H3b]
        refine tstC_br (fun hb8 => ?_) (fun hb8 => ?_)
        · replace hh := ite_t hb8 hh
          obtain ⟨x9, hx9, hh⟩ := bindS hh
          have bx9 := idx_bd hx9
          have ax9 := idx_enc (eI .i64) hx9
          have fx9 := idx_fit (eI .i64) hx9
          simp only [vmz] at ax9 fx9
          skip
          obtain ⟨x10, hx10, hh⟩ := bindS hh
          have bx10 := idx_bd hx10
          have ax10 := idx_enc (eI .i64) hx10
          have fx10 := idx_fit (eI .i64) hx10
          simp only [vmz] at ax10 fx10
          skip
          try simp only [w, seval, -Int.reduceToNat, t2b, t3b, t5b, H2b, H3b, bx9, ax9, fx9, bx10, ax10, fx10]
          refine dyn_ok (by kernel_rfl) ?_
          try simp only [w, seval, -Int.reduceToNat, t2b, t3b, t5b, H2b, H3b, bx9, ax9, fx9, bx10, ax10, fx10]
          refine tstC_br (fun hb11 => ?_) (fun hb11 => ?_)
          · replace hh := ite_t hb11 hh
            cases hh
            try simp only [w, seval, -Int.reduceToNat, t2b, t3b, t5b, H2b, H3b, bx9, ax9, fx9, bx10, ax10, fx10]
            rw [LK_ret]
            refine ⟨_, rfl, ?_⟩
            refine ⟨rfl, ?_⟩
            try simp only [w, seval, -Int.reduceToNat, t2b, t3b, t5b, H2b, H3b, bx9, ax9, fx9, bx10, ax10, fx10]
          · replace hh := ite_f hb11 hh
            cases hh
            try simp only [w, seval, -Int.reduceToNat, t2b, t3b, t5b, H2b, H3b, bx9, ax9, fx9, bx10, ax10, fx10]
            rw [LK_normal]
            refine ⟨_, rfl, ?_⟩
            refine ⟨v2b, v3b, ?_, ?_, ?_, ?_, ?_⟩
            all_goals (first | rfl | (simp only [w, seval, -Int.reduceToNat, t2b, t3b, t5b, H2b, H3b, bx9, ax9, fx9, bx10, ax10, fx10] <;> rfl))
        · replace hh := ite_f hb8 hh
          cases hh
          try simp only [w, seval, -Int.reduceToNat, t2b, t3b, t5b, H2b, H3b]
          rw [LK_exit]
          refine ⟨_, rfl, ?_⟩
          exact rfl
      · rintro x t H e hx
        rcases o7 with _ | rb
        ·
          dsimp only at hx hh
          subst hx
          cases hh
          try simp only [w, seval, -Int.reduceToNat]
        ·
          dsimp only at hx hh
          obtain ⟨rfl, hE⟩ := hx
          cases hh
          try simp only [runW_pass_ret, runW_pass_exit, runW_blk_ret, runW_nil, endW_ret]
          exact hE
  ·
    clear hh
    have hh := ho1
    try simp only [w, seval, -Int.reduceToNat]
    refine tstO_br' (fun hb12 => ?_) (fun hb12 => ?_)
    · replace hh := ite_t hb12 hh
      cases hh
      try simp only [w, seval, -Int.reduceToNat]
      rw [CK_normal]
      refine ⟨_, rfl, ?_⟩
      refine ⟨0, 0, ?_, ?_, ?_, ?_, ?_⟩
      all_goals (first | rfl | (simp only [w, seval, -Int.reduceToNat] <;> rfl))
    · replace hh := ite_f hb12 hh
      cases hh
      try simp only [w, seval, -Int.reduceToNat]
      rw [CK_normal]
      refine ⟨_, rfl, ?_⟩
      refine ⟨0, 0, ?_, ?_, ?_, ?_, ?_⟩
      all_goals (first | rfl | (simp only [w, seval, -Int.reduceToNat] <;> rfl))

theorem ok_r04_Same : COk Try.prog 111 G_r04_Same := COk.of (mode := .clean) tok GOk.none mixed Try.func111 (by kernel_rfl) ⟨by kernel_rfl, by kernel_rfl⟩ (fun _ => Nat.le_of_ble_eq_true (by kernel_rfl)) (fun x r h => m_r04_Same x.1 x.2 r h)

noncomputable def G_r04_Compare := mkG (asC (aAgg eTBig) (as1 (aAgg eTBig))) (fun x : TBig × TBig => r04_Compare x.1 x.2) (fun r : Int => .clean (.int .i64 r))

theorem q_r04_Compare (p0_0 : Int) (p0_1 : (List Int)) (p1_0 : Int) (p1_1 : (List Int)) : G_r04_Compare none [.agg [.int .i64 p0_0, .sl false false p0_1.length (encL (eI .i64) p0_1)], .agg [.int .i64 p1_0, .sl false false p1_1.length (encL (eI .i64) p1_1)]] = (r04_Compare (TBig.mk p0_0 p0_1) (TBig.mk p1_0 p1_1)).map fun r : Int => (.clean (.int .i64 r), none) := mkG_eq _ _ _ ((TBig.mk p0_0 p0_1), (TBig.mk p1_0 p1_1))

noncomputable def g_r04_Compare : Env := (Am.ext (Am.ext (Am.ext noEnv 81 false G_r04_Right) 111 false G_r04_Same) 112 false G_r04_less)

theorem ge_r04_Compare : GOk Try.prog g_r04_Compare := (((GOk.none.add ok_r04_Right false).add ok_r04_Same false).add ok_r04_less false)

theorem gg_r04_Compare : g_r04_Compare = (Am.ext (Am.ext (Am.ext noEnv 81 false G_r04_Right) 111 false G_r04_Same) 112 false G_r04_less) := Eq.trans rfl rfl

theorem x_r04_Compare : type_of% (And.intro @w <| And.intro @q_r04_Right <| And.intro @q_r04_Same <| And.intro @q_r04_less <| @gg_r04_Compare) := And.intro @w <| And.intro @q_r04_Right <| And.intro @q_r04_Same <| And.intro @q_r04_less <| @gg_r04_Compare

theorem m_r04_Compare (p0 : TBig) (p1 : TBig) (r : Int) (hh : r04_Compare p0 p1 = some r) : vfunc .clean tab g_r04_Compare FU Try.f83 none [.agg [.int .i64 p0.f_Sign, .sl false false p0.f_Digits.length (encL (eI .i64) p0.f_Digits)], .agg [.int .i64 p1.f_Sign, .sl false false p1.f_Digits.length (encL (eI .i64) p1.f_Digits)]] = some (.clean (.int .i64 r), none) := by
  refine vfunc_of rfl Try.ntmps83 Try.results83 ?_
  unfold r04_Compare at hh
  obtain ⟨r1, hr1, hh⟩ := bindS hh
  try simp only [x_r04_Compare, seval, -Int.reduceToNat, hr1]
  obtain ⟨o2, ho2, hh⟩ := bindS hh
  refine tstO_cut 0 (fun s t H e => match s with | s17j1 => ∃ v2j1 : Nat, ∃ v3j1 : Nat, t 2 = .ptr 2 v2j1 0 ∧ t 3 = .ptr 3 v3j1 0 ∧ t 17 = .bool s17j1 ∧ H 2 = some ⟨v2j1, 32, [.int .i64 p0.f_Sign, .sl false false p0.f_Digits.length (encL (eI .i64) p0.f_Digits)], false, false⟩ ∧ H 3 = some ⟨v3j1, 32, [.int .i64 p1.f_Sign, .sl false false p1.f_Digits.length (encL (eI .i64) p1.f_Digits)], false, false⟩) (fun s => s = o2) ?_ ?_
  · rintro s17j1 t H e ⟨v2j1, v3j1, t2j1, t3j1, t17j1, H2j1, H3j1⟩ rfl
    try dsimp only at hh
    try simp only [x_r04_Compare, seval, -Int.reduceToNat, hr1, t2j1, t3j1, t17j1, H2j1, H3j1]
    refine tstC_br (fun hb3 => ?_) (fun hb3 => ?_)
    · replace hh := ite_t hb3 hh
      cases hh
      try simp only [x_r04_Compare, seval, -Int.reduceToNat, hr1, t2j1, t3j1, t17j1, H2j1, H3j1]
    · replace hh := ite_f hb3 hh
      try simp only [x_r04_Compare, seval, -Int.reduceToNat, hr1, t2j1, t3j1, t17j1, H2j1, H3j1]
      refine tstC_br (fun hb4 => ?_) (fun hb4 => ?_)
      · replace hh := ite_t hb4 hh
        try simp only [x_r04_Compare, seval, -Int.reduceToNat, hr1, t2j1, t3j1, t17j1, H2j1, H3j1]
        refine tstC_br (fun hb5 => ?_) (fun hb5 => ?_)
        · replace hh := ite_t hb5 hh
          cases hh
          try simp only [x_r04_Compare, seval, -Int.reduceToNat, hr1, t2j1, t3j1, t17j1, H2j1, H3j1]
        · replace hh := ite_f hb5 hh
          cases hh
          try simp only [x_r04_Compare, seval, -Int.reduceToNat, hr1, t2j1, t3j1, t17j1, H2j1, H3j1]
      · replace hh := ite_f hb4 hh
        obtain ⟨r6, hr6, hh⟩ := bindS hh
        try simp only [x_r04_Compare, seval, -Int.reduceToNat, hr1, t2j1, t3j1, t17j1, H2j1, H3j1, hr6]
        refine dyn_ok (by kernel_rfl) ?_
        try simp only [x_r04_Compare, seval, -Int.reduceToNat, hr1, t2j1, t3j1, t17j1, H2j1, H3j1, hr6]
        refine tstC_br (fun hb7 => ?_) (fun hb7 => ?_)
        · replace hh := ite_t hb7 hh
          cases hh
          try simp only [x_r04_Compare, seval, -Int.reduceToNat, hr1, t2j1, t3j1, t17j1, H2j1, H3j1, hr6]
        · replace hh := ite_f hb7 hh
          cases hh
          try simp only [x_r04_Compare, seval, -Int.reduceToNat, hr1, t2j1, t3j1, t17j1, H2j1, H3j1, hr6]
  ·
    clear hh
    have hh := ho2
    try simp only [x_r04_Compare, seval, -Int.reduceToNat, hr1]
    refine tstO_br' (fun hb8 => ?_) (fun hb8 => ?_)
    · replace hh := ite_t hb8 hh
      cases hh
      try simp only [x_r04_Compare, seval, -Int.reduceToNat, hr1]
      rw [CK_normal]
      refine ⟨_, rfl, ?_⟩
      refine ⟨0, 0, ?_, ?_, ?_, ?_, ?_⟩
      all_goals (first | rfl | (simp only [x_r04_Compare, seval, -Int.reduceToNat, hr1] <;> rfl))
    · replace hh := ite_f hb8 hh
      obtain ⟨r9, hr9, hh⟩ := bindS hh
      try simp only [x_r04_Compare, seval, -Int.reduceToNat, hr1, hr9]
      refine tstO_br' (fun hb10 => ?_) (fun hb10 => ?_)
      · replace hh := ite_t hb10 hh
        cases hh
        try simp only [x_r04_Compare, seval, -Int.reduceToNat, hr1, hr9]
        rw [CK_normal]
        refine ⟨_, rfl, ?_⟩
        refine ⟨0, 0, ?_, ?_, ?_, ?_, ?_⟩
        all_goals (first | rfl | (simp only [x_r04_Compare, seval, -Int.reduceToNat, hr1, hr9] <;> rfl))
      · replace hh := ite_f hb10 hh
        obtain ⟨r11, hr11, hh⟩ := bindS hh
        cases hh
        try simp only [x_r04_Compare, seval, -Int.reduceToNat, hr1, hr9, hr11]
        rw [CK_normal]
        refine ⟨_, rfl, ?_⟩
        refine ⟨0, 0, ?_, ?_, ?_, ?_, ?_⟩
        all_goals (first | rfl | (simp only [x_r04_Compare, seval, -Int.reduceToNat, hr1, hr9, hr11] <;> rfl))

theorem ok_r04_Compare : COk Try.prog 83 G_r04_Compare := COk.of (mode := .clean) tok ge_r04_Compare mixed Try.func83 (by kernel_rfl) ⟨by kernel_rfl, by kernel_rfl⟩ (fun _ => Nat.le_of_ble_eq_true (by kernel_rfl)) (fun x r h => m_r04_Compare x.1 x.2 r h)

noncomputable def G_r05_Right := mkG (as1 (aAgg eTFrac)) (fun x : TFrac => r05_Right x) (fun r : Bool => .clean (.bool r))

theorem q_r05_Right (p0_0 : Int) (p0_1 : (List Int)) (p0_2 : Int) (p0_3 : (List Int)) : G_r05_Right none [.agg [.int .i64 p0_0, .sl false false p0_1.length (encL (eI .i64) p0_1), .int .i64 p0_2, .sl false false p0_3.length (encL (eI .i64) p0_3)]] = (r05_Right (TFrac.mk (TBig.mk p0_0 p0_1) (TBig.mk p0_2 p0_3))).map fun r : Bool => (.clean (.bool r), none) := mkG_eq _ _ _ ((TFrac.mk (TBig.mk p0_0 p0_1) (TBig.mk p0_2 p0_3)))

noncomputable def g_r05_Right : Env := (Am.ext (Am.ext (Am.ext (Am.ext noEnv 81 false G_r04_Right) 82 false G_r04_Gcd) 83 false G_r04_Compare) 84 false G_r04_Of)

theorem ge_r05_Right : GOk Try.prog g_r05_Right := ((((GOk.none.add ok_r04_Right false).add ok_r04_Gcd false).add ok_r04_Compare false).add ok_r04_Of false)

theorem gg_r05_Right : g_r05_Right = (Am.ext (Am.ext (Am.ext (Am.ext noEnv 81 false G_r04_Right) 82 false G_r04_Gcd) 83 false G_r04_Compare) 84 false G_r04_Of) := Eq.trans rfl rfl

theorem x_r05_Right : type_of% (And.intro @w <| And.intro @q_r04_Right <| And.intro @q_r04_Gcd <| And.intro @q_r04_Compare <| And.intro @q_r04_Of <| @gg_r05_Right) := And.intro @w <| And.intro @q_r04_Right <| And.intro @q_r04_Gcd <| And.intro @q_r04_Compare <| And.intro @q_r04_Of <| @gg_r05_Right

theorem m_r05_Right (p0 : TFrac) (r : Bool) (hh : r05_Right p0 = some r) : vfunc .clean tab g_r05_Right FU Try.f44 none [.agg [.int .i64 p0.f_P.f_Sign, .sl false false p0.f_P.f_Digits.length (encL (eI .i64) p0.f_P.f_Digits), .int .i64 p0.f_Q.f_Sign, .sl false false p0.f_Q.f_Digits.length (encL (eI .i64) p0.f_Q.f_Digits)]] = some (.clean (.bool r), none) := by
  refine vfunc_of rfl Try.ntmps44 Try.results44 ?_
  unfold r05_Right at hh
  obtain ⟨r1, hr1, hh⟩ := bindS hh
  try simp only [x_r05_Right, seval, -Int.reduceToNat, hr1]
  obtain ⟨o2, ho2, hh⟩ := bindS hh
  refine tstO_cut 0 (fun s t H e => match s with | s20j1 => ∃ v1j1 : Nat, t 1 = .ptr 1 v1j1 0 ∧ t 20 = .bool s20j1 ∧ H 1 = some ⟨v1j1, 34, [.int .i64 p0.f_P.f_Sign, .sl false false p0.f_P.f_Digits.length (encL (eI .i64) p0.f_P.f_Digits), .int .i64 p0.f_Q.f_Sign, .sl false false p0.f_Q.f_Digits.length (encL (eI .i64) p0.f_Q.f_Digits)], false, false⟩) (fun s => s = o2) ?_ ?_
  · rintro s20j1 t H e ⟨v1j1, t1j1, t20j1, H1j1⟩ rfl
    try dsimp only at hh
    try simp only [x_r05_Right, seval, -Int.reduceToNat, hr1, t1j1, t20j1, H1j1]
    refine tstC_br (fun hb3 => ?_) (fun hb3 => ?_)
    · replace hh := ite_t hb3 hh
      cases hh
      try simp only [x_r05_Right, seval, -Int.reduceToNat, hr1, t1j1, t20j1, H1j1]
    · replace hh := ite_f hb3 hh
      obtain ⟨r4, hr4, hh⟩ := bindS hh
      obtain ⟨r5, hr5, hh⟩ := bindS hh
      obtain ⟨r6, hr6, hh⟩ := bindS hh
      try simp only [x_r05_Right, seval, -Int.reduceToNat, hr1, t1j1, t20j1, H1j1, hr4, hr5, hr6]
      refine dyn_ok (by kernel_rfl) ?_
      cases hh
      try simp only [x_r05_Right, seval, -Int.reduceToNat, hr1, t1j1, t20j1, H1j1, hr4, hr5, hr6]
  ·
    clear hh
    have hh := ho2
    try simp only [x_r05_Right, seval, -Int.reduceToNat, hr1]
    refine tstO_br' (fun hb7 => ?_) (fun hb7 => ?_)
    · replace hh := ite_t hb7 hh
      cases hh
      try simp only [x_r05_Right, seval, -Int.reduceToNat, hr1]
      rw [CK_normal]
      refine ⟨_, rfl, ?_⟩
      refine ⟨0, ?_, ?_, ?_⟩
      all_goals (first | rfl | (simp only [x_r05_Right, seval, -Int.reduceToNat, hr1] <;> rfl))
    · replace hh := ite_f hb7 hh
      obtain ⟨r8, hr8, hh⟩ := bindS hh
      try simp only [x_r05_Right, seval, -Int.reduceToNat, hr1, hr8]
      refine tstO_br' (fun hb9 => ?_) (fun hb9 => ?_)
      · replace hh := ite_t hb9 hh
        cases hh
        try simp only [x_r05_Right, seval, -Int.reduceToNat, hr1, hr8]
        rw [CK_normal]
        refine ⟨_, rfl, ?_⟩
        refine ⟨0, ?_, ?_, ?_⟩
        all_goals (first | rfl | (simp only [x_r05_Right, seval, -Int.reduceToNat, hr1, hr8] <;> rfl))
      · replace hh := ite_f hb9 hh
        cases hh
        try simp only [x_r05_Right, seval, -Int.reduceToNat, hr1, hr8]
        rw [CK_normal]
        refine ⟨_, rfl, ?_⟩
        refine ⟨0, ?_, ?_, ?_⟩
        all_goals (first | rfl | (simp only [x_r05_Right, seval, -Int.reduceToNat, hr1, hr8] <;> rfl))

theorem ok_r05_Right : COk Try.prog 44 G_r05_Right := COk.of (mode := .clean) tok ge_r05_Right mixed Try.func44 (by kernel_rfl) ⟨by kernel_rfl, by kernel_rfl⟩ (fun _ => Nat.le_of_ble_eq_true (by kernel_rfl)) (fun x r h => m_r05_Right x r h)

noncomputable def G_r44_Edits := mkG (as1 (aSl eTFrac)) (fun x : (List TFrac) => r44_Edits x) (fun r : Int => .clean (.int .i64 r))

theorem q_r44_Edits (p0 : (List TFrac)) : G_r44_Edits none [.sl false false p0.length (encL eTFrac p0)] = (r44_Edits p0).map fun r : Int => (.clean (.int .i64 r), none) := mkG_eq _ _ _ (p0)

noncomputable def g_r44_Edits : Env := (Am.ext noEnv 44 false G_r05_Right)

theorem ge_r44_Edits : GOk Try.prog g_r44_Edits := (GOk.none.add ok_r05_Right false)

theorem gg_r44_Edits : g_r44_Edits = (Am.ext noEnv 44 false G_r05_Right) := Eq.trans rfl rfl

theorem x_r44_Edits : type_of% (And.intro @w <| And.intro @q_r05_Right <| @gg_r44_Edits) := And.intro @w <| And.intro @q_r05_Right <| @gg_r44_Edits

theorem m_r44_Edits (p0 : (List TFrac)) (r : Int) (hh : r44_Edits p0 = some r) : vfunc .clean tab g_r44_Edits FU Try.f49 none [.sl false false p0.length (encL eTFrac p0)] = some (.clean (.int .i64 r), none) := by
  refine vfunc_of rfl Try.ntmps49 Try.results49 ?_
  unfold r44_Edits at hh
  try simp only [x_r44_Edits, seval, -Int.reduceToNat]
  obtain ⟨o5, ho5, hh⟩ := bindS hh
  refine runLoop_sim (fun s t H e => match s with | s3a => t 0 = .sl false false p0.length (encL eTFrac p0) ∧ t 3 = .int .i64 s3a) (fun o x t H e => match o with | s3ax => x = .exit 0 ∧ t 0 = .sl false false p0.length (encL eTFrac p0) ∧ t 3 = .int .i64 s3ax) ho5 ?_ ?_ ?_
  ·
    refine ⟨?_, ?_⟩
    all_goals (first | rfl | (simp only [x_r44_Edits, seval, -Int.reduceToNat] <;> rfl))
  · rintro s3a t H e ⟨t0a, t3a⟩ c hh
    simp only [r44_Edits_L1] at hh
    try simp only [x_r44_Edits, seval, -Int.reduceToNat, t0a, t3a]
    refine tstO_br (fun hb6 => ?_) (fun hb6 => ?_)
    · replace hh := ite_t hb6 hh
      obtain ⟨x7, hx7, hh⟩ := bindS hh
      obtain ⟨q8a, q8b⟩ := shlI_ok hx7
      try simp only [x_r44_Edits, seval, -Int.reduceToNat, t0a, t3a, q8a, q8b]
      refine tstC_br (fun hb9 => ?_) (fun hb9 => ?_)
      · replace hh := ite_t hb9 hh
        cases hh
        try simp only [x_r44_Edits, seval, -Int.reduceToNat, t0a, t3a, q8a, q8b]
        rw [LK_normal]
        refine ⟨_, rfl, ?_⟩
        refine ⟨?_, ?_⟩
        all_goals (first | rfl | (simp only [x_r44_Edits, seval, -Int.reduceToNat, t0a, t3a, q8a, q8b] <;> rfl))
      · replace hh := ite_f hb9 hh
        cases hh
        try simp only [x_r44_Edits, seval, -Int.reduceToNat, t0a, t3a, q8a, q8b]
        rw [LK_exit]
        refine ⟨_, rfl, ?_⟩
        refine ⟨rfl, ⟨?_, ?_⟩⟩
        all_goals (first | rfl | (simp only [x_r44_Edits, seval, -Int.reduceToNat, t0a, t3a, q8a, q8b] <;> rfl))
    · replace hh := ite_f hb6 hh
      cases hh
      try simp only [x_r44_Edits, seval, -Int.reduceToNat, t0a, t3a]
      rw [LK_exit]
      refine ⟨_, rfl, ?_⟩
      refine ⟨rfl, ⟨?_, ?_⟩⟩
      all_goals (first | rfl | (simp only [x_r44_Edits, seval, -Int.reduceToNat, t0a, t3a] <;> rfl))
  · rintro x t H e hx
    obtain ⟨s3ax, rfl⟩ : ∃ z, z = o5 := ⟨_, rfl⟩
    dsimp only at hx hh
    obtain ⟨rfl, ⟨t0ax, t3ax⟩⟩ := hx
    try simp only [x_r44_Edits, seval, -Int.reduceToNat, t0ax, t3ax]
    refine tstC_br (fun hb10 => ?_) (fun hb10 => ?_)
    · replace hh := ite_t hb10 hh
      cases hh
      try simp only [x_r44_Edits, seval, -Int.reduceToNat, t0ax, t3ax]
    · replace hh := ite_f hb10 hh
      try simp only [x_r44_Edits, seval, -Int.reduceToNat, t0ax, t3ax]
      obtain ⟨o15, ho15, hh⟩ := bindS hh
      refine runLoop_sim (fun s t H e => match s with | s4b => t 0 = .sl false false p0.length (encL eTFrac p0) ∧ t 3 = .int .i64 s3ax ∧ t 4 = .int .i64 s4b) (fun o x t H e => match o with | (.inl _) => x = .exit 2 ∧ t 3 = .int .i64 s3ax | (.inr r) => x = .ret ∧ endM .clean tab none [.tmp 2] ⟨t, H, e⟩ = some (.clean (.int .i64 r), none)) ho15 ?_ ?_ ?_
      ·
        refine ⟨?_, ?_, ?_⟩
        all_goals (first | rfl | (simp only [x_r44_Edits, seval, -Int.reduceToNat, t0ax, t3ax] <;> rfl))
      · rintro s4b t H e ⟨t0b, t3b, t4b⟩ c hh
        simp only [r44_Edits_L2] at hh
        try simp only [x_r44_Edits, seval, -Int.reduceToNat, t0b, t3b, t4b]
        refine tstC_br (fun hb16 => ?_) (fun hb16 => ?_)
        · replace hh := ite_t hb16 hh
          obtain ⟨x17, hx17, hh⟩ := bindS hh
          have bx17 := idx_bd hx17
          have ax17 := idx_enc eTFrac hx17
          have fx17 := idx_fit eTFrac hx17
          simp only [vmz] at ax17 fx17
          skip
          obtain ⟨r18, hr18, hh⟩ := bindS hh
          try simp only [x_r44_Edits, seval, -Int.reduceToNat, t0b, t3b, t4b, bx17, ax17, fx17, hr18]
          refine tstC_br (fun hb19 => ?_) (fun hb19 => ?_)
          · replace hh := ite_t hb19 hh
            cases hh
            try simp only [x_r44_Edits, seval, -Int.reduceToNat, t0b, t3b, t4b, bx17, ax17, fx17, hr18]
            rw [LK_ret]
            refine ⟨_, rfl, ?_⟩
            refine ⟨rfl, ?_⟩
            try simp only [x_r44_Edits, seval, -Int.reduceToNat, t0b, t3b, t4b, bx17, ax17, fx17, hr18]
          · replace hh := ite_f hb19 hh
            cases hh
            try simp only [x_r44_Edits, seval, -Int.reduceToNat, t0b, t3b, t4b, bx17, ax17, fx17, hr18]
            rw [LK_normal]
            refine ⟨_, rfl, ?_⟩
            refine ⟨?_, ?_, ?_⟩
            all_goals (first | rfl | (simp only [x_r44_Edits, seval, -Int.reduceToNat, t0b, t3b, t4b, bx17, ax17, fx17, hr18] <;> rfl))
        · replace hh := ite_f hb16 hh
          cases hh
          try simp only [x_r44_Edits, seval, -Int.reduceToNat, t0b, t3b, t4b]
          rw [LK_exit]
          refine ⟨_, rfl, ?_⟩
          refine ⟨rfl, ?_⟩
          all_goals (first | rfl | (simp only [x_r44_Edits, seval, -Int.reduceToNat, t0b, t3b, t4b] <;> rfl))
      · rintro x t H e hx
        rcases o15 with _ | rb
        ·
          dsimp only at hx hh
          obtain ⟨rfl, t3bx⟩ := hx
          cases hh
          try simp only [x_r44_Edits, seval, -Int.reduceToNat, t3bx]
        ·
          dsimp only at hx hh
          obtain ⟨rfl, hE⟩ := hx
          cases hh
          try simp only [runW_pass_ret, runW_pass_exit, runW_blk_ret, runW_nil, endW_ret]
          exact hE

theorem ok_r44_Edits : COk Try.prog 49 G_r44_Edits := COk.of (mode := .clean) tok ge_r44_Edits mixed Try.func49 (by kernel_rfl) ⟨by kernel_rfl, by kernel_rfl⟩ (fun _ => Nat.le_of_ble_eq_true (by kernel_rfl)) (fun x r h => m_r44_Edits x r h)

noncomputable def G_r05_Few := mkG (asC (aAgg eTFrac) (as1 (aI .i64))) (fun x : TFrac × Int => r05_Few x.1 x.2) (fun r : Bool => .clean (.bool r))

theorem q_r05_Few (p0_0 : Int) (p0_1 : (List Int)) (p0_2 : Int) (p0_3 : (List Int)) (p1 : Int) : G_r05_Few none [.agg [.int .i64 p0_0, .sl false false p0_1.length (encL (eI .i64) p0_1), .int .i64 p0_2, .sl false false p0_3.length (encL (eI .i64) p0_3)], .int .i64 p1] = (r05_Few (TFrac.mk (TBig.mk p0_0 p0_1) (TBig.mk p0_2 p0_3)) p1).map fun r : Bool => (.clean (.bool r), none) := mkG_eq _ _ _ ((TFrac.mk (TBig.mk p0_0 p0_1) (TBig.mk p0_2 p0_3)), p1)

theorem m_r05_Few (p0 : TFrac) (p1 : Int) (r : Bool) (hh : r05_Few p0 p1 = some r) : vfunc .clean tab noEnv FU Try.f23 none [.agg [.int .i64 p0.f_P.f_Sign, .sl false false p0.f_P.f_Digits.length (encL (eI .i64) p0.f_P.f_Digits), .int .i64 p0.f_Q.f_Sign, .sl false false p0.f_Q.f_Digits.length (encL (eI .i64) p0.f_Q.f_Digits)], .int .i64 p1] = some (.clean (.bool r), none) := by
  refine vfunc_of rfl Try.ntmps23 Try.results23 ?_
  unfold r05_Few at hh
  try simp only [w, seval, -Int.reduceToNat]
  refine tstO_br (fun hb1 => ?_) (fun hb1 => ?_)
  · replace hh := ite_t hb1 hh
    cases hh
    try simp only [w, seval, -Int.reduceToNat]
  · replace hh := ite_f hb1 hh
    cases hh
    try simp only [w, seval, -Int.reduceToNat]

theorem ok_r05_Few : COk Try.prog 23 G_r05_Few := COk.of (mode := .clean) tok GOk.none mixed Try.func23 (by kernel_rfl) ⟨by kernel_rfl, by kernel_rfl⟩ (fun _ => Nat.le_of_ble_eq_true (by kernel_rfl)) (fun x r h => m_r05_Few x.1 x.2 r h)

noncomputable def G_r44_Few := mkG (as1 (aSl eTFrac)) (fun x : (List TFrac) => r44_Few x) (fun r : Bool => .clean (.bool r))

theorem q_r44_Few (p0 : (List TFrac)) : G_r44_Few none [.sl false false p0.length (encL eTFrac p0)] = (r44_Few p0).map fun r : Bool => (.clean (.bool r), none) := mkG_eq _ _ _ (p0)

noncomputable def g_r44_Few : Env := (Am.ext noEnv 23 false G_r05_Few)

theorem ge_r44_Few : GOk Try.prog g_r44_Few := (GOk.none.add ok_r05_Few false)

theorem gg_r44_Few : g_r44_Few = (Am.ext noEnv 23 false G_r05_Few) := Eq.trans rfl rfl

theorem x_r44_Few : type_of% (And.intro @w <| And.intro @q_r05_Few <| @gg_r44_Few) := And.intro @w <| And.intro @q_r05_Few <| @gg_r44_Few

theorem m_r44_Few (p0 : (List TFrac)) (r : Bool) (hh : r44_Few p0 = some r) : vfunc .clean tab g_r44_Few FU Try.f15 none [.sl false false p0.length (encL eTFrac p0)] = some (.clean (.bool r), none) := by
  refine vfunc_of rfl Try.ntmps15 Try.results15 ?_
  unfold r44_Few at hh
  try simp only [x_r44_Few, seval, -Int.reduceToNat]
  obtain ⟨o1, ho1, hh⟩ := bindS hh
  refine tstO_cut 0 (fun s t H e => match s with | s21j1 => t 0 = .sl false false p0.length (encL eTFrac p0) ∧ t 21 = .bool s21j1) (fun s => s = o1) ?_ ?_
  · rintro s21j1 t H e ⟨t0j1, t21j1⟩ rfl
    try dsimp only at hh
    try simp only [x_r44_Few, seval, -Int.reduceToNat, t0j1, t21j1]
    refine tstC_br (fun hb2 => ?_) (fun hb2 => ?_)
    · replace hh := ite_t hb2 hh
      cases hh
      try simp only [x_r44_Few, seval, -Int.reduceToNat, t0j1, t21j1]
    · replace hh := ite_f hb2 hh
      try simp only [x_r44_Few, seval, -Int.reduceToNat, t0j1, t21j1]
      obtain ⟨o7, ho7, hh⟩ := bindS hh
      refine runLoop_sim (fun s t H e => match s with | s3b => t 0 = .sl false false p0.length (encL eTFrac p0) ∧ t 3 = .int .i64 s3b) (fun o x t H e => match o with | (.inl _) => x = .exit 0 | (.inr r) => x = .ret ∧ endM .clean tab none [.tmp 2] ⟨t, H, e⟩ = some (.clean (.bool r), none)) ho7 ?_ ?_ ?_
      ·
        refine ⟨?_, ?_⟩
        all_goals (first | rfl | (simp only [x_r44_Few, seval, -Int.reduceToNat, t0j1, t21j1] <;> rfl))
      · rintro s3b t H e ⟨t0b, t3b⟩ c hh
        simp only [r44_Few_L2] at hh
        try simp only [x_r44_Few, seval, -Int.reduceToNat, t0b, t3b]
        refine tstC_br (fun hb8 => ?_) (fun hb8 => ?_)
        · replace hh := ite_t hb8 hh
          obtain ⟨x9, hx9, hh⟩ := bindS hh
          have bx9 := idx_bd hx9
          have ax9 := idx_enc eTFrac hx9
          have fx9 := idx_fit eTFrac hx9
          simp only [vmz] at ax9 fx9
          skip
          obtain ⟨r10, hr10, hh⟩ := bindS hh
          try simp only [x_r44_Few, seval, -Int.reduceToNat, t0b, t3b, bx9, ax9, fx9, hr10]
          refine tstC_br (fun hb11 => ?_) (fun hb11 => ?_)
          · replace hh := ite_t hb11 hh
            cases hh
            try simp only [x_r44_Few, seval, -Int.reduceToNat, t0b, t3b, bx9, ax9, fx9, hr10]
            rw [LK_ret]
            refine ⟨_, rfl, ?_⟩
            refine ⟨rfl, ?_⟩
            try simp only [x_r44_Few, seval, -Int.reduceToNat, t0b, t3b, bx9, ax9, fx9, hr10]
          · replace hh := ite_f hb11 hh
            cases hh
            try simp only [x_r44_Few, seval, -Int.reduceToNat, t0b, t3b, bx9, ax9, fx9, hr10]
            rw [LK_normal]
            refine ⟨_, rfl, ?_⟩
            refine ⟨?_, ?_⟩
            all_goals (first | rfl | (simp only [x_r44_Few, seval, -Int.reduceToNat, t0b, t3b, bx9, ax9, fx9, hr10] <;> rfl))
        · replace hh := ite_f hb8 hh
          cases hh
          try simp only [x_r44_Few, seval, -Int.reduceToNat, t0b, t3b]
          rw [LK_exit]
          refine ⟨_, rfl, ?_⟩
          exact rfl
      · rintro x t H e hx
        rcases o7 with _ | rb
        ·
          dsimp only at hx hh
          subst hx
          cases hh
          try simp only [x_r44_Few, seval, -Int.reduceToNat]
        ·
          dsimp only at hx hh
          obtain ⟨rfl, hE⟩ := hx
          cases hh
          try simp only [runW_pass_ret, runW_pass_exit, runW_blk_ret, runW_nil, endW_ret]
          exact hE
  ·
    clear hh
    have hh := ho1
    try simp only [x_r44_Few, seval, -Int.reduceToNat]
    refine tstO_br (fun hb12 => ?_) (fun hb12 => ?_)
    · replace hh := ite_t hb12 hh
      try simp only [x_r44_Few, seval, -Int.reduceToNat]
      refine tstO_br (fun hb13 => ?_) (fun hb13 => ?_)
      · replace hh := ite_t hb13 hh
        try simp only [x_r44_Few, seval, -Int.reduceToNat]
        refine tstO_br (fun hb14 => ?_) (fun hb14 => ?_)
        · replace hh := ite_t hb14 hh
          cases hh
          try simp only [x_r44_Few, seval, -Int.reduceToNat]
          rw [CK_normal]
          refine ⟨_, rfl, ?_⟩
          refine ⟨?_, ?_⟩
          all_goals (first | rfl | (simp only [x_r44_Few, seval, -Int.reduceToNat] <;> rfl))
        · replace hh := ite_f hb14 hh
          cases hh
          try simp only [x_r44_Few, seval, -Int.reduceToNat]
          rw [CK_normal]
          refine ⟨_, rfl, ?_⟩
          refine ⟨?_, ?_⟩
          all_goals (first | rfl | (simp only [x_r44_Few, seval, -Int.reduceToNat] <;> rfl))
      · replace hh := ite_f hb13 hh
        cases hh
        try simp only [x_r44_Few, seval, -Int.reduceToNat]
        rw [CK_normal]
        refine ⟨_, rfl, ?_⟩
        refine ⟨?_, ?_⟩
        all_goals (first | rfl | (simp only [x_r44_Few, seval, -Int.reduceToNat] <;> rfl))
    · replace hh := ite_f hb12 hh
      cases hh
      try simp only [x_r44_Few, seval, -Int.reduceToNat]
      rw [CK_normal]
      refine ⟨_, rfl, ?_⟩
      refine ⟨?_, ?_⟩
      all_goals (first | rfl | (simp only [x_r44_Few, seval, -Int.reduceToNat] <;> rfl))

theorem ok_r44_Few : COk Try.prog 15 G_r44_Few := COk.of (mode := .clean) tok ge_r44_Few mixed Try.func15 (by kernel_rfl) ⟨by kernel_rfl, by kernel_rfl⟩ (fun _ => Nat.le_of_ble_eq_true (by kernel_rfl)) (fun x r h => m_r44_Few x r h)

noncomputable def G_l44_edits := mkG (as1 (aSl eTFrac)) (fun x : (List TFrac) => l44_edits x) (fun r : Int => .clean (.int .i64 r))

theorem q_l44_edits (p0 : (List TFrac)) : G_l44_edits none [.sl false false p0.length (encL eTFrac p0)] = (l44_edits p0).map fun r : Int => (.clean (.int .i64 r), none) := mkG_eq _ _ _ (p0)

noncomputable def g_l44_edits : Env := (Am.ext (Am.ext noEnv 15 false G_r44_Few) 49 false G_r44_Edits)

theorem ge_l44_edits : GOk Try.prog g_l44_edits := ((GOk.none.add ok_r44_Few false).add ok_r44_Edits false)

theorem gg_l44_edits : g_l44_edits = (Am.ext (Am.ext noEnv 15 false G_r44_Few) 49 false G_r44_Edits) := Eq.trans rfl rfl

theorem x_l44_edits : type_of% (And.intro @w <| And.intro @q_r44_Few <| And.intro @q_r44_Edits <| @gg_l44_edits) := And.intro @w <| And.intro @q_r44_Few <| And.intro @q_r44_Edits <| @gg_l44_edits

theorem m_l44_edits (p0 : (List TFrac)) (r : Int) (hh : l44_edits p0 = some r) : vfunc .clean tab g_l44_edits FU Try.f14 none [.sl false false p0.length (encL eTFrac p0)] = some (.clean (.int .i64 r), none) := by
  refine vfunc_of rfl Try.ntmps14 Try.results14 ?_
  unfold l44_edits at hh
  obtain ⟨r1, hr1, hh⟩ := bindS hh
  try simp only [x_l44_edits, seval, -Int.reduceToNat, hr1]
  refine tstO_br' (fun hb2 => ?_) (fun hb2 => ?_)
  · replace hh := ite_t hb2 hh
    cases hh
    try simp only [x_l44_edits, seval, -Int.reduceToNat, hr1]
  · replace hh := ite_f hb2 hh
    obtain ⟨r3, hr3, hh⟩ := bindS hh
    try simp only [x_l44_edits, seval, -Int.reduceToNat, hr1, hr3]
    refine tstC_br (fun hb4 => ?_) (fun hb4 => ?_)
    · replace hh := ite_t hb4 hh
      cases hh
      try simp only [x_l44_edits, seval, -Int.reduceToNat, hr1, hr3]
    · replace hh := ite_f hb4 hh
      cases hh
      try simp only [x_l44_edits, seval, -Int.reduceToNat, hr1, hr3]

theorem ok_l44_edits : COk Try.prog 14 G_l44_edits := COk.of (mode := .clean) tok ge_l44_edits mixed Try.func14 (by kernel_rfl) ⟨by kernel_rfl, by kernel_rfl⟩ (fun _ => Nat.le_of_ble_eq_true (by kernel_rfl)) (fun x r h => m_l44_edits x r h)

noncomputable def G_l44_total := mkG (as1 (aSl eTFrac)) (fun x : (List TFrac) => l44_total x) (fun r : TFrac => .clean (.agg [.int .i64 r.f_P.f_Sign, .sl false false r.f_P.f_Digits.length (encL (eI .i64) r.f_P.f_Digits), .int .i64 r.f_Q.f_Sign, .sl false false r.f_Q.f_Digits.length (encL (eI .i64) r.f_Q.f_Digits)]))

theorem q_l44_total (p0 : (List TFrac)) : G_l44_total none [.sl false false p0.length (encL eTFrac p0)] = (l44_total p0).map fun r : TFrac => (.clean (.agg [.int .i64 r.f_P.f_Sign, .sl false false r.f_P.f_Digits.length (encL (eI .i64) r.f_P.f_Digits), .int .i64 r.f_Q.f_Sign, .sl false false r.f_Q.f_Digits.length (encL (eI .i64) r.f_Q.f_Digits)]), none) := mkG_eq _ _ _ (p0)

noncomputable def g_l44_total : Env := (Am.ext (Am.ext noEnv 25 false G_frac_Add) 29 false G_r05_Int)

theorem ge_l44_total : GOk Try.prog g_l44_total := ((GOk.none.add ok_frac_Add false).add ok_r05_Int false)

theorem gg_l44_total : g_l44_total = (Am.ext (Am.ext noEnv 25 false G_frac_Add) 29 false G_r05_Int) := Eq.trans rfl rfl

theorem x_l44_total : type_of% (And.intro @w <| And.intro @q_frac_Add <| And.intro @q_r05_Int <| @gg_l44_total) := And.intro @w <| And.intro @q_frac_Add <| And.intro @q_r05_Int <| @gg_l44_total

theorem m_l44_total (p0 : (List TFrac)) (r : TFrac) (hh : l44_total p0 = some r) : vfunc .clean tab g_l44_total FU Try.f20 none [.sl false false p0.length (encL eTFrac p0)] = some (.clean (.agg [.int .i64 r.f_P.f_Sign, .sl false false r.f_P.f_Digits.length (encL (eI .i64) r.f_P.f_Digits), .int .i64 r.f_Q.f_Sign, .sl false false r.f_Q.f_Digits.length (encL (eI .i64) r.f_Q.f_Digits)]), none) := by
  refine vfunc_of rfl Try.ntmps20 Try.results20 ?_
  unfold l44_total at hh
  obtain ⟨r1, hr1, hh⟩ := bindS hh
  try simp only [x_l44_total, seval, -Int.reduceToNat, hr1]
  obtain ⟨o5, ho5, hh⟩ := bindS hh
  refine runLoop_sim (fun s t H e => match s with | (s4a, r3_0a, r3_1a, r3_2a, r3_3a) => ∃ v2a : Nat, ∃ v3a : Nat, t 0 = .sl false false p0.length (encL eTFrac p0) ∧ t 2 = .ptr 2 v2a 0 ∧ t 3 = .ptr 3 v3a 0 ∧ t 4 = .int .i64 s4a ∧ H 2 = some ⟨v2a, 34, [.int .i64 0, .sl true true 0 [], .int .i64 0, .sl true true 0 []], false, false⟩ ∧ H 3 = some ⟨v3a, 34, [.int .i64 r3_0a, .sl false false r3_1a.length (encL (eI .i64) r3_1a), .int .i64 r3_2a, .sl false false r3_3a.length (encL (eI .i64) r3_3a)], false, false⟩) (fun o x t H e => match o with | (r3_0ax, r3_1ax, r3_2ax, r3_3ax) => x = .exit 0 ∧ ∃ v2ax : Nat, ∃ v3ax : Nat, t 2 = .ptr 2 v2ax 0 ∧ t 3 = .ptr 3 v3ax 0 ∧ H 2 = some ⟨v2ax, 34, [.int .i64 0, .sl true true 0 [], .int .i64 0, .sl true true 0 []], false, false⟩ ∧ H 3 = some ⟨v3ax, 34, [.int .i64 r3_0ax, .sl false false r3_1ax.length (encL (eI .i64) r3_1ax), .int .i64 r3_2ax, .sl false false r3_3ax.length (encL (eI .i64) r3_3ax)], false, false⟩) ho5 ?_ ?_ ?_
  ·
    refine ⟨0, 1, ?_, ?_, ?_, ?_, ?_, ?_⟩
    all_goals (first | rfl | (simp only [x_l44_total, seval, -Int.reduceToNat, hr1] <;> rfl))
  · rintro ⟨s4a, r3_0a, r3_1a, r3_2a, r3_3a⟩ t H e ⟨v2a, v3a, t0a, t2a, t3a, t4a, H2a, H3a⟩ c hh
    simp only [l44_total_L1] at hh
    try simp only [x_l44_total, seval, -Int.reduceToNat, hr1, t0a, t2a, t3a, t4a, H2a, H3a]
    refine tstC_br (fun hb6 => ?_) (fun hb6 => ?_)
    · replace hh := ite_t hb6 hh
      obtain ⟨x7, hx7, hh⟩ := bindS hh
      have bx7 := idx_bd hx7
      have ax7 := idx_enc eTFrac hx7
      have fx7 := idx_fit eTFrac hx7
      simp only [vmz] at ax7 fx7
      skip
      obtain ⟨r8, hr8, hh⟩ := bindS hh
      try simp only [x_l44_total, seval, -Int.reduceToNat, hr1, t0a, t2a, t3a, t4a, H2a, H3a, bx7, ax7, fx7, hr8]
      refine dyn_ok (by kernel_rfl) ?_
      cases hh
      try simp only [x_l44_total, seval, -Int.reduceToNat, hr1, t0a, t2a, t3a, t4a, H2a, H3a, bx7, ax7, fx7, hr8]
      rw [LK_normal]
      refine ⟨_, rfl, ?_⟩
      refine ⟨v2a, v3a, ?_, ?_, ?_, ?_, ?_, ?_⟩
      all_goals (first | rfl | (simp only [x_l44_total, seval, -Int.reduceToNat, hr1, t0a, t2a, t3a, t4a, H2a, H3a, bx7, ax7, fx7, hr8] <;> rfl))
    · replace hh := ite_f hb6 hh
      cases hh
      try simp only [x_l44_total, seval, -Int.reduceToNat, hr1, t0a, t2a, t3a, t4a, H2a, H3a]
      rw [LK_exit]
      refine ⟨_, rfl, ?_⟩
      refine ⟨rfl, ⟨v2a, v3a, ?_, ?_, ?_, ?_⟩⟩
      all_goals (first | rfl | (simp only [x_l44_total, seval, -Int.reduceToNat, hr1, t0a, t2a, t3a, t4a, H2a, H3a] <;> rfl))
  · rintro x t H e hx
    rcases o5 with ⟨r3_0ax, r3_1ax, r3_2ax, r3_3ax⟩
    dsimp only at hx hh
    obtain ⟨rfl, ⟨v2ax, v3ax, t2ax, t3ax, H2ax, H3ax⟩⟩ := hx
    cases hh
    try simp only [x_l44_total, seval, -Int.reduceToNat, hr1, t2ax, t3ax, H2ax, H3ax]

theorem ok_l44_total : COk Try.prog 20 G_l44_total := COk.of (mode := .clean) tok ge_l44_total mixed Try.func20 (by kernel_rfl) ⟨by kernel_rfl, by kernel_rfl⟩ (fun _ => Nat.le_of_ble_eq_true (by kernel_rfl)) (fun x r h => m_l44_total x r h)

noncomputable def G_l44_BridgeWhole := mkG (asC (aSl eTFrac) (asC (aSl eTFrac) (as1 (aSl eTFrac)))) (fun x : (List TFrac) × (List TFrac) × (List TFrac) => l44_BridgeWhole x.1 x.2.1 x.2.2) (fun r : Bool => .clean (.bool r))

theorem q_l44_BridgeWhole (p0 : (List TFrac)) (p1 : (List TFrac)) (p2 : (List TFrac)) : G_l44_BridgeWhole none [.sl false false p0.length (encL eTFrac p0), .sl false false p1.length (encL eTFrac p1), .sl false false p2.length (encL eTFrac p2)] = (l44_BridgeWhole p0 p1 p2).map fun r : Bool => (.clean (.bool r), none) := mkG_eq _ _ _ (p0, p1, p2)

noncomputable def g_l44_BridgeWhole : Env := (Am.ext (Am.ext (Am.ext (Am.ext (Am.ext (Am.ext (Am.ext (Am.ext (Am.ext (Am.ext noEnv 13 false G_l44_small) 14 false G_l44_edits) 15 false G_r44_Few) 16 false G_bridge_Shares) 17 false G_bridge_Potential) 18 false G_frac_Sub) 19 false G_r05_Same) 20 false G_l44_total) 21 false G_bridge_Check) 22 false G_r44_SameList)

theorem ge_l44_BridgeWhole : GOk Try.prog g_l44_BridgeWhole := ((((((((((GOk.none.add ok_l44_small false).add ok_l44_edits false).add ok_r44_Few false).add ok_bridge_Shares false).add ok_bridge_Potential false).add ok_frac_Sub false).add ok_r05_Same false).add ok_l44_total false).add ok_bridge_Check false).add ok_r44_SameList false)

theorem gg_l44_BridgeWhole : g_l44_BridgeWhole = (Am.ext (Am.ext (Am.ext (Am.ext (Am.ext (Am.ext (Am.ext (Am.ext (Am.ext (Am.ext noEnv 13 false G_l44_small) 14 false G_l44_edits) 15 false G_r44_Few) 16 false G_bridge_Shares) 17 false G_bridge_Potential) 18 false G_frac_Sub) 19 false G_r05_Same) 20 false G_l44_total) 21 false G_bridge_Check) 22 false G_r44_SameList) := Eq.trans rfl rfl

theorem x_l44_BridgeWhole : type_of% (And.intro @w <| And.intro @q_l44_small <| And.intro @q_l44_edits <| And.intro @q_r44_Few <| And.intro @q_bridge_Shares <| And.intro @q_bridge_Potential <| And.intro @q_frac_Sub <| And.intro @q_r05_Same <| And.intro @q_l44_total <| And.intro @q_bridge_Check <| And.intro @q_r44_SameList <| @gg_l44_BridgeWhole) := And.intro @w <| And.intro @q_l44_small <| And.intro @q_l44_edits <| And.intro @q_r44_Few <| And.intro @q_bridge_Shares <| And.intro @q_bridge_Potential <| And.intro @q_frac_Sub <| And.intro @q_r05_Same <| And.intro @q_l44_total <| And.intro @q_bridge_Check <| And.intro @q_r44_SameList <| @gg_l44_BridgeWhole

theorem m_l44_BridgeWhole (p0 : (List TFrac)) (p1 : (List TFrac)) (p2 : (List TFrac)) (r : Bool) (hh : l44_BridgeWhole p0 p1 p2 = some r) : vfunc .clean tab g_l44_BridgeWhole FU Try.f3 none [.sl false false p0.length (encL eTFrac p0), .sl false false p1.length (encL eTFrac p1), .sl false false p2.length (encL eTFrac p2)] = some (.clean (.bool r), none) := by
  refine vfunc_of rfl Try.ntmps3 Try.results3 ?_
  unfold l44_BridgeWhole at hh
  obtain ⟨r1, hr1, hh⟩ := bindS hh
  obtain ⟨r2, hr2, hh⟩ := bindS hh
  try simp only [x_l44_BridgeWhole, seval, -Int.reduceToNat, hr1, hr2]
  obtain ⟨o3, ho3, hh⟩ := bindS hh
  refine tstO_cut 0 (fun s t H e => match s with | s27j1 => t 0 = .sl false false p0.length (encL eTFrac p0) ∧ t 1 = .sl false false p1.length (encL eTFrac p1) ∧ t 2 = .sl false false p2.length (encL eTFrac p2) ∧ t 7 = .bool r1 ∧ t 27 = .bool s27j1) (fun s => s = o3) ?_ ?_
  · rintro s27j1 t H e ⟨t0j1, t1j1, t2j1, t7j1, t27j1⟩ rfl
    try dsimp only at hh
    try simp only [x_l44_BridgeWhole, seval, -Int.reduceToNat, hr1, hr2, t0j1, t1j1, t2j1, t7j1, t27j1]
    refine tstC_br (fun hb4 => ?_) (fun hb4 => ?_)
    · replace hh := ite_t hb4 hh
      cases hh
      try simp only [x_l44_BridgeWhole, seval, -Int.reduceToNat, hr1, hr2, t0j1, t1j1, t2j1, t7j1, t27j1]
    · replace hh := ite_f hb4 hh
      obtain ⟨r5, hr5, hh⟩ := bindS hh
      obtain ⟨r6, hr6, hh⟩ := bindS hh
      obtain ⟨x7, hx7, hh⟩ := bindS hh
      have bx7 := idx_bd hx7
      have ax7 := idx_enc eTFrac hx7
      have fx7 := idx_fit eTFrac hx7
      simp only [vmz] at ax7 fx7
      skip
      obtain ⟨x8, hx8, hh⟩ := bindS hh
      have bx8 := idx_bd hx8
      have ax8 := idx_enc eTFrac hx8
      have fx8 := idx_fit eTFrac hx8
      simp only [vmz] at ax8 fx8
      skip
      obtain ⟨r9, hr9, hh⟩ := bindS hh
      try simp only [x_l44_BridgeWhole, seval, -Int.reduceToNat, hr1, hr2, t0j1, t1j1, t2j1, t7j1, t27j1, hr5, hr6, bx7, ax7, fx7, bx8, ax8, fx8, hr9]
      refine dyn_ok (by kernel_rfl) ?_
      try simp only [x_l44_BridgeWhole, seval, -Int.reduceToNat, hr1, hr2, t0j1, t1j1, t2j1, t7j1, t27j1, hr5, hr6, bx7, ax7, fx7, bx8, ax8, fx8, hr9]
      obtain ⟨o10, ho10, hh⟩ := bindS hh
      refine tstP_cut 0 (fun s t H e => match s with | s71j2 => t 0 = .sl false false p0.length (encL eTFrac p0) ∧ t 1 = .sl false false p1.length (encL eTFrac p1) ∧ t 2 = .sl false false p2.length (encL eTFrac p2) ∧ t 7 = .bool r1 ∧ t 8 = .sl false false r5.1.length (encL eTFrac r5.1) ∧ t 10 = .sl false false r6.length (encL eTFrac r6) ∧ t 71 = .bool s71j2) (fun s => s = o10) ?_ ?_
      · rintro s71j2 t H e ⟨t0j2, t1j2, t2j2, t7j2, t8j2, t10j2, t71j2⟩ rfl
        try dsimp only at hh
        try simp only [x_l44_BridgeWhole, seval, -Int.reduceToNat, hr1, hr2, hr5, hr6, bx7, ax7, fx7, bx8, ax8, fx8, hr9, t0j2, t1j2, t2j2, t7j2, t8j2, t10j2, t71j2]
        refine tstC_br (fun hb11 => ?_) (fun hb11 => ?_)
        · replace hh := ite_t hb11 hh
          cases hh
          try simp only [x_l44_BridgeWhole, seval, -Int.reduceToNat, hr1, hr2, hr5, hr6, bx7, ax7, fx7, bx8, ax8, fx8, hr9, t0j2, t1j2, t2j2, t7j2, t8j2, t10j2, t71j2]
        · replace hh := ite_f hb11 hh
          obtain ⟨r12, hr12, hh⟩ := bindS hh
          try simp only [x_l44_BridgeWhole, seval, -Int.reduceToNat, hr1, hr2, hr5, hr6, bx7, ax7, fx7, bx8, ax8, fx8, hr9, t0j2, t1j2, t2j2, t7j2, t8j2, t10j2, t71j2, hr12]
          obtain ⟨o13, ho13, hh⟩ := bindS hh
          refine tstO_cut 0 (fun s t H e => match s with | s13j3 => t 0 = .sl false false p0.length (encL eTFrac p0) ∧ t 1 = .sl false false p1.length (encL eTFrac p1) ∧ t 2 = .sl false false p2.length (encL eTFrac p2) ∧ t 7 = .bool r1 ∧ t 13 = .bool s13j3) (fun s => s = o13) ?_ ?_
          · rintro s13j3 t H e ⟨t0j3, t1j3, t2j3, t7j3, t13j3⟩ rfl
            try dsimp only at hh
            try simp only [x_l44_BridgeWhole, seval, -Int.reduceToNat, hr1, hr2, hr5, hr6, bx7, ax7, fx7, bx8, ax8, fx8, hr9, hr12, t0j3, t1j3, t2j3, t7j3, t13j3]
            refine tstO_br (fun hb14 => ?_) (fun hb14 => ?_)
            · replace hh := ite_t hb14 hh
              obtain ⟨r15, hr15, hh⟩ := bindS hh
              cases hh
              try simp only [x_l44_BridgeWhole, seval, -Int.reduceToNat, hr1, hr2, hr5, hr6, bx7, ax7, fx7, bx8, ax8, fx8, hr9, hr12, t0j3, t1j3, t2j3, t7j3, t13j3, hr15]
            · replace hh := ite_f hb14 hh
              cases hh
              try simp only [x_l44_BridgeWhole, seval, -Int.reduceToNat, hr1, hr2, hr5, hr6, bx7, ax7, fx7, bx8, ax8, fx8, hr9, hr12, t0j3, t1j3, t2j3, t7j3, t13j3]
          ·
            clear hh
            have hh := ho13
            try simp only [x_l44_BridgeWhole, seval, -Int.reduceToNat, hr1, hr2, hr5, hr6, bx7, ax7, fx7, bx8, ax8, fx8, hr9, t0j2, t1j2, t2j2, t7j2, t8j2, t10j2, t71j2, hr12]
            refine tstO_br (fun hb16 => ?_) (fun hb16 => ?_)
            · replace hh := ite_t hb16 hh
              obtain ⟨r17, hr17, hh⟩ := bindS hh
              cases hh
              try simp only [x_l44_BridgeWhole, seval, -Int.reduceToNat, hr1, hr2, hr5, hr6, bx7, ax7, fx7, bx8, ax8, fx8, hr9, t0j2, t1j2, t2j2, t7j2, t8j2, t10j2, t71j2, hr12, hr17]
              rw [CK_normal]
              refine ⟨_, rfl, ?_⟩
              refine ⟨?_, ?_, ?_, ?_, ?_⟩
              all_goals (first | rfl | (simp only [x_l44_BridgeWhole, seval, -Int.reduceToNat, hr1, hr2, hr5, hr6, bx7, ax7, fx7, bx8, ax8, fx8, hr9, t0j2, t1j2, t2j2, t7j2, t8j2, t10j2, t71j2, hr12, hr17] <;> rfl))
            · replace hh := ite_f hb16 hh
              cases hh
              try simp only [x_l44_BridgeWhole, seval, -Int.reduceToNat, hr1, hr2, hr5, hr6, bx7, ax7, fx7, bx8, ax8, fx8, hr9, t0j2, t1j2, t2j2, t7j2, t8j2, t10j2, t71j2, hr12]
              rw [CK_normal]
              refine ⟨_, rfl, ?_⟩
              refine ⟨?_, ?_, ?_, ?_, ?_⟩
              all_goals (first | rfl | (simp only [x_l44_BridgeWhole, seval, -Int.reduceToNat, hr1, hr2, hr5, hr6, bx7, ax7, fx7, bx8, ax8, fx8, hr9, t0j2, t1j2, t2j2, t7j2, t8j2, t10j2, t71j2, hr12] <;> rfl))
      ·
        clear hh
        have hh := ho10
        try simp only [x_l44_BridgeWhole, seval, -Int.reduceToNat, hr1, hr2, t0j1, t1j1, t2j1, t7j1, t27j1, hr5, hr6, bx7, ax7, fx7, bx8, ax8, fx8, hr9]
        refine tstP_br' (fun hb18 => ?_) (fun hb18 => ?_)
        · replace hh := ite_t hb18 hh
          try simp only [x_l44_BridgeWhole, seval, -Int.reduceToNat, hr1, hr2, t0j1, t1j1, t2j1, t7j1, t27j1, hr5, hr6, bx7, ax7, fx7, bx8, ax8, fx8, hr9]
          refine dyn_ok (by kernel_rfl) ?_
          cases hh
          try simp only [x_l44_BridgeWhole, seval, -Int.reduceToNat, hr1, hr2, t0j1, t1j1, t2j1, t7j1, t27j1, hr5, hr6, bx7, ax7, fx7, bx8, ax8, fx8, hr9]
          rw [CK_normal]
          refine ⟨_, rfl, ?_⟩
          refine ⟨?_, ?_, ?_, ?_, ?_, ?_, ?_⟩
          all_goals (first | rfl | (simp only [x_l44_BridgeWhole, seval, -Int.reduceToNat, hr1, hr2, t0j1, t1j1, t2j1, t7j1, t27j1, hr5, hr6, bx7, ax7, fx7, bx8, ax8, fx8, hr9] <;> rfl))
        · replace hh := ite_f hb18 hh
          try simp only [x_l44_BridgeWhole, seval, -Int.reduceToNat, hr1, hr2, t0j1, t1j1, t2j1, t7j1, t27j1, hr5, hr6, bx7, ax7, fx7, bx8, ax8, fx8, hr9]
          refine tstP_br' (fun hb19 => ?_) (fun hb19 => ?_)
          · replace hh := ite_t hb19 hh
            try simp only [x_l44_BridgeWhole, seval, -Int.reduceToNat, hr1, hr2, t0j1, t1j1, t2j1, t7j1, t27j1, hr5, hr6, bx7, ax7, fx7, bx8, ax8, fx8, hr9]
            refine dyn_ok (by kernel_rfl) ?_
            cases hh
            try simp only [x_l44_BridgeWhole, seval, -Int.reduceToNat, hr1, hr2, t0j1, t1j1, t2j1, t7j1, t27j1, hr5, hr6, bx7, ax7, fx7, bx8, ax8, fx8, hr9]
            rw [CK_normal]
            refine ⟨_, rfl, ?_⟩
            refine ⟨?_, ?_, ?_, ?_, ?_, ?_, ?_⟩
            all_goals (first | rfl | (simp only [x_l44_BridgeWhole, seval, -Int.reduceToNat, hr1, hr2, t0j1, t1j1, t2j1, t7j1, t27j1, hr5, hr6, bx7, ax7, fx7, bx8, ax8, fx8, hr9] <;> rfl))
          · replace hh := ite_f hb19 hh
            obtain ⟨r20, hr20, hh⟩ := bindS hh
            obtain ⟨r21, hr21, hh⟩ := bindS hh
            try simp only [x_l44_BridgeWhole, seval, -Int.reduceToNat, hr1, hr2, t0j1, t1j1, t2j1, t7j1, t27j1, hr5, hr6, bx7, ax7, fx7, bx8, ax8, fx8, hr9, hr20, hr21]
            refine tstP_br' (fun hb22 => ?_) (fun hb22 => ?_)
            · replace hh := ite_t hb22 hh
              try simp only [x_l44_BridgeWhole, seval, -Int.reduceToNat, hr1, hr2, t0j1, t1j1, t2j1, t7j1, t27j1, hr5, hr6, bx7, ax7, fx7, bx8, ax8, fx8, hr9, hr20, hr21]
              refine dyn_ok (by kernel_rfl) ?_
              cases hh
              try simp only [x_l44_BridgeWhole, seval, -Int.reduceToNat, hr1, hr2, t0j1, t1j1, t2j1, t7j1, t27j1, hr5, hr6, bx7, ax7, fx7, bx8, ax8, fx8, hr9, hr20, hr21]
              rw [CK_normal]
              refine ⟨_, rfl, ?_⟩
              refine ⟨?_, ?_, ?_, ?_, ?_, ?_, ?_⟩
              all_goals (first | rfl | (simp only [x_l44_BridgeWhole, seval, -Int.reduceToNat, hr1, hr2, t0j1, t1j1, t2j1, t7j1, t27j1, hr5, hr6, bx7, ax7, fx7, bx8, ax8, fx8, hr9, hr20, hr21] <;> rfl))
            · replace hh := ite_f hb22 hh
              obtain ⟨r23, hr23, hh⟩ := bindS hh
              try simp only [x_l44_BridgeWhole, seval, -Int.reduceToNat, hr1, hr2, t0j1, t1j1, t2j1, t7j1, t27j1, hr5, hr6, bx7, ax7, fx7, bx8, ax8, fx8, hr9, hr20, hr21, hr23]
              refine dyn_ok (by kernel_rfl) ?_
              cases hh
              try simp only [x_l44_BridgeWhole, seval, -Int.reduceToNat, hr1, hr2, t0j1, t1j1, t2j1, t7j1, t27j1, hr5, hr6, bx7, ax7, fx7, bx8, ax8, fx8, hr9, hr20, hr21, hr23]
              rw [CK_normal]
              refine ⟨_, rfl, ?_⟩
              refine ⟨?_, ?_, ?_, ?_, ?_, ?_, ?_⟩
              all_goals (first | rfl | (simp only [x_l44_BridgeWhole, seval, -Int.reduceToNat, hr1, hr2, t0j1, t1j1, t2j1, t7j1, t27j1, hr5, hr6, bx7, ax7, fx7, bx8, ax8, fx8, hr9, hr20, hr21, hr23] <;> rfl))
  ·
    clear hh
    have hh := ho3
    try simp only [x_l44_BridgeWhole, seval, -Int.reduceToNat, hr1, hr2]
    refine tstO_br' (fun hb24 => ?_) (fun hb24 => ?_)
    · replace hh := ite_t hb24 hh
      cases hh
      try simp only [x_l44_BridgeWhole, seval, -Int.reduceToNat, hr1, hr2]
      rw [CK_normal]
      refine ⟨_, rfl, ?_⟩
      refine ⟨?_, ?_, ?_, ?_, ?_⟩
      all_goals (first | rfl | (simp only [x_l44_BridgeWhole, seval, -Int.reduceToNat, hr1, hr2] <;> rfl))
    · replace hh := ite_f hb24 hh
      obtain ⟨r25, hr25, hh⟩ := bindS hh
      try simp only [x_l44_BridgeWhole, seval, -Int.reduceToNat, hr1, hr2, hr25]
      refine tstO_br' (fun hb26 => ?_) (fun hb26 => ?_)
      · replace hh := ite_t hb26 hh
        cases hh
        try simp only [x_l44_BridgeWhole, seval, -Int.reduceToNat, hr1, hr2, hr25]
        rw [CK_normal]
        refine ⟨_, rfl, ?_⟩
        refine ⟨?_, ?_, ?_, ?_, ?_⟩
        all_goals (first | rfl | (simp only [x_l44_BridgeWhole, seval, -Int.reduceToNat, hr1, hr2, hr25] <;> rfl))
      · replace hh := ite_f hb26 hh
        obtain ⟨r27, hr27, hh⟩ := bindS hh
        cases hh
        try simp only [x_l44_BridgeWhole, seval, -Int.reduceToNat, hr1, hr2, hr25, hr27]
        rw [CK_normal]
        refine ⟨_, rfl, ?_⟩
        refine ⟨?_, ?_, ?_, ?_, ?_⟩
        all_goals (first | rfl | (simp only [x_l44_BridgeWhole, seval, -Int.reduceToNat, hr1, hr2, hr25, hr27] <;> rfl))

theorem ok_l44_BridgeWhole : COk Try.prog 3 G_l44_BridgeWhole := COk.of (mode := .clean) tok ge_l44_BridgeWhole mixed Try.func3 (by kernel_rfl) ⟨by kernel_rfl, by kernel_rfl⟩ (fun _ => Nat.le_of_ble_eq_true (by kernel_rfl)) (fun x r h => m_l44_BridgeWhole x.1 x.2.1 x.2.2 r h)
end Go.Proofs.Ytoclpeomlofcjaa.Am
