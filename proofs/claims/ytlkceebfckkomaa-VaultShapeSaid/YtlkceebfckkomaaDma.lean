/- The machine computes the plain functions (written by wip/dec.py). -/
import Derived.Test.YtlkceebfckkomaaTab2
import Derived.Test.YtlkceebfckkomaaCh
import Derived.Test.YtlkceebfckkomaaDp
namespace Go.Proofs.Ytlkceebfckkomaa.Am
open Go.RowKit Go.Proofs.Ytlkceebfckkomaa.P
set_option maxRecDepth 100000
set_option maxHeartbeats 4000000
set_option linter.unusedSimpArgs false
set_option linter.unusedVariables false

theorem vmt : type_of% (And.intro @tab_2 <| And.intro @tab_3 <| And.intro @tab_4 <| And.intro @tab_5 <| And.intro @tab_9 <| And.intro @tab_12 <| And.intro @tab_21 <| And.intro @tab_22 <| And.intro @tab_23 <| And.intro @tab_24 <| And.intro @tab_25 <| And.intro @tab_29 <| And.intro @tab_30 <| And.intro @tab_34 <| @tab_50) := And.intro @tab_2 <| And.intro @tab_3 <| And.intro @tab_4 <| And.intro @tab_5 <| And.intro @tab_9 <| And.intro @tab_12 <| And.intro @tab_21 <| And.intro @tab_22 <| And.intro @tab_23 <| And.intro @tab_24 <| And.intro @tab_25 <| And.intro @tab_29 <| And.intro @tab_30 <| And.intro @tab_34 <| @tab_50

def eTThing : Enc TThing := eVia (ePair eStr (ePair (eI .i64) (ePair (eI .i64) (ePair (eI .i64) (eI .i64))))) (fun x => (x.f_Text, x.f_Value, x.f_Blind, x.f_Left, x.f_Right)) (by rintro ⟨⟩ ⟨⟩ h; simpa using h)

theorem eTThing_cells (x : TThing) : eTThing.cells x = [.str x.f_Text, .int .i64 x.f_Value, .int .i64 x.f_Blind, .int .i64 x.f_Left, .int .i64 x.f_Right] := Eq.trans rfl rfl

theorem eTThing_size : eTThing.size = 5 := Eq.trans rfl rfl

theorem eta_TThing (x : TThing) : TThing.mk x.f_Text x.f_Value x.f_Blind x.f_Left x.f_Right = x := Eq.trans rfl rfl

def eTVault : Enc TVault := eVia (eSl eTThing) (fun x => (x.f_Things)) (by rintro ⟨⟩ ⟨⟩ h; simpa using h)

theorem eTVault_cells (x : TVault) : eTVault.cells x = [.sl false false x.f_Things.length (encL eTThing x.f_Things)] := Eq.trans rfl rfl

theorem eTVault_size : eTVault.size = 1 := Eq.trans rfl rfl

theorem eta_TVault (x : TVault) : TVault.mk x.f_Things = x := Eq.trans rfl rfl

theorem lenE0 {l : List _} : (encL eTThing l).length = l.length * 5 := encL_len _ l

theorem takeE0 {l : List _} : (encL eTThing l).take (l.length * 5) = encL eTThing l := by
  have := encL_take eTThing l l.length
  rw [List.take_length] at this
  exact this

theorem takeS0 {l : List _} {i : Nat} {x : _} : (encL eTThing (l.set i x)).take (l.length * 5) = encL eTThing (l.set i x) := by
  have := @takeE0 (l.set i x)
  rwa [List.length_set] at this

theorem vme : type_of% (And.intro @eI_cells <| And.intro @eBool_cells <| And.intro @eStr_cells <| And.intro @eSl_cells <| And.intro @eI_size <| And.intro @eBool_size <| And.intro @eStr_size <| And.intro @eSl_size <| And.intro @encL_nil <| And.intro @eTThing_cells <| And.intro @eTThing_size <| And.intro @eTVault_cells <| @eTVault_size) := And.intro @eI_cells <| And.intro @eBool_cells <| And.intro @eStr_cells <| And.intro @eSl_cells <| And.intro @eI_size <| And.intro @eBool_size <| And.intro @eStr_size <| And.intro @eSl_size <| And.intro @encL_nil <| And.intro @eTThing_cells <| And.intro @eTThing_size <| And.intro @eTVault_cells <| @eTVault_size

theorem vml : type_of% (And.intro @encL_cons <| And.intro @eta_TThing <| And.intro @eta_TVault <| And.intro @lenE0 <| And.intro @takeE0 <| @takeS0) := And.intro @encL_cons <| And.intro @eta_TThing <| And.intro @eta_TVault <| And.intro @lenE0 <| And.intro @takeE0 <| @takeS0

theorem w : type_of% (And.intro @v <| And.intro @vmt <| And.intro @vme <| @vml) := And.intro @v <| And.intro @vmt <| And.intro @vme <| @vml

theorem vmz : type_of% (And.intro @vme <| And.intro @List.cons_append.{0} <| And.intro @List.nil_append.{0} <| And.intro @List.length_nil.{0} <| And.intro @List.drop_succ_cons.{0} <| @List.drop_zero.{0}) := And.intro @vme <| And.intro @List.cons_append.{0} <| And.intro @List.nil_append.{0} <| And.intro @List.length_nil.{0} <| And.intro @List.drop_succ_cons.{0} <| @List.drop_zero.{0}

noncomputable def G_vault_within := mkG (asC (aI .i64) (as1 (aI .i64))) (fun x : Int × Int => vault_within x.1 x.2) (fun r : Bool => .clean (.bool r))

theorem q_vault_within (p0 : Int) (p1 : Int) : G_vault_within none [.int .i64 p0, .int .i64 p1] = (vault_within p0 p1).map fun r : Bool => (.clean (.bool r), none) := mkG_eq _ _ _ (p0, p1)

theorem m_vault_within (p0 : Int) (p1 : Int) (r : Bool) (hh : vault_within p0 p1 = some r) : vfunc .clean tab noEnv FU Try.f13 none [.int .i64 p0, .int .i64 p1] = some (.clean (.bool r), none) := by
  refine vfunc_of rfl Try.ntmps13 Try.results13 ?_
  unfold vault_within at hh
  try simp only [w, seval, -Int.reduceToNat]
  refine tstO_br (fun hb1 => ?_) (fun hb1 => ?_)
  · replace hh := ite_t hb1 hh
    cases hh
    try simp only [w, seval, -Int.reduceToNat]
  · replace hh := ite_f hb1 hh
    cases hh
    try simp only [w, seval, -Int.reduceToNat]

theorem ok_vault_within : COk Try.prog 13 G_vault_within := COk.of (mode := .clean) tok GOk.none mixed Try.func13 (by kernel_rfl) ⟨by kernel_rfl, by kernel_rfl⟩ (fun _ => Nat.le_of_ble_eq_true (by kernel_rfl)) (fun x r h => m_vault_within x.1 x.2 r h)

noncomputable def G_vault_leaf := mkG (as1 (aAgg eTThing)) (fun x : TThing => vault_leaf x) (fun r : Bool => .clean (.bool r))

theorem q_vault_leaf (p0_0 : ByteArray) (p0_1 : Int) (p0_2 : Int) (p0_3 : Int) (p0_4 : Int) : G_vault_leaf none [.agg [.str p0_0, .int .i64 p0_1, .int .i64 p0_2, .int .i64 p0_3, .int .i64 p0_4]] = (vault_leaf (TThing.mk p0_0 p0_1 p0_2 p0_3 p0_4)).map fun r : Bool => (.clean (.bool r), none) := mkG_eq _ _ _ ((TThing.mk p0_0 p0_1 p0_2 p0_3 p0_4))

noncomputable def g_vault_leaf : Env := (Am.ext noEnv 13 false G_vault_within)

theorem ge_vault_leaf : GOk Try.prog g_vault_leaf := (GOk.none.add ok_vault_within false)

theorem gg_vault_leaf : g_vault_leaf = (Am.ext noEnv 13 false G_vault_within) := Eq.trans rfl rfl

theorem x_vault_leaf : type_of% (And.intro @w <| And.intro @q_vault_within <| @gg_vault_leaf) := And.intro @w <| And.intro @q_vault_within <| @gg_vault_leaf

theorem m_vault_leaf (p0 : TThing) (r : Bool) (hh : vault_leaf p0 = some r) : vfunc .clean tab g_vault_leaf FU Try.f11 none [.agg [.str p0.f_Text, .int .i64 p0.f_Value, .int .i64 p0.f_Blind, .int .i64 p0.f_Left, .int .i64 p0.f_Right]] = some (.clean (.bool r), none) := by
  refine vfunc_of rfl Try.ntmps11 Try.results11 ?_
  unfold vault_leaf at hh
  try simp only [x_vault_leaf, seval, -Int.reduceToNat]
  obtain ⟨o1, ho1, hh⟩ := bindS hh
  refine tstO_cut 0 (fun s t H e => match s with | s3j1 => ∃ v1j1 : Nat, t 1 = .ptr 1 v1j1 0 ∧ t 3 = .bool s3j1 ∧ H 1 = some ⟨v1j1, 30, [.str p0.f_Text, .int .i64 p0.f_Value, .int .i64 p0.f_Blind, .int .i64 p0.f_Left, .int .i64 p0.f_Right], false, false⟩) (fun s => s = o1) ?_ ?_
  · rintro s3j1 t H e ⟨v1j1, t1j1, t3j1, H1j1⟩ rfl
    try dsimp only at hh
    try simp only [x_vault_leaf, seval, -Int.reduceToNat, t1j1, t3j1, H1j1]
    refine tstO_br (fun hb2 => ?_) (fun hb2 => ?_)
    · replace hh := ite_t hb2 hh
      try simp only [x_vault_leaf, seval, -Int.reduceToNat, t1j1, t3j1, H1j1]
      refine tstO_br (fun hb3 => ?_) (fun hb3 => ?_)
      · replace hh := ite_t hb3 hh
        obtain ⟨r4, hr4, hh⟩ := bindS hh
        try simp only [x_vault_leaf, seval, -Int.reduceToNat, t1j1, t3j1, H1j1, hr4]
        refine tstO_br (fun hb5 => ?_) (fun hb5 => ?_)
        · replace hh := ite_t hb5 hh
          obtain ⟨r6, hr6, hh⟩ := bindS hh
          cases hh
          try simp only [x_vault_leaf, seval, -Int.reduceToNat, t1j1, t3j1, H1j1, hr4, hr6]
        · replace hh := ite_f hb5 hh
          cases hh
          try simp only [x_vault_leaf, seval, -Int.reduceToNat, t1j1, t3j1, H1j1, hr4]
      · replace hh := ite_f hb3 hh
        cases hh
        try simp only [x_vault_leaf, seval, -Int.reduceToNat, t1j1, t3j1, H1j1]
    · replace hh := ite_f hb2 hh
      cases hh
      try simp only [x_vault_leaf, seval, -Int.reduceToNat, t1j1, t3j1, H1j1]
  ·
    clear hh
    have hh := ho1
    try simp only [x_vault_leaf, seval, -Int.reduceToNat]
    refine tstO_br (fun hb7 => ?_) (fun hb7 => ?_)
    · replace hh := ite_t hb7 hh
      cases hh
      try simp only [x_vault_leaf, seval, -Int.reduceToNat]
      rw [CK_normal]
      refine ⟨_, rfl, ?_⟩
      refine ⟨0, ?_, ?_, ?_⟩
      all_goals (first | rfl | (simp only [x_vault_leaf, seval, -Int.reduceToNat] <;> rfl))
    · replace hh := ite_f hb7 hh
      cases hh
      try simp only [x_vault_leaf, seval, -Int.reduceToNat]
      rw [CK_normal]
      refine ⟨_, rfl, ?_⟩
      refine ⟨0, ?_, ?_, ?_⟩
      all_goals (first | rfl | (simp only [x_vault_leaf, seval, -Int.reduceToNat] <;> rfl))

theorem ok_vault_leaf : COk Try.prog 11 G_vault_leaf := COk.of (mode := .clean) tok ge_vault_leaf mixed Try.func11 (by kernel_rfl) ⟨by kernel_rfl, by kernel_rfl⟩ (fun _ => Nat.le_of_ble_eq_true (by kernel_rfl)) (fun x r h => m_vault_leaf x r h)

noncomputable def G_vault_pair := mkG (asC (aSl eTThing) (asC (aI .i64) (as1 (aI .i64)))) (fun x : (List TThing) × Int × Int => vault_pair x.1 x.2.1 x.2.2) (fun r : TThing × Int => .clean (.tup [.agg [.str r.1.f_Text, .int .i64 r.1.f_Value, .int .i64 r.1.f_Blind, .int .i64 r.1.f_Left, .int .i64 r.1.f_Right], .int .i64 r.2]))

theorem q_vault_pair (p0 : (List TThing)) (p1 : Int) (p2 : Int) : G_vault_pair none [.sl false false p0.length (encL eTThing p0), .int .i64 p1, .int .i64 p2] = (vault_pair p0 p1 p2).map fun r : TThing × Int => (.clean (.tup [.agg [.str r.1.f_Text, .int .i64 r.1.f_Value, .int .i64 r.1.f_Blind, .int .i64 r.1.f_Left, .int .i64 r.1.f_Right], .int .i64 r.2]), none) := mkG_eq _ _ _ (p0, p1, p2)

noncomputable def g_vault_pair : Env := (Am.ext noEnv 13 false G_vault_within)

theorem ge_vault_pair : GOk Try.prog g_vault_pair := (GOk.none.add ok_vault_within false)

theorem gg_vault_pair : g_vault_pair = (Am.ext noEnv 13 false G_vault_within) := Eq.trans rfl rfl

theorem x_vault_pair : type_of% (And.intro @w <| And.intro @q_vault_within <| @gg_vault_pair) := And.intro @w <| And.intro @q_vault_within <| @gg_vault_pair

theorem m_vault_pair (p0 : (List TThing)) (p1 : Int) (p2 : Int) (r : TThing × Int) (hh : vault_pair p0 p1 p2 = some r) : vfunc .clean tab g_vault_pair FU Try.f12 none [.sl false false p0.length (encL eTThing p0), .int .i64 p1, .int .i64 p2] = some (.clean (.tup [.agg [.str r.1.f_Text, .int .i64 r.1.f_Value, .int .i64 r.1.f_Blind, .int .i64 r.1.f_Left, .int .i64 r.1.f_Right], .int .i64 r.2]), none) := by
  refine vfunc_of rfl Try.ntmps12 Try.results12 ?_
  unfold vault_pair at hh
  obtain ⟨r1, hr1, hh⟩ := bindS hh
  try simp only [x_vault_pair, seval, -Int.reduceToNat, hr1]
  obtain ⟨o2, ho2, hh⟩ := bindS hh
  refine tstO_cut 0 (fun s t H e => match s with | s24j1 => ∃ v6j1 : Nat, t 0 = .sl false false p0.length (encL eTThing p0) ∧ t 1 = .int .i64 p1 ∧ t 2 = .int .i64 p2 ∧ t 6 = .ptr 6 v6j1 0 ∧ t 24 = .bool s24j1 ∧ H 6 = some ⟨v6j1, 30, [.str (ByteArray.mk #[]), .int .i64 0, .int .i64 0, .int .i64 0, .int .i64 0], false, false⟩) (fun s => s = o2) ?_ ?_
  · rintro s24j1 t H e ⟨v6j1, t0j1, t1j1, t2j1, t6j1, t24j1, H6j1⟩ rfl
    try dsimp only at hh
    try simp only [x_vault_pair, seval, -Int.reduceToNat, hr1, t0j1, t1j1, t2j1, t6j1, t24j1, H6j1]
    refine tstC_br (fun hb3 => ?_) (fun hb3 => ?_)
    · replace hh := ite_t hb3 hh
      cases hh
      try simp only [x_vault_pair, seval, -Int.reduceToNat, hr1, t0j1, t1j1, t2j1, t6j1, t24j1, H6j1]
    · replace hh := ite_f hb3 hh
      obtain ⟨x4, hx4, hh⟩ := bindS hh
      have bx4 := idx_bd hx4
      have ax4 := idx_enc eTThing hx4
      have fx4 := idx_fit eTThing hx4
      simp only [vmz] at ax4 fx4
      skip
      obtain ⟨x5, hx5, hh⟩ := bindS hh
      have bx5 := idx_bd hx5
      have ax5 := idx_enc eTThing hx5
      have fx5 := idx_fit eTThing hx5
      simp only [vmz] at ax5 fx5
      skip
      try simp only [x_vault_pair, seval, -Int.reduceToNat, hr1, t0j1, t1j1, t2j1, t6j1, t24j1, H6j1, bx4, ax4, fx4, bx5, ax5, fx5]
      refine dyn_ok (by kernel_rfl) ?_
      try simp only [x_vault_pair, seval, -Int.reduceToNat, hr1, t0j1, t1j1, t2j1, t6j1, t24j1, H6j1, bx4, ax4, fx4, bx5, ax5, fx5]
      refine tstO_br' (fun hb6 => ?_) (fun hb6 => ?_)
      · replace hh := ite_t hb6 hh
        cases hh
        try simp only [x_vault_pair, seval, -Int.reduceToNat, hr1, t0j1, t1j1, t2j1, t6j1, t24j1, H6j1, bx4, ax4, fx4, bx5, ax5, fx5]
      · replace hh := ite_f hb6 hh
        try simp only [x_vault_pair, seval, -Int.reduceToNat, hr1, t0j1, t1j1, t2j1, t6j1, t24j1, H6j1, bx4, ax4, fx4, bx5, ax5, fx5]
        refine tstC_br (fun hb7 => ?_) (fun hb7 => ?_)
        · replace hh := ite_t hb7 hh
          cases hh
          try simp only [x_vault_pair, seval, -Int.reduceToNat, hr1, t0j1, t1j1, t2j1, t6j1, t24j1, H6j1, bx4, ax4, fx4, bx5, ax5, fx5]
        · replace hh := ite_f hb7 hh
          cases hh
          try simp only [x_vault_pair, seval, -Int.reduceToNat, hr1, t0j1, t1j1, t2j1, t6j1, t24j1, H6j1, bx4, ax4, fx4, bx5, ax5, fx5]
  ·
    clear hh
    have hh := ho2
    try simp only [x_vault_pair, seval, -Int.reduceToNat, hr1]
    refine tstO_br' (fun hb8 => ?_) (fun hb8 => ?_)
    · replace hh := ite_t hb8 hh
      cases hh
      try simp only [x_vault_pair, seval, -Int.reduceToNat, hr1]
      rw [CK_normal]
      refine ⟨_, rfl, ?_⟩
      refine ⟨0, ?_, ?_, ?_, ?_, ?_, ?_⟩
      all_goals (first | rfl | (simp only [x_vault_pair, seval, -Int.reduceToNat, hr1] <;> rfl))
    · replace hh := ite_f hb8 hh
      obtain ⟨r9, hr9, hh⟩ := bindS hh
      cases hh
      try simp only [x_vault_pair, seval, -Int.reduceToNat, hr1, hr9]
      rw [CK_normal]
      refine ⟨_, rfl, ?_⟩
      refine ⟨0, ?_, ?_, ?_, ?_, ?_, ?_⟩
      all_goals (first | rfl | (simp only [x_vault_pair, seval, -Int.reduceToNat, hr1, hr9] <;> rfl))

theorem ok_vault_pair : COk Try.prog 12 G_vault_pair := COk.of (mode := .clean) tok ge_vault_pair mixed Try.func12 (by kernel_rfl) ⟨by kernel_rfl, by kernel_rfl⟩ (fun _ => Nat.le_of_ble_eq_true (by kernel_rfl)) (fun x r h => m_vault_pair x.1 x.2.1 x.2.2 r h)

noncomputable def G_vault_Sound := mkG (as1 (aAgg eTVault)) (fun x : TVault => vault_Sound x) (fun r : Bool => .clean (.bool r))

theorem q_vault_Sound (p0_0 : (List TThing)) : G_vault_Sound none [.agg [.sl false false p0_0.length (encL eTThing p0_0)]] = (vault_Sound (TVault.mk p0_0)).map fun r : Bool => (.clean (.bool r), none) := mkG_eq _ _ _ ((TVault.mk p0_0))

noncomputable def g_vault_Sound : Env := (Am.ext (Am.ext noEnv 11 false G_vault_leaf) 12 false G_vault_pair)

theorem ge_vault_Sound : GOk Try.prog g_vault_Sound := ((GOk.none.add ok_vault_leaf false).add ok_vault_pair false)

theorem gg_vault_Sound : g_vault_Sound = (Am.ext (Am.ext noEnv 11 false G_vault_leaf) 12 false G_vault_pair) := Eq.trans rfl rfl

theorem x_vault_Sound : type_of% (And.intro @w <| And.intro @q_vault_leaf <| And.intro @q_vault_pair <| @gg_vault_Sound) := And.intro @w <| And.intro @q_vault_leaf <| And.intro @q_vault_pair <| @gg_vault_Sound

theorem m_vault_Sound (p0 : TVault) (r : Bool) (hh : vault_Sound p0 = some r) : vfunc .clean tab g_vault_Sound FU Try.f6 none [.agg [.sl false false p0.f_Things.length (encL eTThing p0.f_Things)]] = some (.clean (.bool r), none) := by
  refine vfunc_of rfl Try.ntmps6 Try.results6 ?_
  unfold vault_Sound at hh
  try simp only [x_vault_Sound, seval, -Int.reduceToNat]
  refine tstC_br (fun hb1 => ?_) (fun hb1 => ?_)
  · replace hh := ite_t hb1 hh
    cases hh
    try simp only [x_vault_Sound, seval, -Int.reduceToNat]
  · replace hh := ite_f hb1 hh
    try simp only [x_vault_Sound, seval, -Int.reduceToNat]
    obtain ⟨o11, ho11, hh⟩ := bindS hh
    refine runLoop_sim (fun s t H e => match s with | s14a => ∃ v1a : Nat, t 1 = .ptr 1 v1a 0 ∧ t 12 = .sl false false p0.f_Things.length (encL eTThing p0.f_Things) ∧ t 13 = .int .i64 (p0.f_Things.length : Int) ∧ t 14 = .int .i64 s14a ∧ H 1 = some ⟨v1a, 24, [.sl false false p0.f_Things.length (encL eTThing p0.f_Things)], false, false⟩) (fun o x t H e => match o with | (.inl _) => x = .exit 0 | (.inr r) => x = .ret ∧ endM .clean tab none [.tmp 2] ⟨t, H, e⟩ = some (.clean (.bool r), none)) ho11 ?_ ?_ ?_
    ·
      refine ⟨0, ?_, ?_, ?_, ?_, ?_⟩
      all_goals (first | rfl | (simp only [x_vault_Sound, seval, -Int.reduceToNat] <;> rfl))
    · rintro s14a t H e ⟨v1a, t1a, t12a, t13a, t14a, H1a⟩ c hh
      simp only [vault_Sound_L1] at hh
      try simp only [x_vault_Sound, seval, -Int.reduceToNat, t1a, t12a, t13a, t14a, H1a]
      refine tstC_br (fun hb12 => ?_) (fun hb12 => ?_)
      · replace hh := ite_t hb12 hh
        obtain ⟨x13, hx13, hh⟩ := bindS hh
        have bx13 := idx_bd hx13
        have ax13 := idx_enc eTThing hx13
        have fx13 := idx_fit eTThing hx13
        simp only [vmz] at ax13 fx13
        skip
        obtain ⟨r14, hr14, hh⟩ := bindS hh
        try simp only [x_vault_Sound, seval, -Int.reduceToNat, t1a, t12a, t13a, t14a, H1a, bx13, ax13, fx13, hr14]
        refine tstC_br (fun hb15 => ?_) (fun hb15 => ?_)
        · replace hh := ite_t hb15 hh
          cases hh
          try simp only [x_vault_Sound, seval, -Int.reduceToNat, t1a, t12a, t13a, t14a, H1a, bx13, ax13, fx13, hr14]
          rw [LK_normal]
          refine ⟨_, rfl, ?_⟩
          refine ⟨v1a, ?_, ?_, ?_, ?_, ?_⟩
          all_goals (first | rfl | (simp only [x_vault_Sound, seval, -Int.reduceToNat, t1a, t12a, t13a, t14a, H1a, bx13, ax13, fx13, hr14] <;> rfl))
        · replace hh := ite_f hb15 hh
          obtain ⟨x16, hx16, hh⟩ := bindS hh
          obtain ⟨q17a, q17b, q17c, q17d, q17e⟩ := slc_nh eTThing hx16
          simp only [vmz] at q17e
          obtain ⟨r18, hr18, hh⟩ := bindS hh
          try simp only [x_vault_Sound, seval, -Int.reduceToNat, t1a, t12a, t13a, t14a, H1a, bx13, ax13, fx13, hr14, q17a, q17b, q17c, q17d, q17e, hr18]
          refine dyn_ok (by kernel_rfl) ?_
          try simp only [x_vault_Sound, seval, -Int.reduceToNat, t1a, t12a, t13a, t14a, H1a, bx13, ax13, fx13, hr14, q17a, q17b, q17c, q17d, q17e, hr18]
          refine tstO_br' (fun hb19 => ?_) (fun hb19 => ?_)
          · replace hh := ite_t hb19 hh
            cases hh
            try simp only [x_vault_Sound, seval, -Int.reduceToNat, t1a, t12a, t13a, t14a, H1a, bx13, ax13, fx13, hr14, q17a, q17b, q17c, q17d, q17e, hr18]
            rw [LK_ret]
            refine ⟨_, rfl, ?_⟩
            refine ⟨rfl, ?_⟩
            try simp only [x_vault_Sound, seval, -Int.reduceToNat, t1a, t12a, t13a, t14a, H1a, bx13, ax13, fx13, hr14, q17a, q17b, q17c, q17d, q17e, hr18]
          · replace hh := ite_f hb19 hh
            try simp only [x_vault_Sound, seval, -Int.reduceToNat, t1a, t12a, t13a, t14a, H1a, bx13, ax13, fx13, hr14, q17a, q17b, q17c, q17d, q17e, hr18]
            refine tstC_br (fun hb20 => ?_) (fun hb20 => ?_)
            · replace hh := ite_t hb20 hh
              cases hh
              try simp only [x_vault_Sound, seval, -Int.reduceToNat, t1a, t12a, t13a, t14a, H1a, bx13, ax13, fx13, hr14, q17a, q17b, q17c, q17d, q17e, hr18]
              rw [LK_ret]
              refine ⟨_, rfl, ?_⟩
              refine ⟨rfl, ?_⟩
              try simp only [x_vault_Sound, seval, -Int.reduceToNat, t1a, t12a, t13a, t14a, H1a, bx13, ax13, fx13, hr14, q17a, q17b, q17c, q17d, q17e, hr18]
            · replace hh := ite_f hb20 hh
              cases hh
              try simp only [x_vault_Sound, seval, -Int.reduceToNat, t1a, t12a, t13a, t14a, H1a, bx13, ax13, fx13, hr14, q17a, q17b, q17c, q17d, q17e, hr18]
              rw [LK_normal]
              refine ⟨_, rfl, ?_⟩
              refine ⟨v1a, ?_, ?_, ?_, ?_, ?_⟩
              all_goals (first | rfl | (simp only [x_vault_Sound, seval, -Int.reduceToNat, t1a, t12a, t13a, t14a, H1a, bx13, ax13, fx13, hr14, q17a, q17b, q17c, q17d, q17e, hr18] <;> rfl))
      · replace hh := ite_f hb12 hh
        cases hh
        try simp only [x_vault_Sound, seval, -Int.reduceToNat, t1a, t12a, t13a, t14a, H1a]
        rw [LK_exit]
        refine ⟨_, rfl, ?_⟩
        exact rfl
    · rintro x t H e hx
      rcases o11 with _ | ra
      ·
        dsimp only at hx hh
        subst hx
        cases hh
        try simp only [x_vault_Sound, seval, -Int.reduceToNat]
      ·
        dsimp only at hx hh
        obtain ⟨rfl, hE⟩ := hx
        cases hh
        try simp only [runW_pass_ret, runW_pass_exit, runW_blk_ret, runW_nil, endW_ret]
        exact hE

theorem ok_vault_Sound : COk Try.prog 6 G_vault_Sound := COk.of (mode := .clean) tok ge_vault_Sound mixed Try.func6 (by kernel_rfl) ⟨by kernel_rfl, by kernel_rfl⟩ (fun _ => Nat.le_of_ble_eq_true (by kernel_rfl)) (fun x r h => m_vault_Sound x r h)

theorem m_slices_Clone_0 (r : (List TThing)) (hh : slices_Clone [] = some r) : vfunc (.fresh 30 5) tab noEnv FU Try.f16 none [.sl true true 0 []] = some (.fresh 30 5 r.length (encL eTThing r), none) := by
  unfold slices_Clone at hh
  obtain ⟨qa, qb, qc⟩ := app_nil hh
  subst qa
  refine vfunc_of rfl Try.ntmps16 Try.results16 ?_
  simp only [w, seval, -Int.reduceToNat, Nat.lt_irrefl]

theorem m_slices_Clone_1 (r : (List TThing)) (hh : slices_Clone [] = some r) : vfunc (.fresh 30 5) tab noEnv FU Try.f16 none [.sl true false 0 []] = some (.fresh 30 5 r.length (encL eTThing r), none) := by
  unfold slices_Clone at hh
  obtain ⟨qa, qb, qc⟩ := app_nil hh
  subst qa
  refine vfunc_of rfl Try.ntmps16 Try.results16 ?_
  simp only [w, seval, -Int.reduceToNat, Nat.lt_irrefl]

theorem m_slices_Clone_2 (p0 r : (List TThing)) (hp : 0 < p0.length) (hh : slices_Clone p0 = some r) : vfunc (.fresh 30 5) tab noEnv FU Try.f16 none [.sl false false p0.length (encL eTThing p0)] = some (.fresh 30 5 r.length (encL eTThing r), none) := by
  unfold slices_Clone at hh
  have hz : ¬ p0.length = 0 := by omega
  obtain ⟨qa, qb, qc⟩ := app_nil hh
  subst qa
  refine vfunc_of rfl Try.ntmps16 Try.results16 ?_
  simp only [w, seval, -Int.reduceToNat, hp, hz, qb, qc]

noncomputable def G_slices_Clone := mkG (as1 (aSl eTThing)) (fun x : (List TThing) => slices_Clone x) (fun r : (List TThing) => .fresh 30 5 r.length (encL eTThing r))

theorem q_slices_Clone (p0 : (List TThing)) : G_slices_Clone none [.sl false false p0.length (encL eTThing p0)] = (slices_Clone p0).map fun r : (List TThing) => (.fresh 30 5 r.length (encL eTThing r), none) := mkG_eq _ _ _ p0

theorem ok_slices_Clone : COk Try.prog 16 G_slices_Clone := COk.list3 (mode := (.fresh 30 5)) tok GOk.none mixed Try.func16 (by kernel_rfl) ⟨by kernel_rfl, by kernel_rfl⟩ (Nat.le_of_ble_eq_true (by kernel_rfl)) m_slices_Clone_0 m_slices_Clone_1 m_slices_Clone_2

theorem m_slices_Clip (p0 r : (List TThing)) (hh : slices_Clip p0 = some r) : vfunc .tight tab noEnv FU Try.f15 none [.sl false false p0.length (encL eTThing p0)] = some (.clean (.sl false true r.length (encL eTThing r)), none) := by
  unfold slices_Clip at hh
  split at hh
  · cases hh
    refine vfunc_of rfl Try.ntmps15 Try.results15 ?_
    simp only [w, seval, -Int.reduceToNat, Int.toNat_natCast, Int.natCast_nonneg]
  · cases hh

noncomputable def G_slices_Clip := mkG (as1 (aSl eTThing)) (fun x : (List TThing) => slices_Clip x) (fun r : (List TThing) => .clean (.sl false true r.length (encL eTThing r)))

theorem q_slices_Clip (p0 : (List TThing)) : G_slices_Clip none [.sl false false p0.length (encL eTThing p0)] = (slices_Clip p0).map fun r : (List TThing) => (.clean (.sl false true r.length (encL eTThing r)), none) := mkG_eq _ _ _ p0

theorem ok_slices_Clip : COk Try.prog 15 G_slices_Clip := COk.of (mode := .tight) tok GOk.none mixed Try.func15 (by kernel_rfl) ⟨by kernel_rfl, by kernel_rfl⟩ (fun _ => Nat.le_of_ble_eq_true (by kernel_rfl)) (fun x r h => m_slices_Clip x r h)

noncomputable def G_vault_put := mkG (asC (aAgg eTVault) (as1 (aAgg eTThing))) (fun x : TVault × TThing => vault_put x.1 x.2) (fun r : TVault × Int × Int => .clean (.tup [.agg [.sl false false r.1.f_Things.length (encL eTThing r.1.f_Things)], .int .i64 r.2.1, .int .i64 r.2.2]))

theorem q_vault_put (p0_0 : (List TThing)) (p1_0 : ByteArray) (p1_1 : Int) (p1_2 : Int) (p1_3 : Int) (p1_4 : Int) : G_vault_put none [.agg [.sl false false p0_0.length (encL eTThing p0_0)], .agg [.str p1_0, .int .i64 p1_1, .int .i64 p1_2, .int .i64 p1_3, .int .i64 p1_4]] = (vault_put (TVault.mk p0_0) (TThing.mk p1_0 p1_1 p1_2 p1_3 p1_4)).map fun r : TVault × Int × Int => (.clean (.tup [.agg [.sl false false r.1.f_Things.length (encL eTThing r.1.f_Things)], .int .i64 r.2.1, .int .i64 r.2.2]), none) := mkG_eq _ _ _ ((TVault.mk p0_0), (TThing.mk p1_0 p1_1 p1_2 p1_3 p1_4))

noncomputable def g_vault_put : Env := (Am.ext (Am.ext noEnv 15 false G_slices_Clip) 16 false G_slices_Clone)

theorem ge_vault_put : GOk Try.prog g_vault_put := ((GOk.none.add ok_slices_Clip false).add ok_slices_Clone false)

theorem gg_vault_put : g_vault_put = (Am.ext (Am.ext noEnv 15 false G_slices_Clip) 16 false G_slices_Clone) := Eq.trans rfl rfl

theorem x_vault_put : type_of% (And.intro @w <| And.intro @q_slices_Clip <| And.intro @q_slices_Clone <| @gg_vault_put) := And.intro @w <| And.intro @q_slices_Clip <| And.intro @q_slices_Clone <| @gg_vault_put

theorem m_vault_put (p0 : TVault) (p1 : TThing) (r : TVault × Int × Int) (hh : vault_put p0 p1 = some r) : vfunc .clean tab g_vault_put FU Try.f14 none [.agg [.sl false false p0.f_Things.length (encL eTThing p0.f_Things)], .agg [.str p1.f_Text, .int .i64 p1.f_Value, .int .i64 p1.f_Blind, .int .i64 p1.f_Left, .int .i64 p1.f_Right]] = some (.clean (.tup [.agg [.sl false false r.1.f_Things.length (encL eTThing r.1.f_Things)], .int .i64 r.2.1, .int .i64 r.2.2]), none) := by
  refine vfunc_of rfl Try.ntmps14 Try.results14 ?_
  unfold vault_put at hh
  obtain ⟨r1, hr1, hh⟩ := bindS hh
  obtain ⟨r2, hr2, hh⟩ := bindS hh
  obtain ⟨x3, hx3, hh⟩ := bindS hh
  obtain ⟨q4a, q4b, q4c, q4d⟩ := app_one eTThing hx3
  simp only [vmz] at q4b
  try simp only [x_vault_put, seval, -Int.reduceToNat, hr1, hr2, q4a, q4b, q4c, q4d]
  refine dyn_ok (by kernel_rfl) ?_
  cases hh
  try simp only [x_vault_put, seval, -Int.reduceToNat, hr1, hr2, q4a, q4b, q4c, q4d]

theorem ok_vault_put : COk Try.prog 14 G_vault_put := COk.of (mode := .clean) tok ge_vault_put mixed Try.func14 (by kernel_rfl) ⟨by kernel_rfl, by kernel_rfl⟩ (fun _ => Nat.le_of_ble_eq_true (by kernel_rfl)) (fun x r h => m_vault_put x.1 x.2 r h)

noncomputable def G_vault_Leaf := mkG (asC (aAgg eTVault) (asC aStr (asC (aI .i64) (as1 (aI .i64))))) (fun x : TVault × ByteArray × Int × Int => vault_Leaf x.1 x.2.1 x.2.2.1 x.2.2.2) (fun r : TVault × Int × Int => .clean (.tup [.agg [.sl false false r.1.f_Things.length (encL eTThing r.1.f_Things)], .int .i64 r.2.1, .int .i64 r.2.2]))

theorem q_vault_Leaf (p0_0 : (List TThing)) (p1 : ByteArray) (p2 : Int) (p3 : Int) : G_vault_Leaf none [.agg [.sl false false p0_0.length (encL eTThing p0_0)], .str p1, .int .i64 p2, .int .i64 p3] = (vault_Leaf (TVault.mk p0_0) p1 p2 p3).map fun r : TVault × Int × Int => (.clean (.tup [.agg [.sl false false r.1.f_Things.length (encL eTThing r.1.f_Things)], .int .i64 r.2.1, .int .i64 r.2.2]), none) := mkG_eq _ _ _ ((TVault.mk p0_0), p1, p2, p3)

noncomputable def g_vault_Leaf : Env := (Am.ext (Am.ext (Am.ext noEnv 6 false G_vault_Sound) 11 false G_vault_leaf) 14 false G_vault_put)

theorem ge_vault_Leaf : GOk Try.prog g_vault_Leaf := (((GOk.none.add ok_vault_Sound false).add ok_vault_leaf false).add ok_vault_put false)

theorem gg_vault_Leaf : g_vault_Leaf = (Am.ext (Am.ext (Am.ext noEnv 6 false G_vault_Sound) 11 false G_vault_leaf) 14 false G_vault_put) := Eq.trans rfl rfl

theorem x_vault_Leaf : type_of% (And.intro @w <| And.intro @q_vault_Sound <| And.intro @q_vault_leaf <| And.intro @q_vault_put <| @gg_vault_Leaf) := And.intro @w <| And.intro @q_vault_Sound <| And.intro @q_vault_leaf <| And.intro @q_vault_put <| @gg_vault_Leaf

theorem m_vault_Leaf (p0 : TVault) (p1 : ByteArray) (p2 : Int) (p3 : Int) (r : TVault × Int × Int) (hh : vault_Leaf p0 p1 p2 p3 = some r) : vfunc .clean tab g_vault_Leaf FU Try.f9 none [.agg [.sl false false p0.f_Things.length (encL eTThing p0.f_Things)], .str p1, .int .i64 p2, .int .i64 p3] = some (.clean (.tup [.agg [.sl false false r.1.f_Things.length (encL eTThing r.1.f_Things)], .int .i64 r.2.1, .int .i64 r.2.2]), none) := by
  refine vfunc_of rfl Try.ntmps9 Try.results9 ?_
  unfold vault_Leaf at hh
  obtain ⟨r1, hr1, hh⟩ := bindS hh
  try simp only [x_vault_Leaf, seval, -Int.reduceToNat, hr1]
  obtain ⟨o2, ho2, hh⟩ := bindS hh
  refine tstO_cut 0 (fun s t H e => match s with | s16j1 => ∃ v4j1 : Nat, ∃ v8j1 : Nat, ∃ v11j1 : Nat, t 4 = .ptr 4 v4j1 0 ∧ t 8 = .ptr 8 v8j1 0 ∧ t 11 = .ptr 11 v11j1 0 ∧ t 16 = .bool s16j1 ∧ H 4 = some ⟨v4j1, 24, [.sl false false p0.f_Things.length (encL eTThing p0.f_Things)], false, false⟩ ∧ H 8 = some ⟨v8j1, 24, [.sl true true 0 []], false, false⟩ ∧ H 11 = some ⟨v11j1, 30, [.str p1, .int .i64 p2, .int .i64 p3, .int .i64 (-1), .int .i64 (-1)], false, false⟩) (fun s => s = o2) ?_ ?_
  · rintro s16j1 t H e ⟨v4j1, v8j1, v11j1, t4j1, t8j1, t11j1, t16j1, H4j1, H8j1, H11j1⟩ rfl
    try dsimp only at hh
    try simp only [x_vault_Leaf, seval, -Int.reduceToNat, hr1, t4j1, t8j1, t11j1, t16j1, H4j1, H8j1, H11j1]
    refine tstC_br (fun hb3 => ?_) (fun hb3 => ?_)
    · replace hh := ite_t hb3 hh
      cases hh
      try simp only [x_vault_Leaf, seval, -Int.reduceToNat, hr1, t4j1, t8j1, t11j1, t16j1, H4j1, H8j1, H11j1]
    · replace hh := ite_f hb3 hh
      try simp only [x_vault_Leaf, seval, -Int.reduceToNat, hr1, t4j1, t8j1, t11j1, t16j1, H4j1, H8j1, H11j1]
      refine tstC_br (fun hb4 => ?_) (fun hb4 => ?_)
      · replace hh := ite_t hb4 hh
        cases hh
        try simp only [x_vault_Leaf, seval, -Int.reduceToNat, hr1, t4j1, t8j1, t11j1, t16j1, H4j1, H8j1, H11j1]
      · replace hh := ite_f hb4 hh
        obtain ⟨r5, hr5, hh⟩ := bindS hh
        cases hh
        try simp only [x_vault_Leaf, seval, -Int.reduceToNat, hr1, t4j1, t8j1, t11j1, t16j1, H4j1, H8j1, H11j1, hr5]
  ·
    clear hh
    have hh := ho2
    try simp only [x_vault_Leaf, seval, -Int.reduceToNat, hr1]
    refine tstO_br' (fun hb6 => ?_) (fun hb6 => ?_)
    · replace hh := ite_t hb6 hh
      cases hh
      try simp only [x_vault_Leaf, seval, -Int.reduceToNat, hr1]
      rw [CK_normal]
      refine ⟨_, rfl, ?_⟩
      refine ⟨0, 0, 1, ?_, ?_, ?_, ?_, ?_, ?_, ?_⟩
      all_goals (first | rfl | (simp only [x_vault_Leaf, seval, -Int.reduceToNat, hr1] <;> rfl))
    · replace hh := ite_f hb6 hh
      obtain ⟨r7, hr7, hh⟩ := bindS hh
      cases hh
      try simp only [x_vault_Leaf, seval, -Int.reduceToNat, hr1, hr7]
      rw [CK_normal]
      refine ⟨_, rfl, ?_⟩
      refine ⟨0, 0, 1, ?_, ?_, ?_, ?_, ?_, ?_, ?_⟩
      all_goals (first | rfl | (simp only [x_vault_Leaf, seval, -Int.reduceToNat, hr1, hr7] <;> rfl))

theorem ok_vault_Leaf : COk Try.prog 9 G_vault_Leaf := COk.of (mode := .clean) tok ge_vault_Leaf mixed Try.func9 (by kernel_rfl) ⟨by kernel_rfl, by kernel_rfl⟩ (fun _ => Nat.le_of_ble_eq_true (by kernel_rfl)) (fun x r h => m_vault_Leaf x.1 x.2.1 x.2.2.1 x.2.2.2 r h)

noncomputable def G_vault_Pair := mkG (asC (aAgg eTVault) (asC (aI .i64) (as1 (aI .i64)))) (fun x : TVault × Int × Int => vault_Pair x.1 x.2.1 x.2.2) (fun r : TVault × Int × Int => .clean (.tup [.agg [.sl false false r.1.f_Things.length (encL eTThing r.1.f_Things)], .int .i64 r.2.1, .int .i64 r.2.2]))

theorem q_vault_Pair (p0_0 : (List TThing)) (p1 : Int) (p2 : Int) : G_vault_Pair none [.agg [.sl false false p0_0.length (encL eTThing p0_0)], .int .i64 p1, .int .i64 p2] = (vault_Pair (TVault.mk p0_0) p1 p2).map fun r : TVault × Int × Int => (.clean (.tup [.agg [.sl false false r.1.f_Things.length (encL eTThing r.1.f_Things)], .int .i64 r.2.1, .int .i64 r.2.2]), none) := mkG_eq _ _ _ ((TVault.mk p0_0), p1, p2)

noncomputable def g_vault_Pair : Env := (Am.ext (Am.ext (Am.ext noEnv 6 false G_vault_Sound) 12 false G_vault_pair) 14 false G_vault_put)

theorem ge_vault_Pair : GOk Try.prog g_vault_Pair := (((GOk.none.add ok_vault_Sound false).add ok_vault_pair false).add ok_vault_put false)

theorem gg_vault_Pair : g_vault_Pair = (Am.ext (Am.ext (Am.ext noEnv 6 false G_vault_Sound) 12 false G_vault_pair) 14 false G_vault_put) := Eq.trans rfl rfl

theorem x_vault_Pair : type_of% (And.intro @w <| And.intro @q_vault_Sound <| And.intro @q_vault_pair <| And.intro @q_vault_put <| @gg_vault_Pair) := And.intro @w <| And.intro @q_vault_Sound <| And.intro @q_vault_pair <| And.intro @q_vault_put <| @gg_vault_Pair

theorem m_vault_Pair (p0 : TVault) (p1 : Int) (p2 : Int) (r : TVault × Int × Int) (hh : vault_Pair p0 p1 p2 = some r) : vfunc .clean tab g_vault_Pair FU Try.f10 none [.agg [.sl false false p0.f_Things.length (encL eTThing p0.f_Things)], .int .i64 p1, .int .i64 p2] = some (.clean (.tup [.agg [.sl false false r.1.f_Things.length (encL eTThing r.1.f_Things)], .int .i64 r.2.1, .int .i64 r.2.2]), none) := by
  refine vfunc_of rfl Try.ntmps10 Try.results10 ?_
  unfold vault_Pair at hh
  obtain ⟨r1, hr1, hh⟩ := bindS hh
  try simp only [x_vault_Pair, seval, -Int.reduceToNat, hr1]
  refine tstC_br (fun hb2 => ?_) (fun hb2 => ?_)
  · replace hh := ite_t hb2 hh
    cases hh
    try simp only [x_vault_Pair, seval, -Int.reduceToNat, hr1]
  · replace hh := ite_f hb2 hh
    obtain ⟨r3, hr3, hh⟩ := bindS hh
    try simp only [x_vault_Pair, seval, -Int.reduceToNat, hr1, hr3]
    obtain ⟨o4, ho4, hh⟩ := bindS hh
    refine tstO_cut 0 (fun s t H e => match s with | s30j1 => ∃ v3j1 : Nat, ∃ v6j1 : Nat, ∃ v9j1 : Nat, t 3 = .ptr 3 v3j1 0 ∧ t 6 = .ptr 6 v6j1 0 ∧ t 9 = .ptr 9 v9j1 0 ∧ t 10 = .int .i64 r3.2 ∧ t 30 = .bool s30j1 ∧ H 3 = some ⟨v3j1, 24, [.sl false false p0.f_Things.length (encL eTThing p0.f_Things)], false, false⟩ ∧ H 6 = some ⟨v6j1, 24, [.sl true true 0 []], false, false⟩ ∧ H 9 = some ⟨v9j1, 30, [.str r3.1.f_Text, .int .i64 r3.1.f_Value, .int .i64 r3.1.f_Blind, .int .i64 r3.1.f_Left, .int .i64 r3.1.f_Right], false, false⟩) (fun s => s = o4) ?_ ?_
    · rintro s30j1 t H e ⟨v3j1, v6j1, v9j1, t3j1, t6j1, t9j1, t10j1, t30j1, H3j1, H6j1, H9j1⟩ rfl
      try dsimp only at hh
      try simp only [x_vault_Pair, seval, -Int.reduceToNat, hr1, hr3, t3j1, t6j1, t9j1, t10j1, t30j1, H3j1, H6j1, H9j1]
      obtain ⟨o5, ho5, hh⟩ := bindS hh
      refine tstC_cut 0 (fun s t H e => match s with | s10j2 => ∃ v3j2 : Nat, ∃ v6j2 : Nat, ∃ v9j2 : Nat, t 3 = .ptr 3 v3j2 0 ∧ t 6 = .ptr 6 v6j2 0 ∧ t 9 = .ptr 9 v9j2 0 ∧ t 10 = .int .i64 s10j2 ∧ H 3 = some ⟨v3j2, 24, [.sl false false p0.f_Things.length (encL eTThing p0.f_Things)], false, false⟩ ∧ H 6 = some ⟨v6j2, 24, [.sl true true 0 []], false, false⟩ ∧ H 9 = some ⟨v9j2, 30, [.str r3.1.f_Text, .int .i64 r3.1.f_Value, .int .i64 r3.1.f_Blind, .int .i64 r3.1.f_Left, .int .i64 r3.1.f_Right], false, false⟩) (fun s => s = o5) ?_ ?_
      · rintro s10j2 t H e ⟨v3j2, v6j2, v9j2, t3j2, t6j2, t9j2, t10j2, H3j2, H6j2, H9j2⟩ rfl
        try dsimp only at hh
        try simp only [x_vault_Pair, seval, -Int.reduceToNat, hr1, hr3, t3j2, t6j2, t9j2, t10j2, H3j2, H6j2, H9j2]
        refine tstC_br (fun hb6 => ?_) (fun hb6 => ?_)
        · replace hh := ite_t hb6 hh
          cases hh
          try simp only [x_vault_Pair, seval, -Int.reduceToNat, hr1, hr3, t3j2, t6j2, t9j2, t10j2, H3j2, H6j2, H9j2]
        · replace hh := ite_f hb6 hh
          obtain ⟨r7, hr7, hh⟩ := bindS hh
          cases hh
          try simp only [x_vault_Pair, seval, -Int.reduceToNat, hr1, hr3, t3j2, t6j2, t9j2, t10j2, H3j2, H6j2, H9j2, hr7]
      ·
        clear hh
        have hh := ho5
        try simp only [x_vault_Pair, seval, -Int.reduceToNat, hr1, hr3, t3j1, t6j1, t9j1, t10j1, t30j1, H3j1, H6j1, H9j1]
        refine tstC_br (fun hb8 => ?_) (fun hb8 => ?_)
        · replace hh := ite_t hb8 hh
          cases hh
          try simp only [x_vault_Pair, seval, -Int.reduceToNat, hr1, hr3, t3j1, t6j1, t9j1, t10j1, t30j1, H3j1, H6j1, H9j1]
          rw [CK_normal]
          refine ⟨_, rfl, ?_⟩
          refine ⟨v3j1, v6j1, v9j1, ?_, ?_, ?_, ?_, ?_, ?_, ?_⟩
          all_goals (first | rfl | (simp only [x_vault_Pair, seval, -Int.reduceToNat, hr1, hr3, t3j1, t6j1, t9j1, t10j1, t30j1, H3j1, H6j1, H9j1] <;> rfl))
        · replace hh := ite_f hb8 hh
          cases hh
          try simp only [x_vault_Pair, seval, -Int.reduceToNat, hr1, hr3, t3j1, t6j1, t9j1, t10j1, t30j1, H3j1, H6j1, H9j1]
          rw [CK_normal]
          refine ⟨_, rfl, ?_⟩
          refine ⟨v3j1, v6j1, v9j1, ?_, ?_, ?_, ?_, ?_, ?_, ?_⟩
          all_goals (first | rfl | (simp only [x_vault_Pair, seval, -Int.reduceToNat, hr1, hr3, t3j1, t6j1, t9j1, t10j1, t30j1, H3j1, H6j1, H9j1] <;> rfl))
    ·
      clear hh
      have hh := ho4
      try simp only [x_vault_Pair, seval, -Int.reduceToNat, hr1, hr3]
      refine tstO_br (fun hb9 => ?_) (fun hb9 => ?_)
      · replace hh := ite_t hb9 hh
        cases hh
        try simp only [x_vault_Pair, seval, -Int.reduceToNat, hr1, hr3]
        rw [CK_normal]
        refine ⟨_, rfl, ?_⟩
        refine ⟨0, 0, 2, ?_, ?_, ?_, ?_, ?_, ?_, ?_, ?_⟩
        all_goals (first | rfl | (simp only [x_vault_Pair, seval, -Int.reduceToNat, hr1, hr3] <;> rfl))
      · replace hh := ite_f hb9 hh
        cases hh
        try simp only [x_vault_Pair, seval, -Int.reduceToNat, hr1, hr3]
        rw [CK_normal]
        refine ⟨_, rfl, ?_⟩
        refine ⟨0, 0, 2, ?_, ?_, ?_, ?_, ?_, ?_, ?_, ?_⟩
        all_goals (first | rfl | (simp only [x_vault_Pair, seval, -Int.reduceToNat, hr1, hr3] <;> rfl))

theorem ok_vault_Pair : COk Try.prog 10 G_vault_Pair := COk.of (mode := .clean) tok ge_vault_Pair mixed Try.func10 (by kernel_rfl) ⟨by kernel_rfl, by kernel_rfl⟩ (fun _ => Nat.le_of_ble_eq_true (by kernel_rfl)) (fun x r h => m_vault_Pair x.1 x.2.1 x.2.2 r h)

noncomputable def G_vault_Opens := mkG (asC (aAgg eTVault) (asC (aI .i64) (asC aStr (asC (aI .i64) (as1 (aI .i64)))))) (fun x : TVault × Int × ByteArray × Int × Int => vault_Opens x.1 x.2.1 x.2.2.1 x.2.2.2.1 x.2.2.2.2) (fun r : Bool => .clean (.bool r))

theorem q_vault_Opens (p0_0 : (List TThing)) (p1 : Int) (p2 : ByteArray) (p3 : Int) (p4 : Int) : G_vault_Opens none [.agg [.sl false false p0_0.length (encL eTThing p0_0)], .int .i64 p1, .str p2, .int .i64 p3, .int .i64 p4] = (vault_Opens (TVault.mk p0_0) p1 p2 p3 p4).map fun r : Bool => (.clean (.bool r), none) := mkG_eq _ _ _ ((TVault.mk p0_0), p1, p2, p3, p4)

noncomputable def g_vault_Opens : Env := (Am.ext (Am.ext noEnv 6 false G_vault_Sound) 13 false G_vault_within)

theorem ge_vault_Opens : GOk Try.prog g_vault_Opens := ((GOk.none.add ok_vault_Sound false).add ok_vault_within false)

theorem gg_vault_Opens : g_vault_Opens = (Am.ext (Am.ext noEnv 6 false G_vault_Sound) 13 false G_vault_within) := Eq.trans rfl rfl

theorem x_vault_Opens : type_of% (And.intro @w <| And.intro @q_vault_Sound <| And.intro @q_vault_within <| @gg_vault_Opens) := And.intro @w <| And.intro @q_vault_Sound <| And.intro @q_vault_within <| @gg_vault_Opens

theorem m_vault_Opens (p0 : TVault) (p1 : Int) (p2 : ByteArray) (p3 : Int) (p4 : Int) (r : Bool) (hh : vault_Opens p0 p1 p2 p3 p4 = some r) : vfunc .clean tab g_vault_Opens FU Try.f7 none [.agg [.sl false false p0.f_Things.length (encL eTThing p0.f_Things)], .int .i64 p1, .str p2, .int .i64 p3, .int .i64 p4] = some (.clean (.bool r), none) := by
  refine vfunc_of rfl Try.ntmps7 Try.results7 ?_
  unfold vault_Opens at hh
  obtain ⟨r1, hr1, hh⟩ := bindS hh
  try simp only [x_vault_Opens, seval, -Int.reduceToNat, hr1]
  obtain ⟨o2, ho2, hh⟩ := bindS hh
  refine tstO_cut 0 (fun s t H e => match s with | s23j1 => ∃ v5j1 : Nat, t 1 = .int .i64 p1 ∧ t 2 = .str p2 ∧ t 3 = .int .i64 p3 ∧ t 4 = .int .i64 p4 ∧ t 5 = .ptr 5 v5j1 0 ∧ t 23 = .bool s23j1 ∧ H 5 = some ⟨v5j1, 24, [.sl false false p0.f_Things.length (encL eTThing p0.f_Things)], false, false⟩) (fun s => s = o2) ?_ ?_
  · rintro s23j1 t H e ⟨v5j1, t1j1, t2j1, t3j1, t4j1, t5j1, t23j1, H5j1⟩ rfl
    try dsimp only at hh
    try simp only [x_vault_Opens, seval, -Int.reduceToNat, hr1, t1j1, t2j1, t3j1, t4j1, t5j1, t23j1, H5j1]
    refine tstC_br (fun hb3 => ?_) (fun hb3 => ?_)
    · replace hh := ite_t hb3 hh
      cases hh
      try simp only [x_vault_Opens, seval, -Int.reduceToNat, hr1, t1j1, t2j1, t3j1, t4j1, t5j1, t23j1, H5j1]
    · replace hh := ite_f hb3 hh
      obtain ⟨x4, hx4, hh⟩ := bindS hh
      have bx4 := idx_bd hx4
      have ax4 := idx_enc eTThing hx4
      have fx4 := idx_fit eTThing hx4
      simp only [vmz] at ax4 fx4
      skip
      try simp only [x_vault_Opens, seval, -Int.reduceToNat, hr1, t1j1, t2j1, t3j1, t4j1, t5j1, t23j1, H5j1, bx4, ax4, fx4]
      refine tstO_br (fun hb5 => ?_) (fun hb5 => ?_)
      · replace hh := ite_t hb5 hh
        try simp only [x_vault_Opens, seval, -Int.reduceToNat, hr1, t1j1, t2j1, t3j1, t4j1, t5j1, t23j1, H5j1, bx4, ax4, fx4]
        refine tstO_br (fun hb6 => ?_) (fun hb6 => ?_)
        · replace hh := ite_t hb6 hh
          cases hh
          try simp only [x_vault_Opens, seval, -Int.reduceToNat, hr1, t1j1, t2j1, t3j1, t4j1, t5j1, t23j1, H5j1, bx4, ax4, fx4]
        · replace hh := ite_f hb6 hh
          cases hh
          try simp only [x_vault_Opens, seval, -Int.reduceToNat, hr1, t1j1, t2j1, t3j1, t4j1, t5j1, t23j1, H5j1, bx4, ax4, fx4]
      · replace hh := ite_f hb5 hh
        cases hh
        try simp only [x_vault_Opens, seval, -Int.reduceToNat, hr1, t1j1, t2j1, t3j1, t4j1, t5j1, t23j1, H5j1, bx4, ax4, fx4]
  ·
    clear hh
    have hh := ho2
    try simp only [x_vault_Opens, seval, -Int.reduceToNat, hr1]
    refine tstO_br' (fun hb7 => ?_) (fun hb7 => ?_)
    · replace hh := ite_t hb7 hh
      cases hh
      try simp only [x_vault_Opens, seval, -Int.reduceToNat, hr1]
      rw [CK_normal]
      refine ⟨_, rfl, ?_⟩
      refine ⟨0, ?_, ?_, ?_, ?_, ?_, ?_, ?_⟩
      all_goals (first | rfl | (simp only [x_vault_Opens, seval, -Int.reduceToNat, hr1] <;> rfl))
    · replace hh := ite_f hb7 hh
      obtain ⟨r8, hr8, hh⟩ := bindS hh
      cases hh
      try simp only [x_vault_Opens, seval, -Int.reduceToNat, hr1, hr8]
      rw [CK_normal]
      refine ⟨_, rfl, ?_⟩
      refine ⟨0, ?_, ?_, ?_, ?_, ?_, ?_, ?_⟩
      all_goals (first | rfl | (simp only [x_vault_Opens, seval, -Int.reduceToNat, hr1, hr8] <;> rfl))

theorem ok_vault_Opens : COk Try.prog 7 G_vault_Opens := COk.of (mode := .clean) tok ge_vault_Opens mixed Try.func7 (by kernel_rfl) ⟨by kernel_rfl, by kernel_rfl⟩ (fun _ => Nat.le_of_ble_eq_true (by kernel_rfl)) (fun x r h => m_vault_Opens x.1 x.2.1 x.2.2.1 x.2.2.2.1 x.2.2.2.2 r h)

noncomputable def G_l35_sane := mkG (as0) (fun x : Unit => l35_sane) (fun r : Bool => .clean (.bool r))

theorem q_l35_sane : G_l35_sane none [] = (l35_sane).map fun r : Bool => (.clean (.bool r), none) := mkG_eq _ _ _ ()

noncomputable def g_l35_sane : Env := (Am.ext (Am.ext (Am.ext (Am.ext noEnv 6 false G_vault_Sound) 7 false G_vault_Opens) 9 false G_vault_Leaf) 10 false G_vault_Pair)

theorem ge_l35_sane : GOk Try.prog g_l35_sane := ((((GOk.none.add ok_vault_Sound false).add ok_vault_Opens false).add ok_vault_Leaf false).add ok_vault_Pair false)

theorem gg_l35_sane : g_l35_sane = (Am.ext (Am.ext (Am.ext (Am.ext noEnv 6 false G_vault_Sound) 7 false G_vault_Opens) 9 false G_vault_Leaf) 10 false G_vault_Pair) := Eq.trans rfl rfl

theorem x_l35_sane : type_of% (And.intro @w <| And.intro @q_vault_Sound <| And.intro @q_vault_Opens <| And.intro @q_vault_Leaf <| And.intro @q_vault_Pair <| @gg_l35_sane) := And.intro @w <| And.intro @q_vault_Sound <| And.intro @q_vault_Opens <| And.intro @q_vault_Leaf <| And.intro @q_vault_Pair <| @gg_l35_sane

theorem m_l35_sane (r : Bool) (hh : l35_sane = some r) : vfunc .clean tab g_l35_sane FU Try.f4 none [] = some (.clean (.bool r), none) := by
  refine vfunc_of rfl Try.ntmps4 Try.results4 ?_
  unfold l35_sane at hh
  have i1 := q_vault_Leaf ([]) (ByteArray.mk #[97]) 5 1
  simp only [encL_cons, vmz, List.length_cons, List.length_nil, Nat.zero_add, Nat.reduceAdd, List.length_set] at i1
  obtain ⟨r2, hr2, hh⟩ := bindS hh
  obtain ⟨r3, hr3, hh⟩ := bindS hh
  obtain ⟨r4, hr4, hh⟩ := bindS hh
  obtain ⟨r5, hr5, hh⟩ := bindS hh
  obtain ⟨r6, hr6, hh⟩ := bindS hh
  obtain ⟨r7, hr7, hh⟩ := bindS hh
  try simp only [x_l35_sane, seval, -Int.reduceToNat, i1, hr2, hr3, hr4, hr5, hr6, hr7]
  obtain ⟨o8, ho8, hh⟩ := bindS hh
  refine tstO_cut 0 (fun s t H e => match s with | s92j1 => ∃ v10j1 : Nat, t 10 = .ptr 10 v10j1 0 ∧ t 92 = .bool s92j1 ∧ H 10 = some ⟨v10j1, 24, [.sl false false r5.1.f_Things.length (encL eTThing r5.1.f_Things)], false, false⟩) (fun s => s = o8) ?_ ?_
  · rintro s92j1 t H e ⟨v10j1, t10j1, t92j1, H10j1⟩ rfl
    try dsimp only at hh
    try simp only [x_l35_sane, seval, -Int.reduceToNat, i1, hr2, hr3, hr4, hr5, hr6, hr7, t10j1, t92j1, H10j1]
    refine tstC_br (fun hb9 => ?_) (fun hb9 => ?_)
    · replace hh := ite_t hb9 hh
      cases hh
      try simp only [x_l35_sane, seval, -Int.reduceToNat, i1, hr2, hr3, hr4, hr5, hr6, hr7, t10j1, t92j1, H10j1]
    · replace hh := ite_f hb9 hh
      obtain ⟨r10, hr10, hh⟩ := bindS hh
      try simp only [x_l35_sane, seval, -Int.reduceToNat, i1, hr2, hr3, hr4, hr5, hr6, hr7, t10j1, t92j1, H10j1, hr10]
      refine tstO_br (fun hb11 => ?_) (fun hb11 => ?_)
      · replace hh := ite_t hb11 hh
        obtain ⟨r12, hr12, hh⟩ := bindS hh
        try simp only [x_l35_sane, seval, -Int.reduceToNat, i1, hr2, hr3, hr4, hr5, hr6, hr7, t10j1, t92j1, H10j1, hr10, hr12]
        refine tstO_br (fun hb13 => ?_) (fun hb13 => ?_)
        · replace hh := ite_t hb13 hh
          obtain ⟨r14, hr14, hh⟩ := bindS hh
          try simp only [x_l35_sane, seval, -Int.reduceToNat, i1, hr2, hr3, hr4, hr5, hr6, hr7, t10j1, t92j1, H10j1, hr10, hr12, hr14]
          refine tstO_br (fun hb15 => ?_) (fun hb15 => ?_)
          · replace hh := ite_t hb15 hh
            obtain ⟨r16, hr16, hh⟩ := bindS hh
            try simp only [x_l35_sane, seval, -Int.reduceToNat, i1, hr2, hr3, hr4, hr5, hr6, hr7, t10j1, t92j1, H10j1, hr10, hr12, hr14, hr16]
            refine tstO_br (fun hb17 => ?_) (fun hb17 => ?_)
            · replace hh := ite_t hb17 hh
              obtain ⟨r18, hr18, hh⟩ := bindS hh
              cases hh
              try simp only [x_l35_sane, seval, -Int.reduceToNat, i1, hr2, hr3, hr4, hr5, hr6, hr7, t10j1, t92j1, H10j1, hr10, hr12, hr14, hr16, hr18]
            · replace hh := ite_f hb17 hh
              cases hh
              try simp only [x_l35_sane, seval, -Int.reduceToNat, i1, hr2, hr3, hr4, hr5, hr6, hr7, t10j1, t92j1, H10j1, hr10, hr12, hr14, hr16]
          · replace hh := ite_f hb15 hh
            cases hh
            try simp only [x_l35_sane, seval, -Int.reduceToNat, i1, hr2, hr3, hr4, hr5, hr6, hr7, t10j1, t92j1, H10j1, hr10, hr12, hr14]
        · replace hh := ite_f hb13 hh
          cases hh
          try simp only [x_l35_sane, seval, -Int.reduceToNat, i1, hr2, hr3, hr4, hr5, hr6, hr7, t10j1, t92j1, H10j1, hr10, hr12]
      · replace hh := ite_f hb11 hh
        cases hh
        try simp only [x_l35_sane, seval, -Int.reduceToNat, i1, hr2, hr3, hr4, hr5, hr6, hr7, t10j1, t92j1, H10j1, hr10]
  ·
    clear hh
    have hh := ho8
    try simp only [x_l35_sane, seval, -Int.reduceToNat, i1, hr2, hr3, hr4, hr5, hr6, hr7]
    refine tstO_br' (fun hb19 => ?_) (fun hb19 => ?_)
    · replace hh := ite_t hb19 hh
      cases hh
      try simp only [x_l35_sane, seval, -Int.reduceToNat, i1, hr2, hr3, hr4, hr5, hr6, hr7]
      rw [CK_normal]
      refine ⟨_, rfl, ?_⟩
      refine ⟨4, ?_, ?_, ?_⟩
      all_goals (first | rfl | (simp only [x_l35_sane, seval, -Int.reduceToNat, i1, hr2, hr3, hr4, hr5, hr6, hr7] <;> rfl))
    · replace hh := ite_f hb19 hh
      try simp only [x_l35_sane, seval, -Int.reduceToNat, i1, hr2, hr3, hr4, hr5, hr6, hr7]
      refine tstO_br' (fun hb20 => ?_) (fun hb20 => ?_)
      · replace hh := ite_t hb20 hh
        cases hh
        try simp only [x_l35_sane, seval, -Int.reduceToNat, i1, hr2, hr3, hr4, hr5, hr6, hr7]
        rw [CK_normal]
        refine ⟨_, rfl, ?_⟩
        refine ⟨4, ?_, ?_, ?_⟩
        all_goals (first | rfl | (simp only [x_l35_sane, seval, -Int.reduceToNat, i1, hr2, hr3, hr4, hr5, hr6, hr7] <;> rfl))
      · replace hh := ite_f hb20 hh
        try simp only [x_l35_sane, seval, -Int.reduceToNat, i1, hr2, hr3, hr4, hr5, hr6, hr7]
        refine tstO_br' (fun hb21 => ?_) (fun hb21 => ?_)
        · replace hh := ite_t hb21 hh
          cases hh
          try simp only [x_l35_sane, seval, -Int.reduceToNat, i1, hr2, hr3, hr4, hr5, hr6, hr7]
          rw [CK_normal]
          refine ⟨_, rfl, ?_⟩
          refine ⟨4, ?_, ?_, ?_⟩
          all_goals (first | rfl | (simp only [x_l35_sane, seval, -Int.reduceToNat, i1, hr2, hr3, hr4, hr5, hr6, hr7] <;> rfl))
        · replace hh := ite_f hb21 hh
          try simp only [x_l35_sane, seval, -Int.reduceToNat, i1, hr2, hr3, hr4, hr5, hr6, hr7]
          refine tstO_br' (fun hb22 => ?_) (fun hb22 => ?_)
          · replace hh := ite_t hb22 hh
            cases hh
            try simp only [x_l35_sane, seval, -Int.reduceToNat, i1, hr2, hr3, hr4, hr5, hr6, hr7]
            rw [CK_normal]
            refine ⟨_, rfl, ?_⟩
            refine ⟨4, ?_, ?_, ?_⟩
            all_goals (first | rfl | (simp only [x_l35_sane, seval, -Int.reduceToNat, i1, hr2, hr3, hr4, hr5, hr6, hr7] <;> rfl))
          · replace hh := ite_f hb22 hh
            try simp only [x_l35_sane, seval, -Int.reduceToNat, i1, hr2, hr3, hr4, hr5, hr6, hr7]
            refine tstO_br' (fun hb23 => ?_) (fun hb23 => ?_)
            · replace hh := ite_t hb23 hh
              cases hh
              try simp only [x_l35_sane, seval, -Int.reduceToNat, i1, hr2, hr3, hr4, hr5, hr6, hr7]
              rw [CK_normal]
              refine ⟨_, rfl, ?_⟩
              refine ⟨4, ?_, ?_, ?_⟩
              all_goals (first | rfl | (simp only [x_l35_sane, seval, -Int.reduceToNat, i1, hr2, hr3, hr4, hr5, hr6, hr7] <;> rfl))
            · replace hh := ite_f hb23 hh
              try simp only [x_l35_sane, seval, -Int.reduceToNat, i1, hr2, hr3, hr4, hr5, hr6, hr7]
              refine tstO_br' (fun hb24 => ?_) (fun hb24 => ?_)
              · replace hh := ite_t hb24 hh
                cases hh
                try simp only [x_l35_sane, seval, -Int.reduceToNat, i1, hr2, hr3, hr4, hr5, hr6, hr7]
                rw [CK_normal]
                refine ⟨_, rfl, ?_⟩
                refine ⟨4, ?_, ?_, ?_⟩
                all_goals (first | rfl | (simp only [x_l35_sane, seval, -Int.reduceToNat, i1, hr2, hr3, hr4, hr5, hr6, hr7] <;> rfl))
              · replace hh := ite_f hb24 hh
                try simp only [x_l35_sane, seval, -Int.reduceToNat, i1, hr2, hr3, hr4, hr5, hr6, hr7]
                refine tstO_br' (fun hb25 => ?_) (fun hb25 => ?_)
                · replace hh := ite_t hb25 hh
                  cases hh
                  try simp only [x_l35_sane, seval, -Int.reduceToNat, i1, hr2, hr3, hr4, hr5, hr6, hr7]
                  rw [CK_normal]
                  refine ⟨_, rfl, ?_⟩
                  refine ⟨4, ?_, ?_, ?_⟩
                  all_goals (first | rfl | (simp only [x_l35_sane, seval, -Int.reduceToNat, i1, hr2, hr3, hr4, hr5, hr6, hr7] <;> rfl))
                · replace hh := ite_f hb25 hh
                  try simp only [x_l35_sane, seval, -Int.reduceToNat, i1, hr2, hr3, hr4, hr5, hr6, hr7]
                  refine tstO_br' (fun hb26 => ?_) (fun hb26 => ?_)
                  · replace hh := ite_t hb26 hh
                    cases hh
                    try simp only [x_l35_sane, seval, -Int.reduceToNat, i1, hr2, hr3, hr4, hr5, hr6, hr7]
                    rw [CK_normal]
                    refine ⟨_, rfl, ?_⟩
                    refine ⟨4, ?_, ?_, ?_⟩
                    all_goals (first | rfl | (simp only [x_l35_sane, seval, -Int.reduceToNat, i1, hr2, hr3, hr4, hr5, hr6, hr7] <;> rfl))
                  · replace hh := ite_f hb26 hh
                    try simp only [x_l35_sane, seval, -Int.reduceToNat, i1, hr2, hr3, hr4, hr5, hr6, hr7]
                    refine tstO_br' (fun hb27 => ?_) (fun hb27 => ?_)
                    · replace hh := ite_t hb27 hh
                      cases hh
                      try simp only [x_l35_sane, seval, -Int.reduceToNat, i1, hr2, hr3, hr4, hr5, hr6, hr7]
                      rw [CK_normal]
                      refine ⟨_, rfl, ?_⟩
                      refine ⟨4, ?_, ?_, ?_⟩
                      all_goals (first | rfl | (simp only [x_l35_sane, seval, -Int.reduceToNat, i1, hr2, hr3, hr4, hr5, hr6, hr7] <;> rfl))
                    · replace hh := ite_f hb27 hh
                      cases hh
                      try simp only [x_l35_sane, seval, -Int.reduceToNat, i1, hr2, hr3, hr4, hr5, hr6, hr7]
                      rw [CK_normal]
                      refine ⟨_, rfl, ?_⟩
                      refine ⟨4, ?_, ?_, ?_⟩
                      all_goals (first | rfl | (simp only [x_l35_sane, seval, -Int.reduceToNat, i1, hr2, hr3, hr4, hr5, hr6, hr7] <;> rfl))

theorem ok_l35_sane : COk Try.prog 4 G_l35_sane := COk.of (mode := .clean) tok ge_l35_sane mixed Try.func4 (by kernel_rfl) ⟨by kernel_rfl, by kernel_rfl⟩ (fun _ => Nat.le_of_ble_eq_true (by kernel_rfl)) (fun x r h => m_l35_sane  r h)

noncomputable def G_r35_Few := mkG (asC (aAgg eTVault) (as1 (aI .i64))) (fun x : TVault × Int => r35_Few x.1 x.2) (fun r : Bool => .clean (.bool r))

theorem q_r35_Few (p0_0 : (List TThing)) (p1 : Int) : G_r35_Few none [.agg [.sl false false p0_0.length (encL eTThing p0_0)], .int .i64 p1] = (r35_Few (TVault.mk p0_0) p1).map fun r : Bool => (.clean (.bool r), none) := mkG_eq _ _ _ ((TVault.mk p0_0), p1)

theorem m_r35_Few (p0 : TVault) (p1 : Int) (r : Bool) (hh : r35_Few p0 p1 = some r) : vfunc .clean tab noEnv FU Try.f5 none [.agg [.sl false false p0.f_Things.length (encL eTThing p0.f_Things)], .int .i64 p1] = some (.clean (.bool r), none) := by
  refine vfunc_of rfl Try.ntmps5 Try.results5 ?_
  unfold r35_Few at hh
  try simp only [w, seval, -Int.reduceToNat]
  obtain ⟨o6, ho6, hh⟩ := bindS hh
  refine runLoop_sim (fun s t H e => match s with | s5a => ∃ v2a : Nat, t 1 = .int .i64 p1 ∧ t 2 = .ptr 2 v2a 0 ∧ t 5 = .int .i64 s5a ∧ H 2 = some ⟨v2a, 24, [.sl false false p0.f_Things.length (encL eTThing p0.f_Things)], false, false⟩) (fun o x t H e => match o with | (.inl _) => x = .exit 0 ∧ ∃ v2ax : Nat, t 1 = .int .i64 p1 ∧ t 2 = .ptr 2 v2ax 0 ∧ H 2 = some ⟨v2ax, 24, [.sl false false p0.f_Things.length (encL eTThing p0.f_Things)], false, false⟩ | (.inr r) => x = .ret ∧ endM .clean tab none [.tmp 4] ⟨t, H, e⟩ = some (.clean (.bool r), none)) ho6 ?_ ?_ ?_
  ·
    refine ⟨0, ?_, ?_, ?_, ?_⟩
    all_goals (first | rfl | (simp only [w, seval, -Int.reduceToNat] <;> rfl))
  · rintro s5a t H e ⟨v2a, t1a, t2a, t5a, H2a⟩ c hh
    simp only [r35_Few_L1] at hh
    try simp only [w, seval, -Int.reduceToNat, t1a, t2a, t5a, H2a]
    obtain ⟨o7, ho7, hh⟩ := bindS hh
    refine tstO_cut 0 (fun s t H e => match s with | s15j3 => ∃ v2j3 : Nat, t 1 = .int .i64 p1 ∧ t 2 = .ptr 2 v2j3 0 ∧ t 5 = .int .i64 s5a ∧ t 15 = .bool s15j3 ∧ H 2 = some ⟨v2j3, 24, [.sl false false p0.f_Things.length (encL eTThing p0.f_Things)], false, false⟩) (fun s => s = o7) ?_ ?_
    · rintro s15j3 t H e ⟨v2j3, t1j3, t2j3, t5j3, t15j3, H2j3⟩ rfl
      try dsimp only at hh
      try simp only [w, seval, -Int.reduceToNat, t1j3, t2j3, t5j3, t15j3, H2j3]
      refine tstC_br (fun hb8 => ?_) (fun hb8 => ?_)
      · replace hh := ite_t hb8 hh
        obtain ⟨x9, hx9, hh⟩ := bindS hh
        have bx9 := idx_bd hx9
        have ax9 := idx_enc eTThing hx9
        have fx9 := idx_fit eTThing hx9
        simp only [vmz] at ax9 fx9
        skip
        try simp only [w, seval, -Int.reduceToNat, t1j3, t2j3, t5j3, t15j3, H2j3, bx9, ax9, fx9]
        refine tstC_br (fun hb10 => ?_) (fun hb10 => ?_)
        · replace hh := ite_t hb10 hh
          cases hh
          try simp only [w, seval, -Int.reduceToNat, t1j3, t2j3, t5j3, t15j3, H2j3, bx9, ax9, fx9]
          rw [LK_ret]
          refine ⟨_, rfl, ?_⟩
          refine ⟨rfl, ?_⟩
          try simp only [w, seval, -Int.reduceToNat, t1j3, t2j3, t5j3, t15j3, H2j3, bx9, ax9, fx9]
        · replace hh := ite_f hb10 hh
          cases hh
          try simp only [w, seval, -Int.reduceToNat, t1j3, t2j3, t5j3, t15j3, H2j3, bx9, ax9, fx9]
          rw [LK_normal]
          refine ⟨_, rfl, ?_⟩
          refine ⟨v2j3, ?_, ?_, ?_, ?_⟩
          all_goals (first | rfl | (simp only [w, seval, -Int.reduceToNat, t1j3, t2j3, t5j3, t15j3, H2j3, bx9, ax9, fx9] <;> rfl))
      · replace hh := ite_f hb8 hh
        cases hh
        try simp only [w, seval, -Int.reduceToNat, t1j3, t2j3, t5j3, t15j3, H2j3]
        rw [LK_exit]
        refine ⟨_, rfl, ?_⟩
        refine ⟨rfl, ⟨v2j3, ?_, ?_, ?_⟩⟩
        all_goals (first | rfl | (simp only [w, seval, -Int.reduceToNat, t1j3, t2j3, t5j3, t15j3, H2j3] <;> rfl))
    ·
      clear hh
      have hh := ho7
      try simp only [w, seval, -Int.reduceToNat, t1a, t2a, t5a, H2a]
      refine tstO_br (fun hb11 => ?_) (fun hb11 => ?_)
      · replace hh := ite_t hb11 hh
        cases hh
        try simp only [w, seval, -Int.reduceToNat, t1a, t2a, t5a, H2a]
        rw [CK_normal]
        refine ⟨_, rfl, ?_⟩
        refine ⟨v2a, ?_, ?_, ?_, ?_, ?_⟩
        all_goals (first | rfl | (simp only [w, seval, -Int.reduceToNat, t1a, t2a, t5a, H2a] <;> rfl))
      · replace hh := ite_f hb11 hh
        cases hh
        try simp only [w, seval, -Int.reduceToNat, t1a, t2a, t5a, H2a]
        rw [CK_normal]
        refine ⟨_, rfl, ?_⟩
        refine ⟨v2a, ?_, ?_, ?_, ?_, ?_⟩
        all_goals (first | rfl | (simp only [w, seval, -Int.reduceToNat, t1a, t2a, t5a, H2a] <;> rfl))
  · rintro x t H e hx
    rcases o6 with _ | ra
    ·
      dsimp only at hx hh
      obtain ⟨rfl, ⟨v2ax, t1ax, t2ax, H2ax⟩⟩ := hx
      cases hh
      try simp only [w, seval, -Int.reduceToNat, t1ax, t2ax, H2ax]
    ·
      dsimp only at hx hh
      obtain ⟨rfl, hE⟩ := hx
      cases hh
      try simp only [runW_pass_ret, runW_pass_exit, runW_blk_ret, runW_nil, endW_ret]
      exact hE

theorem ok_r35_Few : COk Try.prog 5 G_r35_Few := COk.of (mode := .clean) tok GOk.none mixed Try.func5 (by kernel_rfl) ⟨by kernel_rfl, by kernel_rfl⟩ (fun _ => Nat.le_of_ble_eq_true (by kernel_rfl)) (fun x r h => m_r35_Few x.1 x.2 r h)

noncomputable def G_r35_Leafy := mkG (as1 (aAgg eTThing)) (fun x : TThing => r35_Leafy x) (fun r : Bool => .clean (.bool r))

theorem q_r35_Leafy (p0_0 : ByteArray) (p0_1 : Int) (p0_2 : Int) (p0_3 : Int) (p0_4 : Int) : G_r35_Leafy none [.agg [.str p0_0, .int .i64 p0_1, .int .i64 p0_2, .int .i64 p0_3, .int .i64 p0_4]] = (r35_Leafy (TThing.mk p0_0 p0_1 p0_2 p0_3 p0_4)).map fun r : Bool => (.clean (.bool r), none) := mkG_eq _ _ _ ((TThing.mk p0_0 p0_1 p0_2 p0_3 p0_4))

theorem m_r35_Leafy (p0 : TThing) (r : Bool) (hh : r35_Leafy p0 = some r) : vfunc .clean tab noEnv FU Try.f8 none [.agg [.str p0.f_Text, .int .i64 p0.f_Value, .int .i64 p0.f_Blind, .int .i64 p0.f_Left, .int .i64 p0.f_Right]] = some (.clean (.bool r), none) := by
  refine vfunc_of rfl Try.ntmps8 Try.results8 ?_
  unfold r35_Leafy at hh
  try simp only [w, seval, -Int.reduceToNat]
  refine tstO_br (fun hb1 => ?_) (fun hb1 => ?_)
  · replace hh := ite_t hb1 hh
    cases hh
    try simp only [w, seval, -Int.reduceToNat]
  · replace hh := ite_f hb1 hh
    cases hh
    try simp only [w, seval, -Int.reduceToNat]

theorem ok_r35_Leafy : COk Try.prog 8 G_r35_Leafy := COk.of (mode := .clean) tok GOk.none mixed Try.func8 (by kernel_rfl) ⟨by kernel_rfl, by kernel_rfl⟩ (fun _ => Nat.le_of_ble_eq_true (by kernel_rfl)) (fun x r h => m_r35_Leafy x r h)

noncomputable def G_l35_VaultShape := mkG (asC (aAgg eTVault) (asC (aI .u8) (as1 (aI .i16)))) (fun x : TVault × Int × Int => l35_VaultShape x.1 x.2.1 x.2.2) (fun r : Bool => .clean (.bool r))

theorem q_l35_VaultShape (p0_0 : (List TThing)) (p1 : Int) (p2 : Int) : G_l35_VaultShape none [.agg [.sl false false p0_0.length (encL eTThing p0_0)], .int .u8 p1, .int .i16 p2] = (l35_VaultShape (TVault.mk p0_0) p1 p2).map fun r : Bool => (.clean (.bool r), none) := mkG_eq _ _ _ ((TVault.mk p0_0), p1, p2)

noncomputable def g_l35_VaultShape : Env := (Am.keep 69 (Am.ext (Am.ext (Am.ext (Am.ext (Am.ext noEnv 4 false G_l35_sane) 5 false G_r35_Few) 6 false G_vault_Sound) 7 false G_vault_Opens) 8 false G_r35_Leafy))

theorem ge_l35_VaultShape : GOk Try.prog g_l35_VaultShape := (GOk.keep (((((GOk.none.add ok_l35_sane false).add ok_r35_Few false).add ok_vault_Sound false).add ok_vault_Opens false).add ok_r35_Leafy false) 69)

theorem gg_l35_VaultShape : g_l35_VaultShape = (Am.keep 69 (Am.ext (Am.ext (Am.ext (Am.ext (Am.ext noEnv 4 false G_l35_sane) 5 false G_r35_Few) 6 false G_vault_Sound) 7 false G_vault_Opens) 8 false G_r35_Leafy)) := Eq.trans rfl rfl

theorem x_l35_VaultShape : type_of% (And.intro @w <| And.intro @q_l35_sane <| And.intro @q_r35_Few <| And.intro @q_vault_Sound <| And.intro @q_vault_Opens <| And.intro @q_r35_Leafy <| @gg_l35_VaultShape) := And.intro @w <| And.intro @q_l35_sane <| And.intro @q_r35_Few <| And.intro @q_vault_Sound <| And.intro @q_vault_Opens <| And.intro @q_r35_Leafy <| @gg_l35_VaultShape

theorem m_l35_VaultShape (p0 : TVault) (p1 : Int) (p2 : Int) (r : Bool) (hh : l35_VaultShape p0 p1 p2 = some r) : vfunc .clean tab g_l35_VaultShape FU Try.f3 none [.agg [.sl false false p0.f_Things.length (encL eTThing p0.f_Things)], .int .u8 p1, .int .i16 p2] = some (.clean (.bool r), none) := by
  refine vfunc_of rfl Try.ntmps3 Try.results3 ?_
  unfold l35_VaultShape at hh
  obtain ⟨r1, hr1, hh⟩ := bindS hh
  obtain ⟨r2, hr2, hh⟩ := bindS hh
  try simp only [x_l35_VaultShape, seval, -Int.reduceToNat, hr1, hr2]
  obtain ⟨o3, ho3, hh⟩ := bindS hh
  refine tstO_cut 0 (fun s t H e => match s with | s29j1 => ∃ v3j1 : Nat, t 1 = .int .u8 p1 ∧ t 2 = .int .i16 p2 ∧ t 3 = .ptr 3 v3j1 0 ∧ t 7 = .bool r1 ∧ t 29 = .bool s29j1 ∧ H 3 = some ⟨v3j1, 24, [.sl false false p0.f_Things.length (encL eTThing p0.f_Things)], false, false⟩) (fun s => s = o3) ?_ ?_
  · rintro s29j1 t H e ⟨v3j1, t1j1, t2j1, t3j1, t7j1, t29j1, H3j1⟩ rfl
    try dsimp only at hh
    try simp only [x_l35_VaultShape, seval, -Int.reduceToNat, hr1, hr2, t1j1, t2j1, t3j1, t7j1, t29j1, H3j1]
    refine tstC_br (fun hb4 => ?_) (fun hb4 => ?_)
    · replace hh := ite_t hb4 hh
      cases hh
      try simp only [x_l35_VaultShape, seval, -Int.reduceToNat, hr1, hr2, t1j1, t2j1, t3j1, t7j1, t29j1, H3j1]
    · replace hh := ite_f hb4 hh
      obtain ⟨x5, hx5, hh⟩ := bindS hh
      obtain ⟨q6a, q6b⟩ := modI_ok hx5
      obtain ⟨x7, hx7, hh⟩ := bindS hh
      obtain ⟨q8a, q8b, q8c, q8d, q8e⟩ := slc_nh eTThing hx7
      simp only [vmz] at q8e
      obtain ⟨r9, hr9, hh⟩ := bindS hh
      try simp only [x_l35_VaultShape, seval, -Int.reduceToNat, hr1, hr2, t1j1, t2j1, t3j1, t7j1, t29j1, H3j1, q6a, q6b, q8a, q8b, q8c, q8d, q8e, hr9]
      refine tstC_br (fun hb10 => ?_) (fun hb10 => ?_)
      · replace hh := ite_t hb10 hh
        cases hh
        try simp only [x_l35_VaultShape, seval, -Int.reduceToNat, hr1, hr2, t1j1, t2j1, t3j1, t7j1, t29j1, H3j1, q6a, q6b, q8a, q8b, q8c, q8d, q8e, hr9]
      · replace hh := ite_f hb10 hh
        try simp only [x_l35_VaultShape, seval, -Int.reduceToNat, hr1, hr2, t1j1, t2j1, t3j1, t7j1, t29j1, H3j1, q6a, q6b, q8a, q8b, q8c, q8d, q8e, hr9]
        obtain ⟨o15, ho15, hh⟩ := bindS hh
        refine runLoop_sim (fun s t H e => match s with | s10b => ∃ v3b : Nat, ∃ v9b : Nat, t 2 = .int .i16 p2 ∧ t 3 = .ptr 3 v3b 0 ∧ t 7 = .bool r1 ∧ t 8 = .int .i64 x5 ∧ t 9 = .ptr 9 v9b 0 ∧ t 10 = .int .i64 s10b ∧ H 3 = some ⟨v3b, 24, [.sl false false p0.f_Things.length (encL eTThing p0.f_Things)], false, false⟩ ∧ H 9 = some ⟨v9b, 24, [.sl false false x7.length (encL eTThing x7)], false, false⟩) (fun o x t H e => match o with | (.inl _) => x = .exit 0 ∧ ∃ v3bx : Nat, t 2 = .int .i16 p2 ∧ t 3 = .ptr 3 v3bx 0 ∧ t 7 = .bool r1 ∧ t 8 = .int .i64 x5 ∧ H 3 = some ⟨v3bx, 24, [.sl false false p0.f_Things.length (encL eTThing p0.f_Things)], false, false⟩ | (.inr r) => x = .ret ∧ endM .clean tab none [.tmp 6] ⟨t, H, e⟩ = some (.clean (.bool r), none)) ho15 ?_ ?_ ?_
        ·
          refine ⟨v3j1, e + 1, ?_, ?_, ?_, ?_, ?_, ?_, ?_, ?_⟩
          all_goals (first | rfl | (simp only [x_l35_VaultShape, seval, -Int.reduceToNat, hr1, hr2, t1j1, t2j1, t3j1, t7j1, t29j1, H3j1, q6a, q6b, q8a, q8b, q8c, q8d, q8e, hr9] <;> rfl))
        · rintro s10b t H e ⟨v3b, v9b, t2b, t3b, t7b, t8b, t9b, t10b, H3b, H9b⟩ c hh
          simp only [l35_VaultShape_L2] at hh
          try simp only [x_l35_VaultShape, seval, -Int.reduceToNat, hr1, hr2, q6a, q6b, q8a, q8b, q8c, q8d, q8e, hr9, t2b, t3b, t7b, t8b, t9b, t10b, H3b, H9b]
          refine tstC_br (fun hb16 => ?_) (fun hb16 => ?_)
          · replace hh := ite_t hb16 hh
            obtain ⟨x17, hx17, hh⟩ := bindS hh
            have bx17 := idx_bd hx17
            have ax17 := idx_enc eTThing hx17
            have fx17 := idx_fit eTThing hx17
            simp only [vmz] at ax17 fx17
            skip
            obtain ⟨r18, hr18, hh⟩ := bindS hh
            try simp only [x_l35_VaultShape, seval, -Int.reduceToNat, hr1, hr2, q6a, q6b, q8a, q8b, q8c, q8d, q8e, hr9, t2b, t3b, t7b, t8b, t9b, t10b, H3b, H9b, bx17, ax17, fx17, hr18]
            refine tstC_br (fun hb19 => ?_) (fun hb19 => ?_)
            · replace hh := ite_t hb19 hh
              cases hh
              try simp only [x_l35_VaultShape, seval, -Int.reduceToNat, hr1, hr2, q6a, q6b, q8a, q8b, q8c, q8d, q8e, hr9, t2b, t3b, t7b, t8b, t9b, t10b, H3b, H9b, bx17, ax17, fx17, hr18]
              rw [LK_ret]
              refine ⟨_, rfl, ?_⟩
              refine ⟨rfl, ?_⟩
              try simp only [x_l35_VaultShape, seval, -Int.reduceToNat, hr1, hr2, q6a, q6b, q8a, q8b, q8c, q8d, q8e, hr9, t2b, t3b, t7b, t8b, t9b, t10b, H3b, H9b, bx17, ax17, fx17, hr18]
            · replace hh := ite_f hb19 hh
              cases hh
              try simp only [x_l35_VaultShape, seval, -Int.reduceToNat, hr1, hr2, q6a, q6b, q8a, q8b, q8c, q8d, q8e, hr9, t2b, t3b, t7b, t8b, t9b, t10b, H3b, H9b, bx17, ax17, fx17, hr18]
              rw [LK_normal]
              refine ⟨_, rfl, ?_⟩
              refine ⟨v3b, v9b, ?_, ?_, ?_, ?_, ?_, ?_, ?_, ?_⟩
              all_goals (first | rfl | (simp only [x_l35_VaultShape, seval, -Int.reduceToNat, hr1, hr2, q6a, q6b, q8a, q8b, q8c, q8d, q8e, hr9, t2b, t3b, t7b, t8b, t9b, t10b, H3b, H9b, bx17, ax17, fx17, hr18] <;> rfl))
          · replace hh := ite_f hb16 hh
            cases hh
            try simp only [x_l35_VaultShape, seval, -Int.reduceToNat, hr1, hr2, q6a, q6b, q8a, q8b, q8c, q8d, q8e, hr9, t2b, t3b, t7b, t8b, t9b, t10b, H3b, H9b]
            rw [LK_exit]
            refine ⟨_, rfl, ?_⟩
            refine ⟨rfl, ⟨v3b, ?_, ?_, ?_, ?_, ?_⟩⟩
            all_goals (first | rfl | (simp only [x_l35_VaultShape, seval, -Int.reduceToNat, hr1, hr2, q6a, q6b, q8a, q8b, q8c, q8d, q8e, hr9, t2b, t3b, t7b, t8b, t9b, t10b, H3b, H9b] <;> rfl))
        · rintro x t H e hx
          rcases o15 with _ | rb
          ·
            dsimp only at hx hh
            obtain ⟨rfl, ⟨v3bx, t2bx, t3bx, t7bx, t8bx, H3bx⟩⟩ := hx
            obtain ⟨x20, hx20, hh⟩ := bindS hh
            obtain ⟨q21a, q21b, q21c⟩ := app_nil hx20
            subst q21a
            obtain ⟨x22, hx22, hh⟩ := bindS hh
            have bx22 := idx_bd hx22
            have ax22 := idx_enc eTThing hx22
            have fx22 := idx_fit eTThing hx22
            simp only [vmz] at ax22 fx22
            skip
            have bx22 := idx_bd hx22
            have ax22 := idx_enc eTThing hx22
            have fx22 := idx_fit eTThing hx22
            simp only [vmz] at ax22 fx22
            skip
            have aq23 := idx_encF eTThing 1 hx22
            have fq23 := idx_fitF eTThing 1 1 (Nat.le_of_ble_eq_true rfl) hx22
            simp only [vmz] at aq23 fq23
            skip
            have p24 := put_enc eTThing (x' := (TThing.mk x22.f_Text (IntKind.i64.wrap (x22.f_Value + (IntKind.i64.wrap p2))) x22.f_Blind x22.f_Left x22.f_Right)) (fo := 1) (cs := [.int .i64 (IntKind.i64.wrap (x22.f_Value + (IntKind.i64.wrap p2)))]) hx22 rfl (Nat.le_of_ble_eq_true rfl)
            simp only [vmz, Nat.add_zero] at p24
            have up24 := p24
            simp only [putCells, List.length_cons, List.length_nil, Nat.zero_add, Nat.reduceAdd] at up24
            try simp only [x_l35_VaultShape, seval, -Int.reduceToNat, hr1, hr2, q6a, q6b, q8a, q8b, q8c, q8e, hr9, t2bx, t3bx, t7bx, t8bx, H3bx, q21b, q21c, bx22, ax22, fx22, bx22, ax22, fx22, aq23, fq23, p24, up24]
            refine dyn_ok (by kernel_rfl) ?_
            have bx22 := idx_bd hx22
            have ax22 := idx_enc eTThing hx22
            have fx22 := idx_fit eTThing hx22
            simp only [vmz] at ax22 fx22
            skip
            obtain ⟨r25, hr25, hh⟩ := bindS hh
            try simp only [x_l35_VaultShape, seval, -Int.reduceToNat, hr1, hr2, q6a, q6b, q8a, q8b, q8c, q8e, hr9, t2bx, t3bx, t7bx, t8bx, H3bx, q21b, q21c, bx22, ax22, fx22, bx22, ax22, fx22, aq23, fq23, p24, up24, bx22, ax22, fx22, hr25]
            obtain ⟨o30, ho30, hh⟩ := bindS hh
            refine runLoop_sim (fun s t H e => match s with | (s13c, s14c) => ∃ v3c : Nat, ∃ v12c : Nat, ∃ v68c : Nat, t 2 = .int .i16 p2 ∧ t 3 = .ptr 3 v3c 0 ∧ t 7 = .bool r1 ∧ t 8 = .int .i64 x5 ∧ t 12 = .ptr 12 v12c 0 ∧ t 13 = .bool s13c ∧ t 14 = .int .i64 s14c ∧ H 3 = some ⟨v3c, 24, [.sl false false p0.f_Things.length (encL eTThing p0.f_Things)], false, false⟩ ∧ H 12 = some ⟨v12c, 24, [.ali 68 v68c 5 0 (p0.f_Things).length], true, false⟩ ∧ H 68 = some ⟨v68c, 30, encL eTThing (p0.f_Things.set (x5).toNat (TThing.mk x22.f_Text (IntKind.i64.wrap (x22.f_Value + (IntKind.i64.wrap p2))) x22.f_Blind x22.f_Left x22.f_Right)), false, true⟩) (fun o x t H e => match o with | s13cx => x = .exit 2 ∧ ∃ v12cx : Nat, ∃ v68cx : Nat, t 2 = .int .i16 p2 ∧ t 7 = .bool r1 ∧ t 8 = .int .i64 x5 ∧ t 12 = .ptr 12 v12cx 0 ∧ t 13 = .bool s13cx ∧ H 12 = some ⟨v12cx, 24, [.ali 68 v68cx 5 0 (p0.f_Things).length], true, false⟩ ∧ H 68 = some ⟨v68cx, 30, encL eTThing (p0.f_Things.set (x5).toNat (TThing.mk x22.f_Text (IntKind.i64.wrap (x22.f_Value + (IntKind.i64.wrap p2))) x22.f_Blind x22.f_Left x22.f_Right)), false, true⟩) ho30 ?_ ?_ ?_
            ·
              refine ⟨v3bx, e, e, ?_, ?_, ?_, ?_, ?_, ?_, ?_, ?_, ?_, ?_⟩
              all_goals (first | rfl | (simp only [x_l35_VaultShape, seval, -Int.reduceToNat, hr1, hr2, q6a, q6b, q8a, q8b, q8c, q8e, hr9, t2bx, t3bx, t7bx, t8bx, H3bx, q21b, q21c, bx22, ax22, fx22, bx22, ax22, fx22, aq23, fq23, p24, up24, bx22, ax22, fx22, hr25] <;> rfl))
            · rintro ⟨s13c, s14c⟩ t H e ⟨v3c, v12c, v68c, t2c, t3c, t7c, t8c, t12c, t13c, t14c, H3c, H12c, H68c⟩ c hh
              simp only [l35_VaultShape_L3] at hh
              try simp only [x_l35_VaultShape, seval, -Int.reduceToNat, hr1, hr2, q6a, q6b, q8a, q8b, q8c, q8e, hr9, q21b, q21c, bx22, ax22, fx22, bx22, ax22, fx22, aq23, fq23, p24, up24, bx22, ax22, fx22, hr25, t2c, t3c, t7c, t8c, t12c, t13c, t14c, H3c, H12c, H68c]
              refine tstC_br (fun hb31 => ?_) (fun hb31 => ?_)
              · replace hh := ite_t hb31 hh
                try simp only [x_l35_VaultShape, seval, -Int.reduceToNat, hr1, hr2, q6a, q6b, q8a, q8b, q8c, q8e, hr9, q21b, q21c, bx22, ax22, fx22, bx22, ax22, fx22, aq23, fq23, p24, up24, bx22, ax22, fx22, hr25, t2c, t3c, t7c, t8c, t12c, t13c, t14c, H3c, H12c, H68c]
                refine tstO_br' (fun hb32 => ?_) (fun hb32 => ?_)
                · replace hh := ite_t hb32 hh
                  cases hh
                  try simp only [x_l35_VaultShape, seval, -Int.reduceToNat, hr1, hr2, q6a, q6b, q8a, q8b, q8c, q8e, hr9, q21b, q21c, bx22, ax22, fx22, bx22, ax22, fx22, aq23, fq23, p24, up24, bx22, ax22, fx22, hr25, t2c, t3c, t7c, t8c, t12c, t13c, t14c, H3c, H12c, H68c]
                  rw [LK_normal]
                  refine ⟨_, rfl, ?_⟩
                  refine ⟨v3c, v12c, v68c, ?_, ?_, ?_, ?_, ?_, ?_, ?_, ?_, ?_, ?_⟩
                  all_goals (first | rfl | (simp only [x_l35_VaultShape, seval, -Int.reduceToNat, hr1, hr2, q6a, q6b, q8a, q8b, q8c, q8e, hr9, q21b, q21c, bx22, ax22, fx22, bx22, ax22, fx22, aq23, fq23, p24, up24, bx22, ax22, fx22, hr25, t2c, t3c, t7c, t8c, t12c, t13c, t14c, H3c, H12c, H68c] <;> rfl))
                · replace hh := ite_f hb32 hh
                  obtain ⟨x33, hx33, hh⟩ := bindS hh
                  have bx33 := idx_bd hx33
                  have ax33 := idx_enc eTThing hx33
                  have fx33 := idx_fit eTThing hx33
                  simp only [vmz] at ax33 fx33
                  skip
                  try simp only [x_l35_VaultShape, seval, -Int.reduceToNat, hr1, hr2, q6a, q6b, q8a, q8b, q8c, q8e, hr9, q21b, q21c, bx22, ax22, fx22, bx22, ax22, fx22, aq23, fq23, p24, up24, bx22, ax22, fx22, hr25, t2c, t3c, t7c, t8c, t12c, t13c, t14c, H3c, H12c, H68c, bx33, ax33, fx33]
                  refine tstO_br' (fun hb34 => ?_) (fun hb34 => ?_)
                  · replace hh := ite_t hb34 hh
                    cases hh
                    try simp only [x_l35_VaultShape, seval, -Int.reduceToNat, hr1, hr2, q6a, q6b, q8a, q8b, q8c, q8e, hr9, q21b, q21c, bx22, ax22, fx22, bx22, ax22, fx22, aq23, fq23, p24, up24, bx22, ax22, fx22, hr25, t2c, t3c, t7c, t8c, t12c, t13c, t14c, H3c, H12c, H68c, bx33, ax33, fx33]
                    rw [LK_normal]
                    refine ⟨_, rfl, ?_⟩
                    refine ⟨v3c, v12c, v68c, ?_, ?_, ?_, ?_, ?_, ?_, ?_, ?_, ?_, ?_⟩
                    all_goals (first | rfl | (simp only [x_l35_VaultShape, seval, -Int.reduceToNat, hr1, hr2, q6a, q6b, q8a, q8b, q8c, q8e, hr9, q21b, q21c, bx22, ax22, fx22, bx22, ax22, fx22, aq23, fq23, p24, up24, bx22, ax22, fx22, hr25, t2c, t3c, t7c, t8c, t12c, t13c, t14c, H3c, H12c, H68c, bx33, ax33, fx33] <;> rfl))
                  · replace hh := ite_f hb34 hh
                    have bx33 := idx_bd hx33
                    have ax33 := idx_enc eTThing hx33
                    have fx33 := idx_fit eTThing hx33
                    simp only [vmz] at ax33 fx33
                    skip
                    cases hh
                    try simp only [x_l35_VaultShape, seval, -Int.reduceToNat, hr1, hr2, q6a, q6b, q8a, q8b, q8c, q8e, hr9, q21b, q21c, bx22, ax22, fx22, bx22, ax22, fx22, aq23, fq23, p24, up24, bx22, ax22, fx22, hr25, t2c, t3c, t7c, t8c, t12c, t13c, t14c, H3c, H12c, H68c, bx33, ax33, fx33, bx33, ax33, fx33]
                    rw [LK_normal]
                    refine ⟨_, rfl, ?_⟩
                    refine ⟨v3c, v12c, v68c, ?_, ?_, ?_, ?_, ?_, ?_, ?_, ?_, ?_, ?_⟩
                    all_goals (first | rfl | (simp only [x_l35_VaultShape, seval, -Int.reduceToNat, hr1, hr2, q6a, q6b, q8a, q8b, q8c, q8e, hr9, q21b, q21c, bx22, ax22, fx22, bx22, ax22, fx22, aq23, fq23, p24, up24, bx22, ax22, fx22, hr25, t2c, t3c, t7c, t8c, t12c, t13c, t14c, H3c, H12c, H68c, bx33, ax33, fx33, bx33, ax33, fx33] <;> rfl))
              · replace hh := ite_f hb31 hh
                cases hh
                try simp only [x_l35_VaultShape, seval, -Int.reduceToNat, hr1, hr2, q6a, q6b, q8a, q8b, q8c, q8e, hr9, q21b, q21c, bx22, ax22, fx22, bx22, ax22, fx22, aq23, fq23, p24, up24, bx22, ax22, fx22, hr25, t2c, t3c, t7c, t8c, t12c, t13c, t14c, H3c, H12c, H68c]
                rw [LK_exit]
                refine ⟨_, rfl, ?_⟩
                refine ⟨rfl, ⟨v12c, v68c, ?_, ?_, ?_, ?_, ?_, ?_, ?_⟩⟩
                all_goals (first | rfl | (simp only [x_l35_VaultShape, seval, -Int.reduceToNat, hr1, hr2, q6a, q6b, q8a, q8b, q8c, q8e, hr9, q21b, q21c, bx22, ax22, fx22, bx22, ax22, fx22, aq23, fq23, p24, up24, bx22, ax22, fx22, hr25, t2c, t3c, t7c, t8c, t12c, t13c, t14c, H3c, H12c, H68c] <;> rfl))
            · rintro x t H e hx
              obtain ⟨s13cx, rfl⟩ : ∃ z, z = o30 := ⟨_, rfl⟩
              dsimp only at hx hh
              obtain ⟨rfl, ⟨v12cx, v68cx, t2cx, t7cx, t8cx, t12cx, t13cx, H12cx, H68cx⟩⟩ := hx
              try simp only [x_l35_VaultShape, seval, -Int.reduceToNat, hr1, hr2, q6a, q6b, q8a, q8b, q8c, q8e, hr9, q21b, q21c, bx22, ax22, fx22, bx22, ax22, fx22, aq23, fq23, p24, up24, bx22, ax22, fx22, hr25, t2cx, t7cx, t8cx, t12cx, t13cx, H12cx, H68cx]
              refine tstO_br (fun hb35 => ?_) (fun hb35 => ?_)
              · replace hh := ite_t hb35 hh
                try simp only [x_l35_VaultShape, seval, -Int.reduceToNat, hr1, hr2, q6a, q6b, q8a, q8b, q8c, q8e, hr9, q21b, q21c, bx22, ax22, fx22, bx22, ax22, fx22, aq23, fq23, p24, up24, bx22, ax22, fx22, hr25, t2cx, t7cx, t8cx, t12cx, t13cx, H12cx, H68cx]
                refine tstO_br' (fun hb36 => ?_) (fun hb36 => ?_)
                · replace hh := ite_t hb36 hh
                  cases hh
                  try simp only [x_l35_VaultShape, seval, -Int.reduceToNat, hr1, hr2, q6a, q6b, q8a, q8b, q8c, q8e, hr9, q21b, q21c, bx22, ax22, fx22, bx22, ax22, fx22, aq23, fq23, p24, up24, bx22, ax22, fx22, hr25, t2cx, t7cx, t8cx, t12cx, t13cx, H12cx, H68cx]
                · replace hh := ite_f hb36 hh
                  try simp only [x_l35_VaultShape, seval, -Int.reduceToNat, hr1, hr2, q6a, q6b, q8a, q8b, q8c, q8e, hr9, q21b, q21c, bx22, ax22, fx22, bx22, ax22, fx22, aq23, fq23, p24, up24, bx22, ax22, fx22, hr25, t2cx, t7cx, t8cx, t12cx, t13cx, H12cx, H68cx]
                  refine tstO_br' (fun hb37 => ?_) (fun hb37 => ?_)
                  · replace hh := ite_t hb37 hh
                    cases hh
                    try simp only [x_l35_VaultShape, seval, -Int.reduceToNat, hr1, hr2, q6a, q6b, q8a, q8b, q8c, q8e, hr9, q21b, q21c, bx22, ax22, fx22, bx22, ax22, fx22, aq23, fq23, p24, up24, bx22, ax22, fx22, hr25, t2cx, t7cx, t8cx, t12cx, t13cx, H12cx, H68cx]
                  · replace hh := ite_f hb37 hh
                    have i38 := q_vault_Sound (p0.f_Things.set (x5).toNat (TThing.mk x22.f_Text (IntKind.i64.wrap (x22.f_Value + (IntKind.i64.wrap p2))) x22.f_Blind x22.f_Left x22.f_Right))
                    simp only [encL_cons, vmz, List.length_cons, List.length_nil, Nat.zero_add, Nat.reduceAdd, List.length_set] at i38
                    obtain ⟨r39, hr39, hh⟩ := bindS hh
                    try simp only [x_l35_VaultShape, seval, -Int.reduceToNat, hr1, hr2, q6a, q6b, q8a, q8b, q8c, q8e, hr9, q21b, q21c, bx22, ax22, fx22, bx22, ax22, fx22, aq23, fq23, p24, up24, bx22, ax22, fx22, hr25, t2cx, t7cx, t8cx, t12cx, t13cx, H12cx, H68cx, i38, hr39]
                    refine tstO_br (fun hb40 => ?_) (fun hb40 => ?_)
                    · replace hh := ite_t hb40 hh
                      have i41 := q_vault_Opens (p0.f_Things.set (x5).toNat (TThing.mk x22.f_Text (IntKind.i64.wrap (x22.f_Value + (IntKind.i64.wrap p2))) x22.f_Blind x22.f_Left x22.f_Right)) x5 (ByteArray.mk #[]) 0 0
                      simp only [encL_cons, vmz, List.length_cons, List.length_nil, Nat.zero_add, Nat.reduceAdd, List.length_set] at i41
                      obtain ⟨r42, hr42, hh⟩ := bindS hh
                      cases hh
                      try simp only [x_l35_VaultShape, seval, -Int.reduceToNat, hr1, hr2, q6a, q6b, q8a, q8b, q8c, q8e, hr9, q21b, q21c, bx22, ax22, fx22, bx22, ax22, fx22, aq23, fq23, p24, up24, bx22, ax22, fx22, hr25, t2cx, t7cx, t8cx, t12cx, t13cx, H12cx, H68cx, i38, hr39, i41, hr42]
                    · replace hh := ite_f hb40 hh
                      cases hh
                      try simp only [x_l35_VaultShape, seval, -Int.reduceToNat, hr1, hr2, q6a, q6b, q8a, q8b, q8c, q8e, hr9, q21b, q21c, bx22, ax22, fx22, bx22, ax22, fx22, aq23, fq23, p24, up24, bx22, ax22, fx22, hr25, t2cx, t7cx, t8cx, t12cx, t13cx, H12cx, H68cx, i38, hr39]
              · replace hh := ite_f hb35 hh
                cases hh
                try simp only [x_l35_VaultShape, seval, -Int.reduceToNat, hr1, hr2, q6a, q6b, q8a, q8b, q8c, q8e, hr9, q21b, q21c, bx22, ax22, fx22, bx22, ax22, fx22, aq23, fq23, p24, up24, bx22, ax22, fx22, hr25, t2cx, t7cx, t8cx, t12cx, t13cx, H12cx, H68cx]
          ·
            dsimp only at hx hh
            obtain ⟨rfl, hE⟩ := hx
            cases hh
            try simp only [runW_pass_ret, runW_pass_exit, runW_blk_ret, runW_nil, endW_ret]
            exact hE
  ·
    clear hh
    have hh := ho3
    try simp only [x_l35_VaultShape, seval, -Int.reduceToNat, hr1, hr2]
    refine tstO_br' (fun hb43 => ?_) (fun hb43 => ?_)
    · replace hh := ite_t hb43 hh
      cases hh
      try simp only [x_l35_VaultShape, seval, -Int.reduceToNat, hr1, hr2]
      rw [CK_normal]
      refine ⟨_, rfl, ?_⟩
      refine ⟨0, ?_, ?_, ?_, ?_, ?_, ?_⟩
      all_goals (first | rfl | (simp only [x_l35_VaultShape, seval, -Int.reduceToNat, hr1, hr2] <;> rfl))
    · replace hh := ite_f hb43 hh
      try simp only [x_l35_VaultShape, seval, -Int.reduceToNat, hr1, hr2]
      refine tstO_br' (fun hb44 => ?_) (fun hb44 => ?_)
      · replace hh := ite_t hb44 hh
        cases hh
        try simp only [x_l35_VaultShape, seval, -Int.reduceToNat, hr1, hr2]
        rw [CK_normal]
        refine ⟨_, rfl, ?_⟩
        refine ⟨0, ?_, ?_, ?_, ?_, ?_, ?_⟩
        all_goals (first | rfl | (simp only [x_l35_VaultShape, seval, -Int.reduceToNat, hr1, hr2] <;> rfl))
      · replace hh := ite_f hb44 hh
        obtain ⟨r45, hr45, hh⟩ := bindS hh
        cases hh
        try simp only [x_l35_VaultShape, seval, -Int.reduceToNat, hr1, hr2, hr45]
        rw [CK_normal]
        refine ⟨_, rfl, ?_⟩
        refine ⟨0, ?_, ?_, ?_, ?_, ?_, ?_⟩
        all_goals (first | rfl | (simp only [x_l35_VaultShape, seval, -Int.reduceToNat, hr1, hr2, hr45] <;> rfl))

theorem ok_l35_VaultShape : COk Try.prog 3 G_l35_VaultShape := COk.of (mode := .clean) tok ge_l35_VaultShape mixed Try.func3 (by kernel_rfl) ⟨by kernel_rfl, by kernel_rfl⟩ (fun _ => Nat.le_of_ble_eq_true (by kernel_rfl)) (fun x r h => m_l35_VaultShape x.1 x.2.1 x.2.2 r h)
end Go.Proofs.Ytlkceebfckkomaa.Am
