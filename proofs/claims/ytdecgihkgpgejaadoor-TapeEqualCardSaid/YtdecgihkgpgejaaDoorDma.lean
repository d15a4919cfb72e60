/- The machine computes the plain functions (written by wip/dec.py). -/
import Derived.Test.YtdecgihkgpgejaaDoorTab2
import Derived.Test.YtdecgihkgpgejaaDoorCi
import Derived.Test.YtdecgihkgpgejaaDoorDp
import Derived.Test.YtdecgihkgpgejaaDoorSd
import Derived.Test.YtdecgihkgpgejaaDoorSi
import Derived.Test.YtdecgihkgpgejaaDoorSw
namespace Go.Proofs.YtdecgihkgpgejaaDoor.Am
open Go.RowKit Go.Proofs.YtdecgihkgpgejaaDoor.P
set_option maxRecDepth 100000
set_option maxHeartbeats 4000000
set_option linter.unusedSimpArgs false
set_option linter.unusedVariables false

theorem vmt : type_of% (And.intro @tab_2 <| And.intro @tab_3 <| And.intro @tab_4 <| And.intro @tab_5 <| And.intro @tab_9 <| And.intro @tab_12 <| And.intro @tab_21 <| And.intro @tab_22 <| And.intro @tab_23 <| And.intro @tab_24 <| And.intro @tab_25 <| And.intro @tab_26 <| And.intro @tab_31 <| And.intro @tab_46 <| And.intro @tab_49 <| And.intro @tab_51 <| And.intro @tab_52 <| And.intro @tab_77 <| And.intro @tab_88 <| And.intro @tab_91 <| And.intro @tab_99 <| And.intro @tab_101 <| And.intro @tab_105 <| And.intro @tab_111 <| And.intro @tab_120 <| And.intro @tab_121 <| And.intro @tab_122 <| @tab_123) := And.intro @tab_2 <| And.intro @tab_3 <| And.intro @tab_4 <| And.intro @tab_5 <| And.intro @tab_9 <| And.intro @tab_12 <| And.intro @tab_21 <| And.intro @tab_22 <| And.intro @tab_23 <| And.intro @tab_24 <| And.intro @tab_25 <| And.intro @tab_26 <| And.intro @tab_31 <| And.intro @tab_46 <| And.intro @tab_49 <| And.intro @tab_51 <| And.intro @tab_52 <| And.intro @tab_77 <| And.intro @tab_88 <| And.intro @tab_91 <| And.intro @tab_99 <| And.intro @tab_101 <| And.intro @tab_105 <| And.intro @tab_111 <| And.intro @tab_120 <| And.intro @tab_121 <| And.intro @tab_122 <| @tab_123

def eTThing : Enc TThing := eVia (ePair eStr (ePair (eI .i64) (ePair (eI .i64) (ePair (eI .i64) (eI .i64))))) (fun x => (x.f_Text, x.f_Value, x.f_Blind, x.f_Left, x.f_Right)) (by rintro ⟨⟩ ⟨⟩ h; simpa using h)

theorem eTThing_cells (x : TThing) : eTThing.cells x = [.str x.f_Text, .int .i64 x.f_Value, .int .i64 x.f_Blind, .int .i64 x.f_Left, .int .i64 x.f_Right] := Eq.trans rfl rfl

theorem eTThing_size : eTThing.size = 5 := Eq.trans rfl rfl

theorem eta_TThing (x : TThing) : TThing.mk x.f_Text x.f_Value x.f_Blind x.f_Left x.f_Right = x := Eq.trans rfl rfl

def eTVault : Enc TVault := eVia (eSl eTThing) (fun x => (x.f_Things)) (by rintro ⟨⟩ ⟨⟩ h; simpa using h)

theorem eTVault_cells (x : TVault) : eTVault.cells x = [.sl false false x.f_Things.length (encL eTThing x.f_Things)] := Eq.trans rfl rfl

theorem eTVault_size : eTVault.size = 1 := Eq.trans rfl rfl

theorem eta_TVault (x : TVault) : TVault.mk x.f_Things = x := Eq.trans rfl rfl

theorem lenE0 {l : List _} : (encL (eI .i64) l).length = l.length * 1 := encL_len _ l

theorem takeE0 {l : List _} : (encL (eI .i64) l).take (l.length * 1) = encL (eI .i64) l := by
  have := encL_take (eI .i64) l l.length
  rw [List.take_length] at this
  exact this

theorem takeS0 {l : List _} {i : Nat} {x : _} : (encL (eI .i64) (l.set i x)).take (l.length * 1) = encL (eI .i64) (l.set i x) := by
  have := @takeE0 (l.set i x)
  rwa [List.length_set] at this

theorem lenE1 {l : List _} : (encL (eI .u16) l).length = l.length * 1 := encL_len _ l

theorem takeE1 {l : List _} : (encL (eI .u16) l).take (l.length * 1) = encL (eI .u16) l := by
  have := encL_take (eI .u16) l l.length
  rw [List.take_length] at this
  exact this

theorem takeS1 {l : List _} {i : Nat} {x : _} : (encL (eI .u16) (l.set i x)).take (l.length * 1) = encL (eI .u16) (l.set i x) := by
  have := @takeE1 (l.set i x)
  rwa [List.length_set] at this

theorem lenE2 {l : List _} : (encL (eSl (eI .i64)) l).length = l.length * 1 := encL_len _ l

theorem takeE2 {l : List _} : (encL (eSl (eI .i64)) l).take (l.length * 1) = encL (eSl (eI .i64)) l := by
  have := encL_take (eSl (eI .i64)) l l.length
  rw [List.take_length] at this
  exact this

theorem takeS2 {l : List _} {i : Nat} {x : _} : (encL (eSl (eI .i64)) (l.set i x)).take (l.length * 1) = encL (eSl (eI .i64)) (l.set i x) := by
  have := @takeE2 (l.set i x)
  rwa [List.length_set] at this

theorem lenE3 {l : List _} : (encL eTThing l).length = l.length * 5 := encL_len _ l

theorem takeE3 {l : List _} : (encL eTThing l).take (l.length * 5) = encL eTThing l := by
  have := encL_take eTThing l l.length
  rw [List.take_length] at this
  exact this

theorem takeS3 {l : List _} {i : Nat} {x : _} : (encL eTThing (l.set i x)).take (l.length * 5) = encL eTThing (l.set i x) := by
  have := @takeE3 (l.set i x)
  rwa [List.length_set] at this

theorem vme : type_of% (And.intro @eI_cells <| And.intro @eBool_cells <| And.intro @eStr_cells <| And.intro @eSl_cells <| And.intro @eI_size <| And.intro @eBool_size <| And.intro @eStr_size <| And.intro @eSl_size <| And.intro @encL_nil <| And.intro @eTThing_cells <| And.intro @eTThing_size <| And.intro @eTVault_cells <| @eTVault_size) := And.intro @eI_cells <| And.intro @eBool_cells <| And.intro @eStr_cells <| And.intro @eSl_cells <| And.intro @eI_size <| And.intro @eBool_size <| And.intro @eStr_size <| And.intro @eSl_size <| And.intro @encL_nil <| And.intro @eTThing_cells <| And.intro @eTThing_size <| And.intro @eTVault_cells <| @eTVault_size

theorem vml : type_of% (And.intro @encL_cons <| And.intro @eta_TThing <| And.intro @eta_TVault <| And.intro @lenE0 <| And.intro @takeE0 <| And.intro @takeS0 <| And.intro @lenE1 <| And.intro @takeE1 <| And.intro @takeS1 <| And.intro @lenE2 <| And.intro @takeE2 <| And.intro @takeS2 <| And.intro @lenE3 <| And.intro @takeE3 <| @takeS3) := And.intro @encL_cons <| And.intro @eta_TThing <| And.intro @eta_TVault <| And.intro @lenE0 <| And.intro @takeE0 <| And.intro @takeS0 <| And.intro @lenE1 <| And.intro @takeE1 <| And.intro @takeS1 <| And.intro @lenE2 <| And.intro @takeE2 <| And.intro @takeS2 <| And.intro @lenE3 <| And.intro @takeE3 <| @takeS3

theorem w : type_of% (And.intro @v <| And.intro @vmt <| And.intro @vme <| And.intro @vml <| @vi) := And.intro @v <| And.intro @vmt <| And.intro @vme <| And.intro @vml <| @vi

theorem vmz : type_of% (And.intro @vme <| And.intro @List.cons_append.{0} <| And.intro @List.nil_append.{0} <| And.intro @List.length_nil.{0} <| And.intro @List.drop_succ_cons.{0} <| @List.drop_zero.{0}) := And.intro @vme <| And.intro @List.cons_append.{0} <| And.intro @List.nil_append.{0} <| And.intro @List.length_nil.{0} <| And.intro @List.drop_succ_cons.{0} <| @List.drop_zero.{0}

theorem m_slices_Clone_0 (r : (List Int)) (hh : slices_Clone [] = some r) : vfunc (.fresh 3 1) tab noEnv FU Tryd.f38 none [.sl true true 0 []] = some (.fresh 3 1 r.length (encL (eI .i64) r), none) := by
  unfold slices_Clone at hh
  obtain ⟨qa, qb, qc⟩ := app_nil hh
  subst qa
  refine vfunc_of rfl Tryd.ntmps38 Tryd.results38 ?_
  simp only [w, seval, -Int.reduceToNat, Nat.lt_irrefl]

theorem m_slices_Clone_1 (r : (List Int)) (hh : slices_Clone [] = some r) : vfunc (.fresh 3 1) tab noEnv FU Tryd.f38 none [.sl true false 0 []] = some (.fresh 3 1 r.length (encL (eI .i64) r), none) := by
  unfold slices_Clone at hh
  obtain ⟨qa, qb, qc⟩ := app_nil hh
  subst qa
  refine vfunc_of rfl Tryd.ntmps38 Tryd.results38 ?_
  simp only [w, seval, -Int.reduceToNat, Nat.lt_irrefl]

theorem m_slices_Clone_2 (p0 r : (List Int)) (hp : 0 < p0.length) (hh : slices_Clone p0 = some r) : vfunc (.fresh 3 1) tab noEnv FU Tryd.f38 none [.sl false false p0.length (encL (eI .i64) p0)] = some (.fresh 3 1 r.length (encL (eI .i64) r), none) := by
  unfold slices_Clone at hh
  have hz : ¬ p0.length = 0 := by omega
  obtain ⟨qa, qb, qc⟩ := app_nil hh
  subst qa
  refine vfunc_of rfl Tryd.ntmps38 Tryd.results38 ?_
  simp only [w, seval, -Int.reduceToNat, hp, hz, qb, qc]

noncomputable def G_slices_Clone := mkG (as1 (aSl (eI .i64))) (fun x : (List Int) => slices_Clone x) (fun r : (List Int) => .fresh 3 1 r.length (encL (eI .i64) r))

theorem q_slices_Clone (p0 : (List Int)) : G_slices_Clone none [.sl false false p0.length (encL (eI .i64) p0)] = (slices_Clone p0).map fun r : (List Int) => (.fresh 3 1 r.length (encL (eI .i64) r), none) := mkG_eq _ _ _ p0

theorem ok_slices_Clone : COk Tryd.prog 38 G_slices_Clone := COk.list3 (mode := (.fresh 3 1)) tok GOk.none mixed Tryd.func38 (by kernel_rfl) ⟨by kernel_rfl, by kernel_rfl⟩ (Nat.le_of_ble_eq_true (by kernel_rfl)) m_slices_Clone_0 m_slices_Clone_1 m_slices_Clone_2

theorem m_slices_Clone_58_0 (r : (List TThing)) (hh : slices_Clone_58 [] = some r) : vfunc (.fresh 52 5) tab noEnv FU Tryd.f58 none [.sl true true 0 []] = some (.fresh 52 5 r.length (encL eTThing r), none) := by
  unfold slices_Clone_58 at hh
  obtain ⟨qa, qb, qc⟩ := app_nil hh
  subst qa
  refine vfunc_of rfl Tryd.ntmps58 Tryd.results58 ?_
  simp only [w, seval, -Int.reduceToNat, Nat.lt_irrefl]

theorem m_slices_Clone_58_1 (r : (List TThing)) (hh : slices_Clone_58 [] = some r) : vfunc (.fresh 52 5) tab noEnv FU Tryd.f58 none [.sl true false 0 []] = some (.fresh 52 5 r.length (encL eTThing r), none) := by
  unfold slices_Clone_58 at hh
  obtain ⟨qa, qb, qc⟩ := app_nil hh
  subst qa
  refine vfunc_of rfl Tryd.ntmps58 Tryd.results58 ?_
  simp only [w, seval, -Int.reduceToNat, Nat.lt_irrefl]

theorem m_slices_Clone_58_2 (p0 r : (List TThing)) (hp : 0 < p0.length) (hh : slices_Clone_58 p0 = some r) : vfunc (.fresh 52 5) tab noEnv FU Tryd.f58 none [.sl false false p0.length (encL eTThing p0)] = some (.fresh 52 5 r.length (encL eTThing r), none) := by
  unfold slices_Clone_58 at hh
  have hz : ¬ p0.length = 0 := by omega
  obtain ⟨qa, qb, qc⟩ := app_nil hh
  subst qa
  refine vfunc_of rfl Tryd.ntmps58 Tryd.results58 ?_
  simp only [w, seval, -Int.reduceToNat, hp, hz, qb, qc]

noncomputable def G_slices_Clone_58 := mkG (as1 (aSl eTThing)) (fun x : (List TThing) => slices_Clone_58 x) (fun r : (List TThing) => .fresh 52 5 r.length (encL eTThing r))

theorem q_slices_Clone_58 (p0 : (List TThing)) : G_slices_Clone_58 none [.sl false false p0.length (encL eTThing p0)] = (slices_Clone_58 p0).map fun r : (List TThing) => (.fresh 52 5 r.length (encL eTThing r), none) := mkG_eq _ _ _ p0

theorem ok_slices_Clone_58 : COk Tryd.prog 58 G_slices_Clone_58 := COk.list3 (mode := (.fresh 52 5)) tok GOk.none mixed Tryd.func58 (by kernel_rfl) ⟨by kernel_rfl, by kernel_rfl⟩ (Nat.le_of_ble_eq_true (by kernel_rfl)) m_slices_Clone_58_0 m_slices_Clone_58_1 m_slices_Clone_58_2

theorem m_slices_Clip (p0 r : (List TThing)) (hh : slices_Clip p0 = some r) : vfunc .tight tab noEnv FU Tryd.f57 none [.sl false false p0.length (encL eTThing p0)] = some (.clean (.sl false true r.length (encL eTThing r)), none) := by
  unfold slices_Clip at hh
  split at hh
  · cases hh
    refine vfunc_of rfl Tryd.ntmps57 Tryd.results57 ?_
    simp only [w, seval, -Int.reduceToNat, Int.toNat_natCast, Int.natCast_nonneg]
  · cases hh

noncomputable def G_slices_Clip := mkG (as1 (aSl eTThing)) (fun x : (List TThing) => slices_Clip x) (fun r : (List TThing) => .clean (.sl false true r.length (encL eTThing r)))

theorem q_slices_Clip (p0 : (List TThing)) : G_slices_Clip none [.sl false false p0.length (encL eTThing p0)] = (slices_Clip p0).map fun r : (List TThing) => (.clean (.sl false true r.length (encL eTThing r)), none) := mkG_eq _ _ _ p0

theorem ok_slices_Clip : COk Tryd.prog 57 G_slices_Clip := COk.of (mode := .tight) tok GOk.none mixed Tryd.func57 (by kernel_rfl) ⟨by kernel_rfl, by kernel_rfl⟩ (fun _ => Nat.le_of_ble_eq_true (by kernel_rfl)) (fun x r h => m_slices_Clip x r h)

noncomputable def G_vault_within := mkG (asC (aI .i64) (as1 (aI .i64))) (fun x : Int × Int => vault_within x.1 x.2) (fun r : Bool => .clean (.bool r))

theorem q_vault_within (p0 : Int) (p1 : Int) : G_vault_within none [.int .i64 p0, .int .i64 p1] = (vault_within p0 p1).map fun r : Bool => (.clean (.bool r), none) := mkG_eq _ _ _ (p0, p1)

theorem m_vault_within (p0 : Int) (p1 : Int) (r : Bool) (hh : vault_within p0 p1 = some r) : vfunc .clean tab noEnv FU Tryd.f46 none [.int .i64 p0, .int .i64 p1] = some (.clean (.bool r), none) := by
  refine vfunc_of rfl Tryd.ntmps46 Tryd.results46 ?_
  unfold vault_within at hh
  try simp only [w, seval, -Int.reduceToNat]
  refine tstO_br (fun hb1 => ?_) (fun hb1 => ?_)
  · replace hh := ite_t hb1 hh
    cases hh
    try simp only [w, seval, -Int.reduceToNat]
  · replace hh := ite_f hb1 hh
    cases hh
    try simp only [w, seval, -Int.reduceToNat]

theorem ok_vault_within : COk Tryd.prog 46 G_vault_within := COk.of (mode := .clean) tok GOk.none mixed Tryd.func46 (by kernel_rfl) ⟨by kernel_rfl, by kernel_rfl⟩ (fun _ => Nat.le_of_ble_eq_true (by kernel_rfl)) (fun x r h => m_vault_within x.1 x.2 r h)

noncomputable def G_vault_leaf := mkG (as1 (aAgg eTThing)) (fun x : TThing => vault_leaf x) (fun r : Bool => .clean (.bool r))

theorem q_vault_leaf (p0_0 : ByteArray) (p0_1 : Int) (p0_2 : Int) (p0_3 : Int) (p0_4 : Int) : G_vault_leaf none [.agg [.str p0_0, .int .i64 p0_1, .int .i64 p0_2, .int .i64 p0_3, .int .i64 p0_4]] = (vault_leaf (TThing.mk p0_0 p0_1 p0_2 p0_3 p0_4)).map fun r : Bool => (.clean (.bool r), none) := mkG_eq _ _ _ ((TThing.mk p0_0 p0_1 p0_2 p0_3 p0_4))

noncomputable def g_vault_leaf : Env := (Am.ext noEnv 46 false G_vault_within)

theorem ge_vault_leaf : GOk Tryd.prog g_vault_leaf := (GOk.none.add ok_vault_within false)

theorem gg_vault_leaf : g_vault_leaf = (Am.ext noEnv 46 false G_vault_within) := Eq.trans rfl rfl

theorem x_vault_leaf : type_of% (And.intro @w <| And.intro @q_vault_within <| @gg_vault_leaf) := And.intro @w <| And.intro @q_vault_within <| @gg_vault_leaf

theorem m_vault_leaf (p0 : TThing) (r : Bool) (hh : vault_leaf p0 = some r) : vfunc .clean tab g_vault_leaf FU Tryd.f41 none [.agg [.str p0.f_Text, .int .i64 p0.f_Value, .int .i64 p0.f_Blind, .int .i64 p0.f_Left, .int .i64 p0.f_Right]] = some (.clean (.bool r), none) := by
  refine vfunc_of rfl Tryd.ntmps41 Tryd.results41 ?_
  unfold vault_leaf at hh
  try simp only [x_vault_leaf, seval, -Int.reduceToNat]
  obtain ⟨o1, ho1, hh⟩ := bindS hh
  refine tstO_cut 0 (fun s t H e => match s with | s3j1 => ∃ v1j1 : Nat, t 1 = .ptr 1 v1j1 0 ∧ t 3 = .bool s3j1 ∧ H 1 = some ⟨v1j1, 52, [.str p0.f_Text, .int .i64 p0.f_Value, .int .i64 p0.f_Blind, .int .i64 p0.f_Left, .int .i64 p0.f_Right], false, false, false⟩) (fun s => s = o1) ?_ ?_
  · rintro s3j1 t H e ⟨v1j1, t1j1, t3j1, H1j1⟩ rfl
    try dsimp only at hh
    try simp only [x_vault_leaf, seval, -Int.reduceToNat, t1j1, t3j1, H1j1]
    refine tstO_br (fun hb2 => ?_) (fun hb2 => ?_)
    · replace hh := ite_t hb2 hh
      try simp only [x_vault_leaf, seval, -Int.reduceToNat, t1j1, t3j1, H1j1]
      refine tstO_br (fun hb3 => ?_) (fun hb3 => ?_)
      · replace hh := ite_t hb3 hh
        obtain ⟨r4, hr4, hh⟩ := bindS hh
        try simp only [x_vault_leaf, seval, -Int.reduceToNat, t1j1, t3j1, H1j1, hr4]
        refine tstO_br (fun hb5 => ?_) (fun hb5 => ?_)
        · replace hh := ite_t hb5 hh
          obtain ⟨r6, hr6, hh⟩ := bindS hh
          cases hh
          try simp only [x_vault_leaf, seval, -Int.reduceToNat, t1j1, t3j1, H1j1, hr4, hr6]
        · replace hh := ite_f hb5 hh
          cases hh
          try simp only [x_vault_leaf, seval, -Int.reduceToNat, t1j1, t3j1, H1j1, hr4]
      · replace hh := ite_f hb3 hh
        cases hh
        try simp only [x_vault_leaf, seval, -Int.reduceToNat, t1j1, t3j1, H1j1]
    · replace hh := ite_f hb2 hh
      cases hh
      try simp only [x_vault_leaf, seval, -Int.reduceToNat, t1j1, t3j1, H1j1]
  ·
    clear hh
    have hh := ho1
    try simp only [x_vault_leaf, seval, -Int.reduceToNat]
    refine tstO_br (fun hb7 => ?_) (fun hb7 => ?_)
    · replace hh := ite_t hb7 hh
      cases hh
      try simp only [x_vault_leaf, seval, -Int.reduceToNat]
      rw [CK_normal]
      refine ⟨_, rfl, ?_⟩
      refine ⟨0, ?_, ?_, ?_⟩
      all_goals (first | rfl | (simp only [x_vault_leaf, seval, -Int.reduceToNat] <;> rfl))
    · replace hh := ite_f hb7 hh
      cases hh
      try simp only [x_vault_leaf, seval, -Int.reduceToNat]
      rw [CK_normal]
      refine ⟨_, rfl, ?_⟩
      refine ⟨0, ?_, ?_, ?_⟩
      all_goals (first | rfl | (simp only [x_vault_leaf, seval, -Int.reduceToNat] <;> rfl))

theorem ok_vault_leaf : COk Tryd.prog 41 G_vault_leaf := COk.of (mode := .clean) tok ge_vault_leaf mixed Tryd.func41 (by kernel_rfl) ⟨by kernel_rfl, by kernel_rfl⟩ (fun _ => Nat.le_of_ble_eq_true (by kernel_rfl)) (fun x r h => m_vault_leaf x r h)

noncomputable def G_vault_pair := mkG (asC (aSl eTThing) (asC (aI .i64) (as1 (aI .i64)))) (fun x : (List TThing) × Int × Int => vault_pair x.1 x.2.1 x.2.2) (fun r : TThing × Int => .clean (.tup [.agg [.str r.1.f_Text, .int .i64 r.1.f_Value, .int .i64 r.1.f_Blind, .int .i64 r.1.f_Left, .int .i64 r.1.f_Right], .int .i64 r.2]))

theorem q_vault_pair (p0 : (List TThing)) (p1 : Int) (p2 : Int) : G_vault_pair none [.sl false false p0.length (encL eTThing p0), .int .i64 p1, .int .i64 p2] = (vault_pair p0 p1 p2).map fun r : TThing × Int => (.clean (.tup [.agg [.str r.1.f_Text, .int .i64 r.1.f_Value, .int .i64 r.1.f_Blind, .int .i64 r.1.f_Left, .int .i64 r.1.f_Right], .int .i64 r.2]), none) := mkG_eq _ _ _ (p0, p1, p2)

noncomputable def g_vault_pair : Env := (Am.ext noEnv 46 false G_vault_within)

theorem ge_vault_pair : GOk Tryd.prog g_vault_pair := (GOk.none.add ok_vault_within false)

theorem gg_vault_pair : g_vault_pair = (Am.ext noEnv 46 false G_vault_within) := Eq.trans rfl rfl

theorem x_vault_pair : type_of% (And.intro @w <| And.intro @q_vault_within <| @gg_vault_pair) := And.intro @w <| And.intro @q_vault_within <| @gg_vault_pair

theorem m_vault_pair (p0 : (List TThing)) (p1 : Int) (p2 : Int) (r : TThing × Int) (hh : vault_pair p0 p1 p2 = some r) : vfunc .clean tab g_vault_pair FU Tryd.f56 none [.sl false false p0.length (encL eTThing p0), .int .i64 p1, .int .i64 p2] = some (.clean (.tup [.agg [.str r.1.f_Text, .int .i64 r.1.f_Value, .int .i64 r.1.f_Blind, .int .i64 r.1.f_Left, .int .i64 r.1.f_Right], .int .i64 r.2]), none) := by
  refine vfunc_of rfl Tryd.ntmps56 Tryd.results56 ?_
  unfold vault_pair at hh
  obtain ⟨r1, hr1, hh⟩ := bindS hh
  try simp only [x_vault_pair, seval, -Int.reduceToNat, hr1]
  obtain ⟨o2, ho2, hh⟩ := bindS hh
  refine tstO_cut 0 (fun s t H e => match s with | s24j1 => ∃ v6j1 : Nat, t 0 = .sl false false p0.length (encL eTThing p0) ∧ t 1 = .int .i64 p1 ∧ t 2 = .int .i64 p2 ∧ t 6 = .ptr 6 v6j1 0 ∧ t 24 = .bool s24j1 ∧ H 6 = some ⟨v6j1, 52, [.str (ByteArray.mk #[]), .int .i64 0, .int .i64 0, .int .i64 0, .int .i64 0], false, false, false⟩) (fun s => s = o2) ?_ ?_
  · rintro s24j1 t H e ⟨v6j1, t0j1, t1j1, t2j1, t6j1, t24j1, H6j1⟩ rfl
    try dsimp only at hh
    try simp only [x_vault_pair, seval, -Int.reduceToNat, hr1, t0j1, t1j1, t2j1, t6j1, t24j1, H6j1]
    refine tstC_br (fun hb3 => ?_) (fun hb3 => ?_)
    · replace hh := ite_t hb3 hh
      cases hh
      try simp only [x_vault_pair, seval, -Int.reduceToNat, hr1, t0j1, t1j1, t2j1, t6j1, t24j1, H6j1]
    · replace hh := ite_f hb3 hh
      obtain ⟨x4, hx4, hh⟩ := bindS hh
      have bx4 := idx_bd hx4
      have ax4 := idx_enc eTThing hx4
      have fx4 := idx_fit eTThing hx4
      simp only [vmz] at ax4 fx4
      skip
      obtain ⟨x5, hx5, hh⟩ := bindS hh
      have bx5 := idx_bd hx5
      have ax5 := idx_enc eTThing hx5
      have fx5 := idx_fit eTThing hx5
      simp only [vmz] at ax5 fx5
      skip
      try simp only [x_vault_pair, seval, -Int.reduceToNat, hr1, t0j1, t1j1, t2j1, t6j1, t24j1, H6j1, bx4, ax4, fx4, bx5, ax5, fx5]
      refine dyn_ok (by kernel_rfl) ?_
      try simp only [x_vault_pair, seval, -Int.reduceToNat, hr1, t0j1, t1j1, t2j1, t6j1, t24j1, H6j1, bx4, ax4, fx4, bx5, ax5, fx5]
      refine tstO_br' (fun hb6 => ?_) (fun hb6 => ?_)
      · replace hh := ite_t hb6 hh
        cases hh
        try simp only [x_vault_pair, seval, -Int.reduceToNat, hr1, t0j1, t1j1, t2j1, t6j1, t24j1, H6j1, bx4, ax4, fx4, bx5, ax5, fx5]
      · replace hh := ite_f hb6 hh
        try simp only [x_vault_pair, seval, -Int.reduceToNat, hr1, t0j1, t1j1, t2j1, t6j1, t24j1, H6j1, bx4, ax4, fx4, bx5, ax5, fx5]
        refine tstC_br (fun hb7 => ?_) (fun hb7 => ?_)
        · replace hh := ite_t hb7 hh
          cases hh
          try simp only [x_vault_pair, seval, -Int.reduceToNat, hr1, t0j1, t1j1, t2j1, t6j1, t24j1, H6j1, bx4, ax4, fx4, bx5, ax5, fx5]
        · replace hh := ite_f hb7 hh
          cases hh
          try simp only [x_vault_pair, seval, -Int.reduceToNat, hr1, t0j1, t1j1, t2j1, t6j1, t24j1, H6j1, bx4, ax4, fx4, bx5, ax5, fx5]
  ·
    clear hh
    have hh := ho2
    try simp only [x_vault_pair, seval, -Int.reduceToNat, hr1]
    refine tstO_br' (fun hb8 => ?_) (fun hb8 => ?_)
    · replace hh := ite_t hb8 hh
      cases hh
      try simp only [x_vault_pair, seval, -Int.reduceToNat, hr1]
      rw [CK_normal]
      refine ⟨_, rfl, ?_⟩
      refine ⟨0, ?_, ?_, ?_, ?_, ?_, ?_⟩
      all_goals (first | rfl | (simp only [x_vault_pair, seval, -Int.reduceToNat, hr1] <;> rfl))
    · replace hh := ite_f hb8 hh
      obtain ⟨r9, hr9, hh⟩ := bindS hh
      cases hh
      try simp only [x_vault_pair, seval, -Int.reduceToNat, hr1, hr9]
      rw [CK_normal]
      refine ⟨_, rfl, ?_⟩
      refine ⟨0, ?_, ?_, ?_, ?_, ?_, ?_⟩
      all_goals (first | rfl | (simp only [x_vault_pair, seval, -Int.reduceToNat, hr1, hr9] <;> rfl))

theorem ok_vault_pair : COk Tryd.prog 56 G_vault_pair := COk.of (mode := .clean) tok ge_vault_pair mixed Tryd.func56 (by kernel_rfl) ⟨by kernel_rfl, by kernel_rfl⟩ (fun _ => Nat.le_of_ble_eq_true (by kernel_rfl)) (fun x r h => m_vault_pair x.1 x.2.1 x.2.2 r h)

noncomputable def G_vault_Sound := mkG (as1 (aAgg eTVault)) (fun x : TVault => vault_Sound x) (fun r : Bool => .clean (.bool r))

theorem q_vault_Sound (p0_0 : (List TThing)) : G_vault_Sound none [.agg [.sl false false p0_0.length (encL eTThing p0_0)]] = (vault_Sound (TVault.mk p0_0)).map fun r : Bool => (.clean (.bool r), none) := mkG_eq _ _ _ ((TVault.mk p0_0))

noncomputable def g_vault_Sound : Env := (Am.ext (Am.ext noEnv 41 false G_vault_leaf) 56 false G_vault_pair)

theorem ge_vault_Sound : GOk Tryd.prog g_vault_Sound := ((GOk.none.add ok_vault_leaf false).add ok_vault_pair false)

theorem gg_vault_Sound : g_vault_Sound = (Am.ext (Am.ext noEnv 41 false G_vault_leaf) 56 false G_vault_pair) := Eq.trans rfl rfl

theorem x_vault_Sound : type_of% (And.intro @w <| And.intro @q_vault_leaf <| And.intro @q_vault_pair <| @gg_vault_Sound) := And.intro @w <| And.intro @q_vault_leaf <| And.intro @q_vault_pair <| @gg_vault_Sound

theorem m_vault_Sound (p0 : TVault) (r : Bool) (hh : vault_Sound p0 = some r) : vfunc .clean tab g_vault_Sound FU Tryd.f40 none [.agg [.sl false false p0.f_Things.length (encL eTThing p0.f_Things)]] = some (.clean (.bool r), none) := by
  refine vfunc_of rfl Tryd.ntmps40 Tryd.results40 ?_
  unfold vault_Sound at hh
  try simp only [x_vault_Sound, seval, -Int.reduceToNat]
  refine tstC_br (fun hb1 => ?_) (fun hb1 => ?_)
  · replace hh := ite_t hb1 hh
    cases hh
    try simp only [x_vault_Sound, seval, -Int.reduceToNat]
  · replace hh := ite_f hb1 hh
    try simp only [x_vault_Sound, seval, -Int.reduceToNat]
    obtain ⟨o11, ho11, hh⟩ := bindS hh
    refine runLoop_sim (fun s t H e => match s with | s14a => ∃ v1a : Nat, t 1 = .ptr 1 v1a 0 ∧ t 12 = .sl false false p0.f_Things.length (encL eTThing p0.f_Things) ∧ t 13 = .int .i64 (p0.f_Things.length : Int) ∧ t 14 = .int .i64 s14a ∧ H 1 = some ⟨v1a, 26, [.sl false false p0.f_Things.length (encL eTThing p0.f_Things)], false, false, false⟩) (fun o x t H e => match o with | (.inl _) => x = .exit 0 | (.inr r) => x = .ret ∧ endM .clean tab none [.tmp 2] ⟨t, H, e⟩ = some (.clean (.bool r), none)) ho11 ?_ ?_ ?_
    ·
      refine ⟨0, ?_, ?_, ?_, ?_, ?_⟩
      all_goals (first | rfl | (simp only [x_vault_Sound, seval, -Int.reduceToNat] <;> rfl))
    · rintro s14a t H e ⟨v1a, t1a, t12a, t13a, t14a, H1a⟩ c hh
      simp only [vault_Sound_L1] at hh
      try simp only [x_vault_Sound, seval, -Int.reduceToNat, t1a, t12a, t13a, t14a, H1a]
      refine tstC_br (fun hb12 => ?_) (fun hb12 => ?_)
      · replace hh := ite_t hb12 hh
        obtain ⟨x13, hx13, hh⟩ := bindS hh
        have bx13 := idx_bd hx13
        have ax13 := idx_enc eTThing hx13
        have fx13 := idx_fit eTThing hx13
        simp only [vmz] at ax13 fx13
        skip
        obtain ⟨r14, hr14, hh⟩ := bindS hh
        try simp only [x_vault_Sound, seval, -Int.reduceToNat, t1a, t12a, t13a, t14a, H1a, bx13, ax13, fx13, hr14]
        refine tstC_br (fun hb15 => ?_) (fun hb15 => ?_)
        · replace hh := ite_t hb15 hh
          cases hh
          try simp only [x_vault_Sound, seval, -Int.reduceToNat, t1a, t12a, t13a, t14a, H1a, bx13, ax13, fx13, hr14]
          rw [LK_normal]
          refine ⟨_, rfl, ?_⟩
          refine ⟨v1a, ?_, ?_, ?_, ?_, ?_⟩
          all_goals (first | rfl | (simp only [x_vault_Sound, seval, -Int.reduceToNat, t1a, t12a, t13a, t14a, H1a, bx13, ax13, fx13, hr14] <;> rfl))
        · replace hh := ite_f hb15 hh
          obtain ⟨x16, hx16, hh⟩ := bindS hh
          obtain ⟨q17a, q17b, q17c, q17d, q17e⟩ := slc_nh eTThing hx16
          simp only [vmz] at q17e
          obtain ⟨r18, hr18, hh⟩ := bindS hh
          try simp only [x_vault_Sound, seval, -Int.reduceToNat, t1a, t12a, t13a, t14a, H1a, bx13, ax13, fx13, hr14, q17a, q17b, q17c, q17d, q17e, hr18]
          refine dyn_ok (by kernel_rfl) ?_
          try simp only [x_vault_Sound, seval, -Int.reduceToNat, t1a, t12a, t13a, t14a, H1a, bx13, ax13, fx13, hr14, q17a, q17b, q17c, q17d, q17e, hr18]
          refine tstO_br' (fun hb19 => ?_) (fun hb19 => ?_)
          · replace hh := ite_t hb19 hh
            cases hh
            try simp only [x_vault_Sound, seval, -Int.reduceToNat, t1a, t12a, t13a, t14a, H1a, bx13, ax13, fx13, hr14, q17a, q17b, q17c, q17d, q17e, hr18]
            rw [LK_ret]
            refine ⟨_, rfl, ?_⟩
            refine ⟨rfl, ?_⟩
            try simp only [x_vault_Sound, seval, -Int.reduceToNat, t1a, t12a, t13a, t14a, H1a, bx13, ax13, fx13, hr14, q17a, q17b, q17c, q17d, q17e, hr18]
          · replace hh := ite_f hb19 hh
            try simp only [x_vault_Sound, seval, -Int.reduceToNat, t1a, t12a, t13a, t14a, H1a, bx13, ax13, fx13, hr14, q17a, q17b, q17c, q17d, q17e, hr18]
            refine tstC_br (fun hb20 => ?_) (fun hb20 => ?_)
            · replace hh := ite_t hb20 hh
              cases hh
              try simp only [x_vault_Sound, seval, -Int.reduceToNat, t1a, t12a, t13a, t14a, H1a, bx13, ax13, fx13, hr14, q17a, q17b, q17c, q17d, q17e, hr18]
              rw [LK_ret]
              refine ⟨_, rfl, ?_⟩
              refine ⟨rfl, ?_⟩
              try simp only [x_vault_Sound, seval, -Int.reduceToNat, t1a, t12a, t13a, t14a, H1a, bx13, ax13, fx13, hr14, q17a, q17b, q17c, q17d, q17e, hr18]
            · replace hh := ite_f hb20 hh
              cases hh
              try simp only [x_vault_Sound, seval, -Int.reduceToNat, t1a, t12a, t13a, t14a, H1a, bx13, ax13, fx13, hr14, q17a, q17b, q17c, q17d, q17e, hr18]
              rw [LK_normal]
              refine ⟨_, rfl, ?_⟩
              refine ⟨v1a, ?_, ?_, ?_, ?_, ?_⟩
              all_goals (first | rfl | (simp only [x_vault_Sound, seval, -Int.reduceToNat, t1a, t12a, t13a, t14a, H1a, bx13, ax13, fx13, hr14, q17a, q17b, q17c, q17d, q17e, hr18] <;> rfl))
      · replace hh := ite_f hb12 hh
        cases hh
        try simp only [x_vault_Sound, seval, -Int.reduceToNat, t1a, t12a, t13a, t14a, H1a]
        rw [LK_exit]
        refine ⟨_, rfl, ?_⟩
        exact rfl
    · rintro x t H e hx
      rcases o11 with _ | ra
      ·
        dsimp only at hx hh
        subst hx
        cases hh
        try simp only [x_vault_Sound, seval, -Int.reduceToNat]
      ·
        dsimp only at hx hh
        obtain ⟨rfl, hE⟩ := hx
        cases hh
        try simp only [runW_pass_ret, runW_pass_exit, runW_blk_ret, runW_nil, endW_ret]
        exact hE

theorem ok_vault_Sound : COk Tryd.prog 40 G_vault_Sound := COk.of (mode := .clean) tok ge_vault_Sound mixed Tryd.func40 (by kernel_rfl) ⟨by kernel_rfl, by kernel_rfl⟩ (fun _ => Nat.le_of_ble_eq_true (by kernel_rfl)) (fun x r h => m_vault_Sound x r h)

noncomputable def G_vault_put := mkG (asC (aAgg eTVault) (as1 (aAgg eTThing))) (fun x : TVault × TThing => vault_put x.1 x.2) (fun r : TVault × Int × Int => .clean (.tup [.agg [.sl false false r.1.f_Things.length (encL eTThing r.1.f_Things)], .int .i64 r.2.1, .int .i64 r.2.2]))

theorem q_vault_put (p0_0 : (List TThing)) (p1_0 : ByteArray) (p1_1 : Int) (p1_2 : Int) (p1_3 : Int) (p1_4 : Int) : G_vault_put none [.agg [.sl false false p0_0.length (encL eTThing p0_0)], .agg [.str p1_0, .int .i64 p1_1, .int .i64 p1_2, .int .i64 p1_3, .int .i64 p1_4]] = (vault_put (TVault.mk p0_0) (TThing.mk p1_0 p1_1 p1_2 p1_3 p1_4)).map fun r : TVault × Int × Int => (.clean (.tup [.agg [.sl false false r.1.f_Things.length (encL eTThing r.1.f_Things)], .int .i64 r.2.1, .int .i64 r.2.2]), none) := mkG_eq _ _ _ ((TVault.mk p0_0), (TThing.mk p1_0 p1_1 p1_2 p1_3 p1_4))

noncomputable def g_vault_put : Env := (Am.ext (Am.ext noEnv 57 false G_slices_Clip) 58 false G_slices_Clone_58)

theorem ge_vault_put : GOk Tryd.prog g_vault_put := ((GOk.none.add ok_slices_Clip false).add ok_slices_Clone_58 false)

theorem gg_vault_put : g_vault_put = (Am.ext (Am.ext noEnv 57 false G_slices_Clip) 58 false G_slices_Clone_58) := Eq.trans rfl rfl

theorem x_vault_put : type_of% (And.intro @w <| And.intro @q_slices_Clip <| And.intro @q_slices_Clone_58 <| @gg_vault_put) := And.intro @w <| And.intro @q_slices_Clip <| And.intro @q_slices_Clone_58 <| @gg_vault_put

theorem m_vault_put (p0 : TVault) (p1 : TThing) (r : TVault × Int × Int) (hh : vault_put p0 p1 = some r) : vfunc .clean tab g_vault_put FU Tryd.f42 none [.agg [.sl false false p0.f_Things.length (encL eTThing p0.f_Things)], .agg [.str p1.f_Text, .int .i64 p1.f_Value, .int .i64 p1.f_Blind, .int .i64 p1.f_Left, .int .i64 p1.f_Right]] = some (.clean (.tup [.agg [.sl false false r.1.f_Things.length (encL eTThing r.1.f_Things)], .int .i64 r.2.1, .int .i64 r.2.2]), none) := by
  refine vfunc_of rfl Tryd.ntmps42 Tryd.results42 ?_
  unfold vault_put at hh
  obtain ⟨r1, hr1, hh⟩ := bindS hh
  obtain ⟨r2, hr2, hh⟩ := bindS hh
  obtain ⟨x3, hx3, hh⟩ := bindS hh
  obtain ⟨q4a, q4b, q4c, q4d⟩ := app_one eTThing hx3
  simp only [vmz] at q4b
  try simp only [x_vault_put, seval, -Int.reduceToNat, hr1, hr2, q4a, q4b, q4c, q4d]
  refine dyn_ok (by kernel_rfl) ?_
  cases hh
  try simp only [x_vault_put, seval, -Int.reduceToNat, hr1, hr2, q4a, q4b, q4c, q4d]

theorem ok_vault_put : COk Tryd.prog 42 G_vault_put := COk.of (mode := .clean) tok ge_vault_put mixed Tryd.func42 (by kernel_rfl) ⟨by kernel_rfl, by kernel_rfl⟩ (fun _ => Nat.le_of_ble_eq_true (by kernel_rfl)) (fun x r h => m_vault_put x.1 x.2 r h)

noncomputable def G_r35_in := mkG (asC (aI .i64) (asC (aI .i64) (as1 (aI .i64)))) (fun x : Int × Int × Int => r35_in x.1 x.2.1 x.2.2) (fun r : Bool => .clean (.bool r))

theorem q_r35_in (p0 : Int) (p1 : Int) (p2 : Int) : G_r35_in none [.int .i64 p0, .int .i64 p1, .int .i64 p2] = (r35_in p0 p1 p2).map fun r : Bool => (.clean (.bool r), none) := mkG_eq _ _ _ (p0, p1, p2)

theorem m_r35_in (p0 : Int) (p1 : Int) (p2 : Int) (r : Bool) (hh : r35_in p0 p1 p2 = some r) : vfunc .clean tab noEnv FU Tryd.f48 none [.int .i64 p0, .int .i64 p1, .int .i64 p2] = some (.clean (.bool r), none) := by
  refine vfunc_of rfl Tryd.ntmps48 Tryd.results48 ?_
  unfold r35_in at hh
  try simp only [w, seval, -Int.reduceToNat]
  refine tstO_br (fun hb1 => ?_) (fun hb1 => ?_)
  · replace hh := ite_t hb1 hh
    cases hh
    try simp only [w, seval, -Int.reduceToNat]
  · replace hh := ite_f hb1 hh
    cases hh
    try simp only [w, seval, -Int.reduceToNat]

theorem ok_r35_in : COk Tryd.prog 48 G_r35_in := COk.of (mode := .clean) tok GOk.none mixed Tryd.func48 (by kernel_rfl) ⟨by kernel_rfl, by kernel_rfl⟩ (fun _ => Nat.le_of_ble_eq_true (by kernel_rfl)) (fun x r h => m_r35_in x.1 x.2.1 x.2.2 r h)

noncomputable def G_r35_Leafy := mkG (as1 (aAgg eTThing)) (fun x : TThing => r35_Leafy x) (fun r : Bool => .clean (.bool r))

theorem q_r35_Leafy (p0_0 : ByteArray) (p0_1 : Int) (p0_2 : Int) (p0_3 : Int) (p0_4 : Int) : G_r35_Leafy none [.agg [.str p0_0, .int .i64 p0_1, .int .i64 p0_2, .int .i64 p0_3, .int .i64 p0_4]] = (r35_Leafy (TThing.mk p0_0 p0_1 p0_2 p0_3 p0_4)).map fun r : Bool => (.clean (.bool r), none) := mkG_eq _ _ _ ((TThing.mk p0_0 p0_1 p0_2 p0_3 p0_4))

theorem m_r35_Leafy (p0 : TThing) (r : Bool) (hh : r35_Leafy p0 = some r) : vfunc .clean tab noEnv FU Tryd.f70 none [.agg [.str p0.f_Text, .int .i64 p0.f_Value, .int .i64 p0.f_Blind, .int .i64 p0.f_Left, .int .i64 p0.f_Right]] = some (.clean (.bool r), none) := by
  refine vfunc_of rfl Tryd.ntmps70 Tryd.results70 ?_
  unfold r35_Leafy at hh
  try simp only [w, seval, -Int.reduceToNat]
  refine tstO_br (fun hb1 => ?_) (fun hb1 => ?_)
  · replace hh := ite_t hb1 hh
    cases hh
    try simp only [w, seval, -Int.reduceToNat]
  · replace hh := ite_f hb1 hh
    cases hh
    try simp only [w, seval, -Int.reduceToNat]

theorem ok_r35_Leafy : COk Tryd.prog 70 G_r35_Leafy := COk.of (mode := .clean) tok GOk.none mixed Tryd.func70 (by kernel_rfl) ⟨by kernel_rfl, by kernel_rfl⟩ (fun _ => Nat.le_of_ble_eq_true (by kernel_rfl)) (fun x r h => m_r35_Leafy x r h)

noncomputable def G_r35_leaf := mkG (as1 (aAgg eTThing)) (fun x : TThing => r35_leaf x) (fun r : Bool => .clean (.bool r))

theorem q_r35_leaf (p0_0 : ByteArray) (p0_1 : Int) (p0_2 : Int) (p0_3 : Int) (p0_4 : Int) : G_r35_leaf none [.agg [.str p0_0, .int .i64 p0_1, .int .i64 p0_2, .int .i64 p0_3, .int .i64 p0_4]] = (r35_leaf (TThing.mk p0_0 p0_1 p0_2 p0_3 p0_4)).map fun r : Bool => (.clean (.bool r), none) := mkG_eq _ _ _ ((TThing.mk p0_0 p0_1 p0_2 p0_3 p0_4))

noncomputable def g_r35_leaf : Env := (Am.ext (Am.ext noEnv 48 false G_r35_in) 70 false G_r35_Leafy)

theorem ge_r35_leaf : GOk Tryd.prog g_r35_leaf := ((GOk.none.add ok_r35_in false).add ok_r35_Leafy false)

theorem gg_r35_leaf : g_r35_leaf = (Am.ext (Am.ext noEnv 48 false G_r35_in) 70 false G_r35_Leafy) := Eq.trans rfl rfl

theorem x_r35_leaf : type_of% (And.intro @w <| And.intro @q_r35_in <| And.intro @q_r35_Leafy <| @gg_r35_leaf) := And.intro @w <| And.intro @q_r35_in <| And.intro @q_r35_Leafy <| @gg_r35_leaf

theorem m_r35_leaf (p0 : TThing) (r : Bool) (hh : r35_leaf p0 = some r) : vfunc .clean tab g_r35_leaf FU Tryd.f62 none [.agg [.str p0.f_Text, .int .i64 p0.f_Value, .int .i64 p0.f_Blind, .int .i64 p0.f_Left, .int .i64 p0.f_Right]] = some (.clean (.bool r), none) := by
  refine vfunc_of rfl Tryd.ntmps62 Tryd.results62 ?_
  unfold r35_leaf at hh
  obtain ⟨r1, hr1, hh⟩ := bindS hh
  try simp only [x_r35_leaf, seval, -Int.reduceToNat, hr1]
  refine tstO_br (fun hb2 => ?_) (fun hb2 => ?_)
  · replace hh := ite_t hb2 hh
    try simp only [x_r35_leaf, seval, -Int.reduceToNat, hr1]
    refine tstO_br (fun hb3 => ?_) (fun hb3 => ?_)
    · replace hh := ite_t hb3 hh
      obtain ⟨r4, hr4, hh⟩ := bindS hh
      try simp only [x_r35_leaf, seval, -Int.reduceToNat, hr1, hr4]
      refine tstO_br (fun hb5 => ?_) (fun hb5 => ?_)
      · replace hh := ite_t hb5 hh
        obtain ⟨r6, hr6, hh⟩ := bindS hh
        cases hh
        try simp only [x_r35_leaf, seval, -Int.reduceToNat, hr1, hr4, hr6]
      · replace hh := ite_f hb5 hh
        cases hh
        try simp only [x_r35_leaf, seval, -Int.reduceToNat, hr1, hr4]
    · replace hh := ite_f hb3 hh
      cases hh
      try simp only [x_r35_leaf, seval, -Int.reduceToNat, hr1]
  · replace hh := ite_f hb2 hh
    cases hh
    try simp only [x_r35_leaf, seval, -Int.reduceToNat, hr1]

theorem ok_r35_leaf : COk Tryd.prog 62 G_r35_leaf := COk.of (mode := .clean) tok ge_r35_leaf mixed Tryd.func62 (by kernel_rfl) ⟨by kernel_rfl, by kernel_rfl⟩ (fun _ => Nat.le_of_ble_eq_true (by kernel_rfl)) (fun x r h => m_r35_leaf x r h)

noncomputable def G_r35_Sound := mkG (as1 (aAgg eTVault)) (fun x : TVault => r35_Sound x) (fun r : Bool => .clean (.bool r))

theorem q_r35_Sound (p0_0 : (List TThing)) : G_r35_Sound none [.agg [.sl false false p0_0.length (encL eTThing p0_0)]] = (r35_Sound (TVault.mk p0_0)).map fun r : Bool => (.clean (.bool r), none) := mkG_eq _ _ _ ((TVault.mk p0_0))

noncomputable def g_r35_Sound : Env := (Am.ext (Am.ext noEnv 48 false G_r35_in) 62 false G_r35_leaf)

theorem ge_r35_Sound : GOk Tryd.prog g_r35_Sound := ((GOk.none.add ok_r35_in false).add ok_r35_leaf false)

theorem gg_r35_Sound : g_r35_Sound = (Am.ext (Am.ext noEnv 48 false G_r35_in) 62 false G_r35_leaf) := Eq.trans rfl rfl

theorem x_r35_Sound : type_of% (And.intro @w <| And.intro @q_r35_in <| And.intro @q_r35_leaf <| @gg_r35_Sound) := And.intro @w <| And.intro @q_r35_in <| And.intro @q_r35_leaf <| @gg_r35_Sound

theorem m_r35_Sound (p0 : TVault) (r : Bool) (hh : r35_Sound p0 = some r) : vfunc .clean tab g_r35_Sound FU Tryd.f47 none [.agg [.sl false false p0.f_Things.length (encL eTThing p0.f_Things)]] = some (.clean (.bool r), none) := by
  refine vfunc_of rfl Tryd.ntmps47 Tryd.results47 ?_
  unfold r35_Sound at hh
  try simp only [x_r35_Sound, seval, -Int.reduceToNat]
  refine tstC_br (fun hb1 => ?_) (fun hb1 => ?_)
  · replace hh := ite_t hb1 hh
    cases hh
    try simp only [x_r35_Sound, seval, -Int.reduceToNat]
  · replace hh := ite_f hb1 hh
    try simp only [x_r35_Sound, seval, -Int.reduceToNat]
    obtain ⟨o18, ho18, hh⟩ := bindS hh
    refine runLoop_sim (fun s t H e => match s with | s3a => ∃ v1a : Nat, t 1 = .ptr 1 v1a 0 ∧ t 3 = .int .i64 s3a ∧ H 1 = some ⟨v1a, 26, [.sl false false p0.f_Things.length (encL eTThing p0.f_Things)], false, false, false⟩) (fun o x t H e => match o with | (.inl _) => x = .exit 0 | (.inr r) => x = .ret ∧ endM .clean tab none [.tmp 2] ⟨t, H, e⟩ = some (.clean (.bool r), none)) ho18 ?_ ?_ ?_
    ·
      refine ⟨0, ?_, ?_, ?_⟩
      all_goals (first | rfl | (simp only [x_r35_Sound, seval, -Int.reduceToNat] <;> rfl))
    · rintro s3a t H e ⟨v1a, t1a, t3a, H1a⟩ c hh
      simp only [r35_Sound_L1] at hh
      try simp only [x_r35_Sound, seval, -Int.reduceToNat, t1a, t3a, H1a]
      refine tstC_br (fun hb19 => ?_) (fun hb19 => ?_)
      · replace hh := ite_t hb19 hh
        obtain ⟨x20, hx20, hh⟩ := bindS hh
        have bx20 := idx_bd hx20
        have ax20 := idx_enc eTThing hx20
        have fx20 := idx_fit eTThing hx20
        simp only [vmz] at ax20 fx20
        skip
        obtain ⟨r21, hr21, hh⟩ := bindS hh
        try simp only [x_r35_Sound, seval, -Int.reduceToNat, t1a, t3a, H1a, bx20, ax20, fx20, hr21]
        refine tstC_br (fun hb22 => ?_) (fun hb22 => ?_)
        · replace hh := ite_t hb22 hh
          cases hh
          try simp only [x_r35_Sound, seval, -Int.reduceToNat, t1a, t3a, H1a, bx20, ax20, fx20, hr21]
          rw [LK_normal]
          refine ⟨_, rfl, ?_⟩
          refine ⟨v1a, ?_, ?_, ?_⟩
          all_goals (first | rfl | (simp only [x_r35_Sound, seval, -Int.reduceToNat, t1a, t3a, H1a, bx20, ax20, fx20, hr21] <;> rfl))
        · replace hh := ite_f hb22 hh
          try simp only [x_r35_Sound, seval, -Int.reduceToNat, t1a, t3a, H1a, bx20, ax20, fx20, hr21]
          obtain ⟨o23, ho23, hh⟩ := bindS hh
          refine tstO_cut 0 (fun s t H e => match s with | s43j3 => ∃ v1j3 : Nat, ∃ v4j3 : Nat, t 1 = .ptr 1 v1j3 0 ∧ t 3 = .int .i64 s3a ∧ t 4 = .ptr 4 v4j3 0 ∧ t 43 = .bool s43j3 ∧ H 1 = some ⟨v1j3, 26, [.sl false false p0.f_Things.length (encL eTThing p0.f_Things)], false, false, false⟩ ∧ H 4 = some ⟨v4j3, 52, [.str x20.f_Text, .int .i64 x20.f_Value, .int .i64 x20.f_Blind, .int .i64 x20.f_Left, .int .i64 x20.f_Right], false, false, false⟩) (fun s => s = o23) ?_ ?_
          · rintro s43j3 t H e ⟨v1j3, v4j3, t1j3, t3j3, t4j3, t43j3, H1j3, H4j3⟩ rfl
            try dsimp only at hh
            try simp only [x_r35_Sound, seval, -Int.reduceToNat, bx20, ax20, fx20, hr21, t1j3, t3j3, t4j3, t43j3, H1j3, H4j3]
            refine tstC_br (fun hb24 => ?_) (fun hb24 => ?_)
            · replace hh := ite_t hb24 hh
              cases hh
              try simp only [x_r35_Sound, seval, -Int.reduceToNat, bx20, ax20, fx20, hr21, t1j3, t3j3, t4j3, t43j3, H1j3, H4j3]
              rw [LK_ret]
              refine ⟨_, rfl, ?_⟩
              refine ⟨rfl, ?_⟩
              try simp only [x_r35_Sound, seval, -Int.reduceToNat, bx20, ax20, fx20, hr21, t1j3, t3j3, t4j3, t43j3, H1j3, H4j3]
            · replace hh := ite_f hb24 hh
              obtain ⟨x25, hx25, hh⟩ := bindS hh
              have bx25 := idx_bd hx25
              have ax25 := idx_enc eTThing hx25
              have fx25 := idx_fit eTThing hx25
              simp only [vmz] at ax25 fx25
              skip
              obtain ⟨x26, hx26, hh⟩ := bindS hh
              have bx26 := idx_bd hx26
              have ax26 := idx_enc eTThing hx26
              have fx26 := idx_fit eTThing hx26
              simp only [vmz] at ax26 fx26
              skip
              try simp only [x_r35_Sound, seval, -Int.reduceToNat, bx20, ax20, fx20, hr21, t1j3, t3j3, t4j3, t43j3, H1j3, H4j3, bx25, ax25, fx25, bx26, ax26, fx26]
              refine tstO_br' (fun hb27 => ?_) (fun hb27 => ?_)
              · replace hh := ite_t hb27 hh
                cases hh
                try simp only [x_r35_Sound, seval, -Int.reduceToNat, bx20, ax20, fx20, hr21, t1j3, t3j3, t4j3, t43j3, H1j3, H4j3, bx25, ax25, fx25, bx26, ax26, fx26]
                rw [LK_ret]
                refine ⟨_, rfl, ?_⟩
                refine ⟨rfl, ?_⟩
                try simp only [x_r35_Sound, seval, -Int.reduceToNat, bx20, ax20, fx20, hr21, t1j3, t3j3, t4j3, t43j3, H1j3, H4j3, bx25, ax25, fx25, bx26, ax26, fx26]
              · replace hh := ite_f hb27 hh
                try simp only [x_r35_Sound, seval, -Int.reduceToNat, bx20, ax20, fx20, hr21, t1j3, t3j3, t4j3, t43j3, H1j3, H4j3, bx25, ax25, fx25, bx26, ax26, fx26]
                refine tstO_br' (fun hb28 => ?_) (fun hb28 => ?_)
                · replace hh := ite_t hb28 hh
                  cases hh
                  try simp only [x_r35_Sound, seval, -Int.reduceToNat, bx20, ax20, fx20, hr21, t1j3, t3j3, t4j3, t43j3, H1j3, H4j3, bx25, ax25, fx25, bx26, ax26, fx26]
                  rw [LK_ret]
                  refine ⟨_, rfl, ?_⟩
                  refine ⟨rfl, ?_⟩
                  try simp only [x_r35_Sound, seval, -Int.reduceToNat, bx20, ax20, fx20, hr21, t1j3, t3j3, t4j3, t43j3, H1j3, H4j3, bx25, ax25, fx25, bx26, ax26, fx26]
                · replace hh := ite_f hb28 hh
                  try simp only [x_r35_Sound, seval, -Int.reduceToNat, bx20, ax20, fx20, hr21, t1j3, t3j3, t4j3, t43j3, H1j3, H4j3, bx25, ax25, fx25, bx26, ax26, fx26]
                  refine tstO_br' (fun hb29 => ?_) (fun hb29 => ?_)
                  · replace hh := ite_t hb29 hh
                    cases hh
                    try simp only [x_r35_Sound, seval, -Int.reduceToNat, bx20, ax20, fx20, hr21, t1j3, t3j3, t4j3, t43j3, H1j3, H4j3, bx25, ax25, fx25, bx26, ax26, fx26]
                    rw [LK_ret]
                    refine ⟨_, rfl, ?_⟩
                    refine ⟨rfl, ?_⟩
                    try simp only [x_r35_Sound, seval, -Int.reduceToNat, bx20, ax20, fx20, hr21, t1j3, t3j3, t4j3, t43j3, H1j3, H4j3, bx25, ax25, fx25, bx26, ax26, fx26]
                  · replace hh := ite_f hb29 hh
                    try simp only [x_r35_Sound, seval, -Int.reduceToNat, bx20, ax20, fx20, hr21, t1j3, t3j3, t4j3, t43j3, H1j3, H4j3, bx25, ax25, fx25, bx26, ax26, fx26]
                    refine tstC_br (fun hb30 => ?_) (fun hb30 => ?_)
                    · replace hh := ite_t hb30 hh
                      cases hh
                      try simp only [x_r35_Sound, seval, -Int.reduceToNat, bx20, ax20, fx20, hr21, t1j3, t3j3, t4j3, t43j3, H1j3, H4j3, bx25, ax25, fx25, bx26, ax26, fx26]
                      rw [LK_ret]
                      refine ⟨_, rfl, ?_⟩
                      refine ⟨rfl, ?_⟩
                      try simp only [x_r35_Sound, seval, -Int.reduceToNat, bx20, ax20, fx20, hr21, t1j3, t3j3, t4j3, t43j3, H1j3, H4j3, bx25, ax25, fx25, bx26, ax26, fx26]
                    · replace hh := ite_f hb30 hh
                      cases hh
                      try simp only [x_r35_Sound, seval, -Int.reduceToNat, bx20, ax20, fx20, hr21, t1j3, t3j3, t4j3, t43j3, H1j3, H4j3, bx25, ax25, fx25, bx26, ax26, fx26]
                      rw [LK_normal]
                      refine ⟨_, rfl, ?_⟩
                      refine ⟨v1j3, ?_, ?_, ?_⟩
                      all_goals (first | rfl | (simp only [x_r35_Sound, seval, -Int.reduceToNat, bx20, ax20, fx20, hr21, t1j3, t3j3, t4j3, t43j3, H1j3, H4j3, bx25, ax25, fx25, bx26, ax26, fx26] <;> rfl))
          ·
            clear hh
            have hh := ho23
            try simp only [x_r35_Sound, seval, -Int.reduceToNat, t1a, t3a, H1a, bx20, ax20, fx20, hr21]
            refine tstO_br' (fun hb31 => ?_) (fun hb31 => ?_)
            · replace hh := ite_t hb31 hh
              cases hh
              try simp only [x_r35_Sound, seval, -Int.reduceToNat, t1a, t3a, H1a, bx20, ax20, fx20, hr21]
              rw [CK_normal]
              refine ⟨_, rfl, ?_⟩
              refine ⟨v1a, e + 1, ?_, ?_, ?_, ?_, ?_, ?_⟩
              all_goals (first | rfl | (simp only [x_r35_Sound, seval, -Int.reduceToNat, t1a, t3a, H1a, bx20, ax20, fx20, hr21] <;> rfl))
            · replace hh := ite_f hb31 hh
              obtain ⟨r32, hr32, hh⟩ := bindS hh
              try simp only [x_r35_Sound, seval, -Int.reduceToNat, t1a, t3a, H1a, bx20, ax20, fx20, hr21, hr32]
              refine tstO_br' (fun hb33 => ?_) (fun hb33 => ?_)
              · replace hh := ite_t hb33 hh
                cases hh
                try simp only [x_r35_Sound, seval, -Int.reduceToNat, t1a, t3a, H1a, bx20, ax20, fx20, hr21, hr32]
                rw [CK_normal]
                refine ⟨_, rfl, ?_⟩
                refine ⟨v1a, e + 1, ?_, ?_, ?_, ?_, ?_, ?_⟩
                all_goals (first | rfl | (simp only [x_r35_Sound, seval, -Int.reduceToNat, t1a, t3a, H1a, bx20, ax20, fx20, hr21, hr32] <;> rfl))
              · replace hh := ite_f hb33 hh
                obtain ⟨r34, hr34, hh⟩ := bindS hh
                cases hh
                try simp only [x_r35_Sound, seval, -Int.reduceToNat, t1a, t3a, H1a, bx20, ax20, fx20, hr21, hr32, hr34]
                rw [CK_normal]
                refine ⟨_, rfl, ?_⟩
                refine ⟨v1a, e + 1, ?_, ?_, ?_, ?_, ?_, ?_⟩
                all_goals (first | rfl | (simp only [x_r35_Sound, seval, -Int.reduceToNat, t1a, t3a, H1a, bx20, ax20, fx20, hr21, hr32, hr34] <;> rfl))
      · replace hh := ite_f hb19 hh
        cases hh
        try simp only [x_r35_Sound, seval, -Int.reduceToNat, t1a, t3a, H1a]
        rw [LK_exit]
        refine ⟨_, rfl, ?_⟩
        exact rfl
    · rintro x t H e hx
      rcases o18 with _ | ra
      ·
        dsimp only at hx hh
        subst hx
        cases hh
        try simp only [x_r35_Sound, seval, -Int.reduceToNat]
      ·
        dsimp only at hx hh
        obtain ⟨rfl, hE⟩ := hx
        cases hh
        try simp only [runW_pass_ret, runW_pass_exit, runW_blk_ret, runW_nil, endW_ret]
        exact hE

theorem ok_r35_Sound : COk Tryd.prog 47 G_r35_Sound := COk.of (mode := .clean) tok ge_r35_Sound mixed Tryd.func47 (by kernel_rfl) ⟨by kernel_rfl, by kernel_rfl⟩ (fun _ => Nat.le_of_ble_eq_true (by kernel_rfl)) (fun x r h => m_r35_Sound x r h)

noncomputable def G_r35_Few := mkG (asC (aAgg eTVault) (as1 (aI .i64))) (fun x : TVault × Int => r35_Few x.1 x.2) (fun r : Bool => .clean (.bool r))

theorem q_r35_Few (p0_0 : (List TThing)) (p1 : Int) : G_r35_Few none [.agg [.sl false false p0_0.length (encL eTThing p0_0)], .int .i64 p1] = (r35_Few (TVault.mk p0_0) p1).map fun r : Bool => (.clean (.bool r), none) := mkG_eq _ _ _ ((TVault.mk p0_0), p1)

theorem m_r35_Few (p0 : TVault) (p1 : Int) (r : Bool) (hh : r35_Few p0 p1 = some r) : vfunc .clean tab noEnv FU Tryd.f12 none [.agg [.sl false false p0.f_Things.length (encL eTThing p0.f_Things)], .int .i64 p1] = some (.clean (.bool r), none) := by
  refine vfunc_of rfl Tryd.ntmps12 Tryd.results12 ?_
  unfold r35_Few at hh
  try simp only [w, seval, -Int.reduceToNat]
  obtain ⟨o6, ho6, hh⟩ := bindS hh
  refine runLoop_sim (fun s t H e => match s with | s5a => ∃ v2a : Nat, t 1 = .int .i64 p1 ∧ t 2 = .ptr 2 v2a 0 ∧ t 5 = .int .i64 s5a ∧ H 2 = some ⟨v2a, 26, [.sl false false p0.f_Things.length (encL eTThing p0.f_Things)], false, false, false⟩) (fun o x t H e => match o with | (.inl _) => x = .exit 0 ∧ ∃ v2ax : Nat, t 1 = .int .i64 p1 ∧ t 2 = .ptr 2 v2ax 0 ∧ H 2 = some ⟨v2ax, 26, [.sl false false p0.f_Things.length (encL eTThing p0.f_Things)], false, false, false⟩ | (.inr r) => x = .ret ∧ endM .clean tab none [.tmp 4] ⟨t, H, e⟩ = some (.clean (.bool r), none)) ho6 ?_ ?_ ?_
  ·
    refine ⟨0, ?_, ?_, ?_, ?_⟩
    all_goals (first | rfl | (simp only [w, seval, -Int.reduceToNat] <;> rfl))
  · rintro s5a t H e ⟨v2a, t1a, t2a, t5a, H2a⟩ c hh
    simp only [r35_Few_L1] at hh
    try simp only [w, seval, -Int.reduceToNat, t1a, t2a, t5a, H2a]
    obtain ⟨o7, ho7, hh⟩ := bindS hh
    refine tstO_cut 0 (fun s t H e => match s with | s15j3 => ∃ v2j3 : Nat, t 1 = .int .i64 p1 ∧ t 2 = .ptr 2 v2j3 0 ∧ t 5 = .int .i64 s5a ∧ t 15 = .bool s15j3 ∧ H 2 = some ⟨v2j3, 26, [.sl false false p0.f_Things.length (encL eTThing p0.f_Things)], false, false, false⟩) (fun s => s = o7) ?_ ?_
    · rintro s15j3 t H e ⟨v2j3, t1j3, t2j3, t5j3, t15j3, H2j3⟩ rfl
      try dsimp only at hh
      try simp only [w, seval, -Int.reduceToNat, t1j3, t2j3, t5j3, t15j3, H2j3]
      refine tstC_br (fun hb8 => ?_) (fun hb8 => ?_)
      · replace hh := ite_t hb8 hh
        obtain ⟨x9, hx9, hh⟩ := bindS hh
        have bx9 := idx_bd hx9
        have ax9 := idx_enc eTThing hx9
        have fx9 := idx_fit eTThing hx9
        simp only [vmz] at ax9 fx9
        skip
        try simp only [w, seval, -Int.reduceToNat, t1j3, t2j3, t5j3, t15j3, H2j3, bx9, ax9, fx9]
        refine tstC_br (fun hb10 => ?_) (fun hb10 => ?_)
        · replace hh := ite_t hb10 hh
          cases hh
          try simp only [w, seval, -Int.reduceToNat, t1j3, t2j3, t5j3, t15j3, H2j3, bx9, ax9, fx9]
          rw [LK_ret]
          refine ⟨_, rfl, ?_⟩
          refine ⟨rfl, ?_⟩
          try simp only [w, seval, -Int.reduceToNat, t1j3, t2j3, t5j3, t15j3, H2j3, bx9, ax9, fx9]
        · replace hh := ite_f hb10 hh
          cases hh
          try simp only [w, seval, -Int.reduceToNat, t1j3, t2j3, t5j3, t15j3, H2j3, bx9, ax9, fx9]
          rw [LK_normal]
          refine ⟨_, rfl, ?_⟩
          refine ⟨v2j3, ?_, ?_, ?_, ?_⟩
          all_goals (first | rfl | (simp only [w, seval, -Int.reduceToNat, t1j3, t2j3, t5j3, t15j3, H2j3, bx9, ax9, fx9] <;> rfl))
      · replace hh := ite_f hb8 hh
        cases hh
        try simp only [w, seval, -Int.reduceToNat, t1j3, t2j3, t5j3, t15j3, H2j3]
        rw [LK_exit]
        refine ⟨_, rfl, ?_⟩
        refine ⟨rfl, ⟨v2j3, ?_, ?_, ?_⟩⟩
        all_goals (first | rfl | (simp only [w, seval, -Int.reduceToNat, t1j3, t2j3, t5j3, t15j3, H2j3] <;> rfl))
    ·
      clear hh
      have hh := ho7
      try simp only [w, seval, -Int.reduceToNat, t1a, t2a, t5a, H2a]
      refine tstO_br (fun hb11 => ?_) (fun hb11 => ?_)
      · replace hh := ite_t hb11 hh
        cases hh
        try simp only [w, seval, -Int.reduceToNat, t1a, t2a, t5a, H2a]
        rw [CK_normal]
        refine ⟨_, rfl, ?_⟩
        refine ⟨v2a, ?_, ?_, ?_, ?_, ?_⟩
        all_goals (first | rfl | (simp only [w, seval, -Int.reduceToNat, t1a, t2a, t5a, H2a] <;> rfl))
      · replace hh := ite_f hb11 hh
        cases hh
        try simp only [w, seval, -Int.reduceToNat, t1a, t2a, t5a, H2a]
        rw [CK_normal]
        refine ⟨_, rfl, ?_⟩
        refine ⟨v2a, ?_, ?_, ?_, ?_, ?_⟩
        all_goals (first | rfl | (simp only [w, seval, -Int.reduceToNat, t1a, t2a, t5a, H2a] <;> rfl))
  · rintro x t H e hx
    rcases o6 with _ | ra
    ·
      dsimp only at hx hh
      obtain ⟨rfl, ⟨v2ax, t1ax, t2ax, H2ax⟩⟩ := hx
      cases hh
      try simp only [w, seval, -Int.reduceToNat, t1ax, t2ax, H2ax]
    ·
      dsimp only at hx hh
      obtain ⟨rfl, hE⟩ := hx
      cases hh
      try simp only [runW_pass_ret, runW_pass_exit, runW_blk_ret, runW_nil, endW_ret]
      exact hE

theorem ok_r35_Few : COk Tryd.prog 12 G_r35_Few := COk.of (mode := .clean) tok GOk.none mixed Tryd.func12 (by kernel_rfl) ⟨by kernel_rfl, by kernel_rfl⟩ (fun _ => Nat.le_of_ble_eq_true (by kernel_rfl)) (fun x r h => m_r35_Few x.1 x.2 r h)

noncomputable def G_r35_Opens := mkG (asC (aAgg eTVault) (asC (aI .i64) (asC aStr (asC (aI .i64) (as1 (aI .i64)))))) (fun x : TVault × Int × ByteArray × Int × Int => r35_Opens x.1 x.2.1 x.2.2.1 x.2.2.2.1 x.2.2.2.2) (fun r : Bool => .clean (.bool r))

theorem q_r35_Opens (p0_0 : (List TThing)) (p1 : Int) (p2 : ByteArray) (p3 : Int) (p4 : Int) : G_r35_Opens none [.agg [.sl false false p0_0.length (encL eTThing p0_0)], .int .i64 p1, .str p2, .int .i64 p3, .int .i64 p4] = (r35_Opens (TVault.mk p0_0) p1 p2 p3 p4).map fun r : Bool => (.clean (.bool r), none) := mkG_eq _ _ _ ((TVault.mk p0_0), p1, p2, p3, p4)

noncomputable def g_r35_Opens : Env := (Am.ext (Am.ext noEnv 47 false G_r35_Sound) 48 false G_r35_in)

theorem ge_r35_Opens : GOk Tryd.prog g_r35_Opens := ((GOk.none.add ok_r35_Sound false).add ok_r35_in false)

theorem gg_r35_Opens : g_r35_Opens = (Am.ext (Am.ext noEnv 47 false G_r35_Sound) 48 false G_r35_in) := Eq.trans rfl rfl

theorem x_r35_Opens : type_of% (And.intro @w <| And.intro @q_r35_Sound <| And.intro @q_r35_in <| @gg_r35_Opens) := And.intro @w <| And.intro @q_r35_Sound <| And.intro @q_r35_in <| @gg_r35_Opens

theorem m_r35_Opens (p0 : TVault) (p1 : Int) (p2 : ByteArray) (p3 : Int) (p4 : Int) (r : Bool) (hh : r35_Opens p0 p1 p2 p3 p4 = some r) : vfunc .clean tab g_r35_Opens FU Tryd.f31 none [.agg [.sl false false p0.f_Things.length (encL eTThing p0.f_Things)], .int .i64 p1, .str p2, .int .i64 p3, .int .i64 p4] = some (.clean (.bool r), none) := by
  refine vfunc_of rfl Tryd.ntmps31 Tryd.results31 ?_
  unfold r35_Opens at hh
  obtain ⟨r1, hr1, hh⟩ := bindS hh
  try simp only [x_r35_Opens, seval, -Int.reduceToNat, hr1]
  obtain ⟨o2, ho2, hh⟩ := bindS hh
  refine tstO_cut 0 (fun s t H e => match s with | s23j1 => ∃ v5j1 : Nat, t 1 = .int .i64 p1 ∧ t 2 = .str p2 ∧ t 3 = .int .i64 p3 ∧ t 4 = .int .i64 p4 ∧ t 5 = .ptr 5 v5j1 0 ∧ t 23 = .bool s23j1 ∧ H 5 = some ⟨v5j1, 26, [.sl false false p0.f_Things.length (encL eTThing p0.f_Things)], false, false, false⟩) (fun s => s = o2) ?_ ?_
  · rintro s23j1 t H e ⟨v5j1, t1j1, t2j1, t3j1, t4j1, t5j1, t23j1, H5j1⟩ rfl
    try dsimp only at hh
    try simp only [x_r35_Opens, seval, -Int.reduceToNat, hr1, t1j1, t2j1, t3j1, t4j1, t5j1, t23j1, H5j1]
    refine tstC_br (fun hb3 => ?_) (fun hb3 => ?_)
    · replace hh := ite_t hb3 hh
      cases hh
      try simp only [x_r35_Opens, seval, -Int.reduceToNat, hr1, t1j1, t2j1, t3j1, t4j1, t5j1, t23j1, H5j1]
    · replace hh := ite_f hb3 hh
      obtain ⟨x4, hx4, hh⟩ := bindS hh
      have bx4 := idx_bd hx4
      have ax4 := idx_enc eTThing hx4
      have fx4 := idx_fit eTThing hx4
      simp only [vmz] at ax4 fx4
      skip
      try simp only [x_r35_Opens, seval, -Int.reduceToNat, hr1, t1j1, t2j1, t3j1, t4j1, t5j1, t23j1, H5j1, bx4, ax4, fx4]
      refine tstO_br (fun hb5 => ?_) (fun hb5 => ?_)
      · replace hh := ite_t hb5 hh
        try simp only [x_r35_Opens, seval, -Int.reduceToNat, hr1, t1j1, t2j1, t3j1, t4j1, t5j1, t23j1, H5j1, bx4, ax4, fx4]
        refine tstO_br (fun hb6 => ?_) (fun hb6 => ?_)
        · replace hh := ite_t hb6 hh
          cases hh
          try simp only [x_r35_Opens, seval, -Int.reduceToNat, hr1, t1j1, t2j1, t3j1, t4j1, t5j1, t23j1, H5j1, bx4, ax4, fx4]
        · replace hh := ite_f hb6 hh
          cases hh
          try simp only [x_r35_Opens, seval, -Int.reduceToNat, hr1, t1j1, t2j1, t3j1, t4j1, t5j1, t23j1, H5j1, bx4, ax4, fx4]
      · replace hh := ite_f hb5 hh
        cases hh
        try simp only [x_r35_Opens, seval, -Int.reduceToNat, hr1, t1j1, t2j1, t3j1, t4j1, t5j1, t23j1, H5j1, bx4, ax4, fx4]
  ·
    clear hh
    have hh := ho2
    try simp only [x_r35_Opens, seval, -Int.reduceToNat, hr1]
    refine tstO_br' (fun hb7 => ?_) (fun hb7 => ?_)
    · replace hh := ite_t hb7 hh
      cases hh
      try simp only [x_r35_Opens, seval, -Int.reduceToNat, hr1]
      rw [CK_normal]
      refine ⟨_, rfl, ?_⟩
      refine ⟨0, ?_, ?_, ?_, ?_, ?_, ?_, ?_⟩
      all_goals (first | rfl | (simp only [x_r35_Opens, seval, -Int.reduceToNat, hr1] <;> rfl))
    · replace hh := ite_f hb7 hh
      obtain ⟨r8, hr8, hh⟩ := bindS hh
      cases hh
      try simp only [x_r35_Opens, seval, -Int.reduceToNat, hr1, hr8]
      rw [CK_normal]
      refine ⟨_, rfl, ?_⟩
      refine ⟨0, ?_, ?_, ?_, ?_, ?_, ?_, ?_⟩
      all_goals (first | rfl | (simp only [x_r35_Opens, seval, -Int.reduceToNat, hr1, hr8] <;> rfl))

theorem ok_r35_Opens : COk Tryd.prog 31 G_r35_Opens := COk.of (mode := .clean) tok ge_r35_Opens mixed Tryd.func31 (by kernel_rfl) ⟨by kernel_rfl, by kernel_rfl⟩ (fun _ => Nat.le_of_ble_eq_true (by kernel_rfl)) (fun x r h => m_r35_Opens x.1 x.2.1 x.2.2.1 x.2.2.2.1 x.2.2.2.2 r h)

noncomputable def G_vault_Opens := mkG (asC (aAgg eTVault) (asC (aI .i64) (asC aStr (asC (aI .i64) (as1 (aI .i64)))))) (fun x : TVault × Int × ByteArray × Int × Int => vault_Opens x.1 x.2.1 x.2.2.1 x.2.2.2.1 x.2.2.2.2) (fun r : Bool => .clean (.bool r))

theorem q_vault_Opens (p0_0 : (List TThing)) (p1 : Int) (p2 : ByteArray) (p3 : Int) (p4 : Int) : G_vault_Opens none [.agg [.sl false false p0_0.length (encL eTThing p0_0)], .int .i64 p1, .str p2, .int .i64 p3, .int .i64 p4] = (vault_Opens (TVault.mk p0_0) p1 p2 p3 p4).map fun r : Bool => (.clean (.bool r), none) := mkG_eq _ _ _ ((TVault.mk p0_0), p1, p2, p3, p4)

noncomputable def g_vault_Opens : Env := (Am.ext (Am.ext noEnv 40 false G_vault_Sound) 46 false G_vault_within)

theorem ge_vault_Opens : GOk Tryd.prog g_vault_Opens := ((GOk.none.add ok_vault_Sound false).add ok_vault_within false)

theorem gg_vault_Opens : g_vault_Opens = (Am.ext (Am.ext noEnv 40 false G_vault_Sound) 46 false G_vault_within) := Eq.trans rfl rfl

theorem x_vault_Opens : type_of% (And.intro @w <| And.intro @q_vault_Sound <| And.intro @q_vault_within <| @gg_vault_Opens) := And.intro @w <| And.intro @q_vault_Sound <| And.intro @q_vault_within <| @gg_vault_Opens

theorem m_vault_Opens (p0 : TVault) (p1 : Int) (p2 : ByteArray) (p3 : Int) (p4 : Int) (r : Bool) (hh : vault_Opens p0 p1 p2 p3 p4 = some r) : vfunc .clean tab g_vault_Opens FU Tryd.f30 none [.agg [.sl false false p0.f_Things.length (encL eTThing p0.f_Things)], .int .i64 p1, .str p2, .int .i64 p3, .int .i64 p4] = some (.clean (.bool r), none) := by
  refine vfunc_of rfl Tryd.ntmps30 Tryd.results30 ?_
  unfold vault_Opens at hh
  obtain ⟨r1, hr1, hh⟩ := bindS hh
  try simp only [x_vault_Opens, seval, -Int.reduceToNat, hr1]
  obtain ⟨o2, ho2, hh⟩ := bindS hh
  refine tstO_cut 0 (fun s t H e => match s with | s23j1 => ∃ v5j1 : Nat, t 1 = .int .i64 p1 ∧ t 2 = .str p2 ∧ t 3 = .int .i64 p3 ∧ t 4 = .int .i64 p4 ∧ t 5 = .ptr 5 v5j1 0 ∧ t 23 = .bool s23j1 ∧ H 5 = some ⟨v5j1, 26, [.sl false false p0.f_Things.length (encL eTThing p0.f_Things)], false, false, false⟩) (fun s => s = o2) ?_ ?_
  · rintro s23j1 t H e ⟨v5j1, t1j1, t2j1, t3j1, t4j1, t5j1, t23j1, H5j1⟩ rfl
    try dsimp only at hh
    try simp only [x_vault_Opens, seval, -Int.reduceToNat, hr1, t1j1, t2j1, t3j1, t4j1, t5j1, t23j1, H5j1]
    refine tstC_br (fun hb3 => ?_) (fun hb3 => ?_)
    · replace hh := ite_t hb3 hh
      cases hh
      try simp only [x_vault_Opens, seval, -Int.reduceToNat, hr1, t1j1, t2j1, t3j1, t4j1, t5j1, t23j1, H5j1]
    · replace hh := ite_f hb3 hh
      obtain ⟨x4, hx4, hh⟩ := bindS hh
      have bx4 := idx_bd hx4
      have ax4 := idx_enc eTThing hx4
      have fx4 := idx_fit eTThing hx4
      simp only [vmz] at ax4 fx4
      skip
      try simp only [x_vault_Opens, seval, -Int.reduceToNat, hr1, t1j1, t2j1, t3j1, t4j1, t5j1, t23j1, H5j1, bx4, ax4, fx4]
      refine tstO_br (fun hb5 => ?_) (fun hb5 => ?_)
      · replace hh := ite_t hb5 hh
        try simp only [x_vault_Opens, seval, -Int.reduceToNat, hr1, t1j1, t2j1, t3j1, t4j1, t5j1, t23j1, H5j1, bx4, ax4, fx4]
        refine tstO_br (fun hb6 => ?_) (fun hb6 => ?_)
        · replace hh := ite_t hb6 hh
          cases hh
          try simp only [x_vault_Opens, seval, -Int.reduceToNat, hr1, t1j1, t2j1, t3j1, t4j1, t5j1, t23j1, H5j1, bx4, ax4, fx4]
        · replace hh := ite_f hb6 hh
          cases hh
          try simp only [x_vault_Opens, seval, -Int.reduceToNat, hr1, t1j1, t2j1, t3j1, t4j1, t5j1, t23j1, H5j1, bx4, ax4, fx4]
      · replace hh := ite_f hb5 hh
        cases hh
        try simp only [x_vault_Opens, seval, -Int.reduceToNat, hr1, t1j1, t2j1, t3j1, t4j1, t5j1, t23j1, H5j1, bx4, ax4, fx4]
  ·
    clear hh
    have hh := ho2
    try simp only [x_vault_Opens, seval, -Int.reduceToNat, hr1]
    refine tstO_br' (fun hb7 => ?_) (fun hb7 => ?_)
    · replace hh := ite_t hb7 hh
      cases hh
      try simp only [x_vault_Opens, seval, -Int.reduceToNat, hr1]
      rw [CK_normal]
      refine ⟨_, rfl, ?_⟩
      refine ⟨0, ?_, ?_, ?_, ?_, ?_, ?_, ?_⟩
      all_goals (first | rfl | (simp only [x_vault_Opens, seval, -Int.reduceToNat, hr1] <;> rfl))
    · replace hh := ite_f hb7 hh
      obtain ⟨r8, hr8, hh⟩ := bindS hh
      cases hh
      try simp only [x_vault_Opens, seval, -Int.reduceToNat, hr1, hr8]
      rw [CK_normal]
      refine ⟨_, rfl, ?_⟩
      refine ⟨0, ?_, ?_, ?_, ?_, ?_, ?_, ?_⟩
      all_goals (first | rfl | (simp only [x_vault_Opens, seval, -Int.reduceToNat, hr1, hr8] <;> rfl))

theorem ok_vault_Opens : COk Tryd.prog 30 G_vault_Opens := COk.of (mode := .clean) tok ge_vault_Opens mixed Tryd.func30 (by kernel_rfl) ⟨by kernel_rfl, by kernel_rfl⟩ (fun _ => Nat.le_of_ble_eq_true (by kernel_rfl)) (fun x r h => m_vault_Opens x.1 x.2.1 x.2.2.1 x.2.2.2.1 x.2.2.2.2 r h)

noncomputable def G_vault_Leaf := mkG (asC (aAgg eTVault) (asC aStr (asC (aI .i64) (as1 (aI .i64))))) (fun x : TVault × ByteArray × Int × Int => vault_Leaf x.1 x.2.1 x.2.2.1 x.2.2.2) (fun r : TVault × Int × Int => .clean (.tup [.agg [.sl false false r.1.f_Things.length (encL eTThing r.1.f_Things)], .int .i64 r.2.1, .int .i64 r.2.2]))

theorem q_vault_Leaf (p0_0 : (List TThing)) (p1 : ByteArray) (p2 : Int) (p3 : Int) : G_vault_Leaf none [.agg [.sl false false p0_0.length (encL eTThing p0_0)], .str p1, .int .i64 p2, .int .i64 p3] = (vault_Leaf (TVault.mk p0_0) p1 p2 p3).map fun r : TVault × Int × Int => (.clean (.tup [.agg [.sl false false r.1.f_Things.length (encL eTThing r.1.f_Things)], .int .i64 r.2.1, .int .i64 r.2.2]), none) := mkG_eq _ _ _ ((TVault.mk p0_0), p1, p2, p3)

noncomputable def g_vault_Leaf : Env := (Am.ext (Am.ext (Am.ext noEnv 40 false G_vault_Sound) 41 false G_vault_leaf) 42 false G_vault_put)

theorem ge_vault_Leaf : GOk Tryd.prog g_vault_Leaf := (((GOk.none.add ok_vault_Sound false).add ok_vault_leaf false).add ok_vault_put false)

theorem gg_vault_Leaf : g_vault_Leaf = (Am.ext (Am.ext (Am.ext noEnv 40 false G_vault_Sound) 41 false G_vault_leaf) 42 false G_vault_put) := Eq.trans rfl rfl

theorem x_vault_Leaf : type_of% (And.intro @w <| And.intro @q_vault_Sound <| And.intro @q_vault_leaf <| And.intro @q_vault_put <| @gg_vault_Leaf) := And.intro @w <| And.intro @q_vault_Sound <| And.intro @q_vault_leaf <| And.intro @q_vault_put <| @gg_vault_Leaf

theorem m_vault_Leaf (p0 : TVault) (p1 : ByteArray) (p2 : Int) (p3 : Int) (r : TVault × Int × Int) (hh : vault_Leaf p0 p1 p2 p3 = some r) : vfunc .clean tab g_vault_Leaf FU Tryd.f28 none [.agg [.sl false false p0.f_Things.length (encL eTThing p0.f_Things)], .str p1, .int .i64 p2, .int .i64 p3] = some (.clean (.tup [.agg [.sl false false r.1.f_Things.length (encL eTThing r.1.f_Things)], .int .i64 r.2.1, .int .i64 r.2.2]), none) := by
  refine vfunc_of rfl Tryd.ntmps28 Tryd.results28 ?_
  unfold vault_Leaf at hh
  obtain ⟨r1, hr1, hh⟩ := bindS hh
  try simp only [x_vault_Leaf, seval, -Int.reduceToNat, hr1]
  obtain ⟨o2, ho2, hh⟩ := bindS hh
  refine tstO_cut 0 (fun s t H e => match s with | s16j1 => ∃ v4j1 : Nat, ∃ v8j1 : Nat, ∃ v11j1 : Nat, t 4 = .ptr 4 v4j1 0 ∧ t 8 = .ptr 8 v8j1 0 ∧ t 11 = .ptr 11 v11j1 0 ∧ t 16 = .bool s16j1 ∧ H 4 = some ⟨v4j1, 26, [.sl false false p0.f_Things.length (encL eTThing p0.f_Things)], false, false, false⟩ ∧ H 8 = some ⟨v8j1, 26, [.sl true true 0 []], false, false, false⟩ ∧ H 11 = some ⟨v11j1, 52, [.str p1, .int .i64 p2, .int .i64 p3, .int .i64 (-1), .int .i64 (-1)], false, false, false⟩) (fun s => s = o2) ?_ ?_
  · rintro s16j1 t H e ⟨v4j1, v8j1, v11j1, t4j1, t8j1, t11j1, t16j1, H4j1, H8j1, H11j1⟩ rfl
    try dsimp only at hh
    try simp only [x_vault_Leaf, seval, -Int.reduceToNat, hr1, t4j1, t8j1, t11j1, t16j1, H4j1, H8j1, H11j1]
    refine tstC_br (fun hb3 => ?_) (fun hb3 => ?_)
    · replace hh := ite_t hb3 hh
      cases hh
      try simp only [x_vault_Leaf, seval, -Int.reduceToNat, hr1, t4j1, t8j1, t11j1, t16j1, H4j1, H8j1, H11j1]
    · replace hh := ite_f hb3 hh
      try simp only [x_vault_Leaf, seval, -Int.reduceToNat, hr1, t4j1, t8j1, t11j1, t16j1, H4j1, H8j1, H11j1]
      refine tstC_br (fun hb4 => ?_) (fun hb4 => ?_)
      · replace hh := ite_t hb4 hh
        cases hh
        try simp only [x_vault_Leaf, seval, -Int.reduceToNat, hr1, t4j1, t8j1, t11j1, t16j1, H4j1, H8j1, H11j1]
      · replace hh := ite_f hb4 hh
        obtain ⟨r5, hr5, hh⟩ := bindS hh
        cases hh
        try simp only [x_vault_Leaf, seval, -Int.reduceToNat, hr1, t4j1, t8j1, t11j1, t16j1, H4j1, H8j1, H11j1, hr5]
  ·
    clear hh
    have hh := ho2
    try simp only [x_vault_Leaf, seval, -Int.reduceToNat, hr1]
    refine tstO_br' (fun hb6 => ?_) (fun hb6 => ?_)
    · replace hh := ite_t hb6 hh
      cases hh
      try simp only [x_vault_Leaf, seval, -Int.reduceToNat, hr1]
      rw [CK_normal]
      refine ⟨_, rfl, ?_⟩
      refine ⟨0, 0, 1, ?_, ?_, ?_, ?_, ?_, ?_, ?_⟩
      all_goals (first | rfl | (simp only [x_vault_Leaf, seval, -Int.reduceToNat, hr1] <;> rfl))
    · replace hh := ite_f hb6 hh
      obtain ⟨r7, hr7, hh⟩ := bindS hh
      cases hh
      try simp only [x_vault_Leaf, seval, -Int.reduceToNat, hr1, hr7]
      rw [CK_normal]
      refine ⟨_, rfl, ?_⟩
      refine ⟨0, 0, 1, ?_, ?_, ?_, ?_, ?_, ?_, ?_⟩
      all_goals (first | rfl | (simp only [x_vault_Leaf, seval, -Int.reduceToNat, hr1, hr7] <;> rfl))

theorem ok_vault_Leaf : COk Tryd.prog 28 G_vault_Leaf := COk.of (mode := .clean) tok ge_vault_Leaf mixed Tryd.func28 (by kernel_rfl) ⟨by kernel_rfl, by kernel_rfl⟩ (fun _ => Nat.le_of_ble_eq_true (by kernel_rfl)) (fun x r h => m_vault_Leaf x.1 x.2.1 x.2.2.1 x.2.2.2 r h)

noncomputable def G_wire_Nums := mkG (as1 (aSl (eI .i64))) (fun x : (List Int) => wire_Nums x) (fun r : ByteArray => .clean (.str r))

theorem q_wire_Nums (p0 : (List Int)) : G_wire_Nums none [.sl false false p0.length (encL (eI .i64) p0)] = (wire_Nums p0).map fun r : ByteArray => (.clean (.str r), none) := mkG_eq _ _ _ p0

theorem ok_wire_Nums : COk Tryd.prog 32 G_wire_Nums := nums_ok

noncomputable def G_r01_digits := mkG (as1 (aI .i64)) (fun x : Int => r01_digits x) (fun r : ByteArray => .clean (.str r))

theorem q_r01_digits (p0 : Int) : G_r01_digits none [.int .i64 p0] = (r01_digits p0).map fun r : ByteArray => (.clean (.str r), none) := mkG_eq _ _ _ p0

theorem ok_r01_digits : COk Tryd.prog 51 G_r01_digits := digits_ok

noncomputable def G_r01_Int := mkG (as1 (aI .i64)) (fun x : Int => r01_Int x) (fun r : ByteArray => .clean (.str r))

theorem q_r01_Int (p0 : Int) : G_r01_Int none [.int .i64 p0] = (r01_Int p0).map fun r : ByteArray => (.clean (.str r), none) := mkG_eq _ _ _ (p0)

noncomputable def g_r01_Int : Env := (Am.ext noEnv 51 false G_r01_digits)

theorem ge_r01_Int : GOk Tryd.prog g_r01_Int := (GOk.none.add ok_r01_digits false)

theorem gg_r01_Int : g_r01_Int = (Am.ext noEnv 51 false G_r01_digits) := Eq.trans rfl rfl

theorem x_r01_Int : type_of% (And.intro @w <| And.intro @q_r01_digits <| @gg_r01_Int) := And.intro @w <| And.intro @q_r01_digits <| @gg_r01_Int

theorem m_r01_Int (p0 : Int) (r : ByteArray) (hh : r01_Int p0 = some r) : vfunc .clean tab g_r01_Int FU Tryd.f52 none [.int .i64 p0] = some (.clean (.str r), none) := by
  refine vfunc_of rfl Tryd.ntmps52 Tryd.results52 ?_
  unfold r01_Int at hh
  try simp only [x_r01_Int, seval, -Int.reduceToNat]
  refine tstC_br (fun hb1 => ?_) (fun hb1 => ?_)
  · replace hh := ite_t hb1 hh
    obtain ⟨r2, hr2, hh⟩ := bindS hh
    obtain ⟨x3, hx3, hh⟩ := bindS hh
    obtain ⟨q4a, q4b⟩ := catS_ok hx3
    obtain ⟨x5, hx5, hh⟩ := bindS hh
    obtain ⟨q6a, q6b⟩ := catS_ok hx5
    cases hh
    try simp only [x_r01_Int, seval, -Int.reduceToNat, hr2, q4a, q4b, q6a, q6b]
  · replace hh := ite_f hb1 hh
    obtain ⟨r7, hr7, hh⟩ := bindS hh
    obtain ⟨x8, hx8, hh⟩ := bindS hh
    obtain ⟨q9a, q9b⟩ := catS_ok hx8
    cases hh
    try simp only [x_r01_Int, seval, -Int.reduceToNat, hr7, q9a, q9b]

theorem ok_r01_Int : COk Tryd.prog 52 G_r01_Int := COk.of (mode := .clean) tok ge_r01_Int mixed Tryd.func52 (by kernel_rfl) ⟨by kernel_rfl, by kernel_rfl⟩ (fun _ => Nat.le_of_ble_eq_true (by kernel_rfl)) (fun x r h => m_r01_Int x r h)

noncomputable def G_r01_Nums := mkG (as1 (aSl (eI .i64))) (fun x : (List Int) => r01_Nums x) (fun r : ByteArray => .clean (.str r))

theorem q_r01_Nums (p0 : (List Int)) : G_r01_Nums none [.sl false false p0.length (encL (eI .i64) p0)] = (r01_Nums p0).map fun r : ByteArray => (.clean (.str r), none) := mkG_eq _ _ _ (p0)

noncomputable def g_r01_Nums : Env := (Am.ext (Am.ext noEnv 51 false G_r01_digits) 52 false G_r01_Int)

theorem ge_r01_Nums : GOk Tryd.prog g_r01_Nums := ((GOk.none.add ok_r01_digits false).add ok_r01_Int false)

theorem gg_r01_Nums : g_r01_Nums = (Am.ext (Am.ext noEnv 51 false G_r01_digits) 52 false G_r01_Int) := Eq.trans rfl rfl

theorem x_r01_Nums : type_of% (And.intro @w <| And.intro @q_r01_digits <| And.intro @q_r01_Int <| @gg_r01_Nums) := And.intro @w <| And.intro @q_r01_digits <| And.intro @q_r01_Int <| @gg_r01_Nums

theorem m_r01_Nums (p0 : (List Int)) (r : ByteArray) (hh : r01_Nums p0 = some r) : vfunc .clean tab g_r01_Nums FU Tryd.f33 none [.sl false false p0.length (encL (eI .i64) p0)] = some (.clean (.str r), none) := by
  refine vfunc_of rfl Tryd.ntmps33 Tryd.results33 ?_
  unfold r01_Nums at hh
  obtain ⟨r1, hr1, hh⟩ := bindS hh
  obtain ⟨x2, hx2, hh⟩ := bindS hh
  obtain ⟨q3a, q3b⟩ := catS_ok hx2
  try simp only [x_r01_Nums, seval, -Int.reduceToNat, hr1, q3a, q3b]
  obtain ⟨o9, ho9, hh⟩ := bindS hh
  refine runLoop_sim (fun s t H e => match s with | (s3a, s4a) => t 0 = .sl false false p0.length (encL (eI .i64) p0) ∧ t 3 = .str s3a ∧ t 4 = .int .i64 s4a) (fun o x t H e => match o with | s3ax => x = .exit 0 ∧ t 3 = .str s3ax) ho9 ?_ ?_ ?_
  ·
    refine ⟨?_, ?_, ?_⟩
    all_goals (first | rfl | (simp only [x_r01_Nums, seval, -Int.reduceToNat, hr1, q3a, q3b] <;> rfl))
  · rintro ⟨s3a, s4a⟩ t H e ⟨t0a, t3a, t4a⟩ c hh
    simp only [r01_Nums_L1] at hh
    try simp only [x_r01_Nums, seval, -Int.reduceToNat, hr1, q3a, q3b, t0a, t3a, t4a]
    refine tstC_br (fun hb10 => ?_) (fun hb10 => ?_)
    · replace hh := ite_t hb10 hh
      obtain ⟨x11, hx11, hh⟩ := bindS hh
      have bx11 := idx_bd hx11
      have ax11 := idx_enc (eI .i64) hx11
      have fx11 := idx_fit (eI .i64) hx11
      simp only [vmz] at ax11 fx11
      skip
      obtain ⟨r12, hr12, hh⟩ := bindS hh
      obtain ⟨x13, hx13, hh⟩ := bindS hh
      obtain ⟨q14a, q14b⟩ := catS_ok hx13
      cases hh
      try simp only [x_r01_Nums, seval, -Int.reduceToNat, hr1, q3a, q3b, t0a, t3a, t4a, bx11, ax11, fx11, hr12, q14a, q14b]
      rw [LK_normal]
      refine ⟨_, rfl, ?_⟩
      refine ⟨?_, ?_, ?_⟩
      all_goals (first | rfl | (simp only [x_r01_Nums, seval, -Int.reduceToNat, hr1, q3a, q3b, t0a, t3a, t4a, bx11, ax11, fx11, hr12, q14a, q14b] <;> rfl))
    · replace hh := ite_f hb10 hh
      cases hh
      try simp only [x_r01_Nums, seval, -Int.reduceToNat, hr1, q3a, q3b, t0a, t3a, t4a]
      rw [LK_exit]
      refine ⟨_, rfl, ?_⟩
      refine ⟨rfl, ?_⟩
      all_goals (first | rfl | (simp only [x_r01_Nums, seval, -Int.reduceToNat, hr1, q3a, q3b, t0a, t3a, t4a] <;> rfl))
  · rintro x t H e hx
    obtain ⟨s3ax, rfl⟩ : ∃ z, z = o9 := ⟨_, rfl⟩
    dsimp only at hx hh
    obtain ⟨rfl, t3ax⟩ := hx
    obtain ⟨x15, hx15, hh⟩ := bindS hh
    obtain ⟨q16a, q16b⟩ := catS_ok hx15
    cases hh
    try simp only [x_r01_Nums, seval, -Int.reduceToNat, hr1, q3a, q3b, t3ax, q16a, q16b]

theorem ok_r01_Nums : COk Tryd.prog 33 G_r01_Nums := COk.of (mode := .clean) tok ge_r01_Nums mixed Tryd.func33 (by kernel_rfl) ⟨by kernel_rfl, by kernel_rfl⟩ (fun _ => Nat.le_of_ble_eq_true (by kernel_rfl)) (fun x r h => m_r01_Nums x r h)

noncomputable def G_tape_Text := mkG (as1 (aSl (eI .i64))) (fun x : (List Int) => tape_Text x) (fun r : ByteArray => .clean (.str r))

theorem q_tape_Text (p0 : (List Int)) : G_tape_Text none [.sl false false p0.length (encL (eI .i64) p0)] = (tape_Text p0).map fun r : ByteArray => (.clean (.str r), none) := mkG_eq _ _ _ (p0)

noncomputable def g_tape_Text : Env := (Am.ext noEnv 32 false G_wire_Nums)

theorem ge_tape_Text : GOk Tryd.prog g_tape_Text := (GOk.none.add ok_wire_Nums false)

theorem gg_tape_Text : g_tape_Text = (Am.ext noEnv 32 false G_wire_Nums) := Eq.trans rfl rfl

theorem x_tape_Text : type_of% (And.intro @w <| And.intro @q_wire_Nums <| @gg_tape_Text) := And.intro @w <| And.intro @q_wire_Nums <| @gg_tape_Text

theorem m_tape_Text (p0 : (List Int)) (r : ByteArray) (hh : tape_Text p0 = some r) : vfunc .clean tab g_tape_Text FU Tryd.f20 none [.sl false false p0.length (encL (eI .i64) p0)] = some (.clean (.str r), none) := by
  refine vfunc_of rfl Tryd.ntmps20 Tryd.results20 ?_
  unfold tape_Text at hh
  obtain ⟨r1, hr1, hh⟩ := bindS hh
  cases hh
  try simp only [x_tape_Text, seval, -Int.reduceToNat, hr1]

theorem ok_tape_Text : COk Tryd.prog 20 G_tape_Text := COk.of (mode := .clean) tok ge_tape_Text mixed Tryd.func20 (by kernel_rfl) ⟨by kernel_rfl, by kernel_rfl⟩ (fun _ => Nat.le_of_ble_eq_true (by kernel_rfl)) (fun x r h => m_tape_Text x r h)

noncomputable def G_r50_Text := mkG (as1 (aSl (eI .i64))) (fun x : (List Int) => r50_Text x) (fun r : ByteArray => .clean (.str r))

theorem q_r50_Text (p0 : (List Int)) : G_r50_Text none [.sl false false p0.length (encL (eI .i64) p0)] = (r50_Text p0).map fun r : ByteArray => (.clean (.str r), none) := mkG_eq _ _ _ (p0)

noncomputable def g_r50_Text : Env := (Am.ext noEnv 33 false G_r01_Nums)

theorem ge_r50_Text : GOk Tryd.prog g_r50_Text := (GOk.none.add ok_r01_Nums false)

theorem gg_r50_Text : g_r50_Text = (Am.ext noEnv 33 false G_r01_Nums) := Eq.trans rfl rfl

theorem x_r50_Text : type_of% (And.intro @w <| And.intro @q_r01_Nums <| @gg_r50_Text) := And.intro @w <| And.intro @q_r01_Nums <| @gg_r50_Text

theorem m_r50_Text (p0 : (List Int)) (r : ByteArray) (hh : r50_Text p0 = some r) : vfunc .clean tab g_r50_Text FU Tryd.f21 none [.sl false false p0.length (encL (eI .i64) p0)] = some (.clean (.str r), none) := by
  refine vfunc_of rfl Tryd.ntmps21 Tryd.results21 ?_
  unfold r50_Text at hh
  obtain ⟨r1, hr1, hh⟩ := bindS hh
  cases hh
  try simp only [x_r50_Text, seval, -Int.reduceToNat, hr1]

theorem ok_r50_Text : COk Tryd.prog 21 G_r50_Text := COk.of (mode := .clean) tok ge_r50_Text mixed Tryd.func21 (by kernel_rfl) ⟨by kernel_rfl, by kernel_rfl⟩ (fun _ => Nat.le_of_ble_eq_true (by kernel_rfl)) (fun x r h => m_r50_Text x r h)

noncomputable def G_tape_Right := mkG (asC (aSl (eI .i64)) (as1 (aI .i64))) (fun x : (List Int) × Int => tape_Right x.1 x.2) (fun r : Bool => .clean (.bool r))

theorem q_tape_Right (p0 : (List Int)) (p1 : Int) : G_tape_Right none [.sl false false p0.length (encL (eI .i64) p0), .int .i64 p1] = (tape_Right p0 p1).map fun r : Bool => (.clean (.bool r), none) := mkG_eq _ _ _ (p0, p1)

theorem m_tape_Right (p0 : (List Int)) (p1 : Int) (r : Bool) (hh : tape_Right p0 p1 = some r) : vfunc .clean tab noEnv FU Tryd.f18 none [.sl false false p0.length (encL (eI .i64) p0), .int .i64 p1] = some (.clean (.bool r), none) := by
  refine vfunc_of rfl Tryd.ntmps18 Tryd.results18 ?_
  unfold tape_Right at hh
  try simp only [w, seval, -Int.reduceToNat]
  obtain ⟨o1, ho1, hh⟩ := bindS hh
  refine tstO_cut 0 (fun s t H e => match s with | s19j1 => t 0 = .sl false false p0.length (encL (eI .i64) p0) ∧ t 1 = .int .i64 p1 ∧ t 19 = .bool s19j1) (fun s => s = o1) ?_ ?_
  · rintro s19j1 t H e ⟨t0j1, t1j1, t19j1⟩ rfl
    try dsimp only at hh
    try simp only [w, seval, -Int.reduceToNat, t0j1, t1j1, t19j1]
    refine tstC_br (fun hb2 => ?_) (fun hb2 => ?_)
    · replace hh := ite_t hb2 hh
      cases hh
      try simp only [w, seval, -Int.reduceToNat, t0j1, t1j1, t19j1]
    · replace hh := ite_f hb2 hh
      try simp only [w, seval, -Int.reduceToNat, t0j1, t1j1, t19j1]
      obtain ⟨o7, ho7, hh⟩ := bindS hh
      refine runLoop_sim (fun s t H e => match s with | s22b => t 1 = .int .i64 p1 ∧ t 20 = .sl false false p0.length (encL (eI .i64) p0) ∧ t 21 = .int .i64 (p0.length : Int) ∧ t 22 = .int .i64 s22b) (fun o x t H e => match o with | (.inl _) => x = .exit 0 | (.inr r) => x = .ret ∧ endM .clean tab none [.tmp 4] ⟨t, H, e⟩ = some (.clean (.bool r), none)) ho7 ?_ ?_ ?_
      ·
        refine ⟨?_, ?_, ?_, ?_⟩
        all_goals (first | rfl | (simp only [w, seval, -Int.reduceToNat, t0j1, t1j1, t19j1] <;> rfl))
      · rintro s22b t H e ⟨t1b, t20b, t21b, t22b⟩ c hh
        simp only [tape_Right_L2] at hh
        try simp only [w, seval, -Int.reduceToNat, t1b, t20b, t21b, t22b]
        refine tstC_br (fun hb8 => ?_) (fun hb8 => ?_)
        · replace hh := ite_t hb8 hh
          obtain ⟨x9, hx9, hh⟩ := bindS hh
          have bx9 := idx_bd hx9
          have ax9 := idx_enc (eI .i64) hx9
          have fx9 := idx_fit (eI .i64) hx9
          simp only [vmz] at ax9 fx9
          skip
          try simp only [w, seval, -Int.reduceToNat, t1b, t20b, t21b, t22b, bx9, ax9, fx9]
          refine tstO_br' (fun hb10 => ?_) (fun hb10 => ?_)
          · replace hh := ite_t hb10 hh
            cases hh
            try simp only [w, seval, -Int.reduceToNat, t1b, t20b, t21b, t22b, bx9, ax9, fx9]
            rw [LK_ret]
            refine ⟨_, rfl, ?_⟩
            refine ⟨rfl, ?_⟩
            try simp only [w, seval, -Int.reduceToNat, t1b, t20b, t21b, t22b, bx9, ax9, fx9]
          · replace hh := ite_f hb10 hh
            try simp only [w, seval, -Int.reduceToNat, t1b, t20b, t21b, t22b, bx9, ax9, fx9]
            refine tstC_br (fun hb11 => ?_) (fun hb11 => ?_)
            · replace hh := ite_t hb11 hh
              cases hh
              try simp only [w, seval, -Int.reduceToNat, t1b, t20b, t21b, t22b, bx9, ax9, fx9]
              rw [LK_ret]
              refine ⟨_, rfl, ?_⟩
              refine ⟨rfl, ?_⟩
              try simp only [w, seval, -Int.reduceToNat, t1b, t20b, t21b, t22b, bx9, ax9, fx9]
            · replace hh := ite_f hb11 hh
              cases hh
              try simp only [w, seval, -Int.reduceToNat, t1b, t20b, t21b, t22b, bx9, ax9, fx9]
              rw [LK_normal]
              refine ⟨_, rfl, ?_⟩
              refine ⟨?_, ?_, ?_, ?_⟩
              all_goals (first | rfl | (simp only [w, seval, -Int.reduceToNat, t1b, t20b, t21b, t22b, bx9, ax9, fx9] <;> rfl))
        · replace hh := ite_f hb8 hh
          cases hh
          try simp only [w, seval, -Int.reduceToNat, t1b, t20b, t21b, t22b]
          rw [LK_exit]
          refine ⟨_, rfl, ?_⟩
          exact rfl
      · rintro x t H e hx
        rcases o7 with _ | rb
        ·
          dsimp only at hx hh
          subst hx
          cases hh
          try simp only [w, seval, -Int.reduceToNat]
        ·
          dsimp only at hx hh
          obtain ⟨rfl, hE⟩ := hx
          cases hh
          try simp only [runW_pass_ret, runW_pass_exit, runW_blk_ret, runW_nil, endW_ret]
          exact hE
  ·
    clear hh
    have hh := ho1
    try simp only [w, seval, -Int.reduceToNat]
    refine tstO_br' (fun hb12 => ?_) (fun hb12 => ?_)
    · replace hh := ite_t hb12 hh
      cases hh
      try simp only [w, seval, -Int.reduceToNat]
      rw [CK_normal]
      refine ⟨_, rfl, ?_⟩
      refine ⟨?_, ?_, ?_⟩
      all_goals (first | rfl | (simp only [w, seval, -Int.reduceToNat] <;> rfl))
    · replace hh := ite_f hb12 hh
      try simp only [w, seval, -Int.reduceToNat]
      refine tstO_br' (fun hb13 => ?_) (fun hb13 => ?_)
      · replace hh := ite_t hb13 hh
        cases hh
        try simp only [w, seval, -Int.reduceToNat]
        rw [CK_normal]
        refine ⟨_, rfl, ?_⟩
        refine ⟨?_, ?_, ?_⟩
        all_goals (first | rfl | (simp only [w, seval, -Int.reduceToNat] <;> rfl))
      · replace hh := ite_f hb13 hh
        cases hh
        try simp only [w, seval, -Int.reduceToNat]
        rw [CK_normal]
        refine ⟨_, rfl, ?_⟩
        refine ⟨?_, ?_, ?_⟩
        all_goals (first | rfl | (simp only [w, seval, -Int.reduceToNat] <;> rfl))

theorem ok_tape_Right : COk Tryd.prog 18 G_tape_Right := COk.of (mode := .clean) tok GOk.none mixed Tryd.func18 (by kernel_rfl) ⟨by kernel_rfl, by kernel_rfl⟩ (fun _ => Nat.le_of_ble_eq_true (by kernel_rfl)) (fun x r h => m_tape_Right x.1 x.2 r h)

noncomputable def G_r50_Right := mkG (asC (aSl (eI .i64)) (as1 (aI .i64))) (fun x : (List Int) × Int => r50_Right x.1 x.2) (fun r : Bool => .clean (.bool r))

theorem q_r50_Right (p0 : (List Int)) (p1 : Int) : G_r50_Right none [.sl false false p0.length (encL (eI .i64) p0), .int .i64 p1] = (r50_Right p0 p1).map fun r : Bool => (.clean (.bool r), none) := mkG_eq _ _ _ (p0, p1)

theorem m_r50_Right (p0 : (List Int)) (p1 : Int) (r : Bool) (hh : r50_Right p0 p1 = some r) : vfunc .clean tab noEnv FU Tryd.f19 none [.sl false false p0.length (encL (eI .i64) p0), .int .i64 p1] = some (.clean (.bool r), none) := by
  refine vfunc_of rfl Tryd.ntmps19 Tryd.results19 ?_
  unfold r50_Right at hh
  try simp only [w, seval, -Int.reduceToNat]
  obtain ⟨o1, ho1, hh⟩ := bindS hh
  refine tstO_cut 0 (fun s t H e => match s with | s22j1 => t 0 = .sl false false p0.length (encL (eI .i64) p0) ∧ t 1 = .int .i64 p1 ∧ t 22 = .bool s22j1) (fun s => s = o1) ?_ ?_
  · rintro s22j1 t H e ⟨t0j1, t1j1, t22j1⟩ rfl
    try dsimp only at hh
    try simp only [w, seval, -Int.reduceToNat, t0j1, t1j1, t22j1]
    refine tstC_br (fun hb2 => ?_) (fun hb2 => ?_)
    · replace hh := ite_t hb2 hh
      cases hh
      try simp only [w, seval, -Int.reduceToNat, t0j1, t1j1, t22j1]
    · replace hh := ite_f hb2 hh
      try simp only [w, seval, -Int.reduceToNat, t0j1, t1j1, t22j1]
      obtain ⟨o7, ho7, hh⟩ := bindS hh
      refine runLoop_sim (fun s t H e => match s with | s5b => t 0 = .sl false false p0.length (encL (eI .i64) p0) ∧ t 1 = .int .i64 p1 ∧ t 5 = .int .i64 s5b) (fun o x t H e => match o with | (.inl _) => x = .exit 0 | (.inr r) => x = .ret ∧ endM .clean tab none [.tmp 4] ⟨t, H, e⟩ = some (.clean (.bool r), none)) ho7 ?_ ?_ ?_
      ·
        refine ⟨?_, ?_, ?_⟩
        all_goals (first | rfl | (simp only [w, seval, -Int.reduceToNat, t0j1, t1j1, t22j1] <;> rfl))
      · rintro s5b t H e ⟨t0b, t1b, t5b⟩ c hh
        simp only [r50_Right_L2] at hh
        try simp only [w, seval, -Int.reduceToNat, t0b, t1b, t5b]
        refine tstC_br (fun hb8 => ?_) (fun hb8 => ?_)
        · replace hh := ite_t hb8 hh
          obtain ⟨x9, hx9, hh⟩ := bindS hh
          have bx9 := idx_bd hx9
          have ax9 := idx_enc (eI .i64) hx9
          have fx9 := idx_fit (eI .i64) hx9
          simp only [vmz] at ax9 fx9
          skip
          try simp only [w, seval, -Int.reduceToNat, t0b, t1b, t5b, bx9, ax9, fx9]
          refine tstO_br' (fun hb10 => ?_) (fun hb10 => ?_)
          · replace hh := ite_t hb10 hh
            cases hh
            try simp only [w, seval, -Int.reduceToNat, t0b, t1b, t5b, bx9, ax9, fx9]
            rw [LK_ret]
            refine ⟨_, rfl, ?_⟩
            refine ⟨rfl, ?_⟩
            try simp only [w, seval, -Int.reduceToNat, t0b, t1b, t5b, bx9, ax9, fx9]
          · replace hh := ite_f hb10 hh
            have bx9 := idx_bd hx9
            have ax9 := idx_enc (eI .i64) hx9
            have fx9 := idx_fit (eI .i64) hx9
            simp only [vmz] at ax9 fx9
            skip
            try simp only [w, seval, -Int.reduceToNat, t0b, t1b, t5b, bx9, ax9, fx9, bx9, ax9, fx9]
            refine tstC_br (fun hb11 => ?_) (fun hb11 => ?_)
            · replace hh := ite_t hb11 hh
              cases hh
              try simp only [w, seval, -Int.reduceToNat, t0b, t1b, t5b, bx9, ax9, fx9, bx9, ax9, fx9]
              rw [LK_ret]
              refine ⟨_, rfl, ?_⟩
              refine ⟨rfl, ?_⟩
              try simp only [w, seval, -Int.reduceToNat, t0b, t1b, t5b, bx9, ax9, fx9, bx9, ax9, fx9]
            · replace hh := ite_f hb11 hh
              cases hh
              try simp only [w, seval, -Int.reduceToNat, t0b, t1b, t5b, bx9, ax9, fx9, bx9, ax9, fx9]
              rw [LK_normal]
              refine ⟨_, rfl, ?_⟩
              refine ⟨?_, ?_, ?_⟩
              all_goals (first | rfl | (simp only [w, seval, -Int.reduceToNat, t0b, t1b, t5b, bx9, ax9, fx9, bx9, ax9, fx9] <;> rfl))
        · replace hh := ite_f hb8 hh
          cases hh
          try simp only [w, seval, -Int.reduceToNat, t0b, t1b, t5b]
          rw [LK_exit]
          refine ⟨_, rfl, ?_⟩
          exact rfl
      · rintro x t H e hx
        rcases o7 with _ | rb
        ·
          dsimp only at hx hh
          subst hx
          cases hh
          try simp only [w, seval, -Int.reduceToNat]
        ·
          dsimp only at hx hh
          obtain ⟨rfl, hE⟩ := hx
          cases hh
          try simp only [runW_pass_ret, runW_pass_exit, runW_blk_ret, runW_nil, endW_ret]
          exact hE
  ·
    clear hh
    have hh := ho1
    try simp only [w, seval, -Int.reduceToNat]
    refine tstO_br' (fun hb12 => ?_) (fun hb12 => ?_)
    · replace hh := ite_t hb12 hh
      cases hh
      try simp only [w, seval, -Int.reduceToNat]
      rw [CK_normal]
      refine ⟨_, rfl, ?_⟩
      refine ⟨?_, ?_, ?_⟩
      all_goals (first | rfl | (simp only [w, seval, -Int.reduceToNat] <;> rfl))
    · replace hh := ite_f hb12 hh
      try simp only [w, seval, -Int.reduceToNat]
      refine tstO_br' (fun hb13 => ?_) (fun hb13 => ?_)
      · replace hh := ite_t hb13 hh
        cases hh
        try simp only [w, seval, -Int.reduceToNat]
        rw [CK_normal]
        refine ⟨_, rfl, ?_⟩
        refine ⟨?_, ?_, ?_⟩
        all_goals (first | rfl | (simp only [w, seval, -Int.reduceToNat] <;> rfl))
      · replace hh := ite_f hb13 hh
        try simp only [w, seval, -Int.reduceToNat]
        refine tstO_br' (fun hb14 => ?_) (fun hb14 => ?_)
        · replace hh := ite_t hb14 hh
          cases hh
          try simp only [w, seval, -Int.reduceToNat]
          rw [CK_normal]
          refine ⟨_, rfl, ?_⟩
          refine ⟨?_, ?_, ?_⟩
          all_goals (first | rfl | (simp only [w, seval, -Int.reduceToNat] <;> rfl))
        · replace hh := ite_f hb14 hh
          cases hh
          try simp only [w, seval, -Int.reduceToNat]
          rw [CK_normal]
          refine ⟨_, rfl, ?_⟩
          refine ⟨?_, ?_, ?_⟩
          all_goals (first | rfl | (simp only [w, seval, -Int.reduceToNat] <;> rfl))

theorem ok_r50_Right : COk Tryd.prog 19 G_r50_Right := COk.of (mode := .clean) tok GOk.none mixed Tryd.func19 (by kernel_rfl) ⟨by kernel_rfl, by kernel_rfl⟩ (fun _ => Nat.le_of_ble_eq_true (by kernel_rfl)) (fun x r h => m_r50_Right x.1 x.2 r h)

noncomputable def G_tape_Tape := mkG (asC (aSl (eSl (eI .i64))) (asC (aI .i64) (as1 (aI .i64)))) (fun x : (List (List Int)) × Int × Int => tape_Tape x.1 x.2.1 x.2.2) (fun r : (List Int) × Int => .clean (.tup [.sl false false r.1.length (encL (eI .i64) r.1), .int .i64 r.2]))

theorem q_tape_Tape (p0 : (List (List Int))) (p1 : Int) (p2 : Int) : G_tape_Tape none [.sl false false p0.length (encL (eSl (eI .i64)) p0), .int .i64 p1, .int .i64 p2] = (tape_Tape p0 p1 p2).map fun r : (List Int) × Int => (.clean (.tup [.sl false false r.1.length (encL (eI .i64) r.1), .int .i64 r.2]), none) := mkG_eq _ _ _ (p0, p1, p2)

noncomputable def g_tape_Tape : Env := (Am.ext noEnv 18 false G_tape_Right)

theorem ge_tape_Tape : GOk Tryd.prog g_tape_Tape := (GOk.none.add ok_tape_Right false)

theorem gg_tape_Tape : g_tape_Tape = (Am.ext noEnv 18 false G_tape_Right) := Eq.trans rfl rfl

theorem x_tape_Tape : type_of% (And.intro @w <| And.intro @q_tape_Right <| @gg_tape_Tape) := And.intro @w <| And.intro @q_tape_Right <| @gg_tape_Tape

theorem m_tape_Tape (p0 : (List (List Int))) (p1 : Int) (p2 : Int) (r : (List Int) × Int) (hh : tape_Tape p0 p1 p2 = some r) : vfunc .clean tab g_tape_Tape FU Tryd.f13 none [.sl false false p0.length (encL (eSl (eI .i64)) p0), .int .i64 p1, .int .i64 p2] = some (.clean (.tup [.sl false false r.1.length (encL (eI .i64) r.1), .int .i64 r.2]), none) := by
  refine vfunc_of rfl Tryd.ntmps13 Tryd.results13 ?_
  unfold tape_Tape at hh
  try simp only [x_tape_Tape, seval, -Int.reduceToNat]
  obtain ⟨o1, ho1, hh⟩ := bindS hh
  refine tstO_cut 0 (fun s t H e => match s with | s32j1 => t 0 = .sl false false p0.length (encL (eSl (eI .i64)) p0) ∧ t 1 = .int .i64 p1 ∧ t 2 = .int .i64 p2 ∧ t 32 = .bool s32j1) (fun s => s = o1) ?_ ?_
  · rintro s32j1 t H e ⟨t0j1, t1j1, t2j1, t32j1⟩ rfl
    try dsimp only at hh
    try simp only [x_tape_Tape, seval, -Int.reduceToNat, t0j1, t1j1, t2j1, t32j1]
    refine tstC_br (fun hb2 => ?_) (fun hb2 => ?_)
    · replace hh := ite_t hb2 hh
      cases hh
      try simp only [x_tape_Tape, seval, -Int.reduceToNat, t0j1, t1j1, t2j1, t32j1]
    · replace hh := ite_f hb2 hh
      obtain ⟨x3, hx3, hh⟩ := bindS hh
      obtain ⟨q4a, q4b, q4c, q4d, q4e⟩ := mk_one (eI .i64) hx3
      simp only [vmz] at q4d
      try simp only [x_tape_Tape, seval, -Int.reduceToNat, t0j1, t1j1, t2j1, t32j1, q4a, q4b, q4c, q4d, q4e]
      obtain ⟨o24, ho24, hh⟩ := bindS hh
      refine runLoop_sim (fun s t H e => match s with | (s37b, l8b) => ∃ v8b : Nat, t 1 = .int .i64 p1 ∧ t 2 = .int .i64 p2 ∧ t 8 = .buf 8 v8b 1 0 (l8b).length ∧ t 35 = .sl false false p0.length (encL (eSl (eI .i64)) p0) ∧ t 36 = .int .i64 (p0.length : Int) ∧ t 37 = .int .i64 s37b ∧ H 8 = some ⟨v8b, 3, encL (eI .i64) l8b, false, true, false⟩) (fun o x t H e => match o with | (.inl l8bx) => x = .exit 0 ∧ ∃ v8bx : Nat, t 8 = .buf 8 v8bx 1 0 (l8bx).length ∧ H 8 = some ⟨v8bx, 3, encL (eI .i64) l8bx, false, true, false⟩ | (.inr r) => x = .ret ∧ endM .clean tab none [.tmp 6, .tmp 7] ⟨t, H, e⟩ = some (.clean (.tup [.sl false false r.1.length (encL (eI .i64) r.1), .int .i64 r.2]), none)) ho24 ?_ ?_ ?_
      ·
        refine ⟨e, ?_, ?_, ?_, ?_, ?_, ?_, ?_⟩
        all_goals (first | rfl | (simp only [x_tape_Tape, seval, -Int.reduceToNat, t0j1, t1j1, t2j1, t32j1, q4a, q4b, q4c, q4d, q4e] <;> rfl))
      · rintro ⟨s37b, l8b⟩ t H e ⟨v8b, t1b, t2b, t8b, t35b, t36b, t37b, H8b⟩ c hh
        simp only [tape_Tape_L2] at hh
        try simp only [x_tape_Tape, seval, -Int.reduceToNat, q4a, q4b, q4c, q4d, q4e, t1b, t2b, t8b, t35b, t36b, t37b, H8b]
        refine tstC_br (fun hb25 => ?_) (fun hb25 => ?_)
        · replace hh := ite_t hb25 hh
          obtain ⟨x26, hx26, hh⟩ := bindS hh
          have bx26 := idx_bd hx26
          have ax26 := idx_enc (eSl (eI .i64)) hx26
          have fx26 := idx_fit (eSl (eI .i64)) hx26
          simp only [vmz] at ax26 fx26
          skip
          try simp only [x_tape_Tape, seval, -Int.reduceToNat, q4a, q4b, q4c, q4d, q4e, t1b, t2b, t8b, t35b, t36b, t37b, H8b, bx26, ax26, fx26]
          obtain ⟨o27, ho27, hh⟩ := bindS hh
          refine tstO_cut 0 (fun s t H e => match s with | s50j5 => ∃ v8j5 : Nat, t 1 = .int .i64 p1 ∧ t 2 = .int .i64 p2 ∧ t 8 = .buf 8 v8j5 1 0 (l8b).length ∧ t 10 = .sl false false x26.length (encL (eI .i64) x26) ∧ t 35 = .sl false false p0.length (encL (eSl (eI .i64)) p0) ∧ t 36 = .int .i64 (p0.length : Int) ∧ t 37 = .int .i64 s37b ∧ t 50 = .bool s50j5 ∧ H 8 = some ⟨v8j5, 3, encL (eI .i64) l8b, false, true, false⟩) (fun s => s = o27) ?_ ?_
          · rintro s50j5 t H e ⟨v8j5, t1j5, t2j5, t8j5, t10j5, t35j5, t36j5, t37j5, t50j5, H8j5⟩ rfl
            try dsimp only at hh
            try simp only [x_tape_Tape, seval, -Int.reduceToNat, q4a, q4b, q4c, q4d, q4e, bx26, ax26, fx26, t1j5, t2j5, t8j5, t10j5, t35j5, t36j5, t37j5, t50j5, H8j5]
            refine tstC_br (fun hb28 => ?_) (fun hb28 => ?_)
            · replace hh := ite_t hb28 hh
              cases hh
              try simp only [x_tape_Tape, seval, -Int.reduceToNat, q4a, q4b, q4c, q4d, q4e, bx26, ax26, fx26, t1j5, t2j5, t8j5, t10j5, t35j5, t36j5, t37j5, t50j5, H8j5]
              rw [LK_ret]
              refine ⟨_, rfl, ?_⟩
              refine ⟨rfl, ?_⟩
              try simp only [x_tape_Tape, seval, -Int.reduceToNat, q4a, q4b, q4c, q4d, q4e, bx26, ax26, fx26, t1j5, t2j5, t8j5, t10j5, t35j5, t36j5, t37j5, t50j5, H8j5]
            · replace hh := ite_f hb28 hh
              try simp only [x_tape_Tape, seval, -Int.reduceToNat, q4a, q4b, q4c, q4d, q4e, bx26, ax26, fx26, t1j5, t2j5, t8j5, t10j5, t35j5, t36j5, t37j5, t50j5, H8j5]
              obtain ⟨o35, ho35, hh⟩ := bindS hh
              refine runLoop_sim (fun s t H e => match s with | (s53f, l8f) => ∃ v8f : Nat, t 1 = .int .i64 p1 ∧ t 2 = .int .i64 p2 ∧ t 8 = .buf 8 v8f 1 0 (l8f).length ∧ t 35 = .sl false false p0.length (encL (eSl (eI .i64)) p0) ∧ t 36 = .int .i64 (p0.length : Int) ∧ t 37 = .int .i64 s37b ∧ t 51 = .sl false false x26.length (encL (eI .i64) x26) ∧ t 52 = .int .i64 (x26.length : Int) ∧ t 53 = .int .i64 s53f ∧ H 8 = some ⟨v8f, 3, encL (eI .i64) l8f, false, true, false⟩) (fun o x t H e => match o with | l8fx => x = .exit 2 ∧ ∃ v8fx : Nat, t 1 = .int .i64 p1 ∧ t 2 = .int .i64 p2 ∧ t 8 = .buf 8 v8fx 1 0 (l8fx).length ∧ t 35 = .sl false false p0.length (encL (eSl (eI .i64)) p0) ∧ t 36 = .int .i64 (p0.length : Int) ∧ t 37 = .int .i64 s37b ∧ H 8 = some ⟨v8fx, 3, encL (eI .i64) l8fx, false, true, false⟩) ho35 ?_ ?_ ?_
              ·
                refine ⟨v8j5, ?_, ?_, ?_, ?_, ?_, ?_, ?_, ?_, ?_, ?_⟩
                all_goals (first | rfl | (simp only [x_tape_Tape, seval, -Int.reduceToNat, q4a, q4b, q4c, q4d, q4e, bx26, ax26, fx26, t1j5, t2j5, t8j5, t10j5, t35j5, t36j5, t37j5, t50j5, H8j5] <;> rfl))
              · rintro ⟨s53f, l8f⟩ t H e ⟨v8f, t1f, t2f, t8f, t35f, t36f, t37f, t51f, t52f, t53f, H8f⟩ c hh
                simp only [tape_Tape_L6] at hh
                try simp only [x_tape_Tape, seval, -Int.reduceToNat, q4a, q4b, q4c, q4d, q4e, bx26, ax26, fx26, t1f, t2f, t8f, t35f, t36f, t37f, t51f, t52f, t53f, H8f]
                refine tstC_br (fun hb36 => ?_) (fun hb36 => ?_)
                · replace hh := ite_t hb36 hh
                  obtain ⟨x37, hx37, hh⟩ := bindS hh
                  have bx37 := idx_bd hx37
                  have ax37 := idx_enc (eI .i64) hx37
                  have fx37 := idx_fit (eI .i64) hx37
                  simp only [vmz] at ax37 fx37
                  skip
                  obtain ⟨x38, hx38, hh⟩ := bindS hh
                  have bx38 := idx_bd hx38
                  have ax38 := idx_enc (eI .i64) hx38
                  have fx38 := idx_fit (eI .i64) hx38
                  simp only [vmz] at ax38 fx38
                  skip
                  obtain ⟨x39, hx39, hh⟩ := bindS hh
                  obtain ⟨q40a, q40b⟩ := modI_ok hx39
                  have bx38 := idx_bd hx38
                  have ax38 := idx_enc (eI .i64) hx38
                  have fx38 := idx_fit (eI .i64) hx38
                  simp only [vmz] at ax38 fx38
                  skip
                  have p41 := put_enc (eI .i64) (x' := x39) (fo := 0) (cs := [.int .i64 x39]) hx38 rfl (Nat.le_of_ble_eq_true rfl)
                  simp only [vmz, Nat.add_zero] at p41
                  have up41 := p41
                  simp only [putCells, List.length_cons, List.length_nil, Nat.zero_add, Nat.reduceAdd] at up41
                  cases hh
                  try simp only [x_tape_Tape, seval, -Int.reduceToNat, q4a, q4b, q4c, q4d, q4e, bx26, ax26, fx26, t1f, t2f, t8f, t35f, t36f, t37f, t51f, t52f, t53f, H8f, bx37, ax37, fx37, bx38, ax38, fx38, q40a, q40b, bx38, ax38, fx38, p41, up41]
                  rw [LK_normal]
                  refine ⟨_, rfl, ?_⟩
                  refine ⟨v8f, ?_, ?_, ?_, ?_, ?_, ?_, ?_, ?_, ?_, ?_⟩
                  all_goals (first | rfl | (simp only [x_tape_Tape, seval, -Int.reduceToNat, q4a, q4b, q4c, q4d, q4e, bx26, ax26, fx26, t1f, t2f, t8f, t35f, t36f, t37f, t51f, t52f, t53f, H8f, bx37, ax37, fx37, bx38, ax38, fx38, q40a, q40b, bx38, ax38, fx38, p41, up41] <;> rfl))
                · replace hh := ite_f hb36 hh
                  cases hh
                  try simp only [x_tape_Tape, seval, -Int.reduceToNat, q4a, q4b, q4c, q4d, q4e, bx26, ax26, fx26, t1f, t2f, t8f, t35f, t36f, t37f, t51f, t52f, t53f, H8f]
                  rw [LK_exit]
                  refine ⟨_, rfl, ?_⟩
                  refine ⟨rfl, ⟨v8f, ?_, ?_, ?_, ?_, ?_, ?_, ?_⟩⟩
                  all_goals (first | rfl | (simp only [x_tape_Tape, seval, -Int.reduceToNat, q4a, q4b, q4c, q4d, q4e, bx26, ax26, fx26, t1f, t2f, t8f, t35f, t36f, t37f, t51f, t52f, t53f, H8f] <;> rfl))
              · rintro x t H e hx
                obtain ⟨l8fx, rfl⟩ : ∃ z, z = o35 := ⟨_, rfl⟩
                dsimp only at hx hh
                obtain ⟨rfl, ⟨v8fx, t1fx, t2fx, t8fx, t35fx, t36fx, t37fx, H8fx⟩⟩ := hx
                cases hh
                try simp only [x_tape_Tape, seval, -Int.reduceToNat, q4a, q4b, q4c, q4d, q4e, bx26, ax26, fx26, t1fx, t2fx, t8fx, t35fx, t36fx, t37fx, H8fx]
                rw [LK_normal]
                refine ⟨_, rfl, ?_⟩
                refine ⟨v8fx, ?_, ?_, ?_, ?_, ?_, ?_, ?_⟩
                all_goals (first | rfl | (simp only [x_tape_Tape, seval, -Int.reduceToNat, q4a, q4b, q4c, q4d, q4e, bx26, ax26, fx26, t1fx, t2fx, t8fx, t35fx, t36fx, t37fx, H8fx] <;> rfl))
          ·
            clear hh
            have hh := ho27
            try simp only [x_tape_Tape, seval, -Int.reduceToNat, q4a, q4b, q4c, q4d, q4e, t1b, t2b, t8b, t35b, t36b, t37b, H8b, bx26, ax26, fx26]
            refine tstO_br' (fun hb42 => ?_) (fun hb42 => ?_)
            · replace hh := ite_t hb42 hh
              cases hh
              try simp only [x_tape_Tape, seval, -Int.reduceToNat, q4a, q4b, q4c, q4d, q4e, t1b, t2b, t8b, t35b, t36b, t37b, H8b, bx26, ax26, fx26]
              rw [CK_normal]
              refine ⟨_, rfl, ?_⟩
              refine ⟨v8b, ?_, ?_, ?_, ?_, ?_, ?_, ?_, ?_, ?_⟩
              all_goals (first | rfl | (simp only [x_tape_Tape, seval, -Int.reduceToNat, q4a, q4b, q4c, q4d, q4e, t1b, t2b, t8b, t35b, t36b, t37b, H8b, bx26, ax26, fx26] <;> rfl))
            · replace hh := ite_f hb42 hh
              obtain ⟨r43, hr43, hh⟩ := bindS hh
              cases hh
              try simp only [x_tape_Tape, seval, -Int.reduceToNat, q4a, q4b, q4c, q4d, q4e, t1b, t2b, t8b, t35b, t36b, t37b, H8b, bx26, ax26, fx26, hr43]
              rw [CK_normal]
              refine ⟨_, rfl, ?_⟩
              refine ⟨v8b, ?_, ?_, ?_, ?_, ?_, ?_, ?_, ?_, ?_⟩
              all_goals (first | rfl | (simp only [x_tape_Tape, seval, -Int.reduceToNat, q4a, q4b, q4c, q4d, q4e, t1b, t2b, t8b, t35b, t36b, t37b, H8b, bx26, ax26, fx26, hr43] <;> rfl))
        · replace hh := ite_f hb25 hh
          cases hh
          try simp only [x_tape_Tape, seval, -Int.reduceToNat, q4a, q4b, q4c, q4d, q4e, t1b, t2b, t8b, t35b, t36b, t37b, H8b]
          rw [LK_exit]
          refine ⟨_, rfl, ?_⟩
          refine ⟨rfl, ⟨v8b, ?_, ?_⟩⟩
          all_goals (first | rfl | (simp only [x_tape_Tape, seval, -Int.reduceToNat, q4a, q4b, q4c, q4d, q4e, t1b, t2b, t8b, t35b, t36b, t37b, H8b] <;> rfl))
      · rintro x t H e hx
        rcases o24 with l8bx | rb
        ·
          dsimp only at hx hh
          obtain ⟨rfl, ⟨v8bx, t8bx, H8bx⟩⟩ := hx
          cases hh
          try simp only [x_tape_Tape, seval, -Int.reduceToNat, q4a, q4b, q4c, q4d, q4e, t8bx, H8bx]
        ·
          dsimp only at hx hh
          obtain ⟨rfl, hE⟩ := hx
          cases hh
          try simp only [runW_pass_ret, runW_pass_exit, runW_blk_ret, runW_nil, endW_ret]
          exact hE
  ·
    clear hh
    have hh := ho1
    try simp only [x_tape_Tape, seval, -Int.reduceToNat]
    refine tstO_br' (fun hb44 => ?_) (fun hb44 => ?_)
    · replace hh := ite_t hb44 hh
      cases hh
      try simp only [x_tape_Tape, seval, -Int.reduceToNat]
      rw [CK_normal]
      refine ⟨_, rfl, ?_⟩
      refine ⟨?_, ?_, ?_, ?_⟩
      all_goals (first | rfl | (simp only [x_tape_Tape, seval, -Int.reduceToNat] <;> rfl))
    · replace hh := ite_f hb44 hh
      try simp only [x_tape_Tape, seval, -Int.reduceToNat]
      refine tstO_br' (fun hb45 => ?_) (fun hb45 => ?_)
      · replace hh := ite_t hb45 hh
        cases hh
        try simp only [x_tape_Tape, seval, -Int.reduceToNat]
        rw [CK_normal]
        refine ⟨_, rfl, ?_⟩
        refine ⟨?_, ?_, ?_, ?_⟩
        all_goals (first | rfl | (simp only [x_tape_Tape, seval, -Int.reduceToNat] <;> rfl))
      · replace hh := ite_f hb45 hh
        try simp only [x_tape_Tape, seval, -Int.reduceToNat]
        refine tstO_br' (fun hb46 => ?_) (fun hb46 => ?_)
        · replace hh := ite_t hb46 hh
          cases hh
          try simp only [x_tape_Tape, seval, -Int.reduceToNat]
          rw [CK_normal]
          refine ⟨_, rfl, ?_⟩
          refine ⟨?_, ?_, ?_, ?_⟩
          all_goals (first | rfl | (simp only [x_tape_Tape, seval, -Int.reduceToNat] <;> rfl))
        · replace hh := ite_f hb46 hh
          try simp only [x_tape_Tape, seval, -Int.reduceToNat]
          refine tstO_br' (fun hb47 => ?_) (fun hb47 => ?_)
          · replace hh := ite_t hb47 hh
            cases hh
            try simp only [x_tape_Tape, seval, -Int.reduceToNat]
            rw [CK_normal]
            refine ⟨_, rfl, ?_⟩
            refine ⟨?_, ?_, ?_, ?_⟩
            all_goals (first | rfl | (simp only [x_tape_Tape, seval, -Int.reduceToNat] <;> rfl))
          · replace hh := ite_f hb47 hh
            cases hh
            try simp only [x_tape_Tape, seval, -Int.reduceToNat]
            rw [CK_normal]
            refine ⟨_, rfl, ?_⟩
            refine ⟨?_, ?_, ?_, ?_⟩
            all_goals (first | rfl | (simp only [x_tape_Tape, seval, -Int.reduceToNat] <;> rfl))

theorem ok_tape_Tape : COk Tryd.prog 13 G_tape_Tape := COk.of (mode := .clean) tok ge_tape_Tape mixed Tryd.func13 (by kernel_rfl) ⟨by kernel_rfl, by kernel_rfl⟩ (fun _ => Nat.le_of_ble_eq_true (by kernel_rfl)) (fun x r h => m_tape_Tape x.1 x.2.1 x.2.2 r h)

noncomputable def G_r50_Tape := mkG (asC (aSl (eSl (eI .i64))) (asC (aI .i64) (as1 (aI .i64)))) (fun x : (List (List Int)) × Int × Int => r50_Tape x.1 x.2.1 x.2.2) (fun r : (List Int) × Int => .clean (.tup [.sl false false r.1.length (encL (eI .i64) r.1), .int .i64 r.2]))

theorem q_r50_Tape (p0 : (List (List Int))) (p1 : Int) (p2 : Int) : G_r50_Tape none [.sl false false p0.length (encL (eSl (eI .i64)) p0), .int .i64 p1, .int .i64 p2] = (r50_Tape p0 p1 p2).map fun r : (List Int) × Int => (.clean (.tup [.sl false false r.1.length (encL (eI .i64) r.1), .int .i64 r.2]), none) := mkG_eq _ _ _ (p0, p1, p2)

noncomputable def g_r50_Tape : Env := (Am.ext noEnv 19 false G_r50_Right)

theorem ge_r50_Tape : GOk Tryd.prog g_r50_Tape := (GOk.none.add ok_r50_Right false)

theorem gg_r50_Tape : g_r50_Tape = (Am.ext noEnv 19 false G_r50_Right) := Eq.trans rfl rfl

theorem x_r50_Tape : type_of% (And.intro @w <| And.intro @q_r50_Right <| @gg_r50_Tape) := And.intro @w <| And.intro @q_r50_Right <| @gg_r50_Tape

theorem m_r50_Tape (p0 : (List (List Int))) (p1 : Int) (p2 : Int) (r : (List Int) × Int) (hh : r50_Tape p0 p1 p2 = some r) : vfunc .clean tab g_r50_Tape FU Tryd.f14 none [.sl false false p0.length (encL (eSl (eI .i64)) p0), .int .i64 p1, .int .i64 p2] = some (.clean (.tup [.sl false false r.1.length (encL (eI .i64) r.1), .int .i64 r.2]), none) := by
  refine vfunc_of rfl Tryd.ntmps14 Tryd.results14 ?_
  unfold r50_Tape at hh
  try simp only [x_r50_Tape, seval, -Int.reduceToNat]
  obtain ⟨o1, ho1, hh⟩ := bindS hh
  refine tstO_cut 0 (fun s t H e => match s with | s32j1 => t 0 = .sl false false p0.length (encL (eSl (eI .i64)) p0) ∧ t 1 = .int .i64 p1 ∧ t 2 = .int .i64 p2 ∧ t 32 = .bool s32j1) (fun s => s = o1) ?_ ?_
  · rintro s32j1 t H e ⟨t0j1, t1j1, t2j1, t32j1⟩ rfl
    try dsimp only at hh
    try simp only [x_r50_Tape, seval, -Int.reduceToNat, t0j1, t1j1, t2j1, t32j1]
    refine tstC_br (fun hb2 => ?_) (fun hb2 => ?_)
    · replace hh := ite_t hb2 hh
      cases hh
      try simp only [x_r50_Tape, seval, -Int.reduceToNat, t0j1, t1j1, t2j1, t32j1]
    · replace hh := ite_f hb2 hh
      try simp only [x_r50_Tape, seval, -Int.reduceToNat, t0j1, t1j1, t2j1, t32j1]
      obtain ⟨o8, ho8, hh⟩ := bindS hh
      refine runLoop_sim (fun s t H e => match s with | s8b => t 0 = .sl false false p0.length (encL (eSl (eI .i64)) p0) ∧ t 1 = .int .i64 p1 ∧ t 2 = .int .i64 p2 ∧ t 8 = .int .i64 s8b) (fun o x t H e => match o with | (.inl _) => x = .exit 0 ∧ t 0 = .sl false false p0.length (encL (eSl (eI .i64)) p0) ∧ t 1 = .int .i64 p1 ∧ t 2 = .int .i64 p2 | (.inr r) => x = .ret ∧ endM .clean tab none [.tmp 6, .tmp 7] ⟨t, H, e⟩ = some (.clean (.tup [.sl false false r.1.length (encL (eI .i64) r.1), .int .i64 r.2]), none)) ho8 ?_ ?_ ?_
      ·
        refine ⟨?_, ?_, ?_, ?_⟩
        all_goals (first | rfl | (simp only [x_r50_Tape, seval, -Int.reduceToNat, t0j1, t1j1, t2j1, t32j1] <;> rfl))
      · rintro s8b t H e ⟨t0b, t1b, t2b, t8b⟩ c hh
        simp only [r50_Tape_L2] at hh
        try simp only [x_r50_Tape, seval, -Int.reduceToNat, t0b, t1b, t2b, t8b]
        refine tstC_br (fun hb9 => ?_) (fun hb9 => ?_)
        · replace hh := ite_t hb9 hh
          obtain ⟨x10, hx10, hh⟩ := bindS hh
          have bx10 := idx_bd hx10
          have ax10 := idx_enc (eSl (eI .i64)) hx10
          have fx10 := idx_fit (eSl (eI .i64)) hx10
          simp only [vmz] at ax10 fx10
          skip
          obtain ⟨r11, hr11, hh⟩ := bindS hh
          try simp only [x_r50_Tape, seval, -Int.reduceToNat, t0b, t1b, t2b, t8b, bx10, ax10, fx10, hr11]
          refine tstO_br' (fun hb12 => ?_) (fun hb12 => ?_)
          · replace hh := ite_t hb12 hh
            cases hh
            try simp only [x_r50_Tape, seval, -Int.reduceToNat, t0b, t1b, t2b, t8b, bx10, ax10, fx10, hr11]
            rw [LK_ret]
            refine ⟨_, rfl, ?_⟩
            refine ⟨rfl, ?_⟩
            try simp only [x_r50_Tape, seval, -Int.reduceToNat, t0b, t1b, t2b, t8b, bx10, ax10, fx10, hr11]
          · replace hh := ite_f hb12 hh
            have bx10 := idx_bd hx10
            have ax10 := idx_enc (eSl (eI .i64)) hx10
            have fx10 := idx_fit (eSl (eI .i64)) hx10
            simp only [vmz] at ax10 fx10
            skip
            try simp only [x_r50_Tape, seval, -Int.reduceToNat, t0b, t1b, t2b, t8b, bx10, ax10, fx10, hr11, bx10, ax10, fx10]
            refine tstC_br (fun hb13 => ?_) (fun hb13 => ?_)
            · replace hh := ite_t hb13 hh
              cases hh
              try simp only [x_r50_Tape, seval, -Int.reduceToNat, t0b, t1b, t2b, t8b, bx10, ax10, fx10, hr11, bx10, ax10, fx10]
              rw [LK_ret]
              refine ⟨_, rfl, ?_⟩
              refine ⟨rfl, ?_⟩
              try simp only [x_r50_Tape, seval, -Int.reduceToNat, t0b, t1b, t2b, t8b, bx10, ax10, fx10, hr11, bx10, ax10, fx10]
            · replace hh := ite_f hb13 hh
              cases hh
              try simp only [x_r50_Tape, seval, -Int.reduceToNat, t0b, t1b, t2b, t8b, bx10, ax10, fx10, hr11, bx10, ax10, fx10]
              rw [LK_normal]
              refine ⟨_, rfl, ?_⟩
              refine ⟨?_, ?_, ?_, ?_⟩
              all_goals (first | rfl | (simp only [x_r50_Tape, seval, -Int.reduceToNat, t0b, t1b, t2b, t8b, bx10, ax10, fx10, hr11, bx10, ax10, fx10] <;> rfl))
        · replace hh := ite_f hb9 hh
          cases hh
          try simp only [x_r50_Tape, seval, -Int.reduceToNat, t0b, t1b, t2b, t8b]
          rw [LK_exit]
          refine ⟨_, rfl, ?_⟩
          refine ⟨rfl, ⟨?_, ?_, ?_⟩⟩
          all_goals (first | rfl | (simp only [x_r50_Tape, seval, -Int.reduceToNat, t0b, t1b, t2b, t8b] <;> rfl))
      · rintro x t H e hx
        rcases o8 with _ | rb
        ·
          dsimp only at hx hh
          obtain ⟨rfl, ⟨t0bx, t1bx, t2bx⟩⟩ := hx
          try simp only [x_r50_Tape, seval, -Int.reduceToNat, t0bx, t1bx, t2bx]
          obtain ⟨o28, ho28, hh⟩ := bindS hh
          refine runLoop_sim (fun s t H e => match s with | (s10c, l9c) => ∃ v9c : Nat, t 0 = .sl false false p0.length (encL (eSl (eI .i64)) p0) ∧ t 1 = .int .i64 p1 ∧ t 2 = .int .i64 p2 ∧ t 9 = .buf 9 v9c 1 0 (l9c).length ∧ t 10 = .int .i64 s10c ∧ H 9 = some ⟨v9c, 3, encL (eI .i64) l9c, false, true, false⟩) (fun o x t H e => match o with | l9cx => x = .exit 2 ∧ ∃ v9cx : Nat, t 9 = .buf 9 v9cx 1 0 (l9cx).length ∧ H 9 = some ⟨v9cx, 3, encL (eI .i64) l9cx, false, true, false⟩) ho28 ?_ ?_ ?_
          ·
            refine ⟨e, ?_, ?_, ?_, ?_, ?_, ?_⟩
            all_goals (first | rfl | (simp only [x_r50_Tape, seval, -Int.reduceToNat, t0bx, t1bx, t2bx] <;> rfl))
          · rintro ⟨s10c, l9c⟩ t H e ⟨v9c, t0c, t1c, t2c, t9c, t10c, H9c⟩ c hh
            simp only [r50_Tape_L3] at hh
            try simp only [x_r50_Tape, seval, -Int.reduceToNat, t0c, t1c, t2c, t9c, t10c, H9c]
            refine tstC_br (fun hb29 => ?_) (fun hb29 => ?_)
            · replace hh := ite_t hb29 hh
              try simp only [x_r50_Tape, seval, -Int.reduceToNat, t0c, t1c, t2c, t9c, t10c, H9c]
              obtain ⟨o35, ho35, hh⟩ := bindS hh
              refine runLoop_sim (fun s t H e => match s with | (s11e, s12e) => ∃ v9e : Nat, t 0 = .sl false false p0.length (encL (eSl (eI .i64)) p0) ∧ t 1 = .int .i64 p1 ∧ t 2 = .int .i64 p2 ∧ t 9 = .buf 9 v9e 1 0 (l9c).length ∧ t 10 = .int .i64 s10c ∧ t 11 = .int .i64 s11e ∧ t 12 = .int .i64 s12e ∧ H 9 = some ⟨v9e, 3, encL (eI .i64) l9c, false, true, false⟩) (fun o x t H e => match o with | s11ex => x = .exit 4 ∧ ∃ v9ex : Nat, t 0 = .sl false false p0.length (encL (eSl (eI .i64)) p0) ∧ t 1 = .int .i64 p1 ∧ t 2 = .int .i64 p2 ∧ t 9 = .buf 9 v9ex 1 0 (l9c).length ∧ t 10 = .int .i64 s10c ∧ t 11 = .int .i64 s11ex ∧ H 9 = some ⟨v9ex, 3, encL (eI .i64) l9c, false, true, false⟩) ho35 ?_ ?_ ?_
              ·
                refine ⟨v9c, ?_, ?_, ?_, ?_, ?_, ?_, ?_, ?_⟩
                all_goals (first | rfl | (simp only [x_r50_Tape, seval, -Int.reduceToNat, t0c, t1c, t2c, t9c, t10c, H9c] <;> rfl))
              · rintro ⟨s11e, s12e⟩ t H e ⟨v9e, t0e, t1e, t2e, t9e, t10e, t11e, t12e, H9e⟩ c hh
                simp only [r50_Tape_L5] at hh
                try simp only [x_r50_Tape, seval, -Int.reduceToNat, t0e, t1e, t2e, t9e, t10e, t11e, t12e, H9e]
                refine tstC_br (fun hb36 => ?_) (fun hb36 => ?_)
                · replace hh := ite_t hb36 hh
                  obtain ⟨x37, hx37, hh⟩ := bindS hh
                  have bx37 := idx_bd hx37
                  have ax37 := idx_enc (eSl (eI .i64)) hx37
                  have fx37 := idx_fit (eSl (eI .i64)) hx37
                  simp only [vmz] at ax37 fx37
                  skip
                  obtain ⟨x38, hx38, hh⟩ := bindS hh
                  have bx38 := idx_bd hx38
                  have ax38 := idx_enc (eI .i64) hx38
                  have fx38 := idx_fit (eI .i64) hx38
                  simp only [vmz] at ax38 fx38
                  skip
                  obtain ⟨x39, hx39, hh⟩ := bindS hh
                  obtain ⟨q40a, q40b⟩ := modI_ok hx39
                  cases hh
                  try simp only [x_r50_Tape, seval, -Int.reduceToNat, t0e, t1e, t2e, t9e, t10e, t11e, t12e, H9e, bx37, ax37, fx37, bx38, ax38, fx38, q40a, q40b]
                  rw [LK_normal]
                  refine ⟨_, rfl, ?_⟩
                  refine ⟨v9e, ?_, ?_, ?_, ?_, ?_, ?_, ?_, ?_⟩
                  all_goals (first | rfl | (simp only [x_r50_Tape, seval, -Int.reduceToNat, t0e, t1e, t2e, t9e, t10e, t11e, t12e, H9e, bx37, ax37, fx37, bx38, ax38, fx38, q40a, q40b] <;> rfl))
                · replace hh := ite_f hb36 hh
                  cases hh
                  try simp only [x_r50_Tape, seval, -Int.reduceToNat, t0e, t1e, t2e, t9e, t10e, t11e, t12e, H9e]
                  rw [LK_exit]
                  refine ⟨_, rfl, ?_⟩
                  refine ⟨rfl, ⟨v9e, ?_, ?_, ?_, ?_, ?_, ?_, ?_⟩⟩
                  all_goals (first | rfl | (simp only [x_r50_Tape, seval, -Int.reduceToNat, t0e, t1e, t2e, t9e, t10e, t11e, t12e, H9e] <;> rfl))
              · rintro x t H e hx
                obtain ⟨s11ex, rfl⟩ : ∃ z, z = o35 := ⟨_, rfl⟩
                dsimp only at hx hh
                obtain ⟨rfl, ⟨v9ex, t0ex, t1ex, t2ex, t9ex, t10ex, t11ex, H9ex⟩⟩ := hx
                obtain ⟨x41, hx41, hh⟩ := bindS hh
                obtain ⟨q42a, q42b, q42c, q42d⟩ := app_one (eI .i64) hx41
                simp only [vmz] at q42b
                cases hh
                try simp only [x_r50_Tape, seval, -Int.reduceToNat, t0ex, t1ex, t2ex, t9ex, t10ex, t11ex, H9ex, q42a, q42b, q42c, q42d]
                rw [LK_normal]
                refine ⟨_, rfl, ?_⟩
                refine ⟨e, ?_, ?_, ?_, ?_, ?_, ?_⟩
                all_goals (first | rfl | (simp only [x_r50_Tape, seval, -Int.reduceToNat, t0ex, t1ex, t2ex, t9ex, t10ex, t11ex, H9ex, q42a, q42b, q42c, q42d] <;> rfl))
            · replace hh := ite_f hb29 hh
              cases hh
              try simp only [x_r50_Tape, seval, -Int.reduceToNat, t0c, t1c, t2c, t9c, t10c, H9c]
              rw [LK_exit]
              refine ⟨_, rfl, ?_⟩
              refine ⟨rfl, ⟨v9c, ?_, ?_⟩⟩
              all_goals (first | rfl | (simp only [x_r50_Tape, seval, -Int.reduceToNat, t0c, t1c, t2c, t9c, t10c, H9c] <;> rfl))
          · rintro x t H e hx
            obtain ⟨l9cx, rfl⟩ : ∃ z, z = o28 := ⟨_, rfl⟩
            dsimp only at hx hh
            obtain ⟨rfl, ⟨v9cx, t9cx, H9cx⟩⟩ := hx
            cases hh
            try simp only [x_r50_Tape, seval, -Int.reduceToNat, t9cx, H9cx]
        ·
          dsimp only at hx hh
          obtain ⟨rfl, hE⟩ := hx
          cases hh
          try simp only [runW_pass_ret, runW_pass_exit, runW_blk_ret, runW_nil, endW_ret]
          exact hE
  ·
    clear hh
    have hh := ho1
    try simp only [x_r50_Tape, seval, -Int.reduceToNat]
    refine tstO_br' (fun hb43 => ?_) (fun hb43 => ?_)
    · replace hh := ite_t hb43 hh
      cases hh
      try simp only [x_r50_Tape, seval, -Int.reduceToNat]
      rw [CK_normal]
      refine ⟨_, rfl, ?_⟩
      refine ⟨?_, ?_, ?_, ?_⟩
      all_goals (first | rfl | (simp only [x_r50_Tape, seval, -Int.reduceToNat] <;> rfl))
    · replace hh := ite_f hb43 hh
      try simp only [x_r50_Tape, seval, -Int.reduceToNat]
      refine tstO_br' (fun hb44 => ?_) (fun hb44 => ?_)
      · replace hh := ite_t hb44 hh
        cases hh
        try simp only [x_r50_Tape, seval, -Int.reduceToNat]
        rw [CK_normal]
        refine ⟨_, rfl, ?_⟩
        refine ⟨?_, ?_, ?_, ?_⟩
        all_goals (first | rfl | (simp only [x_r50_Tape, seval, -Int.reduceToNat] <;> rfl))
      · replace hh := ite_f hb44 hh
        try simp only [x_r50_Tape, seval, -Int.reduceToNat]
        refine tstO_br' (fun hb45 => ?_) (fun hb45 => ?_)
        · replace hh := ite_t hb45 hh
          cases hh
          try simp only [x_r50_Tape, seval, -Int.reduceToNat]
          rw [CK_normal]
          refine ⟨_, rfl, ?_⟩
          refine ⟨?_, ?_, ?_, ?_⟩
          all_goals (first | rfl | (simp only [x_r50_Tape, seval, -Int.reduceToNat] <;> rfl))
        · replace hh := ite_f hb45 hh
          try simp only [x_r50_Tape, seval, -Int.reduceToNat]
          refine tstO_br' (fun hb46 => ?_) (fun hb46 => ?_)
          · replace hh := ite_t hb46 hh
            cases hh
            try simp only [x_r50_Tape, seval, -Int.reduceToNat]
            rw [CK_normal]
            refine ⟨_, rfl, ?_⟩
            refine ⟨?_, ?_, ?_, ?_⟩
            all_goals (first | rfl | (simp only [x_r50_Tape, seval, -Int.reduceToNat] <;> rfl))
          · replace hh := ite_f hb46 hh
            cases hh
            try simp only [x_r50_Tape, seval, -Int.reduceToNat]
            rw [CK_normal]
            refine ⟨_, rfl, ?_⟩
            refine ⟨?_, ?_, ?_, ?_⟩
            all_goals (first | rfl | (simp only [x_r50_Tape, seval, -Int.reduceToNat] <;> rfl))

theorem ok_r50_Tape : COk Tryd.prog 14 G_r50_Tape := COk.of (mode := .clean) tok ge_r50_Tape mixed Tryd.func14 (by kernel_rfl) ⟨by kernel_rfl, by kernel_rfl⟩ (fun _ => Nat.le_of_ble_eq_true (by kernel_rfl)) (fun x r h => m_r50_Tape x.1 x.2.1 x.2.2 r h)

noncomputable def G_slices_Values := mkG (as1 (aSl (eI .i64))) (fun x : (List Int) => slices_Values x) (fun r : (List Int) => .clean (.clo 61 0 [.ip [.sl false false r.length (encL (eI .i64) r)]]))

theorem q_slices_Values (p0 : (List Int)) : G_slices_Values none [.sl false false p0.length (encL (eI .i64) p0)] = (slices_Values p0).map fun r : (List Int) => (.clean (.clo 61 0 [.ip [.sl false false r.length (encL (eI .i64) r)]]), none) := mkG_eq _ _ _ p0

theorem ok_slices_Values : COk Tryd.prog 44 G_slices_Values := values_ok

noncomputable def G_slices_Compact_w := mkE 3 (eI .i64) as0 (fun (l : (List Int)) (_ : Unit) => slices_Compact l)

theorem q_slices_Compact_w (pre post : List D) (p0 : (List Int)) : G_slices_Compact_w (some (.buf 0 0 1 pre.length p0.length, ⟨0, 3, pre ++ (encL (eI .i64) p0 ++ post), false, true, false⟩)) [] = (slices_Compact p0).map fun r => (.fresh 3 1 r.length (encL (eI .i64) r), none) := mkE_eq _ _ _ _ pre post p0 ()

theorem ok_slices_Compact_w : COk Tryd.prog 45 G_slices_Compact_w := compact_ok Tryd.func45 ⟨by kernel_rfl, by kernel_rfl⟩ ⟨fun blk off cap zs w h1 h2 h3 => Any.slices_Compact_int Tryd.lays20 blk off cap zs w h1 h2 h3, fun a cap w => Any.slices_Compact_int_empty Tryd.lays20 a cap w⟩

noncomputable def G_slices_Sorted_slices_Values_int_int_1 := mkG (as1 (aClo 61 0 (as1 (aIp (eSl (eI .i64)))))) (fun x : (List Int) => slices_Sorted_slices_Values_int_int_1 x) (fun r : (List Int) => .fresh 3 1 r.length (encL (eI .i64) r))

theorem q_slices_Sorted_slices_Values_int_int_1 (p0 : (List Int)) : G_slices_Sorted_slices_Values_int_int_1 none [.clo 61 0 [.ip [.sl false false p0.length (encL (eI .i64) p0)]]] = (slices_Sorted_slices_Values_int_int_1 p0).map fun r : (List Int) => (.fresh 3 1 r.length (encL (eI .i64) r), none) := mkG_eq _ _ _ p0

theorem ok_slices_Sorted_slices_Values_int_int_1 : COk Tryd.prog 43 G_slices_Sorted_slices_Values_int_int_1 := sorted_ok

noncomputable def G_tape_twice := mkG (as1 (aSl (eI .i64))) (fun x : (List Int) => tape_twice x) (fun r : Bool => .clean (.bool r))

theorem q_tape_twice (p0 : (List Int)) : G_tape_twice none [.sl false false p0.length (encL (eI .i64) p0)] = (tape_twice p0).map fun r : Bool => (.clean (.bool r), none) := mkG_eq _ _ _ (p0)

noncomputable def g_tape_twice : Env := (Am.ext (Am.ext (Am.ext noEnv 43 false G_slices_Sorted_slices_Values_int_int_1) 44 false G_slices_Values) 45 true G_slices_Compact_w)

theorem ge_tape_twice : GOk Tryd.prog g_tape_twice := (((GOk.none.add ok_slices_Sorted_slices_Values_int_int_1 false).add ok_slices_Values false).add ok_slices_Compact_w true)

theorem gg_tape_twice : g_tape_twice = (Am.ext (Am.ext (Am.ext noEnv 43 false G_slices_Sorted_slices_Values_int_int_1) 44 false G_slices_Values) 45 true G_slices_Compact_w) := Eq.trans rfl rfl

theorem x_tape_twice : type_of% (And.intro @w <| And.intro @q_slices_Sorted_slices_Values_int_int_1 <| And.intro @q_slices_Values <| @gg_tape_twice) := And.intro @w <| And.intro @q_slices_Sorted_slices_Values_int_int_1 <| And.intro @q_slices_Values <| @gg_tape_twice

theorem m_tape_twice (p0 : (List Int)) (r : Bool) (hh : tape_twice p0 = some r) : vfunc .clean tab g_tape_twice FU Tryd.f29 none [.sl false false p0.length (encL (eI .i64) p0)] = some (.clean (.bool r), none) := by
  refine vfunc_of rfl Tryd.ntmps29 Tryd.results29 ?_
  unfold tape_twice at hh
  obtain ⟨r1, hr1, hh⟩ := bindS hh
  obtain ⟨r2, hr2, hh⟩ := bindS hh
  have i3 := q_slices_Compact_w [] [] r2
  try simp only [List.nil_append, List.append_nil, List.length_nil, encL_cons, List.length_set, vmz] at i3
  obtain ⟨r4, hr4, hh⟩ := bindS hh
  cases hh
  try simp only [x_tape_twice, seval, -Int.reduceToNat, hr1, hr2, i3, hr4]

theorem ok_tape_twice : COk Tryd.prog 29 G_tape_twice := COk.of (mode := .clean) tok ge_tape_twice mixed Tryd.func29 (by kernel_rfl) ⟨by kernel_rfl, by kernel_rfl⟩ (fun _ => Nat.le_of_ble_eq_true (by kernel_rfl)) (fun x r h => m_tape_twice x r h)

noncomputable def G_tape_Open := mkG (asC (aAgg eTVault) (asC (aSl (eI .i64)) (asC (aSl (eSl (eI .i64))) (asC (aSl (eI .i64)) (asC (aI .i64) (as1 (aI .i64))))))) (fun x : TVault × (List Int) × (List (List Int)) × (List Int) × Int × Int => tape_Open x.1 x.2.1 x.2.2.1 x.2.2.2.1 x.2.2.2.2.1 x.2.2.2.2.2) (fun r : (List Int) × Int => .clean (.tup [.sl false false r.1.length (encL (eI .i64) r.1), .int .i64 r.2]))

theorem q_tape_Open (p0_0 : (List TThing)) (p1 : (List Int)) (p2 : (List (List Int))) (p3 : (List Int)) (p4 : Int) (p5 : Int) : G_tape_Open none [.agg [.sl false false p0_0.length (encL eTThing p0_0)], .sl false false p1.length (encL (eI .i64) p1), .sl false false p2.length (encL (eSl (eI .i64)) p2), .sl false false p3.length (encL (eI .i64) p3), .int .i64 p4, .int .i64 p5] = (tape_Open (TVault.mk p0_0) p1 p2 p3 p4 p5).map fun r : (List Int) × Int => (.clean (.tup [.sl false false r.1.length (encL (eI .i64) r.1), .int .i64 r.2]), none) := mkG_eq _ _ _ ((TVault.mk p0_0), p1, p2, p3, p4, p5)

noncomputable def g_tape_Open : Env := (Am.ext (Am.ext (Am.ext (Am.ext noEnv 13 false G_tape_Tape) 20 false G_tape_Text) 29 false G_tape_twice) 30 false G_vault_Opens)

theorem ge_tape_Open : GOk Tryd.prog g_tape_Open := ((((GOk.none.add ok_tape_Tape false).add ok_tape_Text false).add ok_tape_twice false).add ok_vault_Opens false)

theorem gg_tape_Open : g_tape_Open = (Am.ext (Am.ext (Am.ext (Am.ext noEnv 13 false G_tape_Tape) 20 false G_tape_Text) 29 false G_tape_twice) 30 false G_vault_Opens) := Eq.trans rfl rfl

theorem x_tape_Open : type_of% (And.intro @w <| And.intro @q_tape_Tape <| And.intro @q_tape_Text <| And.intro @q_tape_twice <| And.intro @q_vault_Opens <| @gg_tape_Open) := And.intro @w <| And.intro @q_tape_Tape <| And.intro @q_tape_Text <| And.intro @q_tape_twice <| And.intro @q_vault_Opens <| @gg_tape_Open

theorem m_tape_Open (p0 : TVault) (p1 : (List Int)) (p2 : (List (List Int))) (p3 : (List Int)) (p4 : Int) (p5 : Int) (r : (List Int) × Int) (hh : tape_Open p0 p1 p2 p3 p4 p5 = some r) : vfunc .clean tab g_tape_Open FU Tryd.f15 none [.agg [.sl false false p0.f_Things.length (encL eTThing p0.f_Things)], .sl false false p1.length (encL (eI .i64) p1), .sl false false p2.length (encL (eSl (eI .i64)) p2), .sl false false p3.length (encL (eI .i64) p3), .int .i64 p4, .int .i64 p5] = some (.clean (.tup [.sl false false r.1.length (encL (eI .i64) r.1), .int .i64 r.2]), none) := by
  refine vfunc_of rfl Tryd.ntmps15 Tryd.results15 ?_
  unfold tape_Open at hh
  obtain ⟨r1, hr1, hh⟩ := bindS hh
  try simp only [x_tape_Open, seval, -Int.reduceToNat, hr1]
  refine tstC_br (fun hb2 => ?_) (fun hb2 => ?_)
  · replace hh := ite_t hb2 hh
    cases hh
    try simp only [x_tape_Open, seval, -Int.reduceToNat, hr1]
  · replace hh := ite_f hb2 hh
    try simp only [x_tape_Open, seval, -Int.reduceToNat, hr1]
    obtain ⟨o3, ho3, hh⟩ := bindS hh
    refine tstO_cut 0 (fun s t H e => match s with | s29j1 => ∃ v6j1 : Nat, t 1 = .sl false false p1.length (encL (eI .i64) p1) ∧ t 2 = .sl false false p2.length (encL (eSl (eI .i64)) p2) ∧ t 3 = .sl false false p3.length (encL (eI .i64) p3) ∧ t 6 = .ptr 6 v6j1 0 ∧ t 14 = .sl false false r1.1.length (encL (eI .i64) r1.1) ∧ t 29 = .bool s29j1 ∧ H 6 = some ⟨v6j1, 26, [.sl false false p0.f_Things.length (encL eTThing p0.f_Things)], false, false, false⟩) (fun s => s = o3) ?_ ?_
    · rintro s29j1 t H e ⟨v6j1, t1j1, t2j1, t3j1, t6j1, t14j1, t29j1, H6j1⟩ rfl
      try dsimp only at hh
      try simp only [x_tape_Open, seval, -Int.reduceToNat, hr1, t1j1, t2j1, t3j1, t6j1, t14j1, t29j1, H6j1]
      refine tstC_br (fun hb4 => ?_) (fun hb4 => ?_)
      · replace hh := ite_t hb4 hh
        cases hh
        try simp only [x_tape_Open, seval, -Int.reduceToNat, hr1, t1j1, t2j1, t3j1, t6j1, t14j1, t29j1, H6j1]
      · replace hh := ite_f hb4 hh
        obtain ⟨r5, hr5, hh⟩ := bindS hh
        try simp only [x_tape_Open, seval, -Int.reduceToNat, hr1, t1j1, t2j1, t3j1, t6j1, t14j1, t29j1, H6j1, hr5]
        refine tstC_br (fun hb6 => ?_) (fun hb6 => ?_)
        · replace hh := ite_t hb6 hh
          cases hh
          try simp only [x_tape_Open, seval, -Int.reduceToNat, hr1, t1j1, t2j1, t3j1, t6j1, t14j1, t29j1, H6j1, hr5]
        · replace hh := ite_f hb6 hh
          try simp only [x_tape_Open, seval, -Int.reduceToNat, hr1, t1j1, t2j1, t3j1, t6j1, t14j1, t29j1, H6j1, hr5]
          obtain ⟨o14, ho14, hh⟩ := bindS hh
          refine runLoop_sim (fun s t H e => match s with | s47b => ∃ v6b : Nat, t 2 = .sl false false p2.length (encL (eSl (eI .i64)) p2) ∧ t 3 = .sl false false p3.length (encL (eI .i64) p3) ∧ t 6 = .ptr 6 v6b 0 ∧ t 14 = .sl false false r1.1.length (encL (eI .i64) r1.1) ∧ t 45 = .sl false false p1.length (encL (eI .i64) p1) ∧ t 46 = .int .i64 (p1.length : Int) ∧ t 47 = .int .i64 s47b ∧ H 6 = some ⟨v6b, 26, [.sl false false p0.f_Things.length (encL eTThing p0.f_Things)], false, false, false⟩) (fun o x t H e => match o with | (.inl _) => x = .exit 1 ∧ t 14 = .sl false false r1.1.length (encL (eI .i64) r1.1) | (.inr r) => x = .ret ∧ endM .clean tab none [.tmp 12, .tmp 13] ⟨t, H, e⟩ = some (.clean (.tup [.sl false false r.1.length (encL (eI .i64) r.1), .int .i64 r.2]), none)) ho14 ?_ ?_ ?_
          ·
            refine ⟨v6j1, ?_, ?_, ?_, ?_, ?_, ?_, ?_, ?_⟩
            all_goals (first | rfl | (simp only [x_tape_Open, seval, -Int.reduceToNat, hr1, t1j1, t2j1, t3j1, t6j1, t14j1, t29j1, H6j1, hr5] <;> rfl))
          · rintro s47b t H e ⟨v6b, t2b, t3b, t6b, t14b, t45b, t46b, t47b, H6b⟩ c hh
            simp only [tape_Open_L2] at hh
            try simp only [x_tape_Open, seval, -Int.reduceToNat, hr1, hr5, t2b, t3b, t6b, t14b, t45b, t46b, t47b, H6b]
            refine tstC_br (fun hb15 => ?_) (fun hb15 => ?_)
            · replace hh := ite_t hb15 hh
              obtain ⟨x16, hx16, hh⟩ := bindS hh
              have bx16 := idx_bd hx16
              have ax16 := idx_enc (eI .i64) hx16
              have fx16 := idx_fit (eI .i64) hx16
              simp only [vmz] at ax16 fx16
              skip
              obtain ⟨x17, hx17, hh⟩ := bindS hh
              have bx17 := idx_bd hx17
              have ax17 := idx_enc (eSl (eI .i64)) hx17
              have fx17 := idx_fit (eSl (eI .i64)) hx17
              simp only [vmz] at ax17 fx17
              skip
              obtain ⟨r18, hr18, hh⟩ := bindS hh
              obtain ⟨x19, hx19, hh⟩ := bindS hh
              have bx19 := idx_bd hx19
              have ax19 := idx_enc (eI .i64) hx19
              have fx19 := idx_fit (eI .i64) hx19
              simp only [vmz] at ax19 fx19
              skip
              obtain ⟨r20, hr20, hh⟩ := bindS hh
              try simp only [x_tape_Open, seval, -Int.reduceToNat, hr1, hr5, t2b, t3b, t6b, t14b, t45b, t46b, t47b, H6b, bx16, ax16, fx16, bx17, ax17, fx17, hr18, bx19, ax19, fx19, hr20]
              refine dyn_ok (by kernel_rfl) ?_
              try simp only [x_tape_Open, seval, -Int.reduceToNat, hr1, hr5, t2b, t3b, t6b, t14b, t45b, t46b, t47b, H6b, bx16, ax16, fx16, bx17, ax17, fx17, hr18, bx19, ax19, fx19, hr20]
              refine tstC_br (fun hb21 => ?_) (fun hb21 => ?_)
              · replace hh := ite_t hb21 hh
                cases hh
                try simp only [x_tape_Open, seval, -Int.reduceToNat, hr1, hr5, t2b, t3b, t6b, t14b, t45b, t46b, t47b, H6b, bx16, ax16, fx16, bx17, ax17, fx17, hr18, bx19, ax19, fx19, hr20]
                rw [LK_ret]
                refine ⟨_, rfl, ?_⟩
                refine ⟨rfl, ?_⟩
                try simp only [x_tape_Open, seval, -Int.reduceToNat, hr1, hr5, t2b, t3b, t6b, t14b, t45b, t46b, t47b, H6b, bx16, ax16, fx16, bx17, ax17, fx17, hr18, bx19, ax19, fx19, hr20]
              · replace hh := ite_f hb21 hh
                cases hh
                try simp only [x_tape_Open, seval, -Int.reduceToNat, hr1, hr5, t2b, t3b, t6b, t14b, t45b, t46b, t47b, H6b, bx16, ax16, fx16, bx17, ax17, fx17, hr18, bx19, ax19, fx19, hr20]
                rw [LK_normal]
                refine ⟨_, rfl, ?_⟩
                refine ⟨v6b, ?_, ?_, ?_, ?_, ?_, ?_, ?_, ?_⟩
                all_goals (first | rfl | (simp only [x_tape_Open, seval, -Int.reduceToNat, hr1, hr5, t2b, t3b, t6b, t14b, t45b, t46b, t47b, H6b, bx16, ax16, fx16, bx17, ax17, fx17, hr18, bx19, ax19, fx19, hr20] <;> rfl))
            · replace hh := ite_f hb15 hh
              cases hh
              try simp only [x_tape_Open, seval, -Int.reduceToNat, hr1, hr5, t2b, t3b, t6b, t14b, t45b, t46b, t47b, H6b]
              rw [LK_exit]
              refine ⟨_, rfl, ?_⟩
              refine ⟨rfl, ?_⟩
              all_goals (first | rfl | (simp only [x_tape_Open, seval, -Int.reduceToNat, hr1, hr5, t2b, t3b, t6b, t14b, t45b, t46b, t47b, H6b] <;> rfl))
          · rintro x t H e hx
            rcases o14 with _ | rb
            ·
              dsimp only at hx hh
              obtain ⟨rfl, t14bx⟩ := hx
              cases hh
              try simp only [x_tape_Open, seval, -Int.reduceToNat, hr1, hr5, t14bx]
            ·
              dsimp only at hx hh
              obtain ⟨rfl, hE⟩ := hx
              cases hh
              try simp only [runW_pass_ret, runW_pass_exit, runW_blk_ret, runW_nil, endW_ret]
              exact hE
    ·
      clear hh
      have hh := ho3
      try simp only [x_tape_Open, seval, -Int.reduceToNat, hr1]
      refine tstO_br' (fun hb22 => ?_) (fun hb22 => ?_)
      · replace hh := ite_t hb22 hh
        cases hh
        try simp only [x_tape_Open, seval, -Int.reduceToNat, hr1]
        rw [CK_normal]
        refine ⟨_, rfl, ?_⟩
        refine ⟨0, ?_, ?_, ?_, ?_, ?_, ?_, ?_⟩
        all_goals (first | rfl | (simp only [x_tape_Open, seval, -Int.reduceToNat, hr1] <;> rfl))
      · replace hh := ite_f hb22 hh
        cases hh
        try simp only [x_tape_Open, seval, -Int.reduceToNat, hr1]
        rw [CK_normal]
        refine ⟨_, rfl, ?_⟩
        refine ⟨0, ?_, ?_, ?_, ?_, ?_, ?_, ?_⟩
        all_goals (first | rfl | (simp only [x_tape_Open, seval, -Int.reduceToNat, hr1] <;> rfl))

theorem ok_tape_Open : COk Tryd.prog 15 G_tape_Open := COk.of (mode := .clean) tok ge_tape_Open mixed Tryd.func15 (by kernel_rfl) ⟨by kernel_rfl, by kernel_rfl⟩ (fun _ => Nat.le_of_ble_eq_true (by kernel_rfl)) (fun x r h => m_tape_Open x.1 x.2.1 x.2.2.1 x.2.2.2.1 x.2.2.2.2.1 x.2.2.2.2.2 r h)

noncomputable def G_r50_Open := mkG (asC (aAgg eTVault) (asC (aSl (eI .i64)) (asC (aSl (eSl (eI .i64))) (asC (aSl (eI .i64)) (asC (aI .i64) (as1 (aI .i64))))))) (fun x : TVault × (List Int) × (List (List Int)) × (List Int) × Int × Int => r50_Open x.1 x.2.1 x.2.2.1 x.2.2.2.1 x.2.2.2.2.1 x.2.2.2.2.2) (fun r : (List Int) × Int => .clean (.tup [.sl false false r.1.length (encL (eI .i64) r.1), .int .i64 r.2]))

theorem q_r50_Open (p0_0 : (List TThing)) (p1 : (List Int)) (p2 : (List (List Int))) (p3 : (List Int)) (p4 : Int) (p5 : Int) : G_r50_Open none [.agg [.sl false false p0_0.length (encL eTThing p0_0)], .sl false false p1.length (encL (eI .i64) p1), .sl false false p2.length (encL (eSl (eI .i64)) p2), .sl false false p3.length (encL (eI .i64) p3), .int .i64 p4, .int .i64 p5] = (r50_Open (TVault.mk p0_0) p1 p2 p3 p4 p5).map fun r : (List Int) × Int => (.clean (.tup [.sl false false r.1.length (encL (eI .i64) r.1), .int .i64 r.2]), none) := mkG_eq _ _ _ ((TVault.mk p0_0), p1, p2, p3, p4, p5)

noncomputable def g_r50_Open : Env := (Am.ext (Am.ext (Am.ext noEnv 14 false G_r50_Tape) 21 false G_r50_Text) 31 false G_r35_Opens)

theorem ge_r50_Open : GOk Tryd.prog g_r50_Open := (((GOk.none.add ok_r50_Tape false).add ok_r50_Text false).add ok_r35_Opens false)

theorem gg_r50_Open : g_r50_Open = (Am.ext (Am.ext (Am.ext noEnv 14 false G_r50_Tape) 21 false G_r50_Text) 31 false G_r35_Opens) := Eq.trans rfl rfl

theorem x_r50_Open : type_of% (And.intro @w <| And.intro @q_r50_Tape <| And.intro @q_r50_Text <| And.intro @q_r35_Opens <| @gg_r50_Open) := And.intro @w <| And.intro @q_r50_Tape <| And.intro @q_r50_Text <| And.intro @q_r35_Opens <| @gg_r50_Open

theorem m_r50_Open (p0 : TVault) (p1 : (List Int)) (p2 : (List (List Int))) (p3 : (List Int)) (p4 : Int) (p5 : Int) (r : (List Int) × Int) (hh : r50_Open p0 p1 p2 p3 p4 p5 = some r) : vfunc .clean tab g_r50_Open FU Tryd.f16 none [.agg [.sl false false p0.f_Things.length (encL eTThing p0.f_Things)], .sl false false p1.length (encL (eI .i64) p1), .sl false false p2.length (encL (eSl (eI .i64)) p2), .sl false false p3.length (encL (eI .i64) p3), .int .i64 p4, .int .i64 p5] = some (.clean (.tup [.sl false false r.1.length (encL (eI .i64) r.1), .int .i64 r.2]), none) := by
  refine vfunc_of rfl Tryd.ntmps16 Tryd.results16 ?_
  unfold r50_Open at hh
  obtain ⟨r1, hr1, hh⟩ := bindS hh
  try simp only [x_r50_Open, seval, -Int.reduceToNat, hr1]
  refine tstC_br (fun hb2 => ?_) (fun hb2 => ?_)
  · replace hh := ite_t hb2 hh
    cases hh
    try simp only [x_r50_Open, seval, -Int.reduceToNat, hr1]
  · replace hh := ite_f hb2 hh
    try simp only [x_r50_Open, seval, -Int.reduceToNat, hr1]
    obtain ⟨o3, ho3, hh⟩ := bindS hh
    refine tstO_cut 0 (fun s t H e => match s with | s40j1 => ∃ v6j1 : Nat, t 1 = .sl false false p1.length (encL (eI .i64) p1) ∧ t 2 = .sl false false p2.length (encL (eSl (eI .i64)) p2) ∧ t 3 = .sl false false p3.length (encL (eI .i64) p3) ∧ t 6 = .ptr 6 v6j1 0 ∧ t 14 = .sl false false r1.1.length (encL (eI .i64) r1.1) ∧ t 40 = .bool s40j1 ∧ H 6 = some ⟨v6j1, 26, [.sl false false p0.f_Things.length (encL eTThing p0.f_Things)], false, false, false⟩) (fun s => s = o3) ?_ ?_
    · rintro s40j1 t H e ⟨v6j1, t1j1, t2j1, t3j1, t6j1, t14j1, t40j1, H6j1⟩ rfl
      try dsimp only at hh
      try simp only [x_r50_Open, seval, -Int.reduceToNat, hr1, t1j1, t2j1, t3j1, t6j1, t14j1, t40j1, H6j1]
      refine tstC_br (fun hb4 => ?_) (fun hb4 => ?_)
      · replace hh := ite_t hb4 hh
        cases hh
        try simp only [x_r50_Open, seval, -Int.reduceToNat, hr1, t1j1, t2j1, t3j1, t6j1, t14j1, t40j1, H6j1]
      · replace hh := ite_f hb4 hh
        try simp only [x_r50_Open, seval, -Int.reduceToNat, hr1, t1j1, t2j1, t3j1, t6j1, t14j1, t40j1, H6j1]
        obtain ⟨o15, ho15, hh⟩ := bindS hh
        refine runLoop_sim (fun s t H e => match s with | s16b => ∃ v6b : Nat, t 1 = .sl false false p1.length (encL (eI .i64) p1) ∧ t 2 = .sl false false p2.length (encL (eSl (eI .i64)) p2) ∧ t 3 = .sl false false p3.length (encL (eI .i64) p3) ∧ t 6 = .ptr 6 v6b 0 ∧ t 14 = .sl false false r1.1.length (encL (eI .i64) r1.1) ∧ t 16 = .int .i64 s16b ∧ H 6 = some ⟨v6b, 26, [.sl false false p0.f_Things.length (encL eTThing p0.f_Things)], false, false, false⟩) (fun o x t H e => match o with | (.inl _) => x = .exit 0 ∧ ∃ v6bx : Nat, t 1 = .sl false false p1.length (encL (eI .i64) p1) ∧ t 2 = .sl false false p2.length (encL (eSl (eI .i64)) p2) ∧ t 3 = .sl false false p3.length (encL (eI .i64) p3) ∧ t 6 = .ptr 6 v6bx 0 ∧ t 14 = .sl false false r1.1.length (encL (eI .i64) r1.1) ∧ H 6 = some ⟨v6bx, 26, [.sl false false p0.f_Things.length (encL eTThing p0.f_Things)], false, false, false⟩ | (.inr r) => x = .ret ∧ endM .clean tab none [.tmp 12, .tmp 13] ⟨t, H, e⟩ = some (.clean (.tup [.sl false false r.1.length (encL (eI .i64) r.1), .int .i64 r.2]), none)) ho15 ?_ ?_ ?_
        ·
          refine ⟨v6j1, ?_, ?_, ?_, ?_, ?_, ?_, ?_⟩
          all_goals (first | rfl | (simp only [x_r50_Open, seval, -Int.reduceToNat, hr1, t1j1, t2j1, t3j1, t6j1, t14j1, t40j1, H6j1] <;> rfl))
        · rintro s16b t H e ⟨v6b, t1b, t2b, t3b, t6b, t14b, t16b, H6b⟩ c hh
          simp only [r50_Open_L2] at hh
          try simp only [x_r50_Open, seval, -Int.reduceToNat, hr1, t1b, t2b, t3b, t6b, t14b, t16b, H6b]
          refine tstC_br (fun hb16 => ?_) (fun hb16 => ?_)
          · replace hh := ite_t hb16 hh
            try simp only [x_r50_Open, seval, -Int.reduceToNat, hr1, t1b, t2b, t3b, t6b, t14b, t16b, H6b]
            obtain ⟨o21, ho21, hh⟩ := bindS hh
            refine runLoop_sim (fun s t H e => match s with | s17d => ∃ v6d : Nat, t 1 = .sl false false p1.length (encL (eI .i64) p1) ∧ t 2 = .sl false false p2.length (encL (eSl (eI .i64)) p2) ∧ t 3 = .sl false false p3.length (encL (eI .i64) p3) ∧ t 6 = .ptr 6 v6d 0 ∧ t 14 = .sl false false r1.1.length (encL (eI .i64) r1.1) ∧ t 16 = .int .i64 s16b ∧ t 17 = .int .i64 s17d ∧ H 6 = some ⟨v6d, 26, [.sl false false p0.f_Things.length (encL eTThing p0.f_Things)], false, false, false⟩) (fun o x t H e => match o with | (.inl _) => x = .exit 2 ∧ ∃ v6dx : Nat, t 1 = .sl false false p1.length (encL (eI .i64) p1) ∧ t 2 = .sl false false p2.length (encL (eSl (eI .i64)) p2) ∧ t 3 = .sl false false p3.length (encL (eI .i64) p3) ∧ t 6 = .ptr 6 v6dx 0 ∧ t 14 = .sl false false r1.1.length (encL (eI .i64) r1.1) ∧ t 16 = .int .i64 s16b ∧ H 6 = some ⟨v6dx, 26, [.sl false false p0.f_Things.length (encL eTThing p0.f_Things)], false, false, false⟩ | (.inr r) => x = .ret ∧ endM .clean tab none [.tmp 12, .tmp 13] ⟨t, H, e⟩ = some (.clean (.tup [.sl false false r.1.length (encL (eI .i64) r.1), .int .i64 r.2]), none)) ho21 ?_ ?_ ?_
            ·
              refine ⟨v6b, ?_, ?_, ?_, ?_, ?_, ?_, ?_, ?_⟩
              all_goals (first | rfl | (simp only [x_r50_Open, seval, -Int.reduceToNat, hr1, t1b, t2b, t3b, t6b, t14b, t16b, H6b] <;> rfl))
            · rintro s17d t H e ⟨v6d, t1d, t2d, t3d, t6d, t14d, t16d, t17d, H6d⟩ c hh
              simp only [r50_Open_L4] at hh
              try simp only [x_r50_Open, seval, -Int.reduceToNat, hr1, t1d, t2d, t3d, t6d, t14d, t16d, t17d, H6d]
              refine tstC_br (fun hb22 => ?_) (fun hb22 => ?_)
              · replace hh := ite_t hb22 hh
                obtain ⟨x23, hx23, hh⟩ := bindS hh
                have bx23 := idx_bd hx23
                have ax23 := idx_enc (eI .i64) hx23
                have fx23 := idx_fit (eI .i64) hx23
                simp only [vmz] at ax23 fx23
                skip
                obtain ⟨x24, hx24, hh⟩ := bindS hh
                have bx24 := idx_bd hx24
                have ax24 := idx_enc (eI .i64) hx24
                have fx24 := idx_fit (eI .i64) hx24
                simp only [vmz] at ax24 fx24
                skip
                try simp only [x_r50_Open, seval, -Int.reduceToNat, hr1, t1d, t2d, t3d, t6d, t14d, t16d, t17d, H6d, bx23, ax23, fx23, bx24, ax24, fx24]
                refine dyn_ok (by kernel_rfl) ?_
                try simp only [x_r50_Open, seval, -Int.reduceToNat, hr1, t1d, t2d, t3d, t6d, t14d, t16d, t17d, H6d, bx23, ax23, fx23, bx24, ax24, fx24]
                refine tstC_br (fun hb25 => ?_) (fun hb25 => ?_)
                · replace hh := ite_t hb25 hh
                  cases hh
                  try simp only [x_r50_Open, seval, -Int.reduceToNat, hr1, t1d, t2d, t3d, t6d, t14d, t16d, t17d, H6d, bx23, ax23, fx23, bx24, ax24, fx24]
                  rw [LK_ret]
                  refine ⟨_, rfl, ?_⟩
                  refine ⟨rfl, ?_⟩
                  try simp only [x_r50_Open, seval, -Int.reduceToNat, hr1, t1d, t2d, t3d, t6d, t14d, t16d, t17d, H6d, bx23, ax23, fx23, bx24, ax24, fx24]
                · replace hh := ite_f hb25 hh
                  cases hh
                  try simp only [x_r50_Open, seval, -Int.reduceToNat, hr1, t1d, t2d, t3d, t6d, t14d, t16d, t17d, H6d, bx23, ax23, fx23, bx24, ax24, fx24]
                  rw [LK_normal]
                  refine ⟨_, rfl, ?_⟩
                  refine ⟨v6d, ?_, ?_, ?_, ?_, ?_, ?_, ?_, ?_⟩
                  all_goals (first | rfl | (simp only [x_r50_Open, seval, -Int.reduceToNat, hr1, t1d, t2d, t3d, t6d, t14d, t16d, t17d, H6d, bx23, ax23, fx23, bx24, ax24, fx24] <;> rfl))
              · replace hh := ite_f hb22 hh
                cases hh
                try simp only [x_r50_Open, seval, -Int.reduceToNat, hr1, t1d, t2d, t3d, t6d, t14d, t16d, t17d, H6d]
                rw [LK_exit]
                refine ⟨_, rfl, ?_⟩
                refine ⟨rfl, ⟨v6d, ?_, ?_, ?_, ?_, ?_, ?_, ?_⟩⟩
                all_goals (first | rfl | (simp only [x_r50_Open, seval, -Int.reduceToNat, hr1, t1d, t2d, t3d, t6d, t14d, t16d, t17d, H6d] <;> rfl))
            · rintro x t H e hx
              rcases o21 with _ | rd
              ·
                dsimp only at hx hh
                obtain ⟨rfl, ⟨v6dx, t1dx, t2dx, t3dx, t6dx, t14dx, t16dx, H6dx⟩⟩ := hx
                cases hh
                try simp only [x_r50_Open, seval, -Int.reduceToNat, hr1, t1dx, t2dx, t3dx, t6dx, t14dx, t16dx, H6dx]
                rw [LK_normal]
                refine ⟨_, rfl, ?_⟩
                refine ⟨v6dx, ?_, ?_, ?_, ?_, ?_, ?_, ?_⟩
                all_goals (first | rfl | (simp only [x_r50_Open, seval, -Int.reduceToNat, hr1, t1dx, t2dx, t3dx, t6dx, t14dx, t16dx, H6dx] <;> rfl))
              ·
                dsimp only at hx hh
                obtain ⟨rfl, hE⟩ := hx
                cases hh
                try simp only [runW_pass_ret, runW_pass_exit, runW_blk_ret, runW_nil, endW_ret]
                rw [LK_ret]
                refine ⟨_, rfl, ?_⟩
                first | exact ⟨rfl, hE⟩ | (simp only [x_r50_Open, seval, -Int.reduceToNat] at hE; exact ⟨rfl, hE⟩)
          · replace hh := ite_f hb16 hh
            cases hh
            try simp only [x_r50_Open, seval, -Int.reduceToNat, hr1, t1b, t2b, t3b, t6b, t14b, t16b, H6b]
            rw [LK_exit]
            refine ⟨_, rfl, ?_⟩
            refine ⟨rfl, ⟨v6b, ?_, ?_, ?_, ?_, ?_, ?_⟩⟩
            all_goals (first | rfl | (simp only [x_r50_Open, seval, -Int.reduceToNat, hr1, t1b, t2b, t3b, t6b, t14b, t16b, H6b] <;> rfl))
        · rintro x t H e hx
          rcases o15 with _ | rb
          ·
            dsimp only at hx hh
            obtain ⟨rfl, ⟨v6bx, t1bx, t2bx, t3bx, t6bx, t14bx, H6bx⟩⟩ := hx
            try simp only [x_r50_Open, seval, -Int.reduceToNat, hr1, t1bx, t2bx, t3bx, t6bx, t14bx, H6bx]
            obtain ⟨o33, ho33, hh⟩ := bindS hh
            refine runLoop_sim (fun s t H e => match s with | s18e => ∃ v6e : Nat, t 1 = .sl false false p1.length (encL (eI .i64) p1) ∧ t 2 = .sl false false p2.length (encL (eSl (eI .i64)) p2) ∧ t 3 = .sl false false p3.length (encL (eI .i64) p3) ∧ t 6 = .ptr 6 v6e 0 ∧ t 14 = .sl false false r1.1.length (encL (eI .i64) r1.1) ∧ t 18 = .int .i64 s18e ∧ H 6 = some ⟨v6e, 26, [.sl false false p0.f_Things.length (encL eTThing p0.f_Things)], false, false, false⟩) (fun o x t H e => match o with | (.inl _) => x = .exit 4 ∧ t 14 = .sl false false r1.1.length (encL (eI .i64) r1.1) | (.inr r) => x = .ret ∧ endM .clean tab none [.tmp 12, .tmp 13] ⟨t, H, e⟩ = some (.clean (.tup [.sl false false r.1.length (encL (eI .i64) r.1), .int .i64 r.2]), none)) ho33 ?_ ?_ ?_
            ·
              refine ⟨v6bx, ?_, ?_, ?_, ?_, ?_, ?_, ?_⟩
              all_goals (first | rfl | (simp only [x_r50_Open, seval, -Int.reduceToNat, hr1, t1bx, t2bx, t3bx, t6bx, t14bx, H6bx] <;> rfl))
            · rintro s18e t H e ⟨v6e, t1e, t2e, t3e, t6e, t14e, t18e, H6e⟩ c hh
              simp only [r50_Open_L5] at hh
              try simp only [x_r50_Open, seval, -Int.reduceToNat, hr1, t1e, t2e, t3e, t6e, t14e, t18e, H6e]
              refine tstC_br (fun hb34 => ?_) (fun hb34 => ?_)
              · replace hh := ite_t hb34 hh
                obtain ⟨x35, hx35, hh⟩ := bindS hh
                have bx35 := idx_bd hx35
                have ax35 := idx_enc (eI .i64) hx35
                have fx35 := idx_fit (eI .i64) hx35
                simp only [vmz] at ax35 fx35
                skip
                obtain ⟨x36, hx36, hh⟩ := bindS hh
                have bx36 := idx_bd hx36
                have ax36 := idx_enc (eSl (eI .i64)) hx36
                have fx36 := idx_fit (eSl (eI .i64)) hx36
                simp only [vmz] at ax36 fx36
                skip
                obtain ⟨r37, hr37, hh⟩ := bindS hh
                obtain ⟨x38, hx38, hh⟩ := bindS hh
                have bx38 := idx_bd hx38
                have ax38 := idx_enc (eI .i64) hx38
                have fx38 := idx_fit (eI .i64) hx38
                simp only [vmz] at ax38 fx38
                skip
                obtain ⟨r39, hr39, hh⟩ := bindS hh
                try simp only [x_r50_Open, seval, -Int.reduceToNat, hr1, t1e, t2e, t3e, t6e, t14e, t18e, H6e, bx35, ax35, fx35, bx36, ax36, fx36, hr37, bx38, ax38, fx38, hr39]
                refine dyn_ok (by kernel_rfl) ?_
                try simp only [x_r50_Open, seval, -Int.reduceToNat, hr1, t1e, t2e, t3e, t6e, t14e, t18e, H6e, bx35, ax35, fx35, bx36, ax36, fx36, hr37, bx38, ax38, fx38, hr39]
                refine tstC_br (fun hb40 => ?_) (fun hb40 => ?_)
                · replace hh := ite_t hb40 hh
                  cases hh
                  try simp only [x_r50_Open, seval, -Int.reduceToNat, hr1, t1e, t2e, t3e, t6e, t14e, t18e, H6e, bx35, ax35, fx35, bx36, ax36, fx36, hr37, bx38, ax38, fx38, hr39]
                  rw [LK_ret]
                  refine ⟨_, rfl, ?_⟩
                  refine ⟨rfl, ?_⟩
                  try simp only [x_r50_Open, seval, -Int.reduceToNat, hr1, t1e, t2e, t3e, t6e, t14e, t18e, H6e, bx35, ax35, fx35, bx36, ax36, fx36, hr37, bx38, ax38, fx38, hr39]
                · replace hh := ite_f hb40 hh
                  cases hh
                  try simp only [x_r50_Open, seval, -Int.reduceToNat, hr1, t1e, t2e, t3e, t6e, t14e, t18e, H6e, bx35, ax35, fx35, bx36, ax36, fx36, hr37, bx38, ax38, fx38, hr39]
                  rw [LK_normal]
                  refine ⟨_, rfl, ?_⟩
                  refine ⟨v6e, ?_, ?_, ?_, ?_, ?_, ?_, ?_⟩
                  all_goals (first | rfl | (simp only [x_r50_Open, seval, -Int.reduceToNat, hr1, t1e, t2e, t3e, t6e, t14e, t18e, H6e, bx35, ax35, fx35, bx36, ax36, fx36, hr37, bx38, ax38, fx38, hr39] <;> rfl))
              · replace hh := ite_f hb34 hh
                cases hh
                try simp only [x_r50_Open, seval, -Int.reduceToNat, hr1, t1e, t2e, t3e, t6e, t14e, t18e, H6e]
                rw [LK_exit]
                refine ⟨_, rfl, ?_⟩
                refine ⟨rfl, ?_⟩
                all_goals (first | rfl | (simp only [x_r50_Open, seval, -Int.reduceToNat, hr1, t1e, t2e, t3e, t6e, t14e, t18e, H6e] <;> rfl))
            · rintro x t H e hx
              rcases o33 with _ | re
              ·
                dsimp only at hx hh
                obtain ⟨rfl, t14ex⟩ := hx
                cases hh
                try simp only [x_r50_Open, seval, -Int.reduceToNat, hr1, t14ex]
              ·
                dsimp only at hx hh
                obtain ⟨rfl, hE⟩ := hx
                cases hh
                try simp only [runW_pass_ret, runW_pass_exit, runW_blk_ret, runW_nil, endW_ret]
                exact hE
          ·
            dsimp only at hx hh
            obtain ⟨rfl, hE⟩ := hx
            cases hh
            try simp only [runW_pass_ret, runW_pass_exit, runW_blk_ret, runW_nil, endW_ret]
            exact hE
    ·
      clear hh
      have hh := ho3
      try simp only [x_r50_Open, seval, -Int.reduceToNat, hr1]
      refine tstO_br' (fun hb41 => ?_) (fun hb41 => ?_)
      · replace hh := ite_t hb41 hh
        cases hh
        try simp only [x_r50_Open, seval, -Int.reduceToNat, hr1]
        rw [CK_normal]
        refine ⟨_, rfl, ?_⟩
        refine ⟨0, ?_, ?_, ?_, ?_, ?_, ?_, ?_⟩
        all_goals (first | rfl | (simp only [x_r50_Open, seval, -Int.reduceToNat, hr1] <;> rfl))
      · replace hh := ite_f hb41 hh
        cases hh
        try simp only [x_r50_Open, seval, -Int.reduceToNat, hr1]
        rw [CK_normal]
        refine ⟨_, rfl, ?_⟩
        refine ⟨0, ?_, ?_, ?_, ?_, ?_, ?_, ?_⟩
        all_goals (first | rfl | (simp only [x_r50_Open, seval, -Int.reduceToNat, hr1] <;> rfl))

theorem ok_r50_Open : COk Tryd.prog 16 G_r50_Open := COk.of (mode := .clean) tok ge_r50_Open mixed Tryd.func16 (by kernel_rfl) ⟨by kernel_rfl, by kernel_rfl⟩ (fun _ => Nat.le_of_ble_eq_true (by kernel_rfl)) (fun x r h => m_r50_Open x.1 x.2.1 x.2.2.1 x.2.2.2.1 x.2.2.2.2.1 x.2.2.2.2.2 r h)
end Go.Proofs.YtdecgihkgpgejaaDoor.Am
